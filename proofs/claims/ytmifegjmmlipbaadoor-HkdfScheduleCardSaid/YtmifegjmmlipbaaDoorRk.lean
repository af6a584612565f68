/-
  HkdfSchedule: the row: the call returns true and its arguments read as they did, for every input (where the tables read as the program's text lays them).
-/
import Derived.Test.YtmifegjmmlipbaaDoorFe
import Derived.Test.YtmifegjmmlipbaaDoorYc
import Derived.Test.YtmifegjmmlipbaaDoorTb
import Derived.Test.YtmifegjmmlipbaaDoorTie
import Derived.Test.YtmifegjmmlipbaaDoorCards
import Derived.LaidLaws
import Derived.LaidHandle
import Derived.SizedLaws
import Derived.SevenTiedAt
import Derived.ChangeMaps5
namespace Go.Proofs.YtmifegjmmlipbaaDoor
open Go.ChangeShapes Go.ChangeMaps Go.WideShapes Go.ChangeAt Go.RowKit Go.Rh Sha

set_option maxRecDepth 100000 in
theorem hkdfSchedule_lifted (os : Os) (started : os.Started) (H : Type) (enc : TypeId × Value → H) :
    ReturnsInHanded {} Tryd.checked os 13 .any (fun w args => (Rows.hkdfScheduleSpec.pre enc Tryd.prog Tryd.f13 [] false w args ∧ laidMetH Tryd.prog tabs w) ∧ sizedMet enc Tryd.prog Tryd.f13 (OpenSpec.ofChange Rows.hkdfScheduleSpec) false w args)
      (Rows.hkdfScheduleSpec.post enc Tryd.prog Tryd.f13 false true false false) := by
  refine returnsInHanded_of_change_and (C := Tryd.checked) (X := fun w _ => laidMetH Tryd.prog tabs w) (fun _ _ _ hh h => h.of_heap hh) Tryd.own started (by kernel_rfl) Tryd.func13
    (ChangeSpec.witness_at (enc := enc) (C := Tryd.checked) (os := os) (X := fun w _ => laidMetH Tryd.prog tabs w) false (laidWorld os) #[.slice none 0 0] 8 rfl (by kernel_rfl) (by kernel_rfl) (by kernel_rfl) (by kernel_rfl) (by kernel_rfl) (laidWorld_met os _)) ?_
  intro W base args ds gs before hval0 hW _ hsz hL _
  have hval : ∀ (j : Nat) t v, Tryd.f13.params[j]? = some t → args[j]? = some v → Value.okWide Tryd.prog W .any base t v := hval0
  have hW' := hW
  obtain ⟨p, q, hA0, hV, rfl, hfz, hnd⟩ := hW
  have hA : DataW.TrodAll enc Tryd.prog W 0 (fun _ => true) true Tryd.f13.params.toList args.toList ds p := hA0
  rw [Tryd.params13] at hA hval
  obtain ⟨v0, d0, rfl, rfl, h0⟩ := trodAll_one hA
  obtain ⟨rfl, rfl⟩ := trodVars_none hV
  obtain ⟨A0, n0, c0, X0, M0, S0, L0, rfl, hn0, hB0⟩ := open_uses (hval 0 54 v0 rfl rfl) h0
  have hlaid : Laid W := laid_of hL
  clear hA0 hval0 hval hsz
  simp only [List.append_nil] at hW'
  have main : Calls Tryd.prog 13 #[.slice A0 n0 c0] W fun e w' => e = .returned (.bool true) ∧ Below W.heap.size W w' := by
    exact hkdfSchedule_any hlaid hB0 (by have h : maxLen = 9223372036854775807 := rfl; omega)
  refine main.mono fun e W' ⟨he, hw⟩ => ?_
  subst he
  exact ⟨_, rfl, post_of_below (pa := p) (pv := []) hW' (fun _ _ _ => trodAll_mk1 (shut_bool Tryd.underlying4 true)) (fun sp hsp => args_behind hw (by kernel_rfl) hA hsp) (fun _ _ => rfl) (by simp)
    hw (ok_one (by kernel_rfl) rfl (okWide_bool_mk Tryd.underlying4 true))⟩

theorem hkdfSchedule_holds : Rows.HkdfScheduleSaid :=
  OpenClaim.holds_of_wide 13 Tryd.f13 rfl rfl rfl rfl rfl rfl rfl ⟨rfl, rfl, rfl, rfl, rfl⟩ rfl rfl rfl rfl rfl (by kernel_rfl) Tryd.func13 (by kernel_rfl)
    (of_decide_eq_true (by kernel_rfl)) (by unfold Func.isWrapper; first | (rw [if_pos (by decide +kernel)]; kernel_rfl) | (rw [if_neg (by decide +kernel)]; exact ⟨rfl, rfl⟩))
    (fun os started H enc _ => hkdfSchedule_lifted os started H enc)

theorem hkdfSchedule_card : Rows.HkdfScheduleCardSaid :=
  Claim7.holds_tied_plain_at .later [] [.data, .data] true (true, "37fdd4149c4c2646a4dea7ed8d03bf4217da07770098996d8b24c9ac498d95ec") false
    hkdfSchedule_holds (fun _ h => by cases h) (by kernel_rfl) (fun _ h => by cases h) hkdfSchedule_row_tie rfl ⟨rfl, rfl⟩ (by kernel_rfl) rfl
    (fun f fn hf hfn => by
      obtain rfl : f = 13 := Option.some.inj ((show Tryd.prog.funcNamed "rhyne/rhynelaw02.HkdfSchedule" = some 13 by kernel_rfl).symm.trans hf) |>.symm
      obtain rfl : fn = Tryd.f13 := (Option.some.inj (Tryd.func13.symm.trans hfn)).symm
      exact ⟨by kernel_rfl, fun j t ht => by
        rw [Tryd.params13] at ht
        have h3 : t = 54 := by
          rcases j with _ | j
          · exact (by simpa using ht.symm)
          · simp at ht
        subst h3
        exact (show Tryd.prog.wantsStandIn 54 = false by kernel_rfl)⟩)
    (by kernel_rfl)
#print axioms hkdfSchedule_card
end Go.Proofs.YtmifegjmmlipbaaDoor
