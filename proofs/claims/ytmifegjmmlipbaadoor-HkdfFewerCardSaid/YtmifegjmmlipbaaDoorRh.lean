/-
  HkdfFewer: the row: the call returns true and its arguments read as they did, for every input (where the tables read as the program's text lays them).
-/
import Derived.Test.YtmifegjmmlipbaaDoorDi
import Derived.Test.YtmifegjmmlipbaaDoorYe
import Derived.Test.YtmifegjmmlipbaaDoorYc
import Derived.Test.YtmifegjmmlipbaaDoorTb
import Derived.Test.YtmifegjmmlipbaaDoorTie
import Derived.Test.YtmifegjmmlipbaaDoorCards
import Derived.LaidLaws
import Derived.LaidHandle
import Derived.SizedLaws
import Derived.SevenTiedAt
import Derived.ChangeMaps5
namespace Go.Proofs.YtmifegjmmlipbaaDoor
open Go.ChangeShapes Go.WideShapes Go.ChangeAt Go.RowKit Go.Rh Sha

set_option maxRecDepth 100000 in
theorem hkdfFewer_lifted (os : Os) (started : os.Started) (H : Type) (enc : TypeId × Value → H) :
    ReturnsInHanded {} Tryd.checked os 9 .any (fun w args => (Rows.hkdfFewerSpec.pre enc Tryd.prog Tryd.f9 [] false w args ∧ laidMetH Tryd.prog tabs w) ∧ sizedMet enc Tryd.prog Tryd.f9 (OpenSpec.ofChange Rows.hkdfFewerSpec) false w args)
      (Rows.hkdfFewerSpec.post enc Tryd.prog Tryd.f9 false true false false) := by
  refine returnsInHanded_of_change_and (C := Tryd.checked) (X := fun w _ => laidMetH Tryd.prog tabs w) (fun _ _ _ hh h => h.of_heap hh) Tryd.own started (by kernel_rfl) Tryd.func9
    (ChangeSpec.witness_at (enc := enc) (C := Tryd.checked) (os := os) (X := fun w _ => laidMetH Tryd.prog tabs w) false (laidWorld os) #[.agg #[.slice none 0 0, .slice none 0 0, .int .i64 0, .int .i64 0]] 8 rfl (by kernel_rfl) (by kernel_rfl) (by kernel_rfl) (by kernel_rfl) (by kernel_rfl) (laidWorld_met os _)) ?_
  intro W base args ds gs before hval0 hW _ hsz hL _
  have hval : ∀ (j : Nat) t v, Tryd.f9.params[j]? = some t → args[j]? = some v → Value.okWide Tryd.prog W .any base t v := hval0
  have hW' := hW
  obtain ⟨p, q, hA0, hV, rfl, hfz, hnd⟩ := hW
  have hA : DataW.TrodAll enc Tryd.prog W 0 (fun _ => true) true Tryd.f9.params.toList args.toList ds p := hA0
  rw [Tryd.params9] at hA hval
  obtain ⟨v0, d0, rfl, rfl, h0⟩ := trodAll_one hA
  obtain ⟨rfl, rfl⟩ := trodVars_none hV
  obtain ⟨x0, x1, l0, l1, k0, k1, rfl, hB0, hB1, hm0, hm1⟩ := open_fewer (hval 0 43 v0 rfl rfl) h0
  have hlaid : Laid W := laid_of hL
  clear hA0 hval0 hval hsz
  simp only [List.append_nil] at hW'
  have main : Calls Tryd.prog 9 #[.agg #[x0, x1, .int .i64 k0, .int .i64 k1]] W fun e w' => e = .returned (.bool true) ∧ Below W.heap.size W w' := by
    by_cases h5 : l0.length ≤ 3000
    · by_cases h6 : l1.length ≤ 300
      · exact hkdfFewer_small hlaid hB0 hB1 h5 h6
      · exact hkdfFewer_big2 hlaid hB0 hB1 h5 (by omega)
    · exact hkdfFewer_big1 hlaid hB0 hB1 (by omega)
  refine main.mono fun e W' ⟨he, hw⟩ => ?_
  subst he
  exact ⟨_, rfl, post_of_below (pa := p) (pv := []) hW' (fun _ _ _ => trodAll_mk1 (shut_bool Tryd.underlying4 true)) (fun sp hsp => args_behind hw (by kernel_rfl) hA hsp) (fun _ _ => rfl) (by simp)
    hw (ok_one (by kernel_rfl) rfl (okWide_bool_mk Tryd.underlying4 true))⟩

theorem hkdfFewer_holds : Rows.HkdfFewerSaid :=
  OpenClaim.holds_of_wide 9 Tryd.f9 rfl rfl rfl rfl rfl rfl rfl ⟨rfl, rfl, rfl, rfl, rfl⟩ rfl rfl rfl rfl rfl (by kernel_rfl) Tryd.func9 (by kernel_rfl)
    (of_decide_eq_true (by kernel_rfl)) (by unfold Func.isWrapper; first | (rw [if_pos (by decide +kernel)]; kernel_rfl) | (rw [if_neg (by decide +kernel)]; exact ⟨rfl, rfl⟩))
    (fun os started H enc _ => hkdfFewer_lifted os started H enc)

theorem hkdfFewer_card : Rows.HkdfFewerCardSaid :=
  Claim7.holds_tied_plain_at .later [] [.data, .data] true (true, "37fdd4149c4c2646a4dea7ed8d03bf4217da07770098996d8b24c9ac498d95ec") false
    hkdfFewer_holds (fun _ h => by cases h) (by kernel_rfl) (fun _ h => by cases h) hkdfFewer_row_tie rfl ⟨rfl, rfl⟩ (by kernel_rfl) rfl
    (fun f fn hf hfn => by
      obtain rfl : f = 9 := Option.some.inj ((show Tryd.prog.funcNamed "rhyne/rhynelaw02.HkdfFewer" = some 9 by kernel_rfl).symm.trans hf) |>.symm
      obtain rfl : fn = Tryd.f9 := (Option.some.inj (Tryd.func9.symm.trans hfn)).symm
      exact ⟨by kernel_rfl, fun j t ht => by
        rw [Tryd.params9] at ht
        have h3 : t = 43 := by
          rcases j with _ | j
          · exact (by simpa using ht.symm)
          · simp at ht
        subst h3
        exact (show Tryd.prog.wantsStandIn 43 = false by kernel_rfl)⟩)
    (by kernel_rfl)
#print axioms hkdfFewer_card
end Go.Proofs.YtmifegjmmlipbaaDoor
