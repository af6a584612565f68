/-
  GuardKeys: the row: the call returns true and its arguments read as they did, for every input (where the tables read as the program's text lays them).
-/
import Derived.Test.YtmifegjmmlipbaaDoorEf
import Derived.Test.YtmifegjmmlipbaaDoorYc
import Derived.Test.YtmifegjmmlipbaaDoorTb
import Derived.Test.YtmifegjmmlipbaaDoorTie
import Derived.Test.YtmifegjmmlipbaaDoorCards
import Derived.LaidLaws
import Derived.LaidHandle
import Derived.SizedLaws
import Derived.SevenTiedAt
import Derived.ChangeMaps5
namespace Go.Proofs.YtmifegjmmlipbaaDoor
open Go.ChangeShapes Go.ChangeMaps Go.WideShapes Go.ChangeAt Go.RowKit Go.Rh Sha

set_option maxRecDepth 100000 in
theorem guardKeys_lifted (os : Os) (started : os.Started) (H : Type) (enc : TypeId × Value → H) :
    ReturnsInHanded {} Tryd.checked os 14 .any (fun w args => (Rows.guardKeysSpec.pre enc Tryd.prog Tryd.f14 [] false w args ∧ laidMetH Tryd.prog tabs w) ∧ sizedMet enc Tryd.prog Tryd.f14 (OpenSpec.ofChange Rows.guardKeysSpec) false w args)
      (Rows.guardKeysSpec.post enc Tryd.prog Tryd.f14 false true false false) := by
  refine returnsInHanded_of_change_and (C := Tryd.checked) (X := fun w _ => laidMetH Tryd.prog tabs w) (fun _ _ _ hh h => h.of_heap hh) Tryd.own started (by kernel_rfl) Tryd.func14
    (ChangeSpec.witness_at (enc := enc) (C := Tryd.checked) (os := os) (X := fun w _ => laidMetH Tryd.prog tabs w) false (laidWorld os) #[.string ⟨#[]⟩, .string ⟨#[]⟩] 8 rfl (by kernel_rfl) (by kernel_rfl) (by kernel_rfl) (by kernel_rfl) (by kernel_rfl) (laidWorld_met os _)) ?_
  intro W base args ds gs before hval0 hW _ hsz hL _
  have hval : ∀ (j : Nat) t v, Tryd.f14.params[j]? = some t → args[j]? = some v → Value.okWide Tryd.prog W .any base t v := hval0
  have hW' := hW
  obtain ⟨p, q, hA0, hV, rfl, hfz, hnd⟩ := hW
  have hA : DataW.TrodAll enc Tryd.prog W 0 (fun _ => true) true Tryd.f14.params.toList args.toList ds p := hA0
  rw [Tryd.params14] at hA hval
  obtain ⟨v0, v1, d0, d1, p0, p1, rfl, rfl, rfl, h0, h1⟩ := trodAll_two hA
  obtain ⟨rfl, rfl⟩ := trodVars_none hV
  obtain ⟨s0, rfl, rfl, rfl, hws0⟩ := open_string Tryd.underlying9 (hval 0 9 v0 rfl rfl) h0
  obtain ⟨l0, rfl⟩ : ∃ l, s0 = S8 l := ⟨_, S8_of_data⟩
  obtain ⟨s1, rfl, rfl, rfl, hws1⟩ := open_string Tryd.underlying9 (hval 1 9 v1 rfl rfl) h1
  obtain ⟨l1, rfl⟩ : ∃ l, s1 = S8 l := ⟨_, S8_of_data⟩
  have hlaid : Laid W := laid_of hL
  have hl0 : l0.length ≤ 140737488355328 := by
    have h1 := sized_string (j := 0) (t := 9) hsz rfl rfl
    have hr := reachBytes_lt
    have h2 : (S8 l0).data.toList.length = l0.length := by simp [S8]
    omega
  have hl1 : l1.length ≤ 140737488355328 := by
    have h1 := sized_string (j := 1) (t := 9) hsz rfl rfl
    have hr := reachBytes_lt
    have h2 : (S8 l1).data.toList.length = l1.length := by simp [S8]
    omega
  clear hA0 hval0 hval hsz
  simp only [List.append_nil] at hW'
  have main : Calls Tryd.prog 14 #[.string (S8 l0), .string (S8 l1)] W fun e w' => e = .returned (.bool true) ∧ Below W.heap.size W w' := by
    by_cases h5 : l0.length ≤ 2000
    · by_cases h6 : l1.length ≤ 2000
      · exact guardKeys_small hlaid h5 h6
      · exact guardKeys_big2 hlaid h5 (by omega) hl1
    · exact guardKeys_big1 hlaid (by omega) hl0
  refine main.mono fun e W' ⟨he, hw⟩ => ?_
  subst he
  exact ⟨_, rfl, post_of_below (pa := [] ++ []) (pv := []) hW' (fun _ _ _ => trodAll_mk1 (shut_bool Tryd.underlying4 true)) (fun sp hsp => trodAll_mk2 (shut_string Tryd.underlying9 hws0) (shut_string Tryd.underlying9 hws1)) (fun _ _ => rfl) (by simp)
    hw (ok_one (by kernel_rfl) rfl (okWide_bool_mk Tryd.underlying4 true))⟩

theorem guardKeys_holds : Rows.GuardKeysSaid :=
  OpenClaim.holds_of_wide 14 Tryd.f14 rfl rfl rfl rfl rfl rfl rfl ⟨rfl, rfl, rfl, rfl, rfl⟩ rfl rfl rfl rfl rfl (by kernel_rfl) Tryd.func14 (by kernel_rfl)
    (of_decide_eq_true (by kernel_rfl)) (by unfold Func.isWrapper; first | (rw [if_pos (by decide +kernel)]; kernel_rfl) | (rw [if_neg (by decide +kernel)]; exact ⟨rfl, rfl⟩))
    (fun os started H enc _ => guardKeys_lifted os started H enc)

theorem guardKeys_card : Rows.GuardKeysCardSaid :=
  Claim7.holds_tied_plain_at .later [] [.data, .data] true (true, "37fdd4149c4c2646a4dea7ed8d03bf4217da07770098996d8b24c9ac498d95ec") false
    guardKeys_holds (fun _ h => by cases h) (by kernel_rfl) (fun _ h => by cases h) guardKeys_row_tie rfl ⟨rfl, rfl⟩ (by kernel_rfl) rfl
    (fun f fn hf hfn => by
      obtain rfl : f = 14 := Option.some.inj ((show Tryd.prog.funcNamed "rhyne/rhynelaw10.GuardKeys" = some 14 by kernel_rfl).symm.trans hf) |>.symm
      obtain rfl : fn = Tryd.f14 := (Option.some.inj (Tryd.func14.symm.trans hfn)).symm
      exact ⟨by kernel_rfl, fun j t ht => by
        rw [Tryd.params14] at ht
        have h3 : t = 9 ∨ t = 9 := by
          rcases j with _ | _ | j
          · exact (.inl (by simpa using ht.symm))
          · exact (.inr (by simpa using ht.symm))
          · simp at ht
        rcases h3 with rfl | rfl
        · exact (show Tryd.prog.wantsStandIn 9 = false by kernel_rfl)
        · exact (show Tryd.prog.wantsStandIn 9 = false by kernel_rfl)⟩)
    (by kernel_rfl)
#print axioms guardKeys_card
end Go.Proofs.YtmifegjmmlipbaaDoor
