/-
  HkdfExpand: the row: the call returns true and its arguments read as they did, for every input (where the tables read as the program's text lays them).
-/
import Derived.Test.YtmifegjmmlipbaaDoorDd
import Derived.Test.YtmifegjmmlipbaaDoorYc
import Derived.Test.YtmifegjmmlipbaaDoorTb
import Derived.Test.YtmifegjmmlipbaaDoorTie
import Derived.Test.YtmifegjmmlipbaaDoorCards
import Derived.LaidLaws
import Derived.LaidHandle
import Derived.SizedLaws
import Derived.SevenTiedAt
import Derived.ChangeMaps5
namespace Go.Proofs.YtmifegjmmlipbaaDoor
open Go.ChangeShapes Go.ChangeMaps Go.WideShapes Go.ChangeAt Go.RowKit Go.Rh Sha

set_option maxRecDepth 100000 in
theorem hkdfExpand_lifted (os : Os) (started : os.Started) (H : Type) (enc : TypeId × Value → H) :
    ReturnsInHanded {} Tryd.checked os 11 .any (fun w args => (Rows.hkdfExpandSpec.pre enc Tryd.prog Tryd.f11 [] false w args ∧ laidMetH Tryd.prog tabs w) ∧ sizedMet enc Tryd.prog Tryd.f11 (OpenSpec.ofChange Rows.hkdfExpandSpec) false w args)
      (Rows.hkdfExpandSpec.post enc Tryd.prog Tryd.f11 false true false false) := by
  refine returnsInHanded_of_change_and (C := Tryd.checked) (X := fun w _ => laidMetH Tryd.prog tabs w) (fun _ _ _ hh h => h.of_heap hh) Tryd.own started (by kernel_rfl) Tryd.func11
    (ChangeSpec.witness_at (enc := enc) (C := Tryd.checked) (os := os) (X := fun w _ => laidMetH Tryd.prog tabs w) false (laidWorld os) #[.slice none 0 0, .slice none 0 0, .int .i64 0] 8 rfl (by kernel_rfl) (by kernel_rfl) (by kernel_rfl) (by kernel_rfl) (by kernel_rfl) (laidWorld_met os _)) ?_
  intro W base args ds gs before hval0 hW _ hsz hL _
  have hval : ∀ (j : Nat) t v, Tryd.f11.params[j]? = some t → args[j]? = some v → Value.okWide Tryd.prog W .any base t v := hval0
  have hW' := hW
  obtain ⟨p, q, hA0, hV, rfl, hfz, hnd⟩ := hW
  have hA : DataW.TrodAll enc Tryd.prog W 0 (fun _ => true) true Tryd.f11.params.toList args.toList ds p := hA0
  rw [Tryd.params11] at hA hval
  obtain ⟨v0, v1, v2, d0, d1, d2, p0, p1, p2, rfl, rfl, rfl, h0, h1, h2⟩ := trodAll_three hA
  obtain ⟨rfl, rfl⟩ := trodVars_none hV
  obtain ⟨l0, hB0, hshut0, hlen0⟩ := open_bs (hval 0 22 v0 rfl rfl) h0
  obtain ⟨l1, hB1, hshut1, hlen1⟩ := open_bs (hval 1 22 v1 rfl rfl) h1
  obtain ⟨k2, rfl, rfl, rfl, hwk2⟩ := open_int Tryd.underlying3 (hval 2 3 v2 rfl rfl) h2
  have hlaid : Laid W := laid_of hL
  have hl0 : l0.length ≤ 140737488355328 := by
    rcases hlen0 with rfl | ⟨e, s, rfl, hle⟩
    · simp
    · have := sized_slice (j := 0) (t := 22) hsz rfl rfl Tryd.underlying22
      have hr := reachBytes_lt
      have hb5 := bytesOf5
      change Tryd.checked.prog.bytesOf 5 = 1 at hb5
      rw [hb5] at this
      omega
  have hl1 : l1.length ≤ 140737488355328 := by
    rcases hlen1 with rfl | ⟨e, s, rfl, hle⟩
    · simp
    · have := sized_slice (j := 1) (t := 22) hsz rfl rfl Tryd.underlying22
      have hr := reachBytes_lt
      have hb5 := bytesOf5
      change Tryd.checked.prog.bytesOf 5 = 1 at hb5
      rw [hb5] at this
      omega
  clear hA0 hval0 hval hsz
  simp only [List.append_nil] at hW'
  have main : Calls Tryd.prog 11 #[v0, v1, .int .i64 k2] W fun e w' => e = .returned (.bool true) ∧ Below W.heap.size W w' := by
    by_cases h5 : l0.length ≤ 3000
    · by_cases h6 : l1.length ≤ 300
      · exact hkdfExpand_small hlaid hB0 hB1 h5 h6
      · exact hkdfExpand_big2 hlaid hB0 hB1 h5 (by omega) hl1
    · exact hkdfExpand_big hlaid hB0 hB1 (by omega) hl0
  refine main.mono fun e W' ⟨he, hw⟩ => ?_
  subst he
  exact ⟨_, rfl, post_of_below (pa := p0 ++ (p1 ++ [])) (pv := []) hW' (fun _ _ _ => trodAll_mk1 (shut_bool Tryd.underlying4 true)) (fun sp hsp => trodAll_mk3 (hshut0 W' hw sp (fun q hq => hsp q (by simp [hq]))) (hshut1 W' hw sp (fun q hq => hsp q (by simp [hq]))) (shut_int Tryd.underlying3 hwk2)) (fun _ _ => rfl) (by simp)
    hw (ok_one (by kernel_rfl) rfl (okWide_bool_mk Tryd.underlying4 true))⟩

theorem hkdfExpand_holds : Rows.HkdfExpandSaid :=
  OpenClaim.holds_of_wide 11 Tryd.f11 rfl rfl rfl rfl rfl rfl rfl ⟨rfl, rfl, rfl, rfl, rfl⟩ rfl rfl rfl rfl rfl (by kernel_rfl) Tryd.func11 (by kernel_rfl)
    (of_decide_eq_true (by kernel_rfl)) (by unfold Func.isWrapper; first | (rw [if_pos (by decide +kernel)]; kernel_rfl) | (rw [if_neg (by decide +kernel)]; exact ⟨rfl, rfl⟩))
    (fun os started H enc _ => hkdfExpand_lifted os started H enc)

theorem hkdfExpand_card : Rows.HkdfExpandCardSaid :=
  Claim7.holds_tied_plain_at .later [] [.data, .data] true (true, "37fdd4149c4c2646a4dea7ed8d03bf4217da07770098996d8b24c9ac498d95ec") false
    hkdfExpand_holds (fun _ h => by cases h) (by kernel_rfl) (fun _ h => by cases h) hkdfExpand_row_tie rfl ⟨rfl, rfl⟩ (by kernel_rfl) rfl
    (fun f fn hf hfn => by
      obtain rfl : f = 11 := Option.some.inj ((show Tryd.prog.funcNamed "rhyne/rhynelaw02.HkdfExpand" = some 11 by kernel_rfl).symm.trans hf) |>.symm
      obtain rfl : fn = Tryd.f11 := (Option.some.inj (Tryd.func11.symm.trans hfn)).symm
      exact ⟨by kernel_rfl, fun j t ht => by
        rw [Tryd.params11] at ht
        have h3 : t = 22 ∨ t = 22 ∨ t = 3 := by
          rcases j with _ | _ | _ | j
          · exact (.inl (by simpa using ht.symm))
          · exact (.inr (.inl (by simpa using ht.symm)))
          · exact (.inr (.inr (by simpa using ht.symm)))
          · simp at ht
        rcases h3 with rfl | rfl | rfl
        · exact (show Tryd.prog.wantsStandIn 22 = false by kernel_rfl)
        · exact (show Tryd.prog.wantsStandIn 22 = false by kernel_rfl)
        · exact (show Tryd.prog.wantsStandIn 3 = false by kernel_rfl)⟩)
    (by kernel_rfl)
#print axioms hkdfExpand_card
end Go.Proofs.YtmifegjmmlipbaaDoor
