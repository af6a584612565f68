/-
  ShaSum: the row: the call returns true and its argument reads as it did, for every input (where the tables read as the program's text lays them).
-/
import Derived.Test.YtmifegjmmlipbaaDoorYb
import Derived.Test.YtmifegjmmlipbaaDoorTb
import Derived.Test.YtmifegjmmlipbaaDoorTie
import Derived.Test.YtmifegjmmlipbaaDoorCards
import Derived.LaidLaws
import Derived.LaidHandle
import Derived.SizedLaws
import Derived.SevenTiedAt
namespace Go.Proofs.YtmifegjmmlipbaaDoor
open Go.ChangeShapes Go.WideShapes Go.ChangeAt Go.RowKit Go.Rh Sha

abbrev tabs : List (String × DataW Unit) := [("rhyne/sha.first", Rows.laid_rhyne_sha_first), ("rhyne/sha.round", Rows.laid_rhyne_sha_round)]
/-- A world that meets the condition. -/
noncomputable def laidWorld (os : Os) : World :=
  let w0 := World.holding Tryd.prog os ⟨#[], #[], []⟩
  { w0 with heap := (w0.heap.modify 0 fun
      | .cells _ t frozen => .cells (U32 8 IV) t frozen
      | o => o).modify 1 fun
      | .cells _ t frozen => .cells (U32 64 K) t frozen
      | o => o }
theorem laidWorld_met (os : Os) (args : Array Value) : laidMetH Tryd.prog tabs ((laidWorld os).forCall (fun _ _ => 0) ⟨#[], args, []⟩).memory :=
  laidMetH_of_parts (laidMet_of_run' 8 (by kernel_rfl) (by kernel_rfl)) (by kernel_rfl)

set_option maxRecDepth 100000 in
theorem shaSum_lifted (os : Os) (started : os.Started) (H : Type) (enc : TypeId × Value → H) :
    ReturnsInHanded {} Tryd.checked os 3 .any (fun w args => (Rows.shaSumSpec.pre enc Tryd.prog Tryd.f3 [] false w args ∧ laidMetH Tryd.prog tabs w) ∧ sizedMet enc Tryd.prog Tryd.f3 (OpenSpec.ofChange Rows.shaSumSpec) false w args)
      (Rows.shaSumSpec.post enc Tryd.prog Tryd.f3 false true false false) := by
  refine returnsInHanded_of_change_and (C := Tryd.checked) (X := fun w _ => laidMetH Tryd.prog tabs w) (fun _ _ _ hh h => h.of_heap hh) Tryd.own started (by kernel_rfl) Tryd.func3
    (ChangeSpec.witness_at (enc := enc) (C := Tryd.checked) (os := os) (X := fun w _ => laidMetH Tryd.prog tabs w) false (laidWorld os) #[.slice none 0 0] 8 rfl (by kernel_rfl) (by kernel_rfl) (by kernel_rfl) (by kernel_rfl) (by kernel_rfl) (laidWorld_met os _)) ?_
  intro W base args ds gs before hval0 hW _ hsz hL _
  have hval : ∀ (j : Nat) t v, Tryd.f3.params[j]? = some t → args[j]? = some v → Value.okWide Tryd.prog W .any base t v := hval0
  have hW' := hW
  obtain ⟨p, q, hA0, hV, rfl, hfz, hnd⟩ := hW
  have hA : DataW.TrodAll enc Tryd.prog W 0 (fun _ => true) true Tryd.f3.params.toList args.toList ds p := hA0
  rw [Tryd.params3] at hA hval
  obtain ⟨v0, d0, rfl, rfl, h0⟩ := trodAll_one hA
  obtain ⟨rfl, rfl⟩ := trodVars_none hV
  obtain ⟨l, hB, hshut, hlen⟩ := open_bs (hval 0 22 v0 rfl rfl) h0
  have hlaid : Laid W := laid_of hL
  have hl47 : l.length ≤ 140737488355328 := by
    rcases hlen with rfl | ⟨e, s, rfl, hle⟩
    · simp
    · have := sized_slice (j := 0) (t := 22) hsz rfl rfl Tryd.underlying22
      have hr := reachBytes_lt
      have hb5 := bytesOf5
      change Tryd.checked.prog.bytesOf 5 = 1 at hb5
      rw [hb5] at this
      omega
  clear hA0 hval0 hval hsz
  simp only [List.append_nil] at hW'
  have main : Calls Tryd.prog 3 #[v0] W fun e w' => e = .returned (.bool true) ∧ Below W.heap.size W w' := by
    by_cases h5 : l.length ≤ 5000
    · exact shaSum_small hlaid hB h5
    · exact shaSum_big hlaid hB (by omega) hl47
  refine main.mono fun e W' ⟨he, hw⟩ => ?_
  subst he
  exact ⟨_, rfl, post_of_below (pa := p) (pv := []) hW' (fun _ _ _ => trodAll_mk1 (shut_bool Tryd.underlying4 true)) (fun sp hsp => trodAll_mk1 (hshut W' hw sp hsp)) (fun _ _ => rfl) (by simp)
    hw (ok_one (by kernel_rfl) rfl (okWide_bool_mk Tryd.underlying4 true))⟩

theorem shaSum_holds : Rows.ShaSumSaid :=
  OpenClaim.holds_of_wide 3 Tryd.f3 rfl rfl rfl rfl rfl rfl rfl ⟨rfl, rfl, rfl, rfl, rfl⟩ rfl rfl rfl rfl rfl (by kernel_rfl) Tryd.func3 (by kernel_rfl)
    (of_decide_eq_true (by kernel_rfl)) (by unfold Func.isWrapper; first | (rw [if_pos (by decide +kernel)]; kernel_rfl) | (rw [if_neg (by decide +kernel)]; exact ⟨rfl, rfl⟩))
    (fun os started H enc _ => shaSum_lifted os started H enc)

theorem shaSum_card : Rows.ShaSumCardSaid :=
  Claim7.holds_tied_plain_at .later [] [.data, .data] true (true, "37fdd4149c4c2646a4dea7ed8d03bf4217da07770098996d8b24c9ac498d95ec") false
    shaSum_holds (fun _ h => by cases h) (by kernel_rfl) (fun _ h => by cases h) shaSum_row_tie rfl ⟨rfl, rfl⟩ (by kernel_rfl) rfl
    (fun f fn hf hfn => by
      obtain rfl : f = 3 := Option.some.inj ((show Tryd.prog.funcNamed "rhyne/rhynelaw01.ShaSum" = some 3 by kernel_rfl).symm.trans hf) |>.symm
      obtain rfl : fn = Tryd.f3 := (Option.some.inj (Tryd.func3.symm.trans hfn)).symm
      exact ⟨by kernel_rfl, fun j t ht => by
        rw [Tryd.params3] at ht
        have h3 : t = 22 := by
          rcases j with _ | j
          · simpa using ht.symm
          · simp at ht
        subst h3
        exact (show Tryd.prog.wantsStandIn 22 = false by kernel_rfl)⟩)
    (by kernel_rfl)
#print axioms shaSum_card
end Go.Proofs.YtmifegjmmlipbaaDoor
