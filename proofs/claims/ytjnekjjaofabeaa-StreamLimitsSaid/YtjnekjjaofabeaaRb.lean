/-
  StreamLimits: however the limit grows, a sending end keeps to it, and sends all that it may: the call returns true and its arguments read as they did, for every input (no condition).
-/
import Derived.Test.YtjnekjjaofabeaaOq
import Derived.Test.YtjnekjjaofabeaaTb
import Derived.Test.YtjnekjjaofabeaaT
import Derived.Test.YtjnekjjaofabeaaRows
namespace Go.Proofs.Ytjnekjjaofabeaa
open Go.ChangeShapes Go.ChangeMaps Go.WideShapes Go.ChangeAt Go.RowKit Go.Rh

set_option maxRecDepth 100000 in
theorem streamLimits_lifted (os : Os) (started : os.Started) (H : Type) (enc : TypeId × Value → H) :
    ReturnsInHanded {} Try.checked os 4 .any (Rows.streamLimitsSpec.pre6 enc Try.prog Try.f4 Rows.streamLimitsRow.domain false) (Rows.streamLimitsSpec.post enc Try.prog Try.f4 false true false false) := by
  refine returnsInHanded_of_change (C := Try.checked) Try.own started (by kernel_rfl) Try.func4
    (ChangeSpec.witness6 (enc := enc) (C := Try.checked) false ⟨#[], #[.int .i64 0, .slice none 0 0, .int .i64 0], []⟩ 8 (by kernel_rfl) (by kernel_rfl) (by kernel_rfl) (by kernel_rfl)) ?_
  intro W base args ds gs before hval0 hW hcnd _
  have hval : ∀ (j : Nat) t v, Try.f4.params[j]? = some t → args[j]? = some v → Value.okWide Try.prog W .any base t v := hval0
  have hW' := hW
  obtain ⟨p, q, hA0, hV, rfl, hfz, hnd⟩ := hW
  have hA : DataW.TrodAll enc Try.prog W 0 (fun _ => true) true Try.f4.params.toList args.toList ds p := hA0
  rw [Try.params4] at hA hval
  obtain ⟨v0, v1, v2, d0, d1, d2, p0, p1, p2, rfl, rfl, hp, h0, h1, h2⟩ := trodAll_three hA
  obtain ⟨rfl, rfl⟩ := trodVars_none hV
  obtain ⟨k0, rfl, rfl, _, hwk0⟩ := open_int Try.underlying3 (hval 0 3 v0 rfl rfl) h0
  obtain ⟨A1, n1, c1, X1, rfl, hn1, hB1⟩ := open_ints (hval 1 39 v1 rfl rfl) h1
  obtain ⟨k2, rfl, rfl, _, hwk2⟩ := open_int Try.underlying3 (hval 2 3 v2 rfl rfl) h2
  clear hA0 hval0 hval
  simp only [List.append_nil] at hW'
  have main : Calls Try.prog 4 #[.int .i64 k0, .slice A1 n1 c1, .int .i64 k2] W fun e w' => e = .returned (.bool true) ∧ Below W.heap.size W w' := by
    exact limits_any hB1 (by have h : maxLen = 9223372036854775807 := rfl; omega) k0 k2
  refine main.mono fun e W' ⟨he, hw⟩ => ?_
  subst he
  exact ⟨_, rfl, post_of_below (pa := p) (pv := []) hW' (fun _ _ _ => trodAll_mk1 (shut_bool Try.underlying4 true)) (fun sp hsp => args_behind hw (by kernel_rfl) hA hsp) (fun _ _ => rfl) (by simp)
    hw (ok_one (by kernel_rfl) rfl (okWide_bool_mk Try.underlying4 true))⟩

theorem streamLimits_holds : Rows.StreamLimitsSaid :=
  OpenClaim.holds_of_wide 4 Try.f4 rfl rfl rfl rfl rfl rfl rfl ⟨rfl, rfl, rfl, rfl, rfl⟩ rfl rfl rfl rfl rfl (by kernel_rfl) Try.func4 (by kernel_rfl)
    (of_decide_eq_true (by kernel_rfl)) (by unfold Func.isWrapper; first | (rw [if_pos (by decide +kernel)]; kernel_rfl) | (rw [if_neg (by decide +kernel)]; exact ⟨rfl, rfl⟩))
    (fun os started H enc _ => streamLimits_lifted os started H enc)
#print axioms streamLimits_holds
end Go.Proofs.Ytjnekjjaofabeaa
