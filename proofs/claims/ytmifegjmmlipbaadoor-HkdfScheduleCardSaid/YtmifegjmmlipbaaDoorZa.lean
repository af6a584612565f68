/-
  ShaPads.
-/
import Derived.Test.YtmifegjmmlipbaaDoorXg
import Derived.Test.YtmifegjmmlipbaaDoorBc
import Derived.Stop.BytesEq
namespace Go.Proofs.YtmifegjmmlipbaaDoor
open Go.RowKit Go.Rh Sha
theorem B8_cells {l : List UInt8} (h : l.length = 32) : B8 32 l = (l.map Extern.Stop.cell).toArray := by
  apply Array.ext_getElem?
  intro j
  by_cases hj : j < 32
  · have hjl : j < l.length := by omega
    rw [B8, vals_get _ _ hj, List.getElem?_toArray, List.getElem?_map, List.getElem?_eq_getElem hjl, at_get hjl]
    rfl
  · rw [Array.getElem?_eq_none (by simp [B8]; omega), Array.getElem?_eq_none (by simp; omega)]
theorem run_equalIn_sums (x y : List UInt8) (w : World) : (Op.equalIn 10000 24 (.agg (B8 32 (sum x))) (.agg (B8 32 (sum y)))).run Tryd.prog w = .ok (sum x == sum y) w := by
  obtain ⟨i0, hi0, hz0, hz1, hz2⟩ := info_parts info5
  rw [B8_cells (sum_length x), B8_cells (sum_length y)]
  exact run_equalIn_bytes w 9998 24 5 32 Tryd.underlying24 Tryd.underlying5 (size_of5 hi0 hz1) _ _ (sum_length x) (sum_length y)
attribute [local go_sem] run_equalIn_sums

set_option maxRecDepth 100000 in
set_option maxHeartbeats 0 in
theorem shaPads_small {w : World} {ok : Nat → Prop} {v : Value} {l : List UInt8} {k : Int} (hL : Laid w) (hv : Bs ok w v l) (hk : 0 ≤ IntKind.u64.wrap k) (hb : l.length ≤ 2000) : Calls Tryd.prog 4 #[v, .int .i64 k] w fun e w' => e = .returned (.bool true) ∧ Below w.heap.size w w' := by
  have hv0 := hv.mono (ok' := fun k => k < w.heap.size) (fun i hi _ => hi)
  obtain ⟨A, n, c, rfl, hn, hc, hbk⟩ := hv
  have hn5 : (n : Int) ≤ 2000 := by omega
  have HL := Lib.hid hL
  have HV := Lib.hid hv0
  clear hn hc hbk hL hv0
  go_enter Tryd.func4, Tryd.ntmps4
  go_wp2_with fail
  refine (digests_any HL.out).mono ?_
  rintro e w1 ⟨rfl, hb1⟩
  have HB1 := Lib.hid hb1
  have HL1 := Lib.hid (HL.out.below hb1 (Nat.le_refl _))
  have HV1 : Hid (Bs (fun k => k < w.heap.size) w1 (.slice A n c) l) := HV.out.keep (S := fun _ => False) (Keep.of_below hb1 (Nat.le_refl _) _) (fun _ _ => id)
  clear hb1
  obtain ⟨i0, hi0, hz0, hz1, hz2⟩ := info_parts info5
  have hm : (0:Int) ≤ IntKind.u64.wrap k % 130 ∧ IntKind.u64.wrap k % 130 < 130 := by omega
  obtain ⟨N, hN, hN1, hN2⟩ : ∃ N : Nat, 1 + IntKind.u64.wrap k % 130 = (N : Int) ∧ 0 < N ∧ N ≤ 130 := ⟨(1 + IntKind.u64.wrap k % 130).toNat, by omega, by omega, by omega⟩
  obtain ⟨wa, hwa⟩ : ∃ wa, wa = w1.alloc (.cells #[] 5) := ⟨_, rfl⟩
  have HO0 : Hid (Own wa w.heap.size (.slice (some ⟨w1.heap.size, 0, none⟩) 0 0) []) := by
    rw [hwa]; exact Own.of_block (l := []) (heap_alloc_new w1 _) (.inl rfl) HB1.out.size (Nat.le_refl _) (Nat.zero_le _) (fun j hj => absurd hj (Nat.not_lt_zero j))
  have HBa : Hid (Below w.heap.size w wa) := by rw [hwa]; exact HB1.out.alloc HB1.out.size _
  have HVa : Hid (Bs (fun k => k < w.heap.size) wa (.slice A n c) l) := by
    rw [hwa]; exact HV1.out.keep (S := fun _ => False) ((Keep.refl _ _).alloc _) (fun _ _ => id)
  have HWA := Lib.hid hwa
  clear hwa
  go_wp2_with (first
    | (at_builtin; rw [← HWA.out]; refine wpList_append_bytes (o := ⟨some 22, _, _, _, _, _⟩) (by rfl) (.tmp 20) (.tmp 21) 22 (by rfl) i0 Tryd.underlying22 hi0 hz0 hz1 hz2 (by rfl) (by rfl) HO0.out HVa.out (by simp; omega) HBa.out.size ?_; intro v2 w2 own2 keep2 at2; have HO2 := Lib.hid own2; have HK2 := Lib.hid keep2; obtain ⟨A2, n2, c2, hn2, rfl⟩ := own2.form; have HN2 := Lib.hid hn2; clear own2 keep2 hn2)
    | (at_builtin; refine wpList_append_zeros (o := ⟨some 24, _, _, _, _, _⟩) (by rfl) (.tmp 22) (.tmp 23) 22 3 (by rfl) i0 Tryd.underlying22 Tryd.underlying3 hi0 hz0 hz1 hz2 N (by rfl) (by rw [← hN]; rfl) HO2.out hN1 (by simp; omega) (Nat.le_trans HBa.out.size HK2.out.size) ?_; intro v3 w3 own3 keep3 at3; have HO3 := Lib.hid own3; have HK3 := Lib.hid keep3; obtain ⟨A3, n3, c3, hn3, rfl⟩ := own3.form; have HN3 := Lib.hid hn3; clear own3 keep3 hn3))
  have HB2 : Hid (Below w.heap.size w w2) := HBa.out.trans (HK2.out.below HBa.out.size (fun k hk e => by have := (HO0.out.lt k e).1; omega))
  have HB3 : Hid (Below w.heap.size w w3) := HB2.out.trans (HK3.out.below HB2.out.size (fun k hk e => by have := (HO2.out.lt k e).1; omega))
  have HL3 := Lib.hid (HL.out.below HB3.out (Nat.le_refl _))
  have HV3 : Hid (Bs (fun k => k < w.heap.size) w3 (.slice A n c) l) := HV.out.keep (S := fun _ => False) (Keep.of_below HB3.out (Nat.le_refl _) _) (fun _ _ => id)
  have HM3 : Hid (Bs (fun _ => True) w3 (.slice A3 n3 c3) (l ++ List.replicate N 0)) := HO3.out.bs.mono (fun _ _ _ => trivial)
  have hml : (l ++ List.replicate N (0 : UInt8)).length ≤ 70368744177664 := by rw [List.length_append, List.length_replicate]; omega
  obtain ⟨m, hm⟩ : ∃ m, l ++ List.replicate N (0 : UInt8) = m := ⟨_, rfl⟩
  rw [hm] at HM3 hml
  clear hm HO0 HO2 HO3 HN2 HN3 HK2 HK3 HVa HV1 HL1 HB1 HB2 HBa at2 at3 HWA
  refine region_tail_grown 7 37 (by kernel_rfl) (by rfl) (by kernel_rfl) (by kernel_rfl) ?_
  simp only [List.take_succ_cons, List.take_zero, List.drop_succ_cons, List.drop_zero]
  show wpQuiet _ _ _ _ _ ⟨_, _⟩
  go_big_quiet_step (fail)
  refine wq_convert (u := .slice A n c) (by rfl) 22 9 (.tmp 25) (by rfl) (by rfl) (fun w' hw' => run_string_bs Tryd.underlying22 Tryd.underlying5 Tryd.underlying9 (HV3.out.keep (S := fun _ => False) (Keep.of_grown hw' (by simp)) (fun _ _ => id))) ?_
  go_simp
  refine wq_call (vs := #[.string (S8 l)]) (by rfl) (by rfl) (by simp [Act.eval]) Tryd.func17 (by kernel_rfl) (by rfl) (v := .string (S8 (sum l))) (fun w' hw' => ?_) ?_
  · refine (refsum_any l (by omega) w').mono ?_
    rintro e w'' ⟨rfl, hb'⟩
    exact ⟨rfl, grown_trans hw' (grown_below none hb' (Nat.le_refl _))⟩
  go_simp
  go_big_quiet_step (fail)
  refine wq_convert (u := .slice A3 n3 c3) (by rfl) 22 9 (.tmp 28) (by rfl) (by rfl) (fun w' hw' => run_string_bs Tryd.underlying22 Tryd.underlying5 Tryd.underlying9 (HM3.out.keep (S := fun _ => False) (Keep.of_grown hw' (by simp)) (fun _ _ => id))) ?_
  go_simp
  refine wq_call (vs := #[.string (S8 m)]) (by rfl) (by rfl) (by simp [Act.eval]) Tryd.func17 (by kernel_rfl) (by rfl) (v := .string (S8 (sum m))) (fun w' hw' => ?_) ?_
  · refine (refsum_any m hml w').mono ?_
    rintro e w'' ⟨rfl, hb'⟩
    exact ⟨rfl, grown_trans hw' (grown_below none hb' (Nat.le_refl _))⟩
  go_simp
  refine wq_run (v := .bool ((S8 (sum l)).toList == (S8 (sum m)).toList)) (by rfl) (fun w' _ => by unfold execOp; simp only [Act.eval]; go_simp) ?_
  go_simp
  refine wpQuiet_nil ?_
  intro wb hwb
  have HBL : Hid (Below w.heap.size w wb) := HB3.out.trans ⟨hwb.os, hwb.tape, hwb.output, hwb.size, fun i hi => hwb.block i (Nat.lt_of_lt_of_le hi HB3.out.size) (by simp)⟩
  have HVb : Hid (Bs (fun k => k < w.heap.size) wb (.slice A n c) l) := HV3.out.keep (S := fun _ => False) (Keep.of_grown hwb (by simp)) (fun _ _ => id)
  have HMb : Hid (Bs (fun _ => True) wb (.slice A3 n3 c3) m) := HM3.out.keep (S := fun _ => False) (Keep.of_grown hwb (by simp)) (fun _ _ => id)
  have HLb := Lib.hid (HL.out.below HBL.out (Nat.le_refl _))
  clear hwb HL3 HB3 HV3 HM3
  obtain ⟨be, hbe⟩ : ∃ be, ((S8 (sum l)).toList == (S8 (sum m)).toList) = be := ⟨_, rfl⟩
  have hne : be = false → sum l ≠ sum m := by rintro rfl e; rw [e] at hbe; simp at hbe
  rw [hbe]
  clear hbe
  cases be
  rotate_left
  · go_wp2
    go_ret
    exact ⟨rfl, HBL.out⟩
  · go_wp2_with fail
    refine (sum_any HLb.out HVb.out (by omega)).mono ?_
    rintro e wc ⟨rfl, hbc⟩
    have HBc : Hid (Below w.heap.size w wc) := HBL.out.trans (hbc.mono HBL.out.size)
    have HMc : Hid (Bs (fun _ => True) wc (.slice A3 n3 c3) m) := HMb.out.keep (S := fun _ => False) (Keep.of_below hbc (Nat.le_refl _) _) (fun _ _ => id)
    have HLc := Lib.hid (HL.out.below HBc.out (Nat.le_refl _))
    clear hbc HBL HVb HMb HLb
    go_wp2_with fail
    refine (sum_any HLc.out HMc.out (by omega)).mono ?_
    rintro e wd ⟨rfl, hbd⟩
    have HBd : Hid (Below w.heap.size w wd) := HBc.out.trans (hbd.mono HBc.out.size)
    clear hbd HBc HMc HLc
    have hq : (sum l == sum m) = false := by simpa using hne trivial
    go_wp2
    go_ret
    exact ⟨rfl, HBd.out⟩
set_option maxRecDepth 100000 in
theorem shaPads_big {w : World} {ok : Nat → Prop} {v : Value} {l : List UInt8} {k : Int} (hL : Laid w) (hv : Bs ok w v l) (hb : 2000 < l.length) (hb2 : l.length ≤ 140737488355328) : Calls Tryd.prog 4 #[v, .int .i64 k] w fun e w' => e = .returned (.bool true) ∧ Below w.heap.size w w' := by
  obtain ⟨A, n, c, rfl, hn, hc, hbk⟩ := hv
  have hn5 : (2000 : Int) < n := by omega
  have HL := Lib.hid hL
  clear hn hc hbk hL hb hb2
  go_enter Tryd.func4, Tryd.ntmps4
  go_wp2_with fail
  refine (digests_any HL.out).mono ?_
  rintro e w1 ⟨rfl, hb1⟩
  have HB1 := Lib.hid hb1
  have HL1 := Lib.hid (HL.out.below hb1 (Nat.le_refl _))
  clear hb1
  go_wp2_with fail
  refine (digests_any HL1.out).mono ?_
  rintro e w2 ⟨rfl, hb2⟩
  have HB2 : Hid (Below w.heap.size w w2) := HB1.out.trans (hb2.mono HB1.out.size)
  clear hb2
  go_wp2
  go_ret
  exact ⟨rfl, HB2.out⟩
theorem u64_ge (k : Int) : 0 ≤ IntKind.u64.wrap k := by
  unfold IntKind.wrap
  simp [IntKind.bits, IntKind.signed]
  omega
end Go.Proofs.YtmifegjmmlipbaaDoor
