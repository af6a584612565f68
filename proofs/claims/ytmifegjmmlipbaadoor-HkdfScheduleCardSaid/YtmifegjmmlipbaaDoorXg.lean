/-
  "abc" has its sum; ShaSum's walk: its condition: not more than 5000 bytes, or it tells digests.
-/
import Derived.Test.YtmifegjmmlipbaaDoorXf
import Derived.Lib.SlBytesConst
namespace Go.Proofs.YtmifegjmmlipbaaDoor
open Go.RowKit Go.Rh Sha

theorem abc : at_ (sum [97, 98, 99]) 0 = 186 ∧ at_ (sum [97, 98, 99]) 1 = 120 ∧ at_ (sum [97, 98, 99]) 31 = 173 := by
  rw [← sum8_eq]
  decide +kernel
theorem b8_one (n : Nat) (l : List UInt8) : (B8 n l).all (·.oneCell') = true := vals_one _ _ _
theorem bs_abc (w : World) : Bs (fun _ => True) (w.alloc (.cells #[.int .u8 97, .int .u8 98, .int .u8 99] 5 (3, 4))) (.slice (some ⟨w.heap.size, 0, none⟩) 3 3) [97, 98, 99] :=
  ⟨_, _, _, rfl, rfl, Nat.le_refl _, fun _ => ⟨_, _, rfl, trivial, fun j hj => by
    rw [cell_of_row _ _ _ _ 5 _ (heap_alloc_new w _), Nat.zero_add]
    match j, hj with
    | 0, _ => rfl
    | 1, _ => rfl
    | 2, _ => rfl⟩⟩

set_option maxRecDepth 100000 in
set_option maxHeartbeats 0 in
theorem digests_any {w : World} (hL : Laid w) : Calls Tryd.prog 15 #[] w fun e w' => e = .returned (.bool true) ∧ Below w.heap.size w w' := by
  have HC := Lib.hid (sum_any (w := w.alloc (.cells #[.int .u8 97, .int .u8 98, .int .u8 99] 5 (3, 4))) (hL.below ((Below.refl _ _).alloc (Nat.le_refl _) _) (Nat.le_refl _)) (bs_abc w) (by decide))
  have kc : (convert 22 22 (.slice (some ⟨w.heap.size, 0, none⟩) 3 3)).run Tryd.prog (w.alloc (.cells #[.int .u8 97, .int .u8 98, .int .u8 99] 5)) = .ok (.slice (some ⟨w.heap.size, 0, none⟩) 3 3) (w.alloc (.cells #[.int .u8 97, .int .u8 98, .int .u8 99] 5 (3, 4))) := Lib.run_convert_bytes_const (P := Tryd.prog) w 22 5 #[.int .u8 97, .int .u8 98, .int .u8 99] 3 3 Tryd.underlying22 Tryd.underlying5
  clear hL
  go_enter Tryd.func15, Tryd.ntmps15
  go_wp2_with fail
  refine HC.out.mono ?_
  rintro e w1 ⟨rfl, hb1⟩
  obtain ⟨b1, hs1⟩ : ∃ b, w1.heap.size = b := ⟨_, rfl⟩
  have hlt : w.heap.size + 1 ≤ b1 := by rw [← hs1]; simpa using hb1.size
  have HX : (w1.alloc (.cells #[.int .u8 0, .int .u8 0, .int .u8 0, .int .u8 0, .int .u8 0, .int .u8 0, .int .u8 0, .int .u8 0, .int .u8 0, .int .u8 0, .int .u8 0, .int .u8 0, .int .u8 0, .int .u8 0, .int .u8 0, .int .u8 0, .int .u8 0, .int .u8 0, .int .u8 0, .int .u8 0, .int .u8 0, .int .u8 0, .int .u8 0, .int .u8 0, .int .u8 0, .int .u8 0, .int .u8 0, .int .u8 0, .int .u8 0, .int .u8 0, .int .u8 0, .int .u8 0] 24)).heap[b1]? = some (.cells #[.int .u8 0, .int .u8 0, .int .u8 0, .int .u8 0, .int .u8 0, .int .u8 0, .int .u8 0, .int .u8 0, .int .u8 0, .int .u8 0, .int .u8 0, .int .u8 0, .int .u8 0, .int .u8 0, .int .u8 0, .int .u8 0, .int .u8 0, .int .u8 0, .int .u8 0, .int .u8 0, .int .u8 0, .int .u8 0, .int .u8 0, .int .u8 0, .int .u8 0, .int .u8 0, .int .u8 0, .int .u8 0, .int .u8 0, .int .u8 0, .int .u8 0, .int .u8 0] 24 (0, 0)) := heap_new' _ _ _ hs1.symm
  have HB1 := Lib.hid hb1
  clear hb1
  have hO : ((w1.alloc (.cells #[.int .u8 0, .int .u8 0, .int .u8 0, .int .u8 0, .int .u8 0, .int .u8 0, .int .u8 0, .int .u8 0, .int .u8 0, .int .u8 0, .int .u8 0, .int .u8 0, .int .u8 0, .int .u8 0, .int .u8 0, .int .u8 0, .int .u8 0, .int .u8 0, .int .u8 0, .int .u8 0, .int .u8 0, .int .u8 0, .int .u8 0, .int .u8 0, .int .u8 0, .int .u8 0, .int .u8 0, .int .u8 0, .int .u8 0, .int .u8 0, .int .u8 0, .int .u8 0] 24)).setRow b1 (B8 32 (sum [97, 98, 99]))).heap[b1]? = some (.cells (B8 32 (sum [97, 98, 99])) 24 (0, 0)) := setRow_heap _ _ _ _ _ _ HX
  have c0 : ((w1.alloc (.cells #[.int .u8 0, .int .u8 0, .int .u8 0, .int .u8 0, .int .u8 0, .int .u8 0, .int .u8 0, .int .u8 0, .int .u8 0, .int .u8 0, .int .u8 0, .int .u8 0, .int .u8 0, .int .u8 0, .int .u8 0, .int .u8 0, .int .u8 0, .int .u8 0, .int .u8 0, .int .u8 0, .int .u8 0, .int .u8 0, .int .u8 0, .int .u8 0, .int .u8 0, .int .u8 0, .int .u8 0, .int .u8 0, .int .u8 0, .int .u8 0, .int .u8 0, .int .u8 0] 24)).setRow b1 (B8 32 (sum [97, 98, 99]))).cell? ⟨b1, 0, none⟩ = some (.int .u8 186) := (cell_vals hO (by decide)).trans (by rw [abc.1]; rfl)
  have c1 : ((w1.alloc (.cells #[.int .u8 0, .int .u8 0, .int .u8 0, .int .u8 0, .int .u8 0, .int .u8 0, .int .u8 0, .int .u8 0, .int .u8 0, .int .u8 0, .int .u8 0, .int .u8 0, .int .u8 0, .int .u8 0, .int .u8 0, .int .u8 0, .int .u8 0, .int .u8 0, .int .u8 0, .int .u8 0, .int .u8 0, .int .u8 0, .int .u8 0, .int .u8 0, .int .u8 0, .int .u8 0, .int .u8 0, .int .u8 0, .int .u8 0, .int .u8 0, .int .u8 0, .int .u8 0] 24)).setRow b1 (B8 32 (sum [97, 98, 99]))).cell? ⟨b1, 1, none⟩ = some (.int .u8 120) := (cell_vals hO (by decide)).trans (by rw [abc.2.1]; rfl)
  have c31 : ((w1.alloc (.cells #[.int .u8 0, .int .u8 0, .int .u8 0, .int .u8 0, .int .u8 0, .int .u8 0, .int .u8 0, .int .u8 0, .int .u8 0, .int .u8 0, .int .u8 0, .int .u8 0, .int .u8 0, .int .u8 0, .int .u8 0, .int .u8 0, .int .u8 0, .int .u8 0, .int .u8 0, .int .u8 0, .int .u8 0, .int .u8 0, .int .u8 0, .int .u8 0, .int .u8 0, .int .u8 0, .int .u8 0, .int .u8 0, .int .u8 0, .int .u8 0, .int .u8 0, .int .u8 0] 24)).setRow b1 (B8 32 (sum [97, 98, 99]))).cell? ⟨b1, 31, none⟩ = some (.int .u8 173) := (cell_vals hO (by decide)).trans (by rw [abc.2.2]; rfl)
  have HBL : Hid (Below w.heap.size w ((w1.alloc (.cells #[.int .u8 0, .int .u8 0, .int .u8 0, .int .u8 0, .int .u8 0, .int .u8 0, .int .u8 0, .int .u8 0, .int .u8 0, .int .u8 0, .int .u8 0, .int .u8 0, .int .u8 0, .int .u8 0, .int .u8 0, .int .u8 0, .int .u8 0, .int .u8 0, .int .u8 0, .int .u8 0, .int .u8 0, .int .u8 0, .int .u8 0, .int .u8 0, .int .u8 0, .int .u8 0, .int .u8 0, .int .u8 0, .int .u8 0, .int .u8 0, .int .u8 0, .int .u8 0] 24)).setRow b1 (B8 32 (sum [97, 98, 99])))) :=
    below_setRow (((((Below.refl _ w).alloc (Nat.le_refl _) (.cells #[.int .u8 97, .int .u8 98, .int .u8 99] 5 (3, 4))).trans (HB1.out.mono (by simp))).alloc (by omega) _)) (by omega) _
  clear hO
  go_wp2_with (refine wpList_store_row (by rfl) 24 _ _ (by rfl) b1 _ (by rfl) (by rfl) 24 _ HX (sz24.trans (by simp [B8])) (by simp [B8]) (b8_one _ _) ?_; clear HX)
  go_ret
  exact ⟨rfl, HBL.out⟩

set_option maxRecDepth 100000 in
theorem shaSum_big {w : World} {ok : Nat → Prop} {v : Value} {l : List UInt8} (hL : Laid w) (hv : Bs ok w v l) (hb : 5000 < l.length) (hb2 : l.length ≤ 140737488355328) : Calls Tryd.prog 3 #[v] w fun e w' => e = .returned (.bool true) ∧ Below w.heap.size w w' := by
  obtain ⟨A, n, c, rfl, hn, hc, hbk⟩ := hv
  have hn5 : (5000 : Int) < n := by omega
  have HL := Lib.hid hL
  clear hn hc hbk hL hb hb2
  go_enter Tryd.func3, Tryd.ntmps3
  go_wp2_with fail
  refine (digests_any HL.out).mono ?_
  rintro e w1 ⟨rfl, hb1⟩
  have HB1 := Lib.hid hb1
  have HL1 := Lib.hid (HL.out.below hb1 (Nat.le_refl _))
  clear hb1
  go_wp2_with fail
  refine (digests_any HL1.out).mono ?_
  rintro e w2 ⟨rfl, hb2⟩
  have HB2 : Hid (Below w.heap.size w w2) := HB1.out.trans (hb2.mono HB1.out.size)
  clear hb2
  go_wp2
  go_ret
  exact ⟨rfl, HB2.out⟩
set_option maxRecDepth 100000 in
theorem shaSum_small {w : World} {ok : Nat → Prop} {v : Value} {l : List UInt8} (hL : Laid w) (hv : Bs ok w v l) (hb : l.length ≤ 5000) : Calls Tryd.prog 3 #[v] w fun e w' => e = .returned (.bool true) ∧ Below w.heap.size w w' := by
  have hv0 := hv.mono (ok' := fun k => k < w.heap.size) (fun i hi _ => hi)
  obtain ⟨A, n, c, rfl, hn, hc, hbk⟩ := hv
  have hn5 : (n : Int) ≤ 5000 := by omega
  have HL := Lib.hid hL
  have HV := Lib.hid hv0
  clear hn hc hbk hL hv0
  go_enter Tryd.func3, Tryd.ntmps3
  go_wp2_with fail
  refine (digests_any HL.out).mono ?_
  rintro e w1 ⟨rfl, hb1⟩
  have HB1 := Lib.hid hb1
  have HL1 := Lib.hid (HL.out.below hb1 (Nat.le_refl _))
  have HV1 : Hid (Bs (fun k => k < w.heap.size) w1 (.slice A n c) l) := HV.out.keep (S := fun _ => False) (Keep.of_below hb1 (Nat.le_refl _) _) (fun _ _ => id)
  clear hb1
  go_wp2_with fail
  refine (sum_any HL1.out HV1.out (by omega)).mono ?_
  rintro e w2 ⟨rfl, hb2⟩
  obtain ⟨b1, hs1⟩ : ∃ b, w2.heap.size = b := ⟨_, rfl⟩
  have hwb : w.heap.size ≤ b1 := by rw [← hs1]; exact Nat.le_trans HB1.out.size hb2.size
  have HX : (w2.alloc (.cells #[.int .u8 0, .int .u8 0, .int .u8 0, .int .u8 0, .int .u8 0, .int .u8 0, .int .u8 0, .int .u8 0, .int .u8 0, .int .u8 0, .int .u8 0, .int .u8 0, .int .u8 0, .int .u8 0, .int .u8 0, .int .u8 0, .int .u8 0, .int .u8 0, .int .u8 0, .int .u8 0, .int .u8 0, .int .u8 0, .int .u8 0, .int .u8 0, .int .u8 0, .int .u8 0, .int .u8 0, .int .u8 0, .int .u8 0, .int .u8 0, .int .u8 0, .int .u8 0] 24)).heap[b1]? = some (.cells #[.int .u8 0, .int .u8 0, .int .u8 0, .int .u8 0, .int .u8 0, .int .u8 0, .int .u8 0, .int .u8 0, .int .u8 0, .int .u8 0, .int .u8 0, .int .u8 0, .int .u8 0, .int .u8 0, .int .u8 0, .int .u8 0, .int .u8 0, .int .u8 0, .int .u8 0, .int .u8 0, .int .u8 0, .int .u8 0, .int .u8 0, .int .u8 0, .int .u8 0, .int .u8 0, .int .u8 0, .int .u8 0, .int .u8 0, .int .u8 0, .int .u8 0, .int .u8 0] 24 (0, 0)) := heap_new' _ _ _ hs1.symm
  have HO := Lib.hid (setRow_heap _ b1 _ (B8 32 (sum l)) 24 _ HX)
  have HB2 : Hid (Below w.heap.size w ((w2.alloc (.cells #[.int .u8 0, .int .u8 0, .int .u8 0, .int .u8 0, .int .u8 0, .int .u8 0, .int .u8 0, .int .u8 0, .int .u8 0, .int .u8 0, .int .u8 0, .int .u8 0, .int .u8 0, .int .u8 0, .int .u8 0, .int .u8 0, .int .u8 0, .int .u8 0, .int .u8 0, .int .u8 0, .int .u8 0, .int .u8 0, .int .u8 0, .int .u8 0, .int .u8 0, .int .u8 0, .int .u8 0, .int .u8 0, .int .u8 0, .int .u8 0, .int .u8 0, .int .u8 0] 24)).setRow b1 (B8 32 (sum l)))) := below_setRow ((HB1.out.trans (hb2.mono HB1.out.size)).alloc (by omega) _) hwb _
  have HV2 : Hid (Bs (fun k => k < w.heap.size) ((w2.alloc (.cells #[.int .u8 0, .int .u8 0, .int .u8 0, .int .u8 0, .int .u8 0, .int .u8 0, .int .u8 0, .int .u8 0, .int .u8 0, .int .u8 0, .int .u8 0, .int .u8 0, .int .u8 0, .int .u8 0, .int .u8 0, .int .u8 0, .int .u8 0, .int .u8 0, .int .u8 0, .int .u8 0, .int .u8 0, .int .u8 0, .int .u8 0, .int .u8 0, .int .u8 0, .int .u8 0, .int .u8 0, .int .u8 0, .int .u8 0, .int .u8 0, .int .u8 0, .int .u8 0] 24)).setRow b1 (B8 32 (sum l))) (.slice A n c) l) := HV.out.keep (S := fun _ => False) (Keep.of_below HB2.out (Nat.le_refl _) _) (fun _ _ => id)
  clear hb2
  go_wp2_with (refine wpList_store_row (by rfl) 24 _ _ (by rfl) b1 _ (by rfl) (by rfl) 24 _ HX (sz24.trans (by simp [B8])) (by simp [B8]) (b8_one _ _) ?_; clear HX)
  obtain ⟨w3, hw3⟩ : ∃ w3, w3 = (w2.alloc (.cells #[.int .u8 0, .int .u8 0, .int .u8 0, .int .u8 0, .int .u8 0, .int .u8 0, .int .u8 0, .int .u8 0, .int .u8 0, .int .u8 0, .int .u8 0, .int .u8 0, .int .u8 0, .int .u8 0, .int .u8 0, .int .u8 0, .int .u8 0, .int .u8 0, .int .u8 0, .int .u8 0, .int .u8 0, .int .u8 0, .int .u8 0, .int .u8 0, .int .u8 0, .int .u8 0, .int .u8 0, .int .u8 0, .int .u8 0, .int .u8 0, .int .u8 0, .int .u8 0] 24)).setRow b1 (B8 32 (sum l)) := ⟨_, rfl⟩
  rw [← hw3] at HO HB2 HV2 ⊢
  clear hw3 HV1 HL1 hs1 HB1
  refine region_tail_grown 7 20 (by kernel_rfl) (by rfl) (by kernel_rfl) (by kernel_rfl) ?_
  simp only [List.take_succ_cons, List.take_zero, List.drop_succ_cons, List.drop_zero]
  show wpQuiet _ _ _ _ _ ⟨_, _⟩
  refine wq_S (Instr.sliceAt 24 (.pointer (some ⟨b1, 0, none⟩)) none none none) (by rfl) (by rfl) (v := .slice (some ⟨b1, 0, none⟩) 32 32) (fun w' _ => by go_simp) ?_
  go_simp
  refine wq_convert (u := .slice (some ⟨b1, 0, none⟩) 32 32) (by rfl) 22 9 (.tmp 14) (by rfl) (by rfl) (fun w' hw' => run_string_bs Tryd.underlying22 Tryd.underlying5 Tryd.underlying9 (bs_row ((hw'.block _ (heap_lt HO.out) (by simp)).trans HO.out) (sum_length l))) ?_
  go_simp
  go_big_quiet_step (fail)
  refine wq_convert (u := .slice A n c) (by rfl) 22 9 (.tmp 16) (by rfl) (by rfl) (fun w' hw' => run_string_bs Tryd.underlying22 Tryd.underlying5 Tryd.underlying9 (HV2.out.keep (S := fun _ => False) (Keep.of_grown hw' (by simp)) (fun _ _ => id))) ?_
  go_simp
  refine wq_call (vs := #[.string (S8 l)]) (by rfl) (by rfl) (by simp [Act.eval]) Tryd.func17 (by kernel_rfl) (by rfl) (v := .string (S8 (sum l))) (fun w' hw' => ?_) ?_
  · refine (refsum_any l (by omega) w').mono ?_
    rintro e w'' ⟨rfl, hb'⟩
    exact ⟨rfl, grown_trans hw' (grown_below none hb' (Nat.le_refl _))⟩
  go_simp
  refine wq_run (v := .bool true) (by rfl) (fun w' _ => by unfold execOp; simp only [Act.eval]; go_simp) ?_
  go_simp
  go_big_quiet_step (fail)
  refine wpQuiet_nil ?_
  intro wb hwb
  have HBL : Hid (Below w.heap.size w wb) := HB2.out.trans ⟨hwb.os, hwb.tape, hwb.output, hwb.size, fun i hi => hwb.block i (Nat.lt_of_lt_of_le hi HB2.out.size) (by simp)⟩
  clear hwb
  go_wp2
  go_ret
  exact ⟨rfl, HBL.out⟩
end Go.Proofs.YtmifegjmmlipbaaDoor
