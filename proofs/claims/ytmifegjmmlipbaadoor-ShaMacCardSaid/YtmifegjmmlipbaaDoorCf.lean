/-
  ShaMac: the walk.
-/
import Derived.Test.YtmifegjmmlipbaaDoorCg
namespace Go.Proofs.YtmifegjmmlipbaaDoor
open Go.RowKit Go.Rh Sha

set_option maxRecDepth 100000 in
theorem shaMac_big {w : World} {v x : Value} {l m : List UInt8} {ok ok' : Nat → Prop} (hL : Laid w) (hv : Bs ok w v l) (hx : Bs ok' w x m) (hb : 5000 < l.length) (hb2 : l.length ≤ 140737488355328) : Calls Tryd.prog 7 #[v, x] w fun e w' => e = .returned (.bool true) ∧ Below w.heap.size w w' := by
  have HS := Lib.hid (St.start hL)
  obtain ⟨A, n, c, rfl, hn, hc, hbk⟩ := hv
  obtain ⟨A', n', c', rfl, hn', hc', hbk'⟩ := hx
  have hn5 : (5000 : Int) < n := by omega
  clear hc hbk hL hc' hbk' hn hn' hb hb2
  go_enter Tryd.func7, Tryd.ntmps7
  go_wp2_with fail
  refine (st_digests HS.out).mono ?_
  rintro e w1 ⟨rfl, hs⟩
  have HS1 := Lib.hid hs
  clear hs
  go_wp2_with fail
  refine (st_digests HS1.out).mono ?_
  rintro e w2 ⟨rfl, hs⟩
  have HS2 := Lib.hid hs
  clear hs
  go_wp2
  go_ret
  exact ⟨rfl, HS2.out.below⟩
set_option maxRecDepth 100000 in
theorem shaMac_big2 {w : World} {v x : Value} {l m : List UInt8} {ok ok' : Nat → Prop} (hL : Laid w) (hv : Bs ok w v l) (hx : Bs ok' w x m) (hb : l.length ≤ 5000) (hm : 5000 < m.length) (hb2 : m.length ≤ 140737488355328) : Calls Tryd.prog 7 #[v, x] w fun e w' => e = .returned (.bool true) ∧ Below w.heap.size w w' := by
  have HS := Lib.hid (St.start hL)
  obtain ⟨A, n, c, rfl, hn, hc, hbk⟩ := hv
  obtain ⟨A', n', c', rfl, hn', hc', hbk'⟩ := hx
  have hn5 : (n : Int) ≤ 5000 := by omega
  have hn6 : (5000 : Int) < n' := by omega
  clear hc hbk hL hc' hbk' hn hn' hb hb2 hm
  go_enter Tryd.func7, Tryd.ntmps7
  go_wp2_with fail
  refine (st_digests HS.out).mono ?_
  rintro e w1 ⟨rfl, hs⟩
  have HS1 := Lib.hid hs
  clear hs
  go_wp2_with fail
  refine (st_digests HS1.out).mono ?_
  rintro e w2 ⟨rfl, hs⟩
  have HS2 := Lib.hid hs
  clear hs
  go_wp2
  go_ret
  exact ⟨rfl, HS2.out.below⟩

set_option maxRecDepth 100000 in
set_option maxHeartbeats 0 in
theorem shaMac_small {w : World} {v x : Value} {l m : List UInt8} (hL : Laid w) (hv : Bs (fun k => k < w.heap.size) w v l) (hx : Bs (fun k => k < w.heap.size) w x m) (hb : l.length ≤ 5000) (hb2 : m.length ≤ 5000) : Calls Tryd.prog 7 #[v, x] w fun e w' => e = .returned (.bool true) ∧ Below w.heap.size w w' := by
  have HS := Lib.hid (St.start hL)
  have HV := Lib.hid hv
  have HX := Lib.hid hx
  obtain ⟨A, n, c, rfl, hn, hc, hbk⟩ := hv
  obtain ⟨A', n', c', rfl, hn', hc', hbk'⟩ := hx
  have hn5 : (n : Int) ≤ 5000 := by omega
  have hn6 : (n' : Int) ≤ 5000 := by omega
  have HN := Lib.hid hn
  have HL2 : Hid (l.length ≤ 5000 ∧ m.length ≤ 5000) := ⟨hb, hb2⟩
  clear hc hbk hL hc' hbk' hn hn' hb hb2
  go_enter Tryd.func7, Tryd.ntmps7
  go_wp2_with fail
  refine (st_digests HS.out).mono ?_
  rintro e w1 ⟨rfl, hs⟩
  have HS1 := Lib.hid hs
  clear hs
  go_wp2_with fail
  refine (st_mac HS1.out (HS1.out.old HV.out) (HS1.out.old HX.out) (by have := HL2.out; omega) (by have := HL2.out; omega)).mono ?_
  rintro e w2 ⟨rfl, -, hs⟩
  obtain ⟨b1, hb1⟩ : ∃ b, w2.heap.size = b := ⟨_, rfl⟩
  have HS2 := Lib.hid hs
  clear hs HS1
  go_wp2_with (refine wpList_keep_sum hb1 (by rfl) _ _ (by rfl) (by rfl) (by rfl) ?_; intro w3 h3 hs3; have H3 := Lib.hid h3; have HS3 := Lib.hid (HS2.out.step hs3); clear h3 hs3)
  clear hb1
  refine region_tail_grown 8 45 (by kernel_rfl) (by rfl) (by kernel_rfl) (by kernel_rfl) ?_
  simp only [List.take_succ_cons, List.take_zero, List.drop_succ_cons, List.drop_zero]
  show wpQuiet _ _ _ _ _ ⟨_, _⟩
  refine wq_S (Instr.sliceAt 24 (.pointer (some ⟨b1, 0, none⟩)) none none none) (by rfl) (by rfl) (v := .slice (some ⟨b1, 0, none⟩) 32 32) (fun w' _ => by go_simp) ?_
  go_simp
  refine wq_convert (u := .slice (some ⟨b1, 0, none⟩) 32 32) (by rfl) 22 9 (.tmp 24) (by rfl) (by rfl) (fun w' hw' => run_string_bs Tryd.underlying22 Tryd.underlying5 Tryd.underlying9 (bs_row ((hw'.block _ (heap_lt H3.out) (by simp)).trans H3.out) (mac_length l m))) ?_
  go_simp
  go_big_quiet_step (fail)
  refine wq_convert (u := .slice A n c) (by rfl) 22 9 (.tmp 26) (by rfl) (by rfl) (fun w' hw' => run_string_bs Tryd.underlying22 Tryd.underlying5 Tryd.underlying9 ((HS3.out.grown hw').old HV.out)) ?_
  go_simp
  go_big_quiet_step (fail)
  refine wq_convert (u := .slice A' n' c') (by rfl) 22 9 (.tmp 28) (by rfl) (by rfl) (fun w' hw' => run_string_bs Tryd.underlying22 Tryd.underlying5 Tryd.underlying9 ((HS3.out.grown hw').old HX.out)) ?_
  go_simp
  refine wq_call (vs := #[.string (S8 l), .string (S8 m)]) (by rfl) (by rfl) (by simp [Act.eval]) Tryd.func24 (by kernel_rfl) (by rfl) (v := .string (S8 (mac l m))) (fun w' hw' => ?_) ?_
  · refine (refmac_any l m (by have := HL2.out; omega) (by have := HL2.out; omega) w').mono ?_
    rintro e w'' ⟨rfl, hb'⟩
    exact ⟨rfl, grown_trans hw' (grown_below none hb' (Nat.le_refl _))⟩
  go_simp
  refine wq_run (v := .bool false) (by rfl) (fun w' _ => by unfold execOp; simp only [Act.eval]; go_simp) ?_
  go_simp
  refine wpQuiet_nil ?_
  intro w4 hw4
  have HS4 := Lib.hid (HS3.out.grown hw4)
  have H4 : Hid (w4.heap[b1]? = some (.cells (B8 32 (mac l m)) 24 (0, 0))) := (hw4.block _ (heap_lt H3.out) (by simp)).trans H3.out
  clear hw4 HS3 H3 HS2
  go_wp2_with fail
  refine (st_sum16 HS4.out (HS4.out.old HV.out) (by have := HL2.out; omega)).mono ?_
  rintro e w5 ⟨rfl, hb5, hs⟩
  obtain ⟨b2, hb2⟩ : ∃ b, w5.heap.size = b := ⟨_, rfl⟩
  have HS5 := Lib.hid hs
  have H5 : Hid (w5.heap[b1]? = some (.cells (B8 32 (mac l m)) 24 (0, 0))) := (hb5.block _ (heap_lt H4.out)).trans H4.out
  clear hs hb5 HS4 H4
  go_wp2_with (refine wpList_keep_sum hb2 (by rfl) _ _ (by rfl) (by rfl) (by rfl) ?_; intro w6 h6 hs6; have K6 := Lib.hid h6; have HS6 := Lib.hid (HS5.out.step hs6); have H6 : Hid (w6.heap[b1]? = some (.cells (B8 32 (mac l m)) 24 (0, 0))) := (hs6.block _ (heap_lt H5.out)).trans H5.out; clear h6 hs6)
  clear hb2
  refine (st_mac HS6.out (bs_row K6.out (sum_length l)) (HS6.out.old HX.out) (by rw [sum_length]; omega) (by have := HL2.out; omega)).mono ?_
  rintro e w7 ⟨rfl, hb7, hs⟩
  obtain ⟨b3, hb3⟩ : ∃ b, w7.heap.size = b := ⟨_, rfl⟩
  have HS7 := Lib.hid hs
  have H7 : Hid (w7.heap[b1]? = some (.cells (B8 32 (mac l m)) 24 (0, 0))) := (hb7.block _ (heap_lt H6.out)).trans H6.out
  clear hs hb7 HS6 H6 HS5 H5 K6
  by_cases h64 : l.length ≤ 64
  · have hn64 : (n : Int) ≤ 64 := by have := HN.out; omega
    clear h64
    go_wp2_with (refine wpList_keep_sum hb3 (by rfl) _ _ (by rfl) (by rfl) (by rfl) ?_; intro w8 h8 hs8; have HS8 := Lib.hid (HS7.out.step hs8); clear h8 hs8)
    go_wp2
    go_ret
    exact ⟨rfl, HS8.out.below⟩
  · have hn64 : (64 : Int) < n := by have := HN.out; omega
    have hms : mac (sum l) m = mac l m := mac_sum l m (by omega)
    rw [hms]
    have heq := run_equalIn_B8 (mac l m) (mac l m) (mac_length l m) (mac_length l m)
    rw [beq_self_eq_true] at heq
    have hdec : decide ((n : Int) ≤ 64) = false := by simp; omega
    clear h64 hms
    go_wp2_with (first
      | (refine wpList_keep_sum hb3 (by rfl) _ _ (by rfl) (by rfl) (by rfl) ?_; intro w8 h8 hs8; have K8 := Lib.hid h8; have HS8 := Lib.hid (HS7.out.step hs8); have H8 : Hid (w8.heap[b1]? = some (.cells (B8 32 (mac l m)) 24 (0, 0))) := (hs8.block _ (heap_lt H7.out)).trans H7.out; clear h8 hs8)
      | (refine wpList_load_B8 (o := ⟨some 41, _, _, _, _, _⟩) (by rfl) (.tmp 5) (by rfl) b1 (by rfl) H8.out ?_)
      | (refine wpList_load_B8 (o := ⟨some 42, _, _, _, _, _⟩) (by rfl) (.tmp 7) (by rfl) b3 (by rfl) K8.out ?_))
    go_wp2
    go_ret
    exact ⟨rfl, HS8.out.below⟩
end Go.Proofs.YtmifegjmmlipbaaDoor
