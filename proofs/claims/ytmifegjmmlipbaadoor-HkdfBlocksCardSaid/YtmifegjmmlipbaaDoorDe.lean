/-
  HkdfBlocks: the walk.
-/
import Derived.Test.YtmifegjmmlipbaaDoorDc
import Derived.Test.YtmifegjmmlipbaaDoorCj
namespace Sha
theorem hkOut_part (sec info : List UInt8) : ∀ n j, j < n → ((hkOut sec info n).drop (32 * j)).take 32 = hkT sec info (j + 1)
  | n + 1, j, h => by
    have hl := hkOut_length sec info n
    have ht := hkT_pos sec info (Nat.succ_pos n)
    simp only [hkOut]
    by_cases hj : j = n
    · subst hj
      rw [List.drop_append_of_le_length (by omega), List.drop_of_length_le (by omega), List.nil_append, List.take_of_length_le (by rw [hkT_pos sec info (Nat.succ_pos _)]; exact Nat.le_refl _)]
    · rw [List.drop_append_of_le_length (by omega), List.take_append_of_le_length (by rw [List.length_drop]; omega)]
      exact hkOut_part sec info n j (by omega)
theorem expand_part (sec info : List UInt8) {N j : Nat} (h : j < N) : ((expand sec info (32 * N)).drop (32 * j)).take 32 = hkT sec info (j + 1) := by
  have e : blocksOf (32 * N) = N := by unfold blocksOf; omega
  unfold expand
  have h2 : (hkOut sec info N).take (32 * N) = hkOut sec info N := List.take_of_length_le (by rw [hkOut_length]; exact Nat.le_refl _)
  rw [e, h2]
  exact hkOut_part sec info N j h
end Sha
namespace Go.Proofs.YtmifegjmmlipbaaDoor
open Go.RowKit Go.Rh Sha

set_option maxRecDepth 100000 in
theorem hkdfBlocks_big1 {w : World} {v0 : Value} {l0 : List UInt8} {ok0 : Nat → Prop} {v1 : Value} {l1 : List UInt8} {ok1 : Nat → Prop} {k2 : Int} (hL : Laid w) (hv0 : Bs ok0 w v0 l0) (hv1 : Bs ok1 w v1 l1)  (hb0 : 3000 < l0.length) (hc0 : l0.length ≤ 140737488355328) : Calls Tryd.prog 10 #[v0, v1, .int .i64 k2] w fun e w' => e = .returned (.bool true) ∧ Below w.heap.size w w' := by
  have HS := Lib.hid (St.start hL)
  obtain ⟨A0, n0, c0, rfl, hn0, hx0, hbk0⟩ := hv0
  obtain ⟨A1, n1, c1, rfl, hn1, hx1, hbk1⟩ := hv1
  have hi0 : (3000 : Int) < n0 := by omega
  clear hL hn0 hx0 hbk0 hn1 hx1 hbk1 hb0 hc0
  go_enter Tryd.func10, Tryd.ntmps10
  go_wp2_with fail
  refine (st_expands HS.out).mono ?_
  rintro e w1 ⟨rfl, hs⟩
  have HS1 := Lib.hid hs
  clear hs
  go_wp2_with fail
  refine (st_expands HS1.out).mono ?_
  rintro e w2 ⟨rfl, hs⟩
  have HS2 := Lib.hid hs
  clear hs
  go_wp2
  go_ret
  exact ⟨rfl, HS2.out.below⟩
set_option maxRecDepth 100000 in
theorem hkdfBlocks_big2 {w : World} {v0 : Value} {l0 : List UInt8} {ok0 : Nat → Prop} {v1 : Value} {l1 : List UInt8} {ok1 : Nat → Prop} {k2 : Int} (hL : Laid w) (hv0 : Bs ok0 w v0 l0) (hv1 : Bs ok1 w v1 l1) (hb0 : l0.length ≤ 3000) (hb1 : 300 < l1.length) (hc1 : l1.length ≤ 140737488355328) : Calls Tryd.prog 10 #[v0, v1, .int .i64 k2] w fun e w' => e = .returned (.bool true) ∧ Below w.heap.size w w' := by
  have HS := Lib.hid (St.start hL)
  obtain ⟨A0, n0, c0, rfl, hn0, hx0, hbk0⟩ := hv0
  obtain ⟨A1, n1, c1, rfl, hn1, hx1, hbk1⟩ := hv1
  have hi0 : (n0 : Int) ≤ 3000 := by omega
  have hi1 : (300 : Int) < n1 := by omega
  clear hL hn0 hx0 hbk0 hn1 hx1 hbk1 hb0 hb1 hc1
  go_enter Tryd.func10, Tryd.ntmps10
  go_wp2_with fail
  refine (st_expands HS.out).mono ?_
  rintro e w1 ⟨rfl, hs⟩
  have HS1 := Lib.hid hs
  clear hs
  go_wp2_with fail
  refine (st_expands HS1.out).mono ?_
  rintro e w2 ⟨rfl, hs⟩
  have HS2 := Lib.hid hs
  clear hs
  go_wp2
  go_ret
  exact ⟨rfl, HS2.out.below⟩

set_option maxRecDepth 100000 in
set_option maxHeartbeats 0 in
theorem hkdfBlocks_small {w : World} {v x : Value} {l m : List UInt8} {k : Int} (hL : Laid w) (hv : Bs (fun k => k < w.heap.size) w v l) (hx : Bs (fun k => k < w.heap.size) w x m) (hb : l.length ≤ 3000) (hb2 : m.length ≤ 300) : Calls Tryd.prog 10 #[v, x, .int .i64 k] w fun e w' => e = .returned (.bool true) ∧ Below w.heap.size w w' := by
  have HS := Lib.hid (St.start hL)
  have HV := Lib.hid hv
  have HX := Lib.hid hx
  have hk : 0 ≤ IntKind.u64.wrap k := u64_ge k
  obtain ⟨i0, hi0, hz0, hz1, hz2⟩ := info_parts info5
  obtain ⟨A, n, c, rfl, hn, hc, hbk⟩ := hv
  obtain ⟨A', n', c', rfl, hn', hc', hbk'⟩ := hx
  have hn5 : (n : Int) ≤ 3000 := by omega
  have hn6 : (n' : Int) ≤ 300 := by omega
  have HL2 : Hid (l.length ≤ 3000 ∧ m.length ≤ 300) := ⟨hb, hb2⟩
  clear hc hbk hL hc' hbk' hn hn' hb hb2
  obtain ⟨N, hN, hN1, hN2⟩ : ∃ N : Nat, 1 + IntKind.u64.wrap k % 12 = (N : Int) ∧ 0 < N ∧ N ≤ 12 := ⟨(1 + IntKind.u64.wrap k % 12).toNat, by omega, by omega, by omega⟩
  obtain ⟨M, hM⟩ : ∃ M : Nat, 32 * (N : Int) = (M : Int) := ⟨32 * N, by omega⟩
  have hM3 : M = 32 * N := by omega
  have HM3 := Lib.hid hM3
  have hM4 : (M : Int) ≤ 384 := by omega
  clear hM3
  go_enter Tryd.func10, Tryd.ntmps10
  go_wp2_with fail
  refine (st_expands HS.out).mono ?_
  rintro e w1 ⟨rfl, hs⟩
  have HS1 := Lib.hid hs
  clear hs
  go_wp2_with fail
  refine (st_expand (N := M) HS1.out (HS1.out.old HV.out) (HS1.out.old HX.out) (by have := HL2.out; omega) (by have := HL2.out; omega) (by omega)).mono ?_
  rintro e w2 ⟨A2, n2, c2, rfl, rfl, ho2, -, hs⟩
  have HS2 := Lib.hid hs
  have HO2 : Hid (Bs (fun _ => True) w2 (.slice A2 n2 c2) (expand l m n2)) := ho2.bs.mono (fun _ _ _ => trivial)
  clear hs ho2 HS1
  go_wp2_with fail
  go_loopw [9, 10] (fun s9 s10 wr => ∃ (j : Nat) (A9 : Option Addr) (n9 c9 : Nat), s10 = .int .i64 j ∧ j ≤ N ∧ s9 = .slice A9 n9 c9 ∧ Below w2.heap.size w2 wr ∧ Bs (fun _ => True) wr (.slice A9 n9 c9) (hkT l m j)) (fun _ s10 _ => N - (intOf s10).toNat)
  case atStart => exact ⟨0, none, 0, 0, rfl, Nat.zero_le _, rfl, Below.refl _ _, none, 0, 0, rfl, rfl, Nat.le_refl _, fun h => absurd h (Nat.lt_irrefl _)⟩
  case round =>
    obtain ⟨j, A9, n9, c9, rfl, hj, rfl, hbw, ht⟩ := hrel
    have HBr := Lib.hid hbw
    have HT := Lib.hid ht
    clear hbw ht
    by_cases hlt : j < N
    · have hlt' : (j : Int) < N := by omega
      have hj12 : (j : Int) ≤ 12 := by omega
      have HPT := Lib.hid (expand_part l m hlt)
      have HLt := Lib.hid (hkT_length l m j)
      have HOr : Hid (Bs (fun _ => True) wr (.slice A2 n2 c2) (expand l m n2)) := HO2.out.keep (S := fun _ => False) (Keep.of_below HBr.out (Nat.le_refl _) _) (fun _ _ => id)
      have HSr := Lib.hid (HS2.out.step HBr.out)
      obtain ⟨y, hy⟩ : ∃ y, y = UInt8.ofNat (j + 1) := ⟨_, rfl⟩
      have hyb : (j : Int) + 1 = ub y := by
        have h := ub_of (j + 1)
        rw [IntKind.wrap_u8] at h
        rw [hy, ← h]
        omega
      have HYB := Lib.hid hyb
      clear hyb
      have HY := Lib.hid hy
      clear hy
      obtain ⟨v9, hcut, hb9⟩ := run_part (P := Tryd.prog) 22 i0 Tryd.underlying22 hi0 hz1 HOr.out (32 * j) (32 * j + 32) (by omega) (by rw [expand_length, HM3.out]; omega)
      have e1 : ((32 * j : Nat) : Int) = 32 * (j : Int) := by omega
      have e2 : ((32 * j + 32 : Nat) : Int) = 32 * (j : Int) + 32 := by omega
      rw [e1, e2] at hcut
      have e3 : 32 * j + 32 - 32 * j = 32 := by omega
      rw [e3] at hb9
      have hb9' : Bs (fun _ => True) wr v9 (hkT l m (j + 1)) := by rw [← HPT.out, ← HM3.out]; exact hb9
      have H9 := Lib.hid hb9'
      obtain ⟨A8, n8, c8, rfl, -, -, -⟩ := hb9'
      clear e1 e2 e3 hlt hb9
      obtain ⟨wa, hwa⟩ : ∃ wa, wa = wr.alloc (.cells #[] 5) := ⟨_, rfl⟩
      have HC0 : Hid (Ch wr wa (.slice (some ⟨wr.heap.size, 0, none⟩) 0 0) []) := by rw [hwa]; exact Ch.lit wr
      have HWA := Lib.hid hwa
      clear hwa
      have HD : Hid (∀ W : World, Bs (fun _ => True) (W.alloc (.cells #[.int .u8 ((j : Int) + 1)] 5)) (.slice (some ⟨W.heap.size, 0, none⟩) 1 1) [y]) := fun W => by rw [HYB.out]; exact (bs_new W y).mono (fun _ _ _ => trivial)
      go_wp2_with (first
        | (at_builtin; rw [← HWA.out]; refine wpList_app (o := ⟨some 55, _, _, _, _, _⟩) (by rfl) (.tmp 53) (.tmp 54) (by rfl) (by rfl) (by rfl) HC0.out (HC0.out.old HT.out) (by have := HLt.out; simp; omega) ?_; intro A1 n1 c1 w1 hn1 hc1 hk1; have HC1 := Lib.hid hc1; clear hc1 hn1 hk1)
        | (at_builtin; refine wpList_app (o := ⟨some 57, _, _, _, _, _⟩) (by rfl) (.tmp 55) (.tmp 56) (by rfl) (by rfl) (by rfl) HC1.out (HC1.out.old (HSr.out.old HX.out)) (by have := HLt.out; have := HL2.out; simp; omega) ?_; intro A3 n3 c3 w3 hn3 hc3 hk3; have HC2 := Lib.hid hc3; clear hc3 hn3 hk3)
        | (at_builtin; refine wpList_app (o := ⟨some 62, _, _, _, _, _⟩) (by rfl) (.tmp 57) (.tmp 61) (by rfl) (by rfl) (by rfl) (HC2.out.alloc _) (HD.out _) (by have := HLt.out; have := HL2.out; simp; omega) ?_; intro A4 n4 c4 w4 hn4 hc4 hk4; have HC3 := Lib.hid hc4; clear hc4 hn4 hk4))
      rw [List.nil_append] at HC3
      have HLen : Hid ((hkT l m j ++ m ++ [y]).length + 64 ≤ 70368744177664) := by
        have := HLt.out; have := HL2.out
        show _ ≤ _
        simp only [List.length_append, List.length_cons, List.length_nil]
        omega
      have HBr4 := Lib.hid HC3.out.below
      have HS4 := Lib.hid (HC3.out.st HSr.out)
      have H94 : Hid (Bs (fun _ => True) w4 (.slice A8 n8 c8) (hkT l m (j + 1))) := HC3.out.old H9.out
      have HD4 : Hid (Bs (fun _ => True) w4 (.slice A4 n4 c4) (hkT l m j ++ m ++ [y])) := HC3.out.bs
      clear HC0 HC1 HC2 HC3 HD HWA HOr HSr HT H9
      refine (st_mac HS4.out (HS4.out.old HV.out) HD4.out (by have := HL2.out; omega) HLen.out).mono ?_
      rintro e w5 ⟨rfl, hb5, hs⟩
      have HTn : Hid (mac l (hkT l m j ++ m ++ [y]) = hkT l m (j + 1)) := by rw [HY.out]; rfl
      rw [HTn.out]
      obtain ⟨b, hsb⟩ : ∃ b, w5.heap.size = b := ⟨_, rfl⟩
      have HB5 : Hid (Below w2.heap.size w2 w5) := (HBr.out.trans (HBr4.out.mono HBr.out.size)).trans (hb5.mono (Nat.le_trans HBr.out.size HBr4.out.size))
      have H95 : Hid (Bs (fun _ => True) w5 (.slice A8 n8 c8) (hkT l m (j + 1))) := H94.out.keep (S := fun _ => False) (Keep.of_below hb5 (Nat.le_refl _) _) (fun _ _ => id)
      clear hs hb5 HBr HBr4 HS4 H94 HD4
      go_wp2_with (refine wpList_keep_sum hsb (by rfl) _ _ (by rfl) (by rfl) (by rfl) ?_; intro w6 h6 hb6; have H6 := Lib.hid h6; have HB6 : Hid (Below w2.heap.size w2 w6) := HB5.out.trans (hb6.mono HB5.out.size); have H96 : Hid (Bs (fun _ => True) w6 (.slice A8 n8 c8) (hkT l m (j + 1))) := H95.out.keep (S := fun _ => False) (Keep.of_below hb6 (Nat.le_refl _) _) (fun _ _ => id); clear h6 hb6)
      clear hsb HB5 H95
      refine region_quiet_grown (by kernel_rfl) (by kernel_rfl) ?_
      show wpQuiet _ _ _ _ _ ⟨_, _⟩
      refine wq_S (Instr.sliceAt 24 (.pointer (some ⟨b, 0, none⟩)) none none none) (by rfl) (by rfl) (v := .slice (some ⟨b, 0, none⟩) 32 32) (fun w' _ => by go_simp) ?_
      go_simp
      refine wg_convert (u := .slice (some ⟨b, 0, none⟩) 32 32) (by rfl) 22 9 (.tmp 71) (by rfl) (by rfl) (fun w' hw' => run_string_bs Tryd.underlying22 Tryd.underlying5 Tryd.underlying9 (bs_row ((hw'.block _ (heap_lt H6.out) (by simp)).trans H6.out) (hkT_pos l m (Nat.succ_pos j)))) ?_
      go_simp
      go_big_quiet_step (fail)
      refine wg_convert (u := .slice A8 n8 c8) (by rfl) 22 9 (.tmp 73) (by rfl) (by rfl) (fun w' hw' => run_string_bs Tryd.underlying22 Tryd.underlying5 Tryd.underlying9 (H96.out.keep (S := fun _ => False) (Keep.of_grown hw' (by simp)) (fun _ _ => id))) ?_
      go_simp
      refine wg_run (v := .bool false) (by rfl) (fun w' _ => by unfold execOp; simp only [Act.eval]; go_simp) ?_
      go_simp
      refine wpQuiet_nil ?_
      intro w7 hw7
      have HB7 : Hid (Below w2.heap.size w2 w7) := HB6.out.trans ⟨hw7.os, hw7.tape, hw7.output, hw7.size, fun i hi => hw7.block i (Nat.lt_of_lt_of_le hi HB6.out.size) (by simp)⟩
      have H97 : Hid (Bs (fun _ => True) w7 (.slice A8 n8 c8) (hkT l m (j + 1))) := H96.out.keep (S := fun _ => False) (Keep.of_grown hw7 (by simp)) (fun _ _ => id)
      clear hw7 HB6 H96 H6
      go_wp2
      go_roundw
      case measure => simp [intOf]; omega
      exact ⟨j + 1, A8, n8, c8, by go_num, by omega, rfl, HB7.out, H97.out⟩
    · obtain rfl : j = N := by omega
      clear hlt
      go_wp2
      go_ret
      exact ⟨rfl, HS2.out.below.trans (HBr.out.mono HS2.out.size)⟩
end Go.Proofs.YtmifegjmmlipbaaDoor
