/-
  ShaChain: the walk.
-/
import Derived.Test.YtmifegjmmlipbaaDoorCg
namespace Go.Proofs.YtmifegjmmlipbaaDoor
open Go.RowKit Go.Rh Sha

/-- A row of which the first k bytes are made: a block's, put together with a byte. -/
def yf (c : UInt8) (l : List UInt8) (k j : Nat) : Int := if j < k then ub (at_ l j ^^^ c) else 0
theorem yf_at (c : UInt8) (l : List UInt8) (k : Nat) : yf c l k k = 0 := by unfold yf; rw [if_neg (by omega)]
theorem yf_upd (c : UInt8) (l : List UInt8) (k j : Nat) : upd (yf c l k) k (ub (at_ l k ^^^ c)) j = yf c l (k + 1) j := by
  unfold upd yf
  by_cases e : j = k
  · subst e; rw [if_pos rfl, if_pos (by omega)]
  · rw [if_neg e]
    by_cases h : j < k
    · rw [if_pos h, if_pos (by omega)]
    · rw [if_neg h, if_neg (by omega)]
theorem yf_zero (c : UInt8) (l : List UInt8) : vals .u8 64 (yf c l 0) = vals .u8 64 fun _ => 0 := vals_congr _ _ fun j _ => by unfold yf; rw [if_neg (by omega)]
theorem yf_all (c : UInt8) (l : List UInt8) (h : l.length = 64) : vals .u8 64 (yf c l 64) = B8 64 (xorAll c l) := vals_congr _ _ fun j hj => by
  unfold yf; rw [if_pos hj, at_get (l := l) (by omega), at_get (l := xorAll c l) (by rw [xorAll_length]; omega)]; simp [xorAll]
theorem at_block_in {K : List UInt8} (hK : K.length ≤ 64) {k : Nat} (h : k < K.length) : at_ (keyBlock K) k = at_ K k := by
  rw [← keyBlock_short hK, at_append_left h]
theorem at_block_out {K : List UInt8} (hK : K.length ≤ 64) {k : Nat} (h : K.length ≤ k) (h2 : k < 64) : at_ (keyBlock K) k = 0 := by
  rw [← keyBlock_short hK]
  unfold at_
  rw [List.getD_eq_getElem?_getD, List.getElem?_append_right h, List.getElem?_replicate, if_pos (by omega)]
  rfl
theorem zeros_row (n : Nat) : (vals .u8 n fun _ => 0) = B8 n (List.replicate n 0) := vals_congr _ _ fun j hj => by
  rw [at_get (by simp; exact hj)]; simp; rfl
theorem mac_short {K m : List UInt8} (h : K.length ≤ 64) : sum (xorAll 0x5c (keyBlock K) ++ sum (xorAll 0x36 (keyBlock K) ++ m)) = mac K m := rfl
attribute [local go_sem] run_make64

set_option maxRecDepth 100000 in
set_option maxHeartbeats 0 in
theorem shaChain_small {w : World} {v x : Value} {l m : List UInt8} {k : Int} (hL : Laid w) (hv : Bs (fun k => k < w.heap.size) w v l) (hx : Bs (fun k => k < w.heap.size) w x m) (hl : l.length ≤ 140737488355328) (hb2 : m.length ≤ 3000) : Calls Tryd.prog 8 #[v, x, .int .i64 k] w fun e w' => e = .returned (.bool true) ∧ Below w.heap.size w w' := by
  have HS := Lib.hid (St.start hL)
  have HV := Lib.hid hv
  have HX := Lib.hid hx
  have hk : 0 ≤ IntKind.u64.wrap k := u64_ge k
  obtain ⟨A, n, c, rfl, hn, hc, hbk⟩ := hv
  obtain ⟨A', n', c', rfl, hn', hc', hbk'⟩ := hx
  have hn6 : (n' : Int) ≤ 3000 := by omega
  have hn5 : (n : Int) ≤ 140737488355328 := by omega
  have HN := Lib.hid hn
  have HM : Hid (m.length ≤ 3000) := hb2
  clear hc hbk hL hc' hbk' hn hn' hb2 hl
  obtain ⟨i0, hi0, hz0, hz1, hz2⟩ := info_parts info5
  obtain ⟨N, hN, hN1, hN2⟩ : ∃ N : Nat, min (n : Int) 64 = (N : Int) ∧ N ≤ n ∧ N ≤ 64 := ⟨min n 64, by omega, by omega, by omega⟩
  obtain ⟨M, hM, hM1⟩ : ∃ M : Nat, IntKind.u64.wrap k % 65 = (M : Int) ∧ M ≤ 64 := ⟨(IntKind.u64.wrap k % 65).toNat, by omega, by omega⟩
  obtain ⟨y, hcut, hy⟩ := run_first (P := Tryd.prog) 22 i0 Tryd.underlying22 hi0 hz1 HV.out N (by rw [← HN.out]; exact hN1)
  have hKl : (l.take N).length = N := by rw [List.length_take, ← HN.out]; omega
  obtain ⟨K, hK⟩ : ∃ K, K = l.take N := ⟨_, rfl⟩
  rw [← hK] at hy hKl
  clear hK
  have HY := Lib.hid hy
  obtain ⟨A2, n2, c2, rfl, hn2, hc2, hbk2⟩ := hy
  obtain rfl : n2 = N := by omega
  have HK : Hid (K.length = n2 ∧ K.length ≤ 64) := ⟨hKl, by omega⟩
  have HBK : Hid (0 < n2 → ∃ b off, A2 = some ⟨b, off, none⟩ ∧ b < w.heap.size ∧ ∀ j, j < n2 → w.cell? ⟨b, off + j, none⟩ = some (.int .u8 (ub (at_ K j)))) := hbk2
  have HCUT := Lib.hid hcut
  have HMIN := Lib.hid hN
  clear hKl hn2 hc2 hbk2 hcut hN
  go_enter Tryd.func8, Tryd.ntmps8
  go_wp2_with fail
  refine (st_digests HS.out).mono ?_
  rintro e w1 ⟨rfl, hs⟩
  have HS1 := Lib.hid hs
  clear hs
  go_upto_region 3 with fail
  go_cut [0] (fun s0 wx => s0 = .slice A2 n2 c2 ∧ wx = w1)
  case first =>
    by_cases h64 : (n : Int) ≤ 64
    · have e : (n2 : Int) = n := by have := HMIN.out; omega
      have hcA := HCUT.out
      rw [e] at hcA
      clear e
      go_wp2
      go_meet
      exact ⟨rfl, rfl⟩
    · have h64' : (64 : Int) < n := by omega
      have e : (n2 : Int) = 64 := by have := HMIN.out; omega
      have hcA := HCUT.out
      rw [e] at hcA
      clear e h64
      go_wp2
      go_meet
      exact ⟨rfl, rfl⟩
  case rest =>
    obtain ⟨rfl, rfl⟩ := hcut
    go_upto_region 4 with fail
    go_cut [7, 8] (fun s5 s6 wx => ∃ g1 g2, s5 = .slice (some ⟨g1, 0, none⟩) 64 64 ∧ s6 = .slice (some ⟨g2, 0, none⟩) 64 64 ∧ g1 ≠ g2 ∧ w.heap.size ≤ g1 ∧ w.heap.size ≤ g2 ∧ Hid (wx.heap[g1]? = some (.cells (vals .u8 64 fun _ => 0) 5 (0, 0))) ∧ Hid (wx.heap[g2]? = some (.cells (vals .u8 64 fun _ => 0) 5 (0, 0))) ∧ Hid (Below w.heap.size w wx))
    case first =>
      have HBc := Lib.hid HS1.out.below
      go_region
      · go_wp2
        go_meet
        exact ⟨wc.heap.size, wc.heap.size + 1, rfl, rfl, by omega, HBc.out.size, Nat.le_trans HBc.out.size (by omega), (heap2 wc _ _).1, (heap2 wc _ _).2, (((HBc.out.alloc HBc.out.size _).alloc (Nat.le_trans HBc.out.size (by simp)) _)).drew⟩
      · go_wp2
        go_meet
        exact ⟨wc.heap.size + 1, wc.heap.size, rfl, rfl, by omega, Nat.le_trans HBc.out.size (by omega), HBc.out.size, (heap2 wc _ _).2, (heap2 wc _ _).1, (((HBc.out.alloc HBc.out.size _).alloc (Nat.le_trans HBc.out.size (by simp)) _)).drew⟩
    case rest =>
      rename_i w1
      obtain ⟨g1, g2, rfl, rfl, hne, hg1, hg2, hr1, hr2, hbw⟩ := hcut
      have HG : Hid (g1 ≠ g2 ∧ w.heap.size ≤ g1 ∧ w.heap.size ≤ g2) := ⟨hne, hg1, hg2⟩
      have HR1 : Hid (wc.heap[g1]? = some (.cells (vals .u8 64 fun _ => 0) 5 (0, 0))) := hr1
      have HR2 : Hid (wc.heap[g2]? = some (.cells (vals .u8 64 fun _ => 0) 5 (0, 0))) := hr2
      have HBc : Hid (Below w.heap.size w wc) := hbw
      have HLw := Lib.hid HS.out.laid
      clear hne hg1 hg2 hr1 hr2 hbw HS1 HS
      go_wp2_with fail
      go_loopw [9, 10] (fun i _ wr => ∃ k : Nat, i = .int .i64 k ∧ k ≤ 64 ∧ wr.heap[g1]? = some (.cells (vals .u8 64 (yf 0x36 (keyBlock K) k)) 5 (0, 0)) ∧ wr.heap[g2]? = some (.cells (vals .u8 64 (yf 0x5c (keyBlock K) k)) 5 (0, 0)) ∧ Below w.heap.size w wr) (fun i _ _ => 64 - (intOf i).toNat)
      case atStart => exact ⟨0, rfl, by omega, by rw [yf_zero]; exact HR1.out, by rw [yf_zero]; exact HR2.out, HBc.out⟩
      case round =>
        clear HR1 HR2 HBc
        obtain ⟨j, rfl, hj, hr1, hr2, hbw⟩ := hrel
        have HR1 := Lib.hid hr1
        have HR2 := Lib.hid hr2
        have HBr := Lib.hid hbw
        clear hr1 hr2 hbw
        by_cases hlt : j < 64
        · have hlt' : (j : Int) < 64 := by omega
          have c1 : wr.cell? ⟨g1, j, none⟩ = some (.int .u8 0) := by rw [cell_vals HR1.out hlt, yf_at]
          have c2 : wr.cell? ⟨g2, j, none⟩ = some (.int .u8 0) := by rw [cell_vals HR2.out hlt, yf_at]
          have f1 : wr.frozen? ⟨g1, j, none⟩ = false := frozen_of_row _ _ _ _ _ HR1.out
          have f2 : wr.frozen? ⟨g2, j, none⟩ = false := frozen_of_row _ _ _ _ _ HR2.out
          have hne : g1 ≠ g2 := HG.out.1
          have hne' : g2 ≠ g1 := fun e => hne e.symm
          have R1 : ∀ y, ((wr.setCell ⟨g1, j, none⟩ (.int .u8 (ub (at_ (keyBlock K) j ^^^ 54)))).setCell ⟨g2, j, none⟩ y).heap[g1]? = some (.cells (vals .u8 64 (yf 0x36 (keyBlock K) (j + 1))) 5 (0, 0)) := fun y =>
            (heap_set_other _ g2 j g1 _ hne).trans ((heap_set_vals _ HR1.out hlt).trans (congrArg (fun r => some (Obj.cells r 5 (0, 0))) (vals_congr _ _ fun j _ => yf_upd 0x36 _ _ _)))
          have R2 : ∀ y, ((wr.setCell ⟨g1, j, none⟩ y).setCell ⟨g2, j, none⟩ (.int .u8 (ub (at_ (keyBlock K) j ^^^ 92)))).heap[g2]? = some (.cells (vals .u8 64 (yf 0x5c (keyBlock K) (j + 1))) 5 (0, 0)) := fun y =>
            (heap_set_vals _ ((heap_set_other _ g1 j g2 _ hne').trans HR2.out) hlt).trans (congrArg (fun r => some (Obj.cells r 5 (0, 0))) (vals_congr _ _ fun j _ => yf_upd 0x5c _ _ _))
          have HQ1 := Lib.hid R1
          have HQ2 := Lib.hid R2
          clear R1 R2
          by_cases hjn : j < n2
          · obtain ⟨b, off, rfl, hbw, hcell⟩ := HBK.out (by omega)
            have hjn' : (j : Int) < n2 := by omega
            have ek : at_ (keyBlock K) j = at_ K j := at_block_in HK.out.2 (by rw [HK.out.1]; exact hjn)
            have c0 : wr.cell? ⟨b, off + j, none⟩ = some (.int .u8 (ub (at_ (keyBlock K) j))) := by rw [ek]; exact (World.cell?_of_block (HBr.out.block b hbw)).trans (hcell j hjn)
            have ex1 : bits .xor .u8 (ub (at_ (keyBlock K) j)) 54 = ub (at_ (keyBlock K) j ^^^ 0x36) := ub_xor _ 0x36
            have ex2 : bits .xor .u8 (ub (at_ (keyBlock K) j)) 92 = ub (at_ (keyBlock K) j ^^^ 0x5c) := ub_xor _ 0x5c
            clear hcell hbw ek hjn
            go_wp2
            go_roundw
            case measure => simp [intOf]; omega
            exact ⟨j + 1, by go_num, by omega, HQ1.out _, HQ2.out _, (HBr.out.setCell (p := ⟨g1, j, none⟩) HG.out.2.1 _).setCell (p := ⟨g2, j, none⟩) HG.out.2.2 _⟩
          · have hjn' : (n2 : Int) ≤ j := by omega
            have ek : at_ (keyBlock K) j = 0 := at_block_out HK.out.2 (by rw [HK.out.1]; omega) hlt
            have ex1 : bits .xor .u8 (0 : Int) 54 = ub (at_ (keyBlock K) j ^^^ 0x36) := by rw [ek]; rfl
            have ex2 : bits .xor .u8 (0 : Int) 92 = ub (at_ (keyBlock K) j ^^^ 0x5c) := by rw [ek]; rfl
            clear ek hjn
            go_wp2
            go_roundw
            case measure => simp [intOf]; omega
            exact ⟨j + 1, by go_num, by omega, HQ1.out _, HQ2.out _, (HBr.out.setCell (p := ⟨g1, j, none⟩) HG.out.2.1 _).setCell (p := ⟨g2, j, none⟩) HG.out.2.2 _⟩
        · obtain rfl : j = 64 := by omega
          have HE1 : Hid (Bs (fun k => k < wr.heap.size) wr (.slice (some ⟨g1, 0, none⟩) 64 64) (xorAll 0x36 (keyBlock K))) := (bs_row (by rw [← yf_all _ _ (keyBlock_length K)]; exact HR1.out) (by rw [xorAll_length, keyBlock_length])).mono (fun i hi _ => hi)
          have HE2 : Hid (Bs (fun k => k < wr.heap.size) wr (.slice (some ⟨g2, 0, none⟩) 64 64) (xorAll 0x5c (keyBlock K))) := (bs_row (by rw [← yf_all _ _ (keyBlock_length K)]; exact HR2.out) (by rw [xorAll_length, keyBlock_length])).mono (fun i hi _ => hi)
          have HXr : Hid (Bs (fun k => k < wr.heap.size) wr (.slice A' n' c') m) := (HX.out.keep (S := fun _ => False) (Keep.of_below HBr.out (Nat.le_refl _) _) (fun _ _ => id)).mono (fun i hi _ => hi)
          have HYr : Hid (Bs (fun k => k < wr.heap.size) wr (.slice A2 n2 c2) K) := (HY.out.keep (S := fun _ => False) (Keep.of_below HBr.out (Nat.le_refl _) _) (fun _ _ => id)).mono (fun i hi _ => hi)
          have HSr := Lib.hid (St.start (HLw.out.below HBr.out (Nat.le_refl _)))
          have HKL : Hid ((xorAll 0x36 (keyBlock K)).length = 64 ∧ (xorAll 0x5c (keyBlock K)).length = 64) := ⟨by rw [xorAll_length, keyBlock_length], by rw [xorAll_length, keyBlock_length]⟩
          clear HR1 HR2 hlt
          go_wp2_with fail
          refine (st_new HSr.out).mono ?_
          rintro e w2 ⟨a, rfl, -, -, hs⟩
          have HS2 := Lib.hid hs
          clear hs
          go_wp2_with fail
          refine (st_write_old HS2.out HE1.out (by rw [HKL.out.1, List.length_nil]; omega)).mono ?_
          rintro e w3 ⟨rfl, q3, hs⟩
          have HS3 := Lib.hid hs
          clear hs HS2
          go_wp2_with fail
          refine (st_write_old HS3.out HXr.out (by have := HM.out; rw [List.nil_append, HKL.out.1]; omega)).mono ?_
          rintro e w4 ⟨rfl, q4, hs⟩
          have HS4 := Lib.hid hs
          clear hs HS3
          rw [List.nil_append] at HS4
          go_wp2_with fail
          refine (st_sum HS4.out (by have := HM.out; rw [List.length_append, HKL.out.1]; omega)).mono ?_
          rintro e w5 ⟨rfl, -, hs⟩
          obtain ⟨d, hd⟩ : ∃ d, w5.heap.size = d := ⟨_, rfl⟩
          have HS5 := Lib.hid hs.forget
          clear hs HS4
          go_wp2_with (refine wpList_keep_sum hd (by rfl) _ _ (by rfl) (by rfl) (by rfl) ?_; intro w6 h6 hs6; have K6 := Lib.hid h6; have HS6 := Lib.hid (HS5.out.step hs6); clear h6 hs6)
          clear hd HS5
          have HD6 : Hid (Bs (fun k => k < w6.heap.size) w6 (.slice (some ⟨d, 0, none⟩) 32 32) (sum (xorAll 0x36 (keyBlock K) ++ m))) := (bs_row K6.out (sum_length _)).mono (fun i hi _ => hi)
          have HT6 := Lib.hid (St.start HS6.out.laid)
          have HF2 : Hid (Bs (fun k => k < w6.heap.size) w6 (.slice (some ⟨g2, 0, none⟩) 64 64) (xorAll 0x5c (keyBlock K))) := (HS6.out.old HE2.out).mono (fun i hi _ => hi)
          have HX6 : Hid (Bs (fun k => k < w6.heap.size) w6 (.slice A' n' c') m) := (HS6.out.old HXr.out).mono (fun i hi _ => hi)
          have HY6 : Hid (Bs (fun k => k < w6.heap.size) w6 (.slice A2 n2 c2) K) := (HS6.out.old HYr.out).mono (fun i hi _ => hi)
          have HB6 : Hid (Below w.heap.size w w6) := HBr.out.trans (HS6.out.below.mono HBr.out.size)
          clear K6 HE1 HE2 HXr HYr HSr HS6
          refine (st_new HT6.out).mono ?_
          rintro e w7 ⟨a2, rfl, -, -, hs⟩
          have HT7 := Lib.hid hs
          clear hs
          go_wp2_with fail
          refine (st_write_old HT7.out HF2.out (by rw [HKL.out.2, List.length_nil]; omega)).mono ?_
          rintro e w8 ⟨rfl, q8, hs⟩
          have HT8 := Lib.hid hs
          clear hs HT7
          rw [List.nil_append] at HT8
          go_wp2_with fail
          refine (st_write_old HT8.out HD6.out (by rw [HKL.out.2, sum_length]; decide)).mono ?_
          rintro e w9 ⟨rfl, q9, hs⟩
          have HT9 := Lib.hid hs
          clear hs HT8
          go_wp2_with fail
          refine (st_sum HT9.out (by rw [List.length_append, HKL.out.2, sum_length]; decide)).mono ?_
          rintro e w10 ⟨rfl, -, hs⟩
          have HT10 := Lib.hid hs.forget
          clear hs HT9
          rw [mac_short HK.out.2]
          go_wp2_with fail
          refine (st_mac HT10.out (HT10.out.old HY6.out) (HT10.out.old HX6.out) (by have := HK.out; omega) (by have := HM.out; omega)).mono ?_
          rintro e w11 ⟨rfl, -, hs⟩
          have HT11 := Lib.hid hs
          clear hs HT10
          have heq := run_equalIn_B8 (mac K m) (mac K m) (mac_length K m) (mac_length K m)
          rw [beq_self_eq_true] at heq
          have hmake : ∀ W : World, (Instr.makeSlice 22 (.int .i64 (M : Int)) (.int .i64 (M : Int))).run Tryd.prog W = .ok (.slice (some ⟨W.heap.size, 0, none⟩) M M) (W.alloc (.cells (vals .u8 M fun _ => 0) 5)) := fun W => run_make_int Tryd.underlying22 info5 M (by omega) (by omega) W
          go_wp2_with fail
          have HMM : Hid (mac (List.replicate M 0) m = mac [] m) := mac_zeros M hM1 m
          refine (st_mac (HT11.out.alloc _) (bs_row ((heap_alloc_new w11 _).trans (congrArg (fun r => some (Obj.cells r 5 (0, 0))) (zeros_row M))) (by simp)) ((HT11.out.alloc _).old HX6.out) (by rw [List.length_replicate]; omega) (by have := HM.out; omega)).mono ?_
          rintro e w12 ⟨rfl, -, hs⟩
          rw [HMM.out]
          obtain ⟨Z, hZ⟩ : ∃ Z, Z = mac [] m := ⟨_, rfl⟩
          have hZl : Z.length = 32 := by rw [hZ]; exact mac_length [] m
          rw [← hZ]
          have HZ := Lib.hid hZ
          clear hZ
          have HT12 := Lib.hid hs
          clear hs HT11
          have heq2 := run_equalIn_B8 Z Z hZl hZl
          rw [beq_self_eq_true] at heq2
          go_wp2_with fail
          refine (st_mac (ok := fun _ => False) (l := []) HT12.out ⟨_, _, _, rfl, rfl, Nat.le_refl _, fun h => absurd h (Nat.lt_irrefl _)⟩ (HT12.out.old HX6.out) (Nat.zero_le _) (by have := HM.out; omega)).mono ?_
          rintro e w13 ⟨rfl, -, hs⟩
          rw [← HZ.out]
          have HT13 := Lib.hid hs
          clear hs HT12
          go_wp2
          go_ret
          exact ⟨rfl, HB6.out.trans (HT13.out.below.mono HB6.out.size)⟩
set_option maxRecDepth 100000 in
theorem shaChain_big {w : World} {v x : Value} {l m : List UInt8} {k : Int} {ok ok' : Nat → Prop} (hL : Laid w) (hv : Bs ok w v l) (hx : Bs ok' w x m) (hm : 3000 < m.length) (hb2 : m.length ≤ 140737488355328) : Calls Tryd.prog 8 #[v, x, .int .i64 k] w fun e w' => e = .returned (.bool true) ∧ Below w.heap.size w w' := by
  have HS := Lib.hid (St.start hL)
  obtain ⟨A, n, c, rfl, hn, hc, hbk⟩ := hv
  obtain ⟨A', n', c', rfl, hn', hc', hbk'⟩ := hx
  have hn6 : (3000 : Int) < n' := by omega
  clear hc hbk hL hc' hbk' hn hn' hb2 hm
  go_enter Tryd.func8, Tryd.ntmps8
  go_wp2_with fail
  refine (st_digests HS.out).mono ?_
  rintro e w1 ⟨rfl, hs⟩
  have HS1 := Lib.hid hs
  clear hs
  go_wp2_with fail
  refine (st_digests HS1.out).mono ?_
  rintro e w2 ⟨rfl, hs⟩
  have HS2 := Lib.hid hs
  clear hs
  go_wp2
  go_ret
  exact ⟨rfl, HS2.out.below⟩
end Go.Proofs.YtmifegjmmlipbaaDoor
