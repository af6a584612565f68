/-
  The document's Mac tells HMAC; its condition: not more than 2^46 bytes.
-/
import Derived.Test.YtmifegjmmlipbaaDoorCd
import Derived.BigRegion
namespace Go.Proofs.YtmifegjmmlipbaaDoor
open Go.RowKit Go.Rh Sha

/-- A row whose first k bytes are put together with a byte. -/
def xf (c : UInt8) (l : List UInt8) (k j : Nat) : Int := if j < k then ub (at_ l j ^^^ c) else ub (at_ l j)
theorem xf_at (c : UInt8) (l : List UInt8) (k : Nat) : xf c l k k = ub (at_ l k) := by unfold xf; rw [if_neg (by omega)]
theorem xf_upd (c : UInt8) (l : List UInt8) (k j : Nat) : upd (xf c l k) k (ub (at_ l k ^^^ c)) j = xf c l (k + 1) j := by
  unfold upd xf
  by_cases e : j = k
  · subst e; rw [if_pos rfl, if_pos (by omega)]
  · rw [if_neg e]
    by_cases h : j < k
    · rw [if_pos h, if_pos (by omega)]
    · rw [if_neg h, if_neg (by omega)]
theorem xf_zero (c : UInt8) (l : List UInt8) : vals .u8 64 (xf c l 0) = B8 64 l := vals_congr _ _ fun j _ => by unfold xf; rw [if_neg (by omega)]
theorem xf_all (c : UInt8) (l : List UInt8) (h : l.length = 64) : vals .u8 64 (xf c l 64) = B8 64 (xorAll c l) := vals_congr _ _ fun j hj => by
  unfold xf; rw [if_pos hj, at_get (l := l) (by omega), at_get (l := xorAll c l) (by rw [xorAll_length]; omega)]; simp [xorAll]
theorem S8_append (l m : List UInt8) : S8 l ++ S8 m = S8 (l ++ m) := by
  apply ByteArray.ext
  simp [S8]
theorem run_make64 (w : World) : (Instr.makeSlice 22 (.int .i64 64) (.int .i64 64)).run Tryd.prog w = .ok (.slice (some ⟨w.heap.size, 0, none⟩) 64 64) (w.alloc (.cells (vals .u8 64 fun _ => 0) 5)) :=
  run_make_int Tryd.underlying22 info5 64 (by omega) (by omega) w
attribute [local go_sem] run_make64
set_option maxRecDepth 100000 in
set_option maxHeartbeats 0 in
theorem refmac_any (l m : List UInt8) (hb : l.length ≤ 70368744177664) (hb2 : m.length + 64 ≤ 70368744177664) (w : World) :
    Calls Tryd.prog 24 #[.string (S8 l), .string (S8 m)] w fun e w' => e = .returned (.string (S8 (mac l m))) ∧ Below w.heap.size w w' := by
  obtain ⟨i0, hi0, hz0, hz1, hz2⟩ := info_parts info5
  have hs8 : (S8 l).size = l.length := S8_size l
  have hle : (l.length : Int) ≤ 70368744177664 := by omega
  have HB := Lib.hid hb
  have HM := Lib.hid hb2
  clear hb hb2
  go_enter Tryd.func24, Tryd.ntmps24
  go_upto_if 10 with fail
  go_cut [0] (fun s0 wx => s0 = .string (S8 (Sha.keyOf l)) ∧ Hid (Below w.heap.size w wx))
  case first =>
    by_cases h64 : l.length ≤ 64
    · have hn64 : (l.length : Int) ≤ 64 := by omega
      have hk : Sha.keyOf l = l := by unfold Sha.keyOf; rw [if_neg (by omega)]
      have HKK := Lib.hid hk
      clear hk h64
      go_wp2
      go_meet
      exact ⟨by rw [HKK.out], Below.refl _ _⟩
    · have hn64 : (64 : Int) < l.length := by omega
      have hk : Sha.keyOf l = sum l := by unfold Sha.keyOf; rw [if_pos (by omega)]
      have HKK := Lib.hid hk
      clear hk h64
      go_wp2_with fail
      refine (refsum_any l HB.out w).mono ?_
      rintro e w2 ⟨rfl, hb2⟩
      have HB2 := Lib.hid hb2
      clear hb2
      go_wp2
      go_meet
      exact ⟨by rw [HKK.out], HB2.out⟩
  case rest =>
    obtain ⟨rfl, hbc⟩ := hcut
    have HBc : Hid (Below w.heap.size w wc) := hbc
    clear hbc hs8 hle
    obtain ⟨K, hK⟩ : ∃ K, K = Sha.keyOf l := ⟨_, rfl⟩
    have hKl : K.length ≤ 64 := by rw [hK]; exact keyOf_length l
    rw [← hK]
    have HKe := Lib.hid hK
    clear hK
    go_upto_region 3 with fail
    go_cut [5, 6] (fun s5 s6 wx => ∃ g1 g2, s5 = .slice (some ⟨g1, 0, none⟩) 64 64 ∧ s6 = .slice (some ⟨g2, 0, none⟩) 64 64 ∧ g1 ≠ g2 ∧ w.heap.size ≤ g1 ∧ w.heap.size ≤ g2 ∧ Hid (wx.heap[g1]? = some (.cells (vals .u8 64 fun _ => 0) 5 (0, 0))) ∧ Hid (wx.heap[g2]? = some (.cells (vals .u8 64 fun _ => 0) 5 (0, 0))) ∧ Hid (Below w.heap.size w wx))
    case first =>
      go_region
      · go_wp2
        go_meet
        exact ⟨wc.heap.size, wc.heap.size + 1, rfl, rfl, by omega, HBc.out.size, Nat.le_trans HBc.out.size (by omega), (heap2 wc _ _).1, (heap2 wc _ _).2, (((HBc.out.alloc HBc.out.size _).alloc (Nat.le_trans HBc.out.size (by simp)) _)).drew⟩
      · go_wp2
        go_meet
        exact ⟨wc.heap.size + 1, wc.heap.size, rfl, rfl, by omega, Nat.le_trans HBc.out.size (by omega), HBc.out.size, (heap2 wc _ _).2, (heap2 wc _ _).1, (((HBc.out.alloc HBc.out.size _).alloc (Nat.le_trans HBc.out.size (by simp)) _)).drew⟩
    case rest =>
      rename_i wc0
      obtain ⟨g1, g2, rfl, rfl, hne, hg1, hg2, hr1, hr2, hbw⟩ := hcut
      clear HBc
      have HG : Hid (g1 ≠ g2 ∧ w.heap.size ≤ g1 ∧ w.heap.size ≤ g2) := ⟨hne, hg1, hg2⟩
      have HR1 : Hid (wc.heap[g1]? = some (.cells (vals .u8 64 fun _ => 0) 5 (0, 0))) := hr1
      have HR2 : Hid (wc.heap[g2]? = some (.cells (vals .u8 64 fun _ => 0) 5 (0, 0))) := hr2
      have HBc : Hid (Below w.heap.size w wc) := hbw
      have HD := Lib.hid (copied 64 K hKl)
      have HKL := Lib.hid hKl
      have HKB : Hid (K ++ List.replicate (64 - K.length) 0 = keyBlock l) := by rw [HKe.out]; rfl
      clear hne hg1 hg2 hr1 hr2 hbw hKl
      go_wp2_with (first
        | (refine wpList_copy_S8 (o := ⟨some 17, _, _, _, _, _⟩) (by rfl) (.tmp 15) (.tmp 16) 22 9 (by rfl) i0 Tryd.underlying22 hi0 hz1 (by rfl) (by rfl) HR1.out HKL.out (by simp) ?_
           rw [HD.out, HKB.out]
           obtain ⟨w1, hw1⟩ : ∃ w1, w1 = wc.setRow g1 (B8 64 (keyBlock l)) := ⟨_, rfl⟩
           have HQ1 : Hid (w1.heap[g1]? = some (.cells (B8 64 (keyBlock l)) 5 (0, 0))) := by rw [hw1]; exact setRow_heap _ _ _ _ _ _ HR1.out
           have HQ2 : Hid (w1.heap[g2]? = some (.cells (vals .u8 64 fun _ => 0) 5 (0, 0))) := by rw [hw1]; exact (setRow_other _ _ _ _ (fun e => HG.out.1 e.symm)).trans HR2.out
           have HB1 : Hid (Below w.heap.size w w1) := by rw [hw1]; exact below_setRow HBc.out HG.out.2.1 _
           rw [← hw1]
           clear hw1)
        | (refine wpList_copy_S8 (o := ⟨some 20, _, _, _, _, _⟩) (by rfl) (.tmp 18) (.tmp 19) 22 9 (by rfl) i0 Tryd.underlying22 hi0 hz1 (by rfl) (by rfl) HQ2.out HKL.out (by simp) ?_
           rw [HD.out, HKB.out]
           obtain ⟨w2, hw2⟩ : ∃ w2, w2 = w1.setRow g2 (B8 64 (keyBlock l)) := ⟨_, rfl⟩
           have HP1 : Hid (w2.heap[g1]? = some (.cells (B8 64 (keyBlock l)) 5 (0, 0))) := by rw [hw2]; exact (setRow_other _ _ _ _ (fun e => HG.out.1 e)).trans HQ1.out
           have HP2 : Hid (w2.heap[g2]? = some (.cells (B8 64 (keyBlock l)) 5 (0, 0))) := by rw [hw2]; exact setRow_heap _ _ _ _ _ _ HQ2.out
           have HB2 : Hid (Below w.heap.size w w2) := by rw [hw2]; exact below_setRow HB1.out HG.out.2.2 _
           rw [← hw2]
           clear hw2))
      clear HR1 HR2 HBc HQ1 HQ2 HB1 w1 HKB HD HKe HKL
      go_loopw [7] (fun i wr => ∃ k : Nat, i = .int .i64 k ∧ k ≤ 64 ∧ wr.heap[g1]? = some (.cells (vals .u8 64 (xf 0x36 (keyBlock l) k)) 5 (0, 0)) ∧ wr.heap[g2]? = some (.cells (vals .u8 64 (xf 0x5c (keyBlock l) k)) 5 (0, 0)) ∧ Below w.heap.size w wr) (fun i _ => 64 - (intOf i).toNat)
      case atStart => exact ⟨0, rfl, by omega, by rw [xf_zero]; exact HP1.out, by rw [xf_zero]; exact HP2.out, HB2.out⟩
      case round =>
        clear HP1 HP2 HB2
        obtain ⟨k, rfl, hk, hr1, hr2, hbw⟩ := hrel
        have HR1 := Lib.hid hr1
        have HR2 := Lib.hid hr2
        have HBr := Lib.hid hbw
        clear hr1 hr2 hbw
        by_cases hlt : k < 64
        · have hlt' : (k : Int) < 64 := by omega
          have c1 : wr.cell? ⟨g1, k, none⟩ = some (.int .u8 (ub (at_ (keyBlock l) k))) := by rw [cell_vals HR1.out hlt, xf_at]
          have c2 : wr.cell? ⟨g2, k, none⟩ = some (.int .u8 (ub (at_ (keyBlock l) k))) := by rw [cell_vals HR2.out hlt, xf_at]
          have f1 : wr.frozen? ⟨g1, k, none⟩ = false := frozen_of_row _ _ _ _ _ HR1.out
          have f2 : wr.frozen? ⟨g2, k, none⟩ = false := frozen_of_row _ _ _ _ _ HR2.out
          have ex1 : bits .xor .u8 (ub (at_ (keyBlock l) k)) 54 = ub (at_ (keyBlock l) k ^^^ 0x36) := ub_xor _ 0x36
          have ex2 : bits .xor .u8 (ub (at_ (keyBlock l) k)) 92 = ub (at_ (keyBlock l) k ^^^ 0x5c) := ub_xor _ 0x5c
          have hne : g1 ≠ g2 := HG.out.1
          have hne' : g2 ≠ g1 := fun e => hne e.symm
          go_wp2_with fail
          go_region
          have R1 : ∀ y, (((wr.setCell ⟨g1, k, none⟩ (.int .u8 (ub (at_ (keyBlock l) k ^^^ 54)))).setCell ⟨g2, k, none⟩ y).drew).heap[g1]? = some (.cells (vals .u8 64 (xf 0x36 (keyBlock l) (k + 1))) 5 (0, 0)) := fun y =>
            (heap_set_other _ g2 k g1 _ hne).trans ((heap_set_vals _ HR1.out hlt).trans (congrArg (fun r => some (Obj.cells r 5 (0, 0))) (vals_congr _ _ fun j _ => xf_upd 0x36 _ _ _)))
          have R2 : ∀ y, (((wr.setCell ⟨g1, k, none⟩ y).setCell ⟨g2, k, none⟩ (.int .u8 (ub (at_ (keyBlock l) k ^^^ 92)))).drew).heap[g2]? = some (.cells (vals .u8 64 (xf 0x5c (keyBlock l) (k + 1))) 5 (0, 0)) := fun y =>
            (heap_set_vals _ ((heap_set_other _ g1 k g2 _ hne').trans HR2.out) hlt).trans (congrArg (fun r => some (Obj.cells r 5 (0, 0))) (vals_congr _ _ fun j _ => xf_upd 0x5c _ _ _))
          have HQ1 := Lib.hid R1
          have HQ2 := Lib.hid R2
          clear R1 R2
          go_wp2
          go_roundw
          case measure => simp [intOf]; omega
          exact ⟨k + 1, by go_num, by omega, HQ1.out _, HQ2.out _, ((HBr.out.setCell (p := ⟨g1, k, none⟩) HG.out.2.1 _).setCell (p := ⟨g2, k, none⟩) HG.out.2.2 _).drew⟩
        · obtain rfl : k = 64 := by omega
          have HE1 : Hid (wr.heap[g1]? = some (.cells (B8 64 (xorAll 0x36 (keyBlock l))) 5 (0, 0))) := by rw [← xf_all _ _ (keyBlock_length l)]; exact HR1.out
          have HE2 : Hid (wr.heap[g2]? = some (.cells (B8 64 (xorAll 0x5c (keyBlock l))) 5 (0, 0))) := by rw [← xf_all _ _ (keyBlock_length l)]; exact HR2.out
          clear HR1 HR2 hlt
          go_wp2_with fail
          have hX := xorAll_length 0x36 (keyBlock l)
          have hY := xorAll_length 0x5c (keyBlock l)
          rw [keyBlock_length] at hX hY
          have HXL := Lib.hid hX
          have HYL := Lib.hid hY
          clear hX hY
          refine region_tail_grown 10 50 (by kernel_rfl) (by rfl) (by kernel_rfl) (by kernel_rfl) ?_
          simp only [List.take_succ_cons, List.take_zero, List.drop_succ_cons, List.drop_zero]
          show wpQuiet _ _ _ _ _ ⟨_, _⟩
          go_big_quiet_step (fail)
          refine wq_convert (u := .slice (some ⟨g2, 0, none⟩) 64 64) (by rfl) 22 9 (.tmp 41) (by rfl) (by rfl) (fun w' hw' => run_string_bs Tryd.underlying22 Tryd.underlying5 Tryd.underlying9 (bs_row ((hw'.block _ (heap_lt HE2.out) (by simp)).trans HE2.out) HYL.out)) ?_
          go_simp
          go_big_quiet_step (fail)
          refine wq_convert (u := .slice (some ⟨g1, 0, none⟩) 64 64) (by rfl) 22 9 (.tmp 43) (by rfl) (by rfl) (fun w' hw' => run_string_bs Tryd.underlying22 Tryd.underlying5 Tryd.underlying9 (bs_row ((hw'.block _ (heap_lt HE1.out) (by simp)).trans HE1.out) HXL.out)) ?_
          go_simp
          go_big_quiet_step (fail)
          refine wq_run (v := .string (S8 (xorAll 0x36 (keyBlock l) ++ m))) (by rfl) (fun w' _ => by unfold execOp; simp only [Act.eval]; go_simp; rw [S8_size, S8_size, if_neg (by rw [HXL.out]; have := HM.out; omega), S8_append]) ?_
          go_simp
          refine wq_call (vs := #[.string (S8 (xorAll 0x36 (keyBlock l) ++ m))]) (by rfl) (by rfl) (by simp [Act.eval]) Tryd.func17 (by kernel_rfl) (by rfl) (v := .string (S8 (sum (xorAll 0x36 (keyBlock l) ++ m)))) (fun w' hw' => ?_) ?_
          · refine (refsum_any _ (by rw [List.length_append, HXL.out]; have := HM.out; omega) w').mono ?_
            rintro e w'' ⟨rfl, hb'⟩
            exact ⟨rfl, grown_trans hw' (grown_below none hb' (Nat.le_refl _))⟩
          go_simp
          refine wq_run (v := .string (S8 (xorAll 0x5c (keyBlock l) ++ sum (xorAll 0x36 (keyBlock l) ++ m)))) (by rfl) (fun w' _ => by unfold execOp; simp only [Act.eval]; go_simp; rw [S8_size, S8_size, if_neg (by rw [HYL.out, sum_length]; decide), S8_append]) ?_
          go_simp
          refine wq_call (vs := #[.string (S8 (xorAll 0x5c (keyBlock l) ++ sum (xorAll 0x36 (keyBlock l) ++ m)))]) (by rfl) (by rfl) (by simp [Act.eval]) Tryd.func17 (by kernel_rfl) (by rfl) (v := .string (S8 (mac l m))) (fun w' hw' => ?_) ?_
          · refine (refsum_any _ (by rw [List.length_append, HYL.out, sum_length]; omega) w').mono ?_
            rintro e w'' ⟨rfl, hb'⟩
            exact ⟨rfl, grown_trans hw' (grown_below none hb' (Nat.le_refl _))⟩
          go_simp
          go_big_quiet_step (fail)
          refine wpQuiet_nil ?_
          intro wb hwb
          have HBL : Hid (Below w.heap.size w wb) := HBr.out.trans ⟨hwb.os, hwb.tape, hwb.output, hwb.size, fun i hi => hwb.block i (Nat.lt_of_lt_of_le hi HBr.out.size) (by simp)⟩
          clear hwb
          go_wp2
          go_ret
          exact ⟨rfl, HBL.out⟩
end Go.Proofs.YtmifegjmmlipbaaDoor
