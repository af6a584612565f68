/-
  CurveShares, walked: of all bytes the call returns true; no condition.
-/
import Derived.Test.YtikmghmapmlebaaYr
namespace Go.Proofs.Ytikmghmapmlebaa
open Go.RowKit Go.Rh F255
open Go.Extern.Stop (cell)
attribute [local go_sem] build9 build0 build1 box22 alloc22

set_option maxRecDepth 100000 in
set_option maxHeartbeats 1000000 in
theorem cshares_any (ga gb : Nat → Nat) (hga : ∀ j, j < 32 → ga j < 256) (hgb : ∀ j, j < 32 → gb j < 256) (w : World) :
    Calls Try.prog 12 #[.agg (U8 ga), .agg (U8 gb)] w fun e w' => e = .returned (.bool true) ∧ Below w.heap.size w w' := by
  have hga := Lib.hid hga
  have hgb := Lib.hid hgb
  have L0 : Hid (((w.alloc (.cells (U8 ga) 22)).alloc (.cells (U8 gb) 22)).heap[w.heap.size]? = some (.cells (U8 ga) 22 (0, 0))) := Lib.hid (by ((simp only [heap_push, World.size_alloc, if_true]; repeat' split); all_goals (first | rfl | (exfalso; omega))))
  have L1 : Hid (((w.alloc (.cells (U8 ga) 22)).alloc (.cells (U8 gb) 22)).heap[w.heap.size + 1]? = some (.cells (U8 gb) 22 (0, 0))) := Lib.hid (by ((simp only [heap_push, World.size_alloc, if_true]; repeat' split); all_goals (first | rfl | (exfalso; omega))))
  have LB : Hid (Below w.heap.size w ((w.alloc (.cells (U8 ga) 22)).alloc (.cells (U8 gb) 22))) := Lib.hid (by go_grown)
  go_enter Try.func12, Try.ntmps12
  go_wp2_with fail
  generalize hW : World.alloc _ _ = w2 at L0 L1 LB ⊢
  clear hW
  refine region_kk _ 53 [.eq (.agg (U8 ga)), .eq (.agg (U8 (xB (TM (xF nine) ga)))), .eq (.agg (U8 gb)), .eq (.agg (U8 (xB (TM (xF nine) gb)))), .new w2.heap.size (.cells (U8 fun _ => 0) 22), .new w2.heap.size (.cells (U8 fun _ => 0) 22)] (by kernel_rfl) (by rfl) (by kernel_rfl) (by kernel_rfl) (fun x1 hw => ?_) (fun vs v hg hv hap => ?_)
  · refine ⟨?_, ?_, ?_, ?_, ?_, ?_, trivial⟩
    · intro a x2 hg hsp hd K hK
      replace hg := grown_trans hw hg
      have e1 : a.tmps[2]? = some (.pointer (some ⟨w.heap.size, 0, none⟩)) := (hsp 2 (by kernel_rfl)).trans rfl
      exact at_row (wanted_free rfl) rfl e1 ((hg.block _ (heap_lt L0.out) (by simp)).trans L0.out) Try.underlying22 rfl (sz22.trans (by simp [U8])) (hK _ _ (grown_refl _ _) rfl (fun h => Bool.noConfusion (show false = true from h)))
    · intro a x2 hg hsp hd K hK
      replace hg := grown_trans hw hg
      obtain ⟨_, e1, h1⟩ := hd 0 _ 11 (by kernel_rfl) rfl rfl
      have h1 : _ = _ := h1
      subst h1
      refine at_call (wanted_free rfl) rfl (args1 e1) Try.func32 (by kernel_rfl) rfl ?_
      refine (public_any _ hga.out _).mono ?_
      rintro e w1 ⟨rfl, hb⟩
      exact ⟨_, rfl, hK _ _ (grown_own hb) rfl (fun h => Bool.noConfusion (show false = true from h))⟩
    · intro a x2 hg hsp hd K hK
      replace hg := grown_trans hw hg
      have e1 : a.tmps[3]? = some (.pointer (some ⟨w.heap.size + 1, 0, none⟩)) := (hsp 3 (by kernel_rfl)).trans rfl
      exact at_row (wanted_free rfl) rfl e1 ((hg.block _ (heap_lt L1.out) (by simp)).trans L1.out) Try.underlying22 rfl (sz22.trans (by simp [U8])) (hK _ _ (grown_refl _ _) rfl (fun h => Bool.noConfusion (show false = true from h)))
    · intro a x2 hg hsp hd K hK
      replace hg := grown_trans hw hg
      obtain ⟨_, e1, h1⟩ := hd 2 _ 13 (by kernel_rfl) rfl rfl
      have h1 : _ = _ := h1
      subst h1
      refine at_call (wanted_free rfl) rfl (args1 e1) Try.func32 (by kernel_rfl) rfl ?_
      refine (public_any _ hgb.out _).mono ?_
      rintro e w1 ⟨rfl, hb⟩
      exact ⟨_, rfl, hK _ _ (grown_own hb) rfl (fun h => Bool.noConfusion (show false = true from h))⟩
    · intro a x2 hg hsp hd K hK
      replace hg := grown_trans hw hg
      exact at_value (wanted_free rfl) (run_alloc rfl alloc22) (hK _ _ (grown_new (grown_refl _ _) _) ⟨_, rfl, heap_new' _ _ _ rfl, hg.size⟩ (fun _ b hb => by cases hb; exact Nat.le_refl _))
    · intro a x2 hg hsp hd K hK
      replace hg := grown_trans hw hg
      exact at_value (wanted_free rfl) (run_alloc rfl alloc22) (hK _ _ (grown_new (grown_refl _ _) _) ⟨_, rfl, heap_new' _ _ _ rfl, hg.size⟩ (fun _ b hb => by cases hb; exact Nat.le_refl _))
  have v0 : vs 0 = _ := hv 0 _ rfl
  have v1 : vs 1 = _ := hv 1 _ rfl
  have v2 : vs 2 = _ := hv 2 _ rfl
  have v3 : vs 3 = _ := hv 3 _ rfl
  obtain ⟨b5, v4, m5, z5⟩ := hv 4 _ rfl
  obtain ⟨b6, v5, m6, z6⟩ := hv 5 _ rfl
  have n5_6 := hap 4 5 _ _ (by decide) rfl rfl v4 v5
  simp [seqA, Act.put, v0, v1, v2, v3, v4, v5]
  obtain ⟨w3a, hw1⟩ : ∃ x, x = World.setRow v b5 (U8 (xB (TM (xF nine) ga))) := ⟨_, rfl⟩
  obtain ⟨w3, hw2⟩ : ∃ x, x = World.setRow w3a b6 (U8 (xB (TM (xF nine) gb))) := ⟨_, rfl⟩
  replace L0 := Lib.hid (rows_two hg hw1 hw2 z5 z6 L0.out)
  replace L1 := Lib.hid (rows_two hg hw1 hw2 z5 z6 L1.out)
  replace LB := Lib.hid (below_two hg hw1 hw2 z5 z6 LB.out)
  have Ta := Lib.hid m5
  have Tb : Hid (w3a.heap[b6]? = some (.cells (U8 fun _ => 0) 22 (0, 0))) := Lib.hid (by rw [hw1, setRow_other _ _ _ _ (Ne.symm n5_6)]; exact m6)
  have L5 : Hid (w3.heap[b5]? = some (.cells (U8 (xB (TM (xF nine) ga))) 22 (0, 0))) := Lib.hid (by rw [hw2, setRow_other _ _ _ _ n5_6, hw1]; exact setRow_heap _ _ _ _ _ _ Ta.out)
  have L6 : Hid (w3.heap[b6]? = some (.cells (U8 (xB (TM (xF nine) gb))) 22 (0, 0))) := Lib.hid (by rw [hw2]; exact setRow_heap _ _ _ _ _ _ Tb.out)
  have HW1 := Lib.hid hw1
  have HW2 := Lib.hid hw2
  clear hw1 hw2 hg hv hap m5 m6 z5 z6 n5_6
  refine wpList_store_row rfl 22 (.tmp 5) (.tmp 12) rfl (b5) (U8 (xB (TM (xF nine) ga))) rfl rfl 22 _ Ta.out (sz22.trans (by simp [U8])) (by first | (simp [U8]; done) | (simp [U8]; rfl)) (vals_one _ _ _) ?_
  rw [← HW1.out]
  refine wpList_store_row rfl 22 (.tmp 6) (.tmp 14) rfl (b6) (U8 (xB (TM (xF nine) gb))) rfl rfl 22 _ Tb.out (sz22.trans (by simp [U8])) (by first | (simp [U8]; done) | (simp [U8]; rfl)) (vals_one _ _ _) ?_
  rw [← HW2.out]
  clear Ta Tb HW1 HW2
  go_wp2_with (first | (refine wpList_load_row rfl 22 (.tmp 2) rfl (w.heap.size) rfl 22 (U8 ga) (0, 0) _ L0.out Try.underlying22 rfl (sz22.trans (by simp [U8])) ?_) | (refine wpList_load_row rfl 22 (.tmp 6) rfl (b6) rfl 22 (U8 (xB (TM (xF nine) gb))) (0, 0) _ L6.out Try.underlying22 rfl (sz22.trans (by simp [U8])) ?_) | fail)
  refine (shared_any _ _ hga.out (xB_lt _) _).mono ?_
  obtain ⟨E1, hE1⟩ : ∃ E : Int, E = if TM (xF (xB (TM (xF nine) gb))) ga = 0 then 4 else 0 := ⟨_, rfl⟩
  rw [← hE1]
  have HE1 := Lib.hid hE1
  clear hE1
  rintro e w4 ⟨rfl, hb⟩
  replace L0 := Lib.hid ((hb.block _ (heap_lt L0.out)).trans L0.out)
  replace L1 := Lib.hid ((hb.block _ (heap_lt L1.out)).trans L1.out)
  replace L5 := Lib.hid ((hb.block _ (heap_lt L5.out)).trans L5.out)
  replace L6 := Lib.hid ((hb.block _ (heap_lt L6.out)).trans L6.out)
  replace LB := Lib.hid (LB.out.trans (hb.mono LB.out.size))
  clear hb
  obtain ⟨w5, hw⟩ : ∃ x, x = World.setRow (w4.alloc (.cells #[.int .u8 0, .int .u8 0, .int .u8 0, .int .u8 0, .int .u8 0, .int .u8 0, .int .u8 0, .int .u8 0, .int .u8 0, .int .u8 0, .int .u8 0, .int .u8 0, .int .u8 0, .int .u8 0, .int .u8 0, .int .u8 0, .int .u8 0, .int .u8 0, .int .u8 0, .int .u8 0, .int .u8 0, .int .u8 0, .int .u8 0, .int .u8 0, .int .u8 0, .int .u8 0, .int .u8 0, .int .u8 0, .int .u8 0, .int .u8 0, .int .u8 0, .int .u8 0] 22)) w4.heap.size (U8 (xB (TM (xF (xB (TM (xF nine) gb))) ga))) := ⟨_, rfl⟩
  have T1 : Hid ((w4.alloc (.cells #[.int .u8 0, .int .u8 0, .int .u8 0, .int .u8 0, .int .u8 0, .int .u8 0, .int .u8 0, .int .u8 0, .int .u8 0, .int .u8 0, .int .u8 0, .int .u8 0, .int .u8 0, .int .u8 0, .int .u8 0, .int .u8 0, .int .u8 0, .int .u8 0, .int .u8 0, .int .u8 0, .int .u8 0, .int .u8 0, .int .u8 0, .int .u8 0, .int .u8 0, .int .u8 0, .int .u8 0, .int .u8 0, .int .u8 0, .int .u8 0, .int .u8 0, .int .u8 0] 22)).heap[w4.heap.size]? = some (.cells #[.int .u8 0, .int .u8 0, .int .u8 0, .int .u8 0, .int .u8 0, .int .u8 0, .int .u8 0, .int .u8 0, .int .u8 0, .int .u8 0, .int .u8 0, .int .u8 0, .int .u8 0, .int .u8 0, .int .u8 0, .int .u8 0, .int .u8 0, .int .u8 0, .int .u8 0, .int .u8 0, .int .u8 0, .int .u8 0, .int .u8 0, .int .u8 0, .int .u8 0, .int .u8 0, .int .u8 0, .int .u8 0, .int .u8 0, .int .u8 0, .int .u8 0, .int .u8 0] 22 (0, 0))) := Lib.hid (heap_new' _ _ _ rfl)
  have L7 : Hid (w5.heap[w4.heap.size]? = some (.cells (U8 (xB (TM (xF (xB (TM (xF nine) gb))) ga))) 22 (0, 0))) := Lib.hid (by rw [hw]; exact setRow_heap _ _ _ _ _ _ T1.out)
  replace L0 := Lib.hid (row_new hw L0.out)
  replace L1 := Lib.hid (row_new hw L1.out)
  replace L5 := Lib.hid (row_new hw L5.out)
  replace L6 := Lib.hid (row_new hw L6.out)
  replace LB := Lib.hid (below_new hw LB.out)
  have HWw5 := Lib.hid hw
  clear hw
  go_wp2_with (first | (refine wpList_store_row rfl 22 (.tmp 7) (.tmp 19) rfl (w4.heap.size) (U8 (xB (TM (xF (xB (TM (xF nine) gb))) ga))) rfl rfl 22 _ T1.out (sz22.trans (by simp [U8])) (by first | (simp [U8]; done) | (simp [U8]; rfl)) (vals_one _ _ _) ?_; rw [← HWw5.out]) | (refine wpList_load_row rfl 22 (.tmp 3) rfl (w.heap.size + 1) rfl 22 (U8 gb) (0, 0) _ L1.out Try.underlying22 rfl (sz22.trans (by simp [U8])) ?_) | (refine wpList_load_row rfl 22 (.tmp 5) rfl (b5) rfl 22 (U8 (xB (TM (xF nine) ga))) (0, 0) _ L5.out Try.underlying22 rfl (sz22.trans (by simp [U8])) ?_) | fail)
  clear HWw5 T1
  refine (shared_any _ _ hgb.out (xB_lt _) _).mono ?_
  obtain ⟨E2, hE2⟩ : ∃ E : Int, E = if TM (xF (xB (TM (xF nine) ga))) gb = 0 then 4 else 0 := ⟨_, rfl⟩
  rw [← hE2]
  have HE2 := Lib.hid hE2
  clear hE2
  rintro e w6 ⟨rfl, hb⟩
  replace L0 := Lib.hid ((hb.block _ (heap_lt L0.out)).trans L0.out)
  replace L1 := Lib.hid ((hb.block _ (heap_lt L1.out)).trans L1.out)
  replace L5 := Lib.hid ((hb.block _ (heap_lt L5.out)).trans L5.out)
  replace L6 := Lib.hid ((hb.block _ (heap_lt L6.out)).trans L6.out)
  replace L7 := Lib.hid ((hb.block _ (heap_lt L7.out)).trans L7.out)
  replace LB := Lib.hid (LB.out.trans (hb.mono LB.out.size))
  clear hb
  obtain ⟨w7, hw⟩ : ∃ x, x = World.setRow (w6.alloc (.cells #[.int .u8 0, .int .u8 0, .int .u8 0, .int .u8 0, .int .u8 0, .int .u8 0, .int .u8 0, .int .u8 0, .int .u8 0, .int .u8 0, .int .u8 0, .int .u8 0, .int .u8 0, .int .u8 0, .int .u8 0, .int .u8 0, .int .u8 0, .int .u8 0, .int .u8 0, .int .u8 0, .int .u8 0, .int .u8 0, .int .u8 0, .int .u8 0, .int .u8 0, .int .u8 0, .int .u8 0, .int .u8 0, .int .u8 0, .int .u8 0, .int .u8 0, .int .u8 0] 22)) w6.heap.size (U8 (xB (TM (xF (xB (TM (xF nine) ga))) gb))) := ⟨_, rfl⟩
  have T1 : Hid ((w6.alloc (.cells #[.int .u8 0, .int .u8 0, .int .u8 0, .int .u8 0, .int .u8 0, .int .u8 0, .int .u8 0, .int .u8 0, .int .u8 0, .int .u8 0, .int .u8 0, .int .u8 0, .int .u8 0, .int .u8 0, .int .u8 0, .int .u8 0, .int .u8 0, .int .u8 0, .int .u8 0, .int .u8 0, .int .u8 0, .int .u8 0, .int .u8 0, .int .u8 0, .int .u8 0, .int .u8 0, .int .u8 0, .int .u8 0, .int .u8 0, .int .u8 0, .int .u8 0, .int .u8 0] 22)).heap[w6.heap.size]? = some (.cells #[.int .u8 0, .int .u8 0, .int .u8 0, .int .u8 0, .int .u8 0, .int .u8 0, .int .u8 0, .int .u8 0, .int .u8 0, .int .u8 0, .int .u8 0, .int .u8 0, .int .u8 0, .int .u8 0, .int .u8 0, .int .u8 0, .int .u8 0, .int .u8 0, .int .u8 0, .int .u8 0, .int .u8 0, .int .u8 0, .int .u8 0, .int .u8 0, .int .u8 0, .int .u8 0, .int .u8 0, .int .u8 0, .int .u8 0, .int .u8 0, .int .u8 0, .int .u8 0] 22 (0, 0))) := Lib.hid (heap_new' _ _ _ rfl)
  have L9 : Hid (w7.heap[w6.heap.size]? = some (.cells (U8 (xB (TM (xF (xB (TM (xF nine) ga))) gb))) 22 (0, 0))) := Lib.hid (by rw [hw]; exact setRow_heap _ _ _ _ _ _ T1.out)
  replace L0 := Lib.hid (row_new hw L0.out)
  replace L1 := Lib.hid (row_new hw L1.out)
  replace L5 := Lib.hid (row_new hw L5.out)
  replace L6 := Lib.hid (row_new hw L6.out)
  replace L7 := Lib.hid (row_new hw L7.out)
  replace LB := Lib.hid (below_new hw LB.out)
  have HWw7 := Lib.hid hw
  clear hw
  go_wp2_with (first | (refine wpList_store_row rfl 22 (.tmp 9) (.tmp 25) rfl (w6.heap.size) (U8 (xB (TM (xF (xB (TM (xF nine) ga))) gb))) rfl rfl 22 _ T1.out (sz22.trans (by simp [U8])) (by first | (simp [U8]; done) | (simp [U8]; rfl)) (vals_one _ _ _) ?_; rw [← HWw7.out]) | fail)
  clear HWw7 T1
  have hST : TM (xF (xB (TM (xF nine) gb))) ga = TM (xF (xB (TM (xF nine) ga))) gb := by rw [xF_xB, xF_xB, TM_comm]
  have hEE : E2 = E1 := by rw [HE1.out, HE2.out, hST]
  subst hEE
  have HST := Lib.hid hST
  have hE : E2 = 4 ∨ E2 = 0 := by rw [HE2.out]; split; exact .inl rfl; exact .inr rfl
  clear hST HE1 HE2
  rcases hE with rfl | rfl
  · skip
    have q4_31 : Hid (xB (TM (xF (xB (TM (xF nine) gb))) ga) = xB (TM (xF (xB (TM (xF nine) ga))) gb)) := Lib.hid (by rw [HST.out])
    have q4_47 : Hid (((4 : Int) == 0) = false) := Lib.hid (by decide)
    refine region_kk _ 53 [.eq (.bool true), .eq (.bool true), .eq (.agg (U8 (xB (TM (xF (xB (TM (xF nine) gb))) ga)))), .eq (.agg (U8 (xB (TM (xF (xB (TM (xF nine) ga))) gb)))), .eq (.bool true), .eq (.bool true), .eq (.bool true), .eq (.int .i64 4), .eq (.int .i64 4), .eq (.bool true), .eq (.bool true), .eq (.bool true), .eq (.agg (U8 ga)), .eq (.agg (U8 (xB (TM (xF nine) gb)))), .eq (.agg (U8 (xB (TM (xF (xB (TM (xF nine) gb))) ga)))), .eq (.agg (U8 (xB (TM (xF (xB (TM (xF nine) gb))) ga)))), .eq (.bool true), .eq (.bool true), .eq (.bool true), .eq (.int .i64 4), .eq (.bool false), .eq (.bool false), .eq (.int .i64 4), .eq (.bool true), .eq (.bool true), .eq (.bool true), .eq (.bool true)] (by kernel_rfl) (by rfl) (by kernel_rfl) (by kernel_rfl) (fun x1 hw => ?_) (fun vs v hg hv hap => ?_)
    · refine ⟨?_, ?_, ?_, ?_, ?_, ?_, ?_, ?_, ?_, ?_, ?_, ?_, ?_, ?_, ?_, ?_, ?_, ?_, ?_, ?_, ?_, ?_, ?_, ?_, ?_, ?_, ?_, trivial⟩
      · intro a x2 hg hsp hd K hK
        replace hg := grown_trans hw hg
        refine at_call (wanted_free rfl) rfl (args0) Try.func30 (by kernel_rfl) rfl ?_
        refine (bends_any _).mono ?_
        rintro e w1 ⟨rfl, hb⟩
        exact ⟨_, rfl, hK _ _ (grown_own hb) rfl (fun h => Bool.noConfusion (show false = true from h))⟩
      · intro a x2 hg hsp hd K hK
        replace hg := grown_trans hw hg
        obtain ⟨_, e1, h1⟩ := hd 0 _ 27 (by kernel_rfl) rfl rfl
        have h1 : _ = _ := h1
        subst h1
        exact at_value (wanted_free rfl) (run_move (Or.inl rfl) (eval_tmp e1)) (hK _ _ (grown_refl _ _) rfl (fun h => Bool.noConfusion (show false = true from h)))
      · intro a x2 hg hsp hd K hK
        replace hg := grown_trans hw hg
        obtain ⟨_, eg, hgd⟩ := hd 1 _ 28 (by kernel_rfl) rfl rfl
        have hgd : _ = _ := hgd
        subst hgd
        have e1 : a.tmps[7]? = some (.pointer (some ⟨w4.heap.size, 0, none⟩)) := (hsp 7 (by kernel_rfl)).trans rfl
        exact at_row (wanted_on rfl rfl rfl eg) rfl e1 ((hg.block _ (heap_lt L7.out) (by simp)).trans L7.out) Try.underlying22 rfl (sz22.trans (by simp [U8])) (hK _ _ (grown_refl _ _) rfl (fun h => Bool.noConfusion (show false = true from h)))
      · intro a x2 hg hsp hd K hK
        replace hg := grown_trans hw hg
        obtain ⟨_, eg, hgd⟩ := hd 1 _ 28 (by kernel_rfl) rfl rfl
        have hgd : _ = _ := hgd
        subst hgd
        have e1 : a.tmps[9]? = some (.pointer (some ⟨w6.heap.size, 0, none⟩)) := (hsp 9 (by kernel_rfl)).trans rfl
        exact at_row (wanted_on rfl rfl rfl eg) rfl e1 ((hg.block _ (heap_lt L9.out) (by simp)).trans L9.out) Try.underlying22 rfl (sz22.trans (by simp [U8])) (hK _ _ (grown_refl _ _) rfl (fun h => Bool.noConfusion (show false = true from h)))
      · intro a x2 hg hsp hd K hK
        replace hg := grown_trans hw hg
        obtain ⟨_, eg, hgd⟩ := hd 1 _ 28 (by kernel_rfl) rfl rfl
        have hgd : _ = _ := hgd
        subst hgd
        obtain ⟨_, e1, h1⟩ := hd 2 _ 29 (by kernel_rfl) rfl rfl
        have h1 : _ = _ := h1
        subst h1
        obtain ⟨_, e2, h2⟩ := hd 3 _ 30 (by kernel_rfl) rfl rfl
        have h2 : _ = _ := h2
        subst h2
        exact at_value (wanted_on rfl rfl rfl eg) (run_op_eql22 rfl (eval_tmp e1) (eval_tmp e2) (xB_lt _) (xB_lt _)) (hK _ _ (grown_refl _ _) (show Value.bool _ = Value.bool true from by rw [q4_31.out]; simp) (fun h => Bool.noConfusion (show false = true from h)))
      · intro a x2 hg hsp hd K hK
        replace hg := grown_trans hw hg
        obtain ⟨_, e1, h1⟩ := hd 1 _ 28 (by kernel_rfl) rfl rfl
        have h1 : _ = _ := h1
        subst h1
        obtain ⟨_, e2, h2⟩ := hd 4 _ 31 (by kernel_rfl) rfl rfl
        have h2 : _ = _ := h2
        subst h2
        exact at_value (wanted_free rfl) (run_pick (v := .bool true) rfl (eval_tmp e1) ((if_pos rfl).trans (eval_tmp e2))) (hK _ _ (grown_refl _ _) rfl (fun h => Bool.noConfusion (show false = true from h)))
      · intro a x2 hg hsp hd K hK
        replace hg := grown_trans hw hg
        obtain ⟨_, e1, h1⟩ := hd 5 _ 32 (by kernel_rfl) rfl rfl
        have h1 : _ = _ := h1
        subst h1
        exact at_value (wanted_free rfl) (run_move (Or.inl rfl) (eval_tmp e1)) (hK _ _ (grown_refl _ _) rfl (fun h => Bool.noConfusion (show false = true from h)))
      · intro a x2 hg hsp hd K hK
        replace hg := grown_trans hw hg
        obtain ⟨_, eg, hgd⟩ := hd 6 _ 33 (by kernel_rfl) rfl rfl
        have hgd : _ = _ := hgd
        subst hgd
        have e1 : a.tmps[8]? = some (.int .i64 4) := (hsp 8 (by kernel_rfl)).trans rfl
        exact at_value (wanted_on rfl rfl rfl eg) (run_move (Or.inl rfl) (eval_tmp e1)) (hK _ _ (grown_refl _ _) rfl (fun h => Bool.noConfusion (show false = true from h)))
      · intro a x2 hg hsp hd K hK
        replace hg := grown_trans hw hg
        obtain ⟨_, eg, hgd⟩ := hd 6 _ 33 (by kernel_rfl) rfl rfl
        have hgd : _ = _ := hgd
        subst hgd
        have e1 : a.tmps[10]? = some (.int .i64 4) := (hsp 10 (by kernel_rfl)).trans rfl
        exact at_value (wanted_on rfl rfl rfl eg) (run_move (Or.inl rfl) (eval_tmp e1)) (hK _ _ (grown_refl _ _) rfl (fun h => Bool.noConfusion (show false = true from h)))
      · intro a x2 hg hsp hd K hK
        replace hg := grown_trans hw hg
        obtain ⟨_, eg, hgd⟩ := hd 6 _ 33 (by kernel_rfl) rfl rfl
        have hgd : _ = _ := hgd
        subst hgd
        obtain ⟨_, e1, h1⟩ := hd 7 _ 34 (by kernel_rfl) rfl rfl
        have h1 : _ = _ := h1
        subst h1
        obtain ⟨_, e2, h2⟩ := hd 8 _ 35 (by kernel_rfl) rfl rfl
        have h2 : _ = _ := h2
        subst h2
        exact at_value (wanted_on rfl rfl rfl eg) (run_op_eqI rfl (eval_tmp e1) (eval_tmp e2)) (hK _ _ (grown_refl _ _) (show Value.bool _ = Value.bool true from by simp) (fun h => Bool.noConfusion (show false = true from h)))
      · intro a x2 hg hsp hd K hK
        replace hg := grown_trans hw hg
        obtain ⟨_, e1, h1⟩ := hd 6 _ 33 (by kernel_rfl) rfl rfl
        have h1 : _ = _ := h1
        subst h1
        obtain ⟨_, e2, h2⟩ := hd 9 _ 36 (by kernel_rfl) rfl rfl
        have h2 : _ = _ := h2
        subst h2
        exact at_value (wanted_free rfl) (run_pick (v := .bool true) rfl (eval_tmp e1) ((if_pos rfl).trans (eval_tmp e2))) (hK _ _ (grown_refl _ _) rfl (fun h => Bool.noConfusion (show false = true from h)))
      · intro a x2 hg hsp hd K hK
        replace hg := grown_trans hw hg
        obtain ⟨_, e1, h1⟩ := hd 10 _ 37 (by kernel_rfl) rfl rfl
        have h1 : _ = _ := h1
        subst h1
        exact at_value (wanted_free rfl) (run_move (Or.inl rfl) (eval_tmp e1)) (hK _ _ (grown_refl _ _) rfl (fun h => Bool.noConfusion (show false = true from h)))
      · intro a x2 hg hsp hd K hK
        replace hg := grown_trans hw hg
        obtain ⟨_, eg, hgd⟩ := hd 11 _ 38 (by kernel_rfl) rfl rfl
        have hgd : _ = _ := hgd
        subst hgd
        have e1 : a.tmps[2]? = some (.pointer (some ⟨w.heap.size, 0, none⟩)) := (hsp 2 (by kernel_rfl)).trans rfl
        exact at_row (wanted_on rfl rfl rfl eg) rfl e1 ((hg.block _ (heap_lt L0.out) (by simp)).trans L0.out) Try.underlying22 rfl (sz22.trans (by simp [U8])) (hK _ _ (grown_refl _ _) rfl (fun h => Bool.noConfusion (show false = true from h)))
      · intro a x2 hg hsp hd K hK
        replace hg := grown_trans hw hg
        obtain ⟨_, eg, hgd⟩ := hd 11 _ 38 (by kernel_rfl) rfl rfl
        have hgd : _ = _ := hgd
        subst hgd
        have e1 : a.tmps[6]? = some (.pointer (some ⟨b6, 0, none⟩)) := (hsp 6 (by kernel_rfl)).trans rfl
        exact at_row (wanted_on rfl rfl rfl eg) rfl e1 ((hg.block _ (heap_lt L6.out) (by simp)).trans L6.out) Try.underlying22 rfl (sz22.trans (by simp [U8])) (hK _ _ (grown_refl _ _) rfl (fun h => Bool.noConfusion (show false = true from h)))
      · intro a x2 hg hsp hd K hK
        replace hg := grown_trans hw hg
        obtain ⟨_, eg, hgd⟩ := hd 11 _ 38 (by kernel_rfl) rfl rfl
        have hgd : _ = _ := hgd
        subst hgd
        obtain ⟨_, e1, h1⟩ := hd 12 _ 39 (by kernel_rfl) rfl rfl
        have h1 : _ = _ := h1
        subst h1
        obtain ⟨_, e2, h2⟩ := hd 13 _ 40 (by kernel_rfl) rfl rfl
        have h2 : _ = _ := h2
        subst h2
        refine at_call (wanted_on rfl rfl rfl eg) rfl (args2 e1 e2) Try.func29 (by kernel_rfl) rfl ?_
        refine (eTimes _ _ hga.out (xB_lt _) _).mono ?_
        rintro e w1 ⟨rfl, hb⟩
        exact ⟨_, rfl, hK _ _ (grown_own hb) rfl (fun h => Bool.noConfusion (show false = true from h))⟩
      · intro a x2 hg hsp hd K hK
        replace hg := grown_trans hw hg
        obtain ⟨_, eg, hgd⟩ := hd 11 _ 38 (by kernel_rfl) rfl rfl
        have hgd : _ = _ := hgd
        subst hgd
        have e1 : a.tmps[7]? = some (.pointer (some ⟨w4.heap.size, 0, none⟩)) := (hsp 7 (by kernel_rfl)).trans rfl
        exact at_row (wanted_on rfl rfl rfl eg) rfl e1 ((hg.block _ (heap_lt L7.out) (by simp)).trans L7.out) Try.underlying22 rfl (sz22.trans (by simp [U8])) (hK _ _ (grown_refl _ _) rfl (fun h => Bool.noConfusion (show false = true from h)))
      · intro a x2 hg hsp hd K hK
        replace hg := grown_trans hw hg
        obtain ⟨_, eg, hgd⟩ := hd 11 _ 38 (by kernel_rfl) rfl rfl
        have hgd : _ = _ := hgd
        subst hgd
        obtain ⟨_, e1, h1⟩ := hd 14 _ 41 (by kernel_rfl) rfl rfl
        have h1 : _ = _ := h1
        subst h1
        obtain ⟨_, e2, h2⟩ := hd 15 _ 42 (by kernel_rfl) rfl rfl
        have h2 : _ = _ := h2
        subst h2
        exact at_value (wanted_on rfl rfl rfl eg) (run_op_eql22 rfl (eval_tmp e1) (eval_tmp e2) (xB_lt _) (xB_lt _)) (hK _ _ (grown_refl _ _) (show Value.bool _ = Value.bool true from by simp) (fun h => Bool.noConfusion (show false = true from h)))
      · intro a x2 hg hsp hd K hK
        replace hg := grown_trans hw hg
        obtain ⟨_, e1, h1⟩ := hd 11 _ 38 (by kernel_rfl) rfl rfl
        have h1 : _ = _ := h1
        subst h1
        obtain ⟨_, e2, h2⟩ := hd 16 _ 43 (by kernel_rfl) rfl rfl
        have h2 : _ = _ := h2
        subst h2
        exact at_value (wanted_free rfl) (run_pick (v := .bool true) rfl (eval_tmp e1) ((if_pos rfl).trans (eval_tmp e2))) (hK _ _ (grown_refl _ _) rfl (fun h => Bool.noConfusion (show false = true from h)))
      · intro a x2 hg hsp hd K hK
        replace hg := grown_trans hw hg
        obtain ⟨_, e1, h1⟩ := hd 17 _ 44 (by kernel_rfl) rfl rfl
        have h1 : _ = _ := h1
        subst h1
        exact at_value (wanted_free rfl) (run_move (Or.inl rfl) (eval_tmp e1)) (hK _ _ (grown_refl _ _) rfl (fun h => Bool.noConfusion (show false = true from h)))
      · intro a x2 hg hsp hd K hK
        replace hg := grown_trans hw hg
        obtain ⟨_, eg, hgd⟩ := hd 18 _ 45 (by kernel_rfl) rfl rfl
        have hgd : _ = _ := hgd
        subst hgd
        have e1 : a.tmps[8]? = some (.int .i64 4) := (hsp 8 (by kernel_rfl)).trans rfl
        exact at_value (wanted_on rfl rfl rfl eg) (run_move (Or.inl rfl) (eval_tmp e1)) (hK _ _ (grown_refl _ _) rfl (fun h => Bool.noConfusion (show false = true from h)))
      · intro a x2 hg hsp hd K hK
        replace hg := grown_trans hw hg
        obtain ⟨_, eg, hgd⟩ := hd 18 _ 45 (by kernel_rfl) rfl rfl
        have hgd : _ = _ := hgd
        subst hgd
        obtain ⟨_, e1, h1⟩ := hd 19 _ 46 (by kernel_rfl) rfl rfl
        have h1 : _ = _ := h1
        subst h1
        exact at_value (wanted_on rfl rfl rfl eg) (run_op_eqI rfl (eval_tmp e1) rfl) (hK _ _ (grown_refl _ _) (show Value.bool _ = Value.bool false from by rw [q4_47.out]) (fun h => Bool.noConfusion (show false = true from h)))
      · intro a x2 hg hsp hd K hK
        replace hg := grown_trans hw hg
        obtain ⟨_, eg, hgd⟩ := hd 18 _ 45 (by kernel_rfl) rfl rfl
        have hgd : _ = _ := hgd
        subst hgd
        obtain ⟨_, e1, h1⟩ := hd 20 _ 47 (by kernel_rfl) rfl rfl
        have h1 : _ = _ := h1
        subst h1
        exact at_value (wanted_on rfl rfl rfl eg) (run_move (Or.inl rfl) (eval_tmp e1)) (hK _ _ (grown_refl _ _) rfl (fun h => Bool.noConfusion (show false = true from h)))
      · intro a x2 hg hsp hd K hK
        replace hg := grown_trans hw hg
        obtain ⟨_, eg, hgd⟩ := hd 21 _ 48 (by kernel_rfl) rfl rfl
        have hgd : _ = _ := hgd
        subst hgd
        have e1 : a.tmps[8]? = some (.int .i64 4) := (hsp 8 (by kernel_rfl)).trans rfl
        exact at_value (wanted_on rfl rfl rfl eg) (run_move (Or.inl rfl) (eval_tmp e1)) (hK _ _ (grown_refl _ _) rfl (fun h => Bool.noConfusion (show false = true from h)))
      · intro a x2 hg hsp hd K hK
        replace hg := grown_trans hw hg
        obtain ⟨_, eg, hgd⟩ := hd 21 _ 48 (by kernel_rfl) rfl rfl
        have hgd : _ = _ := hgd
        subst hgd
        obtain ⟨_, e1, h1⟩ := hd 22 _ 49 (by kernel_rfl) rfl rfl
        have h1 : _ = _ := h1
        subst h1
        exact at_value (wanted_on rfl rfl rfl eg) (run_op_eqI rfl (eval_tmp e1) rfl) (hK _ _ (grown_refl _ _) (show Value.bool _ = Value.bool true from by simp) (fun h => Bool.noConfusion (show false = true from h)))
      · intro a x2 hg hsp hd K hK
        replace hg := grown_trans hw hg
        obtain ⟨_, eg, hgd⟩ := hd 18 _ 45 (by kernel_rfl) rfl rfl
        have hgd : _ = _ := hgd
        subst hgd
        obtain ⟨_, e1, h1⟩ := hd 21 _ 48 (by kernel_rfl) rfl rfl
        have h1 : _ = _ := h1
        subst h1
        obtain ⟨_, e2, h2⟩ := hd 23 _ 50 (by kernel_rfl) rfl rfl
        have h2 : _ = _ := h2
        subst h2
        exact at_value (wanted_on rfl rfl rfl eg) (run_pick (v := .bool true) rfl (eval_tmp e1) ((if_neg (by decide)).trans (eval_tmp e2))) (hK _ _ (grown_refl _ _) rfl (fun h => Bool.noConfusion (show false = true from h)))
      · intro a x2 hg hsp hd K hK
        replace hg := grown_trans hw hg
        obtain ⟨_, e1, h1⟩ := hd 18 _ 45 (by kernel_rfl) rfl rfl
        have h1 : _ = _ := h1
        subst h1
        obtain ⟨_, e2, h2⟩ := hd 24 _ 51 (by kernel_rfl) rfl rfl
        have h2 : _ = _ := h2
        subst h2
        exact at_value (wanted_free rfl) (run_pick (v := .bool true) rfl (eval_tmp e1) ((if_pos rfl).trans (eval_tmp e2))) (hK _ _ (grown_refl _ _) rfl (fun h => Bool.noConfusion (show false = true from h)))
      · intro a x2 hg hsp hd K hK
        replace hg := grown_trans hw hg
        obtain ⟨_, e1, h1⟩ := hd 25 _ 52 (by kernel_rfl) rfl rfl
        have h1 : _ = _ := h1
        subst h1
        exact at_value (wanted_free rfl) (run_move (Or.inr rfl) (eval_tmp e1)) (hK _ _ (grown_refl _ _) rfl (fun h => Bool.noConfusion (show false = true from h)))
    have v0 : vs 0 = _ := hv 0 _ rfl
    have v1 : vs 1 = _ := hv 1 _ rfl
    have v2 : vs 2 = _ := hv 2 _ rfl
    have v3 : vs 3 = _ := hv 3 _ rfl
    have v4 : vs 4 = _ := hv 4 _ rfl
    have v5 : vs 5 = _ := hv 5 _ rfl
    have v6 : vs 6 = _ := hv 6 _ rfl
    have v7 : vs 7 = _ := hv 7 _ rfl
    have v8 : vs 8 = _ := hv 8 _ rfl
    have v9 : vs 9 = _ := hv 9 _ rfl
    have v10 : vs 10 = _ := hv 10 _ rfl
    have v11 : vs 11 = _ := hv 11 _ rfl
    have v12 : vs 12 = _ := hv 12 _ rfl
    have v13 : vs 13 = _ := hv 13 _ rfl
    have v14 : vs 14 = _ := hv 14 _ rfl
    have v15 : vs 15 = _ := hv 15 _ rfl
    have v16 : vs 16 = _ := hv 16 _ rfl
    have v17 : vs 17 = _ := hv 17 _ rfl
    have v18 : vs 18 = _ := hv 18 _ rfl
    have v19 : vs 19 = _ := hv 19 _ rfl
    have v20 : vs 20 = _ := hv 20 _ rfl
    have v21 : vs 21 = _ := hv 21 _ rfl
    have v22 : vs 22 = _ := hv 22 _ rfl
    have v23 : vs 23 = _ := hv 23 _ rfl
    have v24 : vs 24 = _ := hv 24 _ rfl
    have v25 : vs 25 = _ := hv 25 _ rfl
    have v26 : vs 26 = _ := hv 26 _ rfl
    simp [seqA, Act.put, v0, v1, v2, v3, v4, v5, v6, v7, v8, v9, v10, v11, v12, v13, v14, v15, v16, v17, v18, v19, v20, v21, v22, v23, v24, v25, v26]
    clear hv hap
    replace LB := LB.out.grown hg LB.out.size (fun j hj => by cases hj)
    go_wp2_with fail
    go_ret
    exact ⟨rfl, LB⟩
  · skip
    have q4_31 : Hid (xB (TM (xF (xB (TM (xF nine) gb))) ga) = xB (TM (xF (xB (TM (xF nine) ga))) gb)) := Lib.hid (by rw [HST.out])
    refine region_kk _ 53 [.eq (.bool true), .eq (.bool true), .eq (.agg (U8 (xB (TM (xF (xB (TM (xF nine) gb))) ga)))), .eq (.agg (U8 (xB (TM (xF (xB (TM (xF nine) ga))) gb)))), .eq (.bool true), .eq (.bool true), .eq (.bool true), .eq (.int .i64 0), .eq (.int .i64 0), .eq (.bool true), .eq (.bool true), .eq (.bool true), .eq (.agg (U8 ga)), .eq (.agg (U8 (xB (TM (xF nine) gb)))), .eq (.agg (U8 (xB (TM (xF (xB (TM (xF nine) gb))) ga)))), .eq (.agg (U8 (xB (TM (xF (xB (TM (xF nine) gb))) ga)))), .eq (.bool true), .eq (.bool true), .eq (.bool true), .eq (.int .i64 0), .eq (.bool true), .eq (.bool true), .eq (undef), .eq (undef), .eq (.bool true), .eq (.bool true), .eq (.bool true)] (by kernel_rfl) (by rfl) (by kernel_rfl) (by kernel_rfl) (fun x1 hw => ?_) (fun vs v hg hv hap => ?_)
    · refine ⟨?_, ?_, ?_, ?_, ?_, ?_, ?_, ?_, ?_, ?_, ?_, ?_, ?_, ?_, ?_, ?_, ?_, ?_, ?_, ?_, ?_, ?_, ?_, ?_, ?_, ?_, ?_, trivial⟩
      · intro a x2 hg hsp hd K hK
        replace hg := grown_trans hw hg
        refine at_call (wanted_free rfl) rfl (args0) Try.func30 (by kernel_rfl) rfl ?_
        refine (bends_any _).mono ?_
        rintro e w1 ⟨rfl, hb⟩
        exact ⟨_, rfl, hK _ _ (grown_own hb) rfl (fun h => Bool.noConfusion (show false = true from h))⟩
      · intro a x2 hg hsp hd K hK
        replace hg := grown_trans hw hg
        obtain ⟨_, e1, h1⟩ := hd 0 _ 27 (by kernel_rfl) rfl rfl
        have h1 : _ = _ := h1
        subst h1
        exact at_value (wanted_free rfl) (run_move (Or.inl rfl) (eval_tmp e1)) (hK _ _ (grown_refl _ _) rfl (fun h => Bool.noConfusion (show false = true from h)))
      · intro a x2 hg hsp hd K hK
        replace hg := grown_trans hw hg
        obtain ⟨_, eg, hgd⟩ := hd 1 _ 28 (by kernel_rfl) rfl rfl
        have hgd : _ = _ := hgd
        subst hgd
        have e1 : a.tmps[7]? = some (.pointer (some ⟨w4.heap.size, 0, none⟩)) := (hsp 7 (by kernel_rfl)).trans rfl
        exact at_row (wanted_on rfl rfl rfl eg) rfl e1 ((hg.block _ (heap_lt L7.out) (by simp)).trans L7.out) Try.underlying22 rfl (sz22.trans (by simp [U8])) (hK _ _ (grown_refl _ _) rfl (fun h => Bool.noConfusion (show false = true from h)))
      · intro a x2 hg hsp hd K hK
        replace hg := grown_trans hw hg
        obtain ⟨_, eg, hgd⟩ := hd 1 _ 28 (by kernel_rfl) rfl rfl
        have hgd : _ = _ := hgd
        subst hgd
        have e1 : a.tmps[9]? = some (.pointer (some ⟨w6.heap.size, 0, none⟩)) := (hsp 9 (by kernel_rfl)).trans rfl
        exact at_row (wanted_on rfl rfl rfl eg) rfl e1 ((hg.block _ (heap_lt L9.out) (by simp)).trans L9.out) Try.underlying22 rfl (sz22.trans (by simp [U8])) (hK _ _ (grown_refl _ _) rfl (fun h => Bool.noConfusion (show false = true from h)))
      · intro a x2 hg hsp hd K hK
        replace hg := grown_trans hw hg
        obtain ⟨_, eg, hgd⟩ := hd 1 _ 28 (by kernel_rfl) rfl rfl
        have hgd : _ = _ := hgd
        subst hgd
        obtain ⟨_, e1, h1⟩ := hd 2 _ 29 (by kernel_rfl) rfl rfl
        have h1 : _ = _ := h1
        subst h1
        obtain ⟨_, e2, h2⟩ := hd 3 _ 30 (by kernel_rfl) rfl rfl
        have h2 : _ = _ := h2
        subst h2
        exact at_value (wanted_on rfl rfl rfl eg) (run_op_eql22 rfl (eval_tmp e1) (eval_tmp e2) (xB_lt _) (xB_lt _)) (hK _ _ (grown_refl _ _) (show Value.bool _ = Value.bool true from by rw [q4_31.out]; simp) (fun h => Bool.noConfusion (show false = true from h)))
      · intro a x2 hg hsp hd K hK
        replace hg := grown_trans hw hg
        obtain ⟨_, e1, h1⟩ := hd 1 _ 28 (by kernel_rfl) rfl rfl
        have h1 : _ = _ := h1
        subst h1
        obtain ⟨_, e2, h2⟩ := hd 4 _ 31 (by kernel_rfl) rfl rfl
        have h2 : _ = _ := h2
        subst h2
        exact at_value (wanted_free rfl) (run_pick (v := .bool true) rfl (eval_tmp e1) ((if_pos rfl).trans (eval_tmp e2))) (hK _ _ (grown_refl _ _) rfl (fun h => Bool.noConfusion (show false = true from h)))
      · intro a x2 hg hsp hd K hK
        replace hg := grown_trans hw hg
        obtain ⟨_, e1, h1⟩ := hd 5 _ 32 (by kernel_rfl) rfl rfl
        have h1 : _ = _ := h1
        subst h1
        exact at_value (wanted_free rfl) (run_move (Or.inl rfl) (eval_tmp e1)) (hK _ _ (grown_refl _ _) rfl (fun h => Bool.noConfusion (show false = true from h)))
      · intro a x2 hg hsp hd K hK
        replace hg := grown_trans hw hg
        obtain ⟨_, eg, hgd⟩ := hd 6 _ 33 (by kernel_rfl) rfl rfl
        have hgd : _ = _ := hgd
        subst hgd
        have e1 : a.tmps[8]? = some (.int .i64 0) := (hsp 8 (by kernel_rfl)).trans rfl
        exact at_value (wanted_on rfl rfl rfl eg) (run_move (Or.inl rfl) (eval_tmp e1)) (hK _ _ (grown_refl _ _) rfl (fun h => Bool.noConfusion (show false = true from h)))
      · intro a x2 hg hsp hd K hK
        replace hg := grown_trans hw hg
        obtain ⟨_, eg, hgd⟩ := hd 6 _ 33 (by kernel_rfl) rfl rfl
        have hgd : _ = _ := hgd
        subst hgd
        have e1 : a.tmps[10]? = some (.int .i64 0) := (hsp 10 (by kernel_rfl)).trans rfl
        exact at_value (wanted_on rfl rfl rfl eg) (run_move (Or.inl rfl) (eval_tmp e1)) (hK _ _ (grown_refl _ _) rfl (fun h => Bool.noConfusion (show false = true from h)))
      · intro a x2 hg hsp hd K hK
        replace hg := grown_trans hw hg
        obtain ⟨_, eg, hgd⟩ := hd 6 _ 33 (by kernel_rfl) rfl rfl
        have hgd : _ = _ := hgd
        subst hgd
        obtain ⟨_, e1, h1⟩ := hd 7 _ 34 (by kernel_rfl) rfl rfl
        have h1 : _ = _ := h1
        subst h1
        obtain ⟨_, e2, h2⟩ := hd 8 _ 35 (by kernel_rfl) rfl rfl
        have h2 : _ = _ := h2
        subst h2
        exact at_value (wanted_on rfl rfl rfl eg) (run_op_eqI rfl (eval_tmp e1) (eval_tmp e2)) (hK _ _ (grown_refl _ _) (show Value.bool _ = Value.bool true from by simp) (fun h => Bool.noConfusion (show false = true from h)))
      · intro a x2 hg hsp hd K hK
        replace hg := grown_trans hw hg
        obtain ⟨_, e1, h1⟩ := hd 6 _ 33 (by kernel_rfl) rfl rfl
        have h1 : _ = _ := h1
        subst h1
        obtain ⟨_, e2, h2⟩ := hd 9 _ 36 (by kernel_rfl) rfl rfl
        have h2 : _ = _ := h2
        subst h2
        exact at_value (wanted_free rfl) (run_pick (v := .bool true) rfl (eval_tmp e1) ((if_pos rfl).trans (eval_tmp e2))) (hK _ _ (grown_refl _ _) rfl (fun h => Bool.noConfusion (show false = true from h)))
      · intro a x2 hg hsp hd K hK
        replace hg := grown_trans hw hg
        obtain ⟨_, e1, h1⟩ := hd 10 _ 37 (by kernel_rfl) rfl rfl
        have h1 : _ = _ := h1
        subst h1
        exact at_value (wanted_free rfl) (run_move (Or.inl rfl) (eval_tmp e1)) (hK _ _ (grown_refl _ _) rfl (fun h => Bool.noConfusion (show false = true from h)))
      · intro a x2 hg hsp hd K hK
        replace hg := grown_trans hw hg
        obtain ⟨_, eg, hgd⟩ := hd 11 _ 38 (by kernel_rfl) rfl rfl
        have hgd : _ = _ := hgd
        subst hgd
        have e1 : a.tmps[2]? = some (.pointer (some ⟨w.heap.size, 0, none⟩)) := (hsp 2 (by kernel_rfl)).trans rfl
        exact at_row (wanted_on rfl rfl rfl eg) rfl e1 ((hg.block _ (heap_lt L0.out) (by simp)).trans L0.out) Try.underlying22 rfl (sz22.trans (by simp [U8])) (hK _ _ (grown_refl _ _) rfl (fun h => Bool.noConfusion (show false = true from h)))
      · intro a x2 hg hsp hd K hK
        replace hg := grown_trans hw hg
        obtain ⟨_, eg, hgd⟩ := hd 11 _ 38 (by kernel_rfl) rfl rfl
        have hgd : _ = _ := hgd
        subst hgd
        have e1 : a.tmps[6]? = some (.pointer (some ⟨b6, 0, none⟩)) := (hsp 6 (by kernel_rfl)).trans rfl
        exact at_row (wanted_on rfl rfl rfl eg) rfl e1 ((hg.block _ (heap_lt L6.out) (by simp)).trans L6.out) Try.underlying22 rfl (sz22.trans (by simp [U8])) (hK _ _ (grown_refl _ _) rfl (fun h => Bool.noConfusion (show false = true from h)))
      · intro a x2 hg hsp hd K hK
        replace hg := grown_trans hw hg
        obtain ⟨_, eg, hgd⟩ := hd 11 _ 38 (by kernel_rfl) rfl rfl
        have hgd : _ = _ := hgd
        subst hgd
        obtain ⟨_, e1, h1⟩ := hd 12 _ 39 (by kernel_rfl) rfl rfl
        have h1 : _ = _ := h1
        subst h1
        obtain ⟨_, e2, h2⟩ := hd 13 _ 40 (by kernel_rfl) rfl rfl
        have h2 : _ = _ := h2
        subst h2
        refine at_call (wanted_on rfl rfl rfl eg) rfl (args2 e1 e2) Try.func29 (by kernel_rfl) rfl ?_
        refine (eTimes _ _ hga.out (xB_lt _) _).mono ?_
        rintro e w1 ⟨rfl, hb⟩
        exact ⟨_, rfl, hK _ _ (grown_own hb) rfl (fun h => Bool.noConfusion (show false = true from h))⟩
      · intro a x2 hg hsp hd K hK
        replace hg := grown_trans hw hg
        obtain ⟨_, eg, hgd⟩ := hd 11 _ 38 (by kernel_rfl) rfl rfl
        have hgd : _ = _ := hgd
        subst hgd
        have e1 : a.tmps[7]? = some (.pointer (some ⟨w4.heap.size, 0, none⟩)) := (hsp 7 (by kernel_rfl)).trans rfl
        exact at_row (wanted_on rfl rfl rfl eg) rfl e1 ((hg.block _ (heap_lt L7.out) (by simp)).trans L7.out) Try.underlying22 rfl (sz22.trans (by simp [U8])) (hK _ _ (grown_refl _ _) rfl (fun h => Bool.noConfusion (show false = true from h)))
      · intro a x2 hg hsp hd K hK
        replace hg := grown_trans hw hg
        obtain ⟨_, eg, hgd⟩ := hd 11 _ 38 (by kernel_rfl) rfl rfl
        have hgd : _ = _ := hgd
        subst hgd
        obtain ⟨_, e1, h1⟩ := hd 14 _ 41 (by kernel_rfl) rfl rfl
        have h1 : _ = _ := h1
        subst h1
        obtain ⟨_, e2, h2⟩ := hd 15 _ 42 (by kernel_rfl) rfl rfl
        have h2 : _ = _ := h2
        subst h2
        exact at_value (wanted_on rfl rfl rfl eg) (run_op_eql22 rfl (eval_tmp e1) (eval_tmp e2) (xB_lt _) (xB_lt _)) (hK _ _ (grown_refl _ _) (show Value.bool _ = Value.bool true from by simp) (fun h => Bool.noConfusion (show false = true from h)))
      · intro a x2 hg hsp hd K hK
        replace hg := grown_trans hw hg
        obtain ⟨_, e1, h1⟩ := hd 11 _ 38 (by kernel_rfl) rfl rfl
        have h1 : _ = _ := h1
        subst h1
        obtain ⟨_, e2, h2⟩ := hd 16 _ 43 (by kernel_rfl) rfl rfl
        have h2 : _ = _ := h2
        subst h2
        exact at_value (wanted_free rfl) (run_pick (v := .bool true) rfl (eval_tmp e1) ((if_pos rfl).trans (eval_tmp e2))) (hK _ _ (grown_refl _ _) rfl (fun h => Bool.noConfusion (show false = true from h)))
      · intro a x2 hg hsp hd K hK
        replace hg := grown_trans hw hg
        obtain ⟨_, e1, h1⟩ := hd 17 _ 44 (by kernel_rfl) rfl rfl
        have h1 : _ = _ := h1
        subst h1
        exact at_value (wanted_free rfl) (run_move (Or.inl rfl) (eval_tmp e1)) (hK _ _ (grown_refl _ _) rfl (fun h => Bool.noConfusion (show false = true from h)))
      · intro a x2 hg hsp hd K hK
        replace hg := grown_trans hw hg
        obtain ⟨_, eg, hgd⟩ := hd 18 _ 45 (by kernel_rfl) rfl rfl
        have hgd : _ = _ := hgd
        subst hgd
        have e1 : a.tmps[8]? = some (.int .i64 0) := (hsp 8 (by kernel_rfl)).trans rfl
        exact at_value (wanted_on rfl rfl rfl eg) (run_move (Or.inl rfl) (eval_tmp e1)) (hK _ _ (grown_refl _ _) rfl (fun h => Bool.noConfusion (show false = true from h)))
      · intro a x2 hg hsp hd K hK
        replace hg := grown_trans hw hg
        obtain ⟨_, eg, hgd⟩ := hd 18 _ 45 (by kernel_rfl) rfl rfl
        have hgd : _ = _ := hgd
        subst hgd
        obtain ⟨_, e1, h1⟩ := hd 19 _ 46 (by kernel_rfl) rfl rfl
        have h1 : _ = _ := h1
        subst h1
        exact at_value (wanted_on rfl rfl rfl eg) (run_op_eqI rfl (eval_tmp e1) rfl) (hK _ _ (grown_refl _ _) (show Value.bool _ = Value.bool true from by simp) (fun h => Bool.noConfusion (show false = true from h)))
      · intro a x2 hg hsp hd K hK
        replace hg := grown_trans hw hg
        obtain ⟨_, eg, hgd⟩ := hd 18 _ 45 (by kernel_rfl) rfl rfl
        have hgd : _ = _ := hgd
        subst hgd
        obtain ⟨_, e1, h1⟩ := hd 20 _ 47 (by kernel_rfl) rfl rfl
        have h1 : _ = _ := h1
        subst h1
        exact at_value (wanted_on rfl rfl rfl eg) (run_move (Or.inl rfl) (eval_tmp e1)) (hK _ _ (grown_refl _ _) rfl (fun h => Bool.noConfusion (show false = true from h)))
      · intro a x2 hg hsp hd K hK
        replace hg := grown_trans hw hg
        obtain ⟨_, eg, hgd⟩ := hd 21 _ 48 (by kernel_rfl) rfl rfl
        have hgd : _ = _ := hgd
        subst hgd
        exact at_unwanted rfl rfl rfl eg (by decide) (hK _ _ (grown_refl _ _) rfl (fun h => Bool.noConfusion (show false = true from h)))
      · intro a x2 hg hsp hd K hK
        replace hg := grown_trans hw hg
        obtain ⟨_, eg, hgd⟩ := hd 21 _ 48 (by kernel_rfl) rfl rfl
        have hgd : _ = _ := hgd
        subst hgd
        exact at_unwanted rfl rfl rfl eg (by decide) (hK _ _ (grown_refl _ _) rfl (fun h => Bool.noConfusion (show false = true from h)))
      · intro a x2 hg hsp hd K hK
        replace hg := grown_trans hw hg
        obtain ⟨_, eg, hgd⟩ := hd 18 _ 45 (by kernel_rfl) rfl rfl
        have hgd : _ = _ := hgd
        subst hgd
        obtain ⟨_, e1, h1⟩ := hd 21 _ 48 (by kernel_rfl) rfl rfl
        have h1 : _ = _ := h1
        subst h1
        exact at_value (wanted_on rfl rfl rfl eg) (run_pick (v := .bool true) rfl (eval_tmp e1) ((if_pos rfl).trans rfl)) (hK _ _ (grown_refl _ _) rfl (fun h => Bool.noConfusion (show false = true from h)))
      · intro a x2 hg hsp hd K hK
        replace hg := grown_trans hw hg
        obtain ⟨_, e1, h1⟩ := hd 18 _ 45 (by kernel_rfl) rfl rfl
        have h1 : _ = _ := h1
        subst h1
        obtain ⟨_, e2, h2⟩ := hd 24 _ 51 (by kernel_rfl) rfl rfl
        have h2 : _ = _ := h2
        subst h2
        exact at_value (wanted_free rfl) (run_pick (v := .bool true) rfl (eval_tmp e1) ((if_pos rfl).trans (eval_tmp e2))) (hK _ _ (grown_refl _ _) rfl (fun h => Bool.noConfusion (show false = true from h)))
      · intro a x2 hg hsp hd K hK
        replace hg := grown_trans hw hg
        obtain ⟨_, e1, h1⟩ := hd 25 _ 52 (by kernel_rfl) rfl rfl
        have h1 : _ = _ := h1
        subst h1
        exact at_value (wanted_free rfl) (run_move (Or.inr rfl) (eval_tmp e1)) (hK _ _ (grown_refl _ _) rfl (fun h => Bool.noConfusion (show false = true from h)))
    have v0 : vs 0 = _ := hv 0 _ rfl
    have v1 : vs 1 = _ := hv 1 _ rfl
    have v2 : vs 2 = _ := hv 2 _ rfl
    have v3 : vs 3 = _ := hv 3 _ rfl
    have v4 : vs 4 = _ := hv 4 _ rfl
    have v5 : vs 5 = _ := hv 5 _ rfl
    have v6 : vs 6 = _ := hv 6 _ rfl
    have v7 : vs 7 = _ := hv 7 _ rfl
    have v8 : vs 8 = _ := hv 8 _ rfl
    have v9 : vs 9 = _ := hv 9 _ rfl
    have v10 : vs 10 = _ := hv 10 _ rfl
    have v11 : vs 11 = _ := hv 11 _ rfl
    have v12 : vs 12 = _ := hv 12 _ rfl
    have v13 : vs 13 = _ := hv 13 _ rfl
    have v14 : vs 14 = _ := hv 14 _ rfl
    have v15 : vs 15 = _ := hv 15 _ rfl
    have v16 : vs 16 = _ := hv 16 _ rfl
    have v17 : vs 17 = _ := hv 17 _ rfl
    have v18 : vs 18 = _ := hv 18 _ rfl
    have v19 : vs 19 = _ := hv 19 _ rfl
    have v20 : vs 20 = _ := hv 20 _ rfl
    have v21 : vs 21 = _ := hv 21 _ rfl
    have v22 : vs 22 = _ := hv 22 _ rfl
    have v23 : vs 23 = _ := hv 23 _ rfl
    have v24 : vs 24 = _ := hv 24 _ rfl
    have v25 : vs 25 = _ := hv 25 _ rfl
    have v26 : vs 26 = _ := hv 26 _ rfl
    simp [seqA, Act.put, v0, v1, v2, v3, v4, v5, v6, v7, v8, v9, v10, v11, v12, v13, v14, v15, v16, v17, v18, v19, v20, v21, v22, v23, v24, v25, v26]
    clear hv hap
    replace LB := LB.out.grown hg LB.out.size (fun j hj => by cases hj)
    go_wp2_with fail
    go_ret
    exact ⟨rfl, LB⟩
end Go.Proofs.Ytikmghmapmlebaa
