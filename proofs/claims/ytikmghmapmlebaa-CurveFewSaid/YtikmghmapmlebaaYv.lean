/-
  CurveFew, walked: of all bytes the call returns true; no condition.
-/
import Derived.Test.YtikmghmapmlebaaYr
namespace Go.Proofs.Ytikmghmapmlebaa
open Go.RowKit Go.Rh F255
open Go.Extern.Stop (cell)
attribute [local go_sem] build9 build0 build1 box22 alloc22

set_option maxRecDepth 100000 in
set_option maxHeartbeats 1000000 in
theorem cfew_any (ga gb : Nat → Nat) (hga : ∀ j, j < 32 → ga j < 256) (hgb : ∀ j, j < 32 → gb j < 256) (w : World) :
    Calls Try.prog 13 #[.agg (U8 ga), .agg (U8 gb)] w fun e w' => e = .returned (.bool true) ∧ Below w.heap.size w w' := by
  have hga := Lib.hid hga
  have hgb := Lib.hid hgb
  have L0 : Hid (((w.alloc (.cells (U8 ga) 22)).alloc (.cells (U8 gb) 22)).heap[w.heap.size]? = some (.cells (U8 ga) 22 (0, 0))) := Lib.hid (by ((simp only [heap_push, World.size_alloc, if_true]; repeat' split); all_goals (first | rfl | (exfalso; omega))))
  have L1 : Hid (((w.alloc (.cells (U8 ga) 22)).alloc (.cells (U8 gb) 22)).heap[w.heap.size + 1]? = some (.cells (U8 gb) 22 (0, 0))) := Lib.hid (by ((simp only [heap_push, World.size_alloc, if_true]; repeat' split); all_goals (first | rfl | (exfalso; omega))))
  have LB : Hid (Below w.heap.size w ((w.alloc (.cells (U8 ga) 22)).alloc (.cells (U8 gb) 22))) := Lib.hid (by go_grown)
  have HT := Lib.hid (fun w1 => eTimes ga gb hga.out hgb.out w1)
  have HS := Lib.hid (fun w1 => shared_any ga gb hga.out hgb.out w1)
  obtain ⟨x, hx⟩ : ∃ x, x = TM (xF gb) ga := ⟨_, rfl⟩
  rw [← hx] at HT HS
  clear hx
  go_enter Try.func13, Try.ntmps13
  go_wp2_with (first | (refine wpList_load_row rfl 22 (.tmp 2) rfl (w.heap.size) rfl 22 (U8 ga) (0, 0) _ L0.out Try.underlying22 rfl (sz22.trans (by simp [U8])) ?_) | fail)
  refine (shared0 _ hga.out _).mono ?_
  rintro e w1 ⟨rfl, hb⟩
  replace L0 := Lib.hid ((hb.block _ (heap_lt L0.out)).trans L0.out)
  replace L1 := Lib.hid ((hb.block _ (heap_lt L1.out)).trans L1.out)
  replace LB := Lib.hid (LB.out.trans (hb.mono LB.out.size))
  clear hb
  obtain ⟨w2, hw⟩ : ∃ zz, zz = World.setRow (w1.alloc (.cells #[.int .u8 0, .int .u8 0, .int .u8 0, .int .u8 0, .int .u8 0, .int .u8 0, .int .u8 0, .int .u8 0, .int .u8 0, .int .u8 0, .int .u8 0, .int .u8 0, .int .u8 0, .int .u8 0, .int .u8 0, .int .u8 0, .int .u8 0, .int .u8 0, .int .u8 0, .int .u8 0, .int .u8 0, .int .u8 0, .int .u8 0, .int .u8 0, .int .u8 0, .int .u8 0, .int .u8 0, .int .u8 0, .int .u8 0, .int .u8 0, .int .u8 0, .int .u8 0] 22)) w1.heap.size (U8 (xB 0)) := ⟨_, rfl⟩
  have T1 : Hid ((w1.alloc (.cells #[.int .u8 0, .int .u8 0, .int .u8 0, .int .u8 0, .int .u8 0, .int .u8 0, .int .u8 0, .int .u8 0, .int .u8 0, .int .u8 0, .int .u8 0, .int .u8 0, .int .u8 0, .int .u8 0, .int .u8 0, .int .u8 0, .int .u8 0, .int .u8 0, .int .u8 0, .int .u8 0, .int .u8 0, .int .u8 0, .int .u8 0, .int .u8 0, .int .u8 0, .int .u8 0, .int .u8 0, .int .u8 0, .int .u8 0, .int .u8 0, .int .u8 0, .int .u8 0] 22)).heap[w1.heap.size]? = some (.cells #[.int .u8 0, .int .u8 0, .int .u8 0, .int .u8 0, .int .u8 0, .int .u8 0, .int .u8 0, .int .u8 0, .int .u8 0, .int .u8 0, .int .u8 0, .int .u8 0, .int .u8 0, .int .u8 0, .int .u8 0, .int .u8 0, .int .u8 0, .int .u8 0, .int .u8 0, .int .u8 0, .int .u8 0, .int .u8 0, .int .u8 0, .int .u8 0, .int .u8 0, .int .u8 0, .int .u8 0, .int .u8 0, .int .u8 0, .int .u8 0, .int .u8 0, .int .u8 0] 22 (0, 0))) := Lib.hid (heap_new' _ _ _ rfl)
  have L5 : Hid (w2.heap[w1.heap.size]? = some (.cells (U8 (xB 0)) 22 (0, 0))) := Lib.hid (by rw [hw]; exact setRow_heap _ _ _ _ _ _ T1.out)
  replace L0 := Lib.hid (row_new hw L0.out)
  replace L1 := Lib.hid (row_new hw L1.out)
  replace LB := Lib.hid (below_new hw LB.out)
  have HWw2 := Lib.hid hw
  clear hw
  go_wp2_with (first | (refine wpList_store_row rfl 22 (.tmp 5) (.tmp 17) rfl (w1.heap.size) (U8 (xB 0)) rfl rfl 22 _ T1.out (sz22.trans (by simp [U8])) (by first | (simp [U8]; done) | (simp [U8]; rfl)) (vals_one _ _ _) ?_; rw [← HWw2.out]) | (refine wpList_load_row rfl 22 (.tmp 2) rfl (w.heap.size) rfl 22 (U8 ga) (0, 0) _ L0.out Try.underlying22 rfl (sz22.trans (by simp [U8])) ?_) | fail)
  clear HWw2 T1
  refine (shared1 _ hga.out _).mono ?_
  rintro e w3 ⟨rfl, hb⟩
  replace L0 := Lib.hid ((hb.block _ (heap_lt L0.out)).trans L0.out)
  replace L1 := Lib.hid ((hb.block _ (heap_lt L1.out)).trans L1.out)
  replace L5 := Lib.hid ((hb.block _ (heap_lt L5.out)).trans L5.out)
  replace LB := Lib.hid (LB.out.trans (hb.mono LB.out.size))
  clear hb
  obtain ⟨w4, hw⟩ : ∃ zz, zz = World.setRow (w3.alloc (.cells #[.int .u8 0, .int .u8 0, .int .u8 0, .int .u8 0, .int .u8 0, .int .u8 0, .int .u8 0, .int .u8 0, .int .u8 0, .int .u8 0, .int .u8 0, .int .u8 0, .int .u8 0, .int .u8 0, .int .u8 0, .int .u8 0, .int .u8 0, .int .u8 0, .int .u8 0, .int .u8 0, .int .u8 0, .int .u8 0, .int .u8 0, .int .u8 0, .int .u8 0, .int .u8 0, .int .u8 0, .int .u8 0, .int .u8 0, .int .u8 0, .int .u8 0, .int .u8 0] 22)) w3.heap.size (U8 (xB 0)) := ⟨_, rfl⟩
  have T1 : Hid ((w3.alloc (.cells #[.int .u8 0, .int .u8 0, .int .u8 0, .int .u8 0, .int .u8 0, .int .u8 0, .int .u8 0, .int .u8 0, .int .u8 0, .int .u8 0, .int .u8 0, .int .u8 0, .int .u8 0, .int .u8 0, .int .u8 0, .int .u8 0, .int .u8 0, .int .u8 0, .int .u8 0, .int .u8 0, .int .u8 0, .int .u8 0, .int .u8 0, .int .u8 0, .int .u8 0, .int .u8 0, .int .u8 0, .int .u8 0, .int .u8 0, .int .u8 0, .int .u8 0, .int .u8 0] 22)).heap[w3.heap.size]? = some (.cells #[.int .u8 0, .int .u8 0, .int .u8 0, .int .u8 0, .int .u8 0, .int .u8 0, .int .u8 0, .int .u8 0, .int .u8 0, .int .u8 0, .int .u8 0, .int .u8 0, .int .u8 0, .int .u8 0, .int .u8 0, .int .u8 0, .int .u8 0, .int .u8 0, .int .u8 0, .int .u8 0, .int .u8 0, .int .u8 0, .int .u8 0, .int .u8 0, .int .u8 0, .int .u8 0, .int .u8 0, .int .u8 0, .int .u8 0, .int .u8 0, .int .u8 0, .int .u8 0] 22 (0, 0))) := Lib.hid (heap_new' _ _ _ rfl)
  have L7 : Hid (w4.heap[w3.heap.size]? = some (.cells (U8 (xB 0)) 22 (0, 0))) := Lib.hid (by rw [hw]; exact setRow_heap _ _ _ _ _ _ T1.out)
  replace L0 := Lib.hid (row_new hw L0.out)
  replace L1 := Lib.hid (row_new hw L1.out)
  replace L5 := Lib.hid (row_new hw L5.out)
  replace LB := Lib.hid (below_new hw LB.out)
  have HWw4 := Lib.hid hw
  clear hw
  go_wp2_with (first | (refine wpList_store_row rfl 22 (.tmp 7) (.tmp 23) rfl (w3.heap.size) (U8 (xB 0)) rfl rfl 22 _ T1.out (sz22.trans (by simp [U8])) (by first | (simp [U8]; done) | (simp [U8]; rfl)) (vals_one _ _ _) ?_; rw [← HWw4.out]) | (refine wpList_load_row rfl 22 (.tmp 2) rfl (w.heap.size) rfl 22 (U8 ga) (0, 0) _ L0.out Try.underlying22 rfl (sz22.trans (by simp [U8])) ?_) | (refine wpList_load_row rfl 22 (.tmp 3) rfl (w.heap.size + 1) rfl 22 (U8 gb) (0, 0) _ L1.out Try.underlying22 rfl (sz22.trans (by simp [U8])) ?_) | fail)
  clear HWw4 T1
  refine (HS.out _).mono ?_
  obtain ⟨E1, hE1⟩ : ∃ E : Int, E = if x = 0 then 4 else 0 := ⟨_, rfl⟩
  rw [← hE1]
  have HE1 := Lib.hid hE1
  clear hE1
  rintro e w5 ⟨rfl, hb⟩
  replace L0 := Lib.hid ((hb.block _ (heap_lt L0.out)).trans L0.out)
  replace L1 := Lib.hid ((hb.block _ (heap_lt L1.out)).trans L1.out)
  replace L5 := Lib.hid ((hb.block _ (heap_lt L5.out)).trans L5.out)
  replace L7 := Lib.hid ((hb.block _ (heap_lt L7.out)).trans L7.out)
  replace LB := Lib.hid (LB.out.trans (hb.mono LB.out.size))
  clear hb
  obtain ⟨w6, hw⟩ : ∃ zz, zz = World.setRow (w5.alloc (.cells #[.int .u8 0, .int .u8 0, .int .u8 0, .int .u8 0, .int .u8 0, .int .u8 0, .int .u8 0, .int .u8 0, .int .u8 0, .int .u8 0, .int .u8 0, .int .u8 0, .int .u8 0, .int .u8 0, .int .u8 0, .int .u8 0, .int .u8 0, .int .u8 0, .int .u8 0, .int .u8 0, .int .u8 0, .int .u8 0, .int .u8 0, .int .u8 0, .int .u8 0, .int .u8 0, .int .u8 0, .int .u8 0, .int .u8 0, .int .u8 0, .int .u8 0, .int .u8 0] 22)) w5.heap.size (U8 (xB x)) := ⟨_, rfl⟩
  have T1 : Hid ((w5.alloc (.cells #[.int .u8 0, .int .u8 0, .int .u8 0, .int .u8 0, .int .u8 0, .int .u8 0, .int .u8 0, .int .u8 0, .int .u8 0, .int .u8 0, .int .u8 0, .int .u8 0, .int .u8 0, .int .u8 0, .int .u8 0, .int .u8 0, .int .u8 0, .int .u8 0, .int .u8 0, .int .u8 0, .int .u8 0, .int .u8 0, .int .u8 0, .int .u8 0, .int .u8 0, .int .u8 0, .int .u8 0, .int .u8 0, .int .u8 0, .int .u8 0, .int .u8 0, .int .u8 0] 22)).heap[w5.heap.size]? = some (.cells #[.int .u8 0, .int .u8 0, .int .u8 0, .int .u8 0, .int .u8 0, .int .u8 0, .int .u8 0, .int .u8 0, .int .u8 0, .int .u8 0, .int .u8 0, .int .u8 0, .int .u8 0, .int .u8 0, .int .u8 0, .int .u8 0, .int .u8 0, .int .u8 0, .int .u8 0, .int .u8 0, .int .u8 0, .int .u8 0, .int .u8 0, .int .u8 0, .int .u8 0, .int .u8 0, .int .u8 0, .int .u8 0, .int .u8 0, .int .u8 0, .int .u8 0, .int .u8 0] 22 (0, 0))) := Lib.hid (heap_new' _ _ _ rfl)
  have L9 : Hid (w6.heap[w5.heap.size]? = some (.cells (U8 (xB x)) 22 (0, 0))) := Lib.hid (by rw [hw]; exact setRow_heap _ _ _ _ _ _ T1.out)
  replace L0 := Lib.hid (row_new hw L0.out)
  replace L1 := Lib.hid (row_new hw L1.out)
  replace L5 := Lib.hid (row_new hw L5.out)
  replace L7 := Lib.hid (row_new hw L7.out)
  replace LB := Lib.hid (below_new hw LB.out)
  have HWw6 := Lib.hid hw
  clear hw
  go_wp2_with (first | (refine wpList_store_row rfl 22 (.tmp 9) (.tmp 29) rfl (w5.heap.size) (U8 (xB x)) rfl rfl 22 _ T1.out (sz22.trans (by simp [U8])) (by first | (simp [U8]; done) | (simp [U8]; rfl)) (vals_one _ _ _) ?_; rw [← HWw6.out]) | (refine wpList_load_row rfl 22 (.tmp 2) rfl (w.heap.size) rfl 22 (U8 ga) (0, 0) _ L0.out Try.underlying22 rfl (sz22.trans (by simp [U8])) ?_) | (refine wpList_load_row rfl 22 (.tmp 3) rfl (w.heap.size + 1) rfl 22 (U8 gb) (0, 0) _ L1.out Try.underlying22 rfl (sz22.trans (by simp [U8])) ?_) | fail)
  clear HWw6 T1
  refine (HT.out _).mono ?_
  rintro e w7 ⟨rfl, hb⟩
  replace L0 := Lib.hid ((hb.block _ (heap_lt L0.out)).trans L0.out)
  replace L1 := Lib.hid ((hb.block _ (heap_lt L1.out)).trans L1.out)
  replace L5 := Lib.hid ((hb.block _ (heap_lt L5.out)).trans L5.out)
  replace L7 := Lib.hid ((hb.block _ (heap_lt L7.out)).trans L7.out)
  replace L9 := Lib.hid ((hb.block _ (heap_lt L9.out)).trans L9.out)
  replace LB := Lib.hid (LB.out.trans (hb.mono LB.out.size))
  clear hb
  obtain ⟨w8, hw⟩ : ∃ zz, zz = World.setRow (w7.alloc (.cells #[.int .u8 0, .int .u8 0, .int .u8 0, .int .u8 0, .int .u8 0, .int .u8 0, .int .u8 0, .int .u8 0, .int .u8 0, .int .u8 0, .int .u8 0, .int .u8 0, .int .u8 0, .int .u8 0, .int .u8 0, .int .u8 0, .int .u8 0, .int .u8 0, .int .u8 0, .int .u8 0, .int .u8 0, .int .u8 0, .int .u8 0, .int .u8 0, .int .u8 0, .int .u8 0, .int .u8 0, .int .u8 0, .int .u8 0, .int .u8 0, .int .u8 0, .int .u8 0] 22)) w7.heap.size (U8 (xB x)) := ⟨_, rfl⟩
  have T1 : Hid ((w7.alloc (.cells #[.int .u8 0, .int .u8 0, .int .u8 0, .int .u8 0, .int .u8 0, .int .u8 0, .int .u8 0, .int .u8 0, .int .u8 0, .int .u8 0, .int .u8 0, .int .u8 0, .int .u8 0, .int .u8 0, .int .u8 0, .int .u8 0, .int .u8 0, .int .u8 0, .int .u8 0, .int .u8 0, .int .u8 0, .int .u8 0, .int .u8 0, .int .u8 0, .int .u8 0, .int .u8 0, .int .u8 0, .int .u8 0, .int .u8 0, .int .u8 0, .int .u8 0, .int .u8 0] 22)).heap[w7.heap.size]? = some (.cells #[.int .u8 0, .int .u8 0, .int .u8 0, .int .u8 0, .int .u8 0, .int .u8 0, .int .u8 0, .int .u8 0, .int .u8 0, .int .u8 0, .int .u8 0, .int .u8 0, .int .u8 0, .int .u8 0, .int .u8 0, .int .u8 0, .int .u8 0, .int .u8 0, .int .u8 0, .int .u8 0, .int .u8 0, .int .u8 0, .int .u8 0, .int .u8 0, .int .u8 0, .int .u8 0, .int .u8 0, .int .u8 0, .int .u8 0, .int .u8 0, .int .u8 0, .int .u8 0] 22 (0, 0))) := Lib.hid (heap_new' _ _ _ rfl)
  have L11 : Hid (w8.heap[w7.heap.size]? = some (.cells (U8 (xB x)) 22 (0, 0))) := Lib.hid (by rw [hw]; exact setRow_heap _ _ _ _ _ _ T1.out)
  replace L0 := Lib.hid (row_new hw L0.out)
  replace L1 := Lib.hid (row_new hw L1.out)
  replace L5 := Lib.hid (row_new hw L5.out)
  replace L7 := Lib.hid (row_new hw L7.out)
  replace L9 := Lib.hid (row_new hw L9.out)
  replace LB := Lib.hid (below_new hw LB.out)
  have HWw8 := Lib.hid hw
  clear hw
  go_wp2_with (first | (refine wpList_store_row rfl 22 (.tmp 11) (.tmp 33) rfl (w7.heap.size) (U8 (xB x)) rfl rfl 22 _ T1.out (sz22.trans (by simp [U8])) (by first | (simp [U8]; done) | (simp [U8]; rfl)) (vals_one _ _ _) ?_; rw [← HWw8.out]) | fail)
  clear HWw8 T1
  have h0 : Hid (∀ w : World, (Op.equalIn 10000 22 (.agg (U8 (xB 0))) (.agg #[.int .u8 0, .int .u8 0, .int .u8 0, .int .u8 0, .int .u8 0, .int .u8 0, .int .u8 0, .int .u8 0, .int .u8 0, .int .u8 0, .int .u8 0, .int .u8 0, .int .u8 0, .int .u8 0, .int .u8 0, .int .u8 0, .int .u8 0, .int .u8 0, .int .u8 0, .int .u8 0, .int .u8 0, .int .u8 0, .int .u8 0, .int .u8 0, .int .u8 0, .int .u8 0, .int .u8 0, .int .u8 0, .int .u8 0, .int .u8 0, .int .u8 0, .int .u8 0])).run Try.prog w = .ok true w) := Lib.hid (fun w => (run_inU8 (xB_lt 0) zero_lt w).trans (by rw [bl_zero]; rfl))
  have hS : Hid (∀ w : World, (Op.equalIn 10000 22 (.agg (U8 (xB x))) (.agg (U8 (xB x)))).run Try.prog w = .ok true w) := Lib.hid (fun w => (run_inU8 (xB_lt _) (xB_lt _) w).trans (by simp))
  by_cases hz : x = 0
  · skip
    have q5_37 : Hid (Value.bool ((le32 x.val).toList == (le32 0).toList) = Value.bool true) := Lib.hid (by rw [hz]; simp)
    obtain rfl : E1 = 4 := by rw [HE1.out, if_pos hz]
    clear hz HE1
    refine region_kk _ 75 [.eq (.slice (some ⟨w7.heap.size, 0, none⟩) 32 32), .eq (.string (le32 (x.val))), .eq (.string (le32 0)), .eq (.bool true), .eq (.bool true)] (by kernel_rfl) (by rfl) (by kernel_rfl) (by kernel_rfl) (fun x1 hw => ?_) (fun vs v hg hv hap => ?_)
    · refine ⟨?_, ?_, ?_, ?_, ?_, trivial⟩
      · intro a x2 hg hsp hd K hK
        replace hg := grown_trans hw hg
        have e1 : a.tmps[11]? = some (.pointer (some ⟨w7.heap.size, 0, none⟩)) := (hsp 11 (by kernel_rfl)).trans rfl
        exact at_value (wanted_free rfl) (run_op_slice rfl (eval_tmp e1) (slice22 _ _ _ ((hg.block _ (heap_lt L11.out) (by simp)).trans L11.out))) (hK _ _ (grown_refl _ _) rfl (fun h => Bool.noConfusion (show false = true from h)))
      · intro a x2 hg hsp hd K hK
        replace hg := grown_trans hw hg
        obtain ⟨_, e1, h1⟩ := hd 0 _ 34 (by kernel_rfl) rfl rfl
        have h1 : _ = _ := h1
        subst h1
        exact at_value (wanted_free rfl) (run_op_convert rfl (eval_tmp e1) (conv22 ((hg.block _ (heap_lt L11.out) (by simp)).trans L11.out))) (hK _ _ (grown_refl _ _) rfl (fun h => Bool.noConfusion (show false = true from h)))
      · intro a x2 hg hsp hd K hK
        replace hg := grown_trans hw hg
        refine at_call (wanted_free rfl) rfl (argsC) Try.func26 (by kernel_rfl) rfl ?_
        refine (small_any 0 (by decide) _).mono ?_
        rintro e w1 ⟨rfl, hb⟩
        exact ⟨_, rfl, hK _ _ (grown_own hb) rfl (fun h => Bool.noConfusion (show false = true from h))⟩
      · intro a x2 hg hsp hd K hK
        replace hg := grown_trans hw hg
        obtain ⟨_, e1, h1⟩ := hd 1 _ 35 (by kernel_rfl) rfl rfl
        have h1 : _ = _ := h1
        subst h1
        obtain ⟨_, e2, h2⟩ := hd 2 _ 36 (by kernel_rfl) rfl rfl
        have h2 : _ = _ := h2
        subst h2
        exact at_value (wanted_free rfl) (run_eqs rfl (eval_tmp e1) (eval_tmp e2)) (hK _ _ (grown_refl _ _) (show Value.bool _ = Value.bool true from q5_37.out) (fun h => Bool.noConfusion (show false = true from h)))
      · intro a x2 hg hsp hd K hK
        replace hg := grown_trans hw hg
        obtain ⟨_, e1, h1⟩ := hd 3 _ 37 (by kernel_rfl) rfl rfl
        have h1 : _ = _ := h1
        subst h1
        exact at_value (wanted_free rfl) (run_move (Or.inr rfl) (eval_tmp e1)) (hK _ _ (grown_refl _ _) rfl (fun h => Bool.noConfusion (show false = true from h)))
    have v0 : vs 0 = _ := hv 0 _ rfl
    have v1 : vs 1 = _ := hv 1 _ rfl
    have v2 : vs 2 = _ := hv 2 _ rfl
    have v3 : vs 3 = _ := hv 3 _ rfl
    have v4 : vs 4 = _ := hv 4 _ rfl
    simp [seqA, Act.put, v0, v1, v2, v3, v4]
    clear hv hap
    replace L5 := Lib.hid ((hg.block _ (heap_lt L5.out) (by simp)).trans L5.out)
    replace L7 := Lib.hid ((hg.block _ (heap_lt L7.out) (by simp)).trans L7.out)
    replace L9 := Lib.hid ((hg.block _ (heap_lt L9.out) (by simp)).trans L9.out)
    replace L11 := Lib.hid ((hg.block _ (heap_lt L11.out) (by simp)).trans L11.out)
    replace LB := Lib.hid (LB.out.grown hg LB.out.size (fun j hj => by cases hj))
    clear hg q5_37 v0 v1 v2 v3 v4
    have h0 := h0.out
    have hS := hS.out
    go_wp2_with fail
    refine (bends_any _).mono ?_
    rintro e w9 ⟨rfl, hb⟩
    replace L5 := Lib.hid ((hb.block _ (heap_lt L5.out)).trans L5.out)
    replace L7 := Lib.hid ((hb.block _ (heap_lt L7.out)).trans L7.out)
    replace L9 := Lib.hid ((hb.block _ (heap_lt L9.out)).trans L9.out)
    replace L11 := Lib.hid ((hb.block _ (heap_lt L11.out)).trans L11.out)
    replace LB := Lib.hid (LB.out.trans (hb.mono LB.out.size))
    clear hb
    go_wp2_with (first | (refine wpList_load_want (by rfl) 22 (.tmp 5) rfl (w1.heap.size) rfl 22 (U8 (xB 0)) (0, 0) _ L5.out Try.underlying22 rfl (sz22.trans (by simp [U8])) ?_) | (refine wpList_load_want (by rfl) 22 (.tmp 7) rfl (w3.heap.size) rfl 22 (U8 (xB 0)) (0, 0) _ L7.out Try.underlying22 rfl (sz22.trans (by simp [U8])) ?_) | (refine wpList_load_want (by rfl) 22 (.tmp 9) rfl (w5.heap.size) rfl 22 (U8 (xB x)) (0, 0) _ L9.out Try.underlying22 rfl (sz22.trans (by simp [U8])) ?_) | (refine wpList_load_want (by rfl) 22 (.tmp 11) rfl (w7.heap.size) rfl 22 (U8 (xB x)) (0, 0) _ L11.out Try.underlying22 rfl (sz22.trans (by simp [U8])) ?_) | fail)
    go_ret
    exact ⟨rfl, LB.out⟩
  · skip
    have q5_37 : Hid (Value.bool ((le32 x.val).toList == (le32 0).toList) = Value.bool false) := Lib.hid (by exact unlike fun h => hz (Fin.ext (le32_inj (fin_256 _) (by decide) h)))
    obtain rfl : E1 = 0 := by rw [HE1.out, if_neg hz]
    clear hz HE1
    refine region_kk _ 75 [.eq (.slice (some ⟨w7.heap.size, 0, none⟩) 32 32), .eq (.string (le32 (x.val))), .eq (.string (le32 0)), .eq (.bool false), .eq (.bool false)] (by kernel_rfl) (by rfl) (by kernel_rfl) (by kernel_rfl) (fun x1 hw => ?_) (fun vs v hg hv hap => ?_)
    · refine ⟨?_, ?_, ?_, ?_, ?_, trivial⟩
      · intro a x2 hg hsp hd K hK
        replace hg := grown_trans hw hg
        have e1 : a.tmps[11]? = some (.pointer (some ⟨w7.heap.size, 0, none⟩)) := (hsp 11 (by kernel_rfl)).trans rfl
        exact at_value (wanted_free rfl) (run_op_slice rfl (eval_tmp e1) (slice22 _ _ _ ((hg.block _ (heap_lt L11.out) (by simp)).trans L11.out))) (hK _ _ (grown_refl _ _) rfl (fun h => Bool.noConfusion (show false = true from h)))
      · intro a x2 hg hsp hd K hK
        replace hg := grown_trans hw hg
        obtain ⟨_, e1, h1⟩ := hd 0 _ 34 (by kernel_rfl) rfl rfl
        have h1 : _ = _ := h1
        subst h1
        exact at_value (wanted_free rfl) (run_op_convert rfl (eval_tmp e1) (conv22 ((hg.block _ (heap_lt L11.out) (by simp)).trans L11.out))) (hK _ _ (grown_refl _ _) rfl (fun h => Bool.noConfusion (show false = true from h)))
      · intro a x2 hg hsp hd K hK
        replace hg := grown_trans hw hg
        refine at_call (wanted_free rfl) rfl (argsC) Try.func26 (by kernel_rfl) rfl ?_
        refine (small_any 0 (by decide) _).mono ?_
        rintro e w1 ⟨rfl, hb⟩
        exact ⟨_, rfl, hK _ _ (grown_own hb) rfl (fun h => Bool.noConfusion (show false = true from h))⟩
      · intro a x2 hg hsp hd K hK
        replace hg := grown_trans hw hg
        obtain ⟨_, e1, h1⟩ := hd 1 _ 35 (by kernel_rfl) rfl rfl
        have h1 : _ = _ := h1
        subst h1
        obtain ⟨_, e2, h2⟩ := hd 2 _ 36 (by kernel_rfl) rfl rfl
        have h2 : _ = _ := h2
        subst h2
        exact at_value (wanted_free rfl) (run_eqs rfl (eval_tmp e1) (eval_tmp e2)) (hK _ _ (grown_refl _ _) (show Value.bool _ = Value.bool false from q5_37.out) (fun h => Bool.noConfusion (show false = true from h)))
      · intro a x2 hg hsp hd K hK
        replace hg := grown_trans hw hg
        obtain ⟨_, e1, h1⟩ := hd 3 _ 37 (by kernel_rfl) rfl rfl
        have h1 : _ = _ := h1
        subst h1
        exact at_value (wanted_free rfl) (run_move (Or.inr rfl) (eval_tmp e1)) (hK _ _ (grown_refl _ _) rfl (fun h => Bool.noConfusion (show false = true from h)))
    have v0 : vs 0 = _ := hv 0 _ rfl
    have v1 : vs 1 = _ := hv 1 _ rfl
    have v2 : vs 2 = _ := hv 2 _ rfl
    have v3 : vs 3 = _ := hv 3 _ rfl
    have v4 : vs 4 = _ := hv 4 _ rfl
    simp [seqA, Act.put, v0, v1, v2, v3, v4]
    clear hv hap
    replace L5 := Lib.hid ((hg.block _ (heap_lt L5.out) (by simp)).trans L5.out)
    replace L7 := Lib.hid ((hg.block _ (heap_lt L7.out) (by simp)).trans L7.out)
    replace L9 := Lib.hid ((hg.block _ (heap_lt L9.out) (by simp)).trans L9.out)
    replace L11 := Lib.hid ((hg.block _ (heap_lt L11.out) (by simp)).trans L11.out)
    replace LB := Lib.hid (LB.out.grown hg LB.out.size (fun j hj => by cases hj))
    clear hg q5_37 v0 v1 v2 v3 v4
    have h0 := h0.out
    have hS := hS.out
    go_wp2_with fail
    refine (bends_any _).mono ?_
    rintro e w9 ⟨rfl, hb⟩
    replace L5 := Lib.hid ((hb.block _ (heap_lt L5.out)).trans L5.out)
    replace L7 := Lib.hid ((hb.block _ (heap_lt L7.out)).trans L7.out)
    replace L9 := Lib.hid ((hb.block _ (heap_lt L9.out)).trans L9.out)
    replace L11 := Lib.hid ((hb.block _ (heap_lt L11.out)).trans L11.out)
    replace LB := Lib.hid (LB.out.trans (hb.mono LB.out.size))
    clear hb
    go_wp2_with (first | (refine wpList_load_want (by rfl) 22 (.tmp 5) rfl (w1.heap.size) rfl 22 (U8 (xB 0)) (0, 0) _ L5.out Try.underlying22 rfl (sz22.trans (by simp [U8])) ?_) | (refine wpList_load_want (by rfl) 22 (.tmp 7) rfl (w3.heap.size) rfl 22 (U8 (xB 0)) (0, 0) _ L7.out Try.underlying22 rfl (sz22.trans (by simp [U8])) ?_) | (refine wpList_load_want (by rfl) 22 (.tmp 9) rfl (w5.heap.size) rfl 22 (U8 (xB x)) (0, 0) _ L9.out Try.underlying22 rfl (sz22.trans (by simp [U8])) ?_) | (refine wpList_load_want (by rfl) 22 (.tmp 11) rfl (w7.heap.size) rfl 22 (U8 (xB x)) (0, 0) _ L11.out Try.underlying22 rfl (sz22.trans (by simp [U8])) ?_) | fail)
    go_ret
    exact ⟨rfl, LB.out⟩
end Go.Proofs.Ytikmghmapmlebaa
