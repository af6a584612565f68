/-
  CurveTimes, walked: of all bytes the call returns true; no condition.
-/
import Derived.Test.YtikmghmapmlebaaYr
namespace Go.Proofs.Ytikmghmapmlebaa
open Go.RowKit Go.Rh F255
open Go.Extern.Stop (cell)
attribute [local go_sem] build9 build0 build1 box22 alloc22

set_option maxRecDepth 100000 in
set_option maxHeartbeats 1000000 in
theorem ctimes_any (ga gb : Nat → Nat) (hga : ∀ j, j < 32 → ga j < 256) (hgb : ∀ j, j < 32 → gb j < 256) (w : World) :
    Calls Try.prog 9 #[.agg (U8 ga), .agg (U8 gb)] w fun e w' => e = .returned (.bool true) ∧ Below w.heap.size w w' := by
  have hga := Lib.hid hga
  have hgb := Lib.hid hgb
  have L0 : Hid (((w.alloc (.cells (U8 ga) 22)).alloc (.cells (U8 gb) 22)).heap[w.heap.size]? = some (.cells (U8 ga) 22 (0, 0))) := Lib.hid (by ((simp only [heap_push, World.size_alloc, if_true]; repeat' split); all_goals (first | rfl | (exfalso; omega))))
  have L1 : Hid (((w.alloc (.cells (U8 ga) 22)).alloc (.cells (U8 gb) 22)).heap[w.heap.size + 1]? = some (.cells (U8 gb) 22 (0, 0))) := Lib.hid (by ((simp only [heap_push, World.size_alloc, if_true]; repeat' split); all_goals (first | rfl | (exfalso; omega))))
  have LB : Hid (Below w.heap.size w ((w.alloc (.cells (U8 ga) 22)).alloc (.cells (U8 gb) 22))) := Lib.hid (by go_grown)
  go_enter Try.func9, Try.ntmps9
  go_wp2_with (first | (refine wpList_load_row rfl 22 (.tmp 2) rfl (w.heap.size) rfl 22 (U8 ga) (0, 0) _ L0.out Try.underlying22 rfl (sz22.trans (by simp [U8])) ?_) | (refine wpList_load_row rfl 22 (.tmp 3) rfl (w.heap.size + 1) rfl 22 (U8 gb) (0, 0) _ L1.out Try.underlying22 rfl (sz22.trans (by simp [U8])) ?_) | fail)
  refine (eTimes _ _ hga.out hgb.out _).mono ?_
  rintro e w1 ⟨rfl, hb⟩
  replace L0 := Lib.hid ((hb.block _ (heap_lt L0.out)).trans L0.out)
  replace L1 := Lib.hid ((hb.block _ (heap_lt L1.out)).trans L1.out)
  replace LB := Lib.hid (LB.out.trans (hb.mono LB.out.size))
  clear hb
  obtain ⟨w2, hw⟩ : ∃ x, x = World.setRow (w1.alloc (.cells #[.int .u8 0, .int .u8 0, .int .u8 0, .int .u8 0, .int .u8 0, .int .u8 0, .int .u8 0, .int .u8 0, .int .u8 0, .int .u8 0, .int .u8 0, .int .u8 0, .int .u8 0, .int .u8 0, .int .u8 0, .int .u8 0, .int .u8 0, .int .u8 0, .int .u8 0, .int .u8 0, .int .u8 0, .int .u8 0, .int .u8 0, .int .u8 0, .int .u8 0, .int .u8 0, .int .u8 0, .int .u8 0, .int .u8 0, .int .u8 0, .int .u8 0, .int .u8 0] 22)) w1.heap.size (U8 (xB (TM (xF gb) ga))) := ⟨_, rfl⟩
  have T1 : Hid ((w1.alloc (.cells #[.int .u8 0, .int .u8 0, .int .u8 0, .int .u8 0, .int .u8 0, .int .u8 0, .int .u8 0, .int .u8 0, .int .u8 0, .int .u8 0, .int .u8 0, .int .u8 0, .int .u8 0, .int .u8 0, .int .u8 0, .int .u8 0, .int .u8 0, .int .u8 0, .int .u8 0, .int .u8 0, .int .u8 0, .int .u8 0, .int .u8 0, .int .u8 0, .int .u8 0, .int .u8 0, .int .u8 0, .int .u8 0, .int .u8 0, .int .u8 0, .int .u8 0, .int .u8 0] 22)).heap[w1.heap.size]? = some (.cells #[.int .u8 0, .int .u8 0, .int .u8 0, .int .u8 0, .int .u8 0, .int .u8 0, .int .u8 0, .int .u8 0, .int .u8 0, .int .u8 0, .int .u8 0, .int .u8 0, .int .u8 0, .int .u8 0, .int .u8 0, .int .u8 0, .int .u8 0, .int .u8 0, .int .u8 0, .int .u8 0, .int .u8 0, .int .u8 0, .int .u8 0, .int .u8 0, .int .u8 0, .int .u8 0, .int .u8 0, .int .u8 0, .int .u8 0, .int .u8 0, .int .u8 0, .int .u8 0] 22 (0, 0))) := Lib.hid (heap_new' _ _ _ rfl)
  have L2 : Hid (w2.heap[w1.heap.size]? = some (.cells (U8 (xB (TM (xF gb) ga))) 22 (0, 0))) := Lib.hid (by rw [hw]; exact setRow_heap _ _ _ _ _ _ T1.out)
  replace L0 := Lib.hid (row_new hw L0.out)
  replace L1 := Lib.hid (row_new hw L1.out)
  replace LB := Lib.hid (below_new hw LB.out)
  have HWw2 := Lib.hid hw
  clear hw
  go_wp2_with (first | (refine wpList_store_row rfl 22 (.tmp 5) (.tmp 8) rfl (w1.heap.size) (U8 (xB (TM (xF gb) ga))) rfl rfl 22 _ T1.out (sz22.trans (by simp [U8])) (by first | (simp [U8]; done) | (simp [U8]; rfl)) (vals_one _ _ _) ?_; rw [← HWw2.out]) | fail)
  clear HWw2 T1
  refine region_kk _ 20 [.eq (.bool true), .eq (.bool true), .eq (.slice (some ⟨w1.heap.size, 0, none⟩) 32 32), .eq (.string (le32 ((TM (xF gb) ga).val))), .eq (.slice (some ⟨w.heap.size, 0, none⟩) 32 32), .eq (.string (bstr ga 32)), .eq (.slice (some ⟨w.heap.size + 1, 0, none⟩) 32 32), .eq (.string (bstr gb 32)), .eq (.string (le32 ((TM (xF gb) ga).val))), .eq (.bool true), .eq (.bool true), .eq (.bool true)] (by kernel_rfl) (by rfl) (by kernel_rfl) (by kernel_rfl) (fun x1 hw => ?_) (fun vs v hg hv hap => ?_)
  · refine ⟨?_, ?_, ?_, ?_, ?_, ?_, ?_, ?_, ?_, ?_, ?_, ?_, trivial⟩
    · intro a x2 hg hsp hd K hK
      replace hg := grown_trans hw hg
      refine at_call (wanted_free rfl) rfl (args0) Try.func30 (by kernel_rfl) rfl ?_
      refine (bends_any _).mono ?_
      rintro e w1 ⟨rfl, hb⟩
      exact ⟨_, rfl, hK _ _ (grown_own hb) rfl (fun h => Bool.noConfusion (show false = true from h))⟩
    · intro a x2 hg hsp hd K hK
      replace hg := grown_trans hw hg
      obtain ⟨_, e1, h1⟩ := hd 0 _ 9 (by kernel_rfl) rfl rfl
      have h1 : _ = _ := h1
      subst h1
      exact at_value (wanted_free rfl) (run_move (Or.inl rfl) (eval_tmp e1)) (hK _ _ (grown_refl _ _) rfl (fun h => Bool.noConfusion (show false = true from h)))
    · intro a x2 hg hsp hd K hK
      replace hg := grown_trans hw hg
      obtain ⟨_, eg, hgd⟩ := hd 1 _ 10 (by kernel_rfl) rfl rfl
      have hgd : _ = _ := hgd
      subst hgd
      have e1 : a.tmps[5]? = some (.pointer (some ⟨w1.heap.size, 0, none⟩)) := (hsp 5 (by kernel_rfl)).trans rfl
      exact at_value (wanted_on rfl rfl rfl eg) (run_op_slice rfl (eval_tmp e1) (slice22 _ _ _ ((hg.block _ (heap_lt L2.out) (by simp)).trans L2.out))) (hK _ _ (grown_refl _ _) rfl (fun h => Bool.noConfusion (show false = true from h)))
    · intro a x2 hg hsp hd K hK
      replace hg := grown_trans hw hg
      obtain ⟨_, eg, hgd⟩ := hd 1 _ 10 (by kernel_rfl) rfl rfl
      have hgd : _ = _ := hgd
      subst hgd
      obtain ⟨_, e1, h1⟩ := hd 2 _ 11 (by kernel_rfl) rfl rfl
      have h1 : _ = _ := h1
      subst h1
      exact at_value (wanted_on rfl rfl rfl eg) (run_op_convert rfl (eval_tmp e1) (conv22 ((hg.block _ (heap_lt L2.out) (by simp)).trans L2.out))) (hK _ _ (grown_refl _ _) rfl (fun h => Bool.noConfusion (show false = true from h)))
    · intro a x2 hg hsp hd K hK
      replace hg := grown_trans hw hg
      obtain ⟨_, eg, hgd⟩ := hd 1 _ 10 (by kernel_rfl) rfl rfl
      have hgd : _ = _ := hgd
      subst hgd
      have e1 : a.tmps[2]? = some (.pointer (some ⟨w.heap.size, 0, none⟩)) := (hsp 2 (by kernel_rfl)).trans rfl
      exact at_value (wanted_on rfl rfl rfl eg) (run_op_slice rfl (eval_tmp e1) (slice22 _ _ _ ((hg.block _ (heap_lt L0.out) (by simp)).trans L0.out))) (hK _ _ (grown_refl _ _) rfl (fun h => Bool.noConfusion (show false = true from h)))
    · intro a x2 hg hsp hd K hK
      replace hg := grown_trans hw hg
      obtain ⟨_, eg, hgd⟩ := hd 1 _ 10 (by kernel_rfl) rfl rfl
      have hgd : _ = _ := hgd
      subst hgd
      obtain ⟨_, e1, h1⟩ := hd 4 _ 13 (by kernel_rfl) rfl rfl
      have h1 : _ = _ := h1
      subst h1
      exact at_value (wanted_on rfl rfl rfl eg) (run_op_convert rfl (eval_tmp e1) (conv22 ((hg.block _ (heap_lt L0.out) (by simp)).trans L0.out))) (hK _ _ (grown_refl _ _) rfl (fun h => Bool.noConfusion (show false = true from h)))
    · intro a x2 hg hsp hd K hK
      replace hg := grown_trans hw hg
      obtain ⟨_, eg, hgd⟩ := hd 1 _ 10 (by kernel_rfl) rfl rfl
      have hgd : _ = _ := hgd
      subst hgd
      have e1 : a.tmps[3]? = some (.pointer (some ⟨w.heap.size + 1, 0, none⟩)) := (hsp 3 (by kernel_rfl)).trans rfl
      exact at_value (wanted_on rfl rfl rfl eg) (run_op_slice rfl (eval_tmp e1) (slice22 _ _ _ ((hg.block _ (heap_lt L1.out) (by simp)).trans L1.out))) (hK _ _ (grown_refl _ _) rfl (fun h => Bool.noConfusion (show false = true from h)))
    · intro a x2 hg hsp hd K hK
      replace hg := grown_trans hw hg
      obtain ⟨_, eg, hgd⟩ := hd 1 _ 10 (by kernel_rfl) rfl rfl
      have hgd : _ = _ := hgd
      subst hgd
      obtain ⟨_, e1, h1⟩ := hd 6 _ 15 (by kernel_rfl) rfl rfl
      have h1 : _ = _ := h1
      subst h1
      exact at_value (wanted_on rfl rfl rfl eg) (run_op_convert rfl (eval_tmp e1) (conv22 ((hg.block _ (heap_lt L1.out) (by simp)).trans L1.out))) (hK _ _ (grown_refl _ _) rfl (fun h => Bool.noConfusion (show false = true from h)))
    · intro a x2 hg hsp hd K hK
      replace hg := grown_trans hw hg
      obtain ⟨_, eg, hgd⟩ := hd 1 _ 10 (by kernel_rfl) rfl rfl
      have hgd : _ = _ := hgd
      subst hgd
      obtain ⟨_, e1, h1⟩ := hd 5 _ 14 (by kernel_rfl) rfl rfl
      have h1 : _ = _ := h1
      subst h1
      obtain ⟨_, e2, h2⟩ := hd 7 _ 16 (by kernel_rfl) rfl rfl
      have h2 : _ = _ := h2
      subst h2
      refine at_call (wanted_on rfl rfl rfl eg) rfl (args2 e1 e2) Try.func31 (by kernel_rfl) rfl ?_
      refine (eRTimes _ _ hga.out hgb.out _).mono ?_
      rintro e w1 ⟨rfl, hb⟩
      exact ⟨_, rfl, hK _ _ (grown_own hb) rfl (fun h => Bool.noConfusion (show false = true from h))⟩
    · intro a x2 hg hsp hd K hK
      replace hg := grown_trans hw hg
      obtain ⟨_, eg, hgd⟩ := hd 1 _ 10 (by kernel_rfl) rfl rfl
      have hgd : _ = _ := hgd
      subst hgd
      obtain ⟨_, e1, h1⟩ := hd 3 _ 12 (by kernel_rfl) rfl rfl
      have h1 : _ = _ := h1
      subst h1
      obtain ⟨_, e2, h2⟩ := hd 8 _ 17 (by kernel_rfl) rfl rfl
      have h2 : _ = _ := h2
      subst h2
      exact at_value (wanted_on rfl rfl rfl eg) (run_eqs rfl (eval_tmp e1) (eval_tmp e2)) (hK _ _ (grown_refl _ _) (show Value.bool _ = Value.bool true from by simp) (fun h => Bool.noConfusion (show false = true from h)))
    · intro a x2 hg hsp hd K hK
      replace hg := grown_trans hw hg
      obtain ⟨_, e1, h1⟩ := hd 1 _ 10 (by kernel_rfl) rfl rfl
      have h1 : _ = _ := h1
      subst h1
      obtain ⟨_, e2, h2⟩ := hd 9 _ 18 (by kernel_rfl) rfl rfl
      have h2 : _ = _ := h2
      subst h2
      exact at_value (wanted_free rfl) (run_pick rfl (eval_tmp e1) ((if_pos rfl).trans (eval_tmp e2))) (hK _ _ (grown_refl _ _) rfl (fun h => Bool.noConfusion (show false = true from h)))
    · intro a x2 hg hsp hd K hK
      replace hg := grown_trans hw hg
      obtain ⟨_, e1, h1⟩ := hd 10 _ 19 (by kernel_rfl) rfl rfl
      have h1 : _ = _ := h1
      subst h1
      exact at_value (wanted_free rfl) (run_move (Or.inr rfl) (eval_tmp e1)) (hK _ _ (grown_refl _ _) rfl (fun h => Bool.noConfusion (show false = true from h)))
  have v0 : vs 0 = _ := hv 0 _ rfl
  have v1 : vs 1 = _ := hv 1 _ rfl
  have v2 : vs 2 = _ := hv 2 _ rfl
  have v3 : vs 3 = _ := hv 3 _ rfl
  have v4 : vs 4 = _ := hv 4 _ rfl
  have v5 : vs 5 = _ := hv 5 _ rfl
  have v6 : vs 6 = _ := hv 6 _ rfl
  have v7 : vs 7 = _ := hv 7 _ rfl
  have v8 : vs 8 = _ := hv 8 _ rfl
  have v9 : vs 9 = _ := hv 9 _ rfl
  have v10 : vs 10 = _ := hv 10 _ rfl
  have v11 : vs 11 = _ := hv 11 _ rfl
  simp [seqA, Act.put, v0, v1, v2, v3, v4, v5, v6, v7, v8, v9, v10, v11]
  clear hv hap
  replace LB := LB.out.grown hg LB.out.size (fun j hj => by cases hj)
  skip
  go_wp2_with fail
  go_ret
  exact ⟨rfl, LB⟩
end Go.Proofs.Ytikmghmapmlebaa
