/-
  CurveTwice, walked: of all bytes the call returns true; no condition.
-/
import Derived.Test.YtikmghmapmlebaaYr
namespace Go.Proofs.Ytikmghmapmlebaa
open Go.RowKit Go.Rh F255
open Go.Extern.Stop (cell)
attribute [local go_sem] build9 build0 build1 box22 alloc22

set_option maxRecDepth 100000 in
set_option maxHeartbeats 1000000 in
theorem ctwice_any (ga gb gc : Nat → Nat) (hga : ∀ j, j < 32 → ga j < 256) (hgb : ∀ j, j < 32 → gb j < 256) (hgc : ∀ j, j < 32 → gc j < 256) (w : World) :
    Calls Try.prog 11 #[.agg (U8 ga), .agg (U8 gb), .agg (U8 gc)] w fun e w' => e = .returned (.bool true) ∧ Below w.heap.size w w' := by
  have hga := Lib.hid hga
  have hgb := Lib.hid hgb
  have hgc := Lib.hid hgc
  have L0 : Hid ((((w.alloc (.cells (U8 ga) 22)).alloc (.cells (U8 gb) 22)).alloc (.cells (U8 gc) 22)).heap[w.heap.size]? = some (.cells (U8 ga) 22 (0, 0))) := Lib.hid (by ((simp only [heap_push, World.size_alloc, if_true]; repeat' split); all_goals (first | rfl | (exfalso; omega))))
  have L1 : Hid ((((w.alloc (.cells (U8 ga) 22)).alloc (.cells (U8 gb) 22)).alloc (.cells (U8 gc) 22)).heap[w.heap.size + 1]? = some (.cells (U8 gb) 22 (0, 0))) := Lib.hid (by ((simp only [heap_push, World.size_alloc, if_true]; repeat' split); all_goals (first | rfl | (exfalso; omega))))
  have L2 : Hid ((((w.alloc (.cells (U8 ga) 22)).alloc (.cells (U8 gb) 22)).alloc (.cells (U8 gc) 22)).heap[w.heap.size + 1 + 1]? = some (.cells (U8 gc) 22 (0, 0))) := Lib.hid (by ((simp only [heap_push, World.size_alloc, if_true]; repeat' split); all_goals (first | rfl | (exfalso; omega))))
  have LB : Hid (Below w.heap.size w (((w.alloc (.cells (U8 ga) 22)).alloc (.cells (U8 gb) 22)).alloc (.cells (U8 gc) 22))) := Lib.hid (by go_grown)
  go_enter Try.func11, Try.ntmps11
  go_wp2_with fail
  generalize hW : World.alloc _ _ = w2 at L0 L1 L2 LB ⊢
  clear hW
  have q1_19 : Hid (xB (TM (xF (xB (TM (xF gc) gb))) ga) = xB (TM (xF (xB (TM (xF gc) ga))) gb)) := Lib.hid (by first | rw [xF_xB, xF_xB, TM_comm] | rfl)
  refine region_kk _ 29 [.eq (.bool true), .eq (.bool true), .eq (.agg (U8 ga)), .eq (.agg (U8 gb)), .eq (.agg (U8 gc)), .eq (.agg (U8 (xB (TM (xF gc) gb)))), .eq (.agg (U8 (xB (TM (xF (xB (TM (xF gc) gb))) ga)))), .eq (.agg (U8 gb)), .eq (.agg (U8 ga)), .eq (.agg (U8 gc)), .eq (.agg (U8 (xB (TM (xF gc) ga)))), .eq (.agg (U8 (xB (TM (xF (xB (TM (xF gc) ga))) gb)))), .eq (.bool true), .eq (.bool true), .eq (.bool true), .eq (.agg (U8 ga)), .eq (.agg (U8 (xB (TM (xF nine) ga)))), .eq (.agg (U8 ga)), .eq (.agg (U8 nine)), .eq (.agg (U8 (xB (TM (xF nine) ga)))), .eq (.bool true), .eq (.bool true), .eq (.bool true)] (by kernel_rfl) (by rfl) (by kernel_rfl) (by kernel_rfl) (fun x1 hw => ?_) (fun vs v hg hv hap => ?_)
  · refine ⟨?_, ?_, ?_, ?_, ?_, ?_, ?_, ?_, ?_, ?_, ?_, ?_, ?_, ?_, ?_, ?_, ?_, ?_, ?_, ?_, ?_, ?_, ?_, trivial⟩
    · intro a x2 hg hsp hd K hK
      replace hg := grown_trans hw hg
      refine at_call (wanted_free rfl) rfl (args0) Try.func30 (by kernel_rfl) rfl ?_
      refine (bends_any _).mono ?_
      rintro e w1 ⟨rfl, hb⟩
      exact ⟨_, rfl, hK _ _ (grown_own hb) rfl (fun h => Bool.noConfusion (show false = true from h))⟩
    · intro a x2 hg hsp hd K hK
      replace hg := grown_trans hw hg
      obtain ⟨_, e1, h1⟩ := hd 0 _ 7 (by kernel_rfl) rfl rfl
      have h1 : _ = _ := h1
      subst h1
      exact at_value (wanted_free rfl) (run_move (Or.inl rfl) (eval_tmp e1)) (hK _ _ (grown_refl _ _) rfl (fun h => Bool.noConfusion (show false = true from h)))
    · intro a x2 hg hsp hd K hK
      replace hg := grown_trans hw hg
      obtain ⟨_, eg, hgd⟩ := hd 1 _ 8 (by kernel_rfl) rfl rfl
      have hgd : _ = _ := hgd
      subst hgd
      have e1 : a.tmps[3]? = some (.pointer (some ⟨w.heap.size, 0, none⟩)) := (hsp 3 (by kernel_rfl)).trans rfl
      exact at_row (wanted_on rfl rfl rfl eg) rfl e1 ((hg.block _ (heap_lt L0.out) (by simp)).trans L0.out) Try.underlying22 rfl (sz22.trans (by simp [U8])) (hK _ _ (grown_refl _ _) rfl (fun h => Bool.noConfusion (show false = true from h)))
    · intro a x2 hg hsp hd K hK
      replace hg := grown_trans hw hg
      obtain ⟨_, eg, hgd⟩ := hd 1 _ 8 (by kernel_rfl) rfl rfl
      have hgd : _ = _ := hgd
      subst hgd
      have e1 : a.tmps[4]? = some (.pointer (some ⟨w.heap.size + 1, 0, none⟩)) := (hsp 4 (by kernel_rfl)).trans rfl
      exact at_row (wanted_on rfl rfl rfl eg) rfl e1 ((hg.block _ (heap_lt L1.out) (by simp)).trans L1.out) Try.underlying22 rfl (sz22.trans (by simp [U8])) (hK _ _ (grown_refl _ _) rfl (fun h => Bool.noConfusion (show false = true from h)))
    · intro a x2 hg hsp hd K hK
      replace hg := grown_trans hw hg
      obtain ⟨_, eg, hgd⟩ := hd 1 _ 8 (by kernel_rfl) rfl rfl
      have hgd : _ = _ := hgd
      subst hgd
      have e1 : a.tmps[5]? = some (.pointer (some ⟨w.heap.size + 1 + 1, 0, none⟩)) := (hsp 5 (by kernel_rfl)).trans rfl
      exact at_row (wanted_on rfl rfl rfl eg) rfl e1 ((hg.block _ (heap_lt L2.out) (by simp)).trans L2.out) Try.underlying22 rfl (sz22.trans (by simp [U8])) (hK _ _ (grown_refl _ _) rfl (fun h => Bool.noConfusion (show false = true from h)))
    · intro a x2 hg hsp hd K hK
      replace hg := grown_trans hw hg
      obtain ⟨_, eg, hgd⟩ := hd 1 _ 8 (by kernel_rfl) rfl rfl
      have hgd : _ = _ := hgd
      subst hgd
      obtain ⟨_, e1, h1⟩ := hd 3 _ 10 (by kernel_rfl) rfl rfl
      have h1 : _ = _ := h1
      subst h1
      obtain ⟨_, e2, h2⟩ := hd 4 _ 11 (by kernel_rfl) rfl rfl
      have h2 : _ = _ := h2
      subst h2
      refine at_call (wanted_on rfl rfl rfl eg) rfl (args2 e1 e2) Try.func29 (by kernel_rfl) rfl ?_
      refine (eTimes _ _ hgb.out hgc.out _).mono ?_
      rintro e w1 ⟨rfl, hb⟩
      exact ⟨_, rfl, hK _ _ (grown_own hb) rfl (fun h => Bool.noConfusion (show false = true from h))⟩
    · intro a x2 hg hsp hd K hK
      replace hg := grown_trans hw hg
      obtain ⟨_, eg, hgd⟩ := hd 1 _ 8 (by kernel_rfl) rfl rfl
      have hgd : _ = _ := hgd
      subst hgd
      obtain ⟨_, e1, h1⟩ := hd 2 _ 9 (by kernel_rfl) rfl rfl
      have h1 : _ = _ := h1
      subst h1
      obtain ⟨_, e2, h2⟩ := hd 5 _ 12 (by kernel_rfl) rfl rfl
      have h2 : _ = _ := h2
      subst h2
      refine at_call (wanted_on rfl rfl rfl eg) rfl (args2 e1 e2) Try.func29 (by kernel_rfl) rfl ?_
      refine (eTimes _ _ hga.out (xB_lt _) _).mono ?_
      rintro e w1 ⟨rfl, hb⟩
      exact ⟨_, rfl, hK _ _ (grown_own hb) rfl (fun h => Bool.noConfusion (show false = true from h))⟩
    · intro a x2 hg hsp hd K hK
      replace hg := grown_trans hw hg
      obtain ⟨_, eg, hgd⟩ := hd 1 _ 8 (by kernel_rfl) rfl rfl
      have hgd : _ = _ := hgd
      subst hgd
      have e1 : a.tmps[4]? = some (.pointer (some ⟨w.heap.size + 1, 0, none⟩)) := (hsp 4 (by kernel_rfl)).trans rfl
      exact at_row (wanted_on rfl rfl rfl eg) rfl e1 ((hg.block _ (heap_lt L1.out) (by simp)).trans L1.out) Try.underlying22 rfl (sz22.trans (by simp [U8])) (hK _ _ (grown_refl _ _) rfl (fun h => Bool.noConfusion (show false = true from h)))
    · intro a x2 hg hsp hd K hK
      replace hg := grown_trans hw hg
      obtain ⟨_, eg, hgd⟩ := hd 1 _ 8 (by kernel_rfl) rfl rfl
      have hgd : _ = _ := hgd
      subst hgd
      have e1 : a.tmps[3]? = some (.pointer (some ⟨w.heap.size, 0, none⟩)) := (hsp 3 (by kernel_rfl)).trans rfl
      exact at_row (wanted_on rfl rfl rfl eg) rfl e1 ((hg.block _ (heap_lt L0.out) (by simp)).trans L0.out) Try.underlying22 rfl (sz22.trans (by simp [U8])) (hK _ _ (grown_refl _ _) rfl (fun h => Bool.noConfusion (show false = true from h)))
    · intro a x2 hg hsp hd K hK
      replace hg := grown_trans hw hg
      obtain ⟨_, eg, hgd⟩ := hd 1 _ 8 (by kernel_rfl) rfl rfl
      have hgd : _ = _ := hgd
      subst hgd
      have e1 : a.tmps[5]? = some (.pointer (some ⟨w.heap.size + 1 + 1, 0, none⟩)) := (hsp 5 (by kernel_rfl)).trans rfl
      exact at_row (wanted_on rfl rfl rfl eg) rfl e1 ((hg.block _ (heap_lt L2.out) (by simp)).trans L2.out) Try.underlying22 rfl (sz22.trans (by simp [U8])) (hK _ _ (grown_refl _ _) rfl (fun h => Bool.noConfusion (show false = true from h)))
    · intro a x2 hg hsp hd K hK
      replace hg := grown_trans hw hg
      obtain ⟨_, eg, hgd⟩ := hd 1 _ 8 (by kernel_rfl) rfl rfl
      have hgd : _ = _ := hgd
      subst hgd
      obtain ⟨_, e1, h1⟩ := hd 8 _ 15 (by kernel_rfl) rfl rfl
      have h1 : _ = _ := h1
      subst h1
      obtain ⟨_, e2, h2⟩ := hd 9 _ 16 (by kernel_rfl) rfl rfl
      have h2 : _ = _ := h2
      subst h2
      refine at_call (wanted_on rfl rfl rfl eg) rfl (args2 e1 e2) Try.func29 (by kernel_rfl) rfl ?_
      refine (eTimes _ _ hga.out hgc.out _).mono ?_
      rintro e w1 ⟨rfl, hb⟩
      exact ⟨_, rfl, hK _ _ (grown_own hb) rfl (fun h => Bool.noConfusion (show false = true from h))⟩
    · intro a x2 hg hsp hd K hK
      replace hg := grown_trans hw hg
      obtain ⟨_, eg, hgd⟩ := hd 1 _ 8 (by kernel_rfl) rfl rfl
      have hgd : _ = _ := hgd
      subst hgd
      obtain ⟨_, e1, h1⟩ := hd 7 _ 14 (by kernel_rfl) rfl rfl
      have h1 : _ = _ := h1
      subst h1
      obtain ⟨_, e2, h2⟩ := hd 10 _ 17 (by kernel_rfl) rfl rfl
      have h2 : _ = _ := h2
      subst h2
      refine at_call (wanted_on rfl rfl rfl eg) rfl (args2 e1 e2) Try.func29 (by kernel_rfl) rfl ?_
      refine (eTimes _ _ hgb.out (xB_lt _) _).mono ?_
      rintro e w1 ⟨rfl, hb⟩
      exact ⟨_, rfl, hK _ _ (grown_own hb) rfl (fun h => Bool.noConfusion (show false = true from h))⟩
    · intro a x2 hg hsp hd K hK
      replace hg := grown_trans hw hg
      obtain ⟨_, eg, hgd⟩ := hd 1 _ 8 (by kernel_rfl) rfl rfl
      have hgd : _ = _ := hgd
      subst hgd
      obtain ⟨_, e1, h1⟩ := hd 6 _ 13 (by kernel_rfl) rfl rfl
      have h1 : _ = _ := h1
      subst h1
      obtain ⟨_, e2, h2⟩ := hd 11 _ 18 (by kernel_rfl) rfl rfl
      have h2 : _ = _ := h2
      subst h2
      exact at_value (wanted_on rfl rfl rfl eg) (run_op_eql22 rfl (eval_tmp e1) (eval_tmp e2) (xB_lt _) (xB_lt _)) (hK _ _ (grown_refl _ _) (show Value.bool _ = Value.bool true from by rw [q1_19.out]; simp) (fun h => Bool.noConfusion (show false = true from h)))
    · intro a x2 hg hsp hd K hK
      replace hg := grown_trans hw hg
      obtain ⟨_, e1, h1⟩ := hd 1 _ 8 (by kernel_rfl) rfl rfl
      have h1 : _ = _ := h1
      subst h1
      obtain ⟨_, e2, h2⟩ := hd 12 _ 19 (by kernel_rfl) rfl rfl
      have h2 : _ = _ := h2
      subst h2
      exact at_value (wanted_free rfl) (run_pick rfl (eval_tmp e1) ((if_pos rfl).trans (eval_tmp e2))) (hK _ _ (grown_refl _ _) rfl (fun h => Bool.noConfusion (show false = true from h)))
    · intro a x2 hg hsp hd K hK
      replace hg := grown_trans hw hg
      obtain ⟨_, e1, h1⟩ := hd 13 _ 20 (by kernel_rfl) rfl rfl
      have h1 : _ = _ := h1
      subst h1
      exact at_value (wanted_free rfl) (run_move (Or.inl rfl) (eval_tmp e1)) (hK _ _ (grown_refl _ _) rfl (fun h => Bool.noConfusion (show false = true from h)))
    · intro a x2 hg hsp hd K hK
      replace hg := grown_trans hw hg
      obtain ⟨_, eg, hgd⟩ := hd 14 _ 21 (by kernel_rfl) rfl rfl
      have hgd : _ = _ := hgd
      subst hgd
      have e1 : a.tmps[3]? = some (.pointer (some ⟨w.heap.size, 0, none⟩)) := (hsp 3 (by kernel_rfl)).trans rfl
      exact at_row (wanted_on rfl rfl rfl eg) rfl e1 ((hg.block _ (heap_lt L0.out) (by simp)).trans L0.out) Try.underlying22 rfl (sz22.trans (by simp [U8])) (hK _ _ (grown_refl _ _) rfl (fun h => Bool.noConfusion (show false = true from h)))
    · intro a x2 hg hsp hd K hK
      replace hg := grown_trans hw hg
      obtain ⟨_, eg, hgd⟩ := hd 14 _ 21 (by kernel_rfl) rfl rfl
      have hgd : _ = _ := hgd
      subst hgd
      obtain ⟨_, e1, h1⟩ := hd 15 _ 22 (by kernel_rfl) rfl rfl
      have h1 : _ = _ := h1
      subst h1
      refine at_call (wanted_on rfl rfl rfl eg) rfl (args1 e1) Try.func32 (by kernel_rfl) rfl ?_
      refine (public_any _ hga.out _).mono ?_
      rintro e w1 ⟨rfl, hb⟩
      exact ⟨_, rfl, hK _ _ (grown_own hb) rfl (fun h => Bool.noConfusion (show false = true from h))⟩
    · intro a x2 hg hsp hd K hK
      replace hg := grown_trans hw hg
      obtain ⟨_, eg, hgd⟩ := hd 14 _ 21 (by kernel_rfl) rfl rfl
      have hgd : _ = _ := hgd
      subst hgd
      have e1 : a.tmps[3]? = some (.pointer (some ⟨w.heap.size, 0, none⟩)) := (hsp 3 (by kernel_rfl)).trans rfl
      exact at_row (wanted_on rfl rfl rfl eg) rfl e1 ((hg.block _ (heap_lt L0.out) (by simp)).trans L0.out) Try.underlying22 rfl (sz22.trans (by simp [U8])) (hK _ _ (grown_refl _ _) rfl (fun h => Bool.noConfusion (show false = true from h)))
    · intro a x2 hg hsp hd K hK
      replace hg := grown_trans hw hg
      obtain ⟨_, eg, hgd⟩ := hd 14 _ 21 (by kernel_rfl) rfl rfl
      have hgd : _ = _ := hgd
      subst hgd
      exact at_value (wanted_on rfl rfl rfl eg) (run_op_build1 rfl (build9 _)) (hK _ _ (grown_refl _ _) rfl (fun h => Bool.noConfusion (show false = true from h)))
    · intro a x2 hg hsp hd K hK
      replace hg := grown_trans hw hg
      obtain ⟨_, eg, hgd⟩ := hd 14 _ 21 (by kernel_rfl) rfl rfl
      have hgd : _ = _ := hgd
      subst hgd
      obtain ⟨_, e1, h1⟩ := hd 17 _ 24 (by kernel_rfl) rfl rfl
      have h1 : _ = _ := h1
      subst h1
      obtain ⟨_, e2, h2⟩ := hd 18 _ 25 (by kernel_rfl) rfl rfl
      have h2 : _ = _ := h2
      subst h2
      refine at_call (wanted_on rfl rfl rfl eg) rfl (args2 e1 e2) Try.func29 (by kernel_rfl) rfl ?_
      refine (eTimes _ _ hga.out nine_lt _).mono ?_
      rintro e w1 ⟨rfl, hb⟩
      exact ⟨_, rfl, hK _ _ (grown_own hb) rfl (fun h => Bool.noConfusion (show false = true from h))⟩
    · intro a x2 hg hsp hd K hK
      replace hg := grown_trans hw hg
      obtain ⟨_, eg, hgd⟩ := hd 14 _ 21 (by kernel_rfl) rfl rfl
      have hgd : _ = _ := hgd
      subst hgd
      obtain ⟨_, e1, h1⟩ := hd 16 _ 23 (by kernel_rfl) rfl rfl
      have h1 : _ = _ := h1
      subst h1
      obtain ⟨_, e2, h2⟩ := hd 19 _ 26 (by kernel_rfl) rfl rfl
      have h2 : _ = _ := h2
      subst h2
      exact at_value (wanted_on rfl rfl rfl eg) (run_op_eql22 rfl (eval_tmp e1) (eval_tmp e2) (xB_lt _) (xB_lt _)) (hK _ _ (grown_refl _ _) (show Value.bool _ = Value.bool true from by simp) (fun h => Bool.noConfusion (show false = true from h)))
    · intro a x2 hg hsp hd K hK
      replace hg := grown_trans hw hg
      obtain ⟨_, e1, h1⟩ := hd 14 _ 21 (by kernel_rfl) rfl rfl
      have h1 : _ = _ := h1
      subst h1
      obtain ⟨_, e2, h2⟩ := hd 20 _ 27 (by kernel_rfl) rfl rfl
      have h2 : _ = _ := h2
      subst h2
      exact at_value (wanted_free rfl) (run_pick rfl (eval_tmp e1) ((if_pos rfl).trans (eval_tmp e2))) (hK _ _ (grown_refl _ _) rfl (fun h => Bool.noConfusion (show false = true from h)))
    · intro a x2 hg hsp hd K hK
      replace hg := grown_trans hw hg
      obtain ⟨_, e1, h1⟩ := hd 21 _ 28 (by kernel_rfl) rfl rfl
      have h1 : _ = _ := h1
      subst h1
      exact at_value (wanted_free rfl) (run_move (Or.inr rfl) (eval_tmp e1)) (hK _ _ (grown_refl _ _) rfl (fun h => Bool.noConfusion (show false = true from h)))
  have v0 : vs 0 = _ := hv 0 _ rfl
  have v1 : vs 1 = _ := hv 1 _ rfl
  have v2 : vs 2 = _ := hv 2 _ rfl
  have v3 : vs 3 = _ := hv 3 _ rfl
  have v4 : vs 4 = _ := hv 4 _ rfl
  have v5 : vs 5 = _ := hv 5 _ rfl
  have v6 : vs 6 = _ := hv 6 _ rfl
  have v7 : vs 7 = _ := hv 7 _ rfl
  have v8 : vs 8 = _ := hv 8 _ rfl
  have v9 : vs 9 = _ := hv 9 _ rfl
  have v10 : vs 10 = _ := hv 10 _ rfl
  have v11 : vs 11 = _ := hv 11 _ rfl
  have v12 : vs 12 = _ := hv 12 _ rfl
  have v13 : vs 13 = _ := hv 13 _ rfl
  have v14 : vs 14 = _ := hv 14 _ rfl
  have v15 : vs 15 = _ := hv 15 _ rfl
  have v16 : vs 16 = _ := hv 16 _ rfl
  have v17 : vs 17 = _ := hv 17 _ rfl
  have v18 : vs 18 = _ := hv 18 _ rfl
  have v19 : vs 19 = _ := hv 19 _ rfl
  have v20 : vs 20 = _ := hv 20 _ rfl
  have v21 : vs 21 = _ := hv 21 _ rfl
  have v22 : vs 22 = _ := hv 22 _ rfl
  simp [seqA, Act.put, v0, v1, v2, v3, v4, v5, v6, v7, v8, v9, v10, v11, v12, v13, v14, v15, v16, v17, v18, v19, v20, v21, v22]
  clear hv hap
  replace LB := LB.out.grown hg LB.out.size (fun j hj => by cases hj)
  go_wp2_with fail
  go_ret
  exact ⟨rfl, LB⟩
end Go.Proofs.Ytikmghmapmlebaa
