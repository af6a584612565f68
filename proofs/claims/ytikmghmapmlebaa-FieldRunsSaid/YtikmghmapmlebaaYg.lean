/-
  curve.step walked; no condition.
-/
import Derived.Test.YtikmghmapmlebaaYf
import Derived.Test.YtikmghmapmlebaaYc
import Derived.Test.YtikmghmapmlebaaWa
import Derived.Test.YtikmghmapmlebaaYi
namespace Go.Proofs.Ytikmghmapmlebaa
open Go.RowKit Go.Rh F255
/-- The four numbers of a round, as digits. -/
def Four4 (q : Fin p × Fin p × Fin p × Fin p) (a b c d : Nat → Nat) : Prop := IsEl a q.1.val ∧ IsEl b q.2.1.val ∧ IsEl c q.2.2.1.val ∧ IsEl d q.2.2.2.val
/-- The curve's number, byte by byte. -/
def kc (j : Nat) : Nat := if j = 0 then 65 else if j = 1 then 219 else if j = 2 then 1 else 0
theorem kc_z : ∀ j, 3 ≤ j → kc j = 0 := fun j h => by unfold kc; rw [if_neg (by omega), if_neg (by omega), if_neg (by omega)]
theorem kc_lt : ∀ j, j < 32 → kc j < 256 := fun j _ => by
  unfold kc
  split
  · decide
  · split
    · decide
    · split <;> decide
theorem kc_val : leN kc 32 % 57896044618658097711785492504343953926634992332820282019728792003956564819968 = kF.val := by decide +kernel
theorem few3 (w : World) : Few (w.alloc (.cells #[.int .u8 65, .int .u8 219, .int .u8 1] 5)) kc (.slice (some ⟨w.heap.size, 0, none⟩) 3 3) 3 := by
  refine ⟨_, _, rfl, fun _ => ⟨_, 0, rfl, by simp, fun j hj => ?_⟩⟩
  have h : (w.alloc (.cells #[.int .u8 65, .int .u8 219, .int .u8 1] 5)).heap[w.heap.size]? = some (.cells #[.int .u8 65, .int .u8 219, .int .u8 1] 5 (0, 0)) := heap_new' _ _ _ rfl
  rw [Nat.zero_add, cell_of_row _ _ _ _ _ _ h]
  obtain rfl | rfl | rfl : j = 0 ∨ j = 1 ∨ j = 2 := by omega
  all_goals rfl
theorem step_code (u a b c d : Fin p) : Ed.lstep kF u false (a, b, c, d) = ((a + b) * (a + b) * ((a - b) * (a - b)), ((a + b) * (a + b) - (a - b) * (a - b)) * ((a + b) * (a + b) + kF * ((a + b) * (a + b) - (a - b) * (a - b))),
    ((c + d) * (a - b) + (c - d) * (a + b)) * ((c + d) * (a - b) + (c - d) * (a + b)), u * (((c + d) * (a - b) - (c - d) * (a + b)) * ((c + d) * (a - b) - (c - d) * (a + b)))) := by
  simp only [Ed.lstep, Ed.dblX, Ed.dblZ, Ed.sumX, Ed.sumZ]
attribute [local go_sem] box66 box26 alloc66

set_option maxRecDepth 100000 in
set_option maxHeartbeats 2000000 in
theorem step_any {f1 g1 f2 g2 fu : Nat → Nat} {x1 z1 x2 z2 u : Fin p} (hf1 : IsEl f1 x1.val) (hg1 : IsEl g1 z1.val) (hf2 : IsEl f2 x2.val) (hg2 : IsEl g2 z2.val) (hu : IsEl fu u.val) (w : World) :
    Calls Try.prog 43 #[.agg (P10 f1 g1), .agg (P10 f2 g2), .agg (U64 fu)] w fun e w' => (∃ F1 G1 F2 G2, e = .returned (.tuple #[.agg (P10 F1 G1), .agg (P10 F2 G2)]) ∧ Four4 (Ed.lstep kF u false (x1, z1, x2, z2)) F1 G1 F2 G2) ∧ Below w.heap.size w w' := by
  have H1 := Lib.hid hf1
  have H2 := Lib.hid hg1
  have H3 := Lib.hid hf2
  have H4 := Lib.hid hg2
  have H5 := Lib.hid hu
  clear hf1 hg1 hf2 hg2 hu
  go_enter Try.func43, Try.ntmps43
  go_wp2
  generalize hW : World.alloc _ _ = w1
  have hB : Below w.heap.size w w1 := by rw [← hW]; go_grown
  have hz : w1.heap.size = w.heap.size + 5 := by rw [← hW]; simp
  have m3 : w1.heap[w.heap.size]? = some (.cells (P10 f1 g1) 66 (0, 0)) := by rw [← hW]; ((simp only [heap_push, World.size_alloc, if_true]; repeat' split); all_goals (first | rfl | (exfalso; omega)))
  have m4 : w1.heap[w.heap.size + 1]? = some (.cells (P10 f2 g2) 66 (0, 0)) := by rw [← hW]; ((simp only [heap_push, World.size_alloc, if_true]; repeat' split); all_goals (first | rfl | (exfalso; omega)))
  have m5 : w1.heap[w.heap.size + 1 + 1]? = some (.cells (U64 fu) 26 (0, 0)) := by rw [← hW]; ((simp only [heap_push, World.size_alloc, if_true]; repeat' split); all_goals (first | rfl | (exfalso; omega)))
  have m6 : w1.heap[w.heap.size + 1 + 1 + 1]? = some (.cells (P10 (fun _ => 0) fun _ => 0) 66 (0, 0)) := by rw [← hW]; ((simp only [heap_push, World.size_alloc, if_true]; repeat' split); all_goals (first | rfl | (exfalso; omega)))
  have m7 : w1.heap[w.heap.size + 1 + 1 + 1 + 1]? = some (.cells (P10 (fun _ => 0) fun _ => 0) 66 (0, 0)) := by rw [← hW]; ((simp only [heap_push, World.size_alloc, if_true]; repeat' split); all_goals (first | rfl | (exfalso; omega)))
  clear hW
  obtain ⟨b3, e3⟩ : ∃ b, w.heap.size = b := ⟨_, rfl⟩
  obtain ⟨b4, e4⟩ : ∃ b, w.heap.size + 1 = b := ⟨_, rfl⟩
  obtain ⟨b5, e5⟩ : ∃ b, w.heap.size + 1 + 1 = b := ⟨_, rfl⟩
  obtain ⟨b6, e6⟩ : ∃ b, w.heap.size + 1 + 1 + 1 = b := ⟨_, rfl⟩
  obtain ⟨b7, e7⟩ : ∃ b, w.heap.size + 1 + 1 + 1 + 1 = b := ⟨_, rfl⟩
  have BN : Hid (b3 = w.heap.size ∧ b4 = w.heap.size + 1 ∧ b5 = w.heap.size + 2 ∧ b6 = w.heap.size + 3 ∧ b7 = w.heap.size + 4 ∧ w1.heap.size = w.heap.size + 5) := ⟨e3.symm, e4.symm, e5.symm, e6.symm, e7.symm, hz⟩
  rw [e7] at m7 ⊢
  rw [e6] at m6 ⊢
  rw [e5] at m5 ⊢
  rw [e4] at m4 ⊢
  rw [e3] at m3 ⊢
  have Mb3 : Hid (PtAt w1 b3 x1 z1) := ⟨_, _, m3, H1.out, H2.out⟩
  have Mb4 : Hid (PtAt w1 b4 x2 z2) := ⟨_, _, m4, H3.out, H4.out⟩
  have Mb5 : Hid (FeAt w1 b5 u) := ⟨_, m5, H5.out⟩
  have M6 := Lib.hid m6
  have M7 := Lib.hid m7
  have HB := Lib.hid hB
  clear m3 m4 m5 m6 m7 hB hz e3 e4 e5 e6 e7 H1 H2 H3 H4 H5
  have L6 : Hid (w.heap.size ≤ b6) := Lib.hid (by have := BN.out; omega)
  have L7 : Hid (w.heap.size ≤ b7) := Lib.hid (by have := BN.out; omega)
  have N67 : Hid (b6 ≠ b7) := Lib.hid (by have := BN.out; omega)
  have S6 : Hid (b6 < w1.heap.size) := Lib.hid (heap_lt M6.out)
  have S7 : Hid (b7 < w1.heap.size) := Lib.hid (heap_lt M7.out)
  refine region_kk _ 77 [.eq (.pointer (some ⟨b3, 0, none⟩)), .fe (x1), .eq (.pointer (some ⟨b3, 5, none⟩)), .fe (z1), .fe (x1 + z1), .eq (.pointer (some ⟨b3, 0, none⟩)), .fe (x1), .eq (.pointer (some ⟨b3, 5, none⟩)), .fe (z1), .fe (x1 - z1), .new w1.heap.size (.cells Z5 26), .new w1.heap.size (.cells Z5 26)] (by kernel_rfl) (by rfl) (by kernel_rfl) (by kernel_rfl) (fun x1 hw => ?_) (fun vs v hg hv hap => ?_)
  · refine ⟨?_, ?_, ?_, ?_, ?_, ?_, ?_, ?_, ?_, ?_, ?_, ?_, trivial⟩
    · intro a x2 hg hsp hd K hK
      replace hg := grown_trans hw hg
      have e1 : a.tmps[3]? = some (.pointer (some ⟨b3, 0, none⟩)) := (hsp 3 (by kernel_rfl)).trans rfl
      exact at_value (wanted_free rfl) (run_op_field rfl (eval_tmp e1) (fld0 _ _)) (hK _ _ (grown_refl _ _) rfl (fun h => Bool.noConfusion (show false = true from h)))
    · intro a x2 hg hsp hd K hK
      replace hg := grown_trans hw hg
      obtain ⟨_, e1, h1⟩ := hd 0 _ 16 (by kernel_rfl) rfl rfl
      have h1 : _ = _ := h1
      subst h1
      obtain ⟨f, g, hb, hf, hg2⟩ := Mb3.out.grown hg
      exact at_mid (wanted_free rfl) rfl e1 (range0 hb) Try.underlying26 rfl (sz26.trans (by simp [U64])) (hK _ _ (grown_refl _ _) ⟨_, rfl, hf⟩ (fun h => Bool.noConfusion (show false = true from h)))
    · intro a x2 hg hsp hd K hK
      replace hg := grown_trans hw hg
      have e1 : a.tmps[3]? = some (.pointer (some ⟨b3, 0, none⟩)) := (hsp 3 (by kernel_rfl)).trans rfl
      exact at_value (wanted_free rfl) (run_op_field rfl (eval_tmp e1) (fld1 _ _)) (hK _ _ (grown_refl _ _) rfl (fun h => Bool.noConfusion (show false = true from h)))
    · intro a x2 hg hsp hd K hK
      replace hg := grown_trans hw hg
      obtain ⟨_, e1, h1⟩ := hd 2 _ 18 (by kernel_rfl) rfl rfl
      have h1 : _ = _ := h1
      subst h1
      obtain ⟨f, g, hb, hf, hg2⟩ := Mb3.out.grown hg
      exact at_mid (wanted_free rfl) rfl e1 (range5 hb) Try.underlying26 rfl (sz26.trans (by simp [U64])) (hK _ _ (grown_refl _ _) ⟨_, rfl, hg2⟩ (fun h => Bool.noConfusion (show false = true from h)))
    · intro a x2 hg hsp hd K hK
      replace hg := grown_trans hw hg
      obtain ⟨_, e1, f1, rfl, h1⟩ := hd 1 _ 17 (by kernel_rfl) rfl rfl
      obtain ⟨_, e2, f2, rfl, h2⟩ := hd 3 _ 19 (by kernel_rfl) rfl rfl
      refine at_call (wanted_free rfl) rfl (args2 e1 e2) Try.func18 (by kernel_rfl) rfl ?_
      refine (eAdd h1 h2 _).mono ?_
      rintro e w3 ⟨⟨f, rfl, hf⟩, hb⟩
      exact ⟨_, rfl, hK _ _ (grown_own hb) ⟨_, rfl, hf⟩ (fun h => Bool.noConfusion (show false = true from h))⟩
    · intro a x2 hg hsp hd K hK
      replace hg := grown_trans hw hg
      have e1 : a.tmps[3]? = some (.pointer (some ⟨b3, 0, none⟩)) := (hsp 3 (by kernel_rfl)).trans rfl
      exact at_value (wanted_free rfl) (run_op_field rfl (eval_tmp e1) (fld0 _ _)) (hK _ _ (grown_refl _ _) rfl (fun h => Bool.noConfusion (show false = true from h)))
    · intro a x2 hg hsp hd K hK
      replace hg := grown_trans hw hg
      obtain ⟨_, e1, h1⟩ := hd 5 _ 21 (by kernel_rfl) rfl rfl
      have h1 : _ = _ := h1
      subst h1
      obtain ⟨f, g, hb, hf, hg2⟩ := Mb3.out.grown hg
      exact at_mid (wanted_free rfl) rfl e1 (range0 hb) Try.underlying26 rfl (sz26.trans (by simp [U64])) (hK _ _ (grown_refl _ _) ⟨_, rfl, hf⟩ (fun h => Bool.noConfusion (show false = true from h)))
    · intro a x2 hg hsp hd K hK
      replace hg := grown_trans hw hg
      have e1 : a.tmps[3]? = some (.pointer (some ⟨b3, 0, none⟩)) := (hsp 3 (by kernel_rfl)).trans rfl
      exact at_value (wanted_free rfl) (run_op_field rfl (eval_tmp e1) (fld1 _ _)) (hK _ _ (grown_refl _ _) rfl (fun h => Bool.noConfusion (show false = true from h)))
    · intro a x2 hg hsp hd K hK
      replace hg := grown_trans hw hg
      obtain ⟨_, e1, h1⟩ := hd 7 _ 23 (by kernel_rfl) rfl rfl
      have h1 : _ = _ := h1
      subst h1
      obtain ⟨f, g, hb, hf, hg2⟩ := Mb3.out.grown hg
      exact at_mid (wanted_free rfl) rfl e1 (range5 hb) Try.underlying26 rfl (sz26.trans (by simp [U64])) (hK _ _ (grown_refl _ _) ⟨_, rfl, hg2⟩ (fun h => Bool.noConfusion (show false = true from h)))
    · intro a x2 hg hsp hd K hK
      replace hg := grown_trans hw hg
      obtain ⟨_, e1, f1, rfl, h1⟩ := hd 6 _ 22 (by kernel_rfl) rfl rfl
      obtain ⟨_, e2, f2, rfl, h2⟩ := hd 8 _ 24 (by kernel_rfl) rfl rfl
      refine at_call (wanted_free rfl) rfl (args2 e1 e2) Try.func20 (by kernel_rfl) rfl ?_
      refine (eSub h1 h2 _).mono ?_
      rintro e w3 ⟨⟨f, rfl, hf⟩, hb⟩
      exact ⟨_, rfl, hK _ _ (grown_own hb) ⟨_, rfl, hf⟩ (fun h => Bool.noConfusion (show false = true from h))⟩
    · intro a x2 hg hsp hd K hK
      replace hg := grown_trans hw hg
      exact at_value (wanted_free rfl) (run_alloc rfl alloc26) (hK _ _ (grown_new (grown_refl _ _) _) ⟨_, rfl, heap_new' _ _ _ rfl, hg.size⟩ (fun _ b hb => by cases hb; exact Nat.le_refl _))
    · intro a x2 hg hsp hd K hK
      replace hg := grown_trans hw hg
      exact at_value (wanted_free rfl) (run_alloc rfl alloc26) (hK _ _ (grown_new (grown_refl _ _) _) ⟨_, rfl, heap_new' _ _ _ rfl, hg.size⟩ (fun _ b hb => by cases hb; exact Nat.le_refl _))
  have v0 : vs 0 = _ := hv 0 _ rfl
  obtain ⟨F17, v1, k17⟩ := hv 1 _ rfl
  have v2 : vs 2 = _ := hv 2 _ rfl
  obtain ⟨F19, v3, k19⟩ := hv 3 _ rfl
  obtain ⟨F20, v4, k20⟩ := hv 4 _ rfl
  have v5 : vs 5 = _ := hv 5 _ rfl
  obtain ⟨F22, v6, k22⟩ := hv 6 _ rfl
  have v7 : vs 7 = _ := hv 7 _ rfl
  obtain ⟨F24, v8, k24⟩ := hv 8 _ rfl
  obtain ⟨F25, v9, k25⟩ := hv 9 _ rfl
  obtain ⟨b8, v10, m8, z8⟩ := hv 10 _ rfl
  obtain ⟨b9, v11, m9, z9⟩ := hv 11 _ rfl
  have n8_9 := hap 10 11 _ _ (by decide) rfl rfl v10 v11
  simp [seqA, Act.put, v0, v1, v2, v3, v4, v5, v6, v7, v8, v9, v10, v11]
  have Ta := Lib.hid m8
  have Tb : Hid ((World.setRow v b8 (U64 F20)).heap[b9]? = some (.cells Z5 26 (0, 0))) := Lib.hid (by rw [setRow_other _ _ _ _ (Ne.symm n8_9)]; exact m9)
  refine wpList_store_row rfl 26 _ _ rfl b8 _ rfl rfl 26 _ Ta.out (sz26.trans (by simp [U64])) (by first | (simp [U64]; done) | (simp [U64]; rfl)) (vals_one _ _ _) ?_
  refine wpList_store_row rfl 26 _ _ rfl b9 _ rfl rfl 26 _ Tb.out (sz26.trans (by simp [U64])) (by first | (simp [U64]; done) | (simp [U64]; rfl)) (vals_one _ _ _) ?_
  generalize hW : World.setRow _ _ _ = w2
  have q8 : Hid (FeAt w2 b8 (x1 + z1)) := Lib.hid ⟨F20, by rw [← hW, setRow_other _ _ _ _ n8_9]; exact setRow_heap _ _ _ _ _ _ Ta.out, k20⟩
  have q9 : Hid (FeAt w2 b9 (x1 - z1)) := Lib.hid ⟨F25, by rw [← hW]; exact setRow_heap _ _ _ _ _ _ Tb.out, k25⟩
  have NE3_8 : Hid (b3 ≠ b8) := Lib.hid (Nat.ne_of_lt (Nat.lt_of_lt_of_le Mb3.out.lt z8))
  have NE3_9 : Hid (b3 ≠ b9) := Lib.hid (Nat.ne_of_lt (Nat.lt_of_lt_of_le Mb3.out.lt z9))
  have NE4_8 : Hid (b4 ≠ b8) := Lib.hid (Nat.ne_of_lt (Nat.lt_of_lt_of_le Mb4.out.lt z8))
  have NE4_9 : Hid (b4 ≠ b9) := Lib.hid (Nat.ne_of_lt (Nat.lt_of_lt_of_le Mb4.out.lt z9))
  have NE5_8 : Hid (b5 ≠ b8) := Lib.hid (Nat.ne_of_lt (Nat.lt_of_lt_of_le Mb5.out.lt z8))
  have NE5_9 : Hid (b5 ≠ b9) := Lib.hid (Nat.ne_of_lt (Nat.lt_of_lt_of_le Mb5.out.lt z9))
  have NE6_8 : Hid (b6 ≠ b8) := Lib.hid (Nat.ne_of_lt (Nat.lt_of_lt_of_le S6.out z8))
  have NE6_9 : Hid (b6 ≠ b9) := Lib.hid (Nat.ne_of_lt (Nat.lt_of_lt_of_le S6.out z9))
  have NE7_8 : Hid (b7 ≠ b8) := Lib.hid (Nat.ne_of_lt (Nat.lt_of_lt_of_le S7.out z8))
  have NE7_9 : Hid (b7 ≠ b9) := Lib.hid (Nat.ne_of_lt (Nat.lt_of_lt_of_le S7.out z9))
  have NE8_9 : Hid (b8 ≠ b9) := Lib.hid n8_9
  have L8 : Hid (w.heap.size ≤ b8) := Lib.hid (Nat.le_trans HB.out.size z8)
  have L9 : Hid (w.heap.size ≤ b9) := Lib.hid (Nat.le_trans HB.out.size z9)
  have q4 := Lib.hid ((Mb4.out.grown hg).same (w' := w2) (by rw [← hW, setRow_other _ _ _ _ NE4_9.out, setRow_other _ _ _ _ NE4_8.out]))
  have q5 := Lib.hid ((Mb5.out.grown hg).same (w' := w2) (by rw [← hW, setRow_other _ _ _ _ NE5_9.out, setRow_other _ _ _ _ NE5_8.out]))
  have r6 : Hid (w2.heap[b6]? = _) := Lib.hid ((show w2.heap[b6]? = v.heap[b6]? by rw [← hW, setRow_other _ _ _ _ NE6_9.out, setRow_other _ _ _ _ NE6_8.out]).trans ((hg.block b6 S6.out (by simp)).trans M6.out))
  have s6 : Hid (b6 < w2.heap.size) := Lib.hid (heap_lt r6.out)
  have r7 : Hid (w2.heap[b7]? = _) := Lib.hid ((show w2.heap[b7]? = v.heap[b7]? by rw [← hW, setRow_other _ _ _ _ NE7_9.out, setRow_other _ _ _ _ NE7_8.out]).trans ((hg.block b7 S7.out (by simp)).trans M7.out))
  have s7 : Hid (b7 < w2.heap.size) := Lib.hid (heap_lt r7.out)
  have hb0 : Below w.heap.size w w2 := by rw [← hW]; exact below_setRow (below_setRow (HB.out.grown hg HB.out.size (fun j hj => by cases hj)) L8.out _) L9.out _
  clear HB M6 M7 S6 S7 Ta Tb hW hg hv hap
  have HB := Lib.hid hb0
  have M6 := r6
  have S6 := s6
  have M7 := r7
  have S7 := s7
  clear Mb4
  have Mb4 := q4
  clear Mb5
  have Mb5 := q5
  have Mb8 := q8
  have Mb9 := q9
  clear Mb3
  clear hb0 r6 s6 r7 s7 q4 q5 q8 q9
  clear k17 k19 k20 k22 k24 k25 v0 v1 v2 v3 v4 v5 v6 v7 v8 v9 v10 v11 m8 z8 m9 z9 n8_9
  clear vs
  go_wp2_with fail
  refine region_kk _ 77 [.eq (.pointer (some ⟨b4, 0, none⟩)), .fe (x2), .eq (.pointer (some ⟨b4, 5, none⟩)), .fe (z2), .fe (x2 + z2), .fe (x1 - z1), .fe ((x2 + z2) * (x1 - z1)), .eq (.pointer (some ⟨b4, 0, none⟩)), .fe (x2), .eq (.pointer (some ⟨b4, 5, none⟩)), .fe (z2), .fe (x2 - z2), .fe (x1 + z1), .fe ((x2 - z2) * (x1 + z1)), .new w2.heap.size (.cells Z5 26), .new w2.heap.size (.cells Z5 26)] (by kernel_rfl) (by rfl) (by kernel_rfl) (by kernel_rfl) (fun x1 hw => ?_) (fun vs v hg hv hap => ?_)
  · refine ⟨?_, ?_, ?_, ?_, ?_, ?_, ?_, ?_, ?_, ?_, ?_, ?_, ?_, ?_, ?_, ?_, trivial⟩
    · intro a x2 hg hsp hd K hK
      replace hg := grown_trans hw hg
      have e1 : a.tmps[4]? = some (.pointer (some ⟨b4, 0, none⟩)) := (hsp 4 (by kernel_rfl)).trans rfl
      exact at_value (wanted_free rfl) (run_op_field rfl (eval_tmp e1) (fld0 _ _)) (hK _ _ (grown_refl _ _) rfl (fun h => Bool.noConfusion (show false = true from h)))
    · intro a x2 hg hsp hd K hK
      replace hg := grown_trans hw hg
      obtain ⟨_, e1, h1⟩ := hd 0 _ 26 (by kernel_rfl) rfl rfl
      have h1 : _ = _ := h1
      subst h1
      obtain ⟨f, g, hb, hf, hg2⟩ := Mb4.out.grown hg
      exact at_mid (wanted_free rfl) rfl e1 (range0 hb) Try.underlying26 rfl (sz26.trans (by simp [U64])) (hK _ _ (grown_refl _ _) ⟨_, rfl, hf⟩ (fun h => Bool.noConfusion (show false = true from h)))
    · intro a x2 hg hsp hd K hK
      replace hg := grown_trans hw hg
      have e1 : a.tmps[4]? = some (.pointer (some ⟨b4, 0, none⟩)) := (hsp 4 (by kernel_rfl)).trans rfl
      exact at_value (wanted_free rfl) (run_op_field rfl (eval_tmp e1) (fld1 _ _)) (hK _ _ (grown_refl _ _) rfl (fun h => Bool.noConfusion (show false = true from h)))
    · intro a x2 hg hsp hd K hK
      replace hg := grown_trans hw hg
      obtain ⟨_, e1, h1⟩ := hd 2 _ 28 (by kernel_rfl) rfl rfl
      have h1 : _ = _ := h1
      subst h1
      obtain ⟨f, g, hb, hf, hg2⟩ := Mb4.out.grown hg
      exact at_mid (wanted_free rfl) rfl e1 (range5 hb) Try.underlying26 rfl (sz26.trans (by simp [U64])) (hK _ _ (grown_refl _ _) ⟨_, rfl, hg2⟩ (fun h => Bool.noConfusion (show false = true from h)))
    · intro a x2 hg hsp hd K hK
      replace hg := grown_trans hw hg
      obtain ⟨_, e1, f1, rfl, h1⟩ := hd 1 _ 27 (by kernel_rfl) rfl rfl
      obtain ⟨_, e2, f2, rfl, h2⟩ := hd 3 _ 29 (by kernel_rfl) rfl rfl
      refine at_call (wanted_free rfl) rfl (args2 e1 e2) Try.func18 (by kernel_rfl) rfl ?_
      refine (eAdd h1 h2 _).mono ?_
      rintro e w3 ⟨⟨f, rfl, hf⟩, hb⟩
      exact ⟨_, rfl, hK _ _ (grown_own hb) ⟨_, rfl, hf⟩ (fun h => Bool.noConfusion (show false = true from h))⟩
    · intro a x2 hg hsp hd K hK
      replace hg := grown_trans hw hg
      have e1 : a.tmps[9]? = some (.pointer (some ⟨b9, 0, none⟩)) := (hsp 9 (by kernel_rfl)).trans rfl
      obtain ⟨f, hb, hf⟩ := Mb9.out.grown hg
      exact at_row (wanted_free rfl) rfl e1 hb Try.underlying26 rfl (sz26.trans (by simp [U64])) (hK _ _ (grown_refl _ _) ⟨_, rfl, hf⟩ (fun h => Bool.noConfusion (show false = true from h)))
    · intro a x2 hg hsp hd K hK
      replace hg := grown_trans hw hg
      obtain ⟨_, e1, f1, rfl, h1⟩ := hd 4 _ 30 (by kernel_rfl) rfl rfl
      obtain ⟨_, e2, f2, rfl, h2⟩ := hd 5 _ 31 (by kernel_rfl) rfl rfl
      refine at_call (wanted_free rfl) rfl (args2 e1 e2) Try.func22 (by kernel_rfl) rfl ?_
      refine (eMul h1 h2 _).mono ?_
      rintro e w3 ⟨⟨f, rfl, hf⟩, hb⟩
      exact ⟨_, rfl, hK _ _ (grown_own hb) ⟨_, rfl, hf⟩ (fun h => Bool.noConfusion (show false = true from h))⟩
    · intro a x2 hg hsp hd K hK
      replace hg := grown_trans hw hg
      have e1 : a.tmps[4]? = some (.pointer (some ⟨b4, 0, none⟩)) := (hsp 4 (by kernel_rfl)).trans rfl
      exact at_value (wanted_free rfl) (run_op_field rfl (eval_tmp e1) (fld0 _ _)) (hK _ _ (grown_refl _ _) rfl (fun h => Bool.noConfusion (show false = true from h)))
    · intro a x2 hg hsp hd K hK
      replace hg := grown_trans hw hg
      obtain ⟨_, e1, h1⟩ := hd 7 _ 33 (by kernel_rfl) rfl rfl
      have h1 : _ = _ := h1
      subst h1
      obtain ⟨f, g, hb, hf, hg2⟩ := Mb4.out.grown hg
      exact at_mid (wanted_free rfl) rfl e1 (range0 hb) Try.underlying26 rfl (sz26.trans (by simp [U64])) (hK _ _ (grown_refl _ _) ⟨_, rfl, hf⟩ (fun h => Bool.noConfusion (show false = true from h)))
    · intro a x2 hg hsp hd K hK
      replace hg := grown_trans hw hg
      have e1 : a.tmps[4]? = some (.pointer (some ⟨b4, 0, none⟩)) := (hsp 4 (by kernel_rfl)).trans rfl
      exact at_value (wanted_free rfl) (run_op_field rfl (eval_tmp e1) (fld1 _ _)) (hK _ _ (grown_refl _ _) rfl (fun h => Bool.noConfusion (show false = true from h)))
    · intro a x2 hg hsp hd K hK
      replace hg := grown_trans hw hg
      obtain ⟨_, e1, h1⟩ := hd 9 _ 35 (by kernel_rfl) rfl rfl
      have h1 : _ = _ := h1
      subst h1
      obtain ⟨f, g, hb, hf, hg2⟩ := Mb4.out.grown hg
      exact at_mid (wanted_free rfl) rfl e1 (range5 hb) Try.underlying26 rfl (sz26.trans (by simp [U64])) (hK _ _ (grown_refl _ _) ⟨_, rfl, hg2⟩ (fun h => Bool.noConfusion (show false = true from h)))
    · intro a x2 hg hsp hd K hK
      replace hg := grown_trans hw hg
      obtain ⟨_, e1, f1, rfl, h1⟩ := hd 8 _ 34 (by kernel_rfl) rfl rfl
      obtain ⟨_, e2, f2, rfl, h2⟩ := hd 10 _ 36 (by kernel_rfl) rfl rfl
      refine at_call (wanted_free rfl) rfl (args2 e1 e2) Try.func20 (by kernel_rfl) rfl ?_
      refine (eSub h1 h2 _).mono ?_
      rintro e w3 ⟨⟨f, rfl, hf⟩, hb⟩
      exact ⟨_, rfl, hK _ _ (grown_own hb) ⟨_, rfl, hf⟩ (fun h => Bool.noConfusion (show false = true from h))⟩
    · intro a x2 hg hsp hd K hK
      replace hg := grown_trans hw hg
      have e1 : a.tmps[8]? = some (.pointer (some ⟨b8, 0, none⟩)) := (hsp 8 (by kernel_rfl)).trans rfl
      obtain ⟨f, hb, hf⟩ := Mb8.out.grown hg
      exact at_row (wanted_free rfl) rfl e1 hb Try.underlying26 rfl (sz26.trans (by simp [U64])) (hK _ _ (grown_refl _ _) ⟨_, rfl, hf⟩ (fun h => Bool.noConfusion (show false = true from h)))
    · intro a x2 hg hsp hd K hK
      replace hg := grown_trans hw hg
      obtain ⟨_, e1, f1, rfl, h1⟩ := hd 11 _ 37 (by kernel_rfl) rfl rfl
      obtain ⟨_, e2, f2, rfl, h2⟩ := hd 12 _ 38 (by kernel_rfl) rfl rfl
      refine at_call (wanted_free rfl) rfl (args2 e1 e2) Try.func22 (by kernel_rfl) rfl ?_
      refine (eMul h1 h2 _).mono ?_
      rintro e w3 ⟨⟨f, rfl, hf⟩, hb⟩
      exact ⟨_, rfl, hK _ _ (grown_own hb) ⟨_, rfl, hf⟩ (fun h => Bool.noConfusion (show false = true from h))⟩
    · intro a x2 hg hsp hd K hK
      replace hg := grown_trans hw hg
      exact at_value (wanted_free rfl) (run_alloc rfl alloc26) (hK _ _ (grown_new (grown_refl _ _) _) ⟨_, rfl, heap_new' _ _ _ rfl, hg.size⟩ (fun _ b hb => by cases hb; exact Nat.le_refl _))
    · intro a x2 hg hsp hd K hK
      replace hg := grown_trans hw hg
      exact at_value (wanted_free rfl) (run_alloc rfl alloc26) (hK _ _ (grown_new (grown_refl _ _) _) ⟨_, rfl, heap_new' _ _ _ rfl, hg.size⟩ (fun _ b hb => by cases hb; exact Nat.le_refl _))
  have v0 : vs 0 = _ := hv 0 _ rfl
  obtain ⟨F27, v1, k27⟩ := hv 1 _ rfl
  have v2 : vs 2 = _ := hv 2 _ rfl
  obtain ⟨F29, v3, k29⟩ := hv 3 _ rfl
  obtain ⟨F30, v4, k30⟩ := hv 4 _ rfl
  obtain ⟨F31, v5, k31⟩ := hv 5 _ rfl
  obtain ⟨F32, v6, k32⟩ := hv 6 _ rfl
  have v7 : vs 7 = _ := hv 7 _ rfl
  obtain ⟨F34, v8, k34⟩ := hv 8 _ rfl
  have v9 : vs 9 = _ := hv 9 _ rfl
  obtain ⟨F36, v10, k36⟩ := hv 10 _ rfl
  obtain ⟨F37, v11, k37⟩ := hv 11 _ rfl
  obtain ⟨F38, v12, k38⟩ := hv 12 _ rfl
  obtain ⟨F39, v13, k39⟩ := hv 13 _ rfl
  obtain ⟨b10, v14, m10, z10⟩ := hv 14 _ rfl
  obtain ⟨b11, v15, m11, z11⟩ := hv 15 _ rfl
  have n10_11 := hap 14 15 _ _ (by decide) rfl rfl v14 v15
  simp [seqA, Act.put, v0, v1, v2, v3, v4, v5, v6, v7, v8, v9, v10, v11, v12, v13, v14, v15]
  have Ta := Lib.hid m10
  have Tb : Hid ((World.setRow v b10 (U64 F32)).heap[b11]? = some (.cells Z5 26 (0, 0))) := Lib.hid (by rw [setRow_other _ _ _ _ (Ne.symm n10_11)]; exact m11)
  refine wpList_store_row rfl 26 _ _ rfl b10 _ rfl rfl 26 _ Ta.out (sz26.trans (by simp [U64])) (by first | (simp [U64]; done) | (simp [U64]; rfl)) (vals_one _ _ _) ?_
  refine wpList_store_row rfl 26 _ _ rfl b11 _ rfl rfl 26 _ Tb.out (sz26.trans (by simp [U64])) (by first | (simp [U64]; done) | (simp [U64]; rfl)) (vals_one _ _ _) ?_
  generalize hW : World.setRow _ _ _ = w3
  have q10 : Hid (FeAt w3 b10 ((x2 + z2) * (x1 - z1))) := Lib.hid ⟨F32, by rw [← hW, setRow_other _ _ _ _ n10_11]; exact setRow_heap _ _ _ _ _ _ Ta.out, k32⟩
  have q11 : Hid (FeAt w3 b11 ((x2 - z2) * (x1 + z1))) := Lib.hid ⟨F39, by rw [← hW]; exact setRow_heap _ _ _ _ _ _ Tb.out, k39⟩
  have NE4_10 : Hid (b4 ≠ b10) := Lib.hid (Nat.ne_of_lt (Nat.lt_of_lt_of_le Mb4.out.lt z10))
  have NE4_11 : Hid (b4 ≠ b11) := Lib.hid (Nat.ne_of_lt (Nat.lt_of_lt_of_le Mb4.out.lt z11))
  have NE5_10 : Hid (b5 ≠ b10) := Lib.hid (Nat.ne_of_lt (Nat.lt_of_lt_of_le Mb5.out.lt z10))
  have NE5_11 : Hid (b5 ≠ b11) := Lib.hid (Nat.ne_of_lt (Nat.lt_of_lt_of_le Mb5.out.lt z11))
  have NE8_10 : Hid (b8 ≠ b10) := Lib.hid (Nat.ne_of_lt (Nat.lt_of_lt_of_le Mb8.out.lt z10))
  have NE8_11 : Hid (b8 ≠ b11) := Lib.hid (Nat.ne_of_lt (Nat.lt_of_lt_of_le Mb8.out.lt z11))
  have NE9_10 : Hid (b9 ≠ b10) := Lib.hid (Nat.ne_of_lt (Nat.lt_of_lt_of_le Mb9.out.lt z10))
  have NE9_11 : Hid (b9 ≠ b11) := Lib.hid (Nat.ne_of_lt (Nat.lt_of_lt_of_le Mb9.out.lt z11))
  have NE6_10 : Hid (b6 ≠ b10) := Lib.hid (Nat.ne_of_lt (Nat.lt_of_lt_of_le S6.out z10))
  have NE6_11 : Hid (b6 ≠ b11) := Lib.hid (Nat.ne_of_lt (Nat.lt_of_lt_of_le S6.out z11))
  have NE7_10 : Hid (b7 ≠ b10) := Lib.hid (Nat.ne_of_lt (Nat.lt_of_lt_of_le S7.out z10))
  have NE7_11 : Hid (b7 ≠ b11) := Lib.hid (Nat.ne_of_lt (Nat.lt_of_lt_of_le S7.out z11))
  have NE10_11 : Hid (b10 ≠ b11) := Lib.hid n10_11
  have L10 : Hid (w.heap.size ≤ b10) := Lib.hid (Nat.le_trans HB.out.size z10)
  have L11 : Hid (w.heap.size ≤ b11) := Lib.hid (Nat.le_trans HB.out.size z11)
  have q5 := Lib.hid ((Mb5.out.grown hg).same (w' := w3) (by rw [← hW, setRow_other _ _ _ _ NE5_11.out, setRow_other _ _ _ _ NE5_10.out]))
  have q8 := Lib.hid ((Mb8.out.grown hg).same (w' := w3) (by rw [← hW, setRow_other _ _ _ _ NE8_11.out, setRow_other _ _ _ _ NE8_10.out]))
  have q9 := Lib.hid ((Mb9.out.grown hg).same (w' := w3) (by rw [← hW, setRow_other _ _ _ _ NE9_11.out, setRow_other _ _ _ _ NE9_10.out]))
  have r6 : Hid (w3.heap[b6]? = _) := Lib.hid ((show w3.heap[b6]? = v.heap[b6]? by rw [← hW, setRow_other _ _ _ _ NE6_11.out, setRow_other _ _ _ _ NE6_10.out]).trans ((hg.block b6 S6.out (by simp)).trans M6.out))
  have s6 : Hid (b6 < w3.heap.size) := Lib.hid (heap_lt r6.out)
  have r7 : Hid (w3.heap[b7]? = _) := Lib.hid ((show w3.heap[b7]? = v.heap[b7]? by rw [← hW, setRow_other _ _ _ _ NE7_11.out, setRow_other _ _ _ _ NE7_10.out]).trans ((hg.block b7 S7.out (by simp)).trans M7.out))
  have s7 : Hid (b7 < w3.heap.size) := Lib.hid (heap_lt r7.out)
  have hb0 : Below w.heap.size w w3 := by rw [← hW]; exact below_setRow (below_setRow (HB.out.grown hg HB.out.size (fun j hj => by cases hj)) L10.out _) L11.out _
  clear HB M6 M7 S6 S7 Ta Tb hW hg hv hap
  have HB := Lib.hid hb0
  have M6 := r6
  have S6 := s6
  have M7 := r7
  have S7 := s7
  clear Mb5
  have Mb5 := q5
  clear Mb8
  have Mb8 := q8
  clear Mb9
  have Mb9 := q9
  have Mb10 := q10
  have Mb11 := q11
  clear Mb4
  clear hb0 r6 s6 r7 s7 q5 q8 q9 q10 q11
  clear k27 k29 k30 k31 k32 k34 k36 k37 k38 k39 v0 v1 v2 v3 v4 v5 v6 v7 v8 v9 v10 v11 v12 v13 v14 v15 m10 z10 m11 z11 n10_11
  clear vs
  go_wp2_with fail
  refine region_kk _ 77 [.fe (x1 + z1), .fe (x1 + z1), .fe ((x1 + z1) * (x1 + z1)), .fe (x1 - z1), .fe (x1 - z1), .fe ((x1 - z1) * (x1 - z1))] (by kernel_rfl) (by rfl) (by kernel_rfl) (by kernel_rfl) (fun x1 hw => ?_) (fun vs v hg hv hap => ?_)
  · refine ⟨?_, ?_, ?_, ?_, ?_, ?_, trivial⟩
    · intro a x2 hg hsp hd K hK
      replace hg := grown_trans hw hg
      have e1 : a.tmps[8]? = some (.pointer (some ⟨b8, 0, none⟩)) := (hsp 8 (by kernel_rfl)).trans rfl
      obtain ⟨f, hb, hf⟩ := Mb8.out.grown hg
      exact at_row (wanted_free rfl) rfl e1 hb Try.underlying26 rfl (sz26.trans (by simp [U64])) (hK _ _ (grown_refl _ _) ⟨_, rfl, hf⟩ (fun h => Bool.noConfusion (show false = true from h)))
    · intro a x2 hg hsp hd K hK
      replace hg := grown_trans hw hg
      have e1 : a.tmps[8]? = some (.pointer (some ⟨b8, 0, none⟩)) := (hsp 8 (by kernel_rfl)).trans rfl
      obtain ⟨f, hb, hf⟩ := Mb8.out.grown hg
      exact at_row (wanted_free rfl) rfl e1 hb Try.underlying26 rfl (sz26.trans (by simp [U64])) (hK _ _ (grown_refl _ _) ⟨_, rfl, hf⟩ (fun h => Bool.noConfusion (show false = true from h)))
    · intro a x2 hg hsp hd K hK
      replace hg := grown_trans hw hg
      obtain ⟨_, e1, f1, rfl, h1⟩ := hd 0 _ 40 (by kernel_rfl) rfl rfl
      obtain ⟨_, e2, f2, rfl, h2⟩ := hd 1 _ 41 (by kernel_rfl) rfl rfl
      refine at_call (wanted_free rfl) rfl (args2 e1 e2) Try.func22 (by kernel_rfl) rfl ?_
      refine (eMul h1 h2 _).mono ?_
      rintro e w3 ⟨⟨f, rfl, hf⟩, hb⟩
      exact ⟨_, rfl, hK _ _ (grown_own hb) ⟨_, rfl, hf⟩ (fun h => Bool.noConfusion (show false = true from h))⟩
    · intro a x2 hg hsp hd K hK
      replace hg := grown_trans hw hg
      have e1 : a.tmps[9]? = some (.pointer (some ⟨b9, 0, none⟩)) := (hsp 9 (by kernel_rfl)).trans rfl
      obtain ⟨f, hb, hf⟩ := Mb9.out.grown hg
      exact at_row (wanted_free rfl) rfl e1 hb Try.underlying26 rfl (sz26.trans (by simp [U64])) (hK _ _ (grown_refl _ _) ⟨_, rfl, hf⟩ (fun h => Bool.noConfusion (show false = true from h)))
    · intro a x2 hg hsp hd K hK
      replace hg := grown_trans hw hg
      have e1 : a.tmps[9]? = some (.pointer (some ⟨b9, 0, none⟩)) := (hsp 9 (by kernel_rfl)).trans rfl
      obtain ⟨f, hb, hf⟩ := Mb9.out.grown hg
      exact at_row (wanted_free rfl) rfl e1 hb Try.underlying26 rfl (sz26.trans (by simp [U64])) (hK _ _ (grown_refl _ _) ⟨_, rfl, hf⟩ (fun h => Bool.noConfusion (show false = true from h)))
    · intro a x2 hg hsp hd K hK
      replace hg := grown_trans hw hg
      obtain ⟨_, e1, f1, rfl, h1⟩ := hd 3 _ 43 (by kernel_rfl) rfl rfl
      obtain ⟨_, e2, f2, rfl, h2⟩ := hd 4 _ 44 (by kernel_rfl) rfl rfl
      refine at_call (wanted_free rfl) rfl (args2 e1 e2) Try.func22 (by kernel_rfl) rfl ?_
      refine (eMul h1 h2 _).mono ?_
      rintro e w3 ⟨⟨f, rfl, hf⟩, hb⟩
      exact ⟨_, rfl, hK _ _ (grown_own hb) ⟨_, rfl, hf⟩ (fun h => Bool.noConfusion (show false = true from h))⟩
  obtain ⟨F40, v0, k40⟩ := hv 0 _ rfl
  obtain ⟨F41, v1, k41⟩ := hv 1 _ rfl
  obtain ⟨F42, v2, k42⟩ := hv 2 _ rfl
  obtain ⟨F43, v3, k43⟩ := hv 3 _ rfl
  obtain ⟨F44, v4, k44⟩ := hv 4 _ rfl
  obtain ⟨F45, v5, k45⟩ := hv 5 _ rfl
  simp [seqA, Act.put, v0, v1, v2, v3, v4, v5]
  obtain ⟨oa, ha, _⟩ := Mb8.out.grown hg
  obtain ⟨ob, hb, _⟩ := Mb9.out.grown hg
  have Ta := Lib.hid ha
  have Tb : Hid ((World.setRow v b8 (U64 F42)).heap[b9]? = some (.cells (U64 ob) 26 (0, 0))) := Lib.hid (by rw [setRow_other _ _ _ _ (Ne.symm NE8_9.out)]; exact hb)
  refine wpList_store_row rfl 26 _ _ rfl b8 _ rfl rfl 26 _ Ta.out (sz26.trans (by simp [U64])) (by first | (simp [U64]; done) | (simp [U64]; rfl)) (vals_one _ _ _) ?_
  refine wpList_store_row rfl 26 _ _ rfl b9 _ rfl rfl 26 _ Tb.out (sz26.trans (by simp [U64])) (by first | (simp [U64]; done) | (simp [U64]; rfl)) (vals_one _ _ _) ?_
  generalize hW : World.setRow _ _ _ = w4
  have q8 : Hid (FeAt w4 b8 ((x1 + z1) * (x1 + z1))) := Lib.hid ⟨F42, by rw [← hW, setRow_other _ _ _ _ NE8_9.out]; exact setRow_heap _ _ _ _ _ _ Ta.out, k42⟩
  have q9 : Hid (FeAt w4 b9 ((x1 - z1) * (x1 - z1))) := Lib.hid ⟨F45, by rw [← hW]; exact setRow_heap _ _ _ _ _ _ Tb.out, k45⟩
  have q5 := Lib.hid ((Mb5.out.grown hg).same (w' := w4) (by rw [← hW, setRow_other _ _ _ _ NE5_9.out, setRow_other _ _ _ _ NE5_8.out]))
  have q10 := Lib.hid ((Mb10.out.grown hg).same (w' := w4) (by rw [← hW, setRow_other _ _ _ _ (Ne.symm NE9_10.out), setRow_other _ _ _ _ (Ne.symm NE8_10.out)]))
  have q11 := Lib.hid ((Mb11.out.grown hg).same (w' := w4) (by rw [← hW, setRow_other _ _ _ _ (Ne.symm NE9_11.out), setRow_other _ _ _ _ (Ne.symm NE8_11.out)]))
  have r6 : Hid (w4.heap[b6]? = _) := Lib.hid ((show w4.heap[b6]? = v.heap[b6]? by rw [← hW, setRow_other _ _ _ _ NE6_9.out, setRow_other _ _ _ _ NE6_8.out]).trans ((hg.block b6 S6.out (by simp)).trans M6.out))
  have s6 : Hid (b6 < w4.heap.size) := Lib.hid (heap_lt r6.out)
  have r7 : Hid (w4.heap[b7]? = _) := Lib.hid ((show w4.heap[b7]? = v.heap[b7]? by rw [← hW, setRow_other _ _ _ _ NE7_9.out, setRow_other _ _ _ _ NE7_8.out]).trans ((hg.block b7 S7.out (by simp)).trans M7.out))
  have s7 : Hid (b7 < w4.heap.size) := Lib.hid (heap_lt r7.out)
  have hb0 : Below w.heap.size w w4 := by rw [← hW]; exact below_setRow (below_setRow (HB.out.grown hg HB.out.size (fun j hj => by cases hj)) L8.out _) L9.out _
  clear HB M6 M7 S6 S7 Ta Tb hW hg hv hap
  have HB := Lib.hid hb0
  have M6 := r6
  have S6 := s6
  have M7 := r7
  have S7 := s7
  clear Mb5
  have Mb5 := q5
  clear Mb8
  have Mb8 := q8
  clear Mb9
  have Mb9 := q9
  clear Mb10
  have Mb10 := q10
  clear Mb11
  have Mb11 := q11
  clear hb0 r6 s6 r7 s7 q5 q8 q9 q10 q11
  clear ha hb
  clear k40 k41 k42 k43 k44 k45 v0 v1 v2 v3 v4 v5
  clear vs
  obtain ⟨f8, hb8, kk8⟩ := Mb8.out
  have H8 := Lib.hid hb8
  have K8 := Lib.hid kk8
  clear hb8 kk8
  obtain ⟨f9, hb9, kk9⟩ := Mb9.out
  have H9 := Lib.hid hb9
  have K9 := Lib.hid kk9
  clear hb9 kk9
  go_wp2_with (first | (refine wpList_load_row rfl 26 _ rfl b8 rfl 26 (U64 f8) (0, 0) _ H8.out Try.underlying26 rfl (sz26.trans (by simp [U64])) ?_) | (refine wpList_load_row rfl 26 _ rfl b9 rfl 26 (U64 f9) (0, 0) _ H9.out Try.underlying26 rfl (sz26.trans (by simp [U64])) ?_) | fail)
  refine (eSub K8.out K9.out _).mono ?_
  rintro e wx ⟨⟨F48, rfl, hf⟩, hb⟩
  have HK := Lib.hid hf
  have z12 := hb.size
  have hg := grown_new (grown_own hb) (.cells Z5 26)
  have T : Hid ((wx.alloc (.cells Z5 26)).heap[wx.heap.size]? = some (.cells Z5 26 (0, 0))) := Lib.hid (heap_new' _ _ _ rfl)
  have HG := Lib.hid hg
  have Z := Lib.hid z12
  clear hf hb hg z12
  go_wp2_with (first | (refine wpList_store_row rfl 26 _ _ rfl wx.heap.size _ rfl rfl 26 _ T.out (sz26.trans (by simp [U64])) (by first | (simp [U64]; done) | (simp [U64]; rfl)) (vals_one _ _ _) ?_) | fail)
  generalize hW : World.setRow _ _ _ = w5
  obtain ⟨b12, e12⟩ : ∃ b, wx.heap.size = b := ⟨_, rfl⟩
  have z12 := Z.out
  have T2 := T.out
  have hg := HG.out
  clear Z T HG
  rw [e12] at hW z12 T2 ⊢
  have Ta := Lib.hid T2
  clear T2
  have q12 : Hid (FeAt w5 b12 (((x1 + z1) * (x1 + z1)) - ((x1 - z1) * (x1 - z1)))) := Lib.hid ⟨F48, by rw [← hW]; exact setRow_heap _ _ _ _ _ _ Ta.out, HK.out⟩
  have NE5_12 : Hid (b5 ≠ b12) := Lib.hid (Nat.ne_of_lt (Nat.lt_of_lt_of_le Mb5.out.lt z12))
  have q5 := Lib.hid ((Mb5.out.grown hg).same (w' := w5) (by rw [← hW, setRow_other _ _ _ _ NE5_12.out]; rfl))
  have NE8_12 : Hid (b8 ≠ b12) := Lib.hid (Nat.ne_of_lt (Nat.lt_of_lt_of_le Mb8.out.lt z12))
  have q8 := Lib.hid ((Mb8.out.grown hg).same (w' := w5) (by rw [← hW, setRow_other _ _ _ _ NE8_12.out]; rfl))
  have NE9_12 : Hid (b9 ≠ b12) := Lib.hid (Nat.ne_of_lt (Nat.lt_of_lt_of_le Mb9.out.lt z12))
  have q9 := Lib.hid ((Mb9.out.grown hg).same (w' := w5) (by rw [← hW, setRow_other _ _ _ _ NE9_12.out]; rfl))
  have NE10_12 : Hid (b10 ≠ b12) := Lib.hid (Nat.ne_of_lt (Nat.lt_of_lt_of_le Mb10.out.lt z12))
  have q10 := Lib.hid ((Mb10.out.grown hg).same (w' := w5) (by rw [← hW, setRow_other _ _ _ _ NE10_12.out]; rfl))
  have NE11_12 : Hid (b11 ≠ b12) := Lib.hid (Nat.ne_of_lt (Nat.lt_of_lt_of_le Mb11.out.lt z12))
  have q11 := Lib.hid ((Mb11.out.grown hg).same (w' := w5) (by rw [← hW, setRow_other _ _ _ _ NE11_12.out]; rfl))
  have NE6_12 : Hid (b6 ≠ b12) := Lib.hid (Nat.ne_of_lt (Nat.lt_of_lt_of_le S6.out z12))
  have r6 : Hid (w5.heap[b6]? = _) := Lib.hid ((show w5.heap[b6]? = (wx.alloc (.cells Z5 26)).heap[b6]? by rw [← hW, setRow_other _ _ _ _ NE6_12.out]; rfl).trans ((hg.block b6 S6.out (by simp)).trans M6.out))
  have s6 : Hid (b6 < w5.heap.size) := Lib.hid (heap_lt r6.out)
  have NE7_12 : Hid (b7 ≠ b12) := Lib.hid (Nat.ne_of_lt (Nat.lt_of_lt_of_le S7.out z12))
  have r7 : Hid (w5.heap[b7]? = _) := Lib.hid ((show w5.heap[b7]? = (wx.alloc (.cells Z5 26)).heap[b7]? by rw [← hW, setRow_other _ _ _ _ NE7_12.out]; rfl).trans ((hg.block b7 S7.out (by simp)).trans M7.out))
  have s7 : Hid (b7 < w5.heap.size) := Lib.hid (heap_lt r7.out)
  have hb0 : Below w.heap.size w w5 := by rw [← hW]; exact below_setRow (HB.out.grown hg HB.out.size (fun j hj => by cases hj)) (Nat.le_trans HB.out.size z12) _
  clear HB M6 M7 S6 S7 Ta hW hg HK e12 z12
  clear H8 K8
  clear H9 K9
  have HB := Lib.hid hb0
  have M6 := r6
  have S6 := s6
  have M7 := r7
  have S7 := s7
  clear Mb5
  have Mb5 := q5
  clear Mb8
  have Mb8 := q8
  clear Mb9
  have Mb9 := q9
  clear Mb10
  have Mb10 := q10
  clear Mb11
  have Mb11 := q11
  have Mb12 := q12
  clear hb0 r6 s6 r7 s7 q5 q8 q9 q10 q11 q12
  refine region_kk _ 77 [.fe ((x2 + z2) * (x1 - z1)), .fe ((x2 - z2) * (x1 + z1)), .fe (((x2 + z2) * (x1 - z1)) + ((x2 - z2) * (x1 + z1))), .fe ((x2 + z2) * (x1 - z1)), .fe ((x2 - z2) * (x1 + z1)), .fe (((x2 + z2) * (x1 - z1)) - ((x2 - z2) * (x1 + z1))), .new w5.heap.size (.cells Z5 26), .new w5.heap.size (.cells Z5 26)] (by kernel_rfl) (by rfl) (by kernel_rfl) (by kernel_rfl) (fun x1 hw => ?_) (fun vs v hg hv hap => ?_)
  · refine ⟨?_, ?_, ?_, ?_, ?_, ?_, ?_, ?_, trivial⟩
    · intro a x2 hg hsp hd K hK
      replace hg := grown_trans hw hg
      have e1 : a.tmps[10]? = some (.pointer (some ⟨b10, 0, none⟩)) := (hsp 10 (by kernel_rfl)).trans rfl
      obtain ⟨f, hb, hf⟩ := Mb10.out.grown hg
      exact at_row (wanted_free rfl) rfl e1 hb Try.underlying26 rfl (sz26.trans (by simp [U64])) (hK _ _ (grown_refl _ _) ⟨_, rfl, hf⟩ (fun h => Bool.noConfusion (show false = true from h)))
    · intro a x2 hg hsp hd K hK
      replace hg := grown_trans hw hg
      have e1 : a.tmps[11]? = some (.pointer (some ⟨b11, 0, none⟩)) := (hsp 11 (by kernel_rfl)).trans rfl
      obtain ⟨f, hb, hf⟩ := Mb11.out.grown hg
      exact at_row (wanted_free rfl) rfl e1 hb Try.underlying26 rfl (sz26.trans (by simp [U64])) (hK _ _ (grown_refl _ _) ⟨_, rfl, hf⟩ (fun h => Bool.noConfusion (show false = true from h)))
    · intro a x2 hg hsp hd K hK
      replace hg := grown_trans hw hg
      obtain ⟨_, e1, f1, rfl, h1⟩ := hd 0 _ 49 (by kernel_rfl) rfl rfl
      obtain ⟨_, e2, f2, rfl, h2⟩ := hd 1 _ 50 (by kernel_rfl) rfl rfl
      refine at_call (wanted_free rfl) rfl (args2 e1 e2) Try.func18 (by kernel_rfl) rfl ?_
      refine (eAdd h1 h2 _).mono ?_
      rintro e w3 ⟨⟨f, rfl, hf⟩, hb⟩
      exact ⟨_, rfl, hK _ _ (grown_own hb) ⟨_, rfl, hf⟩ (fun h => Bool.noConfusion (show false = true from h))⟩
    · intro a x2 hg hsp hd K hK
      replace hg := grown_trans hw hg
      have e1 : a.tmps[10]? = some (.pointer (some ⟨b10, 0, none⟩)) := (hsp 10 (by kernel_rfl)).trans rfl
      obtain ⟨f, hb, hf⟩ := Mb10.out.grown hg
      exact at_row (wanted_free rfl) rfl e1 hb Try.underlying26 rfl (sz26.trans (by simp [U64])) (hK _ _ (grown_refl _ _) ⟨_, rfl, hf⟩ (fun h => Bool.noConfusion (show false = true from h)))
    · intro a x2 hg hsp hd K hK
      replace hg := grown_trans hw hg
      have e1 : a.tmps[11]? = some (.pointer (some ⟨b11, 0, none⟩)) := (hsp 11 (by kernel_rfl)).trans rfl
      obtain ⟨f, hb, hf⟩ := Mb11.out.grown hg
      exact at_row (wanted_free rfl) rfl e1 hb Try.underlying26 rfl (sz26.trans (by simp [U64])) (hK _ _ (grown_refl _ _) ⟨_, rfl, hf⟩ (fun h => Bool.noConfusion (show false = true from h)))
    · intro a x2 hg hsp hd K hK
      replace hg := grown_trans hw hg
      obtain ⟨_, e1, f1, rfl, h1⟩ := hd 3 _ 52 (by kernel_rfl) rfl rfl
      obtain ⟨_, e2, f2, rfl, h2⟩ := hd 4 _ 53 (by kernel_rfl) rfl rfl
      refine at_call (wanted_free rfl) rfl (args2 e1 e2) Try.func20 (by kernel_rfl) rfl ?_
      refine (eSub h1 h2 _).mono ?_
      rintro e w3 ⟨⟨f, rfl, hf⟩, hb⟩
      exact ⟨_, rfl, hK _ _ (grown_own hb) ⟨_, rfl, hf⟩ (fun h => Bool.noConfusion (show false = true from h))⟩
    · intro a x2 hg hsp hd K hK
      replace hg := grown_trans hw hg
      exact at_value (wanted_free rfl) (run_alloc rfl alloc26) (hK _ _ (grown_new (grown_refl _ _) _) ⟨_, rfl, heap_new' _ _ _ rfl, hg.size⟩ (fun _ b hb => by cases hb; exact Nat.le_refl _))
    · intro a x2 hg hsp hd K hK
      replace hg := grown_trans hw hg
      exact at_value (wanted_free rfl) (run_alloc rfl alloc26) (hK _ _ (grown_new (grown_refl _ _) _) ⟨_, rfl, heap_new' _ _ _ rfl, hg.size⟩ (fun _ b hb => by cases hb; exact Nat.le_refl _))
  obtain ⟨F49, v0, k49⟩ := hv 0 _ rfl
  obtain ⟨F50, v1, k50⟩ := hv 1 _ rfl
  obtain ⟨F51, v2, k51⟩ := hv 2 _ rfl
  obtain ⟨F52, v3, k52⟩ := hv 3 _ rfl
  obtain ⟨F53, v4, k53⟩ := hv 4 _ rfl
  obtain ⟨F54, v5, k54⟩ := hv 5 _ rfl
  obtain ⟨b13, v6, m13, z13⟩ := hv 6 _ rfl
  obtain ⟨b14, v7, m14, z14⟩ := hv 7 _ rfl
  have n13_14 := hap 6 7 _ _ (by decide) rfl rfl v6 v7
  simp [seqA, Act.put, v0, v1, v2, v3, v4, v5, v6, v7]
  have Ta := Lib.hid m13
  have Tb : Hid ((World.setRow v b13 (U64 F51)).heap[b14]? = some (.cells Z5 26 (0, 0))) := Lib.hid (by rw [setRow_other _ _ _ _ (Ne.symm n13_14)]; exact m14)
  refine wpList_store_row rfl 26 _ _ rfl b13 _ rfl rfl 26 _ Ta.out (sz26.trans (by simp [U64])) (by first | (simp [U64]; done) | (simp [U64]; rfl)) (vals_one _ _ _) ?_
  refine wpList_store_row rfl 26 _ _ rfl b14 _ rfl rfl 26 _ Tb.out (sz26.trans (by simp [U64])) (by first | (simp [U64]; done) | (simp [U64]; rfl)) (vals_one _ _ _) ?_
  generalize hW : World.setRow _ _ _ = w6
  have q13 : Hid (FeAt w6 b13 (((x2 + z2) * (x1 - z1)) + ((x2 - z2) * (x1 + z1)))) := Lib.hid ⟨F51, by rw [← hW, setRow_other _ _ _ _ n13_14]; exact setRow_heap _ _ _ _ _ _ Ta.out, k51⟩
  have q14 : Hid (FeAt w6 b14 (((x2 + z2) * (x1 - z1)) - ((x2 - z2) * (x1 + z1)))) := Lib.hid ⟨F54, by rw [← hW]; exact setRow_heap _ _ _ _ _ _ Tb.out, k54⟩
  have NE5_13 : Hid (b5 ≠ b13) := Lib.hid (Nat.ne_of_lt (Nat.lt_of_lt_of_le Mb5.out.lt z13))
  have NE5_14 : Hid (b5 ≠ b14) := Lib.hid (Nat.ne_of_lt (Nat.lt_of_lt_of_le Mb5.out.lt z14))
  have NE8_13 : Hid (b8 ≠ b13) := Lib.hid (Nat.ne_of_lt (Nat.lt_of_lt_of_le Mb8.out.lt z13))
  have NE8_14 : Hid (b8 ≠ b14) := Lib.hid (Nat.ne_of_lt (Nat.lt_of_lt_of_le Mb8.out.lt z14))
  have NE9_13 : Hid (b9 ≠ b13) := Lib.hid (Nat.ne_of_lt (Nat.lt_of_lt_of_le Mb9.out.lt z13))
  have NE9_14 : Hid (b9 ≠ b14) := Lib.hid (Nat.ne_of_lt (Nat.lt_of_lt_of_le Mb9.out.lt z14))
  have NE10_13 : Hid (b10 ≠ b13) := Lib.hid (Nat.ne_of_lt (Nat.lt_of_lt_of_le Mb10.out.lt z13))
  have NE10_14 : Hid (b10 ≠ b14) := Lib.hid (Nat.ne_of_lt (Nat.lt_of_lt_of_le Mb10.out.lt z14))
  have NE11_13 : Hid (b11 ≠ b13) := Lib.hid (Nat.ne_of_lt (Nat.lt_of_lt_of_le Mb11.out.lt z13))
  have NE11_14 : Hid (b11 ≠ b14) := Lib.hid (Nat.ne_of_lt (Nat.lt_of_lt_of_le Mb11.out.lt z14))
  have NE12_13 : Hid (b12 ≠ b13) := Lib.hid (Nat.ne_of_lt (Nat.lt_of_lt_of_le Mb12.out.lt z13))
  have NE12_14 : Hid (b12 ≠ b14) := Lib.hid (Nat.ne_of_lt (Nat.lt_of_lt_of_le Mb12.out.lt z14))
  have NE6_13 : Hid (b6 ≠ b13) := Lib.hid (Nat.ne_of_lt (Nat.lt_of_lt_of_le S6.out z13))
  have NE6_14 : Hid (b6 ≠ b14) := Lib.hid (Nat.ne_of_lt (Nat.lt_of_lt_of_le S6.out z14))
  have NE7_13 : Hid (b7 ≠ b13) := Lib.hid (Nat.ne_of_lt (Nat.lt_of_lt_of_le S7.out z13))
  have NE7_14 : Hid (b7 ≠ b14) := Lib.hid (Nat.ne_of_lt (Nat.lt_of_lt_of_le S7.out z14))
  have NE13_14 : Hid (b13 ≠ b14) := Lib.hid n13_14
  have L13 : Hid (w.heap.size ≤ b13) := Lib.hid (Nat.le_trans HB.out.size z13)
  have L14 : Hid (w.heap.size ≤ b14) := Lib.hid (Nat.le_trans HB.out.size z14)
  have q5 := Lib.hid ((Mb5.out.grown hg).same (w' := w6) (by rw [← hW, setRow_other _ _ _ _ NE5_14.out, setRow_other _ _ _ _ NE5_13.out]))
  have q8 := Lib.hid ((Mb8.out.grown hg).same (w' := w6) (by rw [← hW, setRow_other _ _ _ _ NE8_14.out, setRow_other _ _ _ _ NE8_13.out]))
  have q9 := Lib.hid ((Mb9.out.grown hg).same (w' := w6) (by rw [← hW, setRow_other _ _ _ _ NE9_14.out, setRow_other _ _ _ _ NE9_13.out]))
  have q12 := Lib.hid ((Mb12.out.grown hg).same (w' := w6) (by rw [← hW, setRow_other _ _ _ _ NE12_14.out, setRow_other _ _ _ _ NE12_13.out]))
  have r6 : Hid (w6.heap[b6]? = _) := Lib.hid ((show w6.heap[b6]? = v.heap[b6]? by rw [← hW, setRow_other _ _ _ _ NE6_14.out, setRow_other _ _ _ _ NE6_13.out]).trans ((hg.block b6 S6.out (by simp)).trans M6.out))
  have s6 : Hid (b6 < w6.heap.size) := Lib.hid (heap_lt r6.out)
  have r7 : Hid (w6.heap[b7]? = _) := Lib.hid ((show w6.heap[b7]? = v.heap[b7]? by rw [← hW, setRow_other _ _ _ _ NE7_14.out, setRow_other _ _ _ _ NE7_13.out]).trans ((hg.block b7 S7.out (by simp)).trans M7.out))
  have s7 : Hid (b7 < w6.heap.size) := Lib.hid (heap_lt r7.out)
  have hb0 : Below w.heap.size w w6 := by rw [← hW]; exact below_setRow (below_setRow (HB.out.grown hg HB.out.size (fun j hj => by cases hj)) L13.out _) L14.out _
  clear HB M6 M7 S6 S7 Ta Tb hW hg hv hap
  have HB := Lib.hid hb0
  have M6 := r6
  have S6 := s6
  have M7 := r7
  have S7 := s7
  clear Mb5
  have Mb5 := q5
  clear Mb8
  have Mb8 := q8
  clear Mb9
  have Mb9 := q9
  clear Mb12
  have Mb12 := q12
  have Mb13 := q13
  have Mb14 := q14
  clear Mb10
  clear Mb11
  clear hb0 r6 s6 r7 s7 q5 q8 q9 q12 q13 q14
  clear k49 k50 k51 k52 k53 k54 v0 v1 v2 v3 v4 v5 v6 v7 m13 z13 m14 z14 n13_14
  clear vs
  have HF : Hid (Few (w6.alloc (.cells #[.int .u8 65, .int .u8 219, .int .u8 1] 5)) kc (.slice (some ⟨w6.heap.size, 0, none⟩) 3 3) 3) := Lib.hid (few3 _)
  go_wp2_with fail
  refine (csmall_any HF.out (by decide) kc_z kc_lt).mono ?_
  rintro e wx ⟨⟨F56, rfl, hf⟩, hb⟩
  rw [kc_val] at hf
  have hg0 := World.grownBy_alloc w6 (.cells #[.int .u8 65, .int .u8 219, .int .u8 1] 5) none
  have HK := Lib.hid hf
  have z15 := hb.size
  have hg := grown_new (grown_trans hg0 (grown_own hb)) (.cells Z5 26)
  have T : Hid ((wx.alloc (.cells Z5 26)).heap[wx.heap.size]? = some (.cells Z5 26 (0, 0))) := Lib.hid (heap_new' _ _ _ rfl)
  have HG := Lib.hid hg
  have Z := Lib.hid z15
  clear hf hb hg z15 hg0
  go_wp2_with (first | (refine wpList_store_row rfl 26 _ _ rfl wx.heap.size _ rfl rfl 26 _ T.out (sz26.trans (by simp [U64])) (by first | (simp [U64]; done) | (simp [U64]; rfl)) (vals_one _ _ _) ?_) | fail)
  generalize hW : World.setRow _ _ _ = w7
  obtain ⟨b15, e15⟩ : ∃ b, wx.heap.size = b := ⟨_, rfl⟩
  have z15 := Z.out
  have T2 := T.out
  have hg := HG.out
  clear Z T HG
  rw [e15] at hW z15 T2 ⊢
  have Ta := Lib.hid T2
  clear T2
  replace z15 : w6.heap.size ≤ b15 := Nat.le_trans (by simp) z15
  have q15 : Hid (FeAt w7 b15 (kF)) := Lib.hid ⟨F56, by rw [← hW]; exact setRow_heap _ _ _ _ _ _ Ta.out, HK.out⟩
  have NE5_15 : Hid (b5 ≠ b15) := Lib.hid (Nat.ne_of_lt (Nat.lt_of_lt_of_le Mb5.out.lt z15))
  have q5 := Lib.hid ((Mb5.out.grown hg).same (w' := w7) (by rw [← hW, setRow_other _ _ _ _ NE5_15.out]; rfl))
  have NE8_15 : Hid (b8 ≠ b15) := Lib.hid (Nat.ne_of_lt (Nat.lt_of_lt_of_le Mb8.out.lt z15))
  have q8 := Lib.hid ((Mb8.out.grown hg).same (w' := w7) (by rw [← hW, setRow_other _ _ _ _ NE8_15.out]; rfl))
  have NE9_15 : Hid (b9 ≠ b15) := Lib.hid (Nat.ne_of_lt (Nat.lt_of_lt_of_le Mb9.out.lt z15))
  have q9 := Lib.hid ((Mb9.out.grown hg).same (w' := w7) (by rw [← hW, setRow_other _ _ _ _ NE9_15.out]; rfl))
  have NE12_15 : Hid (b12 ≠ b15) := Lib.hid (Nat.ne_of_lt (Nat.lt_of_lt_of_le Mb12.out.lt z15))
  have q12 := Lib.hid ((Mb12.out.grown hg).same (w' := w7) (by rw [← hW, setRow_other _ _ _ _ NE12_15.out]; rfl))
  have NE13_15 : Hid (b13 ≠ b15) := Lib.hid (Nat.ne_of_lt (Nat.lt_of_lt_of_le Mb13.out.lt z15))
  have q13 := Lib.hid ((Mb13.out.grown hg).same (w' := w7) (by rw [← hW, setRow_other _ _ _ _ NE13_15.out]; rfl))
  have NE14_15 : Hid (b14 ≠ b15) := Lib.hid (Nat.ne_of_lt (Nat.lt_of_lt_of_le Mb14.out.lt z15))
  have q14 := Lib.hid ((Mb14.out.grown hg).same (w' := w7) (by rw [← hW, setRow_other _ _ _ _ NE14_15.out]; rfl))
  have NE6_15 : Hid (b6 ≠ b15) := Lib.hid (Nat.ne_of_lt (Nat.lt_of_lt_of_le S6.out z15))
  have r6 : Hid (w7.heap[b6]? = _) := Lib.hid ((show w7.heap[b6]? = (wx.alloc (.cells Z5 26)).heap[b6]? by rw [← hW, setRow_other _ _ _ _ NE6_15.out]; rfl).trans ((hg.block b6 S6.out (by simp)).trans M6.out))
  have s6 : Hid (b6 < w7.heap.size) := Lib.hid (heap_lt r6.out)
  have NE7_15 : Hid (b7 ≠ b15) := Lib.hid (Nat.ne_of_lt (Nat.lt_of_lt_of_le S7.out z15))
  have r7 : Hid (w7.heap[b7]? = _) := Lib.hid ((show w7.heap[b7]? = (wx.alloc (.cells Z5 26)).heap[b7]? by rw [← hW, setRow_other _ _ _ _ NE7_15.out]; rfl).trans ((hg.block b7 S7.out (by simp)).trans M7.out))
  have s7 : Hid (b7 < w7.heap.size) := Lib.hid (heap_lt r7.out)
  have hb0 : Below w.heap.size w w7 := by rw [← hW]; exact below_setRow (HB.out.grown hg HB.out.size (fun j hj => by cases hj)) (Nat.le_trans HB.out.size z15) _
  clear HB M6 M7 S6 S7 Ta hW hg HK e15 z15
  have HB := Lib.hid hb0
  have M6 := r6
  have S6 := s6
  have M7 := r7
  have S7 := s7
  clear Mb5
  have Mb5 := q5
  clear Mb8
  have Mb8 := q8
  clear Mb9
  have Mb9 := q9
  clear Mb12
  have Mb12 := q12
  clear Mb13
  have Mb13 := q13
  clear Mb14
  have Mb14 := q14
  have Mb15 := q15
  clear hb0 r6 s6 r7 s7 q5 q8 q9 q12 q13 q14 q15
  refine region_kk_any _ 77 [.fe ((x1 + z1) * (x1 + z1)), .fe ((x1 - z1) * (x1 - z1)), .fe (((x1 + z1) * (x1 + z1)) * ((x1 - z1) * (x1 - z1))), .fe (((x1 + z1) * (x1 + z1)) - ((x1 - z1) * (x1 - z1))), .fe ((x1 + z1) * (x1 + z1)), .fe (kF), .fe (((x1 + z1) * (x1 + z1)) - ((x1 - z1) * (x1 - z1))), .fe (kF * (((x1 + z1) * (x1 + z1)) - ((x1 - z1) * (x1 - z1)))), .fe (((x1 + z1) * (x1 + z1)) + (kF * (((x1 + z1) * (x1 + z1)) - ((x1 - z1) * (x1 - z1))))), .fe ((((x1 + z1) * (x1 + z1)) - ((x1 - z1) * (x1 - z1))) * (((x1 + z1) * (x1 + z1)) + (kF * (((x1 + z1) * (x1 + z1)) - ((x1 - z1) * (x1 - z1)))))), .pt (((x1 + z1) * (x1 + z1)) * ((x1 - z1) * (x1 - z1))) ((((x1 + z1) * (x1 + z1)) - ((x1 - z1) * (x1 - z1))) * (((x1 + z1) * (x1 + z1)) + (kF * (((x1 + z1) * (x1 + z1)) - ((x1 - z1) * (x1 - z1)))))), .fe (((x2 + z2) * (x1 - z1)) + ((x2 - z2) * (x1 + z1))), .fe (((x2 + z2) * (x1 - z1)) + ((x2 - z2) * (x1 + z1))), .fe ((((x2 + z2) * (x1 - z1)) + ((x2 - z2) * (x1 + z1))) * (((x2 + z2) * (x1 - z1)) + ((x2 - z2) * (x1 + z1)))), .fe (u), .fe (((x2 + z2) * (x1 - z1)) - ((x2 - z2) * (x1 + z1))), .fe (((x2 + z2) * (x1 - z1)) - ((x2 - z2) * (x1 + z1))), .fe ((((x2 + z2) * (x1 - z1)) - ((x2 - z2) * (x1 + z1))) * (((x2 + z2) * (x1 - z1)) - ((x2 - z2) * (x1 + z1)))), .fe (u * ((((x2 + z2) * (x1 - z1)) - ((x2 - z2) * (x1 + z1))) * (((x2 + z2) * (x1 - z1)) - ((x2 - z2) * (x1 + z1))))), .pt ((((x2 + z2) * (x1 - z1)) + ((x2 - z2) * (x1 + z1))) * (((x2 + z2) * (x1 - z1)) + ((x2 - z2) * (x1 + z1)))) (u * ((((x2 + z2) * (x1 - z1)) - ((x2 - z2) * (x1 + z1))) * (((x2 + z2) * (x1 - z1)) - ((x2 - z2) * (x1 + z1)))))] 20 2 rfl rfl (by kernel_rfl) (by rfl) (by kernel_rfl) (fun x1 hw => ?_) (fun a w7 hg hsz hdf hsp hkn => ?_) (fun a w7 hg hsz hdf hsp hkn => ?_)
  · refine ⟨?_, ?_, ?_, ?_, ?_, ?_, ?_, ?_, ?_, ?_, ?_, ?_, ?_, ?_, ?_, ?_, ?_, ?_, ?_, ?_, trivial⟩
    · intro a x2 hg hsp hd K hK
      replace hg := grown_trans hw hg
      have e1 : a.tmps[8]? = some (.pointer (some ⟨b8, 0, none⟩)) := (hsp 8 (by kernel_rfl)).trans rfl
      obtain ⟨f, hb, hf⟩ := Mb8.out.grown hg
      exact at_row (wanted_free rfl) rfl e1 hb Try.underlying26 rfl (sz26.trans (by simp [U64])) (hK _ _ (grown_refl _ _) ⟨_, rfl, hf⟩ (fun h => Bool.noConfusion (show false = true from h)))
    · intro a x2 hg hsp hd K hK
      replace hg := grown_trans hw hg
      have e1 : a.tmps[9]? = some (.pointer (some ⟨b9, 0, none⟩)) := (hsp 9 (by kernel_rfl)).trans rfl
      obtain ⟨f, hb, hf⟩ := Mb9.out.grown hg
      exact at_row (wanted_free rfl) rfl e1 hb Try.underlying26 rfl (sz26.trans (by simp [U64])) (hK _ _ (grown_refl _ _) ⟨_, rfl, hf⟩ (fun h => Bool.noConfusion (show false = true from h)))
    · intro a x2 hg hsp hd K hK
      replace hg := grown_trans hw hg
      obtain ⟨_, e1, f1, rfl, h1⟩ := hd 0 _ 57 (by kernel_rfl) rfl rfl
      obtain ⟨_, e2, f2, rfl, h2⟩ := hd 1 _ 58 (by kernel_rfl) rfl rfl
      refine at_call (wanted_free rfl) rfl (args2 e1 e2) Try.func22 (by kernel_rfl) rfl ?_
      refine (eMul h1 h2 _).mono ?_
      rintro e w3 ⟨⟨f, rfl, hf⟩, hb⟩
      exact ⟨_, rfl, hK _ _ (grown_own hb) ⟨_, rfl, hf⟩ (fun h => Bool.noConfusion (show false = true from h))⟩
    · intro a x2 hg hsp hd K hK
      replace hg := grown_trans hw hg
      have e1 : a.tmps[12]? = some (.pointer (some ⟨b12, 0, none⟩)) := (hsp 12 (by kernel_rfl)).trans rfl
      obtain ⟨f, hb, hf⟩ := Mb12.out.grown hg
      exact at_row (wanted_free rfl) rfl e1 hb Try.underlying26 rfl (sz26.trans (by simp [U64])) (hK _ _ (grown_refl _ _) ⟨_, rfl, hf⟩ (fun h => Bool.noConfusion (show false = true from h)))
    · intro a x2 hg hsp hd K hK
      replace hg := grown_trans hw hg
      have e1 : a.tmps[8]? = some (.pointer (some ⟨b8, 0, none⟩)) := (hsp 8 (by kernel_rfl)).trans rfl
      obtain ⟨f, hb, hf⟩ := Mb8.out.grown hg
      exact at_row (wanted_free rfl) rfl e1 hb Try.underlying26 rfl (sz26.trans (by simp [U64])) (hK _ _ (grown_refl _ _) ⟨_, rfl, hf⟩ (fun h => Bool.noConfusion (show false = true from h)))
    · intro a x2 hg hsp hd K hK
      replace hg := grown_trans hw hg
      have e1 : a.tmps[15]? = some (.pointer (some ⟨b15, 0, none⟩)) := (hsp 15 (by kernel_rfl)).trans rfl
      obtain ⟨f, hb, hf⟩ := Mb15.out.grown hg
      exact at_row (wanted_free rfl) rfl e1 hb Try.underlying26 rfl (sz26.trans (by simp [U64])) (hK _ _ (grown_refl _ _) ⟨_, rfl, hf⟩ (fun h => Bool.noConfusion (show false = true from h)))
    · intro a x2 hg hsp hd K hK
      replace hg := grown_trans hw hg
      have e1 : a.tmps[12]? = some (.pointer (some ⟨b12, 0, none⟩)) := (hsp 12 (by kernel_rfl)).trans rfl
      obtain ⟨f, hb, hf⟩ := Mb12.out.grown hg
      exact at_row (wanted_free rfl) rfl e1 hb Try.underlying26 rfl (sz26.trans (by simp [U64])) (hK _ _ (grown_refl _ _) ⟨_, rfl, hf⟩ (fun h => Bool.noConfusion (show false = true from h)))
    · intro a x2 hg hsp hd K hK
      replace hg := grown_trans hw hg
      obtain ⟨_, e1, f1, rfl, h1⟩ := hd 5 _ 62 (by kernel_rfl) rfl rfl
      obtain ⟨_, e2, f2, rfl, h2⟩ := hd 6 _ 63 (by kernel_rfl) rfl rfl
      refine at_call (wanted_free rfl) rfl (args2 e1 e2) Try.func22 (by kernel_rfl) rfl ?_
      refine (eMul h1 h2 _).mono ?_
      rintro e w3 ⟨⟨f, rfl, hf⟩, hb⟩
      exact ⟨_, rfl, hK _ _ (grown_own hb) ⟨_, rfl, hf⟩ (fun h => Bool.noConfusion (show false = true from h))⟩
    · intro a x2 hg hsp hd K hK
      replace hg := grown_trans hw hg
      obtain ⟨_, e1, f1, rfl, h1⟩ := hd 4 _ 61 (by kernel_rfl) rfl rfl
      obtain ⟨_, e2, f2, rfl, h2⟩ := hd 7 _ 64 (by kernel_rfl) rfl rfl
      refine at_call (wanted_free rfl) rfl (args2 e1 e2) Try.func18 (by kernel_rfl) rfl ?_
      refine (eAdd h1 h2 _).mono ?_
      rintro e w3 ⟨⟨f, rfl, hf⟩, hb⟩
      exact ⟨_, rfl, hK _ _ (grown_own hb) ⟨_, rfl, hf⟩ (fun h => Bool.noConfusion (show false = true from h))⟩
    · intro a x2 hg hsp hd K hK
      replace hg := grown_trans hw hg
      obtain ⟨_, e1, f1, rfl, h1⟩ := hd 3 _ 60 (by kernel_rfl) rfl rfl
      obtain ⟨_, e2, f2, rfl, h2⟩ := hd 8 _ 65 (by kernel_rfl) rfl rfl
      refine at_call (wanted_free rfl) rfl (args2 e1 e2) Try.func22 (by kernel_rfl) rfl ?_
      refine (eMul h1 h2 _).mono ?_
      rintro e w3 ⟨⟨f, rfl, hf⟩, hb⟩
      exact ⟨_, rfl, hK _ _ (grown_own hb) ⟨_, rfl, hf⟩ (fun h => Bool.noConfusion (show false = true from h))⟩
    · intro a x2 hg hsp hd K hK
      replace hg := grown_trans hw hg
      obtain ⟨_, e1, f1, rfl, h1⟩ := hd 2 _ 59 (by kernel_rfl) rfl rfl
      obtain ⟨_, e2, f2, rfl, h2⟩ := hd 9 _ 66 (by kernel_rfl) rfl rfl
      exact at_value (wanted_free rfl) (run_op_build rfl (eval_tmp e1) (eval_tmp e2) (build66 _ _ _)) (hK _ _ (grown_refl _ _) ⟨_, _, rfl, h1, h2⟩ (fun h => Bool.noConfusion (show false = true from h)))
    · intro a x2 hg hsp hd K hK
      replace hg := grown_trans hw hg
      have e1 : a.tmps[13]? = some (.pointer (some ⟨b13, 0, none⟩)) := (hsp 13 (by kernel_rfl)).trans rfl
      obtain ⟨f, hb, hf⟩ := Mb13.out.grown hg
      exact at_row (wanted_free rfl) rfl e1 hb Try.underlying26 rfl (sz26.trans (by simp [U64])) (hK _ _ (grown_refl _ _) ⟨_, rfl, hf⟩ (fun h => Bool.noConfusion (show false = true from h)))
    · intro a x2 hg hsp hd K hK
      replace hg := grown_trans hw hg
      have e1 : a.tmps[13]? = some (.pointer (some ⟨b13, 0, none⟩)) := (hsp 13 (by kernel_rfl)).trans rfl
      obtain ⟨f, hb, hf⟩ := Mb13.out.grown hg
      exact at_row (wanted_free rfl) rfl e1 hb Try.underlying26 rfl (sz26.trans (by simp [U64])) (hK _ _ (grown_refl _ _) ⟨_, rfl, hf⟩ (fun h => Bool.noConfusion (show false = true from h)))
    · intro a x2 hg hsp hd K hK
      replace hg := grown_trans hw hg
      obtain ⟨_, e1, f1, rfl, h1⟩ := hd 11 _ 68 (by kernel_rfl) rfl rfl
      obtain ⟨_, e2, f2, rfl, h2⟩ := hd 12 _ 69 (by kernel_rfl) rfl rfl
      refine at_call (wanted_free rfl) rfl (args2 e1 e2) Try.func22 (by kernel_rfl) rfl ?_
      refine (eMul h1 h2 _).mono ?_
      rintro e w3 ⟨⟨f, rfl, hf⟩, hb⟩
      exact ⟨_, rfl, hK _ _ (grown_own hb) ⟨_, rfl, hf⟩ (fun h => Bool.noConfusion (show false = true from h))⟩
    · intro a x2 hg hsp hd K hK
      replace hg := grown_trans hw hg
      have e1 : a.tmps[5]? = some (.pointer (some ⟨b5, 0, none⟩)) := (hsp 5 (by kernel_rfl)).trans rfl
      obtain ⟨f, hb, hf⟩ := Mb5.out.grown hg
      exact at_row (wanted_free rfl) rfl e1 hb Try.underlying26 rfl (sz26.trans (by simp [U64])) (hK _ _ (grown_refl _ _) ⟨_, rfl, hf⟩ (fun h => Bool.noConfusion (show false = true from h)))
    · intro a x2 hg hsp hd K hK
      replace hg := grown_trans hw hg
      have e1 : a.tmps[14]? = some (.pointer (some ⟨b14, 0, none⟩)) := (hsp 14 (by kernel_rfl)).trans rfl
      obtain ⟨f, hb, hf⟩ := Mb14.out.grown hg
      exact at_row (wanted_free rfl) rfl e1 hb Try.underlying26 rfl (sz26.trans (by simp [U64])) (hK _ _ (grown_refl _ _) ⟨_, rfl, hf⟩ (fun h => Bool.noConfusion (show false = true from h)))
    · intro a x2 hg hsp hd K hK
      replace hg := grown_trans hw hg
      have e1 : a.tmps[14]? = some (.pointer (some ⟨b14, 0, none⟩)) := (hsp 14 (by kernel_rfl)).trans rfl
      obtain ⟨f, hb, hf⟩ := Mb14.out.grown hg
      exact at_row (wanted_free rfl) rfl e1 hb Try.underlying26 rfl (sz26.trans (by simp [U64])) (hK _ _ (grown_refl _ _) ⟨_, rfl, hf⟩ (fun h => Bool.noConfusion (show false = true from h)))
    · intro a x2 hg hsp hd K hK
      replace hg := grown_trans hw hg
      obtain ⟨_, e1, f1, rfl, h1⟩ := hd 15 _ 72 (by kernel_rfl) rfl rfl
      obtain ⟨_, e2, f2, rfl, h2⟩ := hd 16 _ 73 (by kernel_rfl) rfl rfl
      refine at_call (wanted_free rfl) rfl (args2 e1 e2) Try.func22 (by kernel_rfl) rfl ?_
      refine (eMul h1 h2 _).mono ?_
      rintro e w3 ⟨⟨f, rfl, hf⟩, hb⟩
      exact ⟨_, rfl, hK _ _ (grown_own hb) ⟨_, rfl, hf⟩ (fun h => Bool.noConfusion (show false = true from h))⟩
    · intro a x2 hg hsp hd K hK
      replace hg := grown_trans hw hg
      obtain ⟨_, e1, f1, rfl, h1⟩ := hd 14 _ 71 (by kernel_rfl) rfl rfl
      obtain ⟨_, e2, f2, rfl, h2⟩ := hd 17 _ 74 (by kernel_rfl) rfl rfl
      refine at_call (wanted_free rfl) rfl (args2 e1 e2) Try.func22 (by kernel_rfl) rfl ?_
      refine (eMul h1 h2 _).mono ?_
      rintro e w3 ⟨⟨f, rfl, hf⟩, hb⟩
      exact ⟨_, rfl, hK _ _ (grown_own hb) ⟨_, rfl, hf⟩ (fun h => Bool.noConfusion (show false = true from h))⟩
    · intro a x2 hg hsp hd K hK
      replace hg := grown_trans hw hg
      obtain ⟨_, e1, f1, rfl, h1⟩ := hd 13 _ 70 (by kernel_rfl) rfl rfl
      obtain ⟨_, e2, f2, rfl, h2⟩ := hd 18 _ 75 (by kernel_rfl) rfl rfl
      exact at_value (wanted_free rfl) (run_op_build rfl (eval_tmp e1) (eval_tmp e2) (build66 _ _ _)) (hK _ _ (grown_refl _ _) ⟨_, _, rfl, h1, h2⟩ (fun h => Bool.noConfusion (show false = true from h)))
  · obtain ⟨_, e67, F67, G67, rfl, k67⟩ := hkn 10 _ _ 67 (by decide) rfl rfl rfl
    obtain ⟨_, e76, F76, G76, rfl, k76⟩ := hkn 19 _ _ 76 (by decide) rfl rfl rfl
    have T6 : Hid (w7.heap[b6]? = some (.cells (P10 (fun _ => 0) fun _ => 0) 66 (0, 0))) := Lib.hid ((hg.block b6 S6.out (by simp)).trans M6.out)
    have e6 : a.tmps[6]? = some (.pointer (some ⟨b6, 0, none⟩)) := (hsp 6 (by kernel_rfl)).trans rfl
    have e7 : a.tmps[7]? = some (.pointer (some ⟨b7, 0, none⟩)) := (hsp 7 (by kernel_rfl)).trans rfl
    have T7 : Hid ((World.setRow w7 b6 (P10 F67 G67)).heap[b7]? = some (.cells (P10 (fun _ => 0) fun _ => 0) 66 (0, 0))) := Lib.hid (by rw [setRow_other _ _ _ _ (Ne.symm N67.out)]; exact (hg.block b7 S7.out (by simp)).trans M7.out)
    have U6 : Hid ((World.setRow (World.setRow w7 b6 (P10 F67 G67)) b7 (P10 F76 G76)).heap[b6]? = some (.cells (P10 F67 G67) 66 (0, 0))) := Lib.hid (by rw [setRow_other _ _ _ _ N67.out]; exact setRow_heap _ _ _ _ _ _ T6.out)
    have U7 : Hid ((World.setRow (World.setRow w7 b6 (P10 F67 G67)) b7 (P10 F76 G76)).heap[b7]? = some (.cells (P10 F76 G76) 66 (0, 0))) := Lib.hid (setRow_heap _ _ _ _ _ _ T7.out)
    have UB : Hid (Below w.heap.size w (World.setRow (World.setRow w7 b6 (P10 F67 G67)) b7 (P10 F76 G76))) := Lib.hid (below_setRow (below_setRow (HB.out.grown hg HB.out.size (fun j hj => by cases hj)) L6.out _) L7.out _)
    have HQ : Hid (Four4 (Ed.lstep kF u false (x1, z1, x2, z2)) F67 G67 F76 G76) := Lib.hid (by rw [step_code]; exact ⟨k67.1, k67.2, k76.1, k76.2⟩)
    clear hsp hkn
    refine two_tail (n := 20) (w1 := World.setRow w7 b6 (P10 F67 G67)) (w2 := World.setRow (World.setRow w7 b6 (P10 F67 G67)) b7 (P10 F76 G76)) rfl rfl (by kernel_rfl) (by kernel_rfl) (by kernel_rfl) (fun K hK => ?_) (fun K hK => ?_) ?_
    · exact at_store_row (wanted_free rfl) rfl rfl e6 e67 T6.out (sz66.trans (by simp [P10_size])) (by simp [P10_size]) (P10_one _ _) hK
    · exact at_store_row (wanted_free rfl) rfl rfl e7 e76 T7.out (sz66.trans (by simp [P10_size])) (by simp [P10_size]) (P10_one _ _) hK
    have p6 : a.tmps.getD 6 undef = .pointer (some ⟨b6, 0, none⟩) := by simp [e6]
    have p7 : a.tmps.getD 7 undef = .pointer (some ⟨b7, 0, none⟩) := by simp [e7]
    generalize World.setRow (World.setRow w7 b6 (P10 F67 G67)) b7 (P10 F76 G76) = w9 at U6 U7 UB ⊢
    go_wp2_with fail
    refine bodyPost_ret (results_two_rows rfl _ _ b6 b7 66 _ _ _ _ _ p6 p7 U6.out U7.out Try.underlying66 rfl (sz66.trans (by simp [P10_size])) (sz66.trans (by simp [P10_size]))) hdf ⟨⟨F67, G67, F76, G76, rfl, HQ.out⟩, UB.out⟩
  · obtain ⟨_, e67, F67, G67, rfl, k67⟩ := hkn 10 _ _ 67 (by decide) rfl rfl rfl
    obtain ⟨_, e70, F76, rfl, k70⟩ := hkn 13 _ _ 70 (by decide) rfl rfl rfl
    obtain ⟨_, e75, G76, rfl, k75⟩ := hkn 18 _ _ 75 (by decide) rfl rfl rfl
    have k76 := And.intro k70 k75
    have T6 : Hid (w7.heap[b6]? = some (.cells (P10 (fun _ => 0) fun _ => 0) 66 (0, 0))) := Lib.hid ((hg.block b6 S6.out (by simp)).trans M6.out)
    have e6 : a.tmps[6]? = some (.pointer (some ⟨b6, 0, none⟩)) := (hsp 6 (by kernel_rfl)).trans rfl
    have e7 : a.tmps[7]? = some (.pointer (some ⟨b7, 0, none⟩)) := (hsp 7 (by kernel_rfl)).trans rfl
    have T7 : Hid ((World.setRow w7 b6 (P10 F67 G67)).heap[b7]? = some (.cells (P10 (fun _ => 0) fun _ => 0) 66 (0, 0))) := Lib.hid (by rw [setRow_other _ _ _ _ (Ne.symm N67.out)]; exact (hg.block b7 S7.out (by simp)).trans M7.out)
    have U6 : Hid ((World.setRow (World.setRow w7 b6 (P10 F67 G67)) b7 (P10 F76 G76)).heap[b6]? = some (.cells (P10 F67 G67) 66 (0, 0))) := Lib.hid (by rw [setRow_other _ _ _ _ N67.out]; exact setRow_heap _ _ _ _ _ _ T6.out)
    have U7 : Hid ((World.setRow (World.setRow w7 b6 (P10 F67 G67)) b7 (P10 F76 G76)).heap[b7]? = some (.cells (P10 F76 G76) 66 (0, 0))) := Lib.hid (setRow_heap _ _ _ _ _ _ T7.out)
    have UB : Hid (Below w.heap.size w (World.setRow (World.setRow w7 b6 (P10 F67 G67)) b7 (P10 F76 G76))) := Lib.hid (below_setRow (below_setRow (HB.out.grown hg HB.out.size (fun j hj => by cases hj)) L6.out _) L7.out _)
    have HQ : Hid (Four4 (Ed.lstep kF u false (x1, z1, x2, z2)) F67 G67 F76 G76) := Lib.hid (by rw [step_code]; exact ⟨k67.1, k67.2, k76.1, k76.2⟩)
    clear hsp hkn
    refine late_tail (n := 19) (v := .agg (P10 F76 G76)) (w1 := World.setRow w7 b6 (P10 F67 G67)) (w2 := World.setRow (World.setRow w7 b6 (P10 F67 G67)) b7 (P10 F76 G76)) rfl rfl rfl (by kernel_rfl) (by kernel_rfl) (by kernel_rfl) (by kernel_rfl) (by kernel_rfl) (by kernel_rfl) (by kernel_rfl) (fun x K hK => ?_) (fun a' ha' K hK => ?_) (fun K hK => ?_) ?_
    · exact at_value (wanted_free rfl) (run_op_build rfl (eval_tmp e70) (eval_tmp e75) (build66 _ _ _)) hK
    · rcases ha' with rfl | rfl
      · exact at_store_row (wanted_free rfl) rfl rfl e6 e67 T6.out (sz66.trans (by simp [P10_size])) (by simp [P10_size]) (P10_one _ _) hK
      · exact at_store_row (wanted_free rfl) rfl rfl ((put_other _ _ _ _ (by simp)).trans e6) ((put_other _ _ _ _ (by simp)).trans e67) T6.out (sz66.trans (by simp [P10_size])) (by simp [P10_size]) (P10_one _ _) hK
    · exact at_store_row (wanted_free rfl) rfl rfl ((put_other _ _ _ _ (by simp)).trans e7) (put_same _ 76 _ (by omega)) T7.out (sz66.trans (by simp [P10_size])) (by simp [P10_size]) (P10_one _ _) hK
    have p6 : (a.put (some 76) (.agg (P10 F76 G76))).tmps.getD 6 undef = .pointer (some ⟨b6, 0, none⟩) := by
      have := (put_other a (some 76) (.agg (P10 F76 G76)) 6 (by simp)).trans e6
      simp [this]
    have p7 : (a.put (some 76) (.agg (P10 F76 G76))).tmps.getD 7 undef = .pointer (some ⟨b7, 0, none⟩) := by
      have := (put_other a (some 76) (.agg (P10 F76 G76)) 7 (by simp)).trans e7
      simp [this]
    generalize World.setRow (World.setRow w7 b6 (P10 F67 G67)) b7 (P10 F76 G76) = w9 at U6 U7 UB ⊢
    go_wp2_with fail
    refine bodyPost_ret (results_two_rows rfl _ _ b6 b7 66 _ _ _ _ _ p6 p7 U6.out U7.out Try.underlying66 rfl (sz66.trans (by simp [P10_size])) (sz66.trans (by simp [P10_size]))) (by first | exact rfl | exact hdf) ⟨⟨F67, G67, F76, G76, rfl, HQ.out⟩, UB.out⟩

end Go.Proofs.Ytikmghmapmlebaa
