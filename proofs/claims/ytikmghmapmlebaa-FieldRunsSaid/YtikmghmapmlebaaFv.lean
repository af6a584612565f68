/-
  FieldRuns walked: of all bytes and rows of steps the call returns true; condition: the row lies in memory.
-/
import Derived.Test.YtikmghmapmlebaaFu
namespace Go.Proofs.Ytikmghmapmlebaa
open Go.RowKit Go.Rh F255
attribute [local go_sem] box22

/-- Between two rounds. -/
def RRel (W : World) (b5 n : Nat) (s i : Value) (wr : World) : Prop := ∃ (k : Nat) (x : Fin p), k ≤ n ∧ k ≤ 30 ∧ i = .int .i64 k ∧ s = .string (le32 x.val) ∧ FeAt wr b5 x ∧ Below W.heap.size W wr

set_option maxRecDepth 100000 in
set_option maxHeartbeats 1000000 in
theorem runs_any (ga : Nat → Nat) (hga : ∀ j, j < 32 → ga j < 256) (A : Option Addr) (n c : Nat) (wh : Nat → Int) (wi : Nat → Nat → Nat) (hwi : ∀ i, i < n → ∀ j, j < 32 → wi i j < 256) (W : World) (hO : OpsAt W A n wh wi) :
    Calls Try.prog 8 #[.agg (U8 ga), .slice A n c] W fun e w' => e = .returned (.bool true) ∧ Below W.heap.size W w' := by
  have hga := Lib.hid hga
  have HWi := Lib.hid hwi
  have HO0 := Lib.hid hO
  clear hwi hO
  have L2 : Hid ((W.alloc (.cells (U8 ga) 22)).heap[W.heap.size]? = some (.cells (U8 ga) 22 (0, 0))) := Lib.hid (heap_new' _ _ _ rfl)
  have LB : Hid (Below W.heap.size W (W.alloc (.cells (U8 ga) 22))) := Lib.hid (by go_grown)
  go_enter Try.func8, Try.ntmps8
  go_wp2_with fail
  refine (wraps_any _).mono ?_
  rintro e w2 ⟨rfl, hb⟩
  replace L2 := Lib.hid ((hb.block _ (heap_lt L2.out)).trans L2.out)
  replace LB := Lib.hid (LB.out.trans (hb.mono LB.out.size))
  clear hb
  go_wp2_with fail
  refine region_kk_tail _ 127 [.eq (.agg (U8 ga)), .fe (xF ga), .eq (.slice (some ⟨W.heap.size, 0, none⟩) 32 32), .eq (.string (bstr ga 32)), .eq (.string (le32 ((xF ga).val))), .new w2.heap.size (.cells Z5 26)] 6 2 rfl rfl (by kernel_rfl) (by rfl) (by kernel_rfl) (fun x1 hw => ?_) (fun vs v hg hv => ?_)
  · refine ⟨?_, ?_, ?_, ?_, ?_, ?_, trivial⟩
    · intro a x2 hg hsp hd K hK
      replace hg := grown_trans hw hg
      have e1 : a.tmps[2]? = some (.pointer (some ⟨W.heap.size, 0, none⟩)) := (hsp 2 (by kernel_rfl)).trans rfl
      exact at_row (wanted_free rfl) rfl e1 ((hg.block _ (heap_lt L2.out) (by simp)).trans L2.out) Try.underlying22 rfl (sz22.trans (by simp [U8])) (hK _ _ (grown_refl _ _) rfl (fun h => Bool.noConfusion (show false = true from h)))
    · intro a x2 hg hsp hd K hK
      replace hg := grown_trans hw hg
      obtain ⟨_, e1, h1⟩ := hd 0 _ 16 (by kernel_rfl) rfl rfl
      have h1 : _ = _ := h1
      subst h1
      refine at_call (wanted_free rfl) rfl (args1 e1) Try.func14 (by kernel_rfl) rfl ?_
      refine (eOf _ hga.out _).mono ?_
      rintro e w1 ⟨⟨f, rfl, hf⟩, hb⟩
      exact ⟨_, rfl, hK _ _ (grown_own hb) ⟨_, rfl, hf⟩ (fun h => Bool.noConfusion (show false = true from h))⟩
    · intro a x2 hg hsp hd K hK
      replace hg := grown_trans hw hg
      have e1 : a.tmps[2]? = some (.pointer (some ⟨W.heap.size, 0, none⟩)) := (hsp 2 (by kernel_rfl)).trans rfl
      exact at_value (wanted_free rfl) (run_op_slice rfl (eval_tmp e1) (slice22 _ _ _ ((hg.block _ (heap_lt L2.out) (by simp)).trans L2.out))) (hK _ _ (grown_refl _ _) rfl (fun h => Bool.noConfusion (show false = true from h)))
    · intro a x2 hg hsp hd K hK
      replace hg := grown_trans hw hg
      obtain ⟨_, e1, h1⟩ := hd 2 _ 18 (by kernel_rfl) rfl rfl
      have h1 : _ = _ := h1
      subst h1
      exact at_value (wanted_free rfl) (run_op_convert rfl (eval_tmp e1) (conv22 ((hg.block _ (heap_lt L2.out) (by simp)).trans L2.out))) (hK _ _ (grown_refl _ _) rfl (fun h => Bool.noConfusion (show false = true from h)))
    · intro a x2 hg hsp hd K hK
      replace hg := grown_trans hw hg
      obtain ⟨_, e1, h1⟩ := hd 3 _ 19 (by kernel_rfl) rfl rfl
      have h1 : _ = _ := h1
      subst h1
      refine at_call (wanted_free rfl) rfl (args1 e1) Try.func15 (by kernel_rfl) rfl ?_
      refine (eROf _ hga.out _).mono ?_
      rintro e w1 ⟨rfl, hb⟩
      exact ⟨_, rfl, hK _ _ (grown_own hb) rfl (fun h => Bool.noConfusion (show false = true from h))⟩
    · intro a x2 hg hsp hd K hK
      replace hg := grown_trans hw hg
      exact at_value (wanted_free rfl) (run_alloc rfl alloc26) (hK _ _ (grown_new (grown_refl _ _) _) ⟨_, rfl, heap_new' _ _ _ rfl, hg.size⟩ (fun _ b hb => by cases hb; exact Nat.le_refl _))
  have v0 : vs 0 = _ := hv 0 _ rfl
  obtain ⟨F17, v1, k17⟩ := hv 1 _ rfl
  have v2 : vs 2 = _ := hv 2 _ rfl
  have v3 : vs 3 = _ := hv 3 _ rfl
  have v4 : vs 4 = _ := hv 4 _ rfl
  obtain ⟨b5, v5, m5, z5⟩ := hv 5 _ rfl
  simp [seqA, Act.put, v0, v1, v2, v3, v4, v5]
  refine wpAny_one (i := 6) (by kernel_rfl) rfl (at_store_row (cells := U64 F17) (wanted_free rfl) rfl rfl (b := b5) rfl rfl m5 (sz26.trans (by simp [U64])) (by first | (simp [U64]; done) | (simp [U64]; rfl)) (vals_one _ _ _) ?_)
  refine wpAny_one (i := 7) (by kernel_rfl) rfl (at_value (v := .string (le32 (xF ga).val)) (wanted_free rfl) (run_move (Or.inr rfl) rfl) ?_)
  refine ⟨by kernel_rfl, ?_⟩
  have M5 : Hid (FeAt (v.setRow b5 (U64 F17)) b5 (xF ga)) := Lib.hid ⟨F17, setRow_heap _ _ _ _ _ _ m5, k17⟩
  have L5 : Hid (W.heap.size ≤ b5) := Lib.hid (Nat.le_trans LB.out.size z5)
  replace LB := Lib.hid (below_setRow (LB.out.grown hg LB.out.size (fun j hj => by cases hj)) L5.out (U64 F17))
  generalize World.setRow v b5 _ = w3 at M5 LB ⊢
  clear hv hg m5 z5 k17 v0 v1 v2 v3 v4 v5 L2
  go_wp2_with fail
  go_loopw [6, 7] (fun s i wr => RRel W b5 n s i wr) (fun _ i _ => 31 - (intOf i).toNat)
  case atStart => exact ⟨0, _, by omega, by omega, rfl, rfl, M5.out, LB.out⟩
  case round =>
    clear M5 LB
    obtain ⟨k, x, hkn', hk30, rfl, rfl, m5, lb⟩ := hrel
    have M5 := Lib.hid m5
    have LB := Lib.hid lb
    clear m5 lb
    by_cases hkn : k < n
    · have hl1 : decide ((k : Int) < (n : Int)) = true := by simp; omega
      by_cases hk3 : k < 30
      · have hl2 : decide ((k : Int) < 30) = true := by simp; omega
        obtain ⟨b, off, rfl, ho⟩ := HO0.out (by omega)
        have HO : Hid (OpsB wr b off n wh wi) := Lib.hid (ho.grown (grown_own LB.out))
        clear ho
        go_wp2_with fail
        refine region_kk_tail _ 127 [.eq (.slice (some ⟨b, off, none⟩) n c), .eq (.int .i64 ((k : Int))), .eq (.pointer (some ⟨b, off + k * 33, none⟩)), .eq (.pointer (some ⟨b, off + k * 33 + 1, none⟩)), .eq (.agg (U8 ((wi k)))), .fe (xF ((wi k))), .eq (.slice (some ⟨b, off, none⟩) n c), .eq (.int .i64 ((k : Int))), .eq (.pointer (some ⟨b, off + k * 33, none⟩)), .eq (.pointer (some ⟨b, off + k * 33 + 1, none⟩)), .eq (.slice (some ⟨b, off + k * 33 + 1, none⟩) 32 32), .eq (.string (bstr ((wi k)) 32)), .eq (.string (le32 ((xF ((wi k))).val))), .new wr.heap.size (.cells Z5 26)] 14 2 rfl rfl (by kernel_rfl) (by rfl) (by kernel_rfl) (fun x1 hw => ?_) (fun vs v hg hv => ?_)
        · refine ⟨?_, ?_, ?_, ?_, ?_, ?_, ?_, ?_, ?_, ?_, ?_, ?_, ?_, ?_, trivial⟩
          · intro a x2 hg hsp hd K hK
            replace hg := grown_trans hw hg
            have e1 : a.tmps[1]? = some (.slice (some ⟨b, off, none⟩) n c) := (hsp 1 (by kernel_rfl)).trans rfl
            exact at_value (wanted_free rfl) (run_move (Or.inl rfl) (eval_tmp e1)) (hK _ _ (grown_refl _ _) rfl (fun h => Bool.noConfusion (show false = true from h)))
          · intro a x2 hg hsp hd K hK
            replace hg := grown_trans hw hg
            have e1 : a.tmps[7]? = some (.int .i64 ((k : Int))) := (hsp 7 (by kernel_rfl)).trans rfl
            exact at_value (wanted_free rfl) (run_move (Or.inl rfl) (eval_tmp e1)) (hK _ _ (grown_refl _ _) rfl (fun h => Bool.noConfusion (show false = true from h)))
          · intro a x2 hg hsp hd K hK
            replace hg := grown_trans hw hg
            obtain ⟨_, e1, h1⟩ := hd 0 _ 31 (by kernel_rfl) rfl rfl
            have h1 : _ = _ := h1
            subst h1
            obtain ⟨_, e2, h2⟩ := hd 1 _ 32 (by kernel_rfl) rfl rfl
            have h2 : _ = _ := h2
            subst h2
            exact at_value (wanted_free rfl) (run_op_indexAt rfl (eval_tmp e1) (eval_tmp e2) (idx42 hkn)) (hK _ _ (grown_refl _ _) rfl (fun h => Bool.noConfusion (show false = true from h)))
          · intro a x2 hg hsp hd K hK
            replace hg := grown_trans hw hg
            obtain ⟨_, e1, h1⟩ := hd 2 _ 33 (by kernel_rfl) rfl rfl
            have h1 : _ = _ := h1
            subst h1
            exact at_value (wanted_free rfl) (run_op_field44 rfl (eval_tmp e1) fld44) (hK _ _ (grown_refl _ _) rfl (fun h => Bool.noConfusion (show false = true from h)))
          · intro a x2 hg hsp hd K hK
            replace hg := grown_trans hw hg
            obtain ⟨_, e1, h1⟩ := hd 3 _ 34 (by kernel_rfl) rfl rfl
            have h1 : _ = _ := h1
            subst h1
            have hc := (HO.out.grown hg).2 k hkn
            exact at_mid (wanted_free rfl) rfl e1 (range_bytes hc.2) Try.underlying22 rfl (sz22.trans (by simp [U8])) (hK _ _ (grown_refl _ _) rfl (fun h => Bool.noConfusion (show false = true from h)))
          · intro a x2 hg hsp hd K hK
            replace hg := grown_trans hw hg
            obtain ⟨_, e1, h1⟩ := hd 4 _ 35 (by kernel_rfl) rfl rfl
            have h1 : _ = _ := h1
            subst h1
            refine at_call (wanted_free rfl) rfl (args1 e1) Try.func14 (by kernel_rfl) rfl ?_
            refine (eOf _ (HWi.out k hkn) _).mono ?_
            rintro e w1 ⟨⟨f, rfl, hf⟩, hb⟩
            exact ⟨_, rfl, hK _ _ (grown_own hb) ⟨_, rfl, hf⟩ (fun h => Bool.noConfusion (show false = true from h))⟩
          · intro a x2 hg hsp hd K hK
            replace hg := grown_trans hw hg
            have e1 : a.tmps[1]? = some (.slice (some ⟨b, off, none⟩) n c) := (hsp 1 (by kernel_rfl)).trans rfl
            exact at_value (wanted_free rfl) (run_move (Or.inl rfl) (eval_tmp e1)) (hK _ _ (grown_refl _ _) rfl (fun h => Bool.noConfusion (show false = true from h)))
          · intro a x2 hg hsp hd K hK
            replace hg := grown_trans hw hg
            have e1 : a.tmps[7]? = some (.int .i64 ((k : Int))) := (hsp 7 (by kernel_rfl)).trans rfl
            exact at_value (wanted_free rfl) (run_move (Or.inl rfl) (eval_tmp e1)) (hK _ _ (grown_refl _ _) rfl (fun h => Bool.noConfusion (show false = true from h)))
          · intro a x2 hg hsp hd K hK
            replace hg := grown_trans hw hg
            obtain ⟨_, e1, h1⟩ := hd 6 _ 37 (by kernel_rfl) rfl rfl
            have h1 : _ = _ := h1
            subst h1
            obtain ⟨_, e2, h2⟩ := hd 7 _ 38 (by kernel_rfl) rfl rfl
            have h2 : _ = _ := h2
            subst h2
            exact at_value (wanted_free rfl) (run_op_indexAt rfl (eval_tmp e1) (eval_tmp e2) (idx42 hkn)) (hK _ _ (grown_refl _ _) rfl (fun h => Bool.noConfusion (show false = true from h)))
          · intro a x2 hg hsp hd K hK
            replace hg := grown_trans hw hg
            obtain ⟨_, e1, h1⟩ := hd 8 _ 39 (by kernel_rfl) rfl rfl
            have h1 : _ = _ := h1
            subst h1
            exact at_value (wanted_free rfl) (run_op_field44 rfl (eval_tmp e1) fld44) (hK _ _ (grown_refl _ _) rfl (fun h => Bool.noConfusion (show false = true from h)))
          · intro a x2 hg hsp hd K hK
            replace hg := grown_trans hw hg
            obtain ⟨_, e1, h1⟩ := hd 9 _ 40 (by kernel_rfl) rfl rfl
            have h1 : _ = _ := h1
            subst h1
            have hc := (HO.out.grown hg).2 k hkn
            exact at_value (wanted_free rfl) (run_op_slice rfl (eval_tmp e1) (sl22 (by have := hc.2 0 (by omega); rw [Nat.add_zero] at this; rw [this]; rfl))) (hK _ _ (grown_refl _ _) rfl (fun h => Bool.noConfusion (show false = true from h)))
          · intro a x2 hg hsp hd K hK
            replace hg := grown_trans hw hg
            obtain ⟨_, e1, h1⟩ := hd 10 _ 41 (by kernel_rfl) rfl rfl
            have h1 : _ = _ := h1
            subst h1
            have hc := (HO.out.grown hg).2 k hkn
            exact at_value (wanted_free rfl) (run_op_convert rfl (eval_tmp e1) (run_string_few (few_bytes (HO.out.grown hg).1 hc.2))) (hK _ _ (grown_refl _ _) rfl (fun h => Bool.noConfusion (show false = true from h)))
          · intro a x2 hg hsp hd K hK
            replace hg := grown_trans hw hg
            obtain ⟨_, e1, h1⟩ := hd 11 _ 42 (by kernel_rfl) rfl rfl
            have h1 : _ = _ := h1
            subst h1
            refine at_call (wanted_free rfl) rfl (args1 e1) Try.func15 (by kernel_rfl) rfl ?_
            refine (eROf _ (HWi.out k hkn) _).mono ?_
            rintro e w1 ⟨rfl, hb⟩
            exact ⟨_, rfl, hK _ _ (grown_own hb) rfl (fun h => Bool.noConfusion (show false = true from h))⟩
          · intro a x2 hg hsp hd K hK
            replace hg := grown_trans hw hg
            exact at_value (wanted_free rfl) (run_alloc rfl alloc26) (hK _ _ (grown_new (grown_refl _ _) _) ⟨_, rfl, heap_new' _ _ _ rfl, hg.size⟩ (fun _ b hb => by cases hb; exact Nat.le_refl _))
        have v0 : vs 0 = _ := hv 0 _ rfl
        have v1 : vs 1 = _ := hv 1 _ rfl
        have v2 : vs 2 = _ := hv 2 _ rfl
        have v3 : vs 3 = _ := hv 3 _ rfl
        have v4 : vs 4 = _ := hv 4 _ rfl
        obtain ⟨F36, v5, k36⟩ := hv 5 _ rfl
        have v6 : vs 6 = _ := hv 6 _ rfl
        have v7 : vs 7 = _ := hv 7 _ rfl
        have v8 : vs 8 = _ := hv 8 _ rfl
        have v9 : vs 9 = _ := hv 9 _ rfl
        have v10 : vs 10 = _ := hv 10 _ rfl
        have v11 : vs 11 = _ := hv 11 _ rfl
        have v12 : vs 12 = _ := hv 12 _ rfl
        obtain ⟨b8, v13, m8, z8⟩ := hv 13 _ rfl
        simp [seqA, Act.put, v0, v1, v2, v3, v4, v5, v6, v7, v8, v9, v10, v11, v12, v13]
        refine wpAny_one (i := 14) (by kernel_rfl) rfl (at_store_row (cells := U64 F36) (wanted_free rfl) rfl rfl (b := b8) rfl rfl m8 (sz26.trans (by simp [U64])) (by first | (simp [U64]; done) | (simp [U64]; rfl)) (vals_one _ _ _) ?_)
        refine wpAny_one (i := 15) (by kernel_rfl) rfl (at_value (v := .string (le32 (xF (wi k)).val)) (wanted_free rfl) (run_move (Or.inr rfl) rfl) ?_)
        refine ⟨by kernel_rfl, ?_⟩
        obtain ⟨y, hy⟩ : ∃ y, xF (wi k) = y := ⟨_, rfl⟩
        rw [hy] at k36 ⊢
        have n58 : Hid (b5 ≠ b8) := Lib.hid (Nat.ne_of_lt (Nat.lt_of_lt_of_le M5.out.lt z8))
        have nb : b ≠ b8 := Nat.ne_of_lt (Nat.lt_of_lt_of_le HO.out.1 z8)
        have M8 : Hid (FeAt (v.setRow b8 (U64 F36)) b8 y) := Lib.hid ⟨F36, setRow_heap _ _ _ _ _ _ m8, k36⟩
        replace M5 := Lib.hid (fe_set (w2 := v.setRow b8 (U64 F36)) rfl (M5.out.grown hg) n58.out)
        have c48 : (v.setRow b8 (U64 F36)).cell? ⟨b, off + k * 33, none⟩ = some (.int .i64 (wh k)) := (World.cell?_of_block (setRow_other _ _ _ _ nb)).trans ((HO.out.grown hg).2 k hkn).1
        replace LB := Lib.hid (below_setRow (LB.out.grown hg LB.out.size (fun j hj => by cases hj)) (Nat.le_trans LB.out.size z8) (U64 F36))
        generalize World.setRow v b8 _ = w4 at M5 M8 LB c48 ⊢
        obtain ⟨V, hV⟩ : ∃ V, wh k = V := ⟨_, rfl⟩
        rw [hV] at c48
        clear hv hg hV hy m8 z8 k36 nb HO HO0 HWi v0 v1 v2 v3 v4 v5 v6 v7 v8 v9 v10 v11 v12 v13
        by_cases h0 : V = 0
        · subst h0
          obtain ⟨g5, hg5, kg5⟩ := M5.out
          have R5 := Lib.hid hg5
          have K5 := Lib.hid kg5
          clear hg5 kg5
          obtain ⟨g8, hg8, kg8⟩ := M8.out
          have R8 := Lib.hid hg8
          have K8 := Lib.hid kg8
          clear hg8 kg8
          go_wp2_with (first | (refine wpList_load_row rfl 26 (.tmp 5) rfl b5 rfl 26 (U64 g5) (0, 0) _ R5.out Try.underlying26 rfl (sz26.trans (by simp [U64])) ?_) | (refine wpList_load_row rfl 26 (.tmp 8) rfl b8 rfl 26 (U64 g8) (0, 0) _ R8.out Try.underlying26 rfl (sz26.trans (by simp [U64])) ?_) | fail)
          refine (eAdd K5.out K8.out _).mono ?_
          rintro e w5 ⟨⟨f, rfl, hf⟩, hb⟩
          have HF := Lib.hid hf
          replace M5 := Lib.hid (M5.out.grown (grown_own hb))
          replace LB := Lib.hid (LB.out.trans (hb.mono LB.out.size))
          clear hb hf R5 R8 K5 K8
          go_wp2_with fail
          refine (rAdd x y _).mono ?_
          rintro e w6 ⟨rfl, hb⟩
          replace M5 := Lib.hid (M5.out.grown (grown_own hb))
          replace LB := Lib.hid (LB.out.trans (hb.mono LB.out.size))
          clear hb
          obtain ⟨w7, hw⟩ : ∃ zz, zz = World.setRow w6 b5 (U64 f) := ⟨_, rfl⟩
          obtain ⟨g0, t0, _⟩ := M5.out
          have T1 := Lib.hid t0
          replace M5 : Hid (FeAt w7 b5 (x + y)) := Lib.hid (fe_put hw M5.out HF.out)
          replace LB : Hid (Below W.heap.size W w7) := Lib.hid (by rw [hw]; exact below_setRow LB.out L5.out _)
          have HW := Lib.hid hw
          clear hw t0 HF
          go_wp2_with (first | (refine wpList_store_row rfl 26 (.tmp 5) (.tmp 53) rfl b5 (U64 f) rfl rfl 26 _ T1.out (sz26.trans (by simp [U64])) (by first | (simp [U64]; done) | (simp [U64]; rfl)) (vals_one _ _ _) ?_; rw [← HW.out]) | fail)
          go_roundw
          case measure => simp [intOf]; omega
          exact ⟨k + 1, x + y, by omega, by omega, by simp, rfl, M5.out, LB.out⟩
        have d0 : (V == 0) = false := by simpa using h0
        by_cases h1 : V = 1
        · subst h1
          have d0 : ((1 : Int) == 0) = false := by decide
          obtain ⟨g5, hg5, kg5⟩ := M5.out
          have R5 := Lib.hid hg5
          have K5 := Lib.hid kg5
          clear hg5 kg5
          obtain ⟨g8, hg8, kg8⟩ := M8.out
          have R8 := Lib.hid hg8
          have K8 := Lib.hid kg8
          clear hg8 kg8
          go_wp2_with (first | (refine wpList_load_row rfl 26 (.tmp 5) rfl b5 rfl 26 (U64 g5) (0, 0) _ R5.out Try.underlying26 rfl (sz26.trans (by simp [U64])) ?_) | (refine wpList_load_row rfl 26 (.tmp 8) rfl b8 rfl 26 (U64 g8) (0, 0) _ R8.out Try.underlying26 rfl (sz26.trans (by simp [U64])) ?_) | fail)
          refine (eSub K5.out K8.out _).mono ?_
          rintro e w5 ⟨⟨f, rfl, hf⟩, hb⟩
          have HF := Lib.hid hf
          replace M5 := Lib.hid (M5.out.grown (grown_own hb))
          replace LB := Lib.hid (LB.out.trans (hb.mono LB.out.size))
          clear hb hf R5 R8 K5 K8
          go_wp2_with fail
          refine (rSub x y _).mono ?_
          rintro e w6 ⟨rfl, hb⟩
          replace M5 := Lib.hid (M5.out.grown (grown_own hb))
          replace LB := Lib.hid (LB.out.trans (hb.mono LB.out.size))
          clear hb
          obtain ⟨w7, hw⟩ : ∃ zz, zz = World.setRow w6 b5 (U64 f) := ⟨_, rfl⟩
          obtain ⟨g0, t0, _⟩ := M5.out
          have T1 := Lib.hid t0
          replace M5 : Hid (FeAt w7 b5 (x - y)) := Lib.hid (fe_put hw M5.out HF.out)
          replace LB : Hid (Below W.heap.size W w7) := Lib.hid (by rw [hw]; exact below_setRow LB.out L5.out _)
          have HW := Lib.hid hw
          clear hw t0 HF
          go_wp2_with (first | (refine wpList_store_row rfl 26 (.tmp 5) (.tmp 61) rfl b5 (U64 f) rfl rfl 26 _ T1.out (sz26.trans (by simp [U64])) (by first | (simp [U64]; done) | (simp [U64]; rfl)) (vals_one _ _ _) ?_; rw [← HW.out]) | fail)
          go_roundw
          case measure => simp [intOf]; omega
          exact ⟨k + 1, x - y, by omega, by omega, by simp, rfl, M5.out, LB.out⟩
        have d1 : (V == 1) = false := by simpa using h1
        by_cases h2 : V = 2
        · subst h2
          have d0 : ((2 : Int) == 0) = false := by decide
          have d1 : ((2 : Int) == 1) = false := by decide
          obtain ⟨g5, hg5, kg5⟩ := M5.out
          have R5 := Lib.hid hg5
          have K5 := Lib.hid kg5
          clear hg5 kg5
          obtain ⟨g8, hg8, kg8⟩ := M8.out
          have R8 := Lib.hid hg8
          have K8 := Lib.hid kg8
          clear hg8 kg8
          go_wp2_with (first | (refine wpList_load_row rfl 26 (.tmp 5) rfl b5 rfl 26 (U64 g5) (0, 0) _ R5.out Try.underlying26 rfl (sz26.trans (by simp [U64])) ?_) | (refine wpList_load_row rfl 26 (.tmp 8) rfl b8 rfl 26 (U64 g8) (0, 0) _ R8.out Try.underlying26 rfl (sz26.trans (by simp [U64])) ?_) | fail)
          refine (eMul K5.out K8.out _).mono ?_
          rintro e w5 ⟨⟨f, rfl, hf⟩, hb⟩
          have HF := Lib.hid hf
          replace M5 := Lib.hid (M5.out.grown (grown_own hb))
          replace LB := Lib.hid (LB.out.trans (hb.mono LB.out.size))
          clear hb hf R5 R8 K5 K8
          go_wp2_with fail
          refine (rMul x y _).mono ?_
          rintro e w6 ⟨rfl, hb⟩
          replace M5 := Lib.hid (M5.out.grown (grown_own hb))
          replace LB := Lib.hid (LB.out.trans (hb.mono LB.out.size))
          clear hb
          obtain ⟨w7, hw⟩ : ∃ zz, zz = World.setRow w6 b5 (U64 f) := ⟨_, rfl⟩
          obtain ⟨g0, t0, _⟩ := M5.out
          have T1 := Lib.hid t0
          replace M5 : Hid (FeAt w7 b5 (x * y)) := Lib.hid (fe_put hw M5.out HF.out)
          replace LB : Hid (Below W.heap.size W w7) := Lib.hid (by rw [hw]; exact below_setRow LB.out L5.out _)
          have HW := Lib.hid hw
          clear hw t0 HF
          go_wp2_with (first | (refine wpList_store_row rfl 26 (.tmp 5) (.tmp 69) rfl b5 (U64 f) rfl rfl 26 _ T1.out (sz26.trans (by simp [U64])) (by first | (simp [U64]; done) | (simp [U64]; rfl)) (vals_one _ _ _) ?_; rw [← HW.out]) | fail)
          go_roundw
          case measure => simp [intOf]; omega
          exact ⟨k + 1, x * y, by omega, by omega, by simp, rfl, M5.out, LB.out⟩
        have d2 : (V == 2) = false := by simpa using h2
        by_cases h3 : V = 3
        · subst h3
          by_cases h8 : k < 8
          · have hl8 : decide ((k : Int) < 8) = true := by simp; omega
            obtain ⟨g5, hg5, kg5⟩ := M5.out
            have R5 := Lib.hid hg5
            have K5 := Lib.hid kg5
            clear hg5 kg5
            go_wp2_with (first | (refine wpList_load_row rfl 26 (.tmp 5) rfl b5 rfl 26 (U64 g5) (0, 0) _ R5.out Try.underlying26 rfl (sz26.trans (by simp [U64])) ?_) | fail)
            refine (eInv K5.out _).mono ?_
            rintro e w5 ⟨⟨f, rfl, hf⟩, hb⟩
            have HF := Lib.hid hf
            replace M5 := Lib.hid (M5.out.grown (grown_own hb))
            replace LB := Lib.hid (LB.out.trans (hb.mono LB.out.size))
            clear hb hf R5 K5
            go_wp2_with fail
            refine (rInv x _).mono ?_
            rintro e w6 ⟨rfl, hb⟩
            replace M5 := Lib.hid (M5.out.grown (grown_own hb))
            replace LB := Lib.hid (LB.out.trans (hb.mono LB.out.size))
            clear hb
            obtain ⟨w7, hw⟩ : ∃ zz, zz = World.setRow w6 b5 (U64 f) := ⟨_, rfl⟩
            obtain ⟨g0, t0, _⟩ := M5.out
            have T1 := Lib.hid t0
            replace M5 : Hid (FeAt w7 b5 (inv x)) := Lib.hid (fe_put hw M5.out HF.out)
            replace LB : Hid (Below W.heap.size W w7) := Lib.hid (by rw [hw]; exact below_setRow LB.out L5.out _)
            have HW := Lib.hid hw
            clear hw t0 HF
            go_wp2_with (first | (refine wpList_store_row rfl 26 (.tmp 5) (.tmp 78) rfl b5 (U64 f) rfl rfl 26 _ T1.out (sz26.trans (by simp [U64])) (by first | (simp [U64]; done) | (simp [U64]; rfl)) (vals_one _ _ _) ?_; rw [← HW.out]) | fail)
            go_roundw
            case measure => simp [intOf]; omega
            exact ⟨k + 1, inv x, by omega, by omega, by simp, rfl, M5.out, LB.out⟩
          · have hl8 : decide ((k : Int) < 8) = false := by simp; omega
            go_wp2_with fail
            go_roundw
            case measure => simp [intOf]; omega
            exact ⟨k + 1, x, by omega, by omega, by simp, rfl, M5.out, LB.out⟩
        have d3 : (V == 3) = false := by simpa using h3
        by_cases h4 : V = 4
        · subst h4
          obtain ⟨g5, hg5, kg5⟩ := M5.out
          have R5 := Lib.hid hg5
          have K5 := Lib.hid kg5
          clear hg5 kg5
          obtain ⟨g8, hg8, kg8⟩ := M8.out
          have R8 := Lib.hid hg8
          have K8 := Lib.hid kg8
          clear hg8 kg8
          go_wp2_with (first | (refine wpList_load_row rfl 26 (.tmp 5) rfl b5 rfl 26 (U64 g5) (0, 0) _ R5.out Try.underlying26 rfl (sz26.trans (by simp [U64])) ?_) | (refine wpList_load_row rfl 26 (.tmp 8) rfl b8 rfl 26 (U64 g8) (0, 0) _ R8.out Try.underlying26 rfl (sz26.trans (by simp [U64])) ?_) | fail)
          refine (swap_el true K5.out K8.out _).mono ?_
          rintro e w5 ⟨⟨fa, fb, rfl, ka, kb⟩, hb⟩
          replace ka : IsEl fa y.val := ka
          replace kb : IsEl fb x.val := kb
          have KA := Lib.hid ka
          have KB := Lib.hid kb
          replace M5 := Lib.hid (M5.out.grown (grown_own hb))
          replace LB := Lib.hid (LB.out.trans (hb.mono LB.out.size))
          replace M8 := Lib.hid (M8.out.grown (grown_own hb))
          clear hb ka kb R5 R8 K5 K8
          obtain ⟨w6, hw1⟩ : ∃ zz, zz = World.setRow ((w5.alloc (.cells #[.int .u64 0, .int .u64 0, .int .u64 0, .int .u64 0, .int .u64 0] 26)).alloc (.cells #[.int .u64 0, .int .u64 0, .int .u64 0, .int .u64 0, .int .u64 0] 26)) w5.heap.size (U64 fa) := ⟨_, rfl⟩
          obtain ⟨w7, hw2⟩ : ∃ zz, zz = World.setRow w6 (w5.heap.size + 1) (U64 fb) := ⟨_, rfl⟩
          replace M5 := Lib.hid (fe_two hw1 hw2 M5.out)
          replace M8 := Lib.hid (fe_two hw1 hw2 M8.out)
          replace LB := Lib.hid (below_two2 hw1 hw2 LB.out)
          have M10 := Lib.hid (two_at1 hw1 hw2 KA.out)
          have M11 := Lib.hid (two_at2 hw1 hw2 KB.out)
          have Ta := Lib.hid (two_first w5 #[.int .u64 0, .int .u64 0, .int .u64 0, .int .u64 0, .int .u64 0] #[.int .u64 0, .int .u64 0, .int .u64 0, .int .u64 0, .int .u64 0])
          have Tb := Lib.hid (two_second hw1)
          have HW1 := Lib.hid hw1
          have HW2 := Lib.hid hw2
          clear hw1 hw2 KA KB
          obtain ⟨g5b, hg5b, kg5b⟩ := M5.out
          have R5b := Lib.hid hg5b
          have K5b := Lib.hid kg5b
          clear hg5b kg5b
          obtain ⟨g8b, hg8b, kg8b⟩ := M8.out
          have R8b := Lib.hid hg8b
          have K8b := Lib.hid kg8b
          clear hg8b kg8b
          go_wp2_with (first | (refine wpList_store_row rfl 26 (.tmp 10) (.tmp 87) rfl w5.heap.size (U64 fa) rfl rfl 26 _ Ta.out (sz26.trans (by simp [U64])) (by first | (simp [U64]; done) | (simp [U64]; rfl)) (vals_one _ _ _) ?_; rw [← HW1.out]) | (refine wpList_store_row rfl 26 (.tmp 11) (.tmp 88) rfl (w5.heap.size + 1) (U64 fb) rfl rfl 26 _ Tb.out (sz26.trans (by simp [U64])) (by first | (simp [U64]; done) | (simp [U64]; rfl)) (vals_one _ _ _) ?_; rw [← HW2.out]) | (refine wpList_load_row rfl 26 (.tmp 5) rfl b5 rfl 26 (U64 g5b) (0, 0) _ R5b.out Try.underlying26 rfl (sz26.trans (by simp [U64])) ?_) | (refine wpList_load_row rfl 26 (.tmp 8) rfl b8 rfl 26 (U64 g8b) (0, 0) _ R8b.out Try.underlying26 rfl (sz26.trans (by simp [U64])) ?_) | fail)
          clear Ta Tb HW1 HW2
          refine (swap_el false K5b.out K8b.out _).mono ?_
          rintro e w8 ⟨⟨fc, fd, rfl, ka, kb⟩, hb⟩
          replace ka : IsEl fc x.val := ka
          replace kb : IsEl fd y.val := kb
          have KA := Lib.hid ka
          have KB := Lib.hid kb
          replace M5 := Lib.hid (M5.out.grown (grown_own hb))
          replace LB := Lib.hid (LB.out.trans (hb.mono LB.out.size))
          replace M8 := Lib.hid (M8.out.grown (grown_own hb))
          replace M10 := Lib.hid (M10.out.grown (grown_own hb))
          replace M11 := Lib.hid (M11.out.grown (grown_own hb))
          clear hb ka kb R5b R8b K5b K8b
          obtain ⟨w9, hw1⟩ : ∃ zz, zz = World.setRow ((w8.alloc (.cells #[.int .u64 0, .int .u64 0, .int .u64 0, .int .u64 0, .int .u64 0] 26)).alloc (.cells #[.int .u64 0, .int .u64 0, .int .u64 0, .int .u64 0, .int .u64 0] 26)) w8.heap.size (U64 fc) := ⟨_, rfl⟩
          obtain ⟨w10, hw2⟩ : ∃ zz, zz = World.setRow w9 (w8.heap.size + 1) (U64 fd) := ⟨_, rfl⟩
          replace M5 := Lib.hid (fe_two hw1 hw2 M5.out)
          replace M8 := Lib.hid (fe_two hw1 hw2 M8.out)
          replace M10 := Lib.hid (fe_two hw1 hw2 M10.out)
          replace M11 := Lib.hid (fe_two hw1 hw2 M11.out)
          replace LB := Lib.hid (below_two2 hw1 hw2 LB.out)
          have M12 := Lib.hid (two_at1 hw1 hw2 KA.out)
          have M13 := Lib.hid (two_at2 hw1 hw2 KB.out)
          have Ta := Lib.hid (two_first w8 #[.int .u64 0, .int .u64 0, .int .u64 0, .int .u64 0, .int .u64 0] #[.int .u64 0, .int .u64 0, .int .u64 0, .int .u64 0, .int .u64 0])
          have Tb := Lib.hid (two_second hw1)
          have HW1 := Lib.hid hw1
          have HW2 := Lib.hid hw2
          clear hw1 hw2 KA KB
          go_wp2_with (first | (refine wpList_store_row rfl 26 (.tmp 12) (.tmp 93) rfl w8.heap.size (U64 fc) rfl rfl 26 _ Ta.out (sz26.trans (by simp [U64])) (by first | (simp [U64]; done) | (simp [U64]; rfl)) (vals_one _ _ _) ?_; rw [← HW1.out]) | (refine wpList_store_row rfl 26 (.tmp 13) (.tmp 94) rfl (w8.heap.size + 1) (U64 fd) rfl rfl 26 _ Tb.out (sz26.trans (by simp [U64])) (by first | (simp [U64]; done) | (simp [U64]; rfl)) (vals_one _ _ _) ?_; rw [← HW2.out]) | fail)
          clear Ta Tb HW1 HW2
          refine region_kk _ 127 [.fe (y), .eq (.string (le32 (y.val))), .fe (y), .eq (.string (le32 (y.val))), .eq (.bool false), .eq (.bool false), .fe (x), .eq (.string (le32 (x.val))), .fe (x), .eq (.string (le32 (x.val))), .eq (.bool false), .eq (.bool false), .eq (.bool false), .fe (x), .eq (.string (le32 (x.val))), .fe (x), .eq (.string (le32 (x.val))), .eq (.bool false), .eq (.bool false), .eq (.bool false), .fe (y), .eq (.string (le32 (y.val))), .fe (y), .eq (.string (le32 (y.val))), .eq (.bool false), .eq (.bool false)] (by kernel_rfl) (by rfl) (by kernel_rfl) (by kernel_rfl) (fun x1 hw => ?_) (fun vs v hg hv hap => ?_)
          · refine ⟨?_, ?_, ?_, ?_, ?_, ?_, ?_, ?_, ?_, ?_, ?_, ?_, ?_, ?_, ?_, ?_, ?_, ?_, ?_, ?_, ?_, ?_, ?_, ?_, ?_, ?_, trivial⟩
            · intro a x2 hg hsp hd K hK
              replace hg := grown_trans hw hg
              have e1 : a.tmps[10]? = some (.pointer (some ⟨w5.heap.size, 0, none⟩)) := (hsp 10 (by kernel_rfl)).trans rfl
              obtain ⟨f, hb, hf⟩ := M10.out.grown hg
              exact at_row (wanted_free rfl) rfl e1 hb Try.underlying26 rfl (sz26.trans (by simp [U64])) (hK _ _ (grown_refl _ _) ⟨_, rfl, hf⟩ (fun h => Bool.noConfusion (show false = true from h)))
            · intro a x2 hg hsp hd K hK
              replace hg := grown_trans hw hg
              obtain ⟨_, e1, f1, rfl, h1⟩ := hd 0 _ 95 (by kernel_rfl) rfl rfl
              refine at_call (wanted_free rfl) rfl (args1 e1) Try.func17 (by kernel_rfl) rfl ?_
              refine (eText h1 _).mono ?_
              rintro e w1 ⟨rfl, hb⟩
              exact ⟨_, rfl, hK _ _ (grown_own hb) rfl (fun h => Bool.noConfusion (show false = true from h))⟩
            · intro a x2 hg hsp hd K hK
              replace hg := grown_trans hw hg
              have e1 : a.tmps[8]? = some (.pointer (some ⟨b8, 0, none⟩)) := (hsp 8 (by kernel_rfl)).trans rfl
              obtain ⟨f, hb, hf⟩ := M8.out.grown hg
              exact at_row (wanted_free rfl) rfl e1 hb Try.underlying26 rfl (sz26.trans (by simp [U64])) (hK _ _ (grown_refl _ _) ⟨_, rfl, hf⟩ (fun h => Bool.noConfusion (show false = true from h)))
            · intro a x2 hg hsp hd K hK
              replace hg := grown_trans hw hg
              obtain ⟨_, e1, f1, rfl, h1⟩ := hd 2 _ 97 (by kernel_rfl) rfl rfl
              refine at_call (wanted_free rfl) rfl (args1 e1) Try.func17 (by kernel_rfl) rfl ?_
              refine (eText h1 _).mono ?_
              rintro e w1 ⟨rfl, hb⟩
              exact ⟨_, rfl, hK _ _ (grown_own hb) rfl (fun h => Bool.noConfusion (show false = true from h))⟩
            · intro a x2 hg hsp hd K hK
              replace hg := grown_trans hw hg
              obtain ⟨_, e1, h1⟩ := hd 1 _ 96 (by kernel_rfl) rfl rfl
              have h1 : _ = _ := h1
              subst h1
              obtain ⟨_, e2, h2⟩ := hd 3 _ 98 (by kernel_rfl) rfl rfl
              have h2 : _ = _ := h2
              subst h2
              exact at_value (wanted_free rfl) (run_neqs rfl (eval_tmp e1) (eval_tmp e2)) (hK _ _ (grown_refl _ _) (show Value.bool _ = Value.bool false from by simp) (fun h => Bool.noConfusion (show false = true from h)))
            · intro a x2 hg hsp hd K hK
              replace hg := grown_trans hw hg
              obtain ⟨_, e1, h1⟩ := hd 4 _ 99 (by kernel_rfl) rfl rfl
              have h1 : _ = _ := h1
              subst h1
              exact at_value (wanted_free rfl) (run_move (Or.inl rfl) (eval_tmp e1)) (hK _ _ (grown_refl _ _) rfl (fun h => Bool.noConfusion (show false = true from h)))
            · intro a x2 hg hsp hd K hK
              replace hg := grown_trans hw hg
              obtain ⟨_, eg, hgd⟩ := hd 5 _ 100 (by kernel_rfl) rfl rfl
              have hgd : _ = _ := hgd
              subst hgd
              have e1 : a.tmps[11]? = some (.pointer (some ⟨w5.heap.size + 1, 0, none⟩)) := (hsp 11 (by kernel_rfl)).trans rfl
              obtain ⟨f, hb, hf⟩ := M11.out.grown hg
              exact at_row (wanted_on rfl rfl rfl eg) rfl e1 hb Try.underlying26 rfl (sz26.trans (by simp [U64])) (hK _ _ (grown_refl _ _) ⟨_, rfl, hf⟩ (fun h => Bool.noConfusion (show false = true from h)))
            · intro a x2 hg hsp hd K hK
              replace hg := grown_trans hw hg
              obtain ⟨_, eg, hgd⟩ := hd 5 _ 100 (by kernel_rfl) rfl rfl
              have hgd : _ = _ := hgd
              subst hgd
              obtain ⟨_, e1, f1, rfl, h1⟩ := hd 6 _ 101 (by kernel_rfl) rfl rfl
              refine at_call (wanted_on rfl rfl rfl eg) rfl (args1 e1) Try.func17 (by kernel_rfl) rfl ?_
              refine (eText h1 _).mono ?_
              rintro e w1 ⟨rfl, hb⟩
              exact ⟨_, rfl, hK _ _ (grown_own hb) rfl (fun h => Bool.noConfusion (show false = true from h))⟩
            · intro a x2 hg hsp hd K hK
              replace hg := grown_trans hw hg
              obtain ⟨_, eg, hgd⟩ := hd 5 _ 100 (by kernel_rfl) rfl rfl
              have hgd : _ = _ := hgd
              subst hgd
              have e1 : a.tmps[5]? = some (.pointer (some ⟨b5, 0, none⟩)) := (hsp 5 (by kernel_rfl)).trans rfl
              obtain ⟨f, hb, hf⟩ := M5.out.grown hg
              exact at_row (wanted_on rfl rfl rfl eg) rfl e1 hb Try.underlying26 rfl (sz26.trans (by simp [U64])) (hK _ _ (grown_refl _ _) ⟨_, rfl, hf⟩ (fun h => Bool.noConfusion (show false = true from h)))
            · intro a x2 hg hsp hd K hK
              replace hg := grown_trans hw hg
              obtain ⟨_, eg, hgd⟩ := hd 5 _ 100 (by kernel_rfl) rfl rfl
              have hgd : _ = _ := hgd
              subst hgd
              obtain ⟨_, e1, f1, rfl, h1⟩ := hd 8 _ 103 (by kernel_rfl) rfl rfl
              refine at_call (wanted_on rfl rfl rfl eg) rfl (args1 e1) Try.func17 (by kernel_rfl) rfl ?_
              refine (eText h1 _).mono ?_
              rintro e w1 ⟨rfl, hb⟩
              exact ⟨_, rfl, hK _ _ (grown_own hb) rfl (fun h => Bool.noConfusion (show false = true from h))⟩
            · intro a x2 hg hsp hd K hK
              replace hg := grown_trans hw hg
              obtain ⟨_, eg, hgd⟩ := hd 5 _ 100 (by kernel_rfl) rfl rfl
              have hgd : _ = _ := hgd
              subst hgd
              obtain ⟨_, e1, h1⟩ := hd 7 _ 102 (by kernel_rfl) rfl rfl
              have h1 : _ = _ := h1
              subst h1
              obtain ⟨_, e2, h2⟩ := hd 9 _ 104 (by kernel_rfl) rfl rfl
              have h2 : _ = _ := h2
              subst h2
              exact at_value (wanted_on rfl rfl rfl eg) (run_neqs rfl (eval_tmp e1) (eval_tmp e2)) (hK _ _ (grown_refl _ _) (show Value.bool _ = Value.bool false from by simp) (fun h => Bool.noConfusion (show false = true from h)))
            · intro a x2 hg hsp hd K hK
              replace hg := grown_trans hw hg
              obtain ⟨_, e1, h1⟩ := hd 5 _ 100 (by kernel_rfl) rfl rfl
              have h1 : _ = _ := h1
              subst h1
              obtain ⟨_, e2, h2⟩ := hd 10 _ 105 (by kernel_rfl) rfl rfl
              have h2 : _ = _ := h2
              subst h2
              exact at_value (wanted_free rfl) (run_pick (v := .bool false) rfl (eval_tmp e1) ((if_neg (by decide)).trans (eval_tmp e2))) (hK _ _ (grown_refl _ _) rfl (fun h => Bool.noConfusion (show false = true from h)))
            · intro a x2 hg hsp hd K hK
              replace hg := grown_trans hw hg
              obtain ⟨_, e1, h1⟩ := hd 11 _ 106 (by kernel_rfl) rfl rfl
              have h1 : _ = _ := h1
              subst h1
              exact at_value (wanted_free rfl) (run_move (Or.inl rfl) (eval_tmp e1)) (hK _ _ (grown_refl _ _) rfl (fun h => Bool.noConfusion (show false = true from h)))
            · intro a x2 hg hsp hd K hK
              replace hg := grown_trans hw hg
              obtain ⟨_, eg, hgd⟩ := hd 12 _ 107 (by kernel_rfl) rfl rfl
              have hgd : _ = _ := hgd
              subst hgd
              have e1 : a.tmps[12]? = some (.pointer (some ⟨w8.heap.size, 0, none⟩)) := (hsp 12 (by kernel_rfl)).trans rfl
              obtain ⟨f, hb, hf⟩ := M12.out.grown hg
              exact at_row (wanted_on rfl rfl rfl eg) rfl e1 hb Try.underlying26 rfl (sz26.trans (by simp [U64])) (hK _ _ (grown_refl _ _) ⟨_, rfl, hf⟩ (fun h => Bool.noConfusion (show false = true from h)))
            · intro a x2 hg hsp hd K hK
              replace hg := grown_trans hw hg
              obtain ⟨_, eg, hgd⟩ := hd 12 _ 107 (by kernel_rfl) rfl rfl
              have hgd : _ = _ := hgd
              subst hgd
              obtain ⟨_, e1, f1, rfl, h1⟩ := hd 13 _ 108 (by kernel_rfl) rfl rfl
              refine at_call (wanted_on rfl rfl rfl eg) rfl (args1 e1) Try.func17 (by kernel_rfl) rfl ?_
              refine (eText h1 _).mono ?_
              rintro e w1 ⟨rfl, hb⟩
              exact ⟨_, rfl, hK _ _ (grown_own hb) rfl (fun h => Bool.noConfusion (show false = true from h))⟩
            · intro a x2 hg hsp hd K hK
              replace hg := grown_trans hw hg
              obtain ⟨_, eg, hgd⟩ := hd 12 _ 107 (by kernel_rfl) rfl rfl
              have hgd : _ = _ := hgd
              subst hgd
              have e1 : a.tmps[5]? = some (.pointer (some ⟨b5, 0, none⟩)) := (hsp 5 (by kernel_rfl)).trans rfl
              obtain ⟨f, hb, hf⟩ := M5.out.grown hg
              exact at_row (wanted_on rfl rfl rfl eg) rfl e1 hb Try.underlying26 rfl (sz26.trans (by simp [U64])) (hK _ _ (grown_refl _ _) ⟨_, rfl, hf⟩ (fun h => Bool.noConfusion (show false = true from h)))
            · intro a x2 hg hsp hd K hK
              replace hg := grown_trans hw hg
              obtain ⟨_, eg, hgd⟩ := hd 12 _ 107 (by kernel_rfl) rfl rfl
              have hgd : _ = _ := hgd
              subst hgd
              obtain ⟨_, e1, f1, rfl, h1⟩ := hd 15 _ 110 (by kernel_rfl) rfl rfl
              refine at_call (wanted_on rfl rfl rfl eg) rfl (args1 e1) Try.func17 (by kernel_rfl) rfl ?_
              refine (eText h1 _).mono ?_
              rintro e w1 ⟨rfl, hb⟩
              exact ⟨_, rfl, hK _ _ (grown_own hb) rfl (fun h => Bool.noConfusion (show false = true from h))⟩
            · intro a x2 hg hsp hd K hK
              replace hg := grown_trans hw hg
              obtain ⟨_, eg, hgd⟩ := hd 12 _ 107 (by kernel_rfl) rfl rfl
              have hgd : _ = _ := hgd
              subst hgd
              obtain ⟨_, e1, h1⟩ := hd 14 _ 109 (by kernel_rfl) rfl rfl
              have h1 : _ = _ := h1
              subst h1
              obtain ⟨_, e2, h2⟩ := hd 16 _ 111 (by kernel_rfl) rfl rfl
              have h2 : _ = _ := h2
              subst h2
              exact at_value (wanted_on rfl rfl rfl eg) (run_neqs rfl (eval_tmp e1) (eval_tmp e2)) (hK _ _ (grown_refl _ _) (show Value.bool _ = Value.bool false from by simp) (fun h => Bool.noConfusion (show false = true from h)))
            · intro a x2 hg hsp hd K hK
              replace hg := grown_trans hw hg
              obtain ⟨_, e1, h1⟩ := hd 12 _ 107 (by kernel_rfl) rfl rfl
              have h1 : _ = _ := h1
              subst h1
              obtain ⟨_, e2, h2⟩ := hd 17 _ 112 (by kernel_rfl) rfl rfl
              have h2 : _ = _ := h2
              subst h2
              exact at_value (wanted_free rfl) (run_pick (v := .bool false) rfl (eval_tmp e1) ((if_neg (by decide)).trans (eval_tmp e2))) (hK _ _ (grown_refl _ _) rfl (fun h => Bool.noConfusion (show false = true from h)))
            · intro a x2 hg hsp hd K hK
              replace hg := grown_trans hw hg
              obtain ⟨_, e1, h1⟩ := hd 18 _ 113 (by kernel_rfl) rfl rfl
              have h1 : _ = _ := h1
              subst h1
              exact at_value (wanted_free rfl) (run_move (Or.inl rfl) (eval_tmp e1)) (hK _ _ (grown_refl _ _) rfl (fun h => Bool.noConfusion (show false = true from h)))
            · intro a x2 hg hsp hd K hK
              replace hg := grown_trans hw hg
              obtain ⟨_, eg, hgd⟩ := hd 19 _ 114 (by kernel_rfl) rfl rfl
              have hgd : _ = _ := hgd
              subst hgd
              have e1 : a.tmps[13]? = some (.pointer (some ⟨w8.heap.size + 1, 0, none⟩)) := (hsp 13 (by kernel_rfl)).trans rfl
              obtain ⟨f, hb, hf⟩ := M13.out.grown hg
              exact at_row (wanted_on rfl rfl rfl eg) rfl e1 hb Try.underlying26 rfl (sz26.trans (by simp [U64])) (hK _ _ (grown_refl _ _) ⟨_, rfl, hf⟩ (fun h => Bool.noConfusion (show false = true from h)))
            · intro a x2 hg hsp hd K hK
              replace hg := grown_trans hw hg
              obtain ⟨_, eg, hgd⟩ := hd 19 _ 114 (by kernel_rfl) rfl rfl
              have hgd : _ = _ := hgd
              subst hgd
              obtain ⟨_, e1, f1, rfl, h1⟩ := hd 20 _ 115 (by kernel_rfl) rfl rfl
              refine at_call (wanted_on rfl rfl rfl eg) rfl (args1 e1) Try.func17 (by kernel_rfl) rfl ?_
              refine (eText h1 _).mono ?_
              rintro e w1 ⟨rfl, hb⟩
              exact ⟨_, rfl, hK _ _ (grown_own hb) rfl (fun h => Bool.noConfusion (show false = true from h))⟩
            · intro a x2 hg hsp hd K hK
              replace hg := grown_trans hw hg
              obtain ⟨_, eg, hgd⟩ := hd 19 _ 114 (by kernel_rfl) rfl rfl
              have hgd : _ = _ := hgd
              subst hgd
              have e1 : a.tmps[8]? = some (.pointer (some ⟨b8, 0, none⟩)) := (hsp 8 (by kernel_rfl)).trans rfl
              obtain ⟨f, hb, hf⟩ := M8.out.grown hg
              exact at_row (wanted_on rfl rfl rfl eg) rfl e1 hb Try.underlying26 rfl (sz26.trans (by simp [U64])) (hK _ _ (grown_refl _ _) ⟨_, rfl, hf⟩ (fun h => Bool.noConfusion (show false = true from h)))
            · intro a x2 hg hsp hd K hK
              replace hg := grown_trans hw hg
              obtain ⟨_, eg, hgd⟩ := hd 19 _ 114 (by kernel_rfl) rfl rfl
              have hgd : _ = _ := hgd
              subst hgd
              obtain ⟨_, e1, f1, rfl, h1⟩ := hd 22 _ 117 (by kernel_rfl) rfl rfl
              refine at_call (wanted_on rfl rfl rfl eg) rfl (args1 e1) Try.func17 (by kernel_rfl) rfl ?_
              refine (eText h1 _).mono ?_
              rintro e w1 ⟨rfl, hb⟩
              exact ⟨_, rfl, hK _ _ (grown_own hb) rfl (fun h => Bool.noConfusion (show false = true from h))⟩
            · intro a x2 hg hsp hd K hK
              replace hg := grown_trans hw hg
              obtain ⟨_, eg, hgd⟩ := hd 19 _ 114 (by kernel_rfl) rfl rfl
              have hgd : _ = _ := hgd
              subst hgd
              obtain ⟨_, e1, h1⟩ := hd 21 _ 116 (by kernel_rfl) rfl rfl
              have h1 : _ = _ := h1
              subst h1
              obtain ⟨_, e2, h2⟩ := hd 23 _ 118 (by kernel_rfl) rfl rfl
              have h2 : _ = _ := h2
              subst h2
              exact at_value (wanted_on rfl rfl rfl eg) (run_neqs rfl (eval_tmp e1) (eval_tmp e2)) (hK _ _ (grown_refl _ _) (show Value.bool _ = Value.bool false from by simp) (fun h => Bool.noConfusion (show false = true from h)))
            · intro a x2 hg hsp hd K hK
              replace hg := grown_trans hw hg
              obtain ⟨_, e1, h1⟩ := hd 19 _ 114 (by kernel_rfl) rfl rfl
              have h1 : _ = _ := h1
              subst h1
              obtain ⟨_, e2, h2⟩ := hd 24 _ 119 (by kernel_rfl) rfl rfl
              have h2 : _ = _ := h2
              subst h2
              exact at_value (wanted_free rfl) (run_pick (v := .bool false) rfl (eval_tmp e1) ((if_neg (by decide)).trans (eval_tmp e2))) (hK _ _ (grown_refl _ _) rfl (fun h => Bool.noConfusion (show false = true from h)))
          obtain ⟨F95, v0, k95⟩ := hv 0 _ rfl
          have v1 : vs 1 = _ := hv 1 _ rfl
          obtain ⟨F97, v2, k97⟩ := hv 2 _ rfl
          have v3 : vs 3 = _ := hv 3 _ rfl
          have v4 : vs 4 = _ := hv 4 _ rfl
          have v5 : vs 5 = _ := hv 5 _ rfl
          obtain ⟨F101, v6, k101⟩ := hv 6 _ rfl
          have v7 : vs 7 = _ := hv 7 _ rfl
          obtain ⟨F103, v8, k103⟩ := hv 8 _ rfl
          have v9 : vs 9 = _ := hv 9 _ rfl
          have v10 : vs 10 = _ := hv 10 _ rfl
          have v11 : vs 11 = _ := hv 11 _ rfl
          have v12 : vs 12 = _ := hv 12 _ rfl
          obtain ⟨F108, v13, k108⟩ := hv 13 _ rfl
          have v14 : vs 14 = _ := hv 14 _ rfl
          obtain ⟨F110, v15, k110⟩ := hv 15 _ rfl
          have v16 : vs 16 = _ := hv 16 _ rfl
          have v17 : vs 17 = _ := hv 17 _ rfl
          have v18 : vs 18 = _ := hv 18 _ rfl
          have v19 : vs 19 = _ := hv 19 _ rfl
          obtain ⟨F115, v20, k115⟩ := hv 20 _ rfl
          have v21 : vs 21 = _ := hv 21 _ rfl
          obtain ⟨F117, v22, k117⟩ := hv 22 _ rfl
          have v23 : vs 23 = _ := hv 23 _ rfl
          have v24 : vs 24 = _ := hv 24 _ rfl
          have v25 : vs 25 = _ := hv 25 _ rfl
          simp [seqA, Act.put, v0, v1, v2, v3, v4, v5, v6, v7, v8, v9, v10, v11, v12, v13, v14, v15, v16, v17, v18, v19, v20, v21, v22, v23, v24, v25]
          clear hv hap
          replace M5 := Lib.hid (M5.out.grown hg)
          replace M10 := Lib.hid (M10.out.grown hg)
          replace LB := Lib.hid (LB.out.grown hg LB.out.size (fun j hj => by cases hj))
          clear hg
          obtain ⟨g10, hg10, kg10⟩ := M10.out
          have R10 := Lib.hid hg10
          have K10 := Lib.hid kg10
          clear hg10 kg10
          have HF : Hid (IsEl g10 y.val) := Lib.hid K10.out
          obtain ⟨w12, hw⟩ : ∃ zz, zz = World.setRow v b5 (U64 g10) := ⟨_, rfl⟩
          obtain ⟨g0, t0, _⟩ := M5.out
          have T1 := Lib.hid t0
          replace M5 : Hid (FeAt w12 b5 (y)) := Lib.hid (fe_put hw M5.out HF.out)
          replace LB : Hid (Below W.heap.size W w12) := Lib.hid (by rw [hw]; exact below_setRow LB.out L5.out _)
          have HW := Lib.hid hw
          clear hw t0 HF
          go_wp2_with (first | (refine wpList_load_row rfl 26 (.tmp 10) rfl w5.heap.size rfl 26 (U64 g10) (0, 0) _ R10.out Try.underlying26 rfl (sz26.trans (by simp [U64])) ?_) | (refine wpList_store_row rfl 26 (.tmp 5) (.tmp 121) rfl b5 (U64 g10) rfl rfl 26 _ T1.out (sz26.trans (by simp [U64])) (by first | (simp [U64]; done) | (simp [U64]; rfl)) (vals_one _ _ _) ?_; rw [← HW.out]) | fail)
          go_roundw
          case measure => simp [intOf]; omega
          exact ⟨k + 1, y, by omega, by omega, by simp, rfl, M5.out, LB.out⟩
        have d4 : (V == 4) = false := by simpa using h4
        go_wp2_with fail
        go_roundw
        case measure => simp [intOf]; omega
        exact ⟨k + 1, x, by omega, by omega, by simp, rfl, M5.out, LB.out⟩
      · have hl2 : decide ((k : Int) < 30) = false := by simp; omega
        obtain ⟨g5, hg5, kg5⟩ := M5.out
        have R5 := Lib.hid hg5
        have K5 := Lib.hid kg5
        clear hg5 kg5
        go_wp2_with (first | (refine wpList_load_row rfl 26 (.tmp 5) rfl b5 rfl 26 (U64 g5) (0, 0) _ R5.out Try.underlying26 rfl (sz26.trans (by simp [U64])) ?_) | fail)
        refine (eText K5.out _).mono ?_
        rintro e w5 ⟨rfl, hb⟩
        have LB2 := LB.out.trans (hb.mono LB.out.size)
        clear hb
        go_wp2_with fail
        go_ret
        exact ⟨by simp, LB2⟩
    · have hl1 : decide ((k : Int) < (n : Int)) = false := by simp; omega
      obtain ⟨g5, hg5, kg5⟩ := M5.out
      have R5 := Lib.hid hg5
      have K5 := Lib.hid kg5
      clear hg5 kg5
      go_wp2_with (first | (refine wpList_load_row rfl 26 (.tmp 5) rfl b5 rfl 26 (U64 g5) (0, 0) _ R5.out Try.underlying26 rfl (sz26.trans (by simp [U64])) ?_) | fail)
      refine (eText K5.out _).mono ?_
      rintro e w5 ⟨rfl, hb⟩
      have LB2 := LB.out.trans (hb.mono LB.out.size)
      clear hb
      go_wp2_with fail
      go_ret
      exact ⟨by simp, LB2⟩
end Go.Proofs.Ytikmghmapmlebaa
