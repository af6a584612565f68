/-
  CurveBits walked: of all numbers, points and bits the call returns true; no condition.
-/
import Derived.Test.YtikmghmapmlebaaYw
namespace Go.Proofs.Ytikmghmapmlebaa
open Go.RowKit Go.Rh F255
attribute [local go_sem] box50 alloc22

set_option maxRecDepth 100000 in
set_option maxHeartbeats 1000000 in
theorem cbits_any (f : Nat → Nat) (hf : ∀ j, j < 66 → f j < 256) (w : World) :
    Calls Try.prog 10 #[.agg (B66 f)] w fun e w' => e = .returned (.bool true) ∧ Below w.heap.size w w' := by
  have HFt := Lib.hid hf
  clear hf
  go_enter Try.func10, Try.ntmps10
  go_wp2_with fail
  have M0 : Hid ((w.alloc (.cells (B66 f) 50)).heap[w.heap.size]? = some (.cells (B66 f) 50 (0, 0))) := Lib.hid (heap_new' _ _ _ rfl)
  have MB : Hid (Below w.heap.size w (w.alloc (.cells (B66 f) 50))) := Lib.hid (by go_grown)
  generalize hW : w.alloc (.cells (B66 f) 50) = w2 at M0 MB ⊢
  obtain ⟨b1, e1⟩ : ∃ b, w.heap.size = b := ⟨_, rfl⟩
  have LO : Hid (w.heap.size ≤ b1) := Lib.hid (by omega)
  have M1 : Hid (w2.heap[b1]? = some (.cells (B66 f) 50 (0, 0))) := Lib.hid (by rw [← e1]; exact M0.out)
  rw [e1]
  clear hW e1 M0
  refine region_kk_late _ 71 [.eq (.pointer (some ⟨b1, 0, none⟩)), .eq (.agg (U8 (fun j => f j))), .eq (.pointer (some ⟨b1, 32, none⟩)), .eq (.agg (U8 (fun j => f (32 + j)))), .new w2.heap.size (.cells (U8 fun _ => 0) 22), .new w2.heap.size (.cells (U8 fun _ => 0) 22)] 6 2 (fun i => i == 2 || i == 3) (fun a x y => ∃ c3 c4, a.tmps[3]? = some (.pointer (some ⟨c3, 0, none⟩)) ∧ a.tmps[4]? = some (.pointer (some ⟨c4, 0, none⟩)) ∧ c3 ≠ c4 ∧ y = (x.setRow c3 (U8 (fun j => f j))).setRow c4 (U8 (fun j => f (32 + j))))
    rfl rfl (by kernel_rfl) (by rfl) (by kernel_rfl) (by kernel_rfl) (fun x1 hw => ?_) (fun Q' listed a x hL hQ => ?_) (fun vs x y hg hv hst => ?_)
  · refine ⟨?_, ?_, ?_, ?_, ?_, ?_, trivial⟩
    · intro a x2 hg hsp hd K hK
      replace hg := grown_trans hw hg
      have e1 : a.tmps[1]? = some (.pointer (some ⟨b1, 0, none⟩)) := (hsp 1 (by kernel_rfl)).trans rfl
      exact at_value (wanted_free rfl) (run_op_field50 rfl (eval_tmp e1) (fld50_0 _ _)) (hK _ _ (grown_refl _ _) rfl (fun h => Bool.noConfusion (show false = true from h)))
    · intro a x2 hg hsp hd K hK
      replace hg := grown_trans hw hg
      obtain ⟨_, e1, h1⟩ := hd 0 _ 8 (by kernel_rfl) rfl rfl
      have h1 : _ = _ := h1
      subst h1
      have hb := (hg.block _ (heap_lt M1.out) (by simp)).trans M1.out
      exact at_mid (wanted_free rfl) rfl e1 (rangeB0 hb) Try.underlying22 rfl (sz22.trans (by simp [U8])) (hK _ _ (grown_refl _ _) rfl (fun h => Bool.noConfusion (show false = true from h)))
    · intro a x2 hg hsp hd K hK
      replace hg := grown_trans hw hg
      have e1 : a.tmps[1]? = some (.pointer (some ⟨b1, 0, none⟩)) := (hsp 1 (by kernel_rfl)).trans rfl
      exact at_value (wanted_free rfl) (run_op_field50 rfl (eval_tmp e1) (fld50_1 _ _)) (hK _ _ (grown_refl _ _) rfl (fun h => Bool.noConfusion (show false = true from h)))
    · intro a x2 hg hsp hd K hK
      replace hg := grown_trans hw hg
      obtain ⟨_, e1, h1⟩ := hd 2 _ 10 (by kernel_rfl) rfl rfl
      have h1 : _ = _ := h1
      subst h1
      have hb := (hg.block _ (heap_lt M1.out) (by simp)).trans M1.out
      exact at_mid (wanted_free rfl) rfl e1 (rangeB 32 (by omega) hb) Try.underlying22 rfl (sz22.trans (by simp [U8])) (hK _ _ (grown_refl _ _) rfl (fun h => Bool.noConfusion (show false = true from h)))
    · intro a x2 hg hsp hd K hK
      replace hg := grown_trans hw hg
      exact at_value (wanted_free rfl) (run_alloc rfl alloc22) (hK _ _ (grown_new (grown_refl _ _) _) ⟨_, rfl, heap_new' _ _ _ rfl, hg.size⟩ (fun _ b hb => by cases hb; exact Nat.le_refl _))
    · intro a x2 hg hsp hd K hK
      replace hg := grown_trans hw hg
      exact at_value (wanted_free rfl) (run_alloc rfl alloc22) (hK _ _ (grown_new (grown_refl _ _) _) ⟨_, rfl, heap_new' _ _ _ rfl, hg.size⟩ (fun _ b hb => by cases hb; exact Nat.le_refl _))
  · obtain ⟨_, e3, b3, rfl, m3, z3⟩ := hL.known 4 _ _ 3 (by decide) (hL.all 4 (by decide) rfl) rfl rfl rfl
    obtain ⟨_, e4, b4, rfl, m4, z4⟩ := hL.known 5 _ _ 4 (by decide) (hL.all 5 (by decide) rfl) rfl rfl rfl
    obtain ⟨_, e9, h9⟩ := hL.known 1 _ _ 9 (by decide) (hL.all 1 (by decide) rfl) rfl rfl rfl
    have h9 : _ = _ := h9
    subst h9
    have n34 := hL.apart 4 5 _ _ 3 4 b3 b4 (by decide) rfl rfl rfl rfl rfl rfl (hL.all 4 (by decide) rfl) (hL.all 5 (by decide) rfl) e3 e4
    have e1 : a.tmps[1]? = some (.pointer (some ⟨b1, 0, none⟩)) := (hL.spare 1 (by kernel_rfl)).trans rfl
    have hb1 : x.heap[b1]? = some (.cells (B66 f) 50 (0, 0)) := (hL.grown.block _ (heap_lt M1.out) (by simp)).trans M1.out
    have n13 : b1 ≠ b3 := Nat.ne_of_lt (Nat.lt_of_lt_of_le (heap_lt M1.out) z3)
    have hb1s : ∀ r, (x.setRow b3 r).heap[b1]? = some (.cells (B66 f) 50 (0, 0)) := fun r => (setRow_other _ _ _ _ n13).trans hb1
    have T4 : ∀ r, (x.setRow b3 r).heap[b4]? = some (.cells (U8 fun _ => 0) 22 (0, 0)) := fun r => by rw [setRow_other _ _ _ _ (Ne.symm n34)]; exact m4
    have tt : ∀ i, i < 6 → ([true, true, true, true, true, true, false, false].toArray : Array Bool).getD i false = true := by decide
    have ekn : Kn10 _ _ 6 listed a x := hL.known
    have esz := hL.size
    have edf := hL.defers
    have esp := hL.spare
    cases h2 : listed.getD 2 false <;> cases h3 : listed.getD 3 false
    · have hl := listed_eq (late := fun i => i == 2 || i == 3) [true, true, false, false, true, true, false, false] hL.many hL.all hL.none_ (fun i hi hl => by
        simp at hl
        rcases hl with rfl | rfl
        · rw [h2]; rfl
        · rw [h3]; rfl) (by kernel_rfl)
      subst hl
      change wpAny _ _ _ Q' 4 _ _ _
      have qsz : (a.put (some 10) (.pointer (some ⟨b1, 32, none⟩))).tmps.size = 71 := (put_size _ _ _).trans esz
      have qdf := (put_defers a (some 10) (.pointer (some ⟨b1, 32, none⟩))).trans edf
      have q3 := (put_other a (some 10) (.pointer (some ⟨b1, 32, none⟩)) 3 (by simp)).trans e3
      have q4 := (put_other a (some 10) (.pointer (some ⟨b1, 32, none⟩)) 4 (by simp)).trans e4
      have q9 := (put_other a (some 10) (.pointer (some ⟨b1, 32, none⟩)) 9 (by simp)).trans e9
      have q10 : (a.put (some 10) (.pointer (some ⟨b1, 32, none⟩))).tmps[10]? = some (.pointer (some ⟨b1, 32, none⟩)) := put_same _ _ _ (by rw [esz]; decide)
      have qkn := Kn10.put (i := 2) (v := .pointer (some ⟨b1, 32, none⟩)) ((headL_of (N := 71) (late := fun i => i == 2 || i == 3) (by kernel_rfl)).1) ekn rfl rfl rfl (by rw [esz]; decide) rfl
      have qsp := fun k (hk : spares _ k = true) => (put_other a (some 10) (.pointer (some ⟨b1, 32, none⟩)) k (spares_ne hk _ (List.mem_of_getElem? (i := 2) rfl))).trans (esp k hk)
      refine wpAny_two (i := 2) (j := 6) (by kernel_rfl) rfl rfl (at_value (wanted_free rfl) (run_op_field50 rfl (eval_tmp e1) (fld50_1 _ _)) ?_) (at_store_rowU (wanted_free rfl) rfl rfl e3 e9 m3 rfl ?_)
      ·
        refine late_tailM 3 6 (v := .agg (U8 (fun j => f (32 + j)))) (w1 := x.setRow b3 (U8 (fun j => f j))) (w2 := (x.setRow b3 (U8 (fun j => f j))).setRow b4 (U8 (fun j => f (32 + j)))) rfl rfl rfl (by kernel_rfl) (by kernel_rfl) (by kernel_rfl) (by kernel_rfl) (by kernel_rfl) (by kernel_rfl) (by kernel_rfl) (fun y hy K hK => ?_) (fun a' ha' K hK => ?_) (fun K hK => ?_) ?_
        · rcases hy with rfl | rfl
          · exact (at_mid (wanted_free rfl) rfl q10 (rangeB 32 (by omega) hb1) Try.underlying22 rfl (sz22.trans (by simp [U8])) hK)
          · exact (at_mid (wanted_free rfl) rfl q10 (rangeB 32 (by omega) (hb1s _)) Try.underlying22 rfl (sz22.trans (by simp [U8])) hK)
        · rcases ha' with rfl | rfl
          · exact at_store_rowU (wanted_free rfl) rfl rfl q3 q9 m3 rfl hK
          · exact at_store_rowU (wanted_free rfl) rfl rfl ((put_other _ _ _ _ (by simp)).trans q3) ((put_other _ _ _ _ (by simp)).trans q9) m3 rfl hK
        · exact at_store_rowU (wanted_free rfl) rfl rfl ((put_other _ _ _ _ (by simp)).trans q4) (put_same _ 11 _ (by rw [qsz]; decide)) (T4 _) rfl hK
        · have kq := Kn10.put (i := 3) (v := .agg (U8 (fun j => f (32 + j)))) ((headL_of (N := 71) (late := fun i => i == 2 || i == 3) (by kernel_rfl)).1) qkn rfl rfl rfl (by rw [qsz]; decide) rfl
          exact hQ _ x _ hL.grown ((put_size _ _ _).trans qsz) ((put_defers _ _ _).trans qdf) (fun k hk => (put_other _ _ _ _ (spares_ne hk _ (List.mem_of_getElem? (i := 3) rfl))).trans (qsp k hk)) (fun i s o d hs ho hd => kq i s o d (by have := (List.getElem?_eq_some_iff.1 hs).1; exact this) (tt i (by have := (List.getElem?_eq_some_iff.1 hs).1; exact this)) hs ho hd) ⟨b3, b4, (put_other _ _ _ _ (by simp)).trans q3, (put_other _ _ _ _ (by simp)).trans q4, n34, rfl⟩
      · refine wpAny_one (i := 2) (by kernel_rfl) rfl (at_value (wanted_free rfl) (run_op_field50 rfl (eval_tmp e1) (fld50_1 _ _)) ?_)
        refine wpAny_one (i := 3) (by kernel_rfl) rfl (at_mid (wanted_free rfl) rfl q10 (rangeB 32 (by omega) (hb1s _)) Try.underlying22 rfl (sz22.trans (by simp [U8])) ?_)
        refine wpAny_one (i := 7) (by kernel_rfl) rfl (at_store_rowU (wanted_free rfl) rfl rfl ((put_other _ _ _ _ (by simp)).trans q4) (put_same _ 11 _ (by rw [qsz]; decide)) (T4 _) rfl ?_)
        have kq := Kn10.put (i := 3) (v := .agg (U8 (fun j => f (32 + j)))) ((headL_of (N := 71) (late := fun i => i == 2 || i == 3) (by kernel_rfl)).1) qkn rfl rfl rfl (by rw [qsz]; decide) rfl
        exact ⟨by kernel_rfl, hQ _ x _ hL.grown ((put_size _ _ _).trans qsz) ((put_defers _ _ _).trans qdf) (fun k hk => (put_other _ _ _ _ (spares_ne hk _ (List.mem_of_getElem? (i := 3) rfl))).trans (qsp k hk)) (fun i s o d hs ho hd => kq i s o d (by have := (List.getElem?_eq_some_iff.1 hs).1; exact this) (tt i (by have := (List.getElem?_eq_some_iff.1 hs).1; exact this)) hs ho hd) ⟨b3, b4, (put_other _ _ _ _ (by simp)).trans q3, (put_other _ _ _ _ (by simp)).trans q4, n34, rfl⟩⟩
    · have hc := hL.closed 3 _ rfl h3 ⟨2, .data⟩ (by simp) rfl
      rw [h2] at hc
      cases hc
    · have hl := listed_eq (late := fun i => i == 2 || i == 3) [true, true, true, false, true, true, false, false] hL.many hL.all hL.none_ (fun i hi hl => by
        simp at hl
        rcases hl with rfl | rfl
        · rw [h2]; rfl
        · rw [h3]; rfl) (by kernel_rfl)
      subst hl
      change wpAny _ _ _ Q' 3 _ _ _
      obtain ⟨_, e10, h10⟩ := hL.known 2 _ _ 10 (by decide) h2 rfl rfl rfl
      have h10 : _ = _ := h10
      subst h10
      refine late_tailM 3 6 (v := .agg (U8 (fun j => f (32 + j)))) (w1 := x.setRow b3 (U8 (fun j => f j))) (w2 := (x.setRow b3 (U8 (fun j => f j))).setRow b4 (U8 (fun j => f (32 + j)))) rfl rfl rfl (by kernel_rfl) (by kernel_rfl) (by kernel_rfl) (by kernel_rfl) (by kernel_rfl) (by kernel_rfl) (by kernel_rfl) (fun y hy K hK => ?_) (fun a' ha' K hK => ?_) (fun K hK => ?_) ?_
      · rcases hy with rfl | rfl
        · exact (at_mid (wanted_free rfl) rfl e10 (rangeB 32 (by omega) hb1) Try.underlying22 rfl (sz22.trans (by simp [U8])) hK)
        · exact (at_mid (wanted_free rfl) rfl e10 (rangeB 32 (by omega) (hb1s _)) Try.underlying22 rfl (sz22.trans (by simp [U8])) hK)
      · rcases ha' with rfl | rfl
        · exact at_store_rowU (wanted_free rfl) rfl rfl e3 e9 m3 rfl hK
        · exact at_store_rowU (wanted_free rfl) rfl rfl ((put_other _ _ _ _ (by simp)).trans e3) ((put_other _ _ _ _ (by simp)).trans e9) m3 rfl hK
      · exact at_store_rowU (wanted_free rfl) rfl rfl ((put_other _ _ _ _ (by simp)).trans e4) (put_same _ 11 _ (by rw [esz]; decide)) (T4 _) rfl hK
      · have kq := Kn10.put (i := 3) (v := .agg (U8 (fun j => f (32 + j)))) ((headL_of (N := 71) (late := fun i => i == 2 || i == 3) (by kernel_rfl)).1) ekn rfl rfl rfl (by rw [esz]; decide) rfl
        exact hQ _ x _ hL.grown ((put_size _ _ _).trans esz) ((put_defers _ _ _).trans edf) (fun k hk => (put_other _ _ _ _ (spares_ne hk _ (List.mem_of_getElem? (i := 3) rfl))).trans (esp k hk)) (fun i s o d hs ho hd => kq i s o d (by have := (List.getElem?_eq_some_iff.1 hs).1; exact this) (tt i (by have := (List.getElem?_eq_some_iff.1 hs).1; exact this)) hs ho hd) ⟨b3, b4, (put_other _ _ _ _ (by simp)).trans e3, (put_other _ _ _ _ (by simp)).trans e4, n34, rfl⟩
    · have hl := listed_eq (late := fun i => i == 2 || i == 3) [true, true, true, true, true, true, false, false] hL.many hL.all hL.none_ (fun i hi hl => by
        simp at hl
        rcases hl with rfl | rfl
        · rw [h2]; rfl
        · rw [h3]; rfl) (by kernel_rfl)
      subst hl
      change wpAny _ _ _ Q' 2 _ _ _
      obtain ⟨_, e11, h11⟩ := hL.known 3 _ _ 11 (by decide) h3 rfl rfl rfl
      have h11 : _ = _ := h11
      subst h11
      refine wpAny_one (i := 6) (by kernel_rfl) rfl (at_store_rowU (wanted_free rfl) rfl rfl e3 e9 m3 rfl ?_)
      refine wpAny_one (i := 7) (by kernel_rfl) rfl (at_store_rowU (wanted_free rfl) rfl rfl e4 e11 (T4 _) rfl ?_)
      exact ⟨by kernel_rfl, hQ a x _ hL.grown esz edf esp (fun i s o d hs ho hd => ekn i s o d (by have := (List.getElem?_eq_some_iff.1 hs).1; exact this) (tt i (by have := (List.getElem?_eq_some_iff.1 hs).1; exact this)) hs ho hd) ⟨b3, b4, e3, e4, n34, rfl⟩⟩
  · obtain ⟨c3, c4, e3, e4, n34, hy⟩ := hst
    have v0 : vs 0 = _ := hv 0 _ rfl
    have v1 : vs 1 = _ := hv 1 _ rfl
    have v2 : vs 2 = _ := hv 2 _ rfl
    have v3 : vs 3 = _ := hv 3 _ rfl
    obtain ⟨b3, v4, m3, z3⟩ := hv 4 _ rfl
    obtain ⟨b4, v5, m4, z4⟩ := hv 5 _ rfl
    clear hv
    simp [seqA, Act.put, v0, v1, v2, v3, v4, v5] at e3 e4
    simp [seqA, Act.put, v0, v1, v2, v3, v4, v5]
    subst e3
    subst e4
    have n13 : b1 ≠ b3 := Nat.ne_of_lt (Nat.lt_of_lt_of_le (heap_lt M1.out) z3)
    have n14 : b1 ≠ b4 := Nat.ne_of_lt (Nat.lt_of_lt_of_le (heap_lt M1.out) z4)
    have l3 : w.heap.size ≤ b3 := Nat.le_trans MB.out.size z3
    have l4 : w.heap.size ≤ b4 := Nat.le_trans MB.out.size z4
    have q1 : y.heap[b1]? = some (.cells (B66 f) 50 (0, 0)) := by rw [hy, setRow_other _ _ _ _ n14, setRow_other _ _ _ _ n13]; exact (hg.block _ (heap_lt M1.out) (by simp)).trans M1.out
    have q3 : y.heap[b3]? = some (.cells (U8 (fun j => f j)) 22 (0, 0)) := by rw [hy, setRow_other _ _ _ _ n34]; exact setRow_heap _ _ _ _ _ _ m3
    have q4 : y.heap[b4]? = some (.cells (U8 (fun j => f (32 + j))) 22 (0, 0)) := by rw [hy]; exact setRow_heap _ _ _ _ _ _ (by rw [setRow_other _ _ _ _ (Ne.symm n34)]; exact m4)
    have qb : Below w.heap.size w y := by
      rw [hy]
      exact below_setRow (below_setRow (MB.out.grown hg MB.out.size (fun j hj => by cases hj)) l3 _) l4 _
    clear hy hg m3 m4 z3 z4 v0 v1 v2 v3 v4 v5 vs M1 MB x w2
    have c1 : y.cell? ⟨b3, 0, none⟩ = some (.int .u8 ((f 0 : Nat) : Int)) := cell_vals q3 (by omega)
    have c2 : y.cell? ⟨b3, 31, none⟩ = some (.int .u8 ((f 31 : Nat) : Int)) := cell_vals q3 (by omega)
    have c3 : y.cell? ⟨b4, 31, none⟩ = some (.int .u8 ((f 63 : Nat) : Int)) := cell_vals q4 (by omega)
    have c4 : y.cell? ⟨b1, 64, none⟩ = some (.int .u8 ((f 64 : Nat) : Int)) := cell_vals q1 (by omega)
    have c5 : y.cell? ⟨b1, 65, none⟩ = some (.int .u8 ((f 65 : Nat) : Int)) := cell_vals q1 (by omega)
    have z1 : y.frozen? ⟨b3, 0, none⟩ = false := frozen_of_row _ _ _ _ _ q3
    have z2 : y.frozen? ⟨b3, 31, none⟩ = false := frozen_of_row _ _ _ _ _ q3
    have z3 : y.frozen? ⟨b4, 31, none⟩ = false := frozen_of_row _ _ _ _ _ q4
    have x1 : bits .xor .u8 ((f 0 : Nat) : Int) (bits .and .u8 ((f 64 : Nat) : Int) 7) = ((f 0 ^^^ (f 64 &&& 7) : Nat) : Int) := xa8 (HFt.out 0 (by omega)) (HFt.out 64 (by omega)) (by decide)
    have x2 : bits .xor .u8 ((f 31 : Nat) : Int) (bits .and .u8 ((f 65 : Nat) : Int) 192) = ((f 31 ^^^ (f 65 &&& 192) : Nat) : Int) := xa8 (HFt.out 31 (by omega)) (HFt.out 65 (by omega)) (by decide)
    have x3 : bits .xor .u8 ((f 63 : Nat) : Int) (bits .and .u8 ((f 64 : Nat) : Int) 128) = ((f 63 ^^^ (f 64 &&& 128) : Nat) : Int) := xa8 (HFt.out 63 (by omega)) (HFt.out 64 (by omega)) (by decide)
    have Q1 := Lib.hid q1
    have Q3 := Lib.hid q3
    have Q4 := Lib.hid q4
    have QB := Lib.hid qb
    have L3 := Lib.hid l3
    have L4 := Lib.hid l4
    clear q1 q3 q4 qb l3 l4
    have R1 : Hid ((((y.setCell ⟨b3, 0, none⟩ (.int .u8 ((f 0 ^^^ f 64 &&& 7 : Nat) : Int))).setCell ⟨b3, 31, none⟩ (.int .u8 ((f 31 ^^^ f 65 &&& 192 : Nat) : Int))).setCell ⟨b4, 31, none⟩ (.int .u8 ((f 63 ^^^ f 64 &&& 128 : Nat) : Int))).heap[b1]? = some (.cells (B66 f) 50 (0, 0))) := Lib.hid (by rw [heap_set_other _ _ _ _ _ n14, heap_set_other _ _ _ _ _ n13, heap_set_other _ _ _ _ _ n13]; exact Q1.out)
    have R3 : Hid ((((y.setCell ⟨b3, 0, none⟩ (.int .u8 ((f 0 ^^^ f 64 &&& 7 : Nat) : Int))).setCell ⟨b3, 31, none⟩ (.int .u8 ((f 31 ^^^ f 65 &&& 192 : Nat) : Int))).setCell ⟨b4, 31, none⟩ (.int .u8 ((f 63 ^^^ f 64 &&& 128 : Nat) : Int))).heap[b3]? = some (.cells (U8 (nB f)) 22 (0, 0))) := Lib.hid (by
      rw [heap_set_other _ _ _ _ _ n34]
      refine (heap_set_vals _ (heap_set_vals _ Q3.out (j := 0) (by omega)) (j := 31) (by omega)).trans (congrArg (fun z => some (Obj.cells z 22 (0, 0))) (vals_congr _ _ fun j hj => ?_))
      unfold upd nB
      by_cases h31 : j = 31
      · subst h31; simp
      · by_cases h0 : j = 0
        · subst h0; simp
        · simp [h31, h0])
    have R4 : Hid ((((y.setCell ⟨b3, 0, none⟩ (.int .u8 ((f 0 ^^^ f 64 &&& 7 : Nat) : Int))).setCell ⟨b3, 31, none⟩ (.int .u8 ((f 31 ^^^ f 65 &&& 192 : Nat) : Int))).setCell ⟨b4, 31, none⟩ (.int .u8 ((f 63 ^^^ f 64 &&& 128 : Nat) : Int))).heap[b4]? = some (.cells (U8 (ptB f)) 22 (0, 0))) := Lib.hid (by
      refine (heap_set_vals _ (((heap_set_other _ _ _ _ _ (Ne.symm n34)).trans (heap_set_other _ _ _ _ _ (Ne.symm n34))).trans Q4.out) (j := 31) (by omega)).trans (congrArg (fun z => some (Obj.cells z 22 (0, 0))) (vals_congr _ _ fun j hj => ?_))
      unfold upd ptB
      by_cases h31 : j = 31
      · subst h31; simp
      · simp [h31])
    have RB : Hid (Below w.heap.size w (((y.setCell ⟨b3, 0, none⟩ (.int .u8 ((f 0 ^^^ f 64 &&& 7 : Nat) : Int))).setCell ⟨b3, 31, none⟩ (.int .u8 ((f 31 ^^^ f 65 &&& 192 : Nat) : Int))).setCell ⟨b4, 31, none⟩ (.int .u8 ((f 63 ^^^ f 64 &&& 128 : Nat) : Int)))) := Lib.hid (((QB.out.setCell (p := ⟨b3, 0, none⟩) L3.out _).setCell (p := ⟨b3, 31, none⟩) L3.out _).setCell (p := ⟨b4, 31, none⟩) L4.out _)
    go_wp2_with fail
    generalize hW : World.setCell _ _ _ = w5 at R1 R3 R4 RB ⊢
    clear hW c1 c2 c3 c4 c5 z1 z2 z3 x1 x2 x3 Q1 Q3 Q4 QB L3 L4 n34 n13 n14
    have q5_44 : Hid (xB (TM (xF (ptB f)) (nB f)) = xB (TM (xF fun j => f (32 + j)) fun j => f j)) := Lib.hid (by rw [xF_ptB, TM_congr _ (cbit_nB f)])
    refine region_kk _ 71 [.eq (.bool true), .eq (.bool false), .eq (.bool false), .eq (.agg (U8 (nB f))), .eq (.agg (U8 (ptB f))), .eq (.agg (U8 (xB (TM (xF (ptB f)) (nB f))))), .eq (.pointer (some ⟨b1, 0, none⟩)), .eq (.agg (U8 (fun j => f j))), .eq (.pointer (some ⟨b1, 32, none⟩)), .eq (.agg (U8 (fun j => f (32 + j)))), .eq (.agg (U8 (xB (TM (xF (fun j => f (32 + j))) (fun j => f j))))), .eq (.bool false), .eq (.bool false)] (by kernel_rfl) (by rfl) (by kernel_rfl) (by kernel_rfl) (fun x1 hw => ?_) (fun vs v hg hv hap => ?_)
    · refine ⟨?_, ?_, ?_, ?_, ?_, ?_, ?_, ?_, ?_, ?_, ?_, ?_, ?_, trivial⟩
      · intro a x2 hg hsp hd K hK
        replace hg := grown_trans hw hg
        refine at_call (wanted_free rfl) rfl (args0) Try.func30 (by kernel_rfl) rfl ?_
        refine (bends_any _).mono ?_
        rintro e w1 ⟨rfl, hb⟩
        exact ⟨_, rfl, hK _ _ (grown_own hb) rfl (fun h => Bool.noConfusion (show false = true from h))⟩
      · intro a x2 hg hsp hd K hK
        replace hg := grown_trans hw hg
        obtain ⟨_, e1, h1⟩ := hd 0 _ 33 (by kernel_rfl) rfl rfl
        have h1 : _ = _ := h1
        subst h1
        exact at_value (wanted_free rfl) (run_not rfl (eval_tmp e1)) (hK _ _ (grown_refl _ _) rfl (fun h => Bool.noConfusion (show false = true from h)))
      · intro a x2 hg hsp hd K hK
        replace hg := grown_trans hw hg
        obtain ⟨_, e1, h1⟩ := hd 1 _ 34 (by kernel_rfl) rfl rfl
        have h1 : _ = _ := h1
        subst h1
        exact at_value (wanted_free rfl) (run_move (Or.inl rfl) (eval_tmp e1)) (hK _ _ (grown_refl _ _) rfl (fun h => Bool.noConfusion (show false = true from h)))
      · intro a x2 hg hsp hd K hK
        replace hg := grown_trans hw hg
        obtain ⟨_, eg, hgd⟩ := hd 2 _ 35 (by kernel_rfl) rfl rfl
        have hgd : _ = _ := hgd
        subst hgd
        have e1 : a.tmps[3]? = some (.pointer (some ⟨b3, 0, none⟩)) := (hsp 3 (by kernel_rfl)).trans rfl
        exact at_row (wanted_on rfl rfl rfl eg) rfl e1 ((hg.block _ (heap_lt R3.out) (by simp)).trans R3.out) Try.underlying22 rfl (sz22.trans (by simp [U8])) (hK _ _ (grown_refl _ _) rfl (fun h => Bool.noConfusion (show false = true from h)))
      · intro a x2 hg hsp hd K hK
        replace hg := grown_trans hw hg
        obtain ⟨_, eg, hgd⟩ := hd 2 _ 35 (by kernel_rfl) rfl rfl
        have hgd : _ = _ := hgd
        subst hgd
        have e1 : a.tmps[4]? = some (.pointer (some ⟨b4, 0, none⟩)) := (hsp 4 (by kernel_rfl)).trans rfl
        exact at_row (wanted_on rfl rfl rfl eg) rfl e1 ((hg.block _ (heap_lt R4.out) (by simp)).trans R4.out) Try.underlying22 rfl (sz22.trans (by simp [U8])) (hK _ _ (grown_refl _ _) rfl (fun h => Bool.noConfusion (show false = true from h)))
      · intro a x2 hg hsp hd K hK
        replace hg := grown_trans hw hg
        obtain ⟨_, eg, hgd⟩ := hd 2 _ 35 (by kernel_rfl) rfl rfl
        have hgd : _ = _ := hgd
        subst hgd
        obtain ⟨_, e1, h1⟩ := hd 3 _ 36 (by kernel_rfl) rfl rfl
        have h1 : _ = _ := h1
        subst h1
        obtain ⟨_, e2, h2⟩ := hd 4 _ 37 (by kernel_rfl) rfl rfl
        have h2 : _ = _ := h2
        subst h2
        refine at_call (wanted_on rfl rfl rfl eg) rfl (args2 e1 e2) Try.func29 (by kernel_rfl) rfl ?_
        refine (eTimes _ _ (nB_lt HFt.out) (ptB_lt HFt.out) _).mono ?_
        rintro e w1 ⟨rfl, hb⟩
        exact ⟨_, rfl, hK _ _ (grown_own hb) rfl (fun h => Bool.noConfusion (show false = true from h))⟩
      · intro a x2 hg hsp hd K hK
        replace hg := grown_trans hw hg
        obtain ⟨_, eg, hgd⟩ := hd 2 _ 35 (by kernel_rfl) rfl rfl
        have hgd : _ = _ := hgd
        subst hgd
        have e1 : a.tmps[1]? = some (.pointer (some ⟨b1, 0, none⟩)) := (hsp 1 (by kernel_rfl)).trans rfl
        exact at_value (wanted_on rfl rfl rfl eg) (run_op_field50 rfl (eval_tmp e1) (fld50_0 _ _)) (hK _ _ (grown_refl _ _) rfl (fun h => Bool.noConfusion (show false = true from h)))
      · intro a x2 hg hsp hd K hK
        replace hg := grown_trans hw hg
        obtain ⟨_, eg, hgd⟩ := hd 2 _ 35 (by kernel_rfl) rfl rfl
        have hgd : _ = _ := hgd
        subst hgd
        obtain ⟨_, e1, h1⟩ := hd 6 _ 39 (by kernel_rfl) rfl rfl
        have h1 : _ = _ := h1
        subst h1
        exact at_mid (wanted_on rfl rfl rfl eg) rfl e1 ((fun v (hg : World.grownBy w5 v none) => rangeB0 ((hg.block _ (heap_lt R1.out) (by simp)).trans R1.out)) _ hg) Try.underlying22 rfl (sz22.trans (by simp [U8])) (hK _ _ (grown_refl _ _) rfl (fun h => Bool.noConfusion (show false = true from h)))
      · intro a x2 hg hsp hd K hK
        replace hg := grown_trans hw hg
        obtain ⟨_, eg, hgd⟩ := hd 2 _ 35 (by kernel_rfl) rfl rfl
        have hgd : _ = _ := hgd
        subst hgd
        have e1 : a.tmps[1]? = some (.pointer (some ⟨b1, 0, none⟩)) := (hsp 1 (by kernel_rfl)).trans rfl
        exact at_value (wanted_on rfl rfl rfl eg) (run_op_field50 rfl (eval_tmp e1) (fld50_1 _ _)) (hK _ _ (grown_refl _ _) rfl (fun h => Bool.noConfusion (show false = true from h)))
      · intro a x2 hg hsp hd K hK
        replace hg := grown_trans hw hg
        obtain ⟨_, eg, hgd⟩ := hd 2 _ 35 (by kernel_rfl) rfl rfl
        have hgd : _ = _ := hgd
        subst hgd
        obtain ⟨_, e1, h1⟩ := hd 8 _ 41 (by kernel_rfl) rfl rfl
        have h1 : _ = _ := h1
        subst h1
        exact at_mid (wanted_on rfl rfl rfl eg) rfl e1 ((fun v (hg : World.grownBy w5 v none) => rangeB 32 (by omega) ((hg.block _ (heap_lt R1.out) (by simp)).trans R1.out)) _ hg) Try.underlying22 rfl (sz22.trans (by simp [U8])) (hK _ _ (grown_refl _ _) rfl (fun h => Bool.noConfusion (show false = true from h)))
      · intro a x2 hg hsp hd K hK
        replace hg := grown_trans hw hg
        obtain ⟨_, eg, hgd⟩ := hd 2 _ 35 (by kernel_rfl) rfl rfl
        have hgd : _ = _ := hgd
        subst hgd
        obtain ⟨_, e1, h1⟩ := hd 7 _ 40 (by kernel_rfl) rfl rfl
        have h1 : _ = _ := h1
        subst h1
        obtain ⟨_, e2, h2⟩ := hd 9 _ 42 (by kernel_rfl) rfl rfl
        have h2 : _ = _ := h2
        subst h2
        refine at_call (wanted_on rfl rfl rfl eg) rfl (args2 e1 e2) Try.func29 (by kernel_rfl) rfl ?_
        refine (eTimes _ _ (fun j hj => HFt.out j (by omega)) (fun j hj => HFt.out _ (by omega)) _).mono ?_
        rintro e w1 ⟨rfl, hb⟩
        exact ⟨_, rfl, hK _ _ (grown_own hb) rfl (fun h => Bool.noConfusion (show false = true from h))⟩
      · intro a x2 hg hsp hd K hK
        replace hg := grown_trans hw hg
        obtain ⟨_, eg, hgd⟩ := hd 2 _ 35 (by kernel_rfl) rfl rfl
        have hgd : _ = _ := hgd
        subst hgd
        obtain ⟨_, e1, h1⟩ := hd 5 _ 38 (by kernel_rfl) rfl rfl
        have h1 : _ = _ := h1
        subst h1
        obtain ⟨_, e2, h2⟩ := hd 10 _ 43 (by kernel_rfl) rfl rfl
        have h2 : _ = _ := h2
        subst h2
        exact at_value (wanted_on rfl rfl rfl eg) (run_op_neq22 rfl (eval_tmp e1) (eval_tmp e2) (xB_lt _) (xB_lt _)) (hK _ _ (grown_refl _ _) (show Value.bool _ = Value.bool false from by rw [q5_44.out]; simp) (fun h => Bool.noConfusion (show false = true from h)))
      · intro a x2 hg hsp hd K hK
        replace hg := grown_trans hw hg
        obtain ⟨_, e1, h1⟩ := hd 2 _ 35 (by kernel_rfl) rfl rfl
        have h1 : _ = _ := h1
        subst h1
        obtain ⟨_, e2, h2⟩ := hd 11 _ 44 (by kernel_rfl) rfl rfl
        have h2 : _ = _ := h2
        subst h2
        exact at_value (wanted_free rfl) (run_pick (v := .bool false) rfl (eval_tmp e1) ((if_neg (by decide)).trans (eval_tmp e2))) (hK _ _ (grown_refl _ _) rfl (fun h => Bool.noConfusion (show false = true from h)))
    have v0 : vs 0 = _ := hv 0 _ rfl
    have v1 : vs 1 = _ := hv 1 _ rfl
    have v2 : vs 2 = _ := hv 2 _ rfl
    have v3 : vs 3 = _ := hv 3 _ rfl
    have v4 : vs 4 = _ := hv 4 _ rfl
    have v5 : vs 5 = _ := hv 5 _ rfl
    have v6 : vs 6 = _ := hv 6 _ rfl
    have v7 : vs 7 = _ := hv 7 _ rfl
    have v8 : vs 8 = _ := hv 8 _ rfl
    have v9 : vs 9 = _ := hv 9 _ rfl
    have v10 : vs 10 = _ := hv 10 _ rfl
    have v11 : vs 11 = _ := hv 11 _ rfl
    have v12 : vs 12 = _ := hv 12 _ rfl
    simp [seqA, Act.put, v0, v1, v2, v3, v4, v5, v6, v7, v8, v9, v10, v11, v12]
    have R1' := Lib.hid ((hg.block _ (heap_lt R1.out) (by simp)).trans R1.out)
    have RB' := Lib.hid (RB.out.grown hg RB.out.size (fun j hj => by cases hj))
    clear hv hap hg R1 R3 R4 RB q5_44 v0 v1 v2 v3 v4 v5 v6 v7 v8 v9 v10 v11 v12
    have c5 : v.cell? ⟨b1, 65, none⟩ = some (.int .u8 ((f 65 : Nat) : Int)) := cell_vals R1'.out (by omega)
    obtain ⟨s, hs⟩ : ∃ s, s = f 65 % 19 := ⟨_, rfl⟩
    have HS : Hid (s < 19) := Lib.hid (by omega)
    have r1 : ((f 65 : Nat) : Int) % 19 = (s : Int) := by omega
    have r2 : ((237 : Int) + (s : Int)) % 256 = 237 + (s : Int) := by have := HS.out; omega
    clear hs
    obtain ⟨w6, hw⟩ : ∃ zz, zz = World.setRow (v.alloc (.cells #[.int .u8 0, .int .u8 0, .int .u8 0, .int .u8 0, .int .u8 0, .int .u8 0, .int .u8 0, .int .u8 0, .int .u8 0, .int .u8 0, .int .u8 0, .int .u8 0, .int .u8 0, .int .u8 0, .int .u8 0, .int .u8 0, .int .u8 0, .int .u8 0, .int .u8 0, .int .u8 0, .int .u8 0, .int .u8 0, .int .u8 0, .int .u8 0, .int .u8 0, .int .u8 0, .int .u8 0, .int .u8 0, .int .u8 0, .int .u8 0, .int .u8 0, .int .u8 0] 22)) v.heap.size (U8 (smB s)) := ⟨_, rfl⟩
    have T1 : Hid ((v.alloc (.cells #[.int .u8 0, .int .u8 0, .int .u8 0, .int .u8 0, .int .u8 0, .int .u8 0, .int .u8 0, .int .u8 0, .int .u8 0, .int .u8 0, .int .u8 0, .int .u8 0, .int .u8 0, .int .u8 0, .int .u8 0, .int .u8 0, .int .u8 0, .int .u8 0, .int .u8 0, .int .u8 0, .int .u8 0, .int .u8 0, .int .u8 0, .int .u8 0, .int .u8 0, .int .u8 0, .int .u8 0, .int .u8 0, .int .u8 0, .int .u8 0, .int .u8 0, .int .u8 0] 22)).heap[v.heap.size]? = some (.cells #[.int .u8 0, .int .u8 0, .int .u8 0, .int .u8 0, .int .u8 0, .int .u8 0, .int .u8 0, .int .u8 0, .int .u8 0, .int .u8 0, .int .u8 0, .int .u8 0, .int .u8 0, .int .u8 0, .int .u8 0, .int .u8 0, .int .u8 0, .int .u8 0, .int .u8 0, .int .u8 0, .int .u8 0, .int .u8 0, .int .u8 0, .int .u8 0, .int .u8 0, .int .u8 0, .int .u8 0, .int .u8 0, .int .u8 0, .int .u8 0, .int .u8 0, .int .u8 0] 22 (0, 0))) := Lib.hid (heap_new' _ _ _ rfl)
    have R5 : Hid (w6.heap[v.heap.size]? = some (.cells (U8 (smB s)) 22 (0, 0))) := Lib.hid (by rw [hw]; exact setRow_heap _ _ _ _ _ _ T1.out)
    have R1 := Lib.hid (row_new hw R1'.out)
    have RB := Lib.hid (below_new hw RB'.out)
    have HW6 := Lib.hid hw
    clear hw R1' RB'
    have c6 : w6.cell? ⟨b1, 65, none⟩ = some (.int .u8 ((f 65 : Nat) : Int)) := cell_vals R1.out (by omega)
    obtain ⟨w7, hw⟩ : ∃ zz, zz = World.setRow (w6.alloc (.cells #[.int .u8 0, .int .u8 0, .int .u8 0, .int .u8 0, .int .u8 0, .int .u8 0, .int .u8 0, .int .u8 0, .int .u8 0, .int .u8 0, .int .u8 0, .int .u8 0, .int .u8 0, .int .u8 0, .int .u8 0, .int .u8 0, .int .u8 0, .int .u8 0, .int .u8 0, .int .u8 0, .int .u8 0, .int .u8 0, .int .u8 0, .int .u8 0, .int .u8 0, .int .u8 0, .int .u8 0, .int .u8 0, .int .u8 0, .int .u8 0, .int .u8 0, .int .u8 0] 22)) w6.heap.size (U8 (moK s 1)) := ⟨_, rfl⟩
    have T2 : Hid ((w6.alloc (.cells #[.int .u8 0, .int .u8 0, .int .u8 0, .int .u8 0, .int .u8 0, .int .u8 0, .int .u8 0, .int .u8 0, .int .u8 0, .int .u8 0, .int .u8 0, .int .u8 0, .int .u8 0, .int .u8 0, .int .u8 0, .int .u8 0, .int .u8 0, .int .u8 0, .int .u8 0, .int .u8 0, .int .u8 0, .int .u8 0, .int .u8 0, .int .u8 0, .int .u8 0, .int .u8 0, .int .u8 0, .int .u8 0, .int .u8 0, .int .u8 0, .int .u8 0, .int .u8 0] 22)).heap[w6.heap.size]? = some (.cells #[.int .u8 0, .int .u8 0, .int .u8 0, .int .u8 0, .int .u8 0, .int .u8 0, .int .u8 0, .int .u8 0, .int .u8 0, .int .u8 0, .int .u8 0, .int .u8 0, .int .u8 0, .int .u8 0, .int .u8 0, .int .u8 0, .int .u8 0, .int .u8 0, .int .u8 0, .int .u8 0, .int .u8 0, .int .u8 0, .int .u8 0, .int .u8 0, .int .u8 0, .int .u8 0, .int .u8 0, .int .u8 0, .int .u8 0, .int .u8 0, .int .u8 0, .int .u8 0] 22 (0, 0))) := Lib.hid (heap_new' _ _ _ rfl)
    have R6 : Hid (w7.heap[w6.heap.size]? = some (.cells (U8 (moK s 1)) 22 (0, 0))) := Lib.hid (by rw [hw]; exact setRow_heap _ _ _ _ _ _ T2.out)
    replace R1 := Lib.hid (row_new hw R1.out)
    replace R5 := Lib.hid (row_new hw R5.out)
    have N56 : Hid (v.heap.size ≠ w6.heap.size) := Lib.hid (Nat.ne_of_lt (heap_lt (show w6.heap[v.heap.size]? = some (.cells (U8 (smB s)) 22 (0, 0)) by rw [HW6.out]; exact setRow_heap _ _ _ _ _ _ T1.out)))
    have L6 := Lib.hid RB.out.size
    replace RB := Lib.hid (below_new hw RB.out)
    have N16 : Hid (b1 ≠ w6.heap.size) := Lib.hid (Nat.ne_of_lt ((World.block_lt_of_cell? _ _ c6)))
    have HW7 := Lib.hid hw
    clear hw
    go_wp2_with (first | (refine wpList_store_row rfl 22 (.tmp 5) (.tmp 49) rfl v.heap.size (U8 (smB s)) rfl rfl 22 _ T1.out (sz22.trans (by simp [U8])) (by first | (simp [U8]; done) | (simp [U8]; rfl)) (vals_one _ _ _) ?_; rw [← HW6.out]) | (refine wpList_store_row rfl 22 (.tmp 6) (.tmp 54) rfl w6.heap.size (U8 (moK s 1)) rfl rfl 22 _ T2.out (sz22.trans (by simp [U8])) (by first | (simp [U8]; done) | (simp [U8]; rfl)) (vals_one _ _ _) ?_; rw [← HW7.out]) | fail)
    obtain ⟨b5, e5⟩ : ∃ b, v.heap.size = b := ⟨_, rfl⟩
    obtain ⟨b6, e6⟩ : ∃ b, w6.heap.size = b := ⟨_, rfl⟩
    rw [e5] at R5 N56 ⊢
    rw [e6] at R6 N56 N16 L6 ⊢
    clear c5 c6 r1 r2 T1 T2 HW6 HW7 e5 e6
    go_loopw [7] (fun i wr => ∃ k : Nat, 1 ≤ k ∧ k ≤ 31 ∧ i = .int .i64 k ∧ wr.heap[b6]? = some (.cells (U8 (moK s k)) 22 (0, 0)) ∧ wr.heap[b5]? = some (.cells (U8 (smB s)) 22 (0, 0)) ∧ wr.heap[b1]? = some (.cells (B66 f) 50 (0, 0)) ∧ Below w.heap.size w wr) (fun i _ => 31 - (intOf i).toNat)
    case atStart => exact ⟨1, by omega, by omega, rfl, R6.out, R5.out, R1.out, RB.out⟩
    case round =>
      clear R6 R5 R1 RB
      obtain ⟨k, hk1, hk2, rfl, h6, h5, h1, hb⟩ := hrel
      have R6 := Lib.hid h6
      have R5 := Lib.hid h5
      have R1 := Lib.hid h1
      have RB := Lib.hid hb
      have f6 : ∀ j, wr.frozen? ⟨b6, j, none⟩ = false := fun j => frozen_of_row _ _ _ _ _ h6
      by_cases hx : k < 31
      · have hlt : decide ((k : Int) < 31) = true := by simp; omega
        have c6 : wr.cell? ⟨b6, k, none⟩ = some (.int .u8 ((moK s k k : Nat) : Int)) := cell_vals h6 (by omega)
        clear h6 h5 h1 hb
        go_wp2
        go_roundw
        case measure => simp [intOf]; omega
        refine ⟨k + 1, by omega, by omega, by simp, ?_, (heap_set_other _ _ _ _ _ N56.out).trans R5.out, (heap_set_other _ _ _ _ _ N16.out).trans R1.out, RB.out.setCell (p := ⟨b6, k, none⟩) L6.out _⟩
        refine (heap_set_vals _ R6.out (j := k) (by omega)).trans (congrArg (fun z => some (Obj.cells z 22 (0, 0))) (vals_congr _ _ fun j hj => ?_))
        unfold upd moK
        by_cases hjk : j = k
        · subst hjk; rw [if_pos rfl, if_neg (by omega), if_pos (by omega)]; rfl
        · rw [if_neg hjk]
          by_cases h0 : j = 0
          · simp [h0]
          · simp only [if_neg h0]
            by_cases hl : j < k
            · rw [if_pos hl, if_pos (by omega)]
            · rw [if_neg hl, if_neg (by omega)]
      · obtain rfl : k = 31 := by omega
        have c6 : wr.cell? ⟨b6, 31, none⟩ = some (.int .u8 ((moK s 31 31 : Nat) : Int)) := cell_vals h6 (by omega)
        have f7 := f6 31
        clear h6 h5 h1 hb f6
        go_wp2_with fail
        generalize hW : wr.setCell _ _ = w9
        replace R5 : Hid (w9.heap[b5]? = some (.cells (U8 (smB s)) 22 (0, 0))) := Lib.hid (by rw [← hW]; exact (heap_set_other _ _ _ _ _ N56.out).trans R5.out)
        replace R1 : Hid (w9.heap[b1]? = some (.cells (B66 f) 50 (0, 0))) := Lib.hid (by rw [← hW]; exact (heap_set_other _ _ _ _ _ N16.out).trans R1.out)
        replace RB : Hid (Below w.heap.size w w9) := Lib.hid (by rw [← hW]; exact RB.out.setCell (p := ⟨b6, 31, none⟩) L6.out _)
        replace R6 : Hid (w9.heap[b6]? = some (.cells (U8 (moB s)) 22 (0, 0))) := Lib.hid (by
          rw [← hW]
          refine (heap_set_vals _ R6.out (j := 31) (by omega)).trans (congrArg (fun z => some (Obj.cells z 22 (0, 0))) (vals_congr _ _ fun j hj => ?_))
          unfold upd moK moB
          by_cases hjk : j = 31
          · subst hjk; rfl
          · rw [if_neg hjk]
            by_cases h0 : j = 0
            · simp [h0]
            · simp only [if_neg h0, if_neg hjk]
              rw [if_pos (by omega)])
        clear hW c6 f7 hx hk1 hk2
        have q14_70 : Hid (xB (TM (xF (smB s)) fun j => f j) = xB (TM (xF (moB s)) fun j => f j)) := Lib.hid (by rw [xF_moB s HS.out])
        refine region_kk _ 71 [.eq (.pointer (some ⟨b1, 0, none⟩)), .eq (.agg (U8 (fun j => f j))), .eq (.agg (U8 (smB s))), .eq (.agg (U8 (xB (TM (xF (smB s)) (fun j => f j))))), .eq (.pointer (some ⟨b1, 0, none⟩)), .eq (.agg (U8 (fun j => f j))), .eq (.agg (U8 (moB s))), .eq (.agg (U8 (xB (TM (xF (moB s)) (fun j => f j))))), .eq (.bool true), .eq (.bool true)] (by kernel_rfl) (by rfl) (by kernel_rfl) (by kernel_rfl) (fun x1 hw => ?_) (fun vs v hg hv hap => ?_)
        · refine ⟨?_, ?_, ?_, ?_, ?_, ?_, ?_, ?_, ?_, ?_, trivial⟩
          · intro a x2 hg hsp hd K hK
            replace hg := grown_trans hw hg
            have e1 : a.tmps[1]? = some (.pointer (some ⟨b1, 0, none⟩)) := (hsp 1 (by kernel_rfl)).trans rfl
            exact at_value (wanted_free rfl) (run_op_field50 rfl (eval_tmp e1) (fld50_0 _ _)) (hK _ _ (grown_refl _ _) rfl (fun h => Bool.noConfusion (show false = true from h)))
          · intro a x2 hg hsp hd K hK
            replace hg := grown_trans hw hg
            obtain ⟨_, e1, h1⟩ := hd 0 _ 62 (by kernel_rfl) rfl rfl
            have h1 : _ = _ := h1
            subst h1
            exact at_mid (wanted_free rfl) rfl e1 ((fun v (hg : World.grownBy w9 v none) => rangeB0 ((hg.block _ (heap_lt R1.out) (by simp)).trans R1.out)) _ hg) Try.underlying22 rfl (sz22.trans (by simp [U8])) (hK _ _ (grown_refl _ _) rfl (fun h => Bool.noConfusion (show false = true from h)))
          · intro a x2 hg hsp hd K hK
            replace hg := grown_trans hw hg
            have e1 : a.tmps[5]? = some (.pointer (some ⟨b5, 0, none⟩)) := (hsp 5 (by kernel_rfl)).trans rfl
            exact at_row (wanted_free rfl) rfl e1 ((hg.block _ (heap_lt R5.out) (by simp)).trans R5.out) Try.underlying22 rfl (sz22.trans (by simp [U8])) (hK _ _ (grown_refl _ _) rfl (fun h => Bool.noConfusion (show false = true from h)))
          · intro a x2 hg hsp hd K hK
            replace hg := grown_trans hw hg
            obtain ⟨_, e1, h1⟩ := hd 1 _ 63 (by kernel_rfl) rfl rfl
            have h1 : _ = _ := h1
            subst h1
            obtain ⟨_, e2, h2⟩ := hd 2 _ 64 (by kernel_rfl) rfl rfl
            have h2 : _ = _ := h2
            subst h2
            refine at_call (wanted_free rfl) rfl (args2 e1 e2) Try.func29 (by kernel_rfl) rfl ?_
            refine (eTimes _ _ (fun j hj => HFt.out j (by omega)) (smB_lt HS.out) _).mono ?_
            rintro e w1 ⟨rfl, hb⟩
            exact ⟨_, rfl, hK _ _ (grown_own hb) rfl (fun h => Bool.noConfusion (show false = true from h))⟩
          · intro a x2 hg hsp hd K hK
            replace hg := grown_trans hw hg
            have e1 : a.tmps[1]? = some (.pointer (some ⟨b1, 0, none⟩)) := (hsp 1 (by kernel_rfl)).trans rfl
            exact at_value (wanted_free rfl) (run_op_field50 rfl (eval_tmp e1) (fld50_0 _ _)) (hK _ _ (grown_refl _ _) rfl (fun h => Bool.noConfusion (show false = true from h)))
          · intro a x2 hg hsp hd K hK
            replace hg := grown_trans hw hg
            obtain ⟨_, e1, h1⟩ := hd 4 _ 66 (by kernel_rfl) rfl rfl
            have h1 : _ = _ := h1
            subst h1
            exact at_mid (wanted_free rfl) rfl e1 ((fun v (hg : World.grownBy w9 v none) => rangeB0 ((hg.block _ (heap_lt R1.out) (by simp)).trans R1.out)) _ hg) Try.underlying22 rfl (sz22.trans (by simp [U8])) (hK _ _ (grown_refl _ _) rfl (fun h => Bool.noConfusion (show false = true from h)))
          · intro a x2 hg hsp hd K hK
            replace hg := grown_trans hw hg
            have e1 : a.tmps[6]? = some (.pointer (some ⟨b6, 0, none⟩)) := (hsp 6 (by kernel_rfl)).trans rfl
            exact at_row (wanted_free rfl) rfl e1 ((hg.block _ (heap_lt R6.out) (by simp)).trans R6.out) Try.underlying22 rfl (sz22.trans (by simp [U8])) (hK _ _ (grown_refl _ _) rfl (fun h => Bool.noConfusion (show false = true from h)))
          · intro a x2 hg hsp hd K hK
            replace hg := grown_trans hw hg
            obtain ⟨_, e1, h1⟩ := hd 5 _ 67 (by kernel_rfl) rfl rfl
            have h1 : _ = _ := h1
            subst h1
            obtain ⟨_, e2, h2⟩ := hd 6 _ 68 (by kernel_rfl) rfl rfl
            have h2 : _ = _ := h2
            subst h2
            refine at_call (wanted_free rfl) rfl (args2 e1 e2) Try.func29 (by kernel_rfl) rfl ?_
            refine (eTimes _ _ (fun j hj => HFt.out j (by omega)) (moB_lt HS.out) _).mono ?_
            rintro e w1 ⟨rfl, hb⟩
            exact ⟨_, rfl, hK _ _ (grown_own hb) rfl (fun h => Bool.noConfusion (show false = true from h))⟩
          · intro a x2 hg hsp hd K hK
            replace hg := grown_trans hw hg
            obtain ⟨_, e1, h1⟩ := hd 3 _ 65 (by kernel_rfl) rfl rfl
            have h1 : _ = _ := h1
            subst h1
            obtain ⟨_, e2, h2⟩ := hd 7 _ 69 (by kernel_rfl) rfl rfl
            have h2 : _ = _ := h2
            subst h2
            exact at_value (wanted_free rfl) (run_op_eql22 rfl (eval_tmp e1) (eval_tmp e2) (xB_lt _) (xB_lt _)) (hK _ _ (grown_refl _ _) (show Value.bool _ = Value.bool true from by rw [q14_70.out]; simp) (fun h => Bool.noConfusion (show false = true from h)))
          · intro a x2 hg hsp hd K hK
            replace hg := grown_trans hw hg
            obtain ⟨_, e1, h1⟩ := hd 8 _ 70 (by kernel_rfl) rfl rfl
            have h1 : _ = _ := h1
            subst h1
            exact at_value (wanted_free rfl) (run_move (Or.inr rfl) (eval_tmp e1)) (hK _ _ (grown_refl _ _) rfl (fun h => Bool.noConfusion (show false = true from h)))
        have v0 : vs 0 = _ := hv 0 _ rfl
        have v1 : vs 1 = _ := hv 1 _ rfl
        have v2 : vs 2 = _ := hv 2 _ rfl
        have v3 : vs 3 = _ := hv 3 _ rfl
        have v4 : vs 4 = _ := hv 4 _ rfl
        have v5 : vs 5 = _ := hv 5 _ rfl
        have v6 : vs 6 = _ := hv 6 _ rfl
        have v7 : vs 7 = _ := hv 7 _ rfl
        have v8 : vs 8 = _ := hv 8 _ rfl
        have v9 : vs 9 = _ := hv 9 _ rfl
        simp [seqA, Act.put, v0, v1, v2, v3, v4, v5, v6, v7, v8, v9]
        clear hv hap
        replace RB := RB.out.grown hg RB.out.size (fun j hj => by cases hj)
        go_wp2_with fail
        go_ret
        exact ⟨rfl, RB⟩

end Go.Proofs.Ytikmghmapmlebaa
