/-
  slices.Insert of one range in the middle (f52), where there is no room: into a new row.
-/
import Derived.Test.YtjnekjjaofabeaaNc
namespace Go.Proofs.Ytjnekjjaofabeaa
open Go.RowKit Go.Rh Rng

theorem encS_zeros (k : Nat) : (Builtin.zeroCells (Value.agg #[.int .i64 0, .int .i64 0]).cells k).toList = encS (List.replicate k ((0, 0) : Sp)) := by
  show (Builtin.zeroCells #[.int .i64 0, .int .i64 0] k).toList = _
  rw [zeroCells_two]
  induction k with
  | zero => rfl
  | succ k ih => rw [List.replicate_succ, encS_cons, ← ih, show (k + 1) * 2 = k * 2 + 1 + 1 by omega, List.replicate_succ, List.replicate_succ]

theorem spl_end2 {cur : List Value} {l m : List Sp} {n i k : Nat} (h : cur.take ((i + k) * 2) = encS m) (hl : l.length = n) (hi : i ≤ n) (hm : m.length = i + k) :
    (spl cur ((i + k) * 2) (encS (l.drop i))).take ((n + k) * 2) = encS (m ++ l.drop i) := by
  unfold spl
  rw [h, ← encS_append]
  have e2 : (n + k) * 2 = (encS (m ++ l.drop i)).length := by rw [encS_length, List.length_append, List.length_drop, hl, hm]; omega
  rw [e2]
  exact List.take_left
set_option maxRecDepth 100000 in
theorem insert_grow {w : World} {g c i g2 : Nat} {l : List Sp} {t : Sp} (h : RowAt w g c l) (h2 : One w g2 t) (hi : i < l.length) (hc : c < l.length + 1) (hb : l.length ≤ 100000) :
    Calls Try.prog 52 #[.slice (some ⟨g, 0, none⟩) l.length c, .int .i64 (i : Int), .slice (some ⟨g2, 0, none⟩) 1 1] w fun e w' =>
      ∃ c', e = .returned (.slice (some ⟨w.heap.size, 0, none⟩) (l.length + 1) c') ∧ RowAt w' w.heap.size c' (l.take i ++ t :: l.drop i) ∧ Below w.heap.size w w' := by
  obtain ⟨n, hn⟩ : ∃ n, n = l.length := ⟨_, rfl⟩
  obtain ⟨i0, hi0, hz0, hzs, hzb⟩ := info_parts info93
  have hg := h.lt
  obtain ⟨cur, k1, k2, k3, k4, k5⟩ := h
  rw [← hn] at k3 k5 hi hc hb ⊢
  have hdl : (l.drop i).length = n - i := by rw [List.length_drop, hn]
  have htl : (l.take i).length = i := by rw [List.length_take, ← hn]; omega
  have hkk : (n : Int) + 1 - (i : Int) = ((n + 1 - i : Nat) : Int) := by omega
  have hik : i + (n + 1 - i) = n + 1 := by omega
  have hold : (Builtin.firstCells i0.size i (.slice (some ⟨g, 0, none⟩) i c)).run Try.prog w.drew = .ok (encS (l.take i)).toArray w.drew := by
    rw [hzs]
    exact run_firstCells_some w.drew 2 i ⟨g, 0, none⟩ i c (encS (l.take i)) (by rw [encS_length, htl]) (encS_src (w := w.drew) k1 (fun j hj => by
      rw [htl] at hj
      rw [Nat.zero_add, ← encS_take, List.getElem?_take, if_pos hj, ← k5, List.getElem?_take, if_pos (by omega)]
      simp))
  obtain ⟨G, hG⟩ : ∃ G, G = grownCap w (n + 1) c 93 := ⟨_, rfl⟩
  have hG1 : n + 1 ≤ G := by rw [hG]; exact grownCap_ge w _ _ _
  have hG2 : G ≤ maxLen := by rw [hG]; exact grownCap_le_maxLen _ _ _ _ (by simp only [maxLen]; omega)
  obtain ⟨ROW, hROW⟩ : ∃ ROW : Array Value, ROW = (encS (l.take i)).toArray ++ Builtin.zeroCells (Value.agg #[.int .i64 0, .int .i64 0]).cells (n + 1 - i) ++ Builtin.zeroCells (Value.agg #[.int .i64 0, .int .i64 0]).cells (G - (n + 1)) := ⟨_, rfl⟩
  have hrz : ∀ ty, (Builtin.append_ #[94, 3] ty #[.slice (some ⟨g, 0, none⟩) i c, .int .i64 ((n : Int) + 1 - (i : Int))]).run Try.prog w = .ok (.slice (some ⟨w.heap.size, 0, none⟩) (n + 1) G) (w.drew.alloc (.cells ROW 93)) := fun ty => by
    have h := Lib.run_append_grow_zeros w 94 3 ty 93 i0 _ .i64 .i64 Try.underlying94 Try.underlying3 hi0 hz0 (some ⟨g, 0, none⟩) i c (encS (l.take i)) hold (n + 1 - i) (by omega) (by omega) (by omega) (by omega) (by rw [hzb]; omega) (by rw [hzb, hik]; exact growslice_fits (by omega) (by omega))
    rw [hik, ← hG, ← hROW] at h
    rw [hkk]
    exact h
  have hR1 : ROW.size = G * 2 := by
    rw [hROW, Array.size_append, Array.size_append, List.size_toArray, encS_length, htl, size_zeroCells, size_zeroCells]
    show i * 2 + (n + 1 - i) * 2 + (G - (n + 1)) * 2 = G * 2
    omega
  obtain ⟨L0, hL0⟩ : ∃ L0, L0 = l.take i ++ List.replicate (n + 1 - i) ((0, 0) : Sp) := ⟨_, rfl⟩
  have hL1 : L0.length = n + 1 := by rw [hL0, List.length_append, htl, List.length_replicate]; omega
  have hR2 : ROW.toList.take ((n + 1) * 2) = encS L0 := by
    rw [hROW, Array.toList_append, Array.toList_append, List.toList_toArray, encS_zeros, ← encS_append, ← hL0, ← hL1, ← encS_length]
    exact List.take_left
  obtain ⟨w1, hw1⟩ : ∃ w1, w1 = w.drew.alloc (.cells ROW 93) := ⟨_, rfl⟩
  rw [← hw1] at hrz
  have K1 : Below w.heap.size w w1 := by rw [hw1]; exact ((Below.refl _ w).drew).alloc (by simp) _
  have M1 : w1.heap[w.heap.size]? = some (.cells ROW 93 (0, 0)) := by rw [hw1]; exact heap_alloc_new w.drew _
  have M2 : w1.heap[g]? = some (.cells cur 93 (0, 0)) := (K1.block g hg).trans k1
  have O1 : One w1 g2 t := (K1.block g2 (heap_lt h2)).trans h2
  have HS1 := Lib.hid (show w1.heap.size = w.heap.size + 1 by rw [hw1]; simp)
  have HK1 := Lib.hid K1
  have HM1 := Lib.hid M1
  have HM2 := Lib.hid M2
  have HO1 := Lib.hid O1
  have HN := Lib.hid hn
  have HL := Lib.hid hL1
  have HL0 := Lib.hid hL0
  have HR := Lib.hid (show ROW.size = G * 2 ∧ ROW.toList.take ((n + 1) * 2) = encS L0 from ⟨hR1, hR2⟩)
  have HG := Lib.hid hg
  have HK5 := Lib.hid k5
  have hz2 : ¬ ((i : Int) = (n : Int)) := by omega
  have hz3 : (c : Int) < (n : Int) + 1 := by omega
  have hw1' : IntKind.i64.wrap ((i : Int) + 1) = (i : Int) + 1 := by rw [IntKind.wrap_i64]; omega
  have htn : ((i : Int) + 1).toNat = i + 1 := by omega
  have hb2 : ¬ (G = i + 1) := by omega
  have hb3 : (i : Int) ≤ (n : Int) + 1 := by omega
  have hb4 : ¬ (c = i) := by omega
  have hb5 : ¬ (G = i) := by omega
  have hin : i ≤ n := by omega
  have hic : i ≤ c := by omega
  have hb1 : (0 : Int) ≤ (i : Int) + 1 := by omega
  have hmin : [t].length = Nat.min 1 (n + 1 - i) := by simp only [Nat.min_def]; split <;> simp; omega
  have mixed : Try.prog.follows .mixedOrders = true := by kernel_rfl
  clear K1 M1 M2 O1 hn hL1 hR1 hR2 hROW hw1 hG hold k1 k2 k3 k4 k5 h2 hg hzs hzb hz0 hi0 hL0 hkk
  go_enter Try.func52, Try.ntmps52
  go_wp2_with (first
    | (at_builtin; refine Lib.wpList_append_run _ rfl _ _ _ _ rfl _ _ rfl rfl _ _ (hrz _) ?_)
    | (refine wpList_copyR (o := ⟨some 45, _, _, _, _, _⟩) (by rfl) (.tmp 43) (.tmp 44) rfl rfl rfl HM1.out [t] hmin HO1.out.src (by simp only [List.length_singleton]; have := HR.out.1; omega) ?_; intro w2 hg2 hk2 hs2; have HG2 := Lib.hid hg2; have HK2 := Lib.hid hk2; have HS2 := Lib.hid hs2; clear hg2 hk2 hs2))
  have N2 : w2.heap[g]? = some (.cells cur 93 (0, 0)) := (HK2.out.block g (by have := HG.out; have := HS1.out; omega) (by have := HG.out; omega)).trans HM2.out
  obtain ⟨c1, hc1⟩ : ∃ c1, c1 = spl ROW.toList (i * 2) (encS [t]) := ⟨_, rfl⟩
  have hc1l : c1.length = G * 2 := by rw [hc1, spl_length (by rw [encS_length]; show i * 2 + 1 * 2 ≤ ROW.size; have := HR.out.1; omega), Array.length_toList, HR.out.1]
  have hF := spl_take (m := [t]) (i := i) (n := n + 1) HR.out.2 (by rw [Array.length_toList]; have := HR.out.1; omega) (by simp only [List.length_singleton]; omega)
  rw [← hc1] at hF
  have hG2' := HG2.out
  rw [← hc1] at hG2'
  have hcp : ∀ ty dc sc, (Builtin.copy_ #[94, 94] ty #[.slice (some ⟨w.heap.size, (i + 1) * 2, none⟩) (n - i) dc, .slice (some ⟨g, i * 2, none⟩) (n - i) sc]).run Try.prog w2.drew = .ok (goInt ((n - i : Nat) : Int)) (w2.drew.setRow w.heap.size (spl c1.toArray.toList ((i + 1) * 2) (encS (l.drop i))).toArray) := fun ty dc sc =>
    run_copyK (P := Try.prog) 2 w2.drew 94 94 ty 93 w.heap.size ((i + 1) * 2) (n - i) dc ⟨g, i * 2, none⟩ (n - i) sc (n - i) c1.toArray 93 (encS (l.drop i)) Try.underlying94 size93 hG2' (by simp only [Nat.min_def]; split <;> omega) (by rw [encS_length, hdl])
      (encS_src (w := w2.drew) N2 (row_from HK5.out HN.out.symm i (by omega))) (by rw [encS_length, hdl]; simp only [List.size_toArray]; omega) (encS_one _)
  obtain ⟨W3, hW3⟩ : ∃ W3, W3 = w2.drew.setRow w.heap.size (spl c1.toArray.toList ((i + 1) * 2) (encS (l.drop i))).toArray := ⟨_, rfl⟩
  rw [← hW3] at hcp
  have P3 := Lib.hid (show W3.heap[w.heap.size]? = some (.cells (spl c1 ((i + 1) * 2) (encS (l.drop i))).toArray 93 (0, 0)) by rw [hW3]; exact setRow_heap w2.drew w.heap.size _ _ 93 _ hG2')
  have K3 := Lib.hid (show Keep w2 W3 (fun k => k = w.heap.size) by rw [hW3]; exact Keep.setRow (S := fun k => k = w.heap.size) ((Keep.refl w2 _).drew) (.inr rfl) _)
  have H1l := Lib.hid hc1l
  have HF := Lib.hid hF
  clear N2 hc1 hG2' hW3 hF hc1l
  simp only [Act.put]
  go_region_law_o (refine step_copy_is rfl _ _ 94 94 rfl _ _ (by simp [Act.eval, Act.put]) (by simp [Act.eval, Act.put]) (hcp _ _ _) ?_)
  go_wp2
  go_ret
  have hE := spl_end2 (cur := c1) (l := l) (n := n) (i := i) (k := 1) (m := l.take i ++ [t]) (by
    have := congrArg (fun x => x.take ((i + 1) * 2)) HF.out
    rw [List.take_take, Nat.min_eq_left (by omega), encS_take] at this
    rw [this]
    congr 1
    rw [show L0.take i = l.take i from by rw [HL0.out]; exact List.take_left' htl]
    exact List.take_left' (by rw [List.length_append, htl]; rfl)) HN.out.symm (by omega) (by rw [List.length_append, htl]; rfl)
  refine ⟨G, rfl, ⟨_, P3.out, ?_, ?_, hG2, ?_⟩, HK1.out.trans ((HK2.out.trans K3.out (fun _ _ => id)).below (by have := HS1.out; omega) (fun k hk e => by omega))⟩
  · simp only [List.size_toArray]
    rw [spl_length (by rw [encS_length, hdl, H1l.out]; omega), H1l.out]
  · rw [List.length_append, List.length_cons, htl, hdl]; omega
  · rw [List.length_append, List.length_cons, htl, hdl, show i + (n - i + 1) = n + 1 by omega]
    simpa using hE
end Go.Proofs.Ytjnekjjaofabeaa
