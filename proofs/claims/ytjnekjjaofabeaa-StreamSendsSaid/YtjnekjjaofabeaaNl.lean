/-
  slices.Replace in the middle, where more ranges come than go and there is no room (f50).
-/
import Derived.Test.YtjnekjjaofabeaaNk
namespace Go.Proofs.Ytjnekjjaofabeaa
open Go.RowKit Go.Rh Rng

set_option maxHeartbeats 1000000 in
set_option maxRecDepth 100000 in
theorem replace_grow {w : World} {g c i j g2 mc : Nat} {l ms : List Sp} (h : RowAt w g c l) (h2 : RowAt w g2 mc ms) (hij : i < j) (hj : j < l.length) (hcc : c < i + ms.length + (l.length - j)) (hb : l.length ≤ 100000) (hb2 : ms.length ≤ 100000) :
    Calls Try.prog 50 #[.slice (some ⟨g, 0, none⟩) l.length c, .int .i64 (i : Int), .int .i64 (j : Int), .slice (some ⟨g2, 0, none⟩) ms.length mc] w fun e w' =>
      ∃ c' k, e = .returned (.slice (some ⟨k, 0, none⟩) (i + ms.length + (l.length - j)) c') ∧ w.heap.size ≤ k ∧ RowAt w' k c' (l.take i ++ (ms ++ l.drop j)) ∧ Below w.heap.size w w' := by
  obtain ⟨n, hn⟩ : ∃ n, n = l.length := ⟨_, rfl⟩
  obtain ⟨m, hm⟩ : ∃ m, m = ms.length := ⟨_, rfl⟩
  obtain ⟨i0, hi0, hz0, hzs, hzb⟩ := info_parts info93
  have hg := h.lt
  obtain ⟨cur, k1, k2, k3, k4, k5⟩ := h
  rw [← hn] at k3 k5 hj hb hcc ⊢
  rw [← hm] at hcc hb2 ⊢
  have hdl : (l.drop j).length = n - j := by rw [List.length_drop, hn]
  have htl : (l.take i).length = i := by rw [List.length_take, ← hn]; omega
  obtain ⟨T, hT⟩ : ∃ T, T = i + m + (n - j) := ⟨_, rfl⟩
  rw [← hT] at hcc ⊢
  have hgw : g < w.heap.size := hg
  -- behind the test that there is no room
  have hTc : T ≤ 300000 := by omega
  have HK := Lib.hid k1
  have HN := Lib.hid hn
  have HM := Lib.hid hm
  have H2 := Lib.hid h2
  have hcm : (c : Int) ≤ 9223372036854775807 := by simp only [maxLen] at k4; omega
  have hc : n ≤ c := k3
  have HC := Lib.hid (show cur.size = c * 2 ∧ cur.toList.take (n * 2) = encS l from ⟨k2, k5⟩)
  have mixed : Try.prog.follows .mixedOrders = true := by kernel_rfl
  have hz1 : ¬ ((i : Int) = (j : Int)) := by omega
  have hz2 : ¬ ((j : Int) = (n : Int)) := by omega
  have q1 : i ≤ j := by omega
  have q2 : j ≤ c := by omega
  have q3 : i ≤ c := by omega
  have q4 : j ≤ n := by omega
  have q5 : i ≤ n := by omega
  have q6 : ¬ (c = j) := by omega
  have q7 : ¬ (c = i) := by omega
  have q8 : IntKind.i64.wrap ((i : Int) + (m : Int)) = (i : Int) + (m : Int) := by rw [IntKind.wrap_i64]; omega
  have q9 : IntKind.i64.wrap ((i : Int) + (m : Int) + ((n - j : Nat) : Int)) = (T : Int) := by rw [IntKind.wrap_i64]; omega
  have q10 : (c : Int) < (T : Int) := by omega
  have q16 : ((i : Int) + (m : Int)).toNat = i + m := by omega
  have q17 : (0 : Int) ≤ (i : Int) + (m : Int) := by omega
  have q18 : (i : Int) + (m : Int) ≤ (T : Int) := by omega
  have qi : i ≤ T := by omega
  have qim : i + m ≤ T := by omega
  have qw : IntKind.i64.wrap ((T : Int) - (i : Int)) = ((T - i : Nat) : Int) := by rw [IntKind.wrap_i64]; omega
  have HT := Lib.hid hT
  clear hn hm h2 k2 k4 k5 k3 hT k1
  go_enter Try.func50, Try.ntmps50
  go_wp2
  go_quiet (fail)
  have R1 : (w.drewN nq).heap[g]? = some (.cells cur 93 (0, 0)) := HK.out
  have R2 : RowAt (w.drewN nq) g2 mc ms := H2.out
  have KQ : Below w.heap.size w (w.drewN nq) := (Keep.refl w (fun _ => False)).drewN nq |>.below (Nat.le_refl _) (fun _ _ => id)
  obtain ⟨w0, hw0⟩ : ∃ w0, w0 = w.drewN nq := ⟨_, rfl⟩
  rw [← hw0] at R1 R2 KQ ⊢
  have hsz : w0.heap.size = w.heap.size := by rw [hw0]; rfl
  clear hw0
  have hold : (Builtin.firstCells i0.size i (.slice (some ⟨g, 0, none⟩) i c)).run Try.prog w0.drew = .ok (encS (l.take i)).toArray w0.drew := by
    rw [hzs]
    exact run_firstCells_some w0.drew 2 i ⟨g, 0, none⟩ i c (encS (l.take i)) (by rw [encS_length, htl]) (encS_src (w := w0.drew) R1 (fun q hq => by
      rw [htl] at hq
      rw [Nat.zero_add, ← encS_take, List.getElem?_take, if_pos hq, ← HC.out.2, List.getElem?_take, if_pos (by omega)]
      simp))
  obtain ⟨G, hG⟩ : ∃ G, G = grownCap w0 T c 93 := ⟨_, rfl⟩
  have hG1 : T ≤ G := by rw [hG]; exact grownCap_ge w0 _ _ _
  have hG2 : G ≤ maxLen := by rw [hG]; exact grownCap_le_maxLen _ _ _ _ (by simp only [maxLen]; omega)
  obtain ⟨ROW, hROW⟩ : ∃ ROW : Array Value, ROW = (encS (l.take i)).toArray ++ Builtin.zeroCells (Value.agg #[.int .i64 0, .int .i64 0]).cells (T - i) ++ Builtin.zeroCells (Value.agg #[.int .i64 0, .int .i64 0]).cells (G - T) := ⟨_, rfl⟩
  have hrz : ∀ ty, (Builtin.append_ #[94, 3] ty #[.slice (some ⟨g, 0, none⟩) i c, .int .i64 ((T - i : Nat) : Int)]).run Try.prog w0 = .ok (.slice (some ⟨w0.heap.size, 0, none⟩) T G) (w0.drew.alloc (.cells ROW 93)) := fun ty => by
    have h := Lib.run_append_grow_zeros w0 94 3 ty 93 i0 _ .i64 .i64 Try.underlying94 Try.underlying3 hi0 hz0 (some ⟨g, 0, none⟩) i c (encS (l.take i)) hold (T - i) (by omega) (by omega) (by omega) (by omega) (by rw [hzb]; omega) (by rw [hzb, show i + (T - i) = T by omega]; exact growslice_fits (by omega) (by omega))
    rw [show i + (T - i) = T by omega, ← hG, ← hROW] at h
    exact h
  have hR1 : ROW.size = G * 2 := by
    rw [hROW, Array.size_append, Array.size_append, List.size_toArray, encS_length, htl, size_zeroCells, size_zeroCells]
    show i * 2 + (T - i) * 2 + (G - T) * 2 = G * 2
    omega
  have hR2 : ROW.toList.take (i * 2) = encS (l.take i) := by
    rw [hROW, Array.toList_append, Array.toList_append, List.toList_toArray, List.append_assoc]
    exact List.take_left' (by rw [encS_length, htl])
  obtain ⟨rb, hrb⟩ : ∃ rb, rb = w0.heap.size := ⟨_, rfl⟩
  obtain ⟨w1, hw1⟩ : ∃ w1, w1 = w0.drew.alloc (.cells ROW 93) := ⟨_, rfl⟩
  rw [← hw1, ← hrb] at hrz
  have K1 : Below w.heap.size w w1 := by rw [hw1]; exact (KQ.drew).alloc (by simp [hsz]) _
  have M1 : w1.heap[rb]? = some (.cells ROW 93 (0, 0)) := by rw [hw1, hrb]; exact heap_alloc_new w0.drew _
  have M2 : w1.heap[g]? = some (.cells cur 93 (0, 0)) := (K1.block g hgw).trans HK.out
  have O1 : RowAt w1 g2 mc ms := H2.out.keep (Keep.of_below K1 (Nat.le_refl _) (fun _ => False)) id
  have HS1 := Lib.hid (show w1.heap.size = w.heap.size + 1 by rw [hw1]; simp [hsz])
  have hrbw : rb = w.heap.size := by rw [hrb, hsz]
  have hgrb : g ≠ rb := by omega
  have hg2rb : g2 ≠ rb := by have := H2.out.lt; omega
  have HK1 := Lib.hid K1
  have HM1 := Lib.hid M1
  have HM2 := Lib.hid M2
  have HO1 := Lib.hid O1
  have HR := Lib.hid (show ROW.size = G * 2 ∧ ROW.toList.take (i * 2) = encS (l.take i) from ⟨hR1, hR2⟩)
  have HRB := Lib.hid hrbw
  have hb2 : ¬ (G = i + m) := by have := HT.out; omega
  have hb5 : ¬ (G = i) := by have := HT.out; omega
  have hiG : i ≤ G := by omega
  clear K1 M1 M2 O1 hR1 hR2 hROW hw1 hG hold R1 R2 KQ hzs hzb hz0 hi0 hrbw hrb hsz
  go_wp2_with (first
    | (at_builtin; refine Lib.wpList_append_run _ rfl _ _ _ _ rfl _ _ rfl rfl _ _ (hrz _) ?_)
    | (refine wpList_copyR (o := ⟨some 72, _, _, _, _, _⟩) (by rfl) (.tmp 70) (.tmp 71) rfl rfl rfl HM1.out ms (by have := HM.out; simp only [Nat.min_def]; split <;> omega) HO1.out.src (by have := HR.out.1; have := HM.out; omega) ?_; intro w2 hg2 hk2 hs2; have HG2 := Lib.hid hg2; have HK2 := Lib.hid hk2; have HS2 := Lib.hid hs2; clear hg2 hk2 hs2))
  have N2 : w2.heap[g]? = some (.cells cur 93 (0, 0)) := (HK2.out.block g (by have := HS1.out; omega) hgrb).trans HM2.out
  obtain ⟨c1, hc1⟩ : ∃ c1, c1 = spl ROW.toList (i * 2) (encS ms) := ⟨_, rfl⟩
  have hfit1 : i * 2 + (encS ms).length ≤ ROW.toList.length := by have e := HM.out; have r := HR.out.1; rw [encS_length]; show _ ≤ ROW.size; omega
  have hc1l : c1.length = G * 2 := by rw [hc1, spl_length hfit1, Array.length_toList, HR.out.1]
  have hF : c1.take ((i + m) * 2) = encS (l.take i ++ ms) := by
    rw [hc1]
    unfold spl
    rw [HR.out.2, ← encS_append]
    have e2 : (i + m) * 2 = (encS (l.take i ++ ms)).length := by rw [encS_length, List.length_append, htl, ← HM.out]
    rw [e2]
    exact List.take_left
  have hG2' := HG2.out
  rw [← hc1] at hG2'
  have hcp : ∀ ty dc sc, (Builtin.copy_ #[94, 94] ty #[.slice (some ⟨rb, (i + m) * 2, none⟩) (T - (i + m)) dc, .slice (some ⟨g, j * 2, none⟩) (n - j) sc]).run Try.prog w2.drew = .ok (goInt ((n - j : Nat) : Int)) (w2.drew.setRow rb (spl c1.toArray.toList ((i + m) * 2) (encS (l.drop j))).toArray) := fun ty dc sc =>
    run_copyK (P := Try.prog) 2 w2.drew 94 94 ty 93 rb ((i + m) * 2) (T - (i + m)) dc ⟨g, j * 2, none⟩ (n - j) sc (n - j) c1.toArray 93 (encS (l.drop j)) Try.underlying94 size93 hG2' (by have := HT.out; simp only [Nat.min_def]; split <;> omega) (by rw [encS_length, hdl])
      (encS_src (w := w2.drew) N2 (row_from HC.out.2 HN.out.symm j (by omega))) (by rw [encS_length, hdl]; simp only [List.size_toArray]; have := HT.out; omega) (encS_one _)
  obtain ⟨W3, hW3⟩ : ∃ W3, W3 = w2.drew.setRow rb (spl c1.toArray.toList ((i + m) * 2) (encS (l.drop j))).toArray := ⟨_, rfl⟩
  rw [← hW3] at hcp
  have P3 := Lib.hid (show W3.heap[rb]? = some (.cells (spl c1 ((i + m) * 2) (encS (l.drop j))).toArray 93 (0, 0)) by rw [hW3]; exact setRow_heap w2.drew rb _ _ 93 _ hG2')
  have K3 := Lib.hid (show Keep w2 W3 (fun k => k = rb) by rw [hW3]; exact Keep.setRow (S := fun k => k = rb) ((Keep.refl w2 _).drew) (.inr rfl) _)
  have H1l := Lib.hid hc1l
  have HF := Lib.hid hF
  clear N2 hc1 hG2' hW3 hF hc1l hfit1
  simp only [Act.put]
  go_region_law_o (refine step_copy_is rfl _ _ 94 94 rfl _ _ (by simp [Act.eval, Act.put]) (by simp [Act.eval, Act.put]) (hcp _ _ _) ?_)
  go_wp2
  go_ret
  have hE := spl_end3 (cur := c1) (l := l) (n := n) (i := i + m) (j := j) (m := l.take i ++ ms) HF.out HN.out.symm (by omega) (by rw [List.length_append, htl, HM.out])
  have hTo := HT.out
  have hlen : (l.take i ++ (ms ++ l.drop j)).length = T := by rw [List.length_append, List.length_append, htl, hdl, ← HM.out]; omega
  refine ⟨G, rb, rfl, by have := HRB.out; omega, ⟨_, P3.out, ?_, ?_, hG2, ?_⟩, HK1.out.trans ((HK2.out.trans K3.out (fun _ _ => id)).below (by have := HS1.out; omega) (fun k hk e => by have := HRB.out; omega))⟩
  · simp only [List.size_toArray]
    rw [spl_length (by rw [encS_length, hdl, H1l.out]; omega), H1l.out]
  · rw [hlen]; exact hG1
  · rw [hlen, show T = i + m + (n - j) from hTo, ← List.append_assoc]
    simpa using hE
end Go.Proofs.Ytjnekjjaofabeaa
