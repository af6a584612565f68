/-
  slices.Replace where more ranges come than go (f50): at the end, in the middle with room, in the middle without.
-/
import Derived.Test.YtjnekjjaofabeaaNj
namespace Go.Proofs.Ytjnekjjaofabeaa
open Go.RowKit Go.Rh Rng

theorem RowAt.takeR {w : World} {g c i : Nat} {l : List Sp} (h : RowAt w g c l) (hi : i ≤ l.length) : RowAt w g c (l.take i) := by
  obtain ⟨cur, k1, k2, k3, k4, k5⟩ := h
  have htl : (l.take i).length = i := by rw [List.length_take]; omega
  exact ⟨cur, k1, k2, by omega, k4, by rw [htl, ← encS_take, ← k5, List.take_take, Nat.min_eq_left (by omega)]⟩

set_option maxRecDepth 100000 in
theorem replace_end {w : World} {g c i g2 mc : Nat} {l ms : List Sp} (h : RowAt w g c l) (h2 : RowAt w g2 mc ms) (h0 : 0 < ms.length) (hi : i < l.length) (hm : l.length ≤ i + ms.length) (hb : l.length ≤ 100000) (hb2 : ms.length ≤ 100000) :
    Calls Try.prog 50 #[.slice (some ⟨g, 0, none⟩) l.length c, .int .i64 (i : Int), .int .i64 (l.length : Int), .slice (some ⟨g2, 0, none⟩) ms.length mc] w fun e w' =>
      ∃ v', e = .returned v' ∧ SetV w' v' (l.take i ++ ms) ∧ Keep w w' (fun k => k = g) ∧ (v'.ownBlock = some g ∨ ∃ k, v'.ownBlock = some k ∧ w.heap.size ≤ k) := by
  obtain ⟨n, hn⟩ : ∃ n, n = l.length := ⟨_, rfl⟩
  have ht := h.takeR (i := i) (by omega)
  have htl : (l.take i).length = i := by rw [List.length_take]; omega
  have hc : l.length ≤ c := by obtain ⟨cur, k1, k2, k3, k4, k5⟩ := h; exact k3
  have hsv : SetV w (.slice (some ⟨g, 0, none⟩) i c) (l.take i) := .inr ⟨g, c, by rw [htl], ht⟩
  have hap : ∀ ty, ∃ v' w', (Builtin.append_ #[94, 94] ty #[.slice (some ⟨g, 0, none⟩) i c, .slice (some ⟨g2, 0, none⟩) ms.length mc]).run Try.prog w = .ok v' w' ∧ SetV w' v' (l.take i ++ ms) ∧ Keep w w' (fun k => k = g) ∧ (v'.ownBlock = some g ∨ ∃ k, v'.ownBlock = some k ∧ w.heap.size ≤ k) := by
    intro ty
    obtain ⟨v', w', h1, h2, h3, h4⟩ := run_appendR (w := w) ty hsv (A := ⟨g2, 0, none⟩) (c := mc) h2.src (by rw [htl]; omega) h0
    exact ⟨v', w', h1, h2, h3.mono (fun k _ e => by injection e with e; exact e.symm), h4⟩
  obtain ⟨v', w', hr, h1, h2, h3⟩ := hap 94
  obtain ⟨A, N, C, hN, rfl⟩ := h1.formN
  rw [List.length_append, htl] at hN
  have H1 := Lib.hid h1
  have H2 := Lib.hid h2
  have H3 := Lib.hid h3
  rw [← hn] at hi hm hb hc ⊢
  have hz1 : ¬ ((i : Int) = (n : Int)) := by omega
  have q1 : i ≤ n := by omega
  have q3 : i ≤ c := by omega
  have q7 : ¬ (c = i) := by omega
  have q8 : ¬ ((N : Int) < (n : Int)) := by omega
  have q9 : ¬ (N < n) := by omega
  clear h ht hsv hap h1 h2 h3 hn hN
  go_enter Try.func50, Try.ntmps50
  go_wp2_with (at_builtin; refine Lib.wpList_append_run _ rfl _ _ _ _ rfl _ _ rfl rfl _ _ hr ?_)
  go_ret
  exact ⟨_, rfl, H1.out, H2.out, H3.out⟩

theorem two_spl {cur X Y : List Value} {i m : Nat} (hY : Y.length = m * 2) (hn : (i + m) * 2 + X.length ≤ cur.length) : spl (spl cur ((i + m) * 2) X) (i * 2) Y = cur.take (i * 2) ++ Y ++ (X ++ cur.drop ((i + m) * 2 + X.length)) := by
  have e1 : (spl cur ((i + m) * 2) X).take (i * 2) = cur.take (i * 2) := by
    unfold spl
    rw [List.append_assoc, List.take_append_of_le_length (by rw [List.length_take]; omega), List.take_take, Nat.min_eq_left (by omega)]
  have e2 : (spl cur ((i + m) * 2) X).drop (i * 2 + Y.length) = X ++ cur.drop ((i + m) * 2 + X.length) := by
    unfold spl
    rw [List.append_assoc]
    exact List.drop_left' (by rw [List.length_take, hY]; omega)
  rw [show spl (spl cur ((i + m) * 2) X) (i * 2) Y = (spl cur ((i + m) * 2) X).take (i * 2) ++ Y ++ (spl cur ((i + m) * 2) X).drop (i * 2 + Y.length) from rfl, e1, e2]

theorem run_overlaps_go {w : World} {g2 g : Nat} {cs cur : Array Value} (h2 : w.heap[g2]? = some (.cells cs 93 (0, 0))) (hg : w.heap[g]? = some (.cells cur 93 (0, 0))) (hne : g ≠ g2) (hc : cs.size ≠ 0) (m vc f lb cb : Nat) :
    (callFunc 53 #[.slice (some ⟨g, f, none⟩) lb cb, .slice (some ⟨g2, 0, none⟩) m vc]).run Try.prog w = .ok (.value (.bool false)) w := by
  rw [run_callFunc_extern Try.func53 (by kernel_rfl) (by kernel_rfl) (by kernel_rfl) (e := Extern.SlicesOverlaps.overlaps #[94, 94] #[4]) (by kernel_rfl),
    Lib.run_overlaps_apart w 94 4 93 Try.underlying94 2 (fun w => by obtain ⟨i0, hi, _, hs, _⟩ := info_parts info93; simp [Go.sizeOf, typeInfo, hi, hs]) ⟨g, f, none⟩ ⟨g2, 0, none⟩ lb cb m vc hne 93 93 cur.size cs.size (by simp [World.shape?, hg]) (by simp [World.shape?, h2]) hc (by simp [World.frozen?, hg]) (by simp [World.frozen?, hg])]
  rfl

set_option maxHeartbeats 1000000 in
set_option maxRecDepth 100000 in
theorem replace_room {w : World} {g c i j g2 mc : Nat} {l ms : List Sp} (h : RowAt w g c l) (h2 : RowAt w g2 mc ms) (hne : g2 ≠ g) (hij : i < j) (hij2 : j < i + ms.length) (hj : j < l.length) (hcc : i + ms.length + (l.length - j) ≤ c) (hb : l.length ≤ 100000) (hb2 : ms.length ≤ 100000) :
    Calls Try.prog 50 #[.slice (some ⟨g, 0, none⟩) l.length c, .int .i64 (i : Int), .int .i64 (j : Int), .slice (some ⟨g2, 0, none⟩) ms.length mc] w fun e w' =>
      e = .returned (.slice (some ⟨g, 0, none⟩) (i + ms.length + (l.length - j)) c) ∧ RowAt w' g c (l.take i ++ (ms ++ l.drop j)) ∧ Keep w w' (fun k => k = g) := by
  obtain ⟨n, hn⟩ : ∃ n, n = l.length := ⟨_, rfl⟩
  obtain ⟨m, hm⟩ : ∃ m, m = ms.length := ⟨_, rfl⟩
  obtain ⟨cur, k1, k2, k3, k4, k5⟩ := h
  rw [← hn] at k3 k5 hj hb hcc ⊢
  rw [← hm] at hij2 hb2 hcc ⊢
  have hdl : (l.drop j).length = n - j := by rw [List.length_drop, hn]
  have htl : (l.take i).length = i := by rw [List.length_take, ← hn]; omega
  obtain ⟨cs2, b1, b2, b3, b4, b5⟩ := h2
  have h2 : RowAt w g2 mc ms := ⟨cs2, b1, b2, b3, b4, b5⟩
  have hcs2 : cs2.size ≠ 0 := by rw [b2]; omega
  have HB1 := Lib.hid b1
  have HN := Lib.hid hn
  have HM := Lib.hid hm
  have H2 := Lib.hid h2
  have hcm : (c : Int) ≤ 9223372036854775807 := by simp only [maxLen] at k4; omega
  have hc : n ≤ c := k3
  have HC := Lib.hid (show cur.size = c * 2 ∧ cur.toList.take (n * 2) = encS l from ⟨k2, k5⟩)
  have HK := Lib.hid k1
  have h4 := Lib.hid k4
  have HS2 := Lib.hid hcs2
  have mixed : Try.prog.follows .mixedOrders = true := by kernel_rfl
  have hz1 : ¬ ((i : Int) = (j : Int)) := by omega
  have hz2 : ¬ ((j : Int) = (n : Int)) := by omega
  have q1 : i ≤ j := by omega
  have q2 : j ≤ c := by omega
  have q3 : i ≤ c := by omega
  have q4 : j ≤ n := by omega
  have q5 : i ≤ n := by omega
  have q6 : ¬ (c = j) := by omega
  have q7 : ¬ (c = i) := by omega
  have q8 : IntKind.i64.wrap ((i : Int) + (m : Int)) = (i : Int) + (m : Int) := by rw [IntKind.wrap_i64]; omega
  have q9 : IntKind.i64.wrap ((i : Int) + (m : Int) + ((n - j : Nat) : Int)) = (i : Int) + (m : Int) + ((n - j : Nat) : Int) := by rw [IntKind.wrap_i64]; omega
  have q10 : ¬ ((c : Int) < (i : Int) + (m : Int) + ((n - j : Nat) : Int)) := by omega
  have q11 : ¬ ((i : Int) + (m : Int) ≤ (j : Int)) := by omega
  have q12 : ((i : Int) + (m : Int) + ((n - j : Nat) : Int)).toNat = i + m + (n - j) := by omega
  have q13 : (0 : Int) ≤ (i : Int) + (m : Int) + ((n - j : Nat) : Int) := by omega
  have q14 : (i : Int) + (m : Int) + ((n - j : Nat) : Int) ≤ (c : Int) := by omega
  have q15 : i ≤ i + m + (n - j) := by omega
  have q16 : ((i : Int) + (m : Int)).toNat = i + m := by omega
  have q17 : (0 : Int) ≤ (i : Int) + (m : Int) := by omega
  have q18 : (i : Int) + (m : Int) ≤ (i : Int) + (m : Int) + ((n - j : Nat) : Int) := by omega
  have q19 : ¬ (c = i + m) := by omega
  clear hn hm h2 k1 k2 k4 k5 k3 b1 b2 b3 b4 b5 hcs2
  go_enter Try.func50, Try.ntmps50
  go_wp2
  go_quiet (fail)
  have R1 : (w.drewN nq).heap[g]? = some (.cells cur 93 (0, 0)) := HK.out
  have R2 : RowAt (w.drewN nq) g2 mc ms := H2.out
  have R3 : (w.drewN nq).heap[g2]? = some (.cells cs2 93 (0, 0)) := HB1.out
  have KQ : Keep w (w.drewN nq) (fun k => k = g) := (Keep.refl w _).drewN nq
  obtain ⟨w1, hw1⟩ : ∃ w1, w1 = w.drewN nq := ⟨_, rfl⟩
  rw [← hw1] at R1 R2 R3 KQ ⊢
  have HR1 := Lib.hid R1
  have HR2 := Lib.hid R2
  have HKQ := Lib.hid KQ
  have hov := run_overlaps_go R3 R1 (Ne.symm hne) HS2.out
  have hcp : ∀ ty dc sc, (Builtin.copy_ #[94, 94] ty #[.slice (some ⟨g, (i + m) * 2, none⟩) (n - j) dc, .slice (some ⟨g, j * 2, none⟩) (n - j) sc]).run Try.prog w1.drew = .ok (goInt ((n - j : Nat) : Int)) (w1.drew.setRow g (spl cur.toList ((i + m) * 2) (encS (l.drop j))).toArray) := fun ty dc sc =>
    run_copyK (P := Try.prog) 2 w1.drew 94 94 ty 93 g ((i + m) * 2) (n - j) dc ⟨g, j * 2, none⟩ (n - j) sc (n - j) cur 93 (encS (l.drop j)) Try.underlying94 size93 R1 (by simp only [Nat.min_def]; split <;> omega) (by rw [encS_length, hdl])
      (encS_src (w := w1.drew) R1 (row_from HC.out.2 HN.out.symm j (by omega))) (by rw [encS_length, hdl]; have := HC.out.1; omega) (encS_one _)
  obtain ⟨c1, hc1⟩ : ∃ c1, c1 = spl cur.toList ((i + m) * 2) (encS (l.drop j)) := ⟨_, rfl⟩
  obtain ⟨W2, hW2⟩ : ∃ W2, W2 = w1.drew.setRow g c1.toArray := ⟨_, rfl⟩
  rw [← hc1, ← hW2] at hcp
  have hfit1 : (i + m) * 2 + (encS (l.drop j)).length ≤ cur.toList.length := by rw [encS_length, hdl]; simp only [Array.length_toList]; have := HC.out.1; omega
  have hc1l : c1.length = c * 2 := by rw [hc1, spl_length hfit1]; simpa using HC.out.1
  have hE : spl c1 (i * 2) (encS ms) = encS (l.take i ++ (ms ++ l.drop j)) ++ cur.toList.drop ((i + m) * 2 + (encS (l.drop j)).length) := by
    rw [hc1, two_spl (by rw [encS_length, HM.out]) hfit1, show cur.toList.take (i * 2) = encS (l.take i) by rw [← encS_take, ← HC.out.2, List.take_take, Nat.min_eq_left (by omega)], encS_append, encS_append]
    simp only [List.append_assoc]
  have P2 := Lib.hid (show W2.heap[g]? = some (.cells c1.toArray 93 (0, 0)) by rw [hW2]; exact setRow_heap w1.drew g _ _ 93 _ R1)
  have K2 : Keep w1 W2 (fun k => k = g) := by rw [hW2]; exact Keep.setRow (S := fun k => k = g) ((Keep.refl w1 _).drew) (.inr rfl) _
  have HK2 := Lib.hid K2
  have S2 := Lib.hid (R2.keep K2 hne)
  have H1l := Lib.hid hc1l
  have HE := Lib.hid hE
  clear R1 R2 R3 KQ hw1 hW2 hc1l hc1 hE K2 hfit1
  go_wp2_with (simp only [hov])
  go_region_law_o (refine step_copy_is rfl _ _ 94 94 rfl _ _ (by simp [Act.eval, Act.put]) (by simp [Act.eval, Act.put]) (hcp _ _ _) ?_)
  go_wp2_with (refine wpList_copyR (o := ⟨some 135, _, _, _, _, _⟩) (by rfl) (.tmp 133) (.tmp 134) rfl rfl rfl P2.out ms (by have := HM.out; simp only [Nat.min_def]; split <;> omega) S2.out.src (by simp only [List.size_toArray]; have := H1l.out; have := HM.out; omega) ?_; intro w3 hg3 hk3 hs3; have HG3 := Lib.hid hg3; have HK3 := Lib.hid hk3; clear hg3 hk3 hs3)
  go_ret
  have hlen : (l.take i ++ (ms ++ l.drop j)).length = i + m + (n - j) := by rw [List.length_append, List.length_append, htl, hdl, HM.out]; omega
  refine ⟨rfl, ⟨_, HG3.out, ?_, by rw [hlen]; omega, h4.out, ?_⟩, (HKQ.out.trans HK2.out (fun _ _ => id)).trans HK3.out (fun _ _ => id)⟩
  · rw [List.size_toArray, spl_length (by rw [encS_length, ← HM.out, H1l.out]; omega)]; exact H1l.out
  · rw [hlen, List.toList_toArray, HE.out, ← hlen, ← encS_length]
    exact List.take_left
end Go.Proofs.Ytjnekjjaofabeaa
