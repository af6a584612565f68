/-
  slices.Replace of ranges by none (f50, f52).
-/
import Derived.Test.YtjnekjjaofabeaaNi
namespace Go.Proofs.Ytjnekjjaofabeaa
open Go.RowKit Go.Rh Rng

set_option maxRecDepth 100000 in
theorem replace_same {w : World} {A : Option Addr} {i n c : Nat} (hi : i ≤ n) (hc : n ≤ c) (hm : c ≤ maxLen) :
    Calls Try.prog 50 #[.slice A n c, .int .i64 (i : Int), .int .i64 (i : Int), .slice none 0 0] w fun e w' => e = .returned (.slice A n c) ∧ Keep w w' (fun _ => False) := by
  have hcm : (c : Int) ≤ 9223372036854775807 := by simp only [maxLen] at hm; omega
  have hin : Calls Try.prog 52 #[.slice A n c, .int .i64 (i : Int), .slice none 0 0] w fun e w' => e = .returned (.slice A n c) ∧ Keep w w' (fun _ => False) := by
    have key := Classical.em (c = i)
    rcases key with e | hci
    · subst e
      go_enter Try.func52, Try.ntmps52
      go_wp2
      go_ret
      exact ⟨rfl, Keep.refl _ _⟩
    · go_enter Try.func52, Try.ntmps52
      go_wp2
      go_ret
      exact ⟨rfl, Keep.refl _ _⟩
  have key := Classical.em (c = i)
  rcases key with e | hci
  · subst e
    go_enter Try.func50, Try.ntmps50
    go_wp2_with (go_at_call 52; refine hin.mono ?_; rintro e w' ⟨rfl, hk⟩; have HK := Lib.hid hk; clear hk)
    go_ret
    exact ⟨rfl, HK.out⟩
  · go_enter Try.func50, Try.ntmps50
    go_wp2_with (go_at_call 52; refine hin.mono ?_; rintro e w' ⟨rfl, hk⟩; have HK := Lib.hid hk; clear hk)
    go_ret
    exact ⟨rfl, HK.out⟩

theorem run_append_none {w : World} (ty : TypeId) (A : Option Addr) (i c : Nat) (hic : i ≤ c) : (Builtin.append_ #[94, 94] ty #[.slice A i c, .slice none 0 0]).run Try.prog w = .ok (.slice A i c) w := by
  obtain ⟨i0, hi0, hz0, hzs, hzb⟩ := info_parts info93
  cases A <;> simp [Builtin.append_, run_underlying Try.underlying94, sizeOf, typeInfo, hi0, Builtin.lenOf, Builtin.firstCells, loadCells, loadCellsFrom, storeCells, hzs, hic]

set_option maxRecDepth 100000 in
/-- The ranges from `i` on are struck. -/
theorem replace_tail0 {w : World} {g c i : Nat} {l : List Sp} (h : RowAt w g c l) (hi : i < l.length) (hb : l.length ≤ 100000) :
    Calls Try.prog 50 #[.slice (some ⟨g, 0, none⟩) l.length c, .int .i64 (i : Int), .int .i64 (l.length : Int), .slice none 0 0] w fun e w' =>
      e = .returned (.slice (some ⟨g, 0, none⟩) i c) ∧ RowAt w' g c (l.take i) ∧ Keep w w' (fun k => k = g) := by
  obtain ⟨n, hn⟩ : ∃ n, n = l.length := ⟨_, rfl⟩
  obtain ⟨cur, k1, k2, k3, k4, k5⟩ := h
  rw [← hn] at k3 k5 hi hb ⊢
  have htl : (l.take i).length = i := by rw [List.length_take, ← hn]; omega
  have hr := fun ty => run_append_none (w := w) ty (some ⟨g, 0, none⟩) i c (by omega)
  have h4 := Lib.hid k4
  have HN := Lib.hid hn
  have HC := Lib.hid (show cur.size = c * 2 ∧ cur.toList.take (n * 2) = encS l from ⟨k2, k5⟩)
  have hc : n ≤ c := k3
  have hz1 : ¬ ((i : Int) = (n : Int)) := by omega
  have q1 : i ≤ n := by omega
  have q3 : i ≤ c := by omega
  have q7 : ¬ (c = i) := by omega
  have q8 : (i : Int) < (n : Int) := by omega
  obtain ⟨W4, hW4⟩ : ∃ W4, W4 = w.setRow g (spl cur.toList (i * 2) (encS (List.replicate (n - i) ((0, 0) : Sp)))).toArray := ⟨_, rfl⟩
  have hcl := fun ty cc => run_clear_row (w := w) ty (g := g) (f := i * 2) (k := n - i) (c := cc) (cur := cur.toList) (by omega) (by simpa using k1) (by simp; omega)
  rw [← hW4] at hcl
  have P4 := Lib.hid (show W4.heap[g]? = some (.cells (spl cur.toList (i * 2) (encS (List.replicate (n - i) ((0, 0) : Sp)))).toArray 93 (0, 0)) by rw [hW4]; exact setRow_heap w g _ _ 93 _ k1)
  have K4 := Lib.hid (show Keep w W4 (fun k => k = g) by rw [hW4]; exact Keep.setRow (S := fun k => k = g) (Keep.refl w _) (.inr rfl) _)
  clear hW4 hn k1 k2 k4 k5 k3
  go_enter Try.func50, Try.ntmps50
  go_wp2_with (at_builtin; refine Lib.wpList_append_run _ rfl _ _ _ _ rfl _ _ rfl rfl _ _ (hr _) ?_)
  go_ret
  have hfit : i * 2 + (encS (List.replicate (n - i) ((0, 0) : Sp))).length ≤ cur.toList.length := by rw [encS_length, List.length_replicate, Array.length_toList, HC.out.1]; omega
  refine ⟨rfl, ⟨_, P4.out, by rw [List.size_toArray, spl_length hfit, Array.length_toList]; exact HC.out.1, by rw [htl]; omega, h4.out, ?_⟩, K4.out⟩
  rw [htl]
  have e := spl_front (cur := cur.toList) (vs := encS (List.replicate (n - i) ((0, 0) : Sp))) (f := i * 2) (by have := HC.out.1; simp; omega)
  simp only [List.toList_toArray]
  rw [e, ← encS_take, ← HC.out.2, List.take_take, Nat.min_eq_left (by omega)]

theorem run_copy_none {w : World} (ty : TypeId) (A B : Option Addr) (n c : Nat) : (Builtin.copy_ #[94, 94] ty #[.slice A n c, .slice B 0 0]).run Try.prog w = .ok (goInt 0) w := by
  obtain ⟨i0, hi0, hz0, hzs, hzb⟩ := info_parts info93
  cases A <;> cases B <;> simp [Builtin.copy_, run_underlying Try.underlying94, sizeOf, typeInfo, hi0, loadCells, loadCellsFrom, storeCells, hzs, Builtin.lenOf, Builtin.firstCells]

set_option maxRecDepth 100000 in
theorem replace_mid0 {w : World} {g c i j : Nat} {l : List Sp} (h : RowAt w g c l) (hij : i < j) (hj : j < l.length) (hb : l.length ≤ 100000) :
    Calls Try.prog 50 #[.slice (some ⟨g, 0, none⟩) l.length c, .int .i64 (i : Int), .int .i64 (j : Int), .slice none 0 0] w fun e w' =>
      e = .returned (.slice (some ⟨g, 0, none⟩) (i + (l.length - j)) c) ∧ RowAt w' g c (l.take i ++ l.drop j) ∧ Keep w w' (fun k => k = g) := by
  obtain ⟨n, hn⟩ : ∃ n, n = l.length := ⟨_, rfl⟩
  obtain ⟨cur, k1, k2, k3, k4, k5⟩ := h
  rw [← hn] at k3 k5 hj hb ⊢
  have hdl : (l.drop j).length = n - j := by rw [List.length_drop, hn]
  have htl : (l.take i).length = i := by rw [List.length_take, ← hn]; omega
  have HN := Lib.hid hn
  have hcm : (c : Int) ≤ 9223372036854775807 := by simp only [maxLen] at k4; omega
  have hc : n ≤ c := k3
  have HC := Lib.hid (show cur.size = c * 2 ∧ cur.toList.take (n * 2) = encS l from ⟨k2, k5⟩)
  have HK := Lib.hid k1
  have h4 := Lib.hid k4
  have mixed : Try.prog.follows .mixedOrders = true := by kernel_rfl
  have hz1 : ¬ ((i : Int) = (j : Int)) := by omega
  have hz2 : ¬ ((j : Int) = (n : Int)) := by omega
  have q1 : i ≤ j := by omega
  have q2 : j ≤ c := by omega
  have q3 : i ≤ c := by omega
  have q4 : j ≤ n := by omega
  have q5 : i ≤ n := by omega
  have q6 : ¬ (c = j) := by omega
  have q7 : ¬ (c = i) := by omega
  have q9 : IntKind.i64.wrap ((i : Int) + ((n - j : Nat) : Int)) = (i : Int) + ((n - j : Nat) : Int) := by rw [IntKind.wrap_i64]; omega
  have q10 : ¬ ((c : Int) < (i : Int) + ((n - j : Nat) : Int)) := by omega
  have q12 : ((i : Int) + ((n - j : Nat) : Int)).toNat = i + (n - j) := by omega
  have q13 : (0 : Int) ≤ (i : Int) + ((n - j : Nat) : Int) := by omega
  have q14 : (i : Int) + ((n - j : Nat) : Int) ≤ (c : Int) := by omega
  have q15 : i ≤ i + (n - j) := by omega
  have q8 : IntKind.i64.wrap (i : Int) = (i : Int) := by rw [IntKind.wrap_i64]; omega
  have q11 : (i : Int) ≤ (j : Int) := by omega
  have q18 : (i : Int) ≤ (i : Int) + ((n - j : Nat) : Int) := by omega
  clear hn k1 k2 k4 k5 k3
  go_enter Try.func50, Try.ntmps50
  go_wp2
  go_quiet (fail)
  have R1 : (w.drewN nq).heap[g]? = some (.cells cur 93 (0, 0)) := HK.out
  have KQ : Keep w (w.drewN nq) (fun k => k = g) := (Keep.refl w _).drewN nq
  obtain ⟨w1, hw1⟩ : ∃ w1, w1 = w.drewN nq := ⟨_, rfl⟩
  rw [← hw1] at R1 KQ ⊢
  have HR1 := Lib.hid R1
  have HKQ := Lib.hid KQ
  clear R1 KQ hw1
  go_wp2_with (refine wpList_copy_is (o := ⟨some 97, _, _, _, _, _⟩) (by rfl) (.tmp 95) (.tmp 96) 94 94 rfl _ _ rfl rfl (run_copy_none _ _ _ _ _) ?_)
  have hcp : ∀ ty dc sc, (Builtin.copy_ #[94, 94] ty #[.slice (some ⟨g, i * 2, none⟩) (n - j) dc, .slice (some ⟨g, j * 2, none⟩) (n - j) sc]).run Try.prog w1.drew = .ok (goInt ((n - j : Nat) : Int)) (w1.drew.setRow g (spl cur.toList (i * 2) (encS (l.drop j))).toArray) := fun ty dc sc =>
    run_copyK (P := Try.prog) 2 w1.drew 94 94 ty 93 g (i * 2) (n - j) dc ⟨g, j * 2, none⟩ (n - j) sc (n - j) cur 93 (encS (l.drop j)) Try.underlying94 size93 HR1.out (by simp only [Nat.min_def]; split <;> omega) (by rw [encS_length, hdl])
      (encS_src (w := w1.drew) HR1.out (row_from HC.out.2 HN.out.symm j (by omega))) (by rw [encS_length, hdl]; have := HC.out.1; omega) (encS_one _)
  obtain ⟨c2, hc2⟩ : ∃ c2, c2 = spl cur.toList (i * 2) (encS (l.drop j)) := ⟨_, rfl⟩
  obtain ⟨W3, hW3⟩ : ∃ W3, W3 = w1.drew.setRow g c2.toArray := ⟨_, rfl⟩
  rw [← hc2, ← hW3] at hcp
  have hc2l : c2.length = c * 2 := by rw [hc2, spl_length (by rw [encS_length, hdl]; simp only [Array.length_toList]; have := HC.out.1; omega)]; simpa using HC.out.1
  have hE := spl_end3 (cur := cur.toList) (l := l) (n := n) (i := i) (j := j) (m := l.take i) (by rw [← encS_take, ← HC.out.2, List.take_take, Nat.min_eq_left (by omega)]) HN.out.symm (by omega) htl
  rw [← hc2] at hE
  have P3 := Lib.hid (show W3.heap[g]? = some (.cells c2.toArray 93 (0, 0)) by rw [hW3]; exact setRow_heap w1.drew g _ _ 93 _ HR1.out)
  have K3 := Lib.hid (show Keep w1 W3 (fun k => k = g) by rw [hW3]; exact Keep.setRow (S := fun k => k = g) ((Keep.refl w1 _).drew) (.inr rfl) _)
  have H2l := Lib.hid hc2l
  have HE := Lib.hid hE
  clear hW3 hc2l hc2 hE
  simp only [Act.put]
  go_region_law_o (refine step_copy_is rfl _ _ 94 94 rfl _ _ (by simp [Act.eval, Act.put]) (by simp [Act.eval, Act.put]) (hcp _ _ _) ?_)
  have hlen : (l.take i ++ l.drop j).length = i + (n - j) := by rw [List.length_append, htl, hdl]
  have hK := Lib.hid (HKQ.out.trans K3.out (fun _ _ => id))
  have q22 : ¬ (c = i + (n - j)) := by omega
  have q20 : (i : Int) + ((n - j : Nat) : Int) ≤ (n : Int) := by omega
  obtain ⟨W4, hW4⟩ : ∃ W4, W4 = W3.setRow g (spl c2 ((i + (n - j)) * 2) (encS (List.replicate (n - (i + (n - j))) ((0, 0) : Sp)))).toArray := ⟨_, rfl⟩
  have hcl := fun ty cc => run_clear_row (w := W3) ty (g := g) (f := (i + (n - j)) * 2) (k := n - (i + (n - j))) (c := cc) (by omega) P3.out (by have := H2l.out; omega)
  rw [← hW4] at hcl
  have P4 := Lib.hid (show W4.heap[g]? = some (.cells (spl c2 ((i + (n - j)) * 2) (encS (List.replicate (n - (i + (n - j))) ((0, 0) : Sp)))).toArray 93 (0, 0)) by rw [hW4]; exact setRow_heap W3 g _ _ 93 _ P3.out)
  have K4 := Lib.hid (show Keep W3 W4 (fun k => k = g) by rw [hW4]; exact Keep.setRow (S := fun k => k = g) (Keep.refl W3 _) (.inr rfl) _)
  clear hW4
  go_wp2
  go_ret
  have hfit : (i + (n - j)) * 2 + (encS (List.replicate (n - (i + (n - j))) ((0, 0) : Sp))).length ≤ c2.length := by rw [encS_length, List.length_replicate, H2l.out]; omega
  refine ⟨rfl, ⟨_, P4.out, by rw [List.size_toArray, spl_length hfit]; exact H2l.out, by rw [hlen]; omega, h4.out, ?_⟩, hK.out.trans K4.out (fun _ _ => id)⟩
  rw [hlen]
  have e := spl_front (cur := c2) (vs := encS (List.replicate (n - (i + (n - j))) ((0, 0) : Sp))) (f := (i + (n - j)) * 2) (by have := H2l.out; omega)
  simp only [List.toList_toArray]
  rw [e]
  exact HE.out
end Go.Proofs.Ytjnekjjaofabeaa
