/-
  slices.Replace where no more ranges come than go (f50), in the middle of a row.
-/
import Derived.Test.YtjnekjjaofabeaaNd
namespace Go.Proofs.Ytjnekjjaofabeaa
open Go.RowKit Go.Rh Rng

theorem RowAt.src {w : World} {g c : Nat} {l : List Sp} (h : RowAt w g c l) : ∀ j u, (encS l)[j]? = some u → w.cell? ((⟨g, 0, none⟩ : Addr).add j) = some u := by
  obtain ⟨cur, h1, h2, h3, h4, h5⟩ := h
  refine encS_src h1 fun j hj => ?_
  rw [Nat.zero_add, ← h5, List.getElem?_take, if_pos hj]
  simp
theorem One.row {w : World} {g : Nat} {t : Sp} (h : One w g t) : RowAt w g 1 [t] := ⟨_, h, rfl, Nat.le_refl _, by decide, rfl⟩

theorem spl_end3 {cur : List Value} {l m : List Sp} {n i j : Nat} (h : cur.take (i * 2) = encS m) (hl : l.length = n) (hj : j ≤ n) (hm : m.length = i) :
    (spl cur (i * 2) (encS (l.drop j))).take ((i + (n - j)) * 2) = encS (m ++ l.drop j) := by
  unfold spl
  rw [h, ← encS_append]
  have e2 : (i + (n - j)) * 2 = (encS (m ++ l.drop j)).length := by rw [encS_length, List.length_append, List.length_drop, hl, hm]
  rw [e2]
  exact List.take_left
theorem spl_front {cur vs : List Value} {f : Nat} (h : f ≤ cur.length) : (spl cur f vs).take f = cur.take f := by
  unfold spl
  rw [List.append_assoc, List.take_append_of_le_length (by rw [List.length_take]; omega), List.take_take, Nat.min_self]
theorem wpList_clear_is {ops : Array Oper} {rest : List Oper} {o : Oper} {a : Act} {w : World} {Q : Exit → Act → World → Prop} (hw : Region.wanted o (yielded ops a.tmps) = true) (d : Operand) (ho : o.op = .call { callee := .builtin .clear, args := #[d], argTypes := #[94] })
    {x : Value} (hd : a.eval d = x) {w' : World} {v' : Value} (hr : (Builtin.clear_ #[94] o.type #[x]).run Try.prog w = .ok v' w') (h : wpList Try.prog ops Q rest (a.put o.dst v') w') : wpList Try.prog ops Q (o :: rest) a w := by
  refine wpList_run hw (v := v') ?_ h
  unfold execOp
  simp only [ho, resolve, invoke, builtin, Sem.run_bind, Sem.run_pure, Result.andThen_ok, List.map_toArray, List.map_cons, List.map_nil, hd, hr]
theorem run_clear_none {w : World} (ty : TypeId) (A : Option Addr) (c : Nat) : (Builtin.clear_ #[94] ty #[.slice A 0 c]).run Try.prog w = .ok (.tuple #[]) w := by
  have hz := Try.zeroValue93
  cases A <;> simp [Builtin.clear_, run_underlying Try.underlying94, hz, Builtin.zeroCells, storeCells, World.setRow]
theorem run_clear_row {w : World} (ty : TypeId) {g f k c : Nat} {cur : List Value} (hk : 0 < k) (hg : w.heap[g]? = some (.cells cur.toArray 93 (0, 0))) (hfit : f + k * 2 ≤ cur.length) :
    (Builtin.clear_ #[94] ty #[.slice (some ⟨g, f, none⟩) k c]).run Try.prog w = .ok (.tuple #[]) (w.setRow g (spl cur f (encS (List.replicate k ((0, 0) : Sp)))).toArray) := by
  have hz := encS_zeros k
  have := run_clearK (P := Try.prog) w 94 93 ty (.agg #[.int .i64 0, .int .i64 0]) Try.underlying94 Try.zeroValue93 g f k c hk cur.toArray 93 hg (by rw [hz, encS_length, List.length_replicate]; simpa using hfit) (by rw [hz]; exact encS_one _)
  rw [hz] at this
  simpa using this

set_option maxRecDepth 100000 in
theorem replace_mid {w : World} {g c i j g2 mc : Nat} {l ms : List Sp} (h : RowAt w g c l) (h2 : RowAt w g2 mc ms) (hne : g2 ≠ g) (h0 : 0 < ms.length) (hij : i + ms.length ≤ j) (hj : j < l.length) (hb : l.length ≤ 100000) :
    Calls Try.prog 50 #[.slice (some ⟨g, 0, none⟩) l.length c, .int .i64 (i : Int), .int .i64 (j : Int), .slice (some ⟨g2, 0, none⟩) ms.length mc] w fun e w' =>
      e = .returned (.slice (some ⟨g, 0, none⟩) (i + ms.length + (l.length - j)) c) ∧ RowAt w' g c (l.take i ++ (ms ++ l.drop j)) ∧ Keep w w' (fun k => k = g) := by
  obtain ⟨n, hn⟩ : ∃ n, n = l.length := ⟨_, rfl⟩
  obtain ⟨m, hm⟩ : ∃ m, m = ms.length := ⟨_, rfl⟩
  obtain ⟨cur, k1, k2, k3, k4, k5⟩ := h
  rw [← hn] at k3 k5 hj hb ⊢
  rw [← hm] at h0 hij ⊢
  have hdl : (l.drop j).length = n - j := by rw [List.length_drop, hn]
  have htl : (l.take i).length = i := by rw [List.length_take, ← hn]; omega
  have HN := Lib.hid hn
  have HM := Lib.hid hm
  have H2 := Lib.hid h2
  have hcm : (c : Int) ≤ 9223372036854775807 := by simp only [maxLen] at k4; omega
  have hc : n ≤ c := k3
  have HC := Lib.hid (show cur.size = c * 2 ∧ cur.toList.take (n * 2) = encS l from ⟨k2, k5⟩)
  have HK := Lib.hid k1
  have h4 := Lib.hid k4
  have mixed : Try.prog.follows .mixedOrders = true := by kernel_rfl
  have hz1 : ¬ ((i : Int) = (j : Int)) := by omega
  have hz2 : ¬ ((j : Int) = (n : Int)) := by omega
  have q1 : i ≤ j := by omega
  have q2 : j ≤ c := by omega
  have q3 : i ≤ c := by omega
  have q4 : j ≤ n := by omega
  have q5 : i ≤ n := by omega
  have q6 : ¬ (c = j) := by omega
  have q7 : ¬ (c = i) := by omega
  have q8 : IntKind.i64.wrap ((i : Int) + (m : Int)) = (i : Int) + (m : Int) := by rw [IntKind.wrap_i64]; omega
  have q9 : IntKind.i64.wrap ((i : Int) + (m : Int) + ((n - j : Nat) : Int)) = (i : Int) + (m : Int) + ((n - j : Nat) : Int) := by rw [IntKind.wrap_i64]; omega
  have q10 : ¬ ((c : Int) < (i : Int) + (m : Int) + ((n - j : Nat) : Int)) := by omega
  have q11 : (i : Int) + (m : Int) ≤ (j : Int) := by omega
  have q12 : ((i : Int) + (m : Int) + ((n - j : Nat) : Int)).toNat = i + m + (n - j) := by omega
  have q13 : (0 : Int) ≤ (i : Int) + (m : Int) + ((n - j : Nat) : Int) := by omega
  have q14 : (i : Int) + (m : Int) + ((n - j : Nat) : Int) ≤ (c : Int) := by omega
  have q15 : i ≤ i + m + (n - j) := by omega
  have q16 : ((i : Int) + (m : Int)).toNat = i + m := by omega
  have q17 : (0 : Int) ≤ (i : Int) + (m : Int) := by omega
  have q18 : (i : Int) + (m : Int) ≤ (i : Int) + (m : Int) + ((n - j : Nat) : Int) := by omega
  have q19 : ¬ (c = i + m) := by omega
  clear hn hm h2 k1 k2 k4 k5 k3
  go_enter Try.func50, Try.ntmps50
  go_wp2
  go_quiet (fail)
  have R1 : (w.drewN nq).heap[g]? = some (.cells cur 93 (0, 0)) := HK.out
  have R2 : RowAt (w.drewN nq) g2 mc ms := H2.out
  have KQ : Keep w (w.drewN nq) (fun k => k = g) := (Keep.refl w _).drewN nq
  obtain ⟨w1, hw1⟩ : ∃ w1, w1 = w.drewN nq := ⟨_, rfl⟩
  rw [← hw1] at R1 R2 KQ ⊢
  have HR1 := Lib.hid R1
  have HR2 := Lib.hid R2
  have HKQ := Lib.hid KQ
  clear R1 R2 KQ hw1
  go_wp2_with (refine wpList_copyR (o := ⟨some 97, _, _, _, _, _⟩) (by rfl) (.tmp 95) (.tmp 96) rfl rfl rfl HR1.out ms (by have := HM.out; simp only [Nat.min_def]; split <;> omega) HR2.out.src (by have := HC.out.1; have := HM.out; omega) ?_; intro w2 hg2 hk2 hs2; have HG2 := Lib.hid hg2; have HK2 := Lib.hid hk2; clear hg2 hk2 hs2)
  have N2 := HG2.out
  obtain ⟨c1, hc1⟩ : ∃ c1, c1 = spl cur.toList (i * 2) (encS ms) := ⟨_, rfl⟩
  rw [← hc1] at N2
  have hc1l : c1.length = c * 2 := by rw [hc1, spl_length (by rw [encS_length, ← HM.out, Array.length_toList]; have := HC.out.1; omega), Array.length_toList, HC.out.1]
  have hfro : c1.take ((i + m) * 2) = encS (l.take i ++ ms) := by
    rw [hc1]
    unfold spl
    have e1 : cur.toList.take (i * 2) = encS (l.take i) := by rw [← encS_take, ← HC.out.2, List.take_take, Nat.min_eq_left (by omega)]
    rw [e1, ← encS_append]
    have e2 : (i + m) * 2 = (encS (l.take i ++ ms)).length := by rw [encS_length, List.length_append, htl, ← HM.out]
    rw [e2]
    exact List.take_left
  have hbk : ∀ q, q < (l.drop j).length * 2 → c1.toArray[j * 2 + q]? = (encS (l.drop j))[q]? := fun q hq => by
    rw [← row_from HC.out.2 HN.out.symm j (by omega) q hq, List.getElem?_toArray, hc1, spl_out (by rw [encS_length, ← HM.out, Array.length_toList]; have := HC.out.1; omega) (.inr (by rw [encS_length, ← HM.out]; omega))]
    simp
  have hcp : ∀ ty dc sc, (Builtin.copy_ #[94, 94] ty #[.slice (some ⟨g, (i + m) * 2, none⟩) (n - j) dc, .slice (some ⟨g, j * 2, none⟩) (n - j) sc]).run Try.prog w2.drew = .ok (goInt ((n - j : Nat) : Int)) (w2.drew.setRow g (spl c1.toArray.toList ((i + m) * 2) (encS (l.drop j))).toArray) := fun ty dc sc =>
    run_copyK (P := Try.prog) 2 w2.drew 94 94 ty 93 g ((i + m) * 2) (n - j) dc ⟨g, j * 2, none⟩ (n - j) sc (n - j) c1.toArray 93 (encS (l.drop j)) Try.underlying94 size93 N2 (by simp only [Nat.min_def]; split <;> omega) (by rw [encS_length, hdl])
      (encS_src (w := w2.drew) N2 hbk) (by rw [encS_length, hdl]; simp only [List.size_toArray]; omega) (encS_one _)
  obtain ⟨c2, hc2⟩ : ∃ c2, c2 = spl c1.toArray.toList ((i + m) * 2) (encS (l.drop j)) := ⟨_, rfl⟩
  obtain ⟨W3, hW3⟩ : ∃ W3, W3 = w2.drew.setRow g c2.toArray := ⟨_, rfl⟩
  rw [← hc2, ← hW3] at hcp
  have hc2l : c2.length = c * 2 := by rw [hc2, spl_length (by rw [encS_length, hdl]; simp only [List.toList_toArray]; omega)]; simpa using hc1l
  have hE := spl_end3 (cur := c1.toArray.toList) (l := l) (n := n) (i := i + m) (j := j) (m := l.take i ++ ms) (by simpa using hfro) HN.out.symm (by omega) (by rw [List.length_append, htl, HM.out])
  rw [← hc2, List.append_assoc] at hE
  have P3 := Lib.hid (show W3.heap[g]? = some (.cells c2.toArray 93 (0, 0)) by rw [hW3]; exact setRow_heap w2.drew g _ _ 93 _ N2)
  have K3 := Lib.hid (show Keep w2 W3 (fun k => k = g) by rw [hW3]; exact Keep.setRow (S := fun k => k = g) ((Keep.refl w2 _).drew) (.inr rfl) _)
  have H1l := Lib.hid hc1l
  have H2l := Lib.hid hc2l
  have HE := Lib.hid hE
  clear N2 hc1 hW3 hc1l hc2l hc2 hE hbk hfro
  simp only [Act.put]
  go_region_law_o (refine step_copy_is rfl _ _ 94 94 rfl _ _ (by simp [Act.eval, Act.put]) (by simp [Act.eval, Act.put]) (hcp _ _ _) ?_)
  have hlen : (l.take i ++ (ms ++ l.drop j)).length = i + m + (n - j) := by rw [List.length_append, List.length_append, htl, hdl, HM.out]; omega
  have q20 : (i : Int) + (m : Int) + ((n - j : Nat) : Int) ≤ (n : Int) := by omega
  have hK := Lib.hid ((HKQ.out.trans HK2.out (fun _ _ => id)).trans K3.out (fun _ _ => id))
  by_cases hmj : i + m = j
  · have q21 : n - (i + m + (n - j)) = 0 := by omega
    go_wp2_with (refine wpList_clear_is (by rfl) (.tmp 110) rfl rfl (by (first | rw [q21] | skip); exact run_clear_none _ _ _) ?_)
    all_goals
      go_ret
      refine ⟨rfl, ⟨_, P3.out, by have := H2l.out; simp; omega, by rw [hlen]; omega, by have := h4.out; omega, by rw [hlen]; exact HE.out⟩, hK.out⟩
  · have q22 : ¬ (c = i + m + (n - j)) := by omega
    obtain ⟨W4, hW4⟩ : ∃ W4, W4 = W3.setRow g (spl c2 ((i + m + (n - j)) * 2) (encS (List.replicate (n - (i + m + (n - j))) ((0, 0) : Sp)))).toArray := ⟨_, rfl⟩
    have hcl := fun ty cc => run_clear_row (w := W3) ty (g := g) (f := (i + m + (n - j)) * 2) (k := n - (i + m + (n - j))) (c := cc) (by omega) P3.out (by have := H2l.out; omega)
    rw [← hW4] at hcl
    have P4 := Lib.hid (show W4.heap[g]? = some (.cells (spl c2 ((i + m + (n - j)) * 2) (encS (List.replicate (n - (i + m + (n - j))) ((0, 0) : Sp)))).toArray 93 (0, 0)) by rw [hW4]; exact setRow_heap W3 g _ _ 93 _ P3.out)
    have K4 := Lib.hid (show Keep W3 W4 (fun k => k = g) by rw [hW4]; exact Keep.setRow (S := fun k => k = g) (Keep.refl W3 _) (.inr rfl) _)
    clear hW4
    go_wp2
    go_ret
    have hfit : (i + m + (n - j)) * 2 + (encS (List.replicate (n - (i + m + (n - j))) ((0, 0) : Sp))).length ≤ c2.length := by rw [encS_length, List.length_replicate, H2l.out]; omega
    refine ⟨rfl, ⟨_, P4.out, by rw [List.size_toArray, spl_length hfit]; exact H2l.out, by rw [hlen]; omega, h4.out, ?_⟩, hK.out.trans K4.out (fun _ _ => id)⟩
    rw [hlen]
    have e := spl_front (cur := c2) (vs := encS (List.replicate (n - (i + m + (n - j))) ((0, 0) : Sp))) (f := (i + m + (n - j)) * 2) (by omega)
    simp only [List.toList_toArray]
    rw [e]
    exact HE.out
end Go.Proofs.Ytjnekjjaofabeaa
