/-
  slices.Insert of one range in the middle (f52): into the row itself, or into a new one.
-/
import Derived.Test.YtjnekjjaofabeaaNb
import Derived.Lib.AppendZerosOnto
import Derived.Laws.Externs
import Derived.Laws.NewBlocks
import Derived.Laws.IdiomCopy
import Derived.Shelf.RegionOpenPlain
namespace Go.Proofs.Ytjnekjjaofabeaa
open Go.RowKit Go.Rh Rng

theorem spl_end {cur : List Value} {l : List Sp} {n i k : Nat} (h : cur.take (n * 2) = encS l) (hl : l.length = n) (hi : i + k ≤ n) (hn : (n + k) * 2 ≤ cur.length) :
    (spl cur ((i + k) * 2) (encS (l.drop i))).take ((n + k) * 2) = encS (l.take (i + k) ++ l.drop i) := by
  have e1 : cur.take ((i + k) * 2) = encS (l.take (i + k)) := by
    rw [← encS_take, ← h, List.take_take, Nat.min_eq_left (by omega)]
  unfold spl
  rw [e1, ← encS_append]
  have e2 : (n + k) * 2 = (encS (l.take (i + k) ++ l.drop i)).length := by rw [encS_length, List.length_append, List.length_take, List.length_drop, hl]; omega
  rw [e2]
  exact List.take_left
theorem encS_src {w : World} {g f : Nat} {cur : Array Value} {l : List Sp} {t : TypeId} {fr : Nat × Nat} (hg : w.heap[g]? = some (.cells cur t fr)) (h : ∀ j, j < l.length * 2 → cur[f + j]? = (encS l)[j]?) :
    ∀ j u, (encS l)[j]? = some u → w.cell? ((⟨g, f, none⟩ : Addr).add j) = some u := by
  intro j u hu
  have hj := (List.getElem?_eq_some_iff.1 hu).1
  rw [encS_length] at hj
  rw [Addr.add_lit, cell_of_row w g _ cur t fr hg, h j hj, hu]
/-- The cells of a row from a place on. -/
theorem row_from {cur : Array Value} {l : List Sp} {n : Nat} (h : cur.toList.take (n * 2) = encS l) (hl : l.length = n) (i : Nat) (hi : i ≤ n) : ∀ j, j < (l.drop i).length * 2 → cur[i * 2 + j]? = (encS (l.drop i))[j]? := by
  intro j hj
  rw [List.length_drop, hl] at hj
  have := congrArg (fun x : List Value => x[i * 2 + j]?) h
  simp only [List.getElem?_take] at this
  rw [if_pos (by omega)] at this
  rw [← encS_drop, List.getElem?_drop, ← this]
  simp

theorem run_overlaps53 {w : World} {g2 g : Nat} {cs cur : Array Value} (h2 : w.heap[g2]? = some (.cells cs 93 (0, 0))) (hg : w.heap[g]? = some (.cells cur 93 (0, 0))) (hne : g2 ≠ g) (hc : cur.size ≠ 0) (m vc f lb cb : Nat) :
    (callFunc 53 #[.slice (some ⟨g2, 0, none⟩) m vc, .slice (some ⟨g, f, none⟩) lb cb]).run Try.prog w = .ok (.value (.bool false)) w := by
  rw [run_callFunc_extern Try.func53 (by kernel_rfl) (by kernel_rfl) (by kernel_rfl) (e := Extern.SlicesOverlaps.overlaps #[94, 94] #[4]) (by kernel_rfl),
    Lib.run_overlaps_apart w 94 4 93 Try.underlying94 2 (fun w => by obtain ⟨i0, hi, _, hs, _⟩ := info_parts info93; simp [Go.sizeOf, typeInfo, hi, hs]) ⟨g2, 0, none⟩ ⟨g, f, none⟩ m vc lb cb hne 93 93 cs.size cur.size (by simp [World.shape?, h2]) (by simp [World.shape?, hg]) hc (by simp [World.frozen?, h2]) (by simp [World.frozen?, h2])]
  rfl

section
variable {P : Program}
theorem wpList_copy_is {w : World} {ops : Array Oper} {rest : List Oper} {o : Oper} {a : Act} {Q : Exit → Act → World → Prop} (hw : Region.wanted o (yielded ops a.tmps) = true) (d s : Operand) (t u : TypeId)
    (ho : o.op = .call { callee := .builtin .copy, args := #[d, s], argTypes := #[t, u] }) (x y : Value) (hd : a.eval d = x) (hs : a.eval s = y) {v' : Value} {w' : World}
    (hr : (Builtin.copy_ #[t, u] o.type #[x, y]).run P w = .ok v' w') (h : wpList P ops Q rest (a.put o.dst v') w') : wpList P ops Q (o :: rest) a w := by
  refine wpList_run hw (v := v') ?_ h
  unfold execOp
  simp only [ho, resolve, invoke, builtin, Sem.run_bind, Sem.run_pure, Result.andThen_ok, List.map_toArray, List.map_cons, List.map_nil, hd, hs, hr]
theorem step_copy_is {ops : Array Oper} {o : Oper} {a : Act} {w : World} {K : Act → World → Prop} {Q : Exit → Act → World → Prop} {E : Prop}
    (hg : o.guard = none) (d s : Operand) (t u : TypeId) (ho : o.op = .call { callee := .builtin .copy, args := #[d, s], argTypes := #[t, u] })
    (x y : Value) (hd : a.eval d = x) (hs : a.eval s = y) {v' : Value} {w' : World} (hr : (Builtin.copy_ #[t, u] o.type #[x, y]).run P w = .ok v' w') (hK : K (a.put o.dst v') w') :
    if Region.wanted o (yielded ops a.tmps) = true then Oper.wp P o a w K Q else E := by
  have hw : Region.wanted o (yielded ops a.tmps) = true := by simp [Region.wanted, hg]
  rw [if_pos hw]
  unfold Oper.wp execOp
  simp only [ho, resolve, invoke, builtin, Sem.run_bind, Sem.run_pure, Result.andThen_ok, List.map_toArray, List.map_cons, List.map_nil, hd, hs, hr]
  exact hK
end

set_option maxRecDepth 100000 in
theorem insert_shift {w : World} {g c i g2 : Nat} {l : List Sp} {t : Sp} (h : RowAt w g c l) (h2 : One w g2 t) (hne : g2 ≠ g) (hi : i < l.length) (hc : l.length + 1 ≤ c) (hb : l.length ≤ 100000) :
    Calls Try.prog 52 #[.slice (some ⟨g, 0, none⟩) l.length c, .int .i64 (i : Int), .slice (some ⟨g2, 0, none⟩) 1 1] w fun e w' =>
      e = .returned (.slice (some ⟨g, 0, none⟩) (l.length + 1) c) ∧ RowAt w' g c (l.take i ++ t :: l.drop i) ∧ Keep w w' (fun k => k = g) := by
  obtain ⟨n, hn⟩ : ∃ n, n = l.length := ⟨_, rfl⟩
  obtain ⟨cur, k1, k2, k3, k4, k5⟩ := h
  have hov := fun f lb cb => run_overlaps53 h2 k1 hne (by rw [k2]; omega) 1 1 f lb cb
  have hcm : (c : Int) ≤ 9223372036854775807 := by simp only [maxLen] at k4; omega
  rw [← hn] at k3 k5 hi hc hb ⊢
  have hdl : (l.drop i).length = n - i := by rw [List.length_drop, hn]
  have hcp1 : ∀ ty dc sc, (Builtin.copy_ #[94, 94] ty #[.slice (some ⟨g, (i + 1) * 2, none⟩) (n - i) dc, .slice (some ⟨g, i * 2, none⟩) (n + 1 - i) sc]).run Try.prog w.drew = .ok (goInt ((n - i : Nat) : Int)) (w.drew.setRow g (spl cur.toList ((i + 1) * 2) (encS (l.drop i))).toArray) := fun ty dc sc =>
    run_copyK (P := Try.prog) 2 w.drew 94 94 ty 93 g ((i + 1) * 2) (n - i) dc ⟨g, i * 2, none⟩ (n + 1 - i) sc (n - i) cur 93 (encS (l.drop i)) Try.underlying94 size93 k1 (by simp only [Nat.min_def]; split <;> omega) (by rw [encS_length, hdl])
      (encS_src (w := w.drew) k1 (row_from k5 hn.symm i (by omega))) (by rw [encS_length, hdl, k2]; omega) (encS_one _)
  obtain ⟨W1, hW1⟩ : ∃ W1, W1 = w.drew.setRow g (spl cur.toList ((i + 1) * 2) (encS (l.drop i))).toArray := ⟨_, rfl⟩
  rw [← hW1] at hcp1
  have m1 : W1.heap[g]? = some (.cells (spl cur.toList ((i + 1) * 2) (encS (l.drop i))).toArray 93 (0, 0)) := by rw [hW1]; exact setRow_heap w.drew g cur _ 93 _ k1
  have hK1 : Keep w W1 (fun k => k = g) := by rw [hW1]; exact Keep.setRow (S := fun k => k = g) ((Keep.refl w _).drew) (.inr rfl) _
  have o1 : One W1 g2 t := h2.keep hK1 hne
  have hz2 : ¬ ((i : Int) = (n : Int)) := by omega
  have hw1 : IntKind.i64.wrap ((i : Int) + 1) = (i : Int) + 1 := by rw [IntKind.wrap_i64]; omega
  have htn : ((i : Int) + 1).toNat = i + 1 := by omega
  have hb2 : ¬ (c = i + 1) := by omega
  have hb3 : (i : Int) ≤ (n : Int) + 1 := by omega
  have hb4 : ¬ (c = i) := by omega
  have hin : i ≤ n := by omega
  have hb1 : (0 : Int) ≤ (i : Int) + 1 := by omega
  have HK1 := Lib.hid hK1
  have HO1 := Lib.hid o1
  have HM1 := Lib.hid m1
  have HN := Lib.hid hn
  have HC := Lib.hid (show cur.size = c * 2 ∧ cur.toList.take (n * 2) = encS l from ⟨k2, k5⟩)
  have h4 := Lib.hid k4
  have mixed : Try.prog.follows .mixedOrders = true := by kernel_rfl
  clear hK1 o1 m1 hn k2 k5 k1 h2 hW1 k4
  go_enter Try.func52, Try.ntmps52
  go_wp2_with (simp only [hov])
  go_region_law_o (refine step_copy_is rfl _ _ 94 94 rfl _ _ (by simp [Act.eval, Act.put]) (by simp [Act.eval, Act.put]) (hcp1 _ _ _) ?_)
  have hmin : [t].length = Nat.min 1 (n + 1 - i) := by simp only [Nat.min_def]; split <;> simp; omega
  go_wp2_with (refine wpList_copyR (by rfl) _ _ rfl rfl rfl HM1.out [t] hmin HO1.out.src (by simp only [List.size_toArray]; rw [spl_length (by rw [encS_length, hdl]; simp only [Array.length_toList]; have := HC.out.1; omega)]; simp only [Array.length_toList, List.length_singleton]; have := HC.out.1; omega) ?_; intro w2 hg2 hk2 hs2; have HG2 := Lib.hid hg2; have HK2 := Lib.hid hk2; clear hg2 hk2 hs2)
  go_ret
  have hl1 : (l.take (i + 1) ++ l.drop i).length = n + 1 := by rw [List.length_append, List.length_take, hdl, ← HN.out]; omega
  have hE := spl_end (cur := cur.toList) (i := i) (k := 1) HC.out.2 HN.out.symm (by omega) (by simp only [Array.length_toList]; have := HC.out.1; omega)
  have hsp : (spl cur.toList ((i + 1) * 2) (encS (l.drop i))).length = c * 2 := by
    rw [spl_length (by rw [encS_length, hdl]; simp only [Array.length_toList]; have := HC.out.1; omega)]
    simpa using HC.out.1
  have hF := spl_take (m := [t]) (i := i) (n := n + 1) hE (by rw [hsp]; omega) (by simp only [List.length_singleton]; omega)
  have hlist : (l.take (i + 1) ++ l.drop i).take i ++ [t] ++ (l.take (i + 1) ++ l.drop i).drop (i + [t].length) = l.take i ++ t :: l.drop i := by
    have a1 : (l.take (i + 1) ++ l.drop i).take i = l.take i := by
      rw [List.take_append_of_le_length (by rw [List.length_take, ← HN.out]; omega), List.take_take, Nat.min_eq_left (by omega)]
    have a2 : (l.take (i + 1) ++ l.drop i).drop (i + [t].length) = l.drop i := List.drop_left' (by rw [List.length_take, ← HN.out]; simp only [List.length_singleton]; omega)
    rw [a1, a2]; simp
  rw [hlist] at hF
  have hlen : (l.take i ++ t :: l.drop i).length = n + 1 := by rw [List.length_append, List.length_cons, List.length_take, hdl, ← HN.out]; omega
  refine ⟨rfl, ⟨_, HG2.out, ?_, by rw [hlen]; exact hc, h4.out, by rw [hlen]; simpa using hF⟩, HK1.out.trans HK2.out (fun _ _ => id)⟩
  simp only [List.size_toArray]
  rw [spl_length (by rw [hsp, encS_length, List.length_singleton]; omega), hsp]
end Go.Proofs.Ytjnekjjaofabeaa
