/-
  slices.Insert of one range (f52).
-/
import Derived.Test.YtjnekjjaofabeaaNa
import Derived.Lib.Overlaps
namespace Go.Proofs.Ytjnekjjaofabeaa
open Go.RowKit Go.Rh Rng

theorem info93 : (Try.prog.info? 93).map (fun i => (i.zero, i.size, i.bytes)) = some (some (.agg #[.int .i64 0, .int .i64 0]), 2, 16) := by kernel_rfl
theorem size93 : (Try.prog.info? 93).map (·.size) = some 2 := by kernel_rfl

theorem setV_own {w : World} {v : Value} {l : List Sp} (h : SetV w v l) : w.ownsRow 0 93 2 v l.length (encS l) := by
  refine ⟨encS_length l, ?_⟩
  rcases h with ⟨rfl, rfl⟩ | ⟨g, c, rfl, cur, h1, h2, h3, h4, h5⟩
  · exact .inl ⟨rfl, rfl⟩
  · exact .inr ⟨g, c, cur, rfl, Nat.zero_le _, h1, h3, h4, h2, h5⟩
theorem own_setV {w : World} {v : Value} {l : List Sp} {n : Nat} (hn : n = l.length) (h : w.ownsRow 0 93 2 v n (encS l)) : SetV w v l := by
  subst hn
  rcases h.2 with ⟨rfl, hl⟩ | ⟨g, c, cur, rfl, _, h1, h3, h4, h2, h5⟩
  · exact .inl ⟨rfl, List.eq_nil_of_length_eq_zero hl⟩
  · exact .inr ⟨g, c, rfl, cur, h1, h2, h3, h4, h5⟩

section
variable {P : Program} {ops : Array Oper} {rest : List Oper} {o : Oper} {a : Act} {w : World} {Q : Exit → Act → World → Prop}
theorem wpList_run {v : Value} {w' : World} (hw : Region.wanted o (yielded ops a.tmps) = true) (hr : (execOp a.eval o).run P w = .ok (.value v) w') (h : wpList P ops Q rest (a.put o.dst v) w') : wpList P ops Q (o :: rest) a w := by
  refine BigFrame.wpList_want hw fun K hK => ?_
  unfold Oper.wp
  rw [hr]
  exact hK _ _ h
end
section
variable {ops : Array Oper} {rest : List Oper} {o : Oper} {a : Act} {w : World} {Q : Exit → Act → World → Prop}
/-- Ranges copied into a row. -/
theorem wpList_copyR (hw : Region.wanted o (yielded ops a.tmps) = true) (d s : Operand) (ho : o.op = .call { callee := .builtin .copy, args := #[d, s], argTypes := #[94, 94] })
    {g f dLen dCap sLen sCap : Nat} {A : Addr} {cur : Array Value} (hd : a.eval d = .slice (some ⟨g, f, none⟩) dLen dCap) (hs : a.eval s = .slice (some A) sLen sCap) (hg : w.heap[g]? = some (.cells cur 93 (0, 0)))
    (ms : List Sp) (hm : ms.length = Nat.min sLen dLen) (hsrc : ∀ j v, (encS ms)[j]? = some v → w.cell? (A.add j) = some v) (hfit : f + ms.length * 2 ≤ cur.size)
    (h : ∀ w2 : World, w2.heap[g]? = some (.cells (spl cur.toList f (encS ms)).toArray 93 (0, 0)) → Keep w w2 (fun k => k = g) → w2.heap.size = w.heap.size → wpList Try.prog ops Q rest (a.put o.dst (goInt ms.length)) w2) : wpList Try.prog ops Q (o :: rest) a w := by
  have hr := run_copyK (P := Try.prog) 2 w 94 94 o.type 93 g f dLen dCap A sLen sCap ms.length cur 93 (encS ms) Try.underlying94 size93 hg hm (encS_length ms) hsrc (by rw [encS_length]; exact hfit) (encS_one ms)
  refine wpList_run hw (v := goInt ms.length) ?_ (h _ (setRow_heap w g cur _ 93 _ hg) (Keep.setRow (S := fun k => k = g) (Keep.refl w _) (.inr rfl) _) (by simp))
  unfold execOp
  simp only [ho, resolve, invoke, builtin, Sem.run_bind, Sem.run_pure, Result.andThen_ok, List.map_toArray, List.map_cons, List.map_nil, hd, hs, hr]
theorem row_new93 {w : World} (l : List Sp) (c : Nat) (hc : l.length ≤ c) (hm : c ≤ maxLen) :
    RowAt (w.drew.alloc (.cells ((encS l).toArray ++ Builtin.zeroCells (Value.agg #[.int .i64 0, .int .i64 0]).cells (c - l.length)) 93)) w.heap.size c l := by
  refine ⟨_, heap_alloc_new w.drew _, ?_, hc, hm, ?_⟩
  · rw [Array.size_append, List.size_toArray, encS_length, size_zeroCells]
    show l.length * 2 + (c - l.length) * 2 = c * 2
    omega
  · rw [Array.toList_append, ← encS_length l]
    exact List.take_left
theorem run_appendR {w : World} (ty : TypeId) {v : Value} {l ms : List Sp} {A : Addr} {c : Nat} (hown : SetV w v l) (hsrc : ∀ j u, (encS ms)[j]? = some u → w.cell? (A.add j) = some u) (hb : l.length + ms.length ≤ 1000000) (h0 : 0 < ms.length) :
    ∃ v' w', (Builtin.append_ #[94, 94] ty #[v, .slice (some A) ms.length c]).run Try.prog w = .ok v' w' ∧ SetV w' v' (l ++ ms) ∧ Keep w w' (fun k => v.ownBlock = some k) ∧ (v'.ownBlock = v.ownBlock ∨ ∃ k, v'.ownBlock = some k ∧ w.heap.size ≤ k) := by
  obtain ⟨i0, hi, hz, hs, hby⟩ := info_parts info93
  have hnew : ∀ (X : Nat → Prop) (o : Obj), Keep w (w.drew.alloc o) X := fun X o => ((Keep.refl w X).drew).alloc o
  have hle : ∀ old, grownCap w (l.length + ms.length) old 93 ≤ maxLen := fun old => grownCap_le_maxLen _ _ _ _ (by simp only [maxLen]; omega)
  rcases hown with ⟨rfl, rfl⟩ | ⟨g, cap, rfl, cur, h1, h2, h3, h4, h5⟩
  · have hr := run_append_nil (P := Try.prog) w 94 ty 93 i0 _ Try.underlying94 hi hz A ms.length c (encS ms) (by rw [hs, encS_length]) hsrc h0 (by omega) (by rw [hby]; simp at hb; omega)
    simp only [List.length_nil, Nat.zero_add] at hle
    exact ⟨_, _, hr, .inr ⟨w.heap.size, _, rfl, row_new93 ms _ (grownCap_ge w _ 0 93) (hle 0)⟩, hnew _ _, .inr ⟨_, rfl, Nat.le_refl _⟩⟩
  · by_cases hroom : l.length + ms.length ≤ cap
    · have hr := run_append_room (P := Try.prog) w 94 ty 93 i0 Try.underlying94 hi g l.length cap cur h1 A ms.length c (encS ms) (by rw [hs, encS_length]) hsrc (encS_one ms) hroom (by rw [hs, encS_length, h2]; omega)
      refine ⟨_, _, hr, .inr ⟨g, cap, by rw [List.length_append], _, setRow_heap w g cur _ 93 _ h1, ?_, by rw [List.length_append]; exact hroom, h4, ?_⟩, Keep.setRow (S := fun k => (Value.slice (some ⟨g, 0, none⟩) l.length cap).ownBlock = some k) (Keep.refl w _) (.inr rfl) _, .inl rfl⟩
      · rw [hs]
        simp only [List.size_toArray, List.length_append, List.length_take, List.length_drop, Array.length_toList, encS_length]
        omega
      · rw [hs, h5, List.length_append, encS_append]
        have e : (l.length + ms.length) * 2 = (encS l ++ encS ms).length := by rw [List.length_append, encS_length, encS_length]; omega
        rw [e]
        exact List.take_left
    · have holds : ∀ j u, (encS l)[j]? = some u → w.cell? ((⟨g, 0, none⟩ : Addr).add j) = some u := by
        intro j u hu
        rw [Addr.add_lit, cell_of_row w g _ cur 93 (0, 0) h1]
        rw [← h5, List.getElem?_take] at hu
        split at hu
        · simpa using hu
        · cases hu
      have hr := run_append_grow (P := Try.prog) w 94 ty 93 i0 _ Try.underlying94 hi hz ⟨g, 0, none⟩ l.length cap (encS l) (by rw [hs, encS_length]) holds A ms.length c (encS ms) (by rw [hs, encS_length]) hsrc (by omega) (by omega) (growslice_fits (by omega) (by rw [hby]; omega))
      have hrow := row_new93 (w := w) (l ++ ms) (grownCap w (l.length + ms.length) cap 93) (by rw [List.length_append]; exact grownCap_ge w _ _ _) (hle cap)
      rw [encS_append, List.length_append, ← List.append_toArray] at hrow
      exact ⟨_, _, hr, .inr ⟨w.heap.size, _, by rw [List.length_append], hrow⟩, hnew _ _, .inr ⟨_, rfl, Nat.le_refl _⟩⟩
/-- Ranges put behind a row of one's own. -/
theorem wpList_appendR (hgd : o.guard = none) (s x : Operand) (ho : o.op = .call { callee := .builtin .append, args := #[s, x], argTypes := #[94, 94] }) {v : Value} {l ms : List Sp} {A : Addr} {m c : Nat} (hs : a.eval s = v) (hown : SetV w v l)
    (hx : a.eval x = .slice (some A) m c) (hm : m = ms.length) (hsrc : ∀ j u, (encS ms)[j]? = some u → w.cell? (A.add j) = some u) (hb : l.length + ms.length ≤ 1000000) (h0 : 0 < ms.length)
    (h : ∀ v' w', SetV w' v' (l ++ ms) → Keep w w' (fun k => v.ownBlock = some k) → (v'.ownBlock = v.ownBlock ∨ ∃ k, v'.ownBlock = some k ∧ w.heap.size ≤ k) → wpList Try.prog ops Q rest (a.put o.dst v') w') : wpList Try.prog ops Q (o :: rest) a w := by
  subst hm
  obtain ⟨v', w', hr, h1, h2, h3⟩ := run_appendR (w := w) o.type hown (A := A) (c := c) hsrc hb h0
  refine wpList_run (by simp [Region.wanted, hgd]) (v := v') (w' := w') ?_ (h v' w' h1 h2 h3)
  unfold execOp
  simp only [ho, resolve, invoke, builtin, Sem.run_bind, Sem.run_pure, Result.andThen_ok, List.map_toArray, List.map_cons, List.map_nil, hs, hx, hr]
end
/-- One range, in a block of its own. -/
def One (w : World) (g : Nat) (t : Sp) : Prop := w.heap[g]? = some (.cells #[.int .i64 t.1, .int .i64 t.2] 93 (0, 0))
theorem One.src {w : World} {g : Nat} {t : Sp} (h : One w g t) : ∀ j u, (encS [t])[j]? = some u → w.cell? ((⟨g, 0, none⟩ : Addr).add j) = some u := by
  intro j u hu
  rw [Addr.add_lit, cell_of_row w g _ _ 93 (0, 0) h]
  simpa [encS] using hu
theorem One.keep {w w' : World} {S : Nat → Prop} {g : Nat} {t : Sp} (h : One w g t) (k : Keep w w' S) (hg : ¬ S g) : One w' g t := (k.block g (heap_lt h) hg).trans h

set_option maxRecDepth 100000 in
theorem insert_end {w : World} {v : Value} {l : List Sp} {g2 : Nat} {t : Sp} (h : SetV w v l) (h2 : One w g2 t) (hb : l.length ≤ 100000) :
    Calls Try.prog 52 #[v, .int .i64 (l.length : Int), .slice (some ⟨g2, 0, none⟩) 1 1] w fun e w' => ∃ v', e = .returned v' ∧ SetV w' v' (l ++ [t]) ∧ Keep w w' (fun k => v.ownBlock = some k) ∧ (v'.ownBlock = v.ownBlock ∨ ∃ k, v'.ownBlock = some k ∧ w.heap.size ≤ k) := by
  obtain ⟨N, hN⟩ : ∃ N, N = l.length := ⟨_, rfl⟩
  have HN := Lib.hid hN
  obtain ⟨A, c, hv⟩ := h.form
  have HV := Lib.hid h
  have H2 := Lib.hid h2
  have hc : (N : Int) ≤ (c : Int) := by
    rcases h with ⟨rfl, rfl⟩ | ⟨g, c', rfl, hr⟩
    · simp [hN]
    · injection hv with _ _ e; subst e; obtain ⟨cur, _, _, h3, _⟩ := hr; omega
  rw [← hN] at hv ⊢
  have hN1 : N ≤ 100000 := by omega
  clear h h2 hN hb
  subst hv
  have key : (c = N ∨ ¬ c = N) := Classical.em _
  rcases key with e | hcN
  · subst e
    go_enter Try.func52, Try.ntmps52
    go_wp2_with (at_builtin; refine wpList_appendR (v := .slice A c c) rfl _ _ rfl rfl HV.out rfl rfl H2.out.src (by have := HN.out; simp; omega) (by simp) ?_; intro v1 w1 hv1 hk1 ho1; obtain ⟨A1, n1, c1, hn1, rfl⟩ := hv1.formN; have HN1 := Lib.hid hn1; have HV1 := Lib.hid hv1; have HK1 := Lib.hid hk1; have HO1 := Lib.hid ho1; clear hv1 hk1 ho1 hn1)
    go_ret
    exact ⟨_, rfl, HV1.out, HK1.out, HO1.out⟩
  · go_enter Try.func52, Try.ntmps52
    go_wp2_with (at_builtin; refine wpList_appendR (v := .slice A N c) rfl _ _ rfl rfl HV.out rfl rfl H2.out.src (by have := HN.out; simp; omega) (by simp) ?_; intro v1 w1 hv1 hk1 ho1; obtain ⟨A1, n1, c1, hn1, rfl⟩ := hv1.formN; have HN1 := Lib.hid hn1; have HV1 := Lib.hid hv1; have HK1 := Lib.hid hk1; have HO1 := Lib.hid ho1; clear hv1 hk1 ho1 hn1)
    go_ret
    exact ⟨_, rfl, HV1.out, HK1.out, HO1.out⟩
end Go.Proofs.Ytjnekjjaofabeaa
