/-
  Slices of bytes: that read as a list; that a call owns, from any place of a block on; append, slicing; what a call leaves as it was.
-/
import Derived.Test.YtjnekjjaofabeaaU
import Derived.Laws.AppendOwn
import Derived.Laws.IdiomStrings
import Derived.Laws.CopyRow
namespace Go.Rh
open Go.RowKit

/-- All but the blocks of `S` is as it was; new blocks. -/
structure Keep (w w' : World) (S : Nat → Prop) : Prop where
  os : w'.os = w.os
  tape : w'.tape = w.tape
  output : w'.output = w.output
  size : w.heap.size ≤ w'.heap.size
  block : ∀ k, k < w.heap.size → ¬ S k → w'.heap[k]? = w.heap[k]?
section
variable {w w' w1 w2 : World} {S T : Nat → Prop}
theorem Keep.refl (w : World) (S : Nat → Prop) : Keep w w S := ⟨rfl, rfl, rfl, Nat.le_refl _, fun _ _ _ => rfl⟩
theorem Keep.of_below {B : Nat} (h : Below B w w') (hB : w.heap.size ≤ B) (S : Nat → Prop) : Keep w w' S := ⟨h.os, h.tape, h.output, h.size, fun k hk _ => h.block k (Nat.lt_of_lt_of_le hk hB)⟩
theorem Keep.below (h : Keep w w' S) {B : Nat} (hB : B ≤ w.heap.size) (hS : ∀ k, k < B → ¬ S k) : Below B w w' := ⟨h.os, h.tape, h.output, h.size, fun k hk => h.block k (Nat.lt_of_lt_of_le hk hB) (hS k hk)⟩
theorem Keep.trans (h : Keep w w1 S) (k : Keep w1 w2 T) (hT : ∀ i, i < w.heap.size → T i → S i) : Keep w w2 S :=
  ⟨k.os.trans h.os, k.tape.trans h.tape, k.output.trans h.output, Nat.le_trans h.size k.size, fun i hi hn => (k.block i (Nat.lt_of_lt_of_le hi h.size) (fun ht => hn (hT i hi ht))).trans (h.block i hi hn)⟩
theorem Keep.mono (h : Keep w w' S) (hT : ∀ i, i < w.heap.size → S i → T i) : Keep w w' T := ⟨h.os, h.tape, h.output, h.size, fun i hi hn => h.block i hi (fun hs => hn (hT i hi hs))⟩
theorem Keep.of_grown {r : Option Nat} (h : w.grownBy w' r) (hr : ∀ k, k < w.heap.size → r = some k → S k) : Keep w w' S := ⟨h.os, h.tape, h.output, h.size, fun k hk hn => h.block k hk (fun e => hn (hr k hk e.symm))⟩
theorem Keep.drew (h : Keep w w' S) : Keep w w'.drew S := ⟨h.os, h.tape, h.output, h.size, h.block⟩
theorem Keep.drewN (h : Keep w w' S) (n : Nat) : Keep w (w'.drewN n) S := ⟨h.os, h.tape, h.output, h.size, h.block⟩
theorem Keep.alloc (h : Keep w w' S) (o : Obj) : Keep w (w'.alloc o) S := ⟨h.os, h.tape, h.output, by simp; have := h.size; omega, fun k hk hn => (heap_old w' o k (Nat.lt_of_lt_of_le hk h.size)).trans (h.block k hk hn)⟩
theorem Keep.setCell (h : Keep w w' S) {p : Addr} (hp : w.heap.size ≤ p.block ∨ S p.block) (v : Value) : Keep w (w'.setCell p v) S :=
  ⟨h.os, h.tape, h.output, by simpa [World.setCell] using h.size, fun k hk hn => (Below.heap_setCell w' p v k (by rintro rfl; exact hp.elim (fun h => by omega) hn)).trans (h.block k hk hn)⟩
theorem Keep.setRow (h : Keep w w' S) {g : Nat} (hp : w.heap.size ≤ g ∨ S g) (cs : Array Value) : Keep w (w'.setRow g cs) S :=
  ⟨h.os, h.tape, h.output, by simpa [World.setRow] using h.size, fun k hk hn => (setRow_other w' g k cs (by rintro rfl; exact hp.elim (fun h => by omega) hn)).trans (h.block k hk hn)⟩
end

/-- A slice of bytes that reads as a list; its block is one of `ok`. -/
def Bs (ok : Nat → Prop) (w : World) (v : Value) (l : List UInt8) : Prop :=
  ∃ A n c, v = .slice A n c ∧ n = l.length ∧ n ≤ c ∧ (0 < n → ∃ b off, A = some ⟨b, off, none⟩ ∧ ok b ∧ ∀ j, j < n → w.cell? ⟨b, off + j, none⟩ = some (.int .u8 (ub (at_ l j))))
theorem cell_block {w : World} {a : Addr} {v : Value} (h : w.cell? a = some v) : a.block < w.heap.size := World.block_lt_of_cell? w a h
theorem Bs.keep {ok S : Nat → Prop} {w w' : World} {v : Value} {l : List UInt8} (h : Bs ok w v l) (k : Keep w w' S) (hS : ∀ i, ok i → ¬ S i) : Bs ok w' v l := by
  obtain ⟨A, n, c, rfl, hn, hc, hb⟩ := h
  refine ⟨A, n, c, rfl, hn, hc, fun h0 => ?_⟩
  obtain ⟨b, off, rfl, hok, hj⟩ := hb h0
  exact ⟨b, off, rfl, hok, fun j hjn => (World.cell?_of_block (k.block b (cell_block (hj j hjn)) (hS b hok))).trans (hj j hjn)⟩
theorem Bs.mono {ok ok' : Nat → Prop} {w : World} {v : Value} {l : List UInt8} (h : Bs ok w v l) (hk : ∀ i, i < w.heap.size → ok i → ok' i) : Bs ok' w v l := by
  obtain ⟨A, n, c, rfl, hn, hc, hb⟩ := h
  refine ⟨A, n, c, rfl, hn, hc, fun h0 => ?_⟩
  obtain ⟨b, off, rfl, hok, hj⟩ := hb h0
  exact ⟨b, off, rfl, hk b (cell_block (hj 0 h0)) hok, hj⟩
theorem Bs.heap {ok : Nat → Prop} {w w' : World} {v : Value} {l : List UInt8} (h : Bs ok w v l) (e : w'.heap = w.heap) : Bs ok w' v l := by
  obtain ⟨A, n, c, rfl, hn, hc, hb⟩ := h
  refine ⟨A, n, c, rfl, hn, hc, fun h0 => ?_⟩
  obtain ⟨b, off, rfl, hok, hj⟩ := hb h0
  exact ⟨b, off, rfl, hok, fun j hjn => (World.cell?_of_block (by rw [e])).trans (hj j hjn)⟩

/-- The bytes as values. -/
def bv (l : List UInt8) : List Value := l.map fun x => .int .u8 (ub x)
theorem bv_length (l : List UInt8) : (bv l).length = l.length := by simp [bv]
theorem bv_append (l m : List UInt8) : bv (l ++ m) = bv l ++ bv m := by simp [bv]
theorem bv_get {l : List UInt8} {j : Nat} {v : Value} (h : (bv l)[j]? = some v) : j < l.length ∧ v = .int .u8 (ub (at_ l j)) := by
  simp only [bv, List.getElem?_map, Option.map_eq_some_iff] at h
  obtain ⟨x, hx, rfl⟩ := h
  have hj := (List.getElem?_eq_some_iff.1 hx).1
  refine ⟨hj, ?_⟩
  rw [at_get hj]
  rw [List.getElem?_eq_getElem hj] at hx
  rw [Option.some.inj hx]
theorem bv_at {l : List UInt8} {j : Nat} (h : j < l.length) : (bv l)[j]? = some (.int .u8 (ub (at_ l j))) := by
  simp only [bv, List.getElem?_map, List.getElem?_eq_getElem h, Option.map_some, at_get h]
theorem bv_one (l : List UInt8) : ∀ v ∈ bv l, v.oneCell' = true := by
  intro v hv
  simp only [bv, List.mem_map] at hv
  obtain ⟨x, _, rfl⟩ := hv
  rfl

/-- No cell of a row of that size is frozen. -/
def free (fr : Nat × Nat) (n : Nat) : Prop := fr = (0, 0) ∨ n ≤ fr.1
theorem frozen_free {w : World} {g : Nat} {cs : Array Value} {t : TypeId} {fr : Nat × Nat} (hg : w.heap[g]? = some (.cells cs t fr)) (hf : free fr cs.size) {j : Nat} (hj : j < cs.size) : w.frozen? ⟨g, j, none⟩ = false := by
  obtain ⟨lo, hi⟩ := fr
  simp only [World.frozen?, hg]
  rcases hf with e | e
  · injection e with e1 e2; subst e1 e2; simp
  · simp at e; simp; omega

/-- A slice of bytes whose block the call owns: from any place on, with room up to its capacity. -/
def Own (w : World) (B : Nat) (v : Value) (l : List UInt8) : Prop :=
  (v = .slice none 0 0 ∧ l = []) ∨
  ∃ g off c cs fr, v = .slice (some ⟨g, off, none⟩) l.length c ∧ B ≤ g ∧ w.heap[g]? = some (.cells cs 5 fr) ∧ free fr cs.size ∧ l.length ≤ c ∧ off + c ≤ cs.size ∧ ∀ j, j < l.length → cs[off + j]? = some (.int .u8 (ub (at_ l j)))
theorem Own.lt {w : World} {B : Nat} {v : Value} {l : List UInt8} (h : Own w B v l) : ∀ k, v.ownBlock = some k → B ≤ k ∧ k < w.heap.size := by
  intro k hk
  rcases h with ⟨rfl, _⟩ | ⟨g, off, c, cs, fr, rfl, hB, hg, _⟩
  · simp [Value.ownBlock] at hk
  · simp [Value.ownBlock] at hk
    subst hk
    exact ⟨hB, heap_lt hg⟩
theorem Own.form {w : World} {B : Nat} {v : Value} {l : List UInt8} (h : Own w B v l) : ∃ A n c, n = l.length ∧ v = .slice A n c := by
  rcases h with ⟨rfl, rfl⟩ | ⟨g, off, c, cs, fr, rfl, _⟩
  · exact ⟨_, _, _, rfl, rfl⟩
  · exact ⟨_, _, _, rfl, rfl⟩
theorem Own.keep {S : Nat → Prop} {w w' : World} {B : Nat} {v : Value} {l : List UInt8} (h : Own w B v l) (k : Keep w w' S) (hS : ∀ i, v.ownBlock = some i → ¬ S i) : Own w' B v l := by
  rcases h with h | ⟨g, off, c, cs, fr, rfl, hB, hg, hf, h1, h2, h3⟩
  · exact .inl h
  · exact .inr ⟨g, off, c, cs, fr, rfl, hB, (k.block g (heap_lt hg) (hS g rfl)).trans hg, hf, h1, h2, h3⟩
theorem Own.heap {w w' : World} {B : Nat} {v : Value} {l : List UInt8} (h : Own w B v l) (e : w'.heap = w.heap) : Own w' B v l := by
  rcases h with h | ⟨g, off, c, cs, fr, rfl, hB, hg, r⟩
  · exact .inl h
  · exact .inr ⟨g, off, c, cs, fr, rfl, hB, by rw [e]; exact hg, r⟩
theorem Own.mono {w : World} {B B' : Nat} {v : Value} {l : List UInt8} (h : Own w B v l) (hB : ∀ k, v.ownBlock = some k → B' ≤ k) : Own w B' v l := by
  rcases h with h | ⟨g, off, c, cs, fr, rfl, _, r⟩
  · exact .inl h
  · exact .inr ⟨g, off, c, cs, fr, rfl, hB g rfl, r⟩
theorem Own.bs {w : World} {B : Nat} {v : Value} {l : List UInt8} (h : Own w B v l) : Bs (fun k => v.ownBlock = some k) w v l := by
  rcases h with ⟨rfl, rfl⟩ | ⟨g, off, c, cs, fr, rfl, hB, hg, hf, h1, h2, h3⟩
  · exact ⟨none, 0, 0, rfl, rfl, Nat.le_refl _, fun h => absurd h (Nat.lt_irrefl _)⟩
  · exact ⟨_, _, _, rfl, rfl, h1, fun _ => ⟨g, off, rfl, rfl, fun j hj => by rw [cell_of_row w g (off + j) cs 5 fr hg]; exact h3 j hj⟩⟩
/-- A block of bytes just made. -/
theorem Own.of_block {w : World} {B g c : Nat} {cs : Array Value} {fr : Nat × Nat} {l : List UInt8} (hg : w.heap[g]? = some (.cells cs 5 fr)) (hf : free fr cs.size) (hB : B ≤ g) (hc : l.length ≤ c) (hs : c ≤ cs.size)
    (h : ∀ j, j < l.length → cs[j]? = some (.int .u8 (ub (at_ l j)))) : Own w B (.slice (some ⟨g, 0, none⟩) l.length c) l :=
  .inr ⟨g, 0, c, cs, fr, rfl, hB, hg, hf, hc, by omega, fun j hj => by rw [Nat.zero_add]; exact h j hj⟩

/-- Cells stored into a row one by one. -/
theorem run_storeCells_fr (P : Program) (g o : Nat) (t : TypeId) (fr : Nat × Nat) : ∀ (vs : List Value) (i : Nat) (cur : Array Value) (w : World), w.heap[g]? = some (.cells cur t fr) → free fr cur.size → o + i + vs.length ≤ cur.size → (∀ v ∈ vs, v.oneCell' = true) →
    ∃ cs, (storeCells ⟨g, o, none⟩ vs i).run P w = .ok () (w.setRow g cs) ∧ cs.size = cur.size ∧ (∀ j, j < vs.length → cs[o + i + j]? = vs[j]?) ∧ ∀ j, (j < o + i ∨ o + i + vs.length ≤ j) → cs[j]? = cur[j]?
  | [], i, cur, w, hg, _, _, _ => ⟨cur, by simp only [storeCells]; rw [setRow_self w g cur t fr hg]; rfl, rfl, fun j hj => by simp at hj, fun _ _ => rfl⟩
  | v :: rest, i, cur, w, hg, hf, hl, h1 => by
    have hi : o + i < cur.size := by simp at hl; omega
    have hadd : (⟨g, o, none⟩ : Addr).add i = ⟨g, o + i, none⟩ := by unfold Addr.add; split <;> simp_all
    have hcell : w.cell? ⟨g, o + i, none⟩ = some cur[o + i] := by simp [World.cell?, hg, hi]
    have hfro : w.frozen? ⟨g, o + i, none⟩ = false := frozen_free hg hf hi
    have hst : (store ((⟨g, o, none⟩ : Addr).add i) v).run P w = .ok () (w.setRow g (cur.setIfInBounds (o + i) v)) := by
      rw [hadd, run_store P w _ v _ (h1 v (by simp)), hcell]
      simp [hfro, setCell_eq_setRow w g (o + i) cur t fr v hg]
    obtain ⟨cs, hr, hs, hin, hout⟩ := run_storeCells_fr P g o t fr rest (i + 1) (cur.setIfInBounds (o + i) v) (w.setRow g (cur.setIfInBounds (o + i) v)) (setRow_heap w g cur _ t _ hg) (by simpa using hf) (by simp at hl ⊢; omega) (fun x hx => h1 x (by simp [hx]))
    refine ⟨cs, by simp only [storeCells, Sem.run_bind, hst, Result.andThen_ok, hr, setRow_setRow], by simpa using hs, fun j hj => ?_, fun j hj => ?_⟩
    · cases j with
      | zero =>
        rw [hout (o + i + 0) (.inl (by omega))]
        simp [hi]
      | succ j =>
        have := hin j (by simpa using hj)
        rw [show o + i + (j + 1) = o + (i + 1) + j by omega, this]
        simp
    · rw [hout j (by simp at hj; omega), Array.getElem?_setIfInBounds_ne (by simp at hj; omega)]

section
variable {P : Program}
/-- append onto a slice of one's own. -/
theorem run_append_bytes {w : World} {B : Nat} {ok : Nat → Prop} {v x : Value} {l m : List UInt8} (t ty : TypeId) (i : TypeInfo) (ht : P.underlying t = some (.slice 5)) (hi : P.info? 5 = some i) (hz : i.zero = some (.int .u8 0)) (hsz : i.size = 1) (hby : i.bytes = 1)
    (hown : Own w B v l) (hx : Bs ok w x m) (hbound : l.length + m.length ≤ 140737488355328) (hB : B ≤ w.heap.size) :
    ∃ v' w', (Builtin.append_ #[t, t] ty #[v, x]).run P w = .ok v' w' ∧ Own w' B v' (l ++ m) ∧ Keep w w' (fun k => v.ownBlock = some k) ∧ (v'.ownBlock = v.ownBlock ∨ v'.ownBlock = some w.heap.size) := by
  obtain ⟨A, n, c, rfl, hn, hc, hbk⟩ := hx
  by_cases h0 : n = 0
  · have hm : m = [] := List.eq_nil_of_length_eq_zero (by omega)
    subst hm h0
    clear hbk hn hbound
    refine ⟨v, w, ?_, by rw [List.append_nil]; exact hown, Keep.refl _ _, .inl rfl⟩
    rcases hown with ⟨rfl, rfl⟩ | ⟨g, off, cap, cs, fr, rfl, _, _, _, hnc, _⟩ <;> cases A <;> simp [Builtin.append_, run_underlying ht, sizeOf, typeInfo, hi, Builtin.lenOf, Builtin.firstCells, loadCells, loadCellsFrom, storeCells, hsz]
    all_goals (first | omega | simp [hnc])
  · obtain ⟨b, off, rfl, hok, hj⟩ := hbk (by omega)
    have hl : (bv m).length = n * i.size := by rw [bv_length, hsz]; omega
    have hnews : ∀ j u, (bv m)[j]? = some u → w.cell? ((⟨b, off, none⟩ : Addr).add j) = some u := by
      intro j u hu
      obtain ⟨hjm, rfl⟩ := bv_get hu
      rw [Addr.add_lit]
      exact hj j (by omega)
    have grown : ∀ cap0 : Nat, cap0 < l.length + n → ∀ (cap : Nat), l.length + n ≤ cap →
        Own (w.drew.alloc (.cells ((bv l).toArray ++ (bv m).toArray ++ Builtin.zeroCells (Value.int .u8 0).cells (cap - (l.length + n))) 5)) B (.slice (some ⟨w.heap.size, 0, none⟩) (l.length + n) cap) (l ++ m) := by
      intro cap0 _ cap hcap
      have e : l.length + n = (l ++ m).length := by rw [List.length_append]; omega
      rw [e]
      refine Own.of_block (heap_alloc_new w.drew _) (.inl rfl) hB (by omega) ?_ fun j hj' => ?_
      · simp [bv_length, Builtin.zeroCells, Value.cells]; omega
      · rw [Array.getElem?_append_left (by simp [bv_length]; simpa using hj'), List.append_toArray, ← bv_append, List.getElem?_toArray]
        exact bv_at hj'
    rcases hown with ⟨rfl, rfl⟩ | ⟨g, o, cap, cs, fr, rfl, hBg, hg, hf, hnc, hfit, hcs⟩
    · have hr := run_append_nil (P := P) w t ty 5 i (.int .u8 0) ht hi hz ⟨b, off, none⟩ n c (bv m) hl hnews (by omega) (by omega) (by rw [hby]; omega)
      have hge := grownCap_ge w n 0 5
      have hg := grown 0 (by simp; omega) (grownCap w n 0 5) (by simpa using hge)
      simp only [List.length_nil, Nat.zero_add, List.nil_append] at hg
      refine ⟨_, _, hr, by simpa [bv] using hg, ⟨rfl, rfl, rfl, by simp, fun k hk _ => heap_old w.drew _ k hk⟩, .inr rfl⟩
    · have holds : ∀ j u, (bv l)[j]? = some u → w.cell? ((⟨g, o, none⟩ : Addr).add j) = some u := by
        intro j u hu
        obtain ⟨hjl, rfl⟩ := bv_get hu
        rw [Addr.add_lit, cell_of_row w g (o + j) cs 5 fr hg]
        exact hcs j hjl
      by_cases hroom : l.length + n ≤ cap
      · have hfc := run_firstCells_some (P := P) w i.size n ⟨b, off, none⟩ n c (bv m) hl hnews
        obtain ⟨cs', hr, hs', hin, hout⟩ := run_storeCells_fr P g (o + l.length) 5 fr (bv m) 0 cs w hg hf (by rw [bv_length]; omega) (bv_one m)
        refine ⟨.slice (some ⟨g, o, none⟩) (l.length + n) cap, w.setRow g cs', ?_, ?_, ?_, .inl rfl⟩
        · simp [Builtin.append_, run_underlying ht, sizeOf, typeInfo, hi, Builtin.lenOf, hroom, hfc, Addr.add_lit, hsz, hr]
          rw [hsz] at hfc
          rw [hfc]
          simp [hr]
        · refine .inr ⟨g, o, cap, cs', fr, by rw [List.length_append, hn], hBg, setRow_heap w g cs _ 5 _ hg, by rw [hs']; exact hf, by rw [List.length_append]; omega, by omega, fun j hj' => ?_⟩
          by_cases hjl : j < l.length
          · rw [hout (o + j) (.inl (by omega)), hcs j hjl, at_append_left hjl]
          · have h1 := hin (j - l.length) (by rw [bv_length]; rw [List.length_append] at hj'; omega)
            rw [show o + l.length + 0 + (j - l.length) = o + j by omega] at h1
            rw [h1, bv_at (by rw [List.length_append] at hj'; omega)]
            congr 3
            unfold at_
            rw [List.getD_eq_getElem?_getD, List.getD_eq_getElem?_getD, List.getElem?_append_right (by omega)]
        · exact Keep.setRow (S := fun k => some g = some k) (Keep.refl w _) (.inr rfl) _
      · have hr := run_append_grow (P := P) w t ty 5 i (.int .u8 0) ht hi hz ⟨g, o, none⟩ l.length cap (bv l) (by rw [bv_length, hsz]; omega) holds ⟨b, off, none⟩ n c (bv m) hl hnews (by omega) (by omega) (growslice_fits (by omega) (by rw [hby]; omega))
        have hge := grownCap_ge w (l.length + n) cap 5
        exact ⟨_, _, hr, grown cap (by omega) _ hge, ⟨rfl, rfl, rfl, by simp, fun k hk _ => heap_old w.drew _ k hk⟩, .inr rfl⟩
end
end Go.Rh
