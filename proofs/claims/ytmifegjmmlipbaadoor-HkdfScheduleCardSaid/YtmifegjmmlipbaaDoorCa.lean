/-
  Several hashes side by side: what a walk knows of them (`St`), and the calls of New, Write, Sum, Len on one of them.
-/
import Derived.Test.YtmifegjmmlipbaaDoorZa
namespace Go.Proofs.YtmifegjmmlipbaaDoor
open Go.RowKit Go.Rh Sha

theorem HashAt.mono {w : World} {B B' h : Nat} {q : Option Nat} {l : List UInt8} (H : HashAt w B h q l) (hB : B' ≤ B) (h1 : 1 < B') : HashAt w B' h q l := by
  obtain ⟨v, hv, ho, hq, hb, _⟩ := H
  exact ⟨v, hv, ho.mono (fun k hk => Nat.le_trans hB (ho.lt k hk).1), hq, Nat.le_trans hB hb, h1⟩
theorem HashAt.places {w : World} {B h : Nat} {q : Option Nat} {l : List UInt8} (H : HashAt w B h q l) : (B ≤ h ∧ h < w.heap.size) ∧ (∀ i, q = some i → B ≤ i ∧ i < w.heap.size) ∧ (∀ i, q = some i → ∃ cs fr, w.heap[i]? = some (.cells cs 5 fr)) ∧ (∃ cs, w.heap[h]? = some (.cells cs 80 (0, 0))) := by
  obtain ⟨v, hv, ho, rfl, hb, _⟩ := H
  exact ⟨⟨hb, heap_lt hv⟩, fun i hi => ho.lt i hi, fun i hi => own_ty ho hi, ⟨_, hv⟩⟩

/-- What a walk knows: the tables, the old blocks as they were, and the hashes, none of which shares a block with another. -/
structure St (B : Nat) (w0 w : World) (xs : List (Nat × Option Nat × List UInt8)) : Prop where
  laid : Laid w
  below : Below B w0 w
  size : B ≤ w.heap.size
  one : 1 < B
  hash : ∀ x ∈ xs, HashAt w B x.1 x.2.1 x.2.2
  apart : xs.Pairwise fun x y => x.1 ≠ y.1 ∧ ∀ i, x.2.1 = some i → y.2.1 ≠ some i

theorem St.start {w : World} (hL : Laid w) : St w.heap.size w w [] := ⟨hL, Below.refl _ _, Nat.le_refl _, hL.lt1, fun _ h => by simp at h, List.Pairwise.nil⟩
section
variable {B : Nat} {w0 w w' : World} {xs : List (Nat × Option Nat × List UInt8)} {h : Nat} {q : Option Nat} {l m : List UInt8}
/-- Behind a step that touches none of the hashes and none of the old blocks. -/
theorem St.keep {S : Nat → Prop} (H : St B w0 w xs) (k : Keep w w' S) (hB : ∀ i, i < B → ¬ S i) (hh : ∀ x ∈ xs, ¬ S x.1) (hq : ∀ x ∈ xs, ∀ i, x.2.1 = some i → ¬ S i) : St B w0 w' xs :=
  ⟨H.laid.keep k (hB 0 (by have := H.one; omega)) (hB 1 H.one), H.below.trans (k.below H.size hB), Nat.le_trans H.size k.size, H.one, fun x hx => (H.hash x hx).keep k (hh x hx) (hq x hx), H.apart⟩
theorem St.step (H : St B w0 w xs) (k : Below w.heap.size w w') : St B w0 w' xs :=
  H.keep (S := fun _ => False) (Keep.of_below k (Nat.le_refl _) _) (fun _ _ => id) (fun _ _ => id) (fun _ _ _ _ => id)
theorem St.alloc (H : St B w0 w xs) (o : Obj) : St B w0 (w.alloc o) xs := H.step ((Below.refl _ _).alloc (Nat.le_refl _) _)
/-- A step that touches blocks of `[B, ..)` that are no hash's: told by their types. -/
theorem St.keep5 {S : Nat → Prop} (H : St B w0 w xs) (k : Keep w w' S) (hB : ∀ i, S i → B ≤ i) (hh : ∀ x ∈ xs, ¬ S x.1) (hq : ∀ x ∈ xs, ∀ i, x.2.1 = some i → ¬ S i) : St B w0 w' xs :=
  H.keep k (fun i hi hs => by have := hB i hs; omega) hh hq
theorem St.grown (H : St B w0 w xs) (k : w.grownBy w' none) : St B w0 w' xs :=
  H.step ⟨k.os, k.tape, k.output, k.size, fun i hi => k.block i hi (by simp)⟩
theorem St.bs {v : Value} {ok : Nat → Prop} (H : St B w0 w xs) (hv : Bs ok w0 v l) (hok : ∀ i, ok i → i < B) : Bs ok w v l :=
  hv.keep (S := fun k => ¬ k < B) ⟨H.below.os, H.below.tape, H.below.output, H.below.size, fun k _ hn => H.below.block k (Decidable.not_not.1 hn)⟩ (fun i hi => Decidable.not_not.2 (hok i hi))
theorem St.old {v : Value} (H : St B w0 w xs) (hv : Bs (fun k => k < B) w0 v l) : Bs (fun k => k < B) w v l := H.bs hv fun _ => id
theorem St.perm {ys : List (Nat × Option Nat × List UInt8)} (H : St B w0 w xs) (hp : List.Perm ys xs) : St B w0 w ys :=
  ⟨H.laid, H.below, H.size, H.one, fun x hx => H.hash x (hp.mem_iff.1 hx), H.apart.perm hp.symm (fun h => ⟨fun e => h.1 e.symm, fun i hi hj => h.2 i hj hi⟩)⟩
theorem St.swap {x y : Nat × Option Nat × List UInt8} (H : St B w0 w (x :: y :: xs)) : St B w0 w (y :: x :: xs) := H.perm (List.Perm.swap x y xs)
theorem St.up3 {x y z : Nat × Option Nat × List UInt8} (H : St B w0 w (x :: y :: z :: xs)) : St B w0 w (z :: x :: y :: xs) :=
  H.perm ((List.Perm.swap x z (y :: xs)).trans (List.Perm.cons x (List.Perm.swap y z xs)))
theorem St.drop {x : Nat × Option Nat × List UInt8} (H : St B w0 w (x :: xs)) : St B w0 w xs := ⟨H.laid, H.below, H.size, H.one, fun y hy => H.hash y (List.mem_cons_of_mem _ hy), (List.pairwise_cons.1 H.apart).2⟩
theorem St.forget (H : St B w0 w xs) : St B w0 w [] := ⟨H.laid, H.below, H.size, H.one, fun _ h => by simp at h, List.Pairwise.nil⟩

theorem st_new (H : St B w0 w xs) : Calls Tryd.prog 22 #[] w fun e w' => ∃ h, e = .returned (.pointer (some ⟨h, 0, none⟩)) ∧ h = w.heap.size ∧ Below w.heap.size w w' ∧ St B w0 w' ((h, none, []) :: xs) := by
  refine (new_any w H.laid).mono ?_
  rintro e w' ⟨rfl, h1, h2, h3⟩
  refine ⟨_, rfl, rfl, h3, ?_⟩
  have HS := H.step h3
  refine ⟨HS.laid, HS.below, HS.size, HS.one, fun x hx => ?_, ?_⟩
  · rcases List.mem_cons.1 hx with rfl | hx
    · exact h1.mono H.size H.one
    · exact HS.hash x hx
  · refine List.pairwise_cons.2 ⟨fun y hy => ⟨?_, ?_⟩, HS.apart⟩
    · have := (H.hash y hy).places.1.2
      show w.heap.size ≠ y.1
      omega
    · intro i hi
      simp at hi
theorem st_write {x : Value} {ok : Nat → Prop} (H : St B w0 w ((h, q, l) :: xs)) (hx : Bs ok w x m) (hok : ∀ i, ok i → i ≠ h ∧ q ≠ some i) (hb : l.length + m.length ≤ 70368744177664) :
    Calls Tryd.prog 19 #[.pointer (some ⟨h, 0, none⟩), x] w fun e w' => e = .returned (.tuple #[]) ∧ ∃ q', St B w0 w' ((h, q', l ++ m) :: xs) ∧ Keep w w' (fun k => k = h ∨ q = some k) ∧ (q' = q ∨ ∃ k, q' = some k ∧ w.heap.size ≤ k) := by
  have H0 := H.hash _ (List.mem_cons_self ..)
  have P0 := H0.places
  refine (write_any H.laid H0 hx hok hb H.size).mono ?_
  rintro e w' ⟨rfl, q', h1, h2, h3⟩
  refine ⟨rfl, q', ?_, h2, h3⟩
  have hap := List.pairwise_cons.1 H.apart
  have hty : ∀ (x : Nat × Option Nat × List UInt8), x ∈ xs → (¬ (x.1 = h ∨ q = some x.1)) ∧ ∀ i, x.2.1 = some i → ¬ (i = h ∨ q = some i) := by
    intro x hx
    have Px := (H.hash x (List.mem_cons_of_mem _ hx)).places
    have ha := hap.1 x hx
    constructor
    · rintro (e | e)
      · exact ha.1 e.symm
      · obtain ⟨cs, fr, hc⟩ := P0.2.2.1 _ e
        obtain ⟨ds, hd⟩ := Px.2.2.2
        exact ne_ty hc hd (by decide) rfl
    · rintro i hi (e | e)
      · subst e
        obtain ⟨cs, fr, hc⟩ := Px.2.2.1 _ hi
        obtain ⟨ds, hd⟩ := P0.2.2.2
        exact ne_ty hc hd (by decide) rfl
      · exact ha.2 i e hi
  have HS := H.drop.keep h2 (fun i hi => by
    rintro (e | e)
    · have := P0.1.1; simp only at this; omega
    · have := (P0.2.1 i e).1; omega) (fun x hx => (hty x hx).1) (fun x hx => (hty x hx).2)
  refine ⟨HS.laid, HS.below, HS.size, HS.one, fun y hy => ?_, ?_⟩
  · rcases List.mem_cons.1 hy with rfl | hy
    · exact h1
    · exact HS.hash y hy
  · refine List.pairwise_cons.2 ⟨fun y hy => ⟨(hap.1 y hy).1, fun i hi hj => ?_⟩, HS.apart⟩
    simp only at hi
    rcases h3 with e | ⟨k, e, hk⟩
    · rw [e] at hi; exact (hap.1 y hy).2 i hi hj
    · rw [e] at hi; injection hi with hi; subst hi
      have := ((H.hash y (List.mem_cons_of_mem _ hy)).places.2.1 k hj).2
      omega
/-- Bytes of old blocks. -/
theorem st_write_old {x : Value} (H : St B w0 w ((h, q, l) :: xs)) (hx : Bs (fun k => k < B) w0 x m) (hb : l.length + m.length ≤ 70368744177664) :
    Calls Tryd.prog 19 #[.pointer (some ⟨h, 0, none⟩), x] w fun e w' => e = .returned (.tuple #[]) ∧ ∃ q', St B w0 w' ((h, q', l ++ m) :: xs) := by
  have P0 := (H.hash _ (List.mem_cons_self ..)).places
  refine (st_write H (H.old hx) (fun i hi => ⟨fun e => ?_, fun e => ?_⟩) hb).mono ?_
  · have := P0.1.1; simp only at this; omega
  · have := (P0.2.1 i e).1; omega
  · rintro e w' ⟨rfl, q', h1, _⟩
    exact ⟨rfl, q', h1⟩
/-- Bytes of blocks made since. -/
theorem st_write_fresh {w2 : World} {x : Value} (H : St B w0 w ((h, q, l) :: xs)) (k : Below w.heap.size w w2) (hx : Bs (fun k => w.heap.size ≤ k) w2 x m) (hb : l.length + m.length ≤ 70368744177664) :
    Calls Tryd.prog 19 #[.pointer (some ⟨h, 0, none⟩), x] w2 fun e w' => e = .returned (.tuple #[]) ∧ ∃ q', St B w0 w' ((h, q', l ++ m) :: xs) := by
  have P0 := (H.hash _ (List.mem_cons_self ..)).places
  refine (st_write (H.step k) hx (fun i hi => ⟨fun e => ?_, fun e => ?_⟩) hb).mono ?_
  · have := P0.1.2; simp only at this; omega
  · have := (P0.2.1 i e).2; omega
  · rintro e w' ⟨rfl, q', h1, _⟩
    exact ⟨rfl, q', h1⟩
theorem bs_new (w : World) (x : UInt8) : Bs (fun k => w.heap.size ≤ k) (w.alloc (.cells #[.int .u8 (ub x)] 5)) (.slice (some ⟨w.heap.size, 0, none⟩) 1 1) [x] := by
  refine ⟨_, _, _, rfl, rfl, Nat.le_refl _, fun _ => ⟨_, _, rfl, Nat.le_refl _, fun j hj => ?_⟩⟩
  obtain rfl : j = 0 := by omega
  rw [cell_of_row _ _ _ _ 5 _ (heap_alloc_new w _)]
  rfl
theorem st_sum (H : St B w0 w ((h, q, l) :: xs)) (hb : l.length ≤ 70368744177664) :
    Calls Tryd.prog 21 #[.pointer (some ⟨h, 0, none⟩)] w fun e w' => e = .returned (.agg (B8 32 (sum l))) ∧ Below w.heap.size w w' ∧ St B w0 w' ((h, q, l) :: xs) := by
  refine (hsum_any H.laid (H.hash _ (List.mem_cons_self ..)) hb).mono ?_
  rintro e w' ⟨rfl, h1⟩
  exact ⟨rfl, h1, H.step h1⟩
theorem st_len (H : St B w0 w ((h, q, l) :: xs)) : Calls Tryd.prog 20 #[.pointer (some ⟨h, 0, none⟩)] w fun e w' => e = .returned (.int .i64 (l.length : Int)) ∧ w = w' := len_any (H.hash _ (List.mem_cons_self ..))
theorem st_sum16 {ok : Nat → Prop} {v : Value} (H : St B w0 w xs) (hv : Bs ok w v m) (hb : m.length ≤ 70368744177664) :
    Calls Tryd.prog 16 #[v] w fun e w' => e = .returned (.agg (B8 32 (sum m))) ∧ Below w.heap.size w w' ∧ St B w0 w' xs := by
  refine (sum_any H.laid hv hb).mono ?_
  rintro e w' ⟨rfl, h1⟩
  exact ⟨rfl, h1, H.step h1⟩
theorem st_digests (H : St B w0 w xs) : Calls Tryd.prog 15 #[] w fun e w' => e = .returned (.bool true) ∧ St B w0 w' xs := by
  refine (digests_any H.laid).mono ?_
  rintro e w' ⟨rfl, h1⟩
  exact ⟨rfl, H.step h1⟩
end
/-- A slice of the call's own, made behind a world: append by append. -/
structure Ch (wb w : World) (v : Value) (l : List UInt8) : Prop where
  below : Below wb.heap.size wb w
  own : Own w wb.heap.size v l
section
variable {wb w w' : World} {v x : Value} {l m : List UInt8} {ok : Nat → Prop}
theorem Ch.lit (w : World) : Ch w (w.alloc (.cells #[] 5)) (.slice (some ⟨w.heap.size, 0, none⟩) 0 0) [] :=
  ⟨(Below.refl _ _).alloc (Nat.le_refl _) _, Own.of_block (l := []) (heap_alloc_new w _) (.inl rfl) (Nat.le_refl _) (Nat.le_refl _) (Nat.zero_le _) (fun j hj => absurd hj (Nat.not_lt_zero j))⟩
theorem Ch.none (w : World) : Ch w w (.slice none 0 0) [] := ⟨Below.refl _ _, .inl ⟨rfl, rfl⟩⟩
theorem Ch.step (h : Ch wb w v l) (k : Below w.heap.size w w') : Ch wb w' v l :=
  ⟨h.below.trans (k.mono h.below.size), h.own.keep (S := fun _ => False) (Keep.of_below k (Nat.le_refl _) _) (fun _ _ => id)⟩
theorem Ch.alloc (h : Ch wb w v l) (o : Obj) : Ch wb (w.alloc o) v l := h.step ((Below.refl _ _).alloc (Nat.le_refl _) o)
theorem Ch.next {v' : Value} {l' : List UInt8} (h : Ch wb w v l) (ho : Own w' wb.heap.size v' l') (k : Keep w w' (fun k => v.ownBlock = some k)) : Ch wb w' v' l' :=
  ⟨h.below.trans (k.below h.below.size (fun i hi e => by have := (h.own.lt i e).1; omega)), ho⟩
/-- Bytes of blocks that were there before the chain. -/
theorem Ch.old (h : Ch wb w v l) (hx : Bs ok wb x m) : Bs ok w x m := hx.keep (S := fun _ => False) (Keep.of_below h.below (Nat.le_refl _) _) (fun _ _ => id)
theorem Ch.st {B : Nat} {w0 : World} {xs : List (Nat × Option Nat × List UInt8)} (h : Ch wb w v l) (H : St B w0 wb xs) : St B w0 w xs := H.step h.below
theorem Ch.bs (h : Ch wb w v l) : Bs (fun _ => True) w v l := h.own.bs.mono (fun _ _ _ => trivial)
theorem wpList_app {ops : Array Oper} {rest : List Oper} {o : Oper} {a : Act} {Q : Exit → Act → World → Prop} (hw : Region.wanted o (yielded ops a.tmps) = true) (s y : Operand)
    (ho : o.op = .call { callee := .builtin .append, args := #[s, y], argTypes := #[22, 22] }) (hs : a.eval s = v) (hy : a.eval y = x) (hown : Ch wb w v l) (hx : Bs ok w x m) (hbound : l.length + m.length ≤ 140737488355328)
    (h : ∀ A n c w', n = (l ++ m).length → Ch wb w' (.slice A n c) (l ++ m) → Keep w w' (fun k => v.ownBlock = some k) → wpList Tryd.prog ops Q rest (a.put o.dst (.slice A n c)) w') : wpList Tryd.prog ops Q (o :: rest) a w := by
  obtain ⟨i0, hi0, hz0, hz1, hz2⟩ := info_parts info5
  refine BigFrame.wpList_want hw fun K hK => ?_
  obtain ⟨v', w', hr, h1, h2, h3⟩ := run_append_bytes (P := Tryd.prog) 22 o.type i0 Tryd.underlying22 hi0 hz0 hz1 hz2 hown.own hx hbound hown.below.size
  unfold Oper.wp execOp
  simp only [ho, resolve, invoke, builtin, Sem.run_bind, Sem.run_pure, Result.andThen_ok, List.map_toArray, List.map_cons, List.map_nil, hs, hy, hr]
  obtain ⟨A, n, c, hn, rfl⟩ := h1.form
  exact hK _ _ (h A n c w' hn (hown.next h1 h2) h2)
/-- A sum kept in a variable of its own. -/
theorem wpList_keep_sum {ops : Array Oper} {rest : List Oper} {o : Oper} {a : Act} {Q : Exit → Act → World → Prop} {b : Nat} (hs : w.heap.size = b) (hgd : o.guard = none) (p x : Operand) (ho : o.op = .store 24 p x) (hp : a.eval p = .pointer (some ⟨b, 0, none⟩)) (hx : a.eval x = .agg (B8 32 m))
    (h : ∀ w', w'.heap[b]? = some (.cells (B8 32 m) 24 (0, 0)) → Below w.heap.size w w' → wpList Tryd.prog ops Q rest (a.put o.dst undef) w') : wpList Tryd.prog ops Q (o :: rest) a (w.alloc (.cells #[.int .u8 0, .int .u8 0, .int .u8 0, .int .u8 0, .int .u8 0, .int .u8 0, .int .u8 0, .int .u8 0, .int .u8 0, .int .u8 0, .int .u8 0, .int .u8 0, .int .u8 0, .int .u8 0, .int .u8 0, .int .u8 0, .int .u8 0, .int .u8 0, .int .u8 0, .int .u8 0, .int .u8 0, .int .u8 0, .int .u8 0, .int .u8 0, .int .u8 0, .int .u8 0, .int .u8 0, .int .u8 0, .int .u8 0, .int .u8 0, .int .u8 0, .int .u8 0] 24)) := by
  subst hs
  have HX : (w.alloc (.cells #[.int .u8 0, .int .u8 0, .int .u8 0, .int .u8 0, .int .u8 0, .int .u8 0, .int .u8 0, .int .u8 0, .int .u8 0, .int .u8 0, .int .u8 0, .int .u8 0, .int .u8 0, .int .u8 0, .int .u8 0, .int .u8 0, .int .u8 0, .int .u8 0, .int .u8 0, .int .u8 0, .int .u8 0, .int .u8 0, .int .u8 0, .int .u8 0, .int .u8 0, .int .u8 0, .int .u8 0, .int .u8 0, .int .u8 0, .int .u8 0, .int .u8 0, .int .u8 0] 24)).heap[w.heap.size]? = some (.cells #[.int .u8 0, .int .u8 0, .int .u8 0, .int .u8 0, .int .u8 0, .int .u8 0, .int .u8 0, .int .u8 0, .int .u8 0, .int .u8 0, .int .u8 0, .int .u8 0, .int .u8 0, .int .u8 0, .int .u8 0, .int .u8 0, .int .u8 0, .int .u8 0, .int .u8 0, .int .u8 0, .int .u8 0, .int .u8 0, .int .u8 0, .int .u8 0, .int .u8 0, .int .u8 0, .int .u8 0, .int .u8 0, .int .u8 0, .int .u8 0, .int .u8 0, .int .u8 0] 24 (0, 0)) := heap_alloc_new w _
  refine wpList_store_row hgd 24 p x ho _ _ hp hx 24 _ HX (sz24.trans (by simp [B8])) (by simp [B8]) (vals_one _ _ _) ?_
  exact h _ (setRow_heap _ _ _ _ _ _ HX) (below_setRow ((Below.refl _ _).alloc (Nat.le_refl _) _) (Nat.le_refl _) _)
end
end Go.Proofs.YtmifegjmmlipbaaDoor
