/-
  General lemmas for the walks: rows of numbers in memory, reads and stores at an index that is a variable, bits of numbers.
-/
import Derived.WalkKit
import Derived.WalkSpells
import Derived.WalkLawsBesides
import Derived.Handy
import Derived.Laws.Rows
import Derived.Laws.CopyRow
import Derived.Laws.CopyOwn
import Derived.Lib.Hide
namespace Go.Rh
open Go.RowKit

/-- A row of n numbers of one kind, as values. -/
def vals (k : IntKind) (n : Nat) (f : Nat → Int) : Array Value := ((List.range n).map fun j => Value.int k (f j)).toArray
/-- A row with one number changed. -/
def upd (f : Nat → Int) (i : Nat) (v : Int) : Nat → Int := fun j => if j = i then v else f j

@[simp] theorem vals_size (k : IntKind) (n : Nat) (f : Nat → Int) : (vals k n f).size = n := by simp [vals]
theorem vals_get (k : IntKind) {n : Nat} (f : Nat → Int) {j : Nat} (h : j < n) : (vals k n f)[j]? = some (.int k (f j)) := by
  simp [vals, h]
theorem vals_set (k : IntKind) {n : Nat} (f : Nat → Int) {i : Nat} (v : Int) (h : i < n) : (vals k n f).setIfInBounds i (.int k v) = vals k n (upd f i v) := by
  apply Array.ext_getElem?
  intro j
  rw [Array.getElem?_setIfInBounds]
  by_cases hj : j < n
  · by_cases e : i = j
    · subst e; rw [if_pos rfl, if_pos (by simpa using h), vals_get k _ h]; simp [upd]
    · rw [if_neg e, vals_get k f hj, vals_get k _ hj]; simp [upd, Ne.symm e]
  · have h1 : (vals k n (upd f i v))[j]? = none := by simp; omega
    have h2 : (vals k n f)[j]? = none := by simp; omega
    have e : i ≠ j := by omega
    rw [if_neg e, h1, h2]
theorem vals_congr (k : IntKind) (n : Nat) {f g : Nat → Int} (h : ∀ j, j < n → f j = g j) : vals k n f = vals k n g := by
  unfold vals
  congr 1
  apply List.map_congr_left
  intro j hj
  rw [h j (by simpa using hj)]

theorem vals_one (k : IntKind) (n : Nat) (f : Nat → Int) : (vals k n f).all (·.oneCell') = true := by
  rw [Array.all_eq_true_iff_forall_mem]
  intro x hx
  simp [vals] at hx
  obtain ⟨j, _, rfl⟩ := hx
  rfl

/-- An array's element at an index that is a variable. -/
theorem run_index_arr {P : Program} {T E : TypeId} {n : Nat} {q : IntKind} (hT : P.underlying T = some (.array n E)) (hE : P.underlying E = some (.int q)) (hs : (P.info? E).map (·.size) = some 1)
    (cs : Array Value) (k : IntKind) (i : Int) (v : Value) (h0 : 0 ≤ i) (h1 : i < n) (hv : cs[i.toNat]? = some v) (w : World) : (Instr.index T (.agg cs) (.int k i)).run P w = .ok v w := by
  cases hq : P.info? E with
  | none => simp [hq] at hs
  | some ti =>
    have hsz : ti.size = 1 := by simpa [hq] using hs
    have hagg : (isAgg E).run P w = .ok false w := by
      unfold isAgg; rw [Sem.run_bind, run_underlying hE w]; simp
    simp [Instr.index, asIntOf, Sem.run_bind, run_underlying hT w, h0, h1, part, hagg, sizeOf, typeInfo, hq, hsz, hv]

/-- A row's cell. -/
theorem cell_vals {w : World} {g j n : Nat} {k : IntKind} {f : Nat → Int} {t : TypeId} {fr : Nat × Nat} (hg : w.heap[g]? = some (.cells (vals k n f) t fr)) (h : j < n) :
    w.cell? ⟨g, j, none⟩ = some (.int k (f j)) := by rw [cell_of_row w g j _ t fr hg, vals_get k f h]

/-- Behind a store into a row. -/
theorem heap_set_vals {w : World} {g j n : Nat} {k : IntKind} {f : Nat → Int} {t : TypeId} (v : Int) (hg : w.heap[g]? = some (.cells (vals k n f) t (0, 0))) (h : j < n) :
    (w.setCell ⟨g, j, none⟩ (.int k v)).heap[g]? = some (.cells (vals k n (upd f j v)) t (0, 0)) := by
  rw [heap_setCell_same w g j _ t _ hg, vals_set k f v h]

theorem heap_lt {w : World} {g : Nat} {o : Obj} (h : w.heap[g]? = some o) : g < w.heap.size := (Array.getElem?_eq_some_iff.1 h).1
theorem heap_push (w : World) (o : Obj) (i : Nat) : (w.alloc o).heap[i]? = if i = w.heap.size then some o else w.heap[i]? := by
  show (w.heap.push o)[i]? = _
  rw [Array.getElem?_push]
theorem heap_new' (w : World) (o : Obj) (i : Nat) (h : i = w.heap.size) : (w.alloc o).heap[i]? = some o := by subst h; exact heap_alloc_new w o
theorem heap_old (w : World) (o : Obj) (i : Nat) (h : i < w.heap.size) : (w.alloc o).heap[i]? = w.heap[i]? := by
  show (w.heap.push o)[i]? = w.heap[i]?
  rw [Array.getElem?_push, if_neg (Nat.ne_of_lt h)]
theorem heap_set_other (w : World) (b j : Nat) (k : Nat) (v : Value) (h : k ≠ b) : (w.setCell ⟨b, j, none⟩ v).heap[k]? = w.heap[k]? := heap_setCell_other w _ k v h

theorem heap2 (w : World) (A B : Obj) : ((w.alloc A).alloc B).heap[w.heap.size]? = some A ∧ ((w.alloc A).alloc B).heap[w.heap.size + 1]? = some B := by
  refine ⟨?_, ?_⟩ <;> ((simp only [heap_push, World.size_alloc, if_true]; repeat' split); all_goals (first | rfl | (exfalso; omega)))
theorem heap3 (w : World) (A B C : Obj) : (((w.alloc A).alloc B).alloc C).heap[w.heap.size]? = some A ∧ (((w.alloc A).alloc B).alloc C).heap[w.heap.size + 1]? = some B ∧ (((w.alloc A).alloc B).alloc C).heap[w.heap.size + 2]? = some C := by
  refine ⟨?_, ?_, ?_⟩ <;> ((simp only [heap_push, World.size_alloc, if_true]; repeat' split); all_goals (first | rfl | (exfalso; omega)))
theorem heap4 (w : World) (A B C D : Obj) : ((((w.alloc A).alloc B).alloc C).alloc D).heap[w.heap.size]? = some A ∧ ((((w.alloc A).alloc B).alloc C).alloc D).heap[w.heap.size + 1]? = some B ∧ ((((w.alloc A).alloc B).alloc C).alloc D).heap[w.heap.size + 2]? = some C ∧ ((((w.alloc A).alloc B).alloc C).alloc D).heap[w.heap.size + 3]? = some D := by
  refine ⟨?_, ?_, ?_, ?_⟩ <;> ((simp only [heap_push, World.size_alloc, if_true]; repeat' split); all_goals (first | rfl | (exfalso; omega)))
theorem heap5 (w : World) (A B C D E : Obj) : (((((w.alloc A).alloc B).alloc C).alloc D).alloc E).heap[w.heap.size]? = some A ∧ (((((w.alloc A).alloc B).alloc C).alloc D).alloc E).heap[w.heap.size + 1]? = some B ∧ (((((w.alloc A).alloc B).alloc C).alloc D).alloc E).heap[w.heap.size + 2]? = some C ∧ (((((w.alloc A).alloc B).alloc C).alloc D).alloc E).heap[w.heap.size + 3]? = some D ∧ (((((w.alloc A).alloc B).alloc C).alloc D).alloc E).heap[w.heap.size + 4]? = some E := by
  refine ⟨?_, ?_, ?_, ?_, ?_⟩ <;> ((simp only [heap_push, World.size_alloc, if_true]; repeat' split); all_goals (first | rfl | (exfalso; omega)))
theorem heap6 (w : World) (A B C D E F : Obj) : ((((((w.alloc A).alloc B).alloc C).alloc D).alloc E).alloc F).heap[w.heap.size]? = some A ∧ ((((((w.alloc A).alloc B).alloc C).alloc D).alloc E).alloc F).heap[w.heap.size + 1]? = some B ∧ ((((((w.alloc A).alloc B).alloc C).alloc D).alloc E).alloc F).heap[w.heap.size + 2]? = some C ∧ ((((((w.alloc A).alloc B).alloc C).alloc D).alloc E).alloc F).heap[w.heap.size + 3]? = some D ∧ ((((((w.alloc A).alloc B).alloc C).alloc D).alloc E).alloc F).heap[w.heap.size + 4]? = some E ∧ ((((((w.alloc A).alloc B).alloc C).alloc D).alloc E).alloc F).heap[w.heap.size + 5]? = some F := by
  refine ⟨?_, ?_, ?_, ?_, ?_, ?_⟩ <;> ((simp only [heap_push, World.size_alloc, if_true]; repeat' split); all_goals (first | rfl | (exfalso; omega)))

/-- Bits of whole numbers below a kind's bound. -/
theorem wraps_u64 (n : Int) (h₀ : 0 ≤ n) (h₁ : n < 2 ^ 64) : IntKind.u64.wrap n = n := by rw [IntKind.wrap_u64]; omega
theorem wraps_u32 (n : Int) (h₀ : 0 ≤ n) (h₁ : n < 2 ^ 32) : IntKind.u32.wrap n = n := by rw [IntKind.wrap_u32]; omega


theorem and_u64 (i : Nat) (hi : i ≤ 64) (x : Nat) (h : x < 2 ^ 64) : bits .and .u64 (x : Int) (2 ^ i - 1) = ((x % 2 ^ i : Nat) : Int) := by
  rw [bits_mask .u64 64 (by decide) wraps_u64 i hi x (by omega) (by omega)]; simp
theorem and_u8 (i : Nat) (hi : i ≤ 8) (x : Nat) (h : x < 2 ^ 8) : bits .and .u8 (x : Int) (2 ^ i - 1) = ((x % 2 ^ i : Nat) : Int) := by
  rw [bits_mask .u8 8 (by decide) wraps_u8 i hi x (by omega) (by omega)]; simp
/-- A number that is put ahead of lower bits. -/
theorem or_u64 (m a b : Nat) (hb : b < 2 ^ m) (hb64 : b < 2 ^ 64) (h : a * 2 ^ m < 2 ^ 64) : bits .or .u64 ((b : Nat) : Int) ((a * 2 ^ m : Nat) : Int) = ((b + a * 2 ^ m : Nat) : Int) := by
  rw [(bits_nat .u64 64 (by decide) wraps_u64 b _ hb64 h).2, Nat.or_comm, Nat.mul_comm, ← Nat.two_pow_add_eq_or_of_lt hb a, Nat.add_comm]
theorem or_u8 (m a b : Nat) (hb : b < 2 ^ m) (hb64 : b < 2 ^ 8) (h : a * 2 ^ m < 2 ^ 8) : bits .or .u8 ((b : Nat) : Int) ((a * 2 ^ m : Nat) : Int) = ((b + a * 2 ^ m : Nat) : Int) := by
  rw [(bits_nat .u8 8 (by decide) wraps_u8 b _ hb64 h).2, Nat.or_comm, Nat.mul_comm, ← Nat.two_pow_add_eq_or_of_lt hb a, Nat.add_comm]
end Go.Rh
