/-
  General lemmas for the walks, second part: make, bytes and strings.
-/
import Derived.Test.YtjnekjjaofabeaaG
import Derived.Laws.MakeOwn
import Derived.Laws.BytesString
import Derived.Laws.StructEq
namespace Go.Rh
open Go.RowKit

theorem madeCells_int (k : IntKind) (n : Nat) : madeCells (Value.int k 0).cells (n * 1) = vals k n fun _ => 0 := by
  apply Array.ext_getElem?
  intro j
  by_cases h : j < n
  · rw [vals_get k _ h]
    simp [madeCells, Value.cells, h, Nat.mod_one]
  · have h1 : (madeCells (Value.int k 0).cells (n * 1))[j]? = none := by simp [size_madeCells]; omega
    have h2 : (vals k n fun _ => 0)[j]? = none := by simp; omega
    rw [h1, h2]

/-- A slice of n noughts is made. -/
theorem run_make_int {P : Program} {t e : TypeId} {k : IntKind} {b : Nat} (ht : P.underlying t = some (.slice e)) (hi : (P.info? e).map (fun i => (i.zero, i.size, i.bytes)) = some (some (.int k 0), 1, b))
    (n : Nat) (hn : b * n ≤ 281474976710656) (hm : n ≤ 9223372036854775807) (w : World) :
    (Instr.makeSlice t (.int .i64 (n : Int)) (.int .i64 (n : Int))).run P w = .ok (.slice (some ⟨w.heap.size, 0, none⟩) n n) (w.alloc (.cells (vals k n fun _ => 0) e)) := by
  obtain ⟨i0, hi0, hz0, hz1, hz2⟩ := info_parts hi
  have hb : (i0.bytes : Int) * (n : Int) ≤ 281474976710656 := by
    have : ((i0.bytes * n : Nat) : Int) ≤ 281474976710656 := by rw [hz2]; omega
    rwa [Int.natCast_mul] at this
  have h := run_make (P := P) w t e i0 (.int k 0) ht hi0 hz0 .i64 .i64 (n : Int) (n : Int) (by omega) (Int.le_refl _) hb (by omega)
  rw [h, hz1, Int.toNat_natCast, madeCells_int]

theorem grown_refl (w : World) (r : Option Nat) : w.grownBy w r := ⟨rfl, rfl, rfl, Nat.le_refl _, fun _ _ _ => rfl⟩
theorem grown_set {w w1 : World} {g : Nat} (h : w.grownBy w1 (some g)) (j : Nat) (v : Value) : w.grownBy (w1.setCell ⟨g, j, none⟩ v) (some g) :=
  ⟨h.os, h.tape, h.output, by simp; exact h.size, fun k hk hne => by rw [heap_set_other _ _ _ _ _ (fun e => hne (by rw [e]))]; exact h.block k hk hne⟩
theorem grown_drew {w w1 : World} {r : Option Nat} (h : w.grownBy w1 r) : w.grownBy w1.drew r := ⟨h.os, h.tape, h.output, h.size, h.block⟩
theorem heap_drewN (w : World) (n : Nat) : (w.drewN n).heap = w.heap := rfl
theorem grown_drewN {w w1 : World} {r : Option Nat} (h : w.grownBy w1 r) (n : Nat) : w.grownBy (w1.drewN n) r := ⟨h.os, h.tape, h.output, h.size, h.block⟩
theorem grown_new {w w1 : World} {r : Option Nat} (h : w.grownBy w1 r) (o : Obj) : w.grownBy (w1.alloc o) r :=
  ⟨h.os, h.tape, h.output, by simp; have := h.size; omega, fun k hk hne => (heap_old w1 o k (Nat.lt_of_lt_of_le hk h.size)).trans (h.block k hk hne)⟩
theorem grown_set_new {w w1 : World} {r : Option Nat} (h : w.grownBy w1 r) {b : Nat} (hb : w.heap.size ≤ b) (j : Nat) (v : Value) : w.grownBy (w1.setCell ⟨b, j, none⟩ v) r :=
  ⟨h.os, h.tape, h.output, by simp; exact h.size, fun k hk hne => by rw [heap_set_other _ _ _ _ _ (by omega)]; exact h.block k hk hne⟩
theorem grown_trans {a b c : World} {r : Option Nat} (h : a.grownBy b r) (k : b.grownBy c r) : a.grownBy c r :=
  ⟨k.os.trans h.os, k.tape.trans h.tape, k.output.trans h.output, Nat.le_trans h.size k.size, fun i hi hne => (k.block i (Nat.lt_of_lt_of_le hi h.size) hne).trans (h.block i hi hne)⟩
theorem grown_below {a b : World} {B : Nat} (r : Option Nat) (h : Below B a b) (hB : a.heap.size ≤ B) : a.grownBy b r :=
  ⟨h.os, h.tape, h.output, h.size, fun k hk _ => h.block k (Nat.lt_of_lt_of_le hk hB)⟩

/-- The bytes g 0, g 1, .., as a string. -/
def bstr (g : Nat → Nat) (n : Nat) : ByteArray := ⟨((List.range n).map fun j => UInt8.ofNat (g j)).toArray⟩
theorem bstr_size (g : Nat → Nat) (n : Nat) : (bstr g n).size = n := by simp [bstr, ByteArray.size]
theorem bstr_congr {g h : Nat → Nat} {n : Nat} (e : ∀ j, j < n → g j = h j) : bstr g n = bstr h n := by
  unfold bstr; congr 2
  apply List.map_congr_left
  intro j hj
  rw [e j (by simpa using hj)]

theorem foldl_push (l : List Int) : ∀ s : ByteArray, l.foldl (fun r n => r.push (UInt8.ofNat n.toNat)) s = ⟨s.data ++ (l.map fun n => UInt8.ofNat n.toNat).toArray⟩ := by
  induction l with
  | nil => intro s; simp
  | cons n l ih =>
    intro s
    rw [List.foldl_cons, ih]
    simp [ByteArray.push]

/-- Bytes out of a row, as a string. -/
theorem run_string_row {P : Program} {src dst e : TypeId} (hs : P.underlying src = some (.slice e)) (he : P.underlying e = some (.int .u8)) (hd : P.underlying dst = some .string)
    {w : World} {b off n : Nat} {t : TypeId} {fr : Nat × Nat} {g : Nat → Nat} (hg : w.heap[b]? = some (.cells (vals .u8 n fun j => (g j : Int)) t fr)) (len cap : Nat) (hl : off + len ≤ n) :
    (convert src dst (.slice (some ⟨b, off, none⟩) len cap)).run P w = .ok (.string (bstr (fun j => g (off + j)) len)) w := by
  rw [run_convert_bytes_string w src dst e _ _ _ hs he hd]
  have hc : (loadCells ⟨b, off, none⟩ ((List.range len).map fun j => Value.int .u8 (g (off + j) : Int)).length).run P w = .ok ((List.range len).map fun j => Value.int .u8 (g (off + j) : Int)).toArray w := by
    refine run_loadCells_list (P := P) w ⟨b, off, none⟩ _ fun j v hv => ?_
    have hadd : (⟨b, off, none⟩ : Addr).add j = ⟨b, off + j, none⟩ := by unfold Addr.add; split <;> simp_all
    have hj : j < len := by
      have := (List.getElem?_eq_some_iff.1 hv).1
      simpa using this
    rw [hadd, cell_of_row w b (off + j) _ t fr hg, vals_get .u8 _ (by omega)]
    simp [hj] at hv
    rw [hv]
  have h2 : ((List.range len).map fun j => Value.int .u8 (g (off + j) : Int)) = ((List.range len).map fun j => (g (off + j) : Int)).map (Value.int .u8) := by simp
  rw [h2] at hc
  have hlen : (((List.range len).map fun j => (g (off + j) : Int)).map (Value.int .u8)).length = len := by simp
  rw [hlen] at hc
  rw [run_bytesToString w _ len cap _ hc, foldl_push]
  congr 2
  unfold bstr
  simp [ByteArray.empty, ByteArray.emptyWithCapacity, Function.comp_def]
  rfl

/-- A string's byte at an index that is a variable. -/
theorem run_index_bstr {P : Program} {T : TypeId} (hT : P.underlying T = some .string) (g : Nat → Nat) (n j : Nat) (hj : j < n) (hb : g j < 256) (k : IntKind) (w : World) :
    (Instr.index T (.string (bstr g n)) (.int k (j : Int))).run P w = .ok (.int .u8 (g j : Int)) w := by
  have hsz : j < (bstr g n).size := by rw [bstr_size]; exact hj
  have h1 : (bstr g n)[j]? = some (UInt8.ofNat (g j)) := by
    rw [getElem?_pos (bstr g n) j hsz]
    show some ((bstr g n).data[j]'hsz) = _
    simp [bstr]
  have h2 : (UInt8.ofNat (g j)).toNat = g j := by rw [UInt8.toNat_ofNat']; exact Nat.mod_eq_of_lt hb
  have h0 : (0 : Int) ≤ (j : Int) := by omega
  unfold Instr.index
  simp only [asIntOf, Sem.run_bind, run_underlying hT w, Sem.run_pure, Result.andThen_ok, if_pos h0, Int.toNat_natCast, h1, h2]
end Go.Rh
