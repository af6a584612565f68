/-
  The program's Hash: New, Write, Len: what it holds is told by the bytes that were written.
-/
import Derived.Test.YtmifegjmmlipbaaDoorWd
import Derived.Test.YtmifegjmmlipbaaDoorJb
namespace Go.Proofs.YtmifegjmmlipbaaDoor
open Go.RowKit Go.Rh Sha

/-- A hash's cells. -/
def hcells (r : Nat → W) (v : Value) (n : Nat) : Array Value := #[.int .u32 (u (r 0)), .int .u32 (u (r 1)), .int .u32 (u (r 2)), .int .u32 (u (r 3)), .int .u32 (u (r 4)), .int .u32 (u (r 5)), .int .u32 (u (r 6)), .int .u32 (u (r 7)), v, .int .i64 (n : Int)]
/-- The program's tables. -/
structure Laid (w : World) : Prop where
  iv : ∃ t : TypeId, w.heap[0]? = some (.cells (U32 8 IV) t (0, 0))
  k : ∃ t : TypeId, w.heap[1]? = some (.cells (U32 64 K) t (0, 0))
theorem Laid.lt1 {w : World} (h : Laid w) : 1 < w.heap.size := by obtain ⟨t, ht⟩ := h.k; exact heap_lt ht
theorem Laid.keep {w w' : World} {S : Nat → Prop} (h : Laid w) (k : Keep w w' S) (h0 : ¬ S 0) (h1 : ¬ S 1) : Laid w' := by
  have hl := h.lt1
  obtain ⟨t, ht⟩ := h.iv
  obtain ⟨s, hs⟩ := h.k
  exact ⟨⟨t, (k.block 0 (by omega) h0).trans ht⟩, ⟨s, (k.block 1 hl h1).trans hs⟩⟩
theorem Laid.below {w w' : World} {B : Nat} (h : Laid w) (k : Below B w w') (hB : w.heap.size ≤ B) : Laid w' := by
  have hl := h.lt1
  obtain ⟨t, ht⟩ := h.iv
  obtain ⟨s, hs⟩ := h.k
  exact ⟨⟨t, (k.block 0 (by omega)).trans ht⟩, ⟨s, (k.block 1 (by omega)).trans hs⟩⟩
theorem Laid.heap {w w' : World} (h : Laid w) (e : w'.heap = w.heap) : Laid w' := ⟨by rw [e]; exact h.iv, by rw [e]; exact h.k⟩

/-- A hash at a block, its rest's block, what was written. -/
def HashAt (w : World) (B h : Nat) (q : Option Nat) (l : List UInt8) : Prop :=
  ∃ v, w.heap[h]? = some (.cells (hcells (reg l) v l.length) 80 (0, 0)) ∧ Own w B v (restOf l) ∧ q = v.ownBlock ∧ B ≤ h ∧ 1 < B
theorem HashAt.keep {w w' : World} {S : Nat → Prop} {B h : Nat} {q : Option Nat} {l : List UInt8} (H : HashAt w B h q l) (k : Keep w w' S) (hh : ¬ S h) (hq : ∀ i, q = some i → ¬ S i) : HashAt w' B h q l := by
  obtain ⟨v, h1, h2, rfl, h4⟩ := H
  exact ⟨v, (k.block h (heap_lt h1) hh).trans h1, h2.keep k hq, rfl, h4⟩
theorem HashAt.lt {w : World} {B h : Nat} {q : Option Nat} {l : List UInt8} (H : HashAt w B h q l) : h < w.heap.size ∧ ∀ i, q = some i → i < w.heap.size := by
  obtain ⟨v, h1, h2, rfl, h4⟩ := H
  exact ⟨heap_lt h1, fun i hi => (h2.lt i hi).2⟩
theorem own_ty {w : World} {B g : Nat} {v : Value} {l : List UInt8} (h : Own w B v l) (hq : v.ownBlock = some g) : ∃ cs fr, w.heap[g]? = some (.cells cs 5 fr) := by
  rcases h with ⟨rfl, _⟩ | ⟨g', off, c, cs, fr, rfl, hB, hg, _⟩
  · simp [Value.ownBlock] at hq
  · simp [Value.ownBlock] at hq; subst hq; exact ⟨cs, fr, hg⟩
theorem ne_ty {w : World} {g h : Nat} {cs ds : Array Value} {s t : TypeId} {fr fs : Nat × Nat} (hg : w.heap[g]? = some (.cells cs s fr)) (hh : w.heap[h]? = some (.cells ds t fs)) (hne : s ≠ t) : g ≠ h := by
  rintro rfl
  rw [hg] at hh
  injection hh with hh
  injection hh with _ e
  exact hne e

theorem new_cells : (Array.foldl (fun cs x => cs.setIfInBounds x.snd x.fst) #[Value.int IntKind.u32 0, Value.int IntKind.u32 0, Value.int IntKind.u32 0, Value.int IntKind.u32 0, Value.int IntKind.u32 0, Value.int IntKind.u32 0, Value.int IntKind.u32 0, Value.int IntKind.u32 0, Value.slice none 0 0, Value.int IntKind.i64 0]
        (U32 8 IV).zipIdx 0 (U32 8 IV).size) = hcells (reg []) (.slice none 0 0) 0 := by kernel_rfl

set_option maxRecDepth 100000 in
theorem new_any (w : World) (hL : Laid w) : Calls Tryd.prog 22 #[] w fun e w' => e = .returned (.pointer (some ⟨w.heap.size, 0, none⟩)) ∧ HashAt w' w.heap.size w.heap.size none [] ∧ w'.heap.size = w.heap.size + 1 ∧ Below w.heap.size w w' := by
  have hl1 := hL.lt1
  obtain ⟨t0, hF⟩ := hL.iv
  clear hL
  have HF := Lib.hid hF
  go_enter Tryd.func22, Tryd.ntmps22
  go_wp2_with (refine wpList_load_row rfl 76 _ rfl 0 rfl t0 _ (0, 0) _ hF Tryd.underlying76 rfl (sz76.trans (by simp [U32])) ?_)
  go_ret
  rw [new_cells]
  exact ⟨rfl, ⟨.slice none 0 0, heap_alloc_new w _,   .inl ⟨rfl, rfl⟩, rfl, Nat.le_refl _, hl1⟩, by simp, (Below.refl _ _).alloc (Nat.le_refl _) _⟩

theorem len_any {w : World} {B h : Nat} {q : Option Nat} {l : List UInt8} (H : HashAt w B h q l) : Calls Tryd.prog 20 #[.pointer (some ⟨h, 0, none⟩)] w fun e w' => e = .returned (.int .i64 (l.length : Int)) ∧ w = w' := by
  obtain ⟨v, h1, _⟩ := H
  have c : w.cell? ⟨h, 9, none⟩ = some (.int .i64 (l.length : Int)) := by rw [cell_of_row w h 9 _ 80 _ h1]; rfl
  clear h1
  go_enter Tryd.func20, Tryd.ntmps20
  go_wp2
  go_ret
  exact ⟨rfl, rfl⟩
theorem len_nil (w : World) : Calls Tryd.prog 20 #[.pointer none] w fun e w' => e = .returned (.int .i64 0) ∧ w = w' := by
  go_enter Tryd.func20, Tryd.ntmps20
  go_wp2
  go_ret
  exact ⟨rfl, rfl⟩
end Go.Proofs.YtmifegjmmlipbaaDoor
