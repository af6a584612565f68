/-
  The doors of one end as memory: their numbers, the map of those that are through; NewDoors, Open, Allow, Grant.
-/
import Derived.Test.YtpaodflocbfghaaBa
import Derived.Test.YtpaodflocbfghaaProg
import Derived.Maps.Own
import Derived.Maps.OwnOps
import Derived.Maps.Views
import Derived.IntWalk
import Derived.BigQuiet
import Derived.Deep.LoopGhost
import Derived.StillTailTactics
import Derived.Deep.QuietTactic
namespace Go.Proofs.Ytpaodflocbfghaa
open Go.RowKit Go.Rh Go.Maps

/-- The numbers of one end's doors. -/
structure DS where
  kind : Int
  most : Int
  own : Int
  may : Int
  theirs : Int
  count : Int
  left : Int
  gone : List Int

theorem law3 : Keyed Try.prog 3 := int_keyed Try.underlying3
/-- The map of those that are through. -/
def MAt (w : World) (g : Nat) (G : List Int) : Prop := ∃ D : DataW Unit, w.ownsMap Try.prog 3 (plainElem Try.prog 4) g G.length D ∧ IsMap D ∧ ∀ n : Int, (Lit.int .i64 n).wf = true → D.atKey (.int .i64 n) (.lit (.bool false)) = .lit (.bool (decide (n ∈ G)))
theorem MAt.keep {w w' : World} {g : Nat} {G : List Int} {T : Nat → Prop} (h : MAt w g G) (k : Keep w w' T) (hT : ¬ T g) : MAt w' g G := by
  obtain ⟨D, ⟨es, clock, hb, r⟩, hD⟩ := h
  exact ⟨D, ⟨es, clock, (k.block g (heap_lt hb) hT).trans hb, r⟩, hD⟩

def dcells (S : DS) (g : Nat) : Array Value := #[.int .i64 S.kind, .int .i64 S.most, .int .i64 S.own, .int .i64 S.may, .int .i64 S.theirs, .int .i64 S.count, .map (some g), .int .i64 S.left]
/-- Doors in memory: the block of numbers, that of the map. -/
structure Door (w : World) (d g : Nat) (S : DS) : Prop where
  ne : d ≠ g
  row : w.heap[d]? = some (.cells (dcells S g) 59 (0, 0))
  map : MAt w g S.gone
theorem Door.keep {w w' : World} {d g : Nat} {S : DS} {T : Nat → Prop} (h : Door w d g S) (k : Keep w w' T) (hd : ¬ T d) (hg : ¬ T g) : Door w' d g S :=
  ⟨h.ne, (k.block d (heap_lt h.row) hd).trans h.row, h.map.keep k hg⟩
theorem Door.cell {w : World} {d g : Nat} {S : DS} (h : Door w d g S) (i : Nat) : w.cell? ⟨d, i, none⟩ = (dcells S g)[i]? := cell_of_row w d i _ 59 _ h.row
theorem Door.free {w : World} {d g : Nat} {S : DS} (h : Door w d g S) (i : Nat) : w.frozen? ⟨d, i, none⟩ = false := frozen_of_row _ _ _ _ _ h.row
theorem Door.lt {w : World} {d g : Nat} {S : DS} (h : Door w d g S) : d < w.heap.size := heap_lt h.row
theorem Door.ltg {w : World} {d g : Nat} {S : DS} (h : Door w d g S) : g < w.heap.size := let ⟨_, ho, _⟩ := h.map; ho.lt
theorem Door.set {w : World} {d g i : Nat} {S S' : DS} (h : Door w d g S) (v : Value) (hs : (dcells S g).setIfInBounds i v = dcells S' g) (hg : S'.gone = S.gone) : Door (w.setCell ⟨d, i, none⟩ v) d g S' := by
  refine ⟨h.ne, ?_, ?_⟩
  · rw [heap_setCell_same w d i _ 59 _ h.row, hs]
  · rw [hg]; exact h.map.keep (T := fun k => k = d) (Keep.setCell (p := ⟨d, i, none⟩) (S := fun k => k = d) (Keep.refl _ _) (.inr rfl) v) (fun e => h.ne e.symm)
theorem keep_set (w : World) (d i : Nat) (v : Value) : Keep w (w.setCell ⟨d, i, none⟩ v) (fun k => k = d) := Keep.setCell (p := ⟨d, i, none⟩) (S := fun k => k = d) (Keep.refl _ _) (.inr rfl) v

theorem Door.mem {w w' : World} {d g : Nat} {S : DS} (h : Door w d g S) (e : w'.heap = w.heap) : Door w' d g S := by
  obtain ⟨hn, hr, D, ⟨es, clock, hb, r⟩, hD⟩ := h
  exact ⟨hn, by rw [e]; exact hr, D, ⟨es, clock, by rw [e]; exact hb, r⟩, hD⟩
theorem keep_same {w w1 w2 : World} {T : Nat → Prop} (k : Keep w w1 T) (h : w2.heap = w1.heap ∧ w2.os = w1.os ∧ w2.tape = w1.tape ∧ w2.output = w1.output) : Keep w w2 T :=
  ⟨h.2.1.trans k.os, h.2.2.1.trans k.tape, h.2.2.2.trans k.output, by rw [h.1]; exact k.size, fun i hi hn => by rw [h.1]; exact k.block i hi hn⟩
/-- Behind a store into a field, however often the tape was asked. -/
theorem Door.put {w w' : World} {d g i : Nat} {S S' : DS} {v : Value} (h : Door w d g S) (hs : (dcells S g).setIfInBounds i v = dcells S' g) (hg : S'.gone = S.gone)
    (e : w'.heap = (w.setCell ⟨d, i, none⟩ v).heap ∧ w'.os = w.os ∧ w'.tape = w.tape ∧ w'.output = w.output) : Door w' d g S' ∧ Keep w w' (fun k => k = d) :=
  ⟨(h.set v hs hg).mem e.1, keep_same (keep_set w d i v) e⟩

/-- A stream of one's own. -/
theorem open_full {w : World} {d g : Nat} {S : DS} (h : Door w d g S) (h1 : S.may ≤ S.own) :
    Calls Try.prog 14 #[.pointer (some ⟨d, 0, none⟩)] w fun e w' => e = .returned (.tuple #[.int .i64 0, .int .i64 6]) ∧ ∃ n, w' = w.drewN n := by
  have c2 : w.cell? ⟨d, 2, none⟩ = some (.int .i64 S.own) := h.cell 2
  have c3 : w.cell? ⟨d, 3, none⟩ = some (.int .i64 S.may) := h.cell 3
  clear h
  go_enter Try.func14, Try.ntmps14
  go_wp2
  go_quiet (fail)
  go_wp2
  go_ret2
  exact ⟨rfl, ⟨_, rfl⟩⟩
theorem open_new {w : World} {d g : Nat} {S : DS} (h : Door w d g S) (h1 : S.own < S.may) (h0 : 0 ≤ S.own) (hm : S.may ≤ 1099511627776) (hk0 : 0 ≤ S.kind) (hk1 : S.kind ≤ 1) :
    Calls Try.prog 14 #[.pointer (some ⟨d, 0, none⟩)] w fun e w' => e = .returned (.tuple #[.int .i64 (4 * S.own + S.kind), .int .i64 0]) ∧ Door w' d g { S with own := S.own + 1 } ∧ Keep w w' (fun k => k = d) := by
  have c2 : w.cell? ⟨d, 2, none⟩ = some (.int .i64 S.own) := h.cell 2
  have c3 : w.cell? ⟨d, 3, none⟩ = some (.int .i64 S.may) := h.cell 3
  have c0 : w.cell? ⟨d, 0, none⟩ = some (.int .i64 S.kind) := h.cell 0
  have f2 : w.frozen? ⟨d, 2, none⟩ = false := h.free 2
  have H := Lib.hid h
  clear h
  go_enter Try.func14, Try.ntmps14
  go_wp2
  go_quiet (fail)
  go_wp2
  have e1 : IntKind.i64.wrap (S.own + 1) = S.own + 1 := IntWalk.i64_in _ (by omega)
  have e2 : IntKind.i64.wrap (S.own + 1 - 1) = S.own := (IntWalk.i64_in _ (by omega)).trans (by omega)
  have e3 : IntKind.i64.wrap (4 * S.own) = 4 * S.own := IntWalk.i64_in _ (by omega)
  have e4 : IntKind.i64.wrap (4 * S.own + S.kind) = 4 * S.own + S.kind := IntWalk.i64_in _ (by omega)
  go_quiet (fail)
  go_wp2
  go_ret2
  exact ⟨rfl, H.out.put (S' := { S with own := S.own + 1 }) rfl rfl ⟨rfl, rfl, rfl, rfl⟩⟩
end Go.Proofs.Ytpaodflocbfghaa
