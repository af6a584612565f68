/-
  Sums compared, loaded; Mac beside hashes.
-/
import Derived.Test.YtmifegjmmlipbaaDoorCe
namespace Go.Proofs.YtmifegjmmlipbaaDoor
open Go.RowKit Go.Rh Sha

theorem run_equalIn_B8 (x y : List UInt8) (hx : x.length = 32) (hy : y.length = 32) (w : World) : (Op.equalIn 10000 24 (.agg (B8 32 x)) (.agg (B8 32 y))).run Tryd.prog w = .ok (x == y) w := by
  obtain ⟨i0, hi0, hz0, hz1, hz2⟩ := info_parts info5
  rw [B8_cells hx, B8_cells hy]
  exact run_equalIn_bytes w 9998 24 5 32 Tryd.underlying24 Tryd.underlying5 (size_of5 hi0 hz1) _ _ hx hy
theorem wpList_load_B8 {ops : Array Oper} {rest : List Oper} {o : Oper} {a : Act} {w : World} {Q : Exit → Act → World → Prop} {l : List UInt8} {fr : Nat × Nat} (hw : Region.wanted o (yielded ops a.tmps) = true) (x : Operand) (ho : o.op = .load 24 x)
    (g : Nat) (hx : a.eval x = .pointer (some ⟨g, 0, none⟩)) (hg : w.heap[g]? = some (.cells (B8 32 l) 24 fr)) (h : wpList Tryd.prog ops Q rest (a.put o.dst (.agg (B8 32 l))) w) : wpList Tryd.prog ops Q (o :: rest) a w :=
  BigFrame.wpList_want hw fun _ hK => wp_load_row 24 x ho g hx 24 _ fr _ hg Tryd.underlying24 rfl (sz24.trans (by simp [B8])) (hK _ _ h)

theorem st_mac {B : Nat} {w0 w : World} {xs : List (Nat × Option Nat × List UInt8)} {ok ok' : Nat → Prop} {v x : Value} {l m : List UInt8} (H : St B w0 w xs) (hv : Bs ok w v l) (hx : Bs ok' w x m) (hb : l.length ≤ 70368744177664) (hb2 : m.length + 64 ≤ 70368744177664) :
    Calls Tryd.prog 23 #[v, x] w fun e w' => e = .returned (.agg (B8 32 (mac l m))) ∧ Below w.heap.size w w' ∧ St B w0 w' xs := by
  refine (mac_any H.laid hv hx hb hb2).mono ?_
  rintro e w' ⟨rfl, h1⟩
  exact ⟨rfl, h1, H.step h1⟩

end Go.Proofs.YtmifegjmmlipbaaDoor
