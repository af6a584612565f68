/-
  The operations of curve's laws, one at a time; the ladder's laws for clamped numbers.
-/
import Derived.Test.YtikmghmapmlebaaYp
import Derived.Test.YtikmghmapmlebaaPl
import Derived.Test.YtikmghmapmlebaaYb
namespace Go.Proofs.Ytikmghmapmlebaa
open Go.RowKit Go.Rh F255
open Go.Extern.Stop (cell)

section
variable {P : Program} {Q : Exit → Act → World → Prop} {ops : List Oper} {o : Oper} {a : Act} {w : World} {K : Act → World → Prop}
theorem at_unwanted {j d : Nat} {b c : Bool} {oj : Oper} (hg : o.guard = some (j, b)) (ho : ops[j]? = some oj) (hd : oj.dst = some d) (e : a.tmps[d]? = some (.bool c)) (hbc : c ≠ b) (h : K (a.put o.dst undef) w) :
    (if Region.wanted o (yielded ops.toArray a.tmps) then o.wp P a w K Q ∨ (o.asks P a w ∧ LetsOut Q) else K (a.put o.dst undef) w) := by
  rw [if_neg (by
    simp [Region.wanted, hg, yielded, ho, hd, e]
    exact hbc)]
  exact h
end
theorem wpList_load_want {P : Program} {ops : Array Oper} {rest : List Oper} {op : Oper} {a : Act} {w : World} {Q : Exit → Act → World → Prop} (hw : Region.wanted op (yielded ops a.tmps) = true) (ty : TypeId) (x : Operand) (ho : op.op = .load ty x)
    (g : Nat) (hx : a.eval x = .pointer (some ⟨g, 0, none⟩)) (t : TypeId) (cs : Array Value) (fr : Nat × Nat) (d : TypeDesc) (hg : w.heap[g]? = some (.cells cs t fr))
    (hu : P.underlying ty = some d) (hd : (match d with | .struct _ | .array _ _ => true | _ => false) = true) (hi : (P.info? ty).map (·.size) = some cs.size)
    (h : wpList P ops Q rest (a.put op.dst (.agg cs)) w) : wpList P ops Q (op :: rest) a w := by
  refine BigFrame.wpList_want hw fun K hK => ?_
  exact wp_load_row ty x ho g hx t cs fr d hg hu hd hi (hK _ _ h)
theorem run_op_eql22 {o : Oper} {a : Act} {w : World} {x y : Operand} {r : TypeId} {g h : Nat → Nat} (ho : o.op = .binOp .eql 22 x y r) (ex : a.eval x = .agg (U8 g)) (ey : a.eval y = .agg (U8 h)) (hg : ∀ j, j < 32 → g j < 256) (hh : ∀ j, j < 32 → h j < 256) :
    (execOp a.eval o).run Try.prog w = .ok (.value (.bool (bl g == bl h))) w := by
  unfold execOp
  simp only [ho, ex, ey]
  have := run_inU8 hg hh w
  go_simp
theorem run_op_neq22 {o : Oper} {a : Act} {w : World} {x y : Operand} {r : TypeId} {g h : Nat → Nat} (ho : o.op = .binOp .neq 22 x y r) (ex : a.eval x = .agg (U8 g)) (ey : a.eval y = .agg (U8 h)) (hg : ∀ j, j < 32 → g j < 256) (hh : ∀ j, j < 32 → h j < 256) :
    (execOp a.eval o).run Try.prog w = .ok (.value (.bool (!(bl g == bl h)))) w := by
  unfold execOp
  simp only [ho, ex, ey]
  have := run_inU8 hg hh w
  go_simp
theorem run_op_eqI {o : Oper} {a : Act} {w : World} {x y : Operand} {r : TypeId} {m n : Int} (ho : o.op = .binOp .eql 53 x y r) (ex : a.eval x = .int .i64 m) (ey : a.eval y = .int .i64 n) :
    (execOp a.eval o).run Try.prog w = .ok (.value (.bool (m == n))) w := by
  unfold execOp
  simp only [ho, ex, ey]
  go_simp
theorem build1 (w : World) : (Instr.build 22 #[(0, .int .u8 1)]).run Try.prog w = .ok (.agg (U8 d1)) w := by
  go_simp
  rfl
theorem run_op_build0 {o : Oper} {a : Act} {w : World} {v : Value} (ho : o.op = .build 22 #[]) (h : (Instr.build 22 #[]).run Try.prog w = .ok v w) : (execOp a.eval o).run Try.prog w = .ok (.value v) w := by
  unfold execOp
  simp [ho, h]
theorem run_op_build1 {o : Oper} {a : Act} {w : World} {v c : Value} (ho : o.op = .build 22 #[(0, .const c)]) (h : (Instr.build 22 #[(0, c)]).run Try.prog w = .ok v w) : (execOp a.eval o).run Try.prog w = .ok (.value v) w := by
  unfold execOp
  simp [ho, h, Act.eval]
theorem eRTimes (g h : Nat → Nat) (hg : ∀ j, j < 32 → g j < 256) (hh : ∀ j, j < 32 → h j < 256) (w : World) :
    Calls Try.prog 31 #[.string (bstr g 32), .string (bstr h 32)] w fun e w' => e = .returned (.string (le32 (TM (xF h) g).val)) ∧ Below w.heap.size w w' :=
  (rtimes_any g h hg hh w).mono fun _ _ k => ⟨k.1, k.2.out.1⟩

theorem row_new {w1 w2 : World} {b : Nat} {k A : Obj} {R : Array Value} (hw : w2 = (w1.alloc A).setRow w1.heap.size R) (h : w1.heap[b]? = some k) : w2.heap[b]? = some k := by
  rw [hw, setRow_other _ _ _ _ (Nat.ne_of_lt (heap_lt h)), heap_old _ _ _ (heap_lt h)]
  exact h
theorem below_new {w w1 w2 : World} {A : Obj} {R : Array Value} (hw : w2 = (w1.alloc A).setRow w1.heap.size R) (h : Below w.heap.size w w1) : Below w.heap.size w w2 := by
  rw [hw]
  exact below_setRow (h.alloc h.size _) h.size _
theorem rows_two {w2 v w31 w3 : World} {b b5 b6 : Nat} {k : Obj} {R5 R6 : Array Value} (hg : w2.grownBy v none) (h1 : w31 = v.setRow b5 R5) (h2 : w3 = w31.setRow b6 R6) (z5 : w2.heap.size ≤ b5) (z6 : w2.heap.size ≤ b6) (h : w2.heap[b]? = some k) : w3.heap[b]? = some k := by
  have hl := heap_lt h
  rw [h2, setRow_other _ _ _ _ (by omega), h1, setRow_other _ _ _ _ (by omega)]
  exact (hg.block _ hl (by simp)).trans h
theorem below_two {w w2 v w31 w3 : World} {b5 b6 : Nat} {R5 R6 : Array Value} (hg : w2.grownBy v none) (h1 : w31 = v.setRow b5 R5) (h2 : w3 = w31.setRow b6 R6) (z5 : w2.heap.size ≤ b5) (z6 : w2.heap.size ≤ b6) (h : Below w.heap.size w w2) : Below w.heap.size w w3 := by
  have hs := h.size
  rw [h2, h1]
  exact below_setRow (below_setRow (h.grown hg hs (fun j hj => by cases hj)) (by omega) _) (by omega) _
theorem cbit_low (g : Nat → Nat) : cbit g 0 = false ∧ cbit g 1 = false ∧ cbit g 2 = false := by
  refine ⟨?_, ?_, ?_⟩ <;> simp [cbit]
theorem num_three (bit : Nat → Bool) (n : Nat) (h0 : bit 0 = false) (h1 : bit 1 = false) (h2 : bit 2 = false) : Ed.num bit (n + 2) (n + 3) = Ed.num bit (n + 2) n * 8 := by
  show 2 * (2 * (2 * Ed.num bit (n + 2) n + if bit (n + 2 - n) then 1 else 0) + if bit (n + 2 - (n + 1)) then 1 else 0) + (if bit (n + 2 - (n + 2)) then 1 else 0) = _
  rw [show n + 2 - n = 2 by omega, show n + 2 - (n + 1) = 1 by omega, show n + 2 - (n + 2) = 0 by omega, h0, h1, h2]
  simp
  omega
theorem num_eight (g : Nat → Nat) : Ed.num (cbit g) 254 255 = Ed.num (cbit g) 254 252 * 8 := num_three (cbit g) 252 (cbit_low g).1 (cbit_low g).2.1 (cbit_low g).2.2
theorem TM_comm (u : Fin p) (a b : Nat → Nat) : TM (TM u b) a = TM (TM u a) b := by
  have ha := num_eight a
  have hb := num_eight b
  exact Ed.Crv.tim_comm crv u (cbit a) (cbit b) 254 255 (by decide) (m := Ed.num (cbit a) 254 252 * 4) (m' := Ed.num (cbit b) 254 252 * 4) (by omega) (by omega)
theorem TM_nought (g : Nat → Nat) : TM 0 g = 0 := Ed.tim_nought crv.toFld finv0 kF (cbit g) 254 255 (by decide)
theorem TM_one (g : Nat → Nat) : TM 1 g = 0 := Ed.Crv.tim_one crv (cbit g) 254 255 (m := Ed.num (cbit g) 254 252 * 2) (by have := num_eight g; omega)
theorem xF_d0 : xF (fun _ => 0) = 0 := by decide +kernel
theorem xF_d1 : xF d1 = 1 := by decide +kernel
theorem shared0 (g : Nat → Nat) (hg : ∀ j, j < 32 → g j < 256) (w : World) : Calls Try.prog 33 #[.agg (U8 g), .agg (U8 fun _ => 0)] w fun e w' => e = .returned (.tuple #[.agg (U8 (xB 0)), .int .i64 4]) ∧ Below w.heap.size w w' :=
  (shared_any g _ hg zero_lt w).mono fun _ _ h => ⟨by rw [h.1, xF_d0, TM_nought]; rfl, h.2⟩
theorem shared1 (g : Nat → Nat) (hg : ∀ j, j < 32 → g j < 256) (w : World) : Calls Try.prog 33 #[.agg (U8 g), .agg (U8 d1)] w fun e w' => e = .returned (.tuple #[.agg (U8 (xB 0)), .int .i64 4]) ∧ Below w.heap.size w w' :=
  (shared_any g _ hg d1_lt w).mono fun _ _ h => ⟨by rw [h.1, xF_d1, TM_one]; rfl, h.2⟩
end Go.Proofs.Ytikmghmapmlebaa
