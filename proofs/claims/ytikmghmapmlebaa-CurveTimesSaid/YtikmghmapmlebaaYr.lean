/-
  The operations of curve's laws, one at a time; the ladder's laws for clamped numbers.
-/
import Derived.Test.YtikmghmapmlebaaYp
import Derived.Test.YtikmghmapmlebaaPl
import Derived.Test.YtikmghmapmlebaaYb
namespace Go.Proofs.Ytikmghmapmlebaa
open Go.RowKit Go.Rh F255
open Go.Extern.Stop (cell)

section
variable {P : Program} {Q : Exit → Act → World → Prop} {ops : List Oper} {o : Oper} {a : Act} {w : World} {K : Act → World → Prop}
theorem at_unwanted {j d : Nat} {b c : Bool} {oj : Oper} (hg : o.guard = some (j, b)) (ho : ops[j]? = some oj) (hd : oj.dst = some d) (e : a.tmps[d]? = some (.bool c)) (hbc : c ≠ b) (h : K (a.put o.dst undef) w) :
    (if Region.wanted o (yielded ops.toArray a.tmps) then o.wp P a w K Q ∨ (o.asks P a w ∧ LetsOut Q) else K (a.put o.dst undef) w) := by
  rw [if_neg (by
    simp [Region.wanted, hg, yielded, ho, hd, e]
    exact hbc)]
  exact h
end
theorem run_op_eql22 {o : Oper} {a : Act} {w : World} {x y : Operand} {r : TypeId} {g h : Nat → Nat} (ho : o.op = .binOp .eql 22 x y r) (ex : a.eval x = .agg (U8 g)) (ey : a.eval y = .agg (U8 h)) (hg : ∀ j, j < 32 → g j < 256) (hh : ∀ j, j < 32 → h j < 256) :
    (execOp a.eval o).run Try.prog w = .ok (.value (.bool (bl g == bl h))) w := by
  unfold execOp
  simp only [ho, ex, ey]
  have := run_inU8 hg hh w
  go_simp
theorem run_op_neq22 {o : Oper} {a : Act} {w : World} {x y : Operand} {r : TypeId} {g h : Nat → Nat} (ho : o.op = .binOp .neq 22 x y r) (ex : a.eval x = .agg (U8 g)) (ey : a.eval y = .agg (U8 h)) (hg : ∀ j, j < 32 → g j < 256) (hh : ∀ j, j < 32 → h j < 256) :
    (execOp a.eval o).run Try.prog w = .ok (.value (.bool (!(bl g == bl h)))) w := by
  unfold execOp
  simp only [ho, ex, ey]
  have := run_inU8 hg hh w
  go_simp
theorem run_op_eqI {o : Oper} {a : Act} {w : World} {x y : Operand} {r : TypeId} {m n : Int} (ho : o.op = .binOp .eql 53 x y r) (ex : a.eval x = .int .i64 m) (ey : a.eval y = .int .i64 n) :
    (execOp a.eval o).run Try.prog w = .ok (.value (.bool (m == n))) w := by
  unfold execOp
  simp only [ho, ex, ey]
  go_simp
theorem build1 (w : World) : (Instr.build 22 #[(0, .int .u8 1)]).run Try.prog w = .ok (.agg (U8 d1)) w := by
  go_simp
  rfl
theorem run_op_build0 {o : Oper} {a : Act} {w : World} {v : Value} (ho : o.op = .build 22 #[]) (h : (Instr.build 22 #[]).run Try.prog w = .ok v w) : (execOp a.eval o).run Try.prog w = .ok (.value v) w := by
  unfold execOp
  simp [ho, h]
theorem run_op_build1 {o : Oper} {a : Act} {w : World} {v c : Value} (ho : o.op = .build 22 #[(0, .const c)]) (h : (Instr.build 22 #[(0, c)]).run Try.prog w = .ok v w) : (execOp a.eval o).run Try.prog w = .ok (.value v) w := by
  unfold execOp
  simp [ho, h, Act.eval]
theorem eRTimes (g h : Nat → Nat) (hg : ∀ j, j < 32 → g j < 256) (hh : ∀ j, j < 32 → h j < 256) (w : World) :
    Calls Try.prog 31 #[.string (bstr g 32), .string (bstr h 32)] w fun e w' => e = .returned (.string (le32 (TM (xF h) g).val)) ∧ Below w.heap.size w w' :=
  (rtimes_any g h hg hh w).mono fun _ _ k => ⟨k.1, k.2.out.1⟩

theorem row_new {w1 w2 : World} {b : Nat} {k A : Obj} {R : Array Value} (hw : w2 = (w1.alloc A).setRow w1.heap.size R) (h : w1.heap[b]? = some k) : w2.heap[b]? = some k := by
  rw [hw, setRow_other _ _ _ _ (Nat.ne_of_lt (heap_lt h)), heap_old _ _ _ (heap_lt h)]
  exact h
theorem below_new {w w1 w2 : World} {A : Obj} {R : Array Value} (hw : w2 = (w1.alloc A).setRow w1.heap.size R) (h : Below w.heap.size w w1) : Below w.heap.size w w2 := by
  rw [hw]
  exact below_setRow (h.alloc h.size _) h.size _
theorem cbit_low (g : Nat → Nat) : cbit g 0 = false ∧ cbit g 1 = false ∧ cbit g 2 = false := by
  refine ⟨?_, ?_, ?_⟩ <;> simp [cbit]
theorem num_three (bit : Nat → Bool) (n : Nat) (h0 : bit 0 = false) (h1 : bit 1 = false) (h2 : bit 2 = false) : Ed.num bit (n + 2) (n + 3) = Ed.num bit (n + 2) n * 8 := by
  show 2 * (2 * (2 * Ed.num bit (n + 2) n + if bit (n + 2 - n) then 1 else 0) + if bit (n + 2 - (n + 1)) then 1 else 0) + (if bit (n + 2 - (n + 2)) then 1 else 0) = _
  rw [show n + 2 - n = 2 by omega, show n + 2 - (n + 1) = 1 by omega, show n + 2 - (n + 2) = 0 by omega, h0, h1, h2]
  simp
  omega
theorem num_eight (g : Nat → Nat) : Ed.num (cbit g) 254 255 = Ed.num (cbit g) 254 252 * 8 := num_three (cbit g) 252 (cbit_low g).1 (cbit_low g).2.1 (cbit_low g).2.2
theorem TM_comm (u : Fin p) (a b : Nat → Nat) : TM (TM u b) a = TM (TM u a) b := by
  have ha := num_eight a
  have hb := num_eight b
  exact Ed.Crv.tim_comm crv u (cbit a) (cbit b) 254 255 (by decide) (m := Ed.num (cbit a) 254 252 * 4) (m' := Ed.num (cbit b) 254 252 * 4) (by omega) (by omega)
theorem TM_nought (g : Nat → Nat) : TM 0 g = 0 := Ed.tim_nought crv.toFld finv0 kF (cbit g) 254 255 (by decide)
theorem TM_one (g : Nat → Nat) : TM 1 g = 0 := Ed.Crv.tim_one crv (cbit g) 254 255 (m := Ed.num (cbit g) 254 252 * 2) (by have := num_eight g; omega)
end Go.Proofs.Ytikmghmapmlebaa
