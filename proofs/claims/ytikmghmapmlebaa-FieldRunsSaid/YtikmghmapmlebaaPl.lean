/-
  More operations, one at a time: not, unlike strings, constants among arguments; each needs what it names.
-/
import Derived.Test.YtikmghmapmlebaaPk
namespace Go.Proofs.Ytikmghmapmlebaa
open Go.RowKit Go.Rh F255

theorem argsC {a : Act} {v : Value} : #[Operand.const v].map a.eval = #[v] := by simp [Act.eval]
theorem run_not {o : Oper} {a : Act} {w : World} {x : Operand} {b : Bool} (ho : o.op = .unOp .not 4 x) (e : a.eval x = .bool b) : (execOp a.eval o).run Try.prog w = .ok (.value (.bool (!b))) w := by
  unfold execOp
  simp only [ho, e]
  go_simp
theorem run_neqs {o : Oper} {a : Act} {w : World} {x y : Operand} {r : TypeId} {s t : ByteArray} (ho : o.op = .binOp .neq 9 x y r) (ex : a.eval x = .string s) (ey : a.eval y = .string t) :
    (execOp a.eval o).run Try.prog w = .ok (.value (.bool (!(s.toList == t.toList)))) w := by
  unfold execOp
  simp only [ho, ex, ey]
  go_simp
theorem unlike {s t : ByteArray} (h : s ≠ t) : Value.bool (s.toList == t.toList) = Value.bool false := by
  congr 1
  rw [beq_eq_false_iff_ne]
  intro e
  rw [ByteArray.toList_eq, ByteArray.toList_eq] at e
  exact h (ByteArray.ext (Array.ext' e))
end Go.Proofs.Ytikmghmapmlebaa
