/-
  The ladder's round, as the code says it. No program in sight but its values.
-/
import Derived.Test.YtikmghmapmlebaaYa
namespace Go.Proofs.Ytikmghmapmlebaa
open Go.RowKit Go.Rh F255

/-- The four numbers of a round. -/
def Four (q : Fin p × Fin p × Fin p × Fin p) (a b c d : Value) : Prop := a = fs q.1 ∧ b = fs q.2.1 ∧ c = fs q.2.2.1 ∧ d = fs q.2.2.2
def TRel (u : Fin p) (bit : Nat → Bool) (w : World) (a b c d i : Value) (wr : World) : Prop :=
  ∃ j : Nat, j ≤ 255 ∧ i = .int .i64 (254 - (j : Int)) ∧ Four (Ed.lad kF u bit 254 j) a b c d ∧ BB w wr

theorem step_off (u a b c d : Fin p) : Ed.lstep kF u false (a, b, c, d) = ((a + b) * (a + b) * ((a - b) * (a - b)), ((a + b) * (a + b) - (a - b) * (a - b)) * ((a + b) * (a + b) + kF * ((a + b) * (a + b) - (a - b) * (a - b))),
    ((c - d) * (a + b) + (c + d) * (a - b)) * ((c - d) * (a + b) + (c + d) * (a - b)), u * (((c - d) * (a + b) - (c + d) * (a - b)) * ((c - d) * (a + b) - (c + d) * (a - b)))) := by
  simp only [Ed.lstep, Ed.dblX, Ed.dblZ, Ed.sumX, Ed.sumZ]
  generalize kF = k
  generalize (c - d) * (a + b) = m
  generalize (c + d) * (a - b) = n
  have e1 : (n + m) * (n + m) = (m + n) * (m + n) := by grind
  have e2 : (n - m) * (n - m) = (m - n) * (m - n) := by grind
  rw [e1, e2]
theorem step_on (u a b c d : Fin p) : Ed.lstep kF u true (a, b, c, d) = ((Ed.lstep kF u false (c, d, a, b)).2.2.1, (Ed.lstep kF u false (c, d, a, b)).2.2.2, (Ed.lstep kF u false (c, d, a, b)).1, (Ed.lstep kF u false (c, d, a, b)).2.1) := rfl

end Go.Proofs.Ytikmghmapmlebaa
