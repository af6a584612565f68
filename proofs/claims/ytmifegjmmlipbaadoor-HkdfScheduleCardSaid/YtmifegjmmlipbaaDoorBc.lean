import Derived.Test.YtmifegjmmlipbaaDoorBb
import Derived.Test.YtmifegjmmlipbaaDoorJb
namespace Go.Rh
open Go.RowKit Sha
section
variable {P : Program}
theorem wpList_append_zeros {ops : Array Oper} {rest : List Oper} {o : Oper} {a : Act} {Q : Exit → Act → World → Prop} {w : World} {B : Nat} {v : Value} {l : List UInt8} (hgd : o.guard = none) (s y : Operand) (t u : TypeId)
    (ho : o.op = .call { callee := .builtin .append, args := #[s, y], argTypes := #[t, u] }) (i : TypeInfo) (ht : P.underlying t = some (.slice 5)) (hu : P.underlying u = some (.int .i64)) (hi : P.info? 5 = some i) (hz : i.zero = some (.int .u8 0)) (hsz : i.size = 1) (hby : i.bytes = 1)
    (n : Nat) (hs : a.eval s = v) (hy : a.eval y = .int .i64 (n : Int)) (hown : Own w B v l) (h0 : 0 < n) (hbound : l.length + n ≤ 140737488355328) (hB : B ≤ w.heap.size)
    (h : ∀ v' w', Own w' B v' (l ++ List.replicate n 0) → Keep w w' (fun k => v.ownBlock = some k) → (v'.ownBlock = v.ownBlock ∨ v'.ownBlock = some w.heap.size) → wpList P ops Q rest (a.put o.dst v') w') : wpList P ops Q (o :: rest) a w := by
  refine wpList_plain hgd fun K hK => ?_
  obtain ⟨v', w', hr, h1, h2, h3⟩ := run_append_zeros (P := P) t u o.type i ht hu hi hz hsz hby hown n h0 hbound hB
  unfold Oper.wp execOp
  simp only [ho, resolve, invoke, builtin, Sem.run_bind, Sem.run_pure, Result.andThen_ok, List.map_toArray, List.map_cons, List.map_nil, hs, hy, hr]
  exact hK _ _ (h v' w' h1 h2 h3)
end
end Go.Rh
