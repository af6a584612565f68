/-
  Steps of the walk of a region's head at a class of worlds: loads that read the same in all of them, calls, and what any operation's run gives.
-/
import Derived.Test.YtjnekjjaofabeaaWj
import Derived.Test.YtjnekjjaofabeaaBa
import Derived.Deep.MidRow
namespace Go.Rh
open Go.RowKit

section
variable {P : Program} {ops : Array Oper} {C : World → Prop} {Q : Act → Prop} {a : Act} {o : Oper} {rest : List Oper}

theorem wq_run {v : Value} (hg : o.guard = none) (hr : ∀ w, C w → (execOp a.eval o).run P w = .ok (.value v) w) (h : wpQuiet P ops C Q rest (a.put o.dst v)) : wpQuiet P ops C Q (o :: rest) a :=
  BigFrame.wpQuiet_want (by simp [Region.wanted, hg]) fun K hK => ⟨v, fun w hw => by unfold Oper.quietAt; rw [hr w hw]; exact ⟨rfl, rfl⟩, hK _ h⟩
theorem wq_S {v : Value} (S : Sem Value) (hg : o.guard = none) (ho : execOp a.eval o = (do pure (.value (← S)))) (hr : ∀ w, C w → S.run P w = .ok v w) (h : wpQuiet P ops C Q rest (a.put o.dst v)) : wpQuiet P ops C Q (o :: rest) a :=
  wq_run hg (fun w hw => by rw [ho]; simp only [Sem.run_bind, Sem.run_pure, hr w hw, Result.andThen_ok]) h
theorem wq_nil {p : Addr} (x : Operand) (hg : o.guard = none) (ho : o.op = .nilCheck x) (hx : a.eval x = .pointer (some p)) (h : wpQuiet P ops C Q rest (a.put o.dst (.pointer (some p)))) : wpQuiet P ops C Q (o :: rest) a :=
  wq_run hg (fun w _ => by unfold execOp; simp only [ho, hx, Sem.run_pure]) h
theorem wq_load {v : Value} (hg : o.guard = none) (ty : TypeId) (x : Operand) (ho : o.op = .load ty x) (p : Value) (hx : a.eval x = p) (hr : ∀ w, C w → (Instr.loadAt ty p).run P w = .ok v w) (h : wpQuiet P ops C Q rest (a.put o.dst v)) : wpQuiet P ops C Q (o :: rest) a :=
  wq_run hg (fun w hw => by unfold execOp; simp only [ho, hx, Sem.run_bind, Sem.run_pure, hr w hw, Result.andThen_ok]) h
theorem wq_convert {u v : Value} (hg : o.guard = none) (s d : TypeId) (x : Operand) (ho : o.op = .convert s d x) (hx : a.eval x = u) (hr : ∀ w, C w → (convert s d u).run P w = .ok v w) (h : wpQuiet P ops C Q rest (a.put o.dst v)) : wpQuiet P ops C Q (o :: rest) a :=
  wq_run hg (fun w hw => by unfold execOp; simp only [ho, hx, Sem.run_bind, Sem.run_pure, hr w hw, Result.andThen_ok]) h
theorem wq_call {f : Nat} {fn : Func} {c : Code} {args : Array Operand} {tys : Array TypeId} {vs : Array Value} {v : Value} (hg : o.guard = none) (ho : o.op = .call ⟨.value (.func f), args, tys⟩) (hv : args.map a.eval = vs) (hf : P.funcs[f]? = some fn) (hn : (fn.name == "runtime.NumGoroutine") = false) (hb : fn.body = some c)
    (hr : ∀ w, C w → Calls P f vs w fun e w' => e = .returned v ∧ C w') (h : wpQuiet P ops C Q rest (a.put o.dst v)) : wpQuiet P ops C Q (o :: rest) a := by
  refine BigFrame.wpQuiet_want (by simp [Region.wanted, hg]) fun K hK => ⟨v, fun w hw => ?_, hK _ h⟩
  have hrun : (execOp a.eval o).run P w = .ok (.enter f vs) w := by
    unfold execOp
    simp only [ho, resolve, hv, Deferred.ofValue, Act.eval, invoke, callFunc, Sem.run_bind, Sem.run_pure, Result.andThen_ok]
    have hn' : ¬ fn.name = "runtime.NumGoroutine" := by simpa using hn
    simp [hf, hn', hb]
  unfold Oper.quietAt
  rw [hrun]
  exact ⟨rfl, hr w hw⟩
end
section
variable {P : Program}
theorem step_append_bytes {ops : Array Oper} {o : Oper} {a : Act} {K : Act → World → Prop} {Q : Exit → Act → World → Prop} {E : Prop} {w : World} {B : Nat} {ok : Nat → Prop} {v x : Value} {l m : List UInt8} (hgd : o.guard = none) (s y : Operand) (t : TypeId)
    (ho : o.op = .call { callee := .builtin .append, args := #[s, y], argTypes := #[t, t] }) (i : TypeInfo) (ht : P.underlying t = some (.slice 5)) (hi : P.info? 5 = some i) (hz : i.zero = some (.int .u8 0)) (hsz : i.size = 1) (hby : i.bytes = 1)
    (hs : a.eval s = v) (hy : a.eval y = x) (hown : Own w B v l) (hx : Bs ok w x m) (hbound : l.length + m.length ≤ 140737488355328) (hB : B ≤ w.heap.size)
    (h : ∀ v' w', Own w' B v' (l ++ m) → Keep w w' (fun k => v.ownBlock = some k) → (v'.ownBlock = v.ownBlock ∨ v'.ownBlock = some w.heap.size) → K (a.put o.dst v') w') :
    if Region.wanted o (yielded ops a.tmps) = true then Oper.wp P o a w K Q else E := by
  have hw : Region.wanted o (yielded ops a.tmps) = true := by simp [Region.wanted, hgd]
  rw [if_pos hw]
  obtain ⟨v', w', hr, h1, h2, h3⟩ := run_append_bytes (P := P) t o.type i ht hi hz hsz hby hown hx hbound hB
  unfold Oper.wp execOp
  simp only [ho, resolve, invoke, builtin, Sem.run_bind, Sem.run_pure, Result.andThen_ok, List.map_toArray, List.map_cons, List.map_nil, hs, hy, hr]
  exact h v' w' h1 h2 h3
theorem wpList_append_bytes {ops : Array Oper} {rest : List Oper} {o : Oper} {a : Act} {Q : Exit → Act → World → Prop} {w : World} {B : Nat} {ok : Nat → Prop} {v x : Value} {l m : List UInt8} (hgd : o.guard = none) (s y : Operand) (t : TypeId)
    (ho : o.op = .call { callee := .builtin .append, args := #[s, y], argTypes := #[t, t] }) (i : TypeInfo) (ht : P.underlying t = some (.slice 5)) (hi : P.info? 5 = some i) (hz : i.zero = some (.int .u8 0)) (hsz : i.size = 1) (hby : i.bytes = 1)
    (hs : a.eval s = v) (hy : a.eval y = x) (hown : Own w B v l) (hx : Bs ok w x m) (hbound : l.length + m.length ≤ 140737488355328) (hB : B ≤ w.heap.size)
    (h : ∀ v' w', Own w' B v' (l ++ m) → Keep w w' (fun k => v.ownBlock = some k) → (v'.ownBlock = v.ownBlock ∨ v'.ownBlock = some w.heap.size) → wpList P ops Q rest (a.put o.dst v') w') : wpList P ops Q (o :: rest) a w := by
  refine wpList_plain hgd fun K hK => ?_
  obtain ⟨v', w', hr, h1, h2, h3⟩ := run_append_bytes (P := P) t o.type i ht hi hz hsz hby hown hx hbound hB
  unfold Oper.wp execOp
  simp only [ho, resolve, invoke, builtin, Sem.run_bind, Sem.run_pure, Result.andThen_ok, List.map_toArray, List.map_cons, List.map_nil, hs, hy, hr]
  exact hK _ _ (h v' w' h1 h2 h3)
end
end Go.Rh
