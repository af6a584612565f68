/-
  Steps of the walk of a region's head at a class of worlds: loads that read the same in all of them, calls, and what any operation's run gives.
-/
import Derived.Test.YtikmghmapmlebaaWj
import Derived.Deep.MidRow
namespace Go.Rh
open Go.RowKit

section
variable {P : Program} {ops : Array Oper} {C : World → Prop} {Q : Act → Prop} {a : Act} {o : Oper} {rest : List Oper}

theorem wq_run {v : Value} (hg : o.guard = none) (hr : ∀ w, C w → (execOp a.eval o).run P w = .ok (.value v) w) (h : wpQuiet P ops C Q rest (a.put o.dst v)) : wpQuiet P ops C Q (o :: rest) a :=
  BigFrame.wpQuiet_want (by simp [Region.wanted, hg]) fun K hK => ⟨v, fun w hw => by unfold Oper.quietAt; rw [hr w hw]; exact ⟨rfl, rfl⟩, hK _ h⟩
theorem wq_S {v : Value} (S : Sem Value) (hg : o.guard = none) (ho : execOp a.eval o = (do pure (.value (← S)))) (hr : ∀ w, C w → S.run P w = .ok v w) (h : wpQuiet P ops C Q rest (a.put o.dst v)) : wpQuiet P ops C Q (o :: rest) a :=
  wq_run hg (fun w hw => by rw [ho]; simp only [Sem.run_bind, Sem.run_pure, hr w hw, Result.andThen_ok]) h
theorem wq_nil {p : Addr} (x : Operand) (hg : o.guard = none) (ho : o.op = .nilCheck x) (hx : a.eval x = .pointer (some p)) (h : wpQuiet P ops C Q rest (a.put o.dst (.pointer (some p)))) : wpQuiet P ops C Q (o :: rest) a :=
  wq_run hg (fun w _ => by unfold execOp; simp only [ho, hx, Sem.run_pure]) h
theorem wq_load {v : Value} (hg : o.guard = none) (ty : TypeId) (x : Operand) (ho : o.op = .load ty x) (p : Value) (hx : a.eval x = p) (hr : ∀ w, C w → (Instr.loadAt ty p).run P w = .ok v w) (h : wpQuiet P ops C Q rest (a.put o.dst v)) : wpQuiet P ops C Q (o :: rest) a :=
  wq_run hg (fun w hw => by unfold execOp; simp only [ho, hx, Sem.run_bind, Sem.run_pure, hr w hw, Result.andThen_ok]) h
theorem wq_convert {u v : Value} (hg : o.guard = none) (s d : TypeId) (x : Operand) (ho : o.op = .convert s d x) (hx : a.eval x = u) (hr : ∀ w, C w → (convert s d u).run P w = .ok v w) (h : wpQuiet P ops C Q rest (a.put o.dst v)) : wpQuiet P ops C Q (o :: rest) a :=
  wq_run hg (fun w hw => by unfold execOp; simp only [ho, hx, Sem.run_bind, Sem.run_pure, hr w hw, Result.andThen_ok]) h
theorem wq_call {f : Nat} {fn : Func} {c : Code} {args : Array Operand} {tys : Array TypeId} {vs : Array Value} {v : Value} (hg : o.guard = none) (ho : o.op = .call ⟨.value (.func f), args, tys⟩) (hv : args.map a.eval = vs) (hf : P.funcs[f]? = some fn) (hn : (fn.name == "runtime.NumGoroutine") = false) (hb : fn.body = some c)
    (hr : ∀ w, C w → Calls P f vs w fun e w' => e = .returned v ∧ C w') (h : wpQuiet P ops C Q rest (a.put o.dst v)) : wpQuiet P ops C Q (o :: rest) a := by
  refine BigFrame.wpQuiet_want (by simp [Region.wanted, hg]) fun K hK => ⟨v, fun w hw => ?_, hK _ h⟩
  have hrun : (execOp a.eval o).run P w = .ok (.enter f vs) w := by
    unfold execOp
    simp only [ho, resolve, hv, Deferred.ofValue, Act.eval, invoke, callFunc, Sem.run_bind, Sem.run_pure, Result.andThen_ok]
    have hn' : ¬ fn.name = "runtime.NumGoroutine" := by simpa using hn
    simp [hf, hn', hb]
  unfold Oper.quietAt
  rw [hrun]
  exact ⟨rfl, hr w hw⟩
end
section
variable {P : Program} {ops : Array Oper} {C : World → Prop} {Q : Act → Prop} {a : Act} {o : Oper} {rest : List Oper}
/-- Steps whose guard says yes. -/
theorem wg_run {v : Value} (hg : Region.wanted o (yielded ops a.tmps) = true) (hr : ∀ w, C w → (execOp a.eval o).run P w = .ok (.value v) w) (h : wpQuiet P ops C Q rest (a.put o.dst v)) : wpQuiet P ops C Q (o :: rest) a :=
  BigFrame.wpQuiet_want hg fun K hK => ⟨v, fun w hw => by unfold Oper.quietAt; rw [hr w hw]; exact ⟨rfl, rfl⟩, hK _ h⟩
theorem wg_load {v : Value} (hg : Region.wanted o (yielded ops a.tmps) = true) (ty : TypeId) (x : Operand) (ho : o.op = .load ty x) (p : Value) (hx : a.eval x = p) (hr : ∀ w, C w → (Instr.loadAt ty p).run P w = .ok v w) (h : wpQuiet P ops C Q rest (a.put o.dst v)) : wpQuiet P ops C Q (o :: rest) a :=
  wg_run hg (fun w hw => by unfold execOp; simp only [ho, hx, Sem.run_bind, Sem.run_pure, hr w hw, Result.andThen_ok]) h
theorem wg_convert {u v : Value} (hg : Region.wanted o (yielded ops a.tmps) = true) (s d : TypeId) (x : Operand) (ho : o.op = .convert s d x) (hx : a.eval x = u) (hr : ∀ w, C w → (convert s d u).run P w = .ok v w) (h : wpQuiet P ops C Q rest (a.put o.dst v)) : wpQuiet P ops C Q (o :: rest) a :=
  wg_run hg (fun w hw => by unfold execOp; simp only [ho, hx, Sem.run_bind, Sem.run_pure, hr w hw, Result.andThen_ok]) h
theorem wg_call {f : Nat} {fn : Func} {c : Code} {args : Array Operand} {tys : Array TypeId} {vs : Array Value} {v : Value} (hg : Region.wanted o (yielded ops a.tmps) = true) (ho : o.op = .call ⟨.value (.func f), args, tys⟩) (hv : args.map a.eval = vs) (hf : P.funcs[f]? = some fn) (hn : (fn.name == "runtime.NumGoroutine") = false) (hb : fn.body = some c)
    (hr : ∀ w, C w → Calls P f vs w fun e w' => e = .returned v ∧ C w') (h : wpQuiet P ops C Q rest (a.put o.dst v)) : wpQuiet P ops C Q (o :: rest) a := by
  refine BigFrame.wpQuiet_want hg fun K hK => ⟨v, fun w hw => ?_, hK _ h⟩
  have hrun : (execOp a.eval o).run P w = .ok (.enter f vs) w := by
    unfold execOp
    simp only [ho, resolve, hv, Deferred.ofValue, Act.eval, invoke, callFunc, Sem.run_bind, Sem.run_pure, Result.andThen_ok]
    have hn' : ¬ fn.name = "runtime.NumGoroutine" := by simpa using hn
    simp [hf, hn', hb]
  unfold Oper.quietAt
  rw [hrun]
  exact ⟨rfl, hr w hw⟩
/-- A region that draws its order and only reads, calls that make new memory among it, guards decided. -/
theorem region_quiet_grown {Q : Exit → Act → World → Prop} {id : Nat} {w0 : World} {a0 : Act} {l : List Oper} (hm : P.follows .mixedOrders = true) (hB : Region.lexB .any l.toArray = true)
    (h : wpQuiet P l.toArray (fun w' => w0.grownBy w' none) (fun a => ∀ w, w0.grownBy w none → Q .normal a w) l a0) : (Code.region id l.toArray true).wp P Q a0 w0 :=
  wp_region_quiet (C := fun w' => w0.grownBy w' none) hm hB ⟨rfl, rfl, rfl, Nat.le_refl _, fun _ _ _ => rfl⟩ (by simpa using h)
end
end Go.Rh
