/-
  One operation of a region at a time: what it needs and what it gives.
-/
import Derived.Test.YtikmghmapmlebaaI
import Derived.Test.YtikmghmapmlebaaM
namespace Go.Proofs.Ytikmghmapmlebaa
open Go.RowKit Go.Rh F255

section
variable {P : Program} {Q : Exit → Act → World → Prop} {ops : List Oper} {o : Oper} {a : Act} {w : World} {K : Act → World → Prop}

theorem wanted_free (hg : o.guard = none) : Region.wanted o (yielded ops.toArray a.tmps) = true := by simp [Region.wanted, hg]
theorem wanted_on {j d : Nat} {b : Bool} {oj : Oper} (hg : o.guard = some (j, b)) (ho : ops[j]? = some oj) (hd : oj.dst = some d) (e : a.tmps[d]? = some (.bool b)) : Region.wanted o (yielded ops.toArray a.tmps) = true := by
  simp [Region.wanted, hg, yielded, ho, hd, e]

theorem eval_tmp {t : Nat} {v : Value} (e : a.tmps[t]? = some v) : a.eval (.tmp t) = v := by simp [Act.eval, e]

theorem at_value {v : Value} {w' : World} (hw : Region.wanted o (yielded ops.toArray a.tmps) = true) (hrun : (execOp a.eval o).run P w = .ok (.value v) w') (h : K (a.put o.dst v) w') :
    (if Region.wanted o (yielded ops.toArray a.tmps) then o.wp P a w K Q ∨ (o.asks P a w ∧ LetsOut Q) else K (a.put o.dst undef) w) := by
  rw [if_pos hw]; left; unfold Oper.wp; rw [hrun]; exact h

theorem at_row {t b : Nat} {ty : TypeId} {cs : Array Value} {fr : Nat × Nat} {d : TypeDesc} (hw : Region.wanted o (yielded ops.toArray a.tmps) = true) (ho : o.op = .load ty (.tmp t)) (e : a.tmps[t]? = some (.pointer (some ⟨b, 0, none⟩)))
    (hb : w.heap[b]? = some (.cells cs ty fr)) (hu : P.underlying ty = some d) (hd : (match d with | .struct _ | .array _ _ => true | _ => false) = true) (hi : (P.info? ty).map (·.size) = some cs.size)
    (h : K (a.put o.dst (.agg cs)) w) : (if Region.wanted o (yielded ops.toArray a.tmps) then o.wp P a w K Q ∨ (o.asks P a w ∧ LetsOut Q) else K (a.put o.dst undef) w) := by
  rw [if_pos hw]; left
  exact wp_load_row ty _ ho b (eval_tmp e) ty cs fr d hb hu hd hi h

theorem at_call {f : Nat} {fn : Func} {c : Code} {args : Array Operand} {tys : Array TypeId} {vs : Array Value} (hw : Region.wanted o (yielded ops.toArray a.tmps) = true) (ho : o.op = .call ⟨.value (.func f), args, tys⟩)
    (hv : args.map a.eval = vs) (hf : P.funcs[f]? = some fn) (hn : (fn.name == "runtime.NumGoroutine") = false) (hb : fn.body = some c)
    (h : Calls P f vs w fun e w' => ∃ v, e = .returned v ∧ K (a.put o.dst v) w') :
    (if Region.wanted o (yielded ops.toArray a.tmps) then o.wp P a w K Q ∨ (o.asks P a w ∧ LetsOut Q) else K (a.put o.dst undef) w) := by
  rw [if_pos hw]; left
  have hrun : (execOp a.eval o).run P w = .ok (.enter f vs) w := by
    unfold execOp
    simp only [ho, resolve, hv, Deferred.ofValue, Act.eval, invoke, callFunc, Sem.run_bind, Sem.run_pure, Result.andThen_ok]
    have hn' : ¬ fn.name = "runtime.NumGoroutine" := by simpa using hn
    simp [hf, hn', hb]
  unfold Oper.wp
  rw [hrun, Oper.upon_enter]
  refine h.mono ?_
  rintro e w' ⟨v, rfl, hk⟩
  exact hk

theorem run_move {x : Operand} (ho : o.op = .move x ∨ o.op = .assign x) {v : Value} (e : a.eval x = v) : (execOp a.eval o).run P w = .ok (.value v) w := by
  unfold execOp
  rcases ho with ho | ho <;> simp [ho, e]
theorem run_pick {c x y : Operand} (ho : o.op = .pick c x y) {b : Bool} {v : Value} (e : a.eval c = .bool b) (ev : (if b then a.eval x else a.eval y) = v) : (execOp a.eval o).run P w = .ok (.value v) w := by
  unfold execOp
  subst ev
  cases b <;> simp [ho, e, asBool]
theorem run_eqs {x y : Operand} {r : TypeId} {s t : ByteArray} (ho : o.op = .binOp .eql 9 x y r) (ex : a.eval x = .string s) (ey : a.eval y = .string t) :
    (execOp a.eval o).run Try.prog w = .ok (.value (.bool (s.toList == t.toList))) w := by
  unfold execOp
  simp only [ho, ex, ey]
  go_simp
theorem run_alloc {ty : TypeId} {k : Obj} (ho : o.op = .alloc ty) (hr : ∀ w : World, (Instr.alloc ty true (.tuple #[])).run P w = .ok (.pointer (some ⟨w.heap.size, 0, none⟩)) (w.alloc k)) :
    (execOp a.eval o).run P w = .ok (.value (.pointer (some ⟨w.heap.size, 0, none⟩))) (w.alloc k) := by
  unfold execOp
  simp [ho, hr]
theorem run_op_slice {ty : TypeId} {x : Operand} {v v' : Value} (ho : o.op = .slice ty x none none none) (e : a.eval x = v) (hr : (Instr.sliceAt ty v none none none).run P w = .ok v' w) : (execOp a.eval o).run P w = .ok (.value v') w := by
  unfold execOp
  simp [ho, e, hr]
theorem run_op_convert {s d : TypeId} {x : Operand} {v v' : Value} (ho : o.op = .convert s d x) (e : a.eval x = v) (hr : (convert s d v).run P w = .ok v' w) : (execOp a.eval o).run P w = .ok (.value v') w := by
  unfold execOp
  simp [ho, e, hr]
end
theorem alloc26 (w : World) : (Instr.alloc 26 true (.tuple #[])).run Try.prog w = .ok (.pointer (some ⟨w.heap.size, 0, none⟩)) (w.alloc (.cells Z5 26)) := by
  go_simp
  rfl
theorem slice22 (w : World) (b : Nat) (g : Nat → Nat) (_h : w.heap[b]? = some (.cells (U8 g) 22)) : (Instr.sliceAt 22 (.pointer (some ⟨b, 0, none⟩)) none none none).run Try.prog w = .ok (.slice (some ⟨b, 0, none⟩) 32 32) w := by
  go_simp
end Go.Proofs.Ytikmghmapmlebaa
