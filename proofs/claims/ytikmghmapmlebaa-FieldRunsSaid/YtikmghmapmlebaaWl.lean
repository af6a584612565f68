/-
  A region that draws its order: one operation's value may differ from world to world (it makes new memory, and hands it back), all others' values are given; the guards all say yes.
-/
import Derived.Test.YtikmghmapmlebaaWk
namespace Go.Rh
open Go.RowKit
section
variable {P : Program} {Q : Exit → Act → World → Prop}

/-- Operation i looks only at slots that the region does not write, or at results that it waits for, none of them number s's. -/
def lookX (l : List Oper) (s i : Nat) : Bool := match l[i]? with
  | some o => (match o.op with | .select _ _ => false | _ => true) &&
      (match o.guard with | none => true | some (g, _) => decide (g < i) && g != s && waits o g && (match l[g]? with | some og => og.dst.isSome | none => false)) &&
      o.op.operands.all fun x => match x with
        | .tmp t => spares l t || (List.range i).any fun j => j != s && waits o j && (match l[j]? with | some oj => oj.dst == some t | none => false)
        | _ => true
  | none => false
structure LookAt (l : List Oper) (s i : Nat) (o : Oper) : Prop where
  sel : ∀ cs b, o.op ≠ .select cs b
  guard : ∀ g b, o.guard = some (g, b) → g < i ∧ g ≠ s ∧ waits o g = true ∧ ∃ og d, l[g]? = some og ∧ og.dst = some d
  look : ∀ t, Operand.tmp t ∈ o.op.operands → spares l t = true ∨ ∃ j oj, j < i ∧ j ≠ s ∧ waits o j = true ∧ l[j]? = some oj ∧ oj.dst = some t
theorem look_at {l : List Oper} {s i : Nat} {o : Oper} (h : lookX l s i = true) (ho : l[i]? = some o) : LookAt l s i o := by
  unfold lookX at h
  rw [ho] at h
  simp only [Bool.and_eq_true] at h
  obtain ⟨⟨hs, hg⟩, hl⟩ := h
  refine ⟨(fun cs b e => by rw [e] at hs; cases hs), fun g b e => ?_, fun t ht => ?_⟩
  · rw [e] at hg
    simp only [Bool.and_eq_true, decide_eq_true_eq, bne_iff_ne, ne_eq] at hg
    obtain ⟨⟨⟨h1, h2⟩, h3⟩, h4⟩ := hg
    refine ⟨h1, h2, h3, ?_⟩
    cases hog : l[g]? with
    | none => rw [hog] at h4; cases h4
    | some og =>
      rw [hog] at h4
      cases hd : og.dst with
      | none => simp [hd] at h4
      | some d => exact ⟨og, d, rfl, hd⟩
  · have := Array.all_eq_true_iff_forall_mem.1 hl (.tmp t) ht
    simp only [Bool.or_eq_true, List.any_eq_true, Bool.and_eq_true, bne_iff_ne, ne_eq] at this
    rcases this with h | ⟨j, hj, ⟨hjs, hw⟩, hd⟩
    · exact .inl h
    · right
      cases hoj : l[j]? with
      | none => rw [hoj] at hd; cases hd
      | some oj =>
        rw [hoj] at hd
        exact ⟨j, oj, List.mem_range.1 hj, hjs, hw, hoj, by simpa using hd⟩

/-- What is known of a result. -/
def DX (V : Nat → Value) (s : Nat) (Dx : Value → World → Prop) (i : Nat) (v : Value) (w : World) : Prop := if i = s then Dx v w else v = V i

theorem step_given {l : List Oper} {N : Nat} {w0 : World} {a0 : Act} {V : Nat → Value} {s : Nat} {Dx : Value → World → Prop} (H : HeadT l l.length N) (hN : a0.tmps.size = N) {i : Nat} {o : Oper} (ho : l[i]? = some o) (his : i ≠ s) (hlook : lookX l s i = true)
    (hwt : Region.wanted o (yielded l.toArray (seqA l a0 V i).tmps) = true)
    (hq : ∀ u, w0.grownBy u none → ∀ w, u.grownBy w none → o.quietAt P (seqA l a0 V i) (fun w' => u.grownBy w' none) w (V i)) :
    StepOK P Q l w0 a0 (fun _ => false) (DX V s Dx) i o := by
  intro a w hg hsp hdeps K hK
  have L := look_at hlook ho
  have hin : i < l.length := (List.getElem?_eq_some_iff.1 ho).1
  have hdep : ∀ j oj d, j ≠ s → waits o j = true → l[j]? = some oj → oj.dst = some d → a.tmps[d]? = some (V j) := fun j oj d hj hw hoj hd => by
    obtain ⟨v, h1, h2⟩ := hdeps j oj d hw hoj hd
    unfold DX at h2
    rw [if_neg hj] at h2
    rw [h1, h2]
  have hseq : ∀ j oj d, j < i → l[j]? = some oj → oj.dst = some d → (seqA l a0 V i).tmps[d]? = some (V j) := fun j oj d hj hoj hd =>
    seqA_at l V H hN (by omega) hoj hd i hj (by omega)
  have e : execOp a.eval o = execOp (seqA l a0 V i).eval o := by
    refine execOp_congr o L.sel fun x hx => ?_
    cases x with
    | tmp t =>
      have ht : a.tmps[t]? = (seqA l a0 V i).tmps[t]? := by
        rcases L.look t hx with hs | ⟨j, oj, hji, hjs, hw, hoj, hd⟩
        · rw [hsp t hs, seqA_spare l a0 V (n := l.length) (by rw [List.take_length]; exact hs) i (by omega)]
        · rw [hdep j oj t hjs hw hoj hd, hseq j oj t hji hoj hd]
      simp [Act.eval, ht]
    | const v => rfl
    | global g => rfl
    | func f => rfl
  have hwant : Region.wanted o (yielded l.toArray a.tmps) = true := by
    rw [← hwt]
    unfold Region.wanted
    cases hgd : o.guard with
    | none => rfl
    | some gb =>
      obtain ⟨g, b⟩ := gb
      obtain ⟨h1, h2, h3, og, d, h4, h5⟩ := L.guard g b hgd
      have e1 : (l.toArray[g]?).bind (·.dst) = some d := by simp [h4, h5]
      simp only [yielded, e1, Option.bind_some, hdep g og d h2 h3 h4 h5, hseq g og d h1 h4 h5]
  rw [if_pos hwant]
  left
  refine Oper.wp_of_quiet (C := fun w' => w.grownBy w' none) (K := fun a' => a' = a.put o.dst (V i)) ⟨rfl, rfl, rfl, Nat.le_refl _, fun _ _ _ => rfl⟩ (fun a' w' hw' he => by
    rw [he]
    exact hK _ _ hw' (by unfold DX; rw [if_neg his]) (fun h => by cases h)) ⟨V i, fun w' hw' => ?_, rfl⟩
  have := hq w hg w' hw'
  unfold Oper.quietAt at *
  rw [e]
  exact this

/-- The walk in the text's order, the values given; the special ones (`sp`) are passed over. -/
def walkV (P : Program) (ops : Array Oper) (w0 : World) (V : Nat → Value) (sp : Nat → Bool) : Nat → List Oper → Act → Prop
  | _, [], _ => True
  | i, o :: r, a => (sp i = true ∨ (Region.wanted o (yielded ops a.tmps) = true ∧ ∀ u, w0.grownBy u none → ∀ w, u.grownBy w none → o.quietAt P a (fun w' => u.grownBy w' none) w (V i))) ∧ walkV P ops w0 V sp (i + 1) r (a.put o.dst (V i))
theorem walkV_at {l : List Oper} {w0 : World} {a0 : Act} {V : Nat → Value} {sp : Nat → Bool} : ∀ (r : List Oper) (i : Nat), l.drop i = r → walkV P l.toArray w0 V sp i r (seqA l a0 V i) → ∀ j o, i ≤ j → l[j]? = some o → sp j = false →
    Region.wanted o (yielded l.toArray (seqA l a0 V j).tmps) = true ∧ ∀ u, w0.grownBy u none → ∀ w, u.grownBy w none → o.quietAt P (seqA l a0 V j) (fun w' => u.grownBy w' none) w (V j)
  | [], i, hr, _, j, o, hj, ho, _ => by
    have h1 : l.length ≤ i := by simpa using hr
    have h2 := (List.getElem?_eq_some_iff.1 ho).1
    omega
  | o' :: r, i, hr, h, j, o, hj, ho, hs => by
    have hil : i < l.length := by
      rcases Nat.lt_or_ge i l.length with h | h
      · exact h
      · rw [List.drop_of_length_le h] at hr; cases hr
    rw [List.drop_eq_getElem_cons hil] at hr
    injection hr with h1 h2
    have hoi : l[i]? = some o' := by rw [List.getElem?_eq_getElem hil, h1]
    obtain ⟨h3, h4⟩ := h
    by_cases e : j = i
    · subst e
      obtain rfl : o' = o := Option.some.inj (hoi.symm.trans ho)
      rcases h3 with h3 | h3
      · rw [hs] at h3; cases h3
      · exact h3
    · have hn : seqA l a0 V (i + 1) = (seqA l a0 V i).put o'.dst (V i) := by
        show (seqA l a0 V i).put ((l[i]?).bind (·.dst)) (V i) = _
        rw [hoi]; rfl
      rw [← hn] at h4
      exact walkV_at r (i + 1) h2 h4 j o (by omega) ho hs

theorem region_vary {id : Nat} {w0 : World} {a0 : Act} {l : List Oper} (N s : Nat) (sp : Nat → Bool) (V : Nat → Value) (Dx : Value → World → Prop) (hm : P.follows .mixedOrders = true) (hN : a0.tmps.size = N) (hok : headOK l l.length N = true) (hot : headTail l l.length N = true)
    (hss : sp s = true) (hlook : ((List.range l.length).all fun i => sp i || lookX l s i) = true) (hDx : ∀ v w w', w.grownBy w' none → Dx v w → Dx v w')
    (hwalk : walkV P l.toArray { w0 with drawn := w0.drawn + 1 } V sp 0 l a0)
    (hsp : ∀ i o, l[i]? = some o → sp i = true → StepOK P Q l { w0 with drawn := w0.drawn + 1 } a0 (fun _ => false) (DX V s Dx) i o) (hs : s < l.length)
    (hfin : ∀ v w, World.grownBy { w0 with drawn := w0.drawn + 1 } w none → Dx v w → Q .normal (seqA l a0 (fun i => if i = s then v else V i) l.length) w) :
    (Code.region id l.toArray true).wp P Q a0 w0 := by
  have HT := headT_of hot
  refine region_inv l l.length N hm hN hok (fun _ => false) (DX V s Dx) (fun i v w w' hg h => by
      unfold DX at *
      split
      · rename_i e; rw [if_pos e] at h; exact hDx v w w' hg h
      · rename_i e; rw [if_neg e] at h; exact h) (fun i b w h => by cases h) ?_ ?_
  · rw [List.take_length]
    have all : ∀ (r : List Oper) (i : Nat), l.drop i = r → AllOK P Q l { w0 with drawn := w0.drawn + 1 } a0 (fun _ => false) (DX V s Dx) r i := by
      intro r
      induction r with
      | nil => intro i _; trivial
      | cons o r ih =>
        intro i hr
        have hil : i < l.length := by
          rcases Nat.lt_or_ge i l.length with h | h
          · exact h
          · rw [List.drop_of_length_le h] at hr; cases hr
        rw [List.drop_eq_getElem_cons hil] at hr
        injection hr with h1 h2
        have hoi : l[i]? = some o := by rw [List.getElem?_eq_getElem hil, h1]
        refine ⟨?_, ih (i + 1) h2⟩
        cases hspi : sp i with
        | true => exact hsp i o hoi hspi
        | false =>
          have hl := List.all_eq_true.1 hlook i (List.mem_range.2 hil)
          rw [hspi, Bool.false_or] at hl
          obtain ⟨h3, h4⟩ := walkV_at (a0 := a0) l 0 (List.drop_zero ..) hwalk i o (Nat.zero_le _) hoi hspi
          exact step_given HT hN hoi (fun e => by rw [e, hss] at hspi; cases hspi) hl h3 h4
    exact all l 0 (List.drop_zero ..)
  · intro listed a w hall R
    rw [List.drop_length]
    have hsz : ∀ d, d < N → ∃ x, a.tmps[d]? = some x := fun d hd => ⟨_, Array.getElem?_eq_getElem (by rw [R.size, hN]; exact hd)⟩
    obtain ⟨ds, hds, hdsN⟩ := HT.dst_head s _ hs (List.getElem?_eq_getElem hs)
    obtain ⟨v, hv⟩ := hsz ds hdsN
    have hvD : Dx v w := by
      have := R.done s _ ds (List.getElem?_eq_getElem hs) hds (hall s hs)
      rw [hv] at this
      simpa [DX] using this
    have RC : RegsC l l.length a0 (fun i => if i = s then v else V i) listed a := by
      refine ⟨R.defers, R.size, fun i o d hi hoi hd hl => ?_, fun k hk => R.rest k (by rwa [List.take_length] at hk)⟩
      obtain ⟨d', hd', hdN⟩ := HT.dst_head i o hi hoi
      obtain rfl : d' = d := by rw [hd] at hd'; exact (Option.some.inj hd').symm
      obtain ⟨x, hx⟩ := hsz d' hdN
      have := R.done i o d' hoi hd hl
      rw [hx] at this ⊢
      simp only [Option.getD_some, DX] at this
      by_cases e : i = s
      · subst e
        have ho2 : l[i]? = some l[i] := List.getElem?_eq_getElem hs
        have e3 : some d' = some ds := by
          rw [hoi] at ho2
          injection ho2 with ho2
          rw [← hd, ← hds, ho2]
        injection e3 with e3
        subst e3
        rw [hv] at hx
        rw [if_pos rfl]
        exact hx.symm
      · rw [if_neg e] at this ⊢
        rw [this]
    have := RC.end_ HT hN hall
    rw [this]
    exact hfin v w R.x hvD
variable {C : World → Prop} {a : Act} {o : Oper} {w : World}
theorem qv_run {v : Value} (hr : (execOp a.eval o).run P w = .ok (.value v) w) : o.quietAt P a C w v := by
  unfold Oper.quietAt; rw [hr]; exact ⟨rfl, rfl⟩
theorem qv_convert {u v : Value} (s d : TypeId) (x : Operand) (ho : o.op = .convert s d x) (hx : a.eval x = u) (hr : (convert s d u).run P w = .ok v w) : o.quietAt P a C w v :=
  qv_run (by unfold execOp; simp only [ho, hx, Sem.run_bind, Sem.run_pure, hr, Result.andThen_ok])
theorem enter_run {f : Nat} {fn : Func} {c : Code} {args : Array Operand} {tys : Array TypeId} {vs : Array Value} (ho : o.op = .call ⟨.value (.func f), args, tys⟩) (hv : args.map a.eval = vs) (hf : P.funcs[f]? = some fn) (hn : (fn.name == "runtime.NumGoroutine") = false) (hb : fn.body = some c) :
    (execOp a.eval o).run P w = .ok (.enter f vs) w := by
  unfold execOp
  simp only [ho, resolve, hv, Deferred.ofValue, Act.eval, invoke, callFunc, Sem.run_bind, Sem.run_pure, Result.andThen_ok]
  have hn' : ¬ fn.name = "runtime.NumGoroutine" := by simpa using hn
  simp [hf, hn', hb]
theorem qv_call {f : Nat} {fn : Func} {c : Code} {args : Array Operand} {tys : Array TypeId} {vs : Array Value} {v : Value} (ho : o.op = .call ⟨.value (.func f), args, tys⟩) (hv : args.map a.eval = vs) (hf : P.funcs[f]? = some fn) (hn : (fn.name == "runtime.NumGoroutine") = false) (hb : fn.body = some c)
    (hr : Calls P f vs w fun e w' => e = .returned v ∧ C w') : o.quietAt P a C w v := by
  unfold Oper.quietAt; rw [enter_run ho hv hf hn hb]; exact ⟨rfl, hr⟩
end
end Go.Rh
