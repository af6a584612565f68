/-
  The same for several operations whose values may differ from world to world.
-/
import Derived.Test.YtikmghmapmlebaaWl
namespace Go.Rh
open Go.RowKit
section
variable {P : Program} {Q : Exit → Act → World → Prop}

/-- Operation i looks only at slots that the region does not write, or at results that it waits for, none of them number s's. -/
def lookY (l : List Oper) (s : Nat → Bool) (i : Nat) : Bool := match l[i]? with
  | some o => (match o.op with | .select _ _ => false | _ => true) &&
      (match o.guard with | none => true | some (g, _) => decide (g < i) && !s g && waits o g && (match l[g]? with | some og => og.dst.isSome | none => false)) &&
      o.op.operands.all fun x => match x with
        | .tmp t => spares l t || (List.range i).any fun j => !s j && waits o j && (match l[j]? with | some oj => oj.dst == some t | none => false)
        | _ => true
  | none => false
structure LookAtY (l : List Oper) (s : Nat → Bool) (i : Nat) (o : Oper) : Prop where
  sel : ∀ cs b, o.op ≠ .select cs b
  guard : ∀ g b, o.guard = some (g, b) → g < i ∧ s g = false ∧ waits o g = true ∧ ∃ og d, l[g]? = some og ∧ og.dst = some d
  look : ∀ t, Operand.tmp t ∈ o.op.operands → spares l t = true ∨ ∃ j oj, j < i ∧ s j = false ∧ waits o j = true ∧ l[j]? = some oj ∧ oj.dst = some t
theorem look_atY {l : List Oper} {s : Nat → Bool} {i : Nat} {o : Oper} (h : lookY l s i = true) (ho : l[i]? = some o) : LookAtY l s i o := by
  unfold lookY at h
  rw [ho] at h
  simp only [Bool.and_eq_true] at h
  obtain ⟨⟨hs, hg⟩, hl⟩ := h
  refine ⟨(fun cs b e => by rw [e] at hs; cases hs), fun g b e => ?_, fun t ht => ?_⟩
  · rw [e] at hg
    simp only [Bool.and_eq_true, decide_eq_true_eq, Bool.not_eq_true'] at hg
    obtain ⟨⟨⟨h1, h2⟩, h3⟩, h4⟩ := hg
    refine ⟨h1, h2, h3, ?_⟩
    cases hog : l[g]? with
    | none => rw [hog] at h4; cases h4
    | some og =>
      rw [hog] at h4
      cases hd : og.dst with
      | none => simp [hd] at h4
      | some d => exact ⟨og, d, rfl, hd⟩
  · have := Array.all_eq_true_iff_forall_mem.1 hl (.tmp t) ht
    simp only [Bool.or_eq_true, List.any_eq_true, Bool.and_eq_true, Bool.not_eq_true'] at this
    rcases this with h | ⟨j, hj, ⟨hjs, hw⟩, hd⟩
    · exact .inl h
    · right
      cases hoj : l[j]? with
      | none => rw [hoj] at hd; cases hd
      | some oj =>
        rw [hoj] at hd
        exact ⟨j, oj, List.mem_range.1 hj, hjs, hw, hoj, by simpa using hd⟩

/-- What is known of a result. -/
def DY (V : Nat → Value) (s : Nat → Bool) (Dx : Nat → Value → World → Prop) (i : Nat) (v : Value) (w : World) : Prop := if s i = true then Dx i v w else v = V i

theorem step_givenY {l : List Oper} {N : Nat} {w0 : World} {a0 : Act} {V : Nat → Value} {s : Nat → Bool} {Dx : Nat → Value → World → Prop} (H : HeadT l l.length N) (hN : a0.tmps.size = N) {i : Nat} {o : Oper} (ho : l[i]? = some o) (his : s i = false) (hlook : lookY l s i = true)
    (hwt : Region.wanted o (yielded l.toArray (seqA l a0 V i).tmps) = true)
    (hq : ∀ u, w0.grownBy u none → ∀ w, u.grownBy w none → o.quietAt P (seqA l a0 V i) (fun w' => u.grownBy w' none) w (V i)) :
    StepOK P Q l w0 a0 (fun _ => false) (DY V s Dx) i o := by
  intro a w hg hsp hdeps K hK
  have L := look_atY hlook ho
  have hin : i < l.length := (List.getElem?_eq_some_iff.1 ho).1
  have hdep : ∀ j oj d, s j = false → waits o j = true → l[j]? = some oj → oj.dst = some d → a.tmps[d]? = some (V j) := fun j oj d hj hw hoj hd => by
    obtain ⟨v, h1, h2⟩ := hdeps j oj d hw hoj hd
    unfold DY at h2
    rw [hj, if_neg (by simp)] at h2
    rw [h1, h2]
  have hseq : ∀ j oj d, j < i → l[j]? = some oj → oj.dst = some d → (seqA l a0 V i).tmps[d]? = some (V j) := fun j oj d hj hoj hd =>
    seqA_at l V H hN (by omega) hoj hd i hj (by omega)
  have e : execOp a.eval o = execOp (seqA l a0 V i).eval o := by
    refine execOp_congr o L.sel fun x hx => ?_
    cases x with
    | tmp t =>
      have ht : a.tmps[t]? = (seqA l a0 V i).tmps[t]? := by
        rcases L.look t hx with hs | ⟨j, oj, hji, hjs, hw, hoj, hd⟩
        · rw [hsp t hs, seqA_spare l a0 V (n := l.length) (by rw [List.take_length]; exact hs) i (by omega)]
        · rw [hdep j oj t hjs hw hoj hd, hseq j oj t hji hoj hd]
      simp [Act.eval, ht]
    | const v => rfl
    | global g => rfl
    | func f => rfl
  have hwant : Region.wanted o (yielded l.toArray a.tmps) = true := by
    rw [← hwt]
    unfold Region.wanted
    cases hgd : o.guard with
    | none => rfl
    | some gb =>
      obtain ⟨g, b⟩ := gb
      obtain ⟨h1, h2, h3, og, d, h4, h5⟩ := L.guard g b hgd
      have e1 : (l.toArray[g]?).bind (·.dst) = some d := by simp [h4, h5]
      simp only [yielded, e1, Option.bind_some, hdep g og d h2 h3 h4 h5, hseq g og d h1 h4 h5]
  rw [if_pos hwant]
  left
  refine Oper.wp_of_quiet (C := fun w' => w.grownBy w' none) (K := fun a' => a' = a.put o.dst (V i)) ⟨rfl, rfl, rfl, Nat.le_refl _, fun _ _ _ => rfl⟩ (fun a' w' hw' he => by
    rw [he]
    exact hK _ _ hw' (by unfold DY; rw [his, if_neg (by simp)]) (fun h => by cases h)) ⟨V i, fun w' hw' => ?_, rfl⟩
  have := hq w hg w' hw'
  unfold Oper.quietAt at *
  rw [e]
  exact this

theorem region_varyY {id : Nat} {w0 : World} {a0 : Act} {l : List Oper} (N : Nat) (s sp : Nat → Bool) (V : Nat → Value) (Dx : Nat → Value → World → Prop) (hm : P.follows .mixedOrders = true) (hN : a0.tmps.size = N) (hok : headOK l l.length N = true) (hot : headTail l l.length N = true)
    (hss : ∀ i, s i = true → sp i = true) (hlook : ((List.range l.length).all fun i => sp i || lookY l s i) = true) (hDx : ∀ i v w w', w.grownBy w' none → Dx i v w → Dx i v w')
    (hwalk : walkV P l.toArray { w0 with drawn := w0.drawn + 1 } V sp 0 l a0)
    (hsp : ∀ i o, l[i]? = some o → sp i = true → StepOK P Q l { w0 with drawn := w0.drawn + 1 } a0 (fun _ => false) (DY V s Dx) i o)
    (hfin : ∀ (vs : Nat → Value) w, World.grownBy { w0 with drawn := w0.drawn + 1 } w none → (∀ i, i < l.length → s i = true → Dx i (vs i) w) → Q .normal (seqA l a0 (fun i => if s i = true then vs i else V i) l.length) w) :
    (Code.region id l.toArray true).wp P Q a0 w0 := by
  have HT := headT_of hot
  refine region_inv l l.length N hm hN hok (fun _ => false) (DY V s Dx) (fun i v w w' hg h => by
      unfold DY at *
      split
      · rename_i e; rw [if_pos e] at h; exact hDx i v w w' hg h
      · rename_i e; rw [if_neg e] at h; exact h) (fun i b w h => by cases h) ?_ ?_
  · rw [List.take_length]
    have all : ∀ (r : List Oper) (i : Nat), l.drop i = r → AllOK P Q l { w0 with drawn := w0.drawn + 1 } a0 (fun _ => false) (DY V s Dx) r i := by
      intro r
      induction r with
      | nil => intro i _; trivial
      | cons o r ih =>
        intro i hr
        have hil : i < l.length := by
          rcases Nat.lt_or_ge i l.length with h | h
          · exact h
          · rw [List.drop_of_length_le h] at hr; cases hr
        rw [List.drop_eq_getElem_cons hil] at hr
        injection hr with h1 h2
        have hoi : l[i]? = some o := by rw [List.getElem?_eq_getElem hil, h1]
        refine ⟨?_, ih (i + 1) h2⟩
        cases hspi : sp i with
        | true => exact hsp i o hoi hspi
        | false =>
          have hl := List.all_eq_true.1 hlook i (List.mem_range.2 hil)
          rw [hspi, Bool.false_or] at hl
          obtain ⟨h3, h4⟩ := walkV_at (a0 := a0) l 0 (List.drop_zero ..) hwalk i o (Nat.zero_le _) hoi hspi
          exact step_givenY HT hN hoi (by cases hsi : s i with | false => rfl | true => rw [hss i hsi] at hspi; cases hspi) hl h3 h4
    exact all l 0 (List.drop_zero ..)
  · intro listed a w hall R
    rw [List.drop_length]
    have hsz : ∀ d, d < N → ∃ x, a.tmps[d]? = some x := fun d hd => ⟨_, Array.getElem?_eq_getElem (by rw [R.size, hN]; exact hd)⟩
    obtain ⟨vs, hvs⟩ : ∃ vs : Nat → Value, vs = fun i => (((l[i]?).bind (·.dst)).bind (a.tmps[·]?)).getD undef := ⟨_, rfl⟩
    have hval : ∀ i o d, i < l.length → l[i]? = some o → o.dst = some d → a.tmps[d]? = some (vs i) ∧ DY V s Dx i (vs i) w := fun i o d hi hoi hd => by
      obtain ⟨d', hd', hdN⟩ := HT.dst_head i o hi hoi
      obtain rfl : d' = d := by rw [hd] at hd'; exact (Option.some.inj hd').symm
      obtain ⟨x, hx⟩ := hsz d' hdN
      have h1 := R.done i o d' hoi hd (hall i hi)
      have h2 : vs i = x := by rw [hvs]; simp [hoi, hd, hx]
      rw [hx, h2]
      rw [hx] at h1
      exact ⟨rfl, h1⟩
    have RC : RegsC l l.length a0 (fun i => if s i = true then vs i else V i) listed a := by
      refine ⟨R.defers, R.size, fun i o d hi hoi hd hl => ?_, fun k hk => R.rest k (by rwa [List.take_length] at hk)⟩
      obtain ⟨h1, h2⟩ := hval i o d hi hoi hd
      rw [h1]
      show some (vs i) = some (if s i = true then vs i else V i)
      unfold DY at h2
      split
      · rfl
      · rename_i e; rw [if_neg e] at h2; rw [h2]
    have := RC.end_ HT hN hall
    rw [this]
    refine hfin vs w R.x fun i hi hsi => ?_
    obtain ⟨d, hd, _⟩ := HT.dst_head i _ hi (List.getElem?_eq_getElem hi)
    have h2 := (hval i _ d hi (List.getElem?_eq_getElem hi) hd).2
    unfold DY at h2
    rwa [if_pos hsi] at h2
end
end Go.Rh
