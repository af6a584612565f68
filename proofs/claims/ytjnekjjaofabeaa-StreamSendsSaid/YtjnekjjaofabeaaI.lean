/-
  A region that draws its order, whatever it holds (calls, new memory, loads), taken operation by operation, by what each one's result is known to be: one goal for each operation, whatever the number of orders. Stores stand in a tail whose order is forced.
-/
import Derived.Test.YtjnekjjaofabeaaH
import Derived.StillTail
namespace Go.Rh
open Go.RowKit

section
variable {P : Program} {Q : Exit → Act → World → Prop}

theorem put_size (a : Act) (d : Option Nat) (v : Value) : (a.put d v).tmps.size = a.tmps.size := by
  cases d <;> simp [Act.put]
theorem put_defers (a : Act) (d : Option Nat) (v : Value) : (a.put d v).defers = a.defers := by
  cases d <;> simp [Act.put]
theorem put_other (a : Act) (d : Option Nat) (v : Value) (k : Nat) (h : d ≠ some k) : (a.put d v).tmps[k]? = a.tmps[k]? := by
  cases d with
  | none => rfl
  | some d => simp only [Act.put]; rw [Array.getElem?_setIfInBounds_ne (fun e => h (by rw [e]))]
theorem put_same (a : Act) (d : Nat) (v : Value) (h : d < a.tmps.size) : (a.put (some d) v).tmps[d]? = some v := by
  simp [Act.put, h]

/-- What is known while the region runs: the results of the operations that are through. -/
structure Regs (l : List Oper) (w0 : World) (a0 : Act) (al : Nat → Bool) (D : Nat → Value → World → Prop) (listed : Array Bool) (a : Act) (w : World) : Prop where
  x : w0.grownBy w none
  defers : a.defers = a0.defers
  size : a.tmps.size = a0.tmps.size
  done : ∀ i o d, l[i]? = some o → o.dst = some d → listed.getD i false = true → D i (a.tmps[d]?.getD undef) w
  rest : ∀ k, (∀ o ∈ l, o.dst ≠ some k) → a.tmps[k]? = a0.tmps[k]?
  yet : ∀ i o d, l[i]? = some o → o.dst = some d → listed.getD i false = false → a.tmps[d]? = a0.tmps[d]?
  apart : ∀ i j oi oj di dj bi bj, i ≠ j → al i = true → al j = true → l[i]? = some oi → l[j]? = some oj → oi.dst = some di → oj.dst = some dj →
    listed.getD i false = true → listed.getD j false = true → a.tmps[di]?.getD undef = .pointer (some ⟨bi, 0, none⟩) → a.tmps[dj]?.getD undef = .pointer (some ⟨bj, 0, none⟩) → bi ≠ bj

/-- Does operation `o` wait for number `j`? -/
def waits (o : Oper) (j : Nat) : Bool := o.after.any fun e => e.on == j && Region.binds .any e

theorem waits_mem {o : Oper} {j : Nat} (h : waits o j = true) : ∃ e ∈ o.after, Region.binds .any e = true ∧ e.on = j := by
  unfold waits at h
  rw [Array.any_eq_true'] at h
  obtain ⟨e, he, h⟩ := h
  simp only [Bool.and_eq_true, beq_iff_eq] at h
  exact ⟨e, he, h.2, h.1⟩

/-- No operation of the list writes slot `k`. -/
def spares (l : List Oper) (k : Nat) : Bool := l.all fun o => o.dst != some k

theorem spares_ne {l : List Oper} {k : Nat} (h : spares l k = true) : ∀ o ∈ l, o.dst ≠ some k := by
  intro o ho
  have := List.all_eq_true.1 h o ho
  simpa using this

/-- One operation's goal. -/
def StepOK (P : Program) (Q : Exit → Act → World → Prop) (ops : List Oper) (w0 : World) (a0 : Act) (al : Nat → Bool) (D : Nat → Value → World → Prop) (i : Nat) (o : Oper) : Prop :=
  ∀ (a : Act) (w : World), w0.grownBy w none → (∀ k, spares ops k = true → a.tmps[k]? = a0.tmps[k]?) →
    (∀ j oj d, waits o j = true → ops[j]? = some oj → oj.dst = some d → ∃ v, a.tmps[d]? = some v ∧ D j v w) →
    ∀ K : Act → World → Prop, (∀ v w', w.grownBy w' none → D i v w' → (al i = true → ∀ b, v = .pointer (some ⟨b, 0, none⟩) → w.heap.size ≤ b) → K (a.put o.dst v) w') →
      (if Region.wanted o (yielded ops.toArray a.tmps) then o.wp P a w K Q ∨ (o.asks P a w ∧ LetsOut Q) else K (a.put o.dst undef) w)

def AllOK (P : Program) (Q : Exit → Act → World → Prop) (ops : List Oper) (w0 : World) (a0 : Act) (al : Nat → Bool) (D : Nat → Value → World → Prop) : List Oper → Nat → Prop
  | [], _ => True
  | o :: l, i => StepOK P Q ops w0 a0 al D i o ∧ AllOK P Q ops w0 a0 al D l (i + 1)

theorem allOK_at {ops : List Oper} {w0 : World} {a0 : Act} {al : Nat → Bool} {D : Nat → Value → World → Prop} : ∀ (l : List Oper) (k : Nat), AllOK P Q ops w0 a0 al D l k → ∀ i o, l[i]? = some o → StepOK P Q ops w0 a0 al D (k + i) o
  | [], _, _, _, _, h => by simp at h
  | o :: l, k, h, 0, o', ho => by simp at ho; subst ho; exact h.1
  | o :: l, k, h, i + 1, o', ho => by
    have := allOK_at l (k + 1) h.2 i o' (by simpa using ho)
    rwa [show k + 1 + i = k + (i + 1) by omega] at this

/-- The order of the text is one that the edges allow; the head's operations hand something back, each into a place of its own; the tail is forced. -/
def headOK (l : List Oper) (n : Nat) (N : Nat) : Bool :=
  decide (n ≤ l.length) && ((l.take n).map (·.dst)).Nodup && (l.take n).all (fun o => match o.dst with | some d => decide (d < N) | none => false) &&
  (l.drop n).all (fun o => o.dst.isNone) &&
  (List.range n).all (fun i => match l[i]? with | some o => o.after.all fun e => !Region.binds .any e || decide (e.on < i) | none => false) &&
  (decide (n = l.length) || (Region.sinkB .any l.toArray n && Region.chainB .any l.toArray n)) &&
  Region.seqB .any l.toArray (l.length - n) n ((List.range l.length).map fun j => decide (j < n)).toArray

theorem getD_range (n m j : Nat) (d : Bool) (h : j < m) : (((List.range m).map fun j => decide (j < n)).toArray).getD j d = decide (j < n) := by
  simp [h]

/-- What `headOK` says. -/
structure Head (l : List Oper) (n N : Nat) : Prop where
  le : n ≤ l.length
  nodup : ((l.take n).map (·.dst)).Nodup
  dst_head : ∀ (i : Nat) (o : Oper), i < n → l[i]? = some o → ∃ d, o.dst = some d ∧ d < N
  dst_tail : ∀ (i : Nat) (o : Oper), n ≤ i → l[i]? = some o → o.dst = none
  dst_inj : ∀ (i j : Nat) (oi oj : Oper) (d : Nat), l[i]? = some oi → l[j]? = some oj → oi.dst = some d → oj.dst = some d → i = j
  top : ∀ i, i < n → ∀ o, l[i]? = some o → ∀ e ∈ o.after, Region.binds .any e = true → e.on < i
  sink : n = l.length ∨ (Region.sinkB .any l.toArray n = true ∧ Region.chainB .any l.toArray n = true)
  seq : Region.seqB .any l.toArray (l.length - n) n ((List.range l.length).map fun j => decide (j < n)).toArray = true

theorem head_of {l : List Oper} {n N : Nat} (hok : headOK l n N = true) : Head l n N := by
  simp only [headOK, Bool.and_eq_true, decide_eq_true_eq] at hok
  obtain ⟨⟨⟨⟨⟨⟨hn, hnd⟩, hdst⟩, htl⟩, htop⟩, hsc⟩, hseq⟩ := hok
  have hnd' : ((l.take n).map (·.dst)).Nodup := by simpa using hnd
  -- the destinations
  have dst_head : ∀ (i : Nat) (o : Oper), i < n → l[i]? = some o → ∃ d, o.dst = some d ∧ d < N := by
    intro i o hi ho
    have hmem : o ∈ l.take n := List.mem_of_getElem? (i := i) (by rw [List.getElem?_take, if_pos hi]; exact ho)
    have := List.all_eq_true.1 hdst o hmem
    cases hd : o.dst with
    | none => rw [hd] at this; cases this
    | some d => rw [hd] at this; exact ⟨d, rfl, by simpa using this⟩
  have dst_tail : ∀ (i : Nat) (o : Oper), n ≤ i → l[i]? = some o → o.dst = none := by
    intro i o hi ho
    have hmem : o ∈ l.drop n := List.mem_of_getElem? (i := i - n) (by rw [List.getElem?_drop, show n + (i - n) = i by omega]; exact ho)
    have := List.all_eq_true.1 htl o hmem
    simpa using this
  have dst_inj : ∀ (i j : Nat) (oi oj : Oper) (d : Nat), l[i]? = some oi → l[j]? = some oj → oi.dst = some d → oj.dst = some d → i = j := by
    intro i j oi oj d hi hj di dj
    have hi' : i < n := by
      rcases Nat.lt_or_ge i n with h | h
      · exact h
      · rw [dst_tail i oi h hi] at di; cases di
    have hj' : j < n := by
      rcases Nat.lt_or_ge j n with h | h
      · exact h
      · rw [dst_tail j oj h hj] at dj; cases dj
    have e1 : ((l.take n).map (·.dst))[i]? = some (some d) := by rw [List.getElem?_map, List.getElem?_take, if_pos hi', hi]; simp [di]
    have e2 : ((l.take n).map (·.dst))[j]? = some (some d) := by rw [List.getElem?_map, List.getElem?_take, if_pos hj', hj]; simp [dj]
    exact (List.getElem?_inj (by
      have := (List.getElem?_eq_some_iff.1 e1).1; exact this) hnd').1 (e1.trans e2.symm)
  refine ⟨hn, hnd', dst_head, dst_tail, dst_inj, ?_, ?_, hseq⟩
  · intro i hi o ho e he hb
    have := List.all_eq_true.1 htop i (List.mem_range.2 hi)
    rw [ho] at this
    simp only [Array.all_eq_true_iff_forall_mem, Bool.or_eq_true, Bool.not_eq_true', decide_eq_true_eq] at this
    rcases this e he with h | h
    · rw [hb] at h; cases h
    · exact h
  · simpa only [Bool.or_eq_true, Bool.and_eq_true, decide_eq_true_eq] using hsc

def allOn (l : List Oper) (n : Nat) : Array Bool := ((List.range l.length).map fun j => decide (j < n)).toArray

theorem Regs.step {l : List Oper} {n N : Nat} {w0 : World} {a0 : Act} {al : Nat → Bool} {D : Nat → Value → World → Prop} {listed : Array Bool} {a : Act} {w : World} (H : Head l n N) (hN : a0.tmps.size = N)
    (hD : ∀ i v w w', w.grownBy w' none → D i v w → D i v w') (hal : ∀ i b w, al i = true → D i (.pointer (some ⟨b, 0, none⟩)) w → b < w.heap.size)
    (lsz : listed.size = l.length) (R : Regs l w0 a0 al D listed a w) {i : Nat} {oi : Oper} (hin : i < n) (hoi : l[i]? = some oi) {v : Value} {w' : World} (hg : w.grownBy w' none) (hDv : D i v w')
    (hfr : al i = true → ∀ b, v = .pointer (some ⟨b, 0, none⟩) → w.heap.size ≤ b) : Regs l w0 a0 al D (listed.setIfInBounds i true) (a.put oi.dst v) w' := by
  obtain ⟨hn, hnd', dst_head, dst_tail, dst_inj, _, _, _⟩ := H
  obtain ⟨d, hd, hdN⟩ := dst_head i oi hin hoi
  have hsz : d < a.tmps.size := by rw [R.size, hN]; exact hdN
  refine ⟨grown_trans R.x hg, (put_defers _ _ _).trans R.defers, (put_size _ _ _).trans R.size, ?_, ?_, ?_, ?_⟩
  · intro j oj dj hoj hdj hlj
    by_cases hij : i = j
    · subst hij
      obtain rfl : oi = oj := Option.some.inj (hoi.symm.trans hoj)
      rw [hdj, put_same _ _ _ (by rw [hd] at hdj; rw [← Option.some.inj hdj]; exact hsz)]
      exact hDv
    · rw [getD_set_ne false hij] at hlj
      rw [put_other _ _ _ _ (fun e => hij (dst_inj i j oi oj dj hoi hoj e hdj))]
      exact hD _ _ _ _ hg (R.done j oj dj hoj hdj hlj)
  · intro k hk
    rw [put_other _ _ _ _ (hk oi (List.mem_of_getElem? hoi))]
    exact R.rest k hk
  · intro j oj dj hoj hdj hlj
    by_cases hij : i = j
    · subst hij
      have hil : i < listed.size := by rw [lsz]; exact (List.getElem?_eq_some_iff.1 hoi).1
      simp [hil] at hlj
    · rw [getD_set_ne false hij] at hlj
      rw [put_other _ _ _ _ (fun e => hij (dst_inj i j oi oj dj hoi hoj e hdj))]
      exact R.yet j oj dj hoj hdj hlj
  · intro p q op oq dp dq bp bq hpq ap aq hop hoq hdp hdq lp lq ep eq
    have key : ∀ (p q : Nat) (op oq : Oper) (dp dq bp bq : Nat), p ≠ q → al p = true → al q = true → l[p]? = some op → l[q]? = some oq → op.dst = some dp → oq.dst = some dq → p = i → listed.getD q false = true →
        (a.put oi.dst v).tmps[dp]?.getD undef = .pointer (some ⟨bp, 0, none⟩) → (a.put oi.dst v).tmps[dq]?.getD undef = .pointer (some ⟨bq, 0, none⟩) → bq < bp := by
      intro p q op oq dp dq bp bq hpq ap aq hop hoq hdp hdq hpi lq2 ep2 eq2
      subst hpi
      obtain rfl : oi = op := Option.some.inj (hoi.symm.trans hop)
      rw [hdp, put_same _ _ _ (by rw [hd] at hdp; rw [← Option.some.inj hdp]; exact hsz)] at ep2
      rw [put_other _ _ _ _ (fun e => hpq (dst_inj p q oi oq dq hoi hoq e hdq))] at eq2
      have h1 := hfr ap bp (by simpa using ep2)
      have h2 := R.done q oq dq hoq hdq lq2
      rw [eq2] at h2
      have h3 := hal q bq w aq h2
      omega
    by_cases hp : p = i
    · have lq' : listed.getD q false = true := by rw [getD_set_ne false (by rw [← hp]; exact hpq)] at lq; exact lq
      have := key p q op oq dp dq bp bq hpq ap aq hop hoq hdp hdq hp lq' ep eq
      omega
    · by_cases hq : q = i
      · have lp' : listed.getD p false = true := by rw [getD_set_ne false (Ne.symm hp)] at lp; exact lp
        have := key q p oq op dq dp bq bp (Ne.symm hpq) aq ap hoq hop hdq hdp hq lp' eq ep
        omega
      · rw [getD_set_ne false (Ne.symm hp)] at lp
        rw [getD_set_ne false (Ne.symm hq)] at lq
        rw [put_other _ _ _ _ (fun e => hp (dst_inj i p oi op dp hoi hop e hdp).symm)] at ep
        rw [put_other _ _ _ _ (fun e => hq (dst_inj i q oi oq dq hoi hoq e hdq).symm)] at eq
        exact R.apart p q op oq dp dq bp bq hpq ap aq hop hoq hdp hdq lp lq ep eq

theorem Regs.start {l : List Oper} {w0 : World} {a0 : Act} {al : Nat → Bool} {D : Nat → Value → World → Prop} : Regs l w0 a0 al D (Array.replicate l.toArray.size false) a0 w0 :=
  ⟨⟨rfl, rfl, rfl, Nat.le_refl _, fun _ _ _ => rfl⟩, rfl, rfl, fun i o d _ _ hl => (by rw [getD_replicate_false] at hl; cases hl), fun _ _ => rfl, fun _ _ _ _ _ _ => rfl,
      fun i j oi oj di dj bi bj _ _ _ _ _ _ _ hl => (by rw [getD_replicate_false] at hl; cases hl)⟩

/-- What one operation's goal gives, where those that it waits for are through. -/
theorem Regs.goal {l : List Oper} {n N : Nat} {w0 : World} {a0 : Act} {al : Nat → Bool} {D : Nat → Value → World → Prop} {listed : Array Bool} {a : Act} {w : World} (H : Head l n N) (hN : a0.tmps.size = N)
    (R : Regs l w0 a0 al D listed a w) {i : Nat} {oi : Oper} (hin : i < n) (hoi : l[i]? = some oi) (hsteps : AllOK P Q l w0 a0 al D (l.take n) 0)
    (hall : ∀ e ∈ oi.after, Region.binds .any e = true → listed.getD e.on false = true) {K : Act → World → Prop}
    (hK : ∀ v w', w.grownBy w' none → D i v w' → (al i = true → ∀ b, v = .pointer (some ⟨b, 0, none⟩) → w.heap.size ≤ b) → K (a.put oi.dst v) w') :
    (if Region.wanted oi (yielded l.toArray a.tmps) then oi.wp P a w K Q ∨ (oi.asks P a w ∧ LetsOut Q) else K (a.put oi.dst undef) w) := by
  have hstep := allOK_at (l.take n) 0 hsteps i oi (by rw [List.getElem?_take, if_pos hin]; exact hoi)
  rw [Nat.zero_add] at hstep
  refine hstep a w R.x (fun k hk => R.rest k (spares_ne hk)) (fun j oj dj hw hoj hdj => ?_) K hK
  obtain ⟨e, he, hb, hej⟩ := waits_mem hw
  subst hej
  have hjn : e.on < n := Nat.lt_trans (H.top i hin oi hoi e he hb) hin
  obtain ⟨d', hd', hdN'⟩ := H.dst_head e.on oj hjn hoj
  obtain rfl : d' = dj := by rw [hdj] at hd'; exact (Option.some.inj hd').symm
  have hsz : d' < a.tmps.size := by rw [R.size, hN]; exact hdN'
  refine ⟨_, Array.getElem?_eq_getElem hsz, ?_⟩
  have := R.done e.on oj d' hoj hdj (hall e he hb)
  simpa [hsz] using this

theorem region_inv {id : Nat} {w0 : World} {a0 : Act} (l : List Oper) (n N : Nat) (hm : P.follows .mixedOrders = true) (hN : a0.tmps.size = N) (hok : headOK l n N = true)
    (al : Nat → Bool) (D : Nat → Value → World → Prop) (hD : ∀ i v w w', w.grownBy w' none → D i v w → D i v w') (hal : ∀ i b w, al i = true → D i (.pointer (some ⟨b, 0, none⟩)) w → b < w.heap.size)
    (hsteps : AllOK P Q l { w0 with drawn := w0.drawn + 1 } a0 al D (l.take n) 0)
    (hfin : ∀ (listed : Array Bool) (a : Act) (w : World), (∀ i, i < n → listed.getD i false = true) → Regs l { w0 with drawn := w0.drawn + 1 } a0 al D listed a w → wpList P l.toArray Q (l.drop n) a w) :
    (Code.region id l.toArray true).wp P Q a0 w0 := by
  have H := head_of hok
  obtain ⟨hn, hnd', dst_head, dst_tail, dst_inj, htop, hsc, hseq⟩ := H
  refine wp_region_any hm ?_
  -- the induction over how many of the head are left
  have main : ∀ (f : Nat) (listed : Array Bool) (a : Act) (w : World), HeadInv .any l.toArray n listed → Regs l { w0 with drawn := w0.drawn + 1 } a0 al D listed a w →
      ((List.range n).filter fun i => !listed.getD i false).length = f → wpAny P .any l.toArray Q (f + (l.length - n)) listed a w := by
    intro f
    induction f with
    | zero =>
      intro listed a w inv R hf
      have hall : ∀ i, i < n → listed.getD i false = true := by
        intro i hi
        have h0 := List.length_eq_zero_iff.1 hf
        have := List.filter_eq_nil_iff.1 h0 i (List.mem_range.2 hi)
        simpa using this
      have hl : listed = ((List.range l.length).map fun j => decide (j < n)).toArray := by
        apply Array.ext
        · rw [inv.size]; simp
        · intro i h1 h2
          have hil : i < l.length := by simpa using h2
          simp only [List.getElem_toArray, List.getElem_map, List.getElem_range]
          by_cases hi : i < n
          · have := hall i hi
            simp [h1] at this
            rw [this]; simp [hi]
          · have := inv.tail i (by omega) (by simpa using hil)
            simp [h1] at this
            rw [this]; simp [hi]
      have hw := hfin listed a w hall R
      have hdl : (l.drop n).length = l.length - n := by simp
      have := wpAny_of_seq (P := P) (md := .any) (ops := l.toArray) (Q' := Q) (l.drop n) n listed a w (fun j => by simp [List.getElem?_drop]) (by rw [hdl, hl]; exact hseq) hw
      rw [hdl] at this
      rwa [Nat.zero_add]
    | succ f ih =>
      intro listed a w inv R hf
      rw [show f + 1 + (l.length - n) = (f + (l.length - n)) + 1 by omega]
      -- one of the head is left: the first of them is ready
      have hex : ∃ i, i < n ∧ listed.getD i false = false := by
        have : 0 < ((List.range n).filter fun i => !listed.getD i false).length := by omega
        obtain ⟨i, hi⟩ := List.exists_mem_of_length_pos this
        rw [List.mem_filter] at hi
        exact ⟨i, List.mem_range.1 hi.1, by simpa using hi.2⟩
      have hleast : ∃ i, i < n ∧ listed.getD i false = false ∧ ∀ j, j < i → listed.getD j false = true := by
        obtain ⟨i0, h1, h2⟩ := hex
        clear hf ih
        induction i0 using Nat.strongRecOn with
        | _ i ihi =>
          by_cases h : ∃ j, j < i ∧ listed.getD j false = false
          · obtain ⟨j, hj, hl⟩ := h
            exact ihi j hj (by omega) hl
          · refine ⟨i, h1, h2, fun j hj => ?_⟩
            cases hc : listed.getD j false with
            | true => rfl
            | false => exact absurd ⟨j, hj, hc⟩ h
      obtain ⟨i0, hi0, hl0, hbefore⟩ := hleast
      have lsz : listed.size = l.length := by rw [inv.size]; simp
      have hready0 : i0 ∈ Region.ready .any l.toArray listed := by
        refine mem_ready.2 ⟨getD_in (by rw [lsz]; omega) hl0, l[i0]'(by omega), by simp, fun e he hb => ?_⟩
        exact hbefore _ (htop i0 hi0 _ (List.getElem?_eq_getElem (by omega)) e he hb)
      refine ⟨fun h => (by rw [h] at hready0; cases hready0), fun i hi => ?_⟩
      have hin : i < n := by
        rcases Nat.lt_or_ge i n with h | h
        · exact h
        · exfalso
          obtain ⟨_, oi, hoi, _⟩ := mem_ready.1 hi
          have hil : i < l.length := by have := (Array.getElem?_eq_some_iff.1 hoi).1; simpa using this
          rcases hsc with e | ⟨hs, hc⟩
          · omega
          · exact tail_waits hs hc (by simp; omega) inv _ i0 rfl hi0 (getD_in (by rw [lsz]; omega) hl0) i h hi
      obtain ⟨hun, oi, hoi', hall⟩ := mem_ready.1 hi
      have hoi : l[i]? = some oi := by simpa using hoi'
      unfold wpOp
      simp only [hoi']
      refine Regs.goal (head_of hok) hN R hin hoi hsteps hall (fun v w' hg hDv hfr => ?_)
      refine ih (listed.setIfInBounds i true) (a.put oi.dst v) w' (inv.set hi hin) (Regs.step (head_of hok) hN hD hal lsz R hin hoi hg hDv hfr) ?_
      -- one fewer is left
      have hfun : ((List.range n).filter fun j => !(listed.setIfInBounds i true).getD j false) = ((List.range n).filter fun j => !listed.getD j false).filter fun j => decide (j ≠ i) := by
        rw [List.filter_filter]
        apply List.filter_congr
        intro j hj
        by_cases hij : i = j
        · subst hij
          have hil : i < listed.size := by rw [lsz]; omega
          simp [hil]
        · rw [getD_set_ne false hij]
          simp [Ne.symm hij]
      rw [hfun]
      have hmem : i ∈ (List.range n).filter fun j => !listed.getD j false := by
        rw [List.mem_filter]
        exact ⟨List.mem_range.2 hin, by rw [getD_both hun]; rfl⟩
      have hnod : ((List.range n).filter fun j => !listed.getD j false).Nodup := (List.filter_sublist).nodup List.nodup_range
      have hcount : ∀ (L : List Nat), L.Nodup → i ∈ L → (L.filter fun j => decide (j ≠ i)).length + 1 = L.length := by
        intro L hL hi
        induction L with
        | nil => cases hi
        | cons x L ihL =>
          rw [List.nodup_cons] at hL
          by_cases hx : x = i
          · subst hx
            rw [List.filter_cons_of_neg (by simp), List.filter_eq_self.2 (fun y hy => by simp; rintro rfl; exact hL.1 hy)]
            rfl
          · rw [List.filter_cons_of_pos (by simpa using hx)]
            have : i ∈ L := by
              rcases List.mem_cons.1 hi with h | h
              · exact absurd h.symm hx
              · exact h
            simp only [List.length_cons]
            rw [ihL hL.2 this]
      have := hcount _ hnod hmem
      omega
  have inv0 : HeadInv .any l.toArray n (Array.replicate l.toArray.size false) :=
    ⟨by simp, fun j oj _ hl => (by rw [getD_replicate_false] at hl; cases hl), fun t _ ht => getD_in (by simpa using ht) (getD_replicate_false _ _)⟩
  have hc : ((List.range n).filter fun i => !(Array.replicate l.toArray.size false).getD i false).length = n := by
    have : ((List.range n).filter fun i => !(Array.replicate l.toArray.size false).getD i false) = List.range n :=
      List.filter_eq_self.2 fun i _ => by rw [getD_replicate_false]; rfl
    rw [this, List.length_range]
  have := main n _ a0 _ inv0 Regs.start hc
  rwa [show n + (l.length - n) = l.toArray.size by simp; omega] at this
/-- The same of a region in the order of the text. -/
theorem region_lex {id : Nat} {w0 : World} {a0 : Act} (l : List Oper) (n N : Nat) (hN : a0.tmps.size = N) (hok : headOK l n N = true)
    (al : Nat → Bool) (D : Nat → Value → World → Prop) (hD : ∀ i v w w', w.grownBy w' none → D i v w → D i v w') (hal : ∀ i b w, al i = true → D i (.pointer (some ⟨b, 0, none⟩)) w → b < w.heap.size)
    (hsteps : AllOK P Q l w0 a0 al D (l.take n) 0)
    (hfin : ∀ (listed : Array Bool) (a : Act) (w : World), (∀ i, i < n → listed.getD i false = true) → Regs l w0 a0 al D listed a w → wpList P l.toArray Q (l.drop n) a w) :
    (Code.region id l.toArray false).wp P Q a0 w0 := by
  have H := head_of hok
  refine wp_region_lit ?_
  have main : ∀ (f i : Nat) (listed : Array Bool) (a : Act) (w : World), i + f = n → listed.size = l.length → (∀ j, j < i → listed.getD j false = true) → Regs l w0 a0 al D listed a w →
      wpList P l.toArray Q (l.drop i) a w := by
    intro f
    induction f with
    | zero =>
      intro i listed a w hi _ hall R
      obtain rfl : i = n := by omega
      exact hfin listed a w hall R
    | succ f ih =>
      intro i listed a w hi lsz hall R
      have hin : i < n := by omega
      have hil : i < l.length := Nat.lt_of_lt_of_le hin H.le
      have hoi : l[i]? = some l[i] := List.getElem?_eq_getElem hil
      rw [List.drop_eq_getElem_cons hil]
      refine Regs.goal H hN R hin hoi hsteps (fun e he hb => hall _ (H.top i hin _ hoi e he hb)) (fun v w' hg hDv hfr => ?_)
      refine ih (i + 1) (listed.setIfInBounds i true) _ w' (by omega) (by simpa using lsz) (fun j hj => ?_) (Regs.step H hN hD hal lsz R hin hoi hg hDv hfr)
      by_cases hji : i = j
      · subst hji
        have : i < listed.size := by omega
        simp [this]
      · rw [getD_set_ne false hji]
        exact hall j (by omega)
  exact main n 0 _ a0 w0 (by omega) (by simp) (fun j hj => by omega) Regs.start
end
end Go.Rh
