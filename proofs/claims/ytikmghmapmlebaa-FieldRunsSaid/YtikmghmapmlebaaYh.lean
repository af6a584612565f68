/-
  The laws of a region that draws its order, where the tail's operations may themselves come in more than one order.
-/
import Derived.Test.YtikmghmapmlebaaYd
namespace Go.Rh
open Go.RowKit
section
variable {P : Program} {Q : Exit → Act → World → Prop}

/-- All of the head but its last operation are through before the tail begins. -/
def sinkC (ops : Array Oper) (n : Nat) : Bool := (List.range (n - 1)).all fun i => (List.range (n + 1)).any fun j => decide (i < j) && decide (j ≠ n - 1) && Region.waitsFor .any ops j i
theorem tail_waitsC {ops : Array Oper} {n : Nat} {listed : Array Bool} (hs : sinkC ops n = true) (hc : Region.chainB .any ops n = true) (hn : n < ops.size) (h0 : 0 < n) (inv : HeadInv .any ops n listed) :
    ∀ (d i : Nat), n - i = d → i < n - 1 → listed.getD i true = false → ∀ t, n ≤ t → t ∉ Region.ready .any ops listed := by
  intro d
  induction d using Nat.strongRecOn with
  | _ d ih =>
    intro i hd hi hun t ht hr
    obtain ⟨_, ot, hot, hall⟩ := mem_ready.1 hr
    have htlt : t < ops.size := (Array.getElem?_eq_some_iff.1 hot).1
    by_cases htn : t = n
    · subst htn
      have h1 := List.all_eq_true.1 hs i (List.mem_range.2 hi)
      obtain ⟨j, hj, hj2⟩ := List.any_eq_true.1 h1
      simp only [Bool.and_eq_true, decide_eq_true_eq] at hj2
      obtain ⟨oj, hoj, e, he, hb, hon⟩ := Region.waitsFor_spec hj2.2
      have hjle : j ≤ t := by have := List.mem_range.1 hj; omega
      by_cases hjt : j = t
      · subst hjt
        have : oj = ot := Option.some.inj (hoj.symm.trans hot)
        subst this
        have h2 := hall e he hb
        rw [hon, getD_both hun] at h2
        cases h2
      · cases hl : listed.getD j false with
        | true =>
          have h2 := inv.closed j oj hoj hl e he hb
          rw [hon, getD_both hun] at h2
          cases h2
        | false =>
          have hjs : j < listed.size := by rw [inv.size]; omega
          exact ih (t - j) (by omega) j rfl (by omega) (getD_in hjs hl) t (Nat.le_refl _) hr
    · have h1 := List.all_eq_true.1 hc t (List.mem_range.2 htlt)
      simp only [Bool.or_eq_true, decide_eq_true_eq] at h1
      rcases h1 with h1 | h1
      · omega
      · obtain ⟨o', ho', e, he, hb, hon⟩ := Region.waitsFor_spec h1
        have : o' = ot := Option.some.inj (ho'.symm.trans hot)
        subst this
        have h2 := hall e he hb
        rw [hon, getD_both (inv.tail (t - 1) (by omega) (by omega))] at h2
        cases h2

/-- As `headOK`, but nothing is asked of the tail's order. -/
def headAny (l : List Oper) (n : Nat) (N : Nat) : Bool :=
  decide (n ≤ l.length) && (l.filterMap (·.dst)).Nodup && (l.take n).all (fun o => match o.dst with | some d => decide (d < N) | none => false) &&
  (List.range n).all (fun i => match l[i]? with | some o => o.after.all fun e => !Region.binds .any e || decide (e.on < i) | none => false) &&
  (sinkC l.toArray n && Region.chainB .any l.toArray n && decide (0 < n) && decide (n < l.length))
structure HeadA (l : List Oper) (n N : Nat) : Prop where
  le : n ≤ l.length
  dst_head : ∀ (i : Nat) (o : Oper), i < n → l[i]? = some o → ∃ d, o.dst = some d ∧ d < N
  dst_inj : ∀ (i j : Nat) (oi oj : Oper) (d : Nat), l[i]? = some oi → l[j]? = some oj → oi.dst = some d → oj.dst = some d → i = j
  top : ∀ i, i < n → ∀ o, l[i]? = some o → ∀ e ∈ o.after, Region.binds .any e = true → e.on < i
  sink : sinkC l.toArray n = true ∧ Region.chainB .any l.toArray n = true ∧ 0 < n ∧ n < l.length
theorem filterMap_inj {α β : Type} (f : α → Option β) : ∀ (l : List α), (l.filterMap f).Nodup → ∀ (i j : Nat) (x y : α) (d : β), l[i]? = some x → l[j]? = some y → f x = some d → f y = some d → i = j := by
  intro l
  induction l with
  | nil => intro _ i j x y d h; simp at h
  | cons a l ih =>
    intro hnd i j x y d hi hj hx hy
    have mem : ∀ (k : Nat) (z : α), l[k]? = some z → f z = some d → d ∈ l.filterMap f := fun k z hk hz => List.mem_filterMap.2 ⟨z, List.mem_of_getElem? hk, hz⟩
    cases i with
    | zero =>
      cases j with
      | zero => rfl
      | succ j =>
        simp at hi hj; subst hi
        rw [List.filterMap_cons_some hx, List.nodup_cons] at hnd
        exact absurd (mem j y hj hy) hnd.1
    | succ i =>
      cases j with
      | zero =>
        simp at hi hj; subst hj
        rw [List.filterMap_cons_some hy, List.nodup_cons] at hnd
        exact absurd (mem i x hi hx) hnd.1
      | succ j =>
        simp at hi hj
        have : (l.filterMap f).Nodup := by
          cases hf : f a with
          | none => rwa [List.filterMap_cons_none hf] at hnd
          | some b => rw [List.filterMap_cons_some hf, List.nodup_cons] at hnd; exact hnd.2
        rw [ih this i j x y d hi hj hx hy]
theorem headA_of {l : List Oper} {n N : Nat} (hok : headAny l n N = true) : HeadA l n N := by
  simp only [headAny, Bool.and_eq_true, decide_eq_true_eq] at hok
  obtain ⟨⟨⟨⟨hn, hnd⟩, hdst⟩, htop⟩, hsc⟩ := hok
  have hnd' : (l.filterMap (·.dst)).Nodup := by simpa using hnd
  refine ⟨hn, ?_, filterMap_inj _ l hnd', ?_, ?_⟩
  · intro i o hi ho
    have hmem : o ∈ l.take n := List.mem_of_getElem? (i := i) (by rw [List.getElem?_take, if_pos hi]; exact ho)
    have := List.all_eq_true.1 hdst o hmem
    cases hd : o.dst with
    | none => rw [hd] at this; cases this
    | some d => rw [hd] at this; exact ⟨d, rfl, by simpa using this⟩
  · intro i hi o ho e he hb
    have := List.all_eq_true.1 htop i (List.mem_range.2 hi)
    rw [ho] at this
    simp only [Array.all_eq_true_iff_forall_mem, Bool.or_eq_true, Bool.not_eq_true', decide_eq_true_eq] at this
    rcases this e he with h | h
    · rw [hb] at h; cases h
    · exact h
  · exact ⟨hsc.1.1.1, hsc.1.1.2, hsc.1.2, hsc.2⟩

theorem Regs.stepA {l : List Oper} {n N : Nat} {w0 : World} {a0 : Act} {al : Nat → Bool} {D : Nat → Value → World → Prop} {listed : Array Bool} {a : Act} {w : World} (H : HeadA l n N) (hN : a0.tmps.size = N)
    (hD : ∀ i v w w', w.grownBy w' none → D i v w → D i v w') (hal : ∀ i b w, al i = true → D i (.pointer (some ⟨b, 0, none⟩)) w → b < w.heap.size)
    (lsz : listed.size = l.length) (R : Regs l w0 a0 al D listed a w) {i : Nat} {oi : Oper} (hin : i < n) (hoi : l[i]? = some oi) {v : Value} {w' : World} (hg : w.grownBy w' none) (hDv : D i v w')
    (hfr : al i = true → ∀ b, v = .pointer (some ⟨b, 0, none⟩) → w.heap.size ≤ b) : Regs l w0 a0 al D (listed.setIfInBounds i true) (a.put oi.dst v) w' := by
  obtain ⟨hn, dst_head, dst_inj, _, _⟩ := H
  obtain ⟨d, hd, hdN⟩ := dst_head i oi hin hoi
  have hsz : d < a.tmps.size := by rw [R.size, hN]; exact hdN
  refine ⟨grown_trans R.x hg, (put_defers _ _ _).trans R.defers, (put_size _ _ _).trans R.size, ?_, ?_, ?_, ?_⟩
  · intro j oj dj hoj hdj hlj
    by_cases hij : i = j
    · subst hij
      obtain rfl : oi = oj := Option.some.inj (hoi.symm.trans hoj)
      rw [hdj, put_same _ _ _ (by rw [hd] at hdj; rw [← Option.some.inj hdj]; exact hsz)]
      exact hDv
    · rw [getD_set_ne false hij] at hlj
      rw [put_other _ _ _ _ (fun e => hij (dst_inj i j oi oj dj hoi hoj e hdj))]
      exact hD _ _ _ _ hg (R.done j oj dj hoj hdj hlj)
  · intro k hk
    rw [put_other _ _ _ _ (hk oi (List.mem_of_getElem? hoi))]
    exact R.rest k hk
  · intro j oj dj hoj hdj hlj
    by_cases hij : i = j
    · subst hij
      have hil : i < listed.size := by rw [lsz]; exact (List.getElem?_eq_some_iff.1 hoi).1
      simp [hil] at hlj
    · rw [getD_set_ne false hij] at hlj
      rw [put_other _ _ _ _ (fun e => hij (dst_inj i j oi oj dj hoi hoj e hdj))]
      exact R.yet j oj dj hoj hdj hlj
  · intro p q op oq dp dq bp bq hpq ap aq hop hoq hdp hdq lp lq ep eq
    have key : ∀ (p q : Nat) (op oq : Oper) (dp dq bp bq : Nat), p ≠ q → al p = true → al q = true → l[p]? = some op → l[q]? = some oq → op.dst = some dp → oq.dst = some dq → p = i → listed.getD q false = true →
        (a.put oi.dst v).tmps[dp]?.getD undef = .pointer (some ⟨bp, 0, none⟩) → (a.put oi.dst v).tmps[dq]?.getD undef = .pointer (some ⟨bq, 0, none⟩) → bq < bp := by
      intro p q op oq dp dq bp bq hpq ap aq hop hoq hdp hdq hpi lq2 ep2 eq2
      subst hpi
      obtain rfl : oi = op := Option.some.inj (hoi.symm.trans hop)
      rw [hdp, put_same _ _ _ (by rw [hd] at hdp; rw [← Option.some.inj hdp]; exact hsz)] at ep2
      rw [put_other _ _ _ _ (fun e => hpq (dst_inj p q oi oq dq hoi hoq e hdq))] at eq2
      have h1 := hfr ap bp (by simpa using ep2)
      have h2 := R.done q oq dq hoq hdq lq2
      rw [eq2] at h2
      have h3 := hal q bq w aq h2
      omega
    by_cases hp : p = i
    · have lq' : listed.getD q false = true := by rw [getD_set_ne false (by rw [← hp]; exact hpq)] at lq; exact lq
      have := key p q op oq dp dq bp bq hpq ap aq hop hoq hdp hdq hp lq' ep eq
      omega
    · by_cases hq : q = i
      · have lp' : listed.getD p false = true := by rw [getD_set_ne false (Ne.symm hp)] at lp; exact lp
        have := key q p oq op dq dp bq bp (Ne.symm hpq) aq ap hoq hop hdq hdp hq lp' eq ep
        omega
      · rw [getD_set_ne false (Ne.symm hp)] at lp
        rw [getD_set_ne false (Ne.symm hq)] at lq
        rw [put_other _ _ _ _ (fun e => hp (dst_inj i p oi op dp hoi hop e hdp).symm)] at ep
        rw [put_other _ _ _ _ (fun e => hq (dst_inj i q oi oq dq hoi hoq e hdq).symm)] at eq
        exact R.apart p q op oq dp dq bp bq hpq ap aq hop hoq hdp hdq lp lq ep eq

/-- What one operation's goal gives, where those that it waits for are through. -/
theorem Regs.goalA {l : List Oper} {n N : Nat} {w0 : World} {a0 : Act} {al : Nat → Bool} {D : Nat → Value → World → Prop} {listed : Array Bool} {a : Act} {w : World} (H : HeadA l n N) (hN : a0.tmps.size = N)
    (R : Regs l w0 a0 al D listed a w) {i : Nat} {oi : Oper} (hin : i < n) (hoi : l[i]? = some oi) (hsteps : AllOK P Q l w0 a0 al D (l.take n) 0)
    (hall : ∀ e ∈ oi.after, Region.binds .any e = true → listed.getD e.on false = true) {K : Act → World → Prop}
    (hK : ∀ v w', w.grownBy w' none → D i v w' → (al i = true → ∀ b, v = .pointer (some ⟨b, 0, none⟩) → w.heap.size ≤ b) → K (a.put oi.dst v) w') :
    (if Region.wanted oi (yielded l.toArray a.tmps) then oi.wp P a w K Q ∨ (oi.asks P a w ∧ LetsOut Q) else K (a.put oi.dst undef) w) := by
  have hstep := allOK_at (l.take n) 0 hsteps i oi (by rw [List.getElem?_take, if_pos hin]; exact hoi)
  rw [Nat.zero_add] at hstep
  refine hstep a w R.x (fun k hk => R.rest k (spares_ne hk)) (fun j oj dj hw hoj hdj => ?_) K hK
  obtain ⟨e, he, hb, hej⟩ := waits_mem hw
  subst hej
  have hjn : e.on < n := Nat.lt_trans (H.top i hin oi hoi e he hb) hin
  obtain ⟨d', hd', hdN'⟩ := H.dst_head e.on oj hjn hoj
  obtain rfl : d' = dj := by rw [hdj] at hd'; exact (Option.some.inj hd').symm
  have hsz : d' < a.tmps.size := by rw [R.size, hN]; exact hdN'
  refine ⟨_, Array.getElem?_eq_getElem hsz, ?_⟩
  have := R.done e.on oj d' hoj hdj (hall e he hb)
  simpa [hsz] using this

theorem region_inv_any {id : Nat} {w0 : World} {a0 : Act} (l : List Oper) (n N : Nat) (hm : P.follows .mixedOrders = true) (hN : a0.tmps.size = N) (hok : headAny l n N = true)
    (al : Nat → Bool) (D : Nat → Value → World → Prop) (hD : ∀ i v w w', w.grownBy w' none → D i v w → D i v w') (hal : ∀ i b w, al i = true → D i (.pointer (some ⟨b, 0, none⟩)) w → b < w.heap.size)
    (hsteps : AllOK P Q l { w0 with drawn := w0.drawn + 1 } a0 al D (l.take n) 0)
    (hfin : ∀ (listed : Array Bool) (a : Act) (w : World), (∀ i, i < n → listed.getD i false = true) → Regs l { w0 with drawn := w0.drawn + 1 } a0 al D listed a w → wpAny P .any l.toArray Q (l.length - n) (allOn l n) a w)
    (hlate : ∀ (listed : Array Bool) (a : Act) (w : World), (∀ i, i < n - 1 → listed.getD i false = true) → Regs l { w0 with drawn := w0.drawn + 1 } a0 al D listed a w → wpAny P .any l.toArray Q (l.length - n + 1) (allOn l (n - 1)) a w) :
    (Code.region id l.toArray true).wp P Q a0 w0 := by
  have H := headA_of hok
  obtain ⟨hn, dst_head, dst_inj, htop, hsc⟩ := H
  refine wp_region_any hm ?_
  -- the induction over how many of the head are left
  have main : ∀ (f : Nat) (listed : Array Bool) (a : Act) (w : World), HeadInv .any l.toArray n listed → Regs l { w0 with drawn := w0.drawn + 1 } a0 al D listed a w →
      ((List.range n).filter fun i => !listed.getD i false).length = f → wpAny P .any l.toArray Q (f + (l.length - n)) listed a w := by
    intro f
    induction f with
    | zero =>
      intro listed a w inv R hf
      have hall : ∀ i, i < n → listed.getD i false = true := by
        intro i hi
        have h0 := List.length_eq_zero_iff.1 hf
        have := List.filter_eq_nil_iff.1 h0 i (List.mem_range.2 hi)
        simpa using this
      have hl : listed = ((List.range l.length).map fun j => decide (j < n)).toArray := by
        apply Array.ext
        · rw [inv.size]; simp
        · intro i h1 h2
          have hil : i < l.length := by simpa using h2
          simp only [List.getElem_toArray, List.getElem_map, List.getElem_range]
          by_cases hi : i < n
          · have := hall i hi
            simp [h1] at this
            rw [this]; simp [hi]
          · have := inv.tail i (by omega) (by simpa using hil)
            simp [h1] at this
            rw [this]; simp [hi]
      have hw := hfin listed a w hall R
      rw [Nat.zero_add, hl]
      exact hw
    | succ f ih =>
      intro listed a w inv R hf
      rw [show f + 1 + (l.length - n) = (f + (l.length - n)) + 1 by omega]
      by_cases hcase : ∀ i, i < n - 1 → listed.getD i false = true
      · have hlast : listed.getD (n - 1) false = false := by
          cases hc2 : listed.getD (n - 1) false with
          | false => rfl
          | true =>
            have h0 : ((List.range n).filter fun i => !listed.getD i false) = [] := by
              rw [List.filter_eq_nil_iff]
              intro i hi
              have hin := List.mem_range.1 hi
              by_cases e : i = n - 1
              · subst e; simp [hc2]
              · have := hcase i (by omega); simp [this]
            rw [h0] at hf; simp at hf
        have hlen : ((List.range n).filter fun i => !listed.getD i false) = [n - 1] := by
          obtain ⟨m, rfl⟩ : ∃ m, n = m + 1 := ⟨n - 1, by omega⟩
          rw [List.range_succ, List.filter_append, List.filter_eq_nil_iff.2 (fun i hi => by have := hcase i (by have := List.mem_range.1 hi; omega); simp [this])]
          simp at hlast
          simp [hlast]
        rw [hlen] at hf
        obtain rfl : f = 0 := by simpa using hf.symm
        have hl : listed = allOn l (n - 1) := by
          apply Array.ext
          · rw [inv.size]; simp [allOn]
          · intro i h1 h2
            have hil : i < l.length := by simpa [allOn] using h2
            simp only [allOn, List.getElem_toArray, List.getElem_map, List.getElem_range]
            by_cases hi : i < n - 1
            · have := hcase i hi
              simp [h1] at this
              rw [this]; simp [hi]
            · by_cases e : i = n - 1
              · subst e
                simp [h1] at hlast
                rw [hlast]; simp
              · have := inv.tail i (by omega) (by simpa using hil)
                simp [h1] at this
                rw [this]; simp; omega
        have hw := hlate listed a w hcase R
        rw [Nat.zero_add, hl]
        exact hw
      -- one of the head is left: the first of them is ready
      have hex : ∃ i, i < n ∧ listed.getD i false = false := by
        have : 0 < ((List.range n).filter fun i => !listed.getD i false).length := by omega
        obtain ⟨i, hi⟩ := List.exists_mem_of_length_pos this
        rw [List.mem_filter] at hi
        exact ⟨i, List.mem_range.1 hi.1, by simpa using hi.2⟩
      have hleast : ∃ i, i < n ∧ listed.getD i false = false ∧ ∀ j, j < i → listed.getD j false = true := by
        obtain ⟨i0, h1, h2⟩ := hex
        clear hf ih
        induction i0 using Nat.strongRecOn with
        | _ i ihi =>
          by_cases h : ∃ j, j < i ∧ listed.getD j false = false
          · obtain ⟨j, hj, hl⟩ := h
            exact ihi j hj (by omega) hl
          · refine ⟨i, h1, h2, fun j hj => ?_⟩
            cases hc : listed.getD j false with
            | true => rfl
            | false => exact absurd ⟨j, hj, hc⟩ h
      obtain ⟨i0, hi0, hl0, hbefore⟩ := hleast
      have lsz : listed.size = l.length := by rw [inv.size]; simp
      have hready0 : i0 ∈ Region.ready .any l.toArray listed := by
        refine mem_ready.2 ⟨getD_in (by rw [lsz]; omega) hl0, l[i0]'(by omega), by simp, fun e he hb => ?_⟩
        exact hbefore _ (htop i0 hi0 _ (List.getElem?_eq_getElem (by omega)) e he hb)
      refine ⟨fun h => (by rw [h] at hready0; cases hready0), fun i hi => ?_⟩
      have hin : i < n := by
        rcases Nat.lt_or_ge i n with h | h
        · exact h
        · exfalso
          obtain ⟨_, oi, hoi, _⟩ := mem_ready.1 hi
          have hil : i < l.length := by have := (Array.getElem?_eq_some_iff.1 hoi).1; simpa using this
          have hex2 : ∃ k, k < n - 1 ∧ listed.getD k false = false := by
            refine Classical.byContradiction fun hno => hcase fun k hk => ?_
            cases hc3 : listed.getD k false with
            | true => rfl
            | false => exact absurd ⟨k, hk, hc3⟩ hno
          obtain ⟨k, hk, hkl⟩ := hex2
          exact tail_waitsC hsc.1 hsc.2.1 (by simp; exact hsc.2.2.2) hsc.2.2.1 inv _ k rfl hk (getD_in (by rw [lsz]; omega) hkl) i h hi
      obtain ⟨hun, oi, hoi', hall⟩ := mem_ready.1 hi
      have hoi : l[i]? = some oi := by simpa using hoi'
      unfold wpOp
      simp only [hoi']
      refine Regs.goalA (headA_of hok) hN R hin hoi hsteps hall (fun v w' hg hDv hfr => ?_)
      refine ih (listed.setIfInBounds i true) (a.put oi.dst v) w' (inv.set hi hin) (Regs.stepA (headA_of hok) hN hD hal lsz R hin hoi hg hDv hfr) ?_
      -- one fewer is left
      have hfun : ((List.range n).filter fun j => !(listed.setIfInBounds i true).getD j false) = ((List.range n).filter fun j => !listed.getD j false).filter fun j => decide (j ≠ i) := by
        rw [List.filter_filter]
        apply List.filter_congr
        intro j hj
        by_cases hij : i = j
        · subst hij
          have hil : i < listed.size := by rw [lsz]; omega
          simp [hil]
        · rw [getD_set_ne false hij]
          simp [Ne.symm hij]
      rw [hfun]
      have hmem : i ∈ (List.range n).filter fun j => !listed.getD j false := by
        rw [List.mem_filter]
        exact ⟨List.mem_range.2 hin, by rw [getD_both hun]; rfl⟩
      have hnod : ((List.range n).filter fun j => !listed.getD j false).Nodup := (List.filter_sublist).nodup List.nodup_range
      have hcount : ∀ (L : List Nat), L.Nodup → i ∈ L → (L.filter fun j => decide (j ≠ i)).length + 1 = L.length := by
        intro L hL hi
        induction L with
        | nil => cases hi
        | cons x L ihL =>
          rw [List.nodup_cons] at hL
          by_cases hx : x = i
          · subst hx
            rw [List.filter_cons_of_neg (by simp), List.filter_eq_self.2 (fun y hy => by simp; rintro rfl; exact hL.1 hy)]
            rfl
          · rw [List.filter_cons_of_pos (by simpa using hx)]
            have : i ∈ L := by
              rcases List.mem_cons.1 hi with h | h
              · exact absurd h.symm hx
              · exact h
            simp only [List.length_cons]
            rw [ihL hL.2 this]
      have := hcount _ hnod hmem
      omega
  have inv0 : HeadInv .any l.toArray n (Array.replicate l.toArray.size false) :=
    ⟨by simp, fun j oj _ hl => (by rw [getD_replicate_false] at hl; cases hl), fun t _ ht => getD_in (by simpa using ht) (getD_replicate_false _ _)⟩
  have hc : ((List.range n).filter fun i => !(Array.replicate l.toArray.size false).getD i false).length = n := by
    have : ((List.range n).filter fun i => !(Array.replicate l.toArray.size false).getD i false) = List.range n :=
      List.filter_eq_self.2 fun i _ => by rw [getD_replicate_false]; rfl
    rw [this, List.length_range]
  have := main n _ a0 _ inv0 Regs.start hc
  rwa [show n + (l.length - n) = l.toArray.size by simp; omega] at this
end
end Go.Rh
namespace Go.Rh
open Go.RowKit
section
variable {P : Program} {Q : Exit → Act → World → Prop}

/-- All of the head but the late ones are through before the tail begins. -/
def sinkL (ops : Array Oper) (n : Nat) (late : Nat → Bool) : Bool := (List.range n).all fun i => late i || (List.range (n + 1)).any fun j => decide (i < j) && (decide (j = n) || !late j) && Region.waitsFor .any ops j i
theorem tail_waitsL {ops : Array Oper} {n : Nat} {late : Nat → Bool} {listed : Array Bool} (hs : sinkL ops n late = true) (hc : Region.chainB .any ops n = true) (hn : n < ops.size) (inv : HeadInv .any ops n listed) :
    ∀ (d i : Nat), n - i = d → i < n → late i = false → listed.getD i true = false → ∀ t, n ≤ t → t ∉ Region.ready .any ops listed := by
  intro d
  induction d using Nat.strongRecOn with
  | _ d ih =>
    intro i hd hi hli hun t ht hr
    obtain ⟨_, ot, hot, hall⟩ := mem_ready.1 hr
    have htlt : t < ops.size := (Array.getElem?_eq_some_iff.1 hot).1
    by_cases htn : t = n
    · subst htn
      have h1 := List.all_eq_true.1 hs i (List.mem_range.2 hi)
      rw [hli, Bool.false_or] at h1
      obtain ⟨j, hj, hj2⟩ := List.any_eq_true.1 h1
      simp only [Bool.and_eq_true, Bool.or_eq_true, Bool.not_eq_true', decide_eq_true_eq] at hj2
      obtain ⟨oj, hoj, e, he, hb, hon⟩ := Region.waitsFor_spec hj2.2
      have hjle : j ≤ t := by have := List.mem_range.1 hj; omega
      by_cases hjt : j = t
      · subst hjt
        have : oj = ot := Option.some.inj (hoj.symm.trans hot)
        subst this
        have h2 := hall e he hb
        rw [hon, getD_both hun] at h2
        cases h2
      · cases hl : listed.getD j false with
        | true =>
          have h2 := inv.closed j oj hoj hl e he hb
          rw [hon, getD_both hun] at h2
          cases h2
        | false =>
          have hjs : j < listed.size := by rw [inv.size]; omega
          exact ih (t - j) (by omega) j rfl (by omega) (hj2.1.2.resolve_left hjt) (getD_in hjs hl) t (Nat.le_refl _) hr
    · have h1 := List.all_eq_true.1 hc t (List.mem_range.2 htlt)
      simp only [Bool.or_eq_true, decide_eq_true_eq] at h1
      rcases h1 with h1 | h1
      · omega
      · obtain ⟨o', ho', e, he, hb, hon⟩ := Region.waitsFor_spec h1
        have : o' = ot := Option.some.inj (ho'.symm.trans hot)
        subst this
        have h2 := hall e he hb
        rw [hon, getD_both (inv.tail (t - 1) (by omega) (by omega))] at h2
        cases h2


def headLate (l : List Oper) (n : Nat) (N : Nat) (late : Nat → Bool) : Bool :=
  decide (n ≤ l.length) && (l.filterMap (·.dst)).Nodup && (l.take n).all (fun o => match o.dst with | some d => decide (d < N) | none => false) &&
  (List.range n).all (fun i => match l[i]? with | some o => o.after.all fun e => !Region.binds .any e || decide (e.on < i) | none => false) &&
  (sinkL l.toArray n late && Region.chainB .any l.toArray n && decide (n < l.length))
structure HeadB (l : List Oper) (n N : Nat) : Prop where
  le : n ≤ l.length
  dst_head : ∀ (i : Nat) (o : Oper), i < n → l[i]? = some o → ∃ d, o.dst = some d ∧ d < N
  dst_inj : ∀ (i j : Nat) (oi oj : Oper) (d : Nat), l[i]? = some oi → l[j]? = some oj → oi.dst = some d → oj.dst = some d → i = j
  top : ∀ i, i < n → ∀ o, l[i]? = some o → ∀ e ∈ o.after, Region.binds .any e = true → e.on < i
  true_ : True
theorem headL_of {l : List Oper} {n N : Nat} {late : Nat → Bool} (hok : headLate l n N late = true) : HeadB l n N ∧ sinkL l.toArray n late = true ∧ Region.chainB .any l.toArray n = true ∧ n < l.length := by
  simp only [headLate, Bool.and_eq_true, decide_eq_true_eq] at hok
  obtain ⟨⟨⟨⟨hn, hnd⟩, hdst⟩, htop⟩, hsc⟩ := hok
  have hnd' : (l.filterMap (·.dst)).Nodup := by simpa using hnd
  refine ⟨⟨hn, ?_, filterMap_inj _ l hnd', ?_, trivial⟩, hsc.1.1, hsc.1.2, hsc.2⟩
  · intro i o hi ho
    have hmem : o ∈ l.take n := List.mem_of_getElem? (i := i) (by rw [List.getElem?_take, if_pos hi]; exact ho)
    have := List.all_eq_true.1 hdst o hmem
    cases hd : o.dst with
    | none => rw [hd] at this; cases this
    | some d => rw [hd] at this; exact ⟨d, rfl, by simpa using this⟩
  · intro i hi o ho e he hb
    have := List.all_eq_true.1 htop i (List.mem_range.2 hi)
    rw [ho] at this
    simp only [Array.all_eq_true_iff_forall_mem, Bool.or_eq_true, Bool.not_eq_true', decide_eq_true_eq] at this
    rcases this e he with h | h
    · rw [hb] at h; cases h
    · exact h

theorem Regs.stepB {l : List Oper} {n N : Nat} {w0 : World} {a0 : Act} {al : Nat → Bool} {D : Nat → Value → World → Prop} {listed : Array Bool} {a : Act} {w : World} (H : HeadB l n N) (hN : a0.tmps.size = N)
    (hD : ∀ i v w w', w.grownBy w' none → D i v w → D i v w') (hal : ∀ i b w, al i = true → D i (.pointer (some ⟨b, 0, none⟩)) w → b < w.heap.size)
    (lsz : listed.size = l.length) (R : Regs l w0 a0 al D listed a w) {i : Nat} {oi : Oper} (hin : i < n) (hoi : l[i]? = some oi) {v : Value} {w' : World} (hg : w.grownBy w' none) (hDv : D i v w')
    (hfr : al i = true → ∀ b, v = .pointer (some ⟨b, 0, none⟩) → w.heap.size ≤ b) : Regs l w0 a0 al D (listed.setIfInBounds i true) (a.put oi.dst v) w' := by
  obtain ⟨hn, dst_head, dst_inj, _, _⟩ := H
  obtain ⟨d, hd, hdN⟩ := dst_head i oi hin hoi
  have hsz : d < a.tmps.size := by rw [R.size, hN]; exact hdN
  refine ⟨grown_trans R.x hg, (put_defers _ _ _).trans R.defers, (put_size _ _ _).trans R.size, ?_, ?_, ?_, ?_⟩
  · intro j oj dj hoj hdj hlj
    by_cases hij : i = j
    · subst hij
      obtain rfl : oi = oj := Option.some.inj (hoi.symm.trans hoj)
      rw [hdj, put_same _ _ _ (by rw [hd] at hdj; rw [← Option.some.inj hdj]; exact hsz)]
      exact hDv
    · rw [getD_set_ne false hij] at hlj
      rw [put_other _ _ _ _ (fun e => hij (dst_inj i j oi oj dj hoi hoj e hdj))]
      exact hD _ _ _ _ hg (R.done j oj dj hoj hdj hlj)
  · intro k hk
    rw [put_other _ _ _ _ (hk oi (List.mem_of_getElem? hoi))]
    exact R.rest k hk
  · intro j oj dj hoj hdj hlj
    by_cases hij : i = j
    · subst hij
      have hil : i < listed.size := by rw [lsz]; exact (List.getElem?_eq_some_iff.1 hoi).1
      simp [hil] at hlj
    · rw [getD_set_ne false hij] at hlj
      rw [put_other _ _ _ _ (fun e => hij (dst_inj i j oi oj dj hoi hoj e hdj))]
      exact R.yet j oj dj hoj hdj hlj
  · intro p q op oq dp dq bp bq hpq ap aq hop hoq hdp hdq lp lq ep eq
    have key : ∀ (p q : Nat) (op oq : Oper) (dp dq bp bq : Nat), p ≠ q → al p = true → al q = true → l[p]? = some op → l[q]? = some oq → op.dst = some dp → oq.dst = some dq → p = i → listed.getD q false = true →
        (a.put oi.dst v).tmps[dp]?.getD undef = .pointer (some ⟨bp, 0, none⟩) → (a.put oi.dst v).tmps[dq]?.getD undef = .pointer (some ⟨bq, 0, none⟩) → bq < bp := by
      intro p q op oq dp dq bp bq hpq ap aq hop hoq hdp hdq hpi lq2 ep2 eq2
      subst hpi
      obtain rfl : oi = op := Option.some.inj (hoi.symm.trans hop)
      rw [hdp, put_same _ _ _ (by rw [hd] at hdp; rw [← Option.some.inj hdp]; exact hsz)] at ep2
      rw [put_other _ _ _ _ (fun e => hpq (dst_inj p q oi oq dq hoi hoq e hdq))] at eq2
      have h1 := hfr ap bp (by simpa using ep2)
      have h2 := R.done q oq dq hoq hdq lq2
      rw [eq2] at h2
      have h3 := hal q bq w aq h2
      omega
    by_cases hp : p = i
    · have lq' : listed.getD q false = true := by rw [getD_set_ne false (by rw [← hp]; exact hpq)] at lq; exact lq
      have := key p q op oq dp dq bp bq hpq ap aq hop hoq hdp hdq hp lq' ep eq
      omega
    · by_cases hq : q = i
      · have lp' : listed.getD p false = true := by rw [getD_set_ne false (Ne.symm hp)] at lp; exact lp
        have := key q p oq op dq dp bq bp (Ne.symm hpq) aq ap hoq hop hdq hdp hq lp' eq ep
        omega
      · rw [getD_set_ne false (Ne.symm hp)] at lp
        rw [getD_set_ne false (Ne.symm hq)] at lq
        rw [put_other _ _ _ _ (fun e => hp (dst_inj i p oi op dp hoi hop e hdp).symm)] at ep
        rw [put_other _ _ _ _ (fun e => hq (dst_inj i q oi oq dq hoi hoq e hdq).symm)] at eq
        exact R.apart p q op oq dp dq bp bq hpq ap aq hop hoq hdp hdq lp lq ep eq

/-- What one operation's goal gives, where those that it waits for are through. -/
theorem Regs.goalB {l : List Oper} {n N : Nat} {w0 : World} {a0 : Act} {al : Nat → Bool} {D : Nat → Value → World → Prop} {listed : Array Bool} {a : Act} {w : World} (H : HeadB l n N) (hN : a0.tmps.size = N)
    (R : Regs l w0 a0 al D listed a w) {i : Nat} {oi : Oper} (hin : i < n) (hoi : l[i]? = some oi) (hsteps : AllOK P Q l w0 a0 al D (l.take n) 0)
    (hall : ∀ e ∈ oi.after, Region.binds .any e = true → listed.getD e.on false = true) {K : Act → World → Prop}
    (hK : ∀ v w', w.grownBy w' none → D i v w' → (al i = true → ∀ b, v = .pointer (some ⟨b, 0, none⟩) → w.heap.size ≤ b) → K (a.put oi.dst v) w') :
    (if Region.wanted oi (yielded l.toArray a.tmps) then oi.wp P a w K Q ∨ (oi.asks P a w ∧ LetsOut Q) else K (a.put oi.dst undef) w) := by
  have hstep := allOK_at (l.take n) 0 hsteps i oi (by rw [List.getElem?_take, if_pos hin]; exact hoi)
  rw [Nat.zero_add] at hstep
  refine hstep a w R.x (fun k hk => R.rest k (spares_ne hk)) (fun j oj dj hw hoj hdj => ?_) K hK
  obtain ⟨e, he, hb, hej⟩ := waits_mem hw
  subst hej
  have hjn : e.on < n := Nat.lt_trans (H.top i hin oi hoi e he hb) hin
  obtain ⟨d', hd', hdN'⟩ := H.dst_head e.on oj hjn hoj
  obtain rfl : d' = dj := by rw [hdj] at hd'; exact (Option.some.inj hd').symm
  have hsz : d' < a.tmps.size := by rw [R.size, hN]; exact hdN'
  refine ⟨_, Array.getElem?_eq_getElem hsz, ?_⟩
  have := R.done e.on oj d' hoj hdj (hall e he hb)
  simpa [hsz] using this

theorem region_inv_late {id : Nat} {w0 : World} {a0 : Act} (l : List Oper) (n N : Nat) (late : Nat → Bool) (hm : P.follows .mixedOrders = true) (hN : a0.tmps.size = N) (hok : headLate l n N late = true)
    (al : Nat → Bool) (D : Nat → Value → World → Prop) (hD : ∀ i v w w', w.grownBy w' none → D i v w → D i v w') (hal : ∀ i b w, al i = true → D i (.pointer (some ⟨b, 0, none⟩)) w → b < w.heap.size)
    (hsteps : AllOK P Q l { w0 with drawn := w0.drawn + 1 } a0 al D (l.take n) 0)
    (hlate : ∀ (listed : Array Bool) (a : Act) (w : World), HeadInv .any l.toArray n listed → (∀ i, i < n → late i = false → listed.getD i false = true) → Regs l { w0 with drawn := w0.drawn + 1 } a0 al D listed a w →
      wpAny P .any l.toArray Q (((List.range n).filter fun i => !listed.getD i false).length + (l.length - n)) listed a w) :
    (Code.region id l.toArray true).wp P Q a0 w0 := by
  have H := (headL_of hok).1
  have hsc := (headL_of hok).2
  obtain ⟨hn, dst_head, dst_inj, htop, _⟩ := H
  refine wp_region_any hm ?_
  -- the induction over how many of the head are left
  have main : ∀ (f : Nat) (listed : Array Bool) (a : Act) (w : World), HeadInv .any l.toArray n listed → Regs l { w0 with drawn := w0.drawn + 1 } a0 al D listed a w →
      ((List.range n).filter fun i => !listed.getD i false).length = f → wpAny P .any l.toArray Q (f + (l.length - n)) listed a w := by
    intro f
    induction f with
    | zero =>
      intro listed a w inv R hf
      have hall : ∀ i, i < n → listed.getD i false = true := by
        intro i hi
        have h0 := List.length_eq_zero_iff.1 hf
        have := List.filter_eq_nil_iff.1 h0 i (List.mem_range.2 hi)
        simpa using this
      have := hlate listed a w inv (fun i hi _ => hall i hi) R
      rwa [hf] at this
    | succ f ih =>
      intro listed a w inv R hf
      by_cases hcase : ∀ i, i < n → late i = false → listed.getD i false = true
      · have := hlate listed a w inv hcase R
        rwa [hf] at this
      rw [show f + 1 + (l.length - n) = (f + (l.length - n)) + 1 by omega]
      -- one of the head is left: the first of them is ready
      have hex : ∃ i, i < n ∧ listed.getD i false = false := by
        have : 0 < ((List.range n).filter fun i => !listed.getD i false).length := by omega
        obtain ⟨i, hi⟩ := List.exists_mem_of_length_pos this
        rw [List.mem_filter] at hi
        exact ⟨i, List.mem_range.1 hi.1, by simpa using hi.2⟩
      have hleast : ∃ i, i < n ∧ listed.getD i false = false ∧ ∀ j, j < i → listed.getD j false = true := by
        obtain ⟨i0, h1, h2⟩ := hex
        clear hf ih
        induction i0 using Nat.strongRecOn with
        | _ i ihi =>
          by_cases h : ∃ j, j < i ∧ listed.getD j false = false
          · obtain ⟨j, hj, hl⟩ := h
            exact ihi j hj (by omega) hl
          · refine ⟨i, h1, h2, fun j hj => ?_⟩
            cases hc : listed.getD j false with
            | true => rfl
            | false => exact absurd ⟨j, hj, hc⟩ h
      obtain ⟨i0, hi0, hl0, hbefore⟩ := hleast
      have lsz : listed.size = l.length := by rw [inv.size]; simp
      have hready0 : i0 ∈ Region.ready .any l.toArray listed := by
        refine mem_ready.2 ⟨getD_in (by rw [lsz]; omega) hl0, l[i0]'(by omega), by simp, fun e he hb => ?_⟩
        exact hbefore _ (htop i0 hi0 _ (List.getElem?_eq_getElem (by omega)) e he hb)
      refine ⟨fun h => (by rw [h] at hready0; cases hready0), fun i hi => ?_⟩
      have hin : i < n := by
        rcases Nat.lt_or_ge i n with h | h
        · exact h
        · exfalso
          obtain ⟨_, oi, hoi, _⟩ := mem_ready.1 hi
          have hil : i < l.length := by have := (Array.getElem?_eq_some_iff.1 hoi).1; simpa using this
          have hex2 : ∃ k, k < n ∧ late k = false ∧ listed.getD k false = false := by
            refine Classical.byContradiction fun hno => hcase fun k hk hlk => ?_
            cases hc3 : listed.getD k false with
            | true => rfl
            | false => exact absurd ⟨k, hk, hlk, hc3⟩ hno
          obtain ⟨k, hk, hlk, hkl⟩ := hex2
          exact tail_waitsL hsc.1 hsc.2.1 (by simp; exact hsc.2.2) inv _ k rfl hk hlk (getD_in (by rw [lsz]; omega) hkl) i h hi
      obtain ⟨hun, oi, hoi', hall⟩ := mem_ready.1 hi
      have hoi : l[i]? = some oi := by simpa using hoi'
      unfold wpOp
      simp only [hoi']
      refine Regs.goalB ((headL_of hok).1) hN R hin hoi hsteps hall (fun v w' hg hDv hfr => ?_)
      refine ih (listed.setIfInBounds i true) (a.put oi.dst v) w' (inv.set hi hin) (Regs.stepB ((headL_of hok).1) hN hD hal lsz R hin hoi hg hDv hfr) ?_
      -- one fewer is left
      have hfun : ((List.range n).filter fun j => !(listed.setIfInBounds i true).getD j false) = ((List.range n).filter fun j => !listed.getD j false).filter fun j => decide (j ≠ i) := by
        rw [List.filter_filter]
        apply List.filter_congr
        intro j hj
        by_cases hij : i = j
        · subst hij
          have hil : i < listed.size := by rw [lsz]; omega
          simp [hil]
        · rw [getD_set_ne false hij]
          simp [Ne.symm hij]
      rw [hfun]
      have hmem : i ∈ (List.range n).filter fun j => !listed.getD j false := by
        rw [List.mem_filter]
        exact ⟨List.mem_range.2 hin, by rw [getD_both hun]; rfl⟩
      have hnod : ((List.range n).filter fun j => !listed.getD j false).Nodup := (List.filter_sublist).nodup List.nodup_range
      have hcount : ∀ (L : List Nat), L.Nodup → i ∈ L → (L.filter fun j => decide (j ≠ i)).length + 1 = L.length := by
        intro L hL hi
        induction L with
        | nil => cases hi
        | cons x L ihL =>
          rw [List.nodup_cons] at hL
          by_cases hx : x = i
          · subst hx
            rw [List.filter_cons_of_neg (by simp), List.filter_eq_self.2 (fun y hy => by simp; rintro rfl; exact hL.1 hy)]
            rfl
          · rw [List.filter_cons_of_pos (by simpa using hx)]
            have : i ∈ L := by
              rcases List.mem_cons.1 hi with h | h
              · exact absurd h.symm hx
              · exact h
            simp only [List.length_cons]
            rw [ihL hL.2 this]
      have := hcount _ hnod hmem
      omega
  have inv0 : HeadInv .any l.toArray n (Array.replicate l.toArray.size false) :=
    ⟨by simp, fun j oj _ hl => (by rw [getD_replicate_false] at hl; cases hl), fun t _ ht => getD_in (by simpa using ht) (getD_replicate_false _ _)⟩
  have hc : ((List.range n).filter fun i => !(Array.replicate l.toArray.size false).getD i false).length = n := by
    have : ((List.range n).filter fun i => !(Array.replicate l.toArray.size false).getD i false) = List.range n :=
      List.filter_eq_self.2 fun i _ => by rw [getD_replicate_false]; rfl
    rw [this, List.length_range]
  have := main n _ a0 _ inv0 Regs.start hc
  rwa [show n + (l.length - n) = l.toArray.size by simp; omega] at this
end
end Go.Rh
