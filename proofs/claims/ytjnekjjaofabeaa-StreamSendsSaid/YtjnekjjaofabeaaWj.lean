/-
  A region that draws its order: a head whose operations each have one value in every world of a class (calls among them), then stores whose order is forced: ONE walk of the head in the text's order serves every order.
-/
import Derived.Test.YtjnekjjaofabeaaI
import Derived.Deep.QuietTactic
import Derived.BigQuiet
namespace Go.Rh
open Go.RowKit

section
variable {P : Program} {Q : Exit → Act → World → Prop}

/-- As `headOK`, but the tail may hand things back. -/
def headTail (l : List Oper) (n : Nat) (N : Nat) : Bool :=
  decide (n ≤ l.length) && ((l.take n).map (·.dst)).Nodup && (l.take n).all (fun o => match o.dst with | some d => decide (d < N) | none => false) &&
  (List.range n).all (fun i => match l[i]? with | some o => o.after.all fun e => !Region.binds .any e || decide (e.on < i) | none => false) &&
  (decide (n = l.length) || (Region.sinkB .any l.toArray n && Region.chainB .any l.toArray n)) &&
  Region.seqB .any l.toArray (l.length - n) n ((List.range l.length).map fun j => decide (j < n)).toArray
structure HeadT (l : List Oper) (n N : Nat) : Prop where
  le : n ≤ l.length
  dst_head : ∀ (i : Nat) (o : Oper), i < n → l[i]? = some o → ∃ d, o.dst = some d ∧ d < N
  dst_inj : ∀ (i j : Nat) (oi oj : Oper) (d : Nat), i < n → j < n → l[i]? = some oi → l[j]? = some oj → oi.dst = some d → oj.dst = some d → i = j
  top : ∀ i, i < n → ∀ o, l[i]? = some o → ∀ e ∈ o.after, Region.binds .any e = true → e.on < i
  sink : n = l.length ∨ (Region.sinkB .any l.toArray n = true ∧ Region.chainB .any l.toArray n = true)
  seq : Region.seqB .any l.toArray (l.length - n) n ((List.range l.length).map fun j => decide (j < n)).toArray = true
theorem headT_of {l : List Oper} {n N : Nat} (hok : headTail l n N = true) : HeadT l n N := by
  simp only [headTail, Bool.and_eq_true, decide_eq_true_eq] at hok
  obtain ⟨⟨⟨⟨⟨hn, hnd⟩, hdst⟩, htop⟩, hsc⟩, hseq⟩ := hok
  have hnd' : ((l.take n).map (·.dst)).Nodup := by simpa using hnd
  refine ⟨hn, ?_, ?_, ?_, ?_, hseq⟩
  · intro i o hi ho
    have hmem : o ∈ l.take n := List.mem_of_getElem? (i := i) (by rw [List.getElem?_take, if_pos hi]; exact ho)
    have := List.all_eq_true.1 hdst o hmem
    cases hd : o.dst with
    | none => rw [hd] at this; cases this
    | some d => rw [hd] at this; exact ⟨d, rfl, by simpa using this⟩
  · intro i j oi oj d hi' hj' hi hj di dj
    have e1 : ((l.take n).map (·.dst))[i]? = some (some d) := by rw [List.getElem?_map, List.getElem?_take, if_pos hi', hi]; simp [di]
    have e2 : ((l.take n).map (·.dst))[j]? = some (some d) := by rw [List.getElem?_map, List.getElem?_take, if_pos hj', hj]; simp [dj]
    exact (List.getElem?_inj (by
      have := (List.getElem?_eq_some_iff.1 e1).1; exact this) hnd').1 (e1.trans e2.symm)
  · intro i hi o ho e he hb
    have := List.all_eq_true.1 htop i (List.mem_range.2 hi)
    rw [ho] at this
    simp only [Array.all_eq_true_iff_forall_mem, Bool.or_eq_true, Bool.not_eq_true', decide_eq_true_eq] at this
    rcases this e he with h | h
    · rw [hb] at h; cases h
    · exact h
  · simpa only [Bool.or_eq_true, Bool.and_eq_true, decide_eq_true_eq] using hsc

/-- Each operand of the head's operations is a slot that the region does not write, or one that the operation waits for; no guard, no select. -/
def localOK (l : List Oper) (n : Nat) : Bool :=
  (List.range n).all fun i => match l[i]? with
    | some o => o.guard.isNone && (match o.op with | .select _ _ => false | _ => true) && o.op.operands.all fun x => match x with
      | .tmp t => spares (l.take n) t || (List.range n).any fun j => decide (j < i) && waits o j && (match l[j]? with | some oj => oj.dst == some t | none => false)
      | _ => true
    | none => false

structure LocalAt (l : List Oper) (n i : Nat) (o : Oper) : Prop where
  guard : o.guard = none
  sel : ∀ cs b, o.op ≠ .select cs b
  look : ∀ t, Operand.tmp t ∈ o.op.operands → spares (l.take n) t = true ∨ ∃ j oj, j < i ∧ j < n ∧ waits o j = true ∧ l[j]? = some oj ∧ oj.dst = some t

theorem local_at {l : List Oper} {n i : Nat} {o : Oper} (h : localOK l n = true) (hi : i < n) (ho : l[i]? = some o) : LocalAt l n i o := by
  have := List.all_eq_true.1 h i (List.mem_range.2 hi)
  rw [ho] at this
  simp only [Bool.and_eq_true] at this
  obtain ⟨⟨hg, hs⟩, hl⟩ := this
  refine ⟨by simpa using hg, (fun cs b e => by rw [e] at hs; cases hs), fun t ht => ?_⟩
  have := Array.all_eq_true_iff_forall_mem.1 hl (.tmp t) ht
  simp only [Bool.or_eq_true, List.any_eq_true, Bool.and_eq_true, decide_eq_true_eq] at this
  rcases this with h | ⟨j, hj, ⟨hji, hw⟩, hd⟩
  · exact .inl h
  · right
    cases hoj : l[j]? with
    | none => rw [hoj] at hd; cases hd
    | some oj =>
      rw [hoj] at hd
      exact ⟨j, oj, hji, List.mem_range.1 hj, hw, hoj, by simpa using hd⟩

/-- The frame behind the first operations, in the text's order. -/
def seqA (l : List Oper) (a0 : Act) (vs : Nat → Value) : Nat → Act
  | 0 => a0
  | i + 1 => (seqA l a0 vs i).put ((l[i]?).bind (·.dst)) (vs i)

theorem seqA_size (l : List Oper) (a0 : Act) (vs : Nat → Value) : ∀ i, (seqA l a0 vs i).tmps.size = a0.tmps.size
  | 0 => rfl
  | i + 1 => by show ((seqA l a0 vs i).put _ _).tmps.size = _; rw [put_size]; exact seqA_size l a0 vs i
theorem seqA_defers (l : List Oper) (a0 : Act) (vs : Nat → Value) : ∀ i, (seqA l a0 vs i).defers = a0.defers
  | 0 => rfl
  | i + 1 => by show ((seqA l a0 vs i).put _ _).defers = _; rw [put_defers]; exact seqA_defers l a0 vs i
theorem seqA_spare (l : List Oper) (a0 : Act) (vs : Nat → Value) {n t : Nat} (h : spares (l.take n) t = true) : ∀ i, i ≤ n → (seqA l a0 vs i).tmps[t]? = a0.tmps[t]?
  | 0, _ => rfl
  | i + 1, hi => by
    show ((seqA l a0 vs i).put _ _).tmps[t]? = _
    rw [put_other _ _ _ _ ?_]
    · exact seqA_spare l a0 vs h i (by omega)
    · cases ho : l[i]? with
      | none => simp
      | some o => exact spares_ne h o (List.mem_of_getElem? (i := i) (by rw [List.getElem?_take, if_pos (by omega)]; exact ho))
theorem seqA_at (l : List Oper) {n N : Nat} {a0 : Act} (vs : Nat → Value) (H : HeadT l n N) (hN : a0.tmps.size = N) {j t : Nat} {oj : Oper} (hj : j < n) (hoj : l[j]? = some oj) (hd : oj.dst = some t) :
    ∀ i, j < i → i ≤ n → (seqA l a0 vs i).tmps[t]? = some (vs j)
  | i + 1, hji, hin => by
    obtain ⟨t', ht', hlt⟩ := H.dst_head j oj hj hoj
    obtain rfl : t' = t := by rw [hd] at ht'; exact (Option.some.inj ht').symm
    show ((seqA l a0 vs i).put _ _).tmps[t']? = _
    by_cases hij : j = i
    · subst hij
      rw [hoj]
      show ((seqA l a0 vs j).put oj.dst _).tmps[t']? = _
      rw [hd, put_same _ _ _ (by rw [seqA_size, hN]; exact hlt)]
    · rw [put_other _ _ _ _ ?_]
      · exact seqA_at l vs H hN hj hoj hd i (by omega) (by omega)
      · cases ho : l[i]? with
        | none => simp
        | some oi => exact fun e => hij (H.dst_inj j i oj oi t' hj (by omega) hoj ho hd e)

/-- What the walk in the text's order shows: the values, one by one. -/
theorem values_of {C : World → Prop} {l : List Oper} {a0 : Act} {F : Act → Prop} : ∀ (m i : Nat) (vs : Nat → Value), (∀ j, j < m → ∃ o, l[i + j]? = some o ∧ o.guard = none) →
    wpQuiet P l.toArray C F ((l.drop i).take m) (seqA l a0 vs i) →
    ∃ us : Nat → Value, (∀ k, k < i → us k = vs k) ∧ (∀ j o, j < m → l[i + j]? = some o → ∀ w, C w → o.quietAt P (seqA l a0 us (i + j)) C w (us (i + j))) ∧ F (seqA l a0 us (i + m))
  | 0, i, vs, _, h => ⟨vs, fun _ _ => rfl, fun _ _ hj => absurd hj (Nat.not_lt_zero _), by simpa [wpQuiet] using h⟩
  | m + 1, i, vs, hl, h => by
    obtain ⟨o, ho, hg⟩ := hl 0 (by omega)
    rw [Nat.add_zero] at ho
    have hil : i < l.length := (List.getElem?_eq_some_iff.1 ho).1
    have e : (l.drop i).take (m + 1) = o :: (l.drop (i + 1)).take m := by
      rw [List.drop_eq_getElem_cons hil, List.take_succ_cons]
      congr 1
      rw [List.getElem?_eq_getElem hil] at ho
      exact Option.some.inj ho
    rw [e] at h
    simp only [wpQuiet] at h
    rw [if_pos (by simp [Region.wanted, hg])] at h
    obtain ⟨v, hv, hn⟩ := h
    let vs' : Nat → Value := fun k => if k = i then v else vs k
    have hsame : ∀ k, k ≤ i → seqA l a0 vs' k = seqA l a0 vs k := by
      intro k hk
      induction k with
      | zero => rfl
      | succ k ih =>
        show (seqA l a0 vs' k).put _ _ = (seqA l a0 vs k).put _ _
        rw [ih (by omega)]
        show (seqA l a0 vs k).put _ (if k = i then v else vs k) = _
        rw [if_neg (by omega)]
    have hnext : seqA l a0 vs' (i + 1) = (seqA l a0 vs i).put o.dst v := by
      show (seqA l a0 vs' i).put ((l[i]?).bind (·.dst)) (vs' i) = _
      rw [hsame i (Nat.le_refl _), ho]
      show (seqA l a0 vs i).put o.dst (if i = i then v else vs i) = _
      rw [if_pos rfl]
    rw [← hnext] at hn
    obtain ⟨us, h1, h2, h3⟩ := values_of m (i + 1) vs' (fun j hj => by have := hl (j + 1) (by omega); rwa [show i + (j + 1) = i + 1 + j by omega] at this) hn
    have hus : us i = v := by rw [h1 i (by omega)]; show (if i = i then v else vs i) = v; rw [if_pos rfl]
    have hseq : ∀ k, k ≤ i → seqA l a0 us k = seqA l a0 vs k := by
      intro k hk
      induction k with
      | zero => rfl
      | succ k ih =>
        show (seqA l a0 us k).put _ _ = (seqA l a0 vs k).put _ _
        rw [ih (by omega), h1 k (by omega)]
        show (seqA l a0 vs k).put _ (if k = i then v else vs k) = _
        rw [if_neg (by omega)]
    refine ⟨us, fun k hk => ?_, fun j o' hj ho' w hw => ?_, by rwa [show i + (m + 1) = i + 1 + m by omega]⟩
    · rw [h1 k (by omega)]; show (if k = i then v else vs k) = _; rw [if_neg (by omega)]
    · cases j with
      | zero =>
        rw [Nat.add_zero] at ho' ⊢
        obtain rfl : o = o' := Option.some.inj (ho.symm.trans ho')
        rw [hseq i (Nat.le_refl _), hus]
        exact hv w hw
      | succ j =>
        rw [show i + (j + 1) = i + 1 + j by omega] at ho' ⊢
        exact h2 j o' (by omega) ho' w hw

/-- What is known while the region runs. -/
structure RegsC (l : List Oper) (n : Nat) (a0 : Act) (vs : Nat → Value) (listed : Array Bool) (a : Act) : Prop where
  defers : a.defers = a0.defers
  size : a.tmps.size = a0.tmps.size
  done : ∀ i o d, i < n → l[i]? = some o → o.dst = some d → listed.getD i false = true → a.tmps[d]? = some (vs i)
  rest : ∀ k, (∀ o ∈ l.take n, o.dst ≠ some k) → a.tmps[k]? = a0.tmps[k]?

theorem RegsC.step {l : List Oper} {n N : Nat} {a0 : Act} {vs : Nat → Value} {listed : Array Bool} {a : Act} (H : HeadT l n N) (hN : a0.tmps.size = N) (R : RegsC l n a0 vs listed a) {i : Nat} {oi : Oper} (hin : i < n) (hoi : l[i]? = some oi) :
    RegsC l n a0 vs (listed.setIfInBounds i true) (a.put oi.dst (vs i)) := by
  obtain ⟨d, hd, hdN⟩ := H.dst_head i oi hin hoi
  refine ⟨(put_defers _ _ _).trans R.defers, (put_size _ _ _).trans R.size, fun j oj dj hjn hoj hdj hlj => ?_, fun k hk => ?_⟩
  · by_cases hij : i = j
    · subst hij
      obtain rfl : oi = oj := Option.some.inj (hoi.symm.trans hoj)
      rw [hdj, put_same _ _ _ (by rw [R.size, hN]; rw [hd] at hdj; rw [← Option.some.inj hdj]; exact hdN)]
    · rw [getD_set_ne false hij] at hlj
      rw [put_other _ _ _ _ (fun e => hij (H.dst_inj i j oi oj dj hin hjn hoi hoj e hdj))]
      exact R.done j oj dj hjn hoj hdj hlj
  · rw [put_other _ _ _ _ (hk oi (List.mem_of_getElem? (i := i) (by rw [List.getElem?_take, if_pos hin]; exact hoi)))]
    exact R.rest k hk

/-- The frame when the head is through. -/
theorem RegsC.end_ {l : List Oper} {n N : Nat} {a0 : Act} {vs : Nat → Value} {listed : Array Bool} {a : Act} (H : HeadT l n N) (hN : a0.tmps.size = N) (R : RegsC l n a0 vs listed a) (hall : ∀ i, i < n → listed.getD i false = true) : a = seqA l a0 vs n := by
  have ht : a.tmps = (seqA l a0 vs n).tmps := by
    apply Array.ext_getElem?
    intro t
    by_cases hs : spares (l.take n) t = true
    · rw [seqA_spare l a0 vs hs n (Nat.le_refl _), R.rest t (spares_ne hs)]
    · have : ∃ o ∈ l.take n, o.dst = some t := by
        unfold spares at hs
        rw [List.all_eq_true] at hs
        rcases Classical.em (∃ o ∈ l.take n, o.dst = some t) with h | h
        · exact h
        · exact absurd (fun o ho => by simpa using fun e => h ⟨o, ho, e⟩) hs
      obtain ⟨o, hm, hd⟩ := this
      obtain ⟨i, hi⟩ := List.mem_iff_getElem?.1 hm
      rw [List.getElem?_take] at hi
      split at hi
      · rename_i hin
        rw [R.done i o t hin hi hd (hall i hin), seqA_at l vs H hN hin hi hd n hin (Nat.le_refl _)]
      · cases hi
  have hdf : a.defers = (seqA l a0 vs n).defers := by rw [R.defers, seqA_defers]
  obtain ⟨t1, d1⟩ := a
  generalize seqA l a0 vs n = b at ht hdf ⊢
  obtain ⟨t2, d2⟩ := b
  simp only at ht hdf
  rw [ht, hdf]

theorem quiet_at {l : List Oper} {n N : Nat} {C : World → Prop} {a0 : Act} {vs : Nat → Value} {listed : Array Bool} {a : Act} {w : World} (H : HeadT l n N) (hN : a0.tmps.size = N) (R : RegsC l n a0 vs listed a)
    (hv : ∀ i o, i < n → l[i]? = some o → ∀ w, C w → o.quietAt P (seqA l a0 vs i) C w (vs i)) {i : Nat} {oi : Oper} (hin : i < n) (hoi : l[i]? = some oi) (L : LocalAt l n i oi)
    (hall : ∀ e ∈ oi.after, Region.binds .any e = true → listed.getD e.on false = true) (hw : C w) {K : Act → World → Prop} (hK : ∀ w', C w' → K (a.put oi.dst (vs i)) w') :
    (if Region.wanted oi (yielded l.toArray a.tmps) then oi.wp P a w K Q ∨ (oi.asks P a w ∧ LetsOut Q) else K (a.put oi.dst undef) w) := by
  rw [if_pos (by simp [Region.wanted, L.guard])]
  left
  have e : execOp a.eval oi = execOp (seqA l a0 vs i).eval oi := by
    refine execOp_congr oi L.sel fun x hx => ?_
    cases x with
    | tmp t =>
      have ht : a.tmps[t]? = (seqA l a0 vs i).tmps[t]? := by
        rcases L.look t hx with hs | ⟨j, oj, hji, hjn, hwt, hoj, hd⟩
        · rw [R.rest t (spares_ne hs), seqA_spare l a0 vs hs i (by omega)]
        · obtain ⟨e, he, hb, hej⟩ := waits_mem hwt
          rw [R.done j oj t hjn hoj hd (by rw [← hej]; exact hall e he hb), seqA_at l vs H hN hjn hoj hd i hji (by omega)]
      simp [Act.eval, ht]
    | const v => rfl
    | global g => rfl
    | func f => rfl
  refine Oper.wp_of_quiet (C := C) (K := fun a' => a' = a.put oi.dst (vs i)) hw (fun a' w' hw' he => by rw [he]; exact hK w' hw') ⟨vs i, fun w' hw' => ?_, rfl⟩
  have := hv i oi hin hoi w' hw'
  unfold Oper.quietAt at *
  rw [e]
  exact this

theorem region_tail_any {w0 : World} {a0 : Act} (l : List Oper) (n N : Nat) (C : World → Prop) (hN : a0.tmps.size = N) (hok : headTail l n N = true) (hlo : localOK l n = true)
    (hC : C { w0 with drawn := w0.drawn + 1 }) (h : wpQuiet P l.toArray C (fun a => ∀ w, C w → wpList P l.toArray Q (l.drop n) a w) (l.take n) a0) : wpAny P .any l.toArray Q l.toArray.size (Array.replicate l.toArray.size false) a0 { w0 with drawn := w0.drawn + 1 } := by
  have H := headT_of hok
  obtain ⟨vs, _, hv, hF⟩ := values_of (P := P) (C := C) (l := l) (a0 := a0) (F := fun a => ∀ w, C w → wpList P l.toArray Q (l.drop n) a w) n 0 (fun _ => undef) (fun j hj => by
    have hjl : j < l.length := Nat.lt_of_lt_of_le hj H.le
    exact ⟨l[j], by rw [Nat.zero_add]; exact List.getElem?_eq_getElem hjl, (local_at hlo hj (List.getElem?_eq_getElem hjl)).guard⟩) (by simpa [seqA] using h)
  simp only [Nat.zero_add] at hv hF
  have hv' : ∀ i o, i < n → l[i]? = some o → ∀ w, C w → o.quietAt P (seqA l a0 vs i) C w (vs i) := fun i o hi ho w hw => hv i o hi ho w hw
  obtain ⟨hn, dst_head, dst_inj, htop, hsc, hseq⟩ := H
  have main : ∀ (f : Nat) (listed : Array Bool) (a : Act) (w : World), HeadInv .any l.toArray n listed → RegsC l n a0 vs listed a → C w →
      ((List.range n).filter fun i => !listed.getD i false).length = f → wpAny P .any l.toArray Q (f + (l.length - n)) listed a w := by
    intro f
    induction f with
    | zero =>
      intro listed a w inv R hw hf
      have hall : ∀ i, i < n → listed.getD i false = true := by
        intro i hi
        have h0 := List.length_eq_zero_iff.1 hf
        have := List.filter_eq_nil_iff.1 h0 i (List.mem_range.2 hi)
        simpa using this
      have hl : listed = ((List.range l.length).map fun j => decide (j < n)).toArray := by
        apply Array.ext
        · rw [inv.size]; simp
        · intro i h1 h2
          have hil : i < l.length := by simpa using h2
          simp only [List.getElem_toArray, List.getElem_map, List.getElem_range]
          by_cases hi : i < n
          · have := hall i hi
            simp [h1] at this
            rw [this]; simp [hi]
          · have := inv.tail i (by omega) (by simpa using hil)
            simp [h1] at this
            rw [this]; simp [hi]
      have hw := hF w hw
      rw [← R.end_ (headT_of hok) hN hall] at hw
      have hdl : (l.drop n).length = l.length - n := by simp
      have := wpAny_of_seq (P := P) (md := .any) (ops := l.toArray) (Q' := Q) (l.drop n) n listed a w (fun j => by simp [List.getElem?_drop]) (by rw [hdl, hl]; exact hseq) hw
      rw [hdl] at this
      rwa [Nat.zero_add]
    | succ f ih =>
      intro listed a w inv R hw hf
      rw [show f + 1 + (l.length - n) = (f + (l.length - n)) + 1 by omega]
      have hex : ∃ i, i < n ∧ listed.getD i false = false := by
        have : 0 < ((List.range n).filter fun i => !listed.getD i false).length := by omega
        obtain ⟨i, hi⟩ := List.exists_mem_of_length_pos this
        rw [List.mem_filter] at hi
        exact ⟨i, List.mem_range.1 hi.1, by simpa using hi.2⟩
      have hleast : ∃ i, i < n ∧ listed.getD i false = false ∧ ∀ j, j < i → listed.getD j false = true := by
        obtain ⟨i0, h1, h2⟩ := hex
        clear hf ih
        induction i0 using Nat.strongRecOn with
        | _ i ihi =>
          by_cases h : ∃ j, j < i ∧ listed.getD j false = false
          · obtain ⟨j, hj, hl⟩ := h
            exact ihi j hj (by omega) hl
          · refine ⟨i, h1, h2, fun j hj => ?_⟩
            cases hc : listed.getD j false with
            | true => rfl
            | false => exact absurd ⟨j, hj, hc⟩ h
      obtain ⟨i0, hi0, hl0, hbefore⟩ := hleast
      have lsz : listed.size = l.length := by rw [inv.size]; simp
      have hready0 : i0 ∈ Region.ready .any l.toArray listed := by
        refine mem_ready.2 ⟨getD_in (by rw [lsz]; omega) hl0, l[i0]'(by omega), by simp, fun e he hb => ?_⟩
        exact hbefore _ (htop i0 hi0 _ (List.getElem?_eq_getElem (by omega)) e he hb)
      refine ⟨fun h => (by rw [h] at hready0; cases hready0), fun i hi => ?_⟩
      have hin : i < n := by
        rcases Nat.lt_or_ge i n with h | h
        · exact h
        · exfalso
          obtain ⟨_, oi, hoi, _⟩ := mem_ready.1 hi
          have hil : i < l.length := by have := (Array.getElem?_eq_some_iff.1 hoi).1; simpa using this
          rcases hsc with e | ⟨hs, hc⟩
          · omega
          · exact tail_waits hs hc (by simp; omega) inv _ i0 rfl hi0 (getD_in (by rw [lsz]; omega) hl0) i h hi
      obtain ⟨hun, oi, hoi', hall⟩ := mem_ready.1 hi
      have hoi : l[i]? = some oi := by simpa using hoi'
      unfold wpOp
      simp only [hoi']
      refine quiet_at (headT_of hok) hN R hv' hin hoi (local_at hlo hin hoi) hall hw (fun w' hw' => ?_)
      refine ih (listed.setIfInBounds i true) (a.put oi.dst (vs i)) w' (inv.set hi hin) (R.step (headT_of hok) hN hin hoi) hw' ?_
      have hfun : ((List.range n).filter fun j => !(listed.setIfInBounds i true).getD j false) = ((List.range n).filter fun j => !listed.getD j false).filter fun j => decide (j ≠ i) := by
        rw [List.filter_filter]
        apply List.filter_congr
        intro j hj
        by_cases hij : i = j
        · subst hij
          have hil : i < listed.size := by rw [lsz]; omega
          simp [hil]
        · rw [getD_set_ne false hij]
          simp [Ne.symm hij]
      rw [hfun]
      have hmem : i ∈ (List.range n).filter fun j => !listed.getD j false := by
        rw [List.mem_filter]
        exact ⟨List.mem_range.2 hin, by rw [getD_both hun]; rfl⟩
      have hnod : ((List.range n).filter fun j => !listed.getD j false).Nodup := (List.filter_sublist).nodup List.nodup_range
      have hcount : ∀ (L : List Nat), L.Nodup → i ∈ L → (L.filter fun j => decide (j ≠ i)).length + 1 = L.length := by
        intro L hL hi
        induction L with
        | nil => cases hi
        | cons x L ihL =>
          rw [List.nodup_cons] at hL
          by_cases hx : x = i
          · subst hx
            rw [List.filter_cons_of_neg (by simp), List.filter_eq_self.2 (fun y hy => by simp; rintro rfl; exact hL.1 hy)]
            rfl
          · rw [List.filter_cons_of_pos (by simpa using hx)]
            have : i ∈ L := by
              rcases List.mem_cons.1 hi with h | h
              · exact absurd h.symm hx
              · exact h
            simp only [List.length_cons]
            rw [ihL hL.2 this]
      have := hcount _ hnod hmem
      omega
  have inv0 : HeadInv .any l.toArray n (Array.replicate l.toArray.size false) :=
    ⟨by simp, fun j oj _ hl => (by rw [getD_replicate_false] at hl; cases hl), fun t _ ht => getD_in (by simpa using ht) (getD_replicate_false _ _)⟩
  have hc : ((List.range n).filter fun i => !(Array.replicate l.toArray.size false).getD i false).length = n := by
    rw [List.filter_eq_self.2 (fun i _ => by rw [getD_replicate_false]; rfl)]; simp
  have := main n _ a0 _ inv0 ⟨rfl, rfl, fun i o d _ _ _ hl => (by rw [getD_replicate_false] at hl; cases hl), fun _ _ => rfl⟩ hC hc
  have e2 : n + (l.length - n) = l.length := by omega
  rw [e2] at this
  simpa using this

theorem region_tail {id : Nat} {w0 : World} {a0 : Act} (l : List Oper) (n N : Nat) (C : World → Prop) (hm : P.follows .mixedOrders = true) (hN : a0.tmps.size = N) (hok : headTail l n N = true) (hlo : localOK l n = true)
    (hC : C { w0 with drawn := w0.drawn + 1 }) (h : wpQuiet P l.toArray C (fun a => ∀ w, C w → wpList P l.toArray Q (l.drop n) a w) (l.take n) a0) : (Code.region id l.toArray true).wp P Q a0 w0 :=
  wp_region_any hm (region_tail_any l n N C hN hok hlo hC h)
/-- At the class of the worlds behind some draws. -/
theorem region_tail_drew {id : Nat} {w0 : World} {a0 : Act} {l : List Oper} (n N : Nat) (hm : P.follows .mixedOrders = true) (hN : a0.tmps.size = N) (hok : headTail l n N = true) (hlo : localOK l n = true)
    (h : wpQuiet P l.toArray (fun w' => ∃ m, w' = w0.drewN m) (fun a => ∀ w, (∃ m, w = w0.drewN m) → wpList P l.toArray Q (l.drop n) a w) (l.take n) a0) : (Code.region id l.toArray true).wp P Q a0 w0 :=
  region_tail l n N (fun w' => ∃ m, w' = w0.drewN m) hm hN hok hlo ⟨1, rfl⟩ h
/-- At the class of the worlds with new blocks. -/
theorem region_tail_grown {id : Nat} {w0 : World} {a0 : Act} {l : List Oper} (n N : Nat) (hm : P.follows .mixedOrders = true) (hN : a0.tmps.size = N) (hok : headTail l n N = true) (hlo : localOK l n = true)
    (h : wpQuiet P l.toArray (fun w' => w0.grownBy w' none) (fun a => ∀ w, w0.grownBy w none → wpList P l.toArray Q (l.drop n) a w) (l.take n) a0) : (Code.region id l.toArray true).wp P Q a0 w0 :=
  region_tail l n N (fun w' => w0.grownBy w' none) hm hN hok hlo ⟨rfl, rfl, rfl, Nat.le_refl _, fun _ _ _ => rfl⟩ h
end
end Go.Rh
