/-
  A region that draws its order, with one store in it behind which some operations (`late`) may still come: the head's operations have one value each before the store, the late ones the same behind it; the tail's order is forced.
-/
import Derived.Test.YtjnekjjaofabeaaWj
namespace Go.Rh
open Go.RowKit

section
variable {P : Program} {Q : Exit → Act → World → Prop}

def storeMid (l : List Oper) (s : Nat) (late : Nat → Bool) : Bool :=
  match l[s]? with
  | some o => o.dst.isNone && o.guard.isNone && (match o.op with | .select _ _ => false | _ => true) && ((List.range s).all fun i => late i || waits o i) && (o.op.operands.all fun x => match x with
      | .tmp t => spares (l.take s) t || (List.range s).any fun j => waits o j && (match l[j]? with | some oj => oj.dst == some t | none => false)
      | _ => true)
  | none => false
def headMid (l : List Oper) (s : Nat) (N : Nat) (late : Nat → Bool) : Bool :=
  decide (s + 1 ≤ l.length) && ((l.take s).map (·.dst)).Nodup && (l.take s).all (fun o => match o.dst with | some d => decide (d < N) | none => false) &&
  storeMid l s late &&
  (List.range (s + 1)).all (fun i => match l[i]? with | some o => o.after.all fun e => !Region.binds .any e || decide (e.on < i) | none => false) &&
  (decide (s + 1 = l.length) || (Region.sinkB .any l.toArray (s + 1) && Region.chainB .any l.toArray (s + 1))) &&
  Region.seqB .any l.toArray (l.length - (s + 1)) (s + 1) ((List.range l.length).map fun j => decide (j < s + 1)).toArray

structure HeadM (l : List Oper) (s N : Nat) (late : Nat → Bool) : Prop where
  le : s + 1 ≤ l.length
  dst_head : ∀ (i : Nat) (o : Oper), i < s → l[i]? = some o → ∃ d, o.dst = some d ∧ d < N
  dst_inj : ∀ (i j : Nat) (oi oj : Oper) (d : Nat), i < s → j < s → l[i]? = some oi → l[j]? = some oj → oi.dst = some d → oj.dst = some d → i = j
  store : ∃ o, l[s]? = some o ∧ o.dst = none ∧ o.guard = none ∧ (∀ cs b, o.op ≠ .select cs b) ∧ (∀ i, i < s → late i = false → waits o i = true) ∧
    ∀ t, Operand.tmp t ∈ o.op.operands → spares (l.take s) t = true ∨ ∃ j oj, j < s ∧ waits o j = true ∧ l[j]? = some oj ∧ oj.dst = some t
  top : ∀ i, i < s + 1 → ∀ o, l[i]? = some o → ∀ e ∈ o.after, Region.binds .any e = true → e.on < i
  sink : s + 1 = l.length ∨ (Region.sinkB .any l.toArray (s + 1) = true ∧ Region.chainB .any l.toArray (s + 1) = true)
  seq : Region.seqB .any l.toArray (l.length - (s + 1)) (s + 1) ((List.range l.length).map fun j => decide (j < s + 1)).toArray = true
theorem headM_of {l : List Oper} {s N : Nat} {late : Nat → Bool} (hok : headMid l s N late = true) : HeadM l s N late := by
  simp only [headMid, Bool.and_eq_true, decide_eq_true_eq] at hok
  obtain ⟨⟨⟨⟨⟨⟨hn, hnd⟩, hdst⟩, hst⟩, htop⟩, hsc⟩, hseq⟩ := hok
  have hnd' : ((l.take s).map (·.dst)).Nodup := by simpa using hnd
  refine ⟨hn, ?_, ?_, ?_, ?_, ?_, hseq⟩
  · intro i o hi ho
    have hmem : o ∈ l.take s := List.mem_of_getElem? (i := i) (by rw [List.getElem?_take, if_pos hi]; exact ho)
    have := List.all_eq_true.1 hdst o hmem
    cases hd : o.dst with
    | none => rw [hd] at this; cases this
    | some d => rw [hd] at this; exact ⟨d, rfl, by simpa using this⟩
  · intro i j oi oj d hi' hj' hi hj di dj
    have e1 : ((l.take s).map (·.dst))[i]? = some (some d) := by rw [List.getElem?_map, List.getElem?_take, if_pos hi', hi]; simp [di]
    have e2 : ((l.take s).map (·.dst))[j]? = some (some d) := by rw [List.getElem?_map, List.getElem?_take, if_pos hj', hj]; simp [dj]
    exact (List.getElem?_inj (by
      have := (List.getElem?_eq_some_iff.1 e1).1; exact this) hnd').1 (e1.trans e2.symm)
  · unfold storeMid at hst
    cases ho : l[s]? with
    | none => rw [ho] at hst; cases hst
    | some o =>
      rw [ho] at hst
      simp only [Bool.and_eq_true] at hst
      obtain ⟨⟨⟨⟨h1, h2⟩, h3⟩, h4⟩, h5⟩ := hst
      refine ⟨o, rfl, by simpa using h1, by simpa using h2, (fun cs b e => by rw [e] at h3; cases h3), fun i hi hl => ?_, fun t ht => ?_⟩
      · have := List.all_eq_true.1 h4 i (List.mem_range.2 hi)
        rw [hl] at this
        simpa using this
      · have := Array.all_eq_true_iff_forall_mem.1 h5 (.tmp t) ht
        simp only [Bool.or_eq_true, List.any_eq_true, Bool.and_eq_true] at this
        rcases this with h | ⟨j, hj, hw, hd⟩
        · exact .inl h
        · right
          cases hoj : l[j]? with
          | none => rw [hoj] at hd; cases hd
          | some oj =>
            rw [hoj] at hd
            exact ⟨j, oj, List.mem_range.1 hj, hw, hoj, by simpa using hd⟩
  · intro i hi o ho e he hb
    have := List.all_eq_true.1 htop i (List.mem_range.2 hi)
    rw [ho] at this
    simp only [Array.all_eq_true_iff_forall_mem, Bool.or_eq_true, Bool.not_eq_true', decide_eq_true_eq] at this
    rcases this e he with h | h
    · rw [hb] at h; cases h
    · exact h
  · simpa only [Bool.or_eq_true, Bool.and_eq_true, decide_eq_true_eq] using hsc

/-- The walk of the head in the text's order: one value each, behind the store too for the late ones. -/
def wpMid (P : Program) (late : Nat → Bool) (C0 C1 : World → Prop) (F : Act → Prop) : Nat → List Oper → Act → Prop
  | _, [], a => F a
  | i, o :: rest, a => ∃ v, (∀ w, C0 w → o.quietAt P a C0 w v) ∧ (late i = true → ∀ w, C1 w → o.quietAt P a C1 w v) ∧ wpMid P late C0 C1 F (i + 1) rest (a.put o.dst v)

theorem wpMid_mono {late : Nat → Bool} {C0 C1 : World → Prop} {F G : Act → Prop} (hFG : ∀ a, F a → G a) : ∀ (i : Nat) (l : List Oper) (a : Act), wpMid P late C0 C1 F i l a → wpMid P late C0 C1 G i l a
  | _, [], a, h => hFG a h
  | i, o :: rest, a, h => by
    obtain ⟨v, h0, h1, h2⟩ := h
    exact ⟨v, h0, h1, wpMid_mono hFG (i + 1) rest _ h2⟩
theorem seqA_eq {l : List Oper} {a0 : Act} {us vs : Nat → Value} : ∀ {k : Nat}, (∀ j, j < k → us j = vs j) → seqA l a0 us k = seqA l a0 vs k
  | 0, _ => rfl
  | k + 1, h => by
    show (seqA l a0 us k).put _ _ = (seqA l a0 vs k).put _ _
    rw [seqA_eq (k := k) (fun j hj => h j (by omega)), h k (by omega)]
theorem mid_values {late : Nat → Bool} {C0 C1 : World → Prop} {l : List Oper} {a0 : Act} {F : Act → Prop} : ∀ (m i : Nat) (vs : Nat → Value), i + m ≤ l.length →
    wpMid P late C0 C1 F i ((l.drop i).take m) (seqA l a0 vs i) →
    ∃ us : Nat → Value, (∀ k, k < i → us k = vs k) ∧ (∀ j o, i ≤ j → j < i + m → l[j]? = some o → (∀ w, C0 w → o.quietAt P (seqA l a0 us j) C0 w (us j)) ∧ (late j = true → ∀ w, C1 w → o.quietAt P (seqA l a0 us j) C1 w (us j))) ∧ F (seqA l a0 us (i + m))
  | 0, i, vs, _, h => ⟨vs, fun _ _ => rfl, fun j o h1 h2 => by omega, by simpa [wpMid] using h⟩
  | m + 1, i, vs, hl, h => by
    have hil : i < l.length := by omega
    have e : (l.drop i).take (m + 1) = l[i] :: (l.drop (i + 1)).take m := by rw [List.drop_eq_getElem_cons hil, List.take_succ_cons]
    rw [e] at h
    obtain ⟨v, hv0, hv1, hn⟩ := h
    let vs' : Nat → Value := fun k => if k = i then v else vs k
    have hsame : seqA l a0 vs' i = seqA l a0 vs i := seqA_eq fun j hj => by show (if j = i then v else vs j) = _; rw [if_neg (by omega)]
    have hnext : seqA l a0 vs' (i + 1) = (seqA l a0 vs i).put l[i].dst v := by
      show (seqA l a0 vs' i).put ((l[i]?).bind (·.dst)) (vs' i) = _
      rw [hsame, List.getElem?_eq_getElem hil]
      show (seqA l a0 vs i).put l[i].dst (if i = i then v else vs i) = _
      rw [if_pos rfl]
    rw [← hnext] at hn
    obtain ⟨us, h1, h2, h3⟩ := mid_values m (i + 1) vs' (by omega) hn
    have hus : us i = v := by rw [h1 i (by omega)]; show (if i = i then v else vs i) = v; rw [if_pos rfl]
    refine ⟨us, fun k hk => by rw [h1 k (by omega)]; show (if k = i then v else vs k) = _; rw [if_neg (by omega)], fun j o hij hj ho => ?_, by rwa [show i + (m + 1) = i + 1 + m by omega]⟩
    rcases Nat.lt_or_eq_of_le hij with h | rfl
    · exact h2 j o h (by omega) ho
    · rw [List.getElem?_eq_getElem hil] at ho
      obtain rfl := Option.some.inj ho
      rw [seqA_eq (us := us) (vs := vs) (k := i) (fun j hj => by rw [h1 j (by omega)]; show (if j = i then v else vs j) = _; rw [if_neg (Nat.ne_of_lt hj)]), hus]
      exact ⟨hv0, hv1⟩

theorem seqM_at (l : List Oper) {s N : Nat} {late : Nat → Bool} {a0 : Act} (vs : Nat → Value) (H : HeadM l s N late) (hN : a0.tmps.size = N) {j t : Nat} {oj : Oper} (hj : j < s) (hoj : l[j]? = some oj) (hd : oj.dst = some t) :
    ∀ i, j < i → i ≤ s → (seqA l a0 vs i).tmps[t]? = some (vs j)
  | i + 1, hji, hin => by
    obtain ⟨t', ht', hlt⟩ := H.dst_head j oj hj hoj
    obtain rfl : t' = t := by rw [hd] at ht'; exact (Option.some.inj ht').symm
    show ((seqA l a0 vs i).put _ _).tmps[t']? = _
    by_cases hij : j = i
    · subst hij
      rw [hoj]
      show ((seqA l a0 vs j).put oj.dst _).tmps[t']? = _
      rw [hd, put_same _ _ _ (by rw [seqA_size, hN]; exact hlt)]
    · rw [put_other _ _ _ _ ?_]
      · exact seqM_at l vs H hN hj hoj hd i (by omega) (by omega)
      · cases ho : l[i]? with
        | none => simp
        | some oi => exact fun e => hij (H.dst_inj j i oj oi t' hj (by omega) hoj ho hd e)
theorem RegsC.stepM {l : List Oper} {s N : Nat} {late : Nat → Bool} {a0 : Act} {vs : Nat → Value} {listed : Array Bool} {a : Act} (H : HeadM l s N late) (hN : a0.tmps.size = N) (R : RegsC l s a0 vs listed a) {i : Nat} {oi : Oper} (hin : i < s) (hoi : l[i]? = some oi) :
    RegsC l s a0 vs (listed.setIfInBounds i true) (a.put oi.dst (vs i)) := by
  obtain ⟨d, hd, hdN⟩ := H.dst_head i oi hin hoi
  refine ⟨(put_defers _ _ _).trans R.defers, (put_size _ _ _).trans R.size, fun j oj dj hjn hoj hdj hlj => ?_, fun k hk => ?_⟩
  · by_cases hij : i = j
    · subst hij
      obtain rfl : oi = oj := Option.some.inj (hoi.symm.trans hoj)
      rw [hdj, put_same _ _ _ (by rw [R.size, hN]; rw [hd] at hdj; rw [← Option.some.inj hdj]; exact hdN)]
    · rw [getD_set_ne false hij] at hlj
      rw [put_other _ _ _ _ (fun e => hij (H.dst_inj i j oi oj dj hin hjn hoi hoj e hdj))]
      exact R.done j oj dj hjn hoj hdj hlj
  · rw [put_other _ _ _ _ (hk oi (List.mem_of_getElem? (i := i) (by rw [List.getElem?_take, if_pos hin]; exact hoi)))]
    exact R.rest k hk
theorem RegsC.endM {l : List Oper} {s N : Nat} {late : Nat → Bool} {a0 : Act} {vs : Nat → Value} {listed : Array Bool} {a : Act} (H : HeadM l s N late) (hN : a0.tmps.size = N) (R : RegsC l s a0 vs listed a) (hall : ∀ i, i < s → listed.getD i false = true) : a = seqA l a0 vs s := by
  have ht : a.tmps = (seqA l a0 vs s).tmps := by
    apply Array.ext_getElem?
    intro t
    by_cases hs : spares (l.take s) t = true
    · rw [seqA_spare l a0 vs hs s (Nat.le_refl _), R.rest t (spares_ne hs)]
    · have : ∃ o ∈ l.take s, o.dst = some t := by
        unfold spares at hs
        rw [List.all_eq_true] at hs
        rcases Classical.em (∃ o ∈ l.take s, o.dst = some t) with h | h
        · exact h
        · exact absurd (fun o ho => by simpa using fun e => h ⟨o, ho, e⟩) hs
      obtain ⟨o, hm, hd⟩ := this
      obtain ⟨i, hi⟩ := List.mem_iff_getElem?.1 hm
      rw [List.getElem?_take] at hi
      split at hi
      · rename_i hin
        rw [R.done i o t hin hi hd (hall i hin), seqM_at l vs H hN hin hi hd s hin (Nat.le_refl _)]
      · cases hi
  have hdf : a.defers = (seqA l a0 vs s).defers := by rw [R.defers, seqA_defers]
  obtain ⟨t1, d1⟩ := a
  generalize seqA l a0 vs s = b at ht hdf ⊢
  obtain ⟨t2, d2⟩ := b
  simp only at ht hdf
  rw [ht, hdf]
theorem look_at {l : List Oper} {s N i : Nat} {late : Nat → Bool} {a0 : Act} {vs : Nat → Value} {listed : Array Bool} {a : Act} (H : HeadM l s N late) (hN : a0.tmps.size = N) (R : RegsC l s a0 vs listed a) {oi : Oper} (hi : i ≤ s)
    (hlook : ∀ t, Operand.tmp t ∈ oi.op.operands → spares (l.take s) t = true ∨ ∃ j oj, j < i ∧ j < s ∧ waits oi j = true ∧ l[j]? = some oj ∧ oj.dst = some t) (hsel : ∀ cs b, oi.op ≠ .select cs b)
    (hall : ∀ e ∈ oi.after, Region.binds .any e = true → listed.getD e.on false = true) : execOp a.eval oi = execOp (seqA l a0 vs i).eval oi := by
  refine execOp_congr oi hsel fun x hx => ?_
  cases x with
  | tmp t =>
    have ht : a.tmps[t]? = (seqA l a0 vs i).tmps[t]? := by
      rcases hlook t hx with hs | ⟨j, oj, hji, hjn, hwt, hoj, hd⟩
      · rw [R.rest t (spares_ne hs), seqA_spare l a0 vs hs i hi]
      · obtain ⟨e, he, hb, hej⟩ := waits_mem hwt
        rw [R.done j oj t hjn hoj hd (by rw [← hej]; exact hall e he hb), seqM_at l vs H hN hjn hoj hd i hji hi]
    simp [Act.eval, ht]
  | const v => rfl
  | global g => rfl
  | func f => rfl

/-- What is left behind the head: the store, then the rest. -/
def MidEnd (P : Program) (Q : Exit → Act → World → Prop) (l : List Oper) (s : Nat) (C0 C1 : World → Prop) (a : Act) : Prop :=
  (∀ o, l[s]? = some o → ∀ w, C0 w → ∃ w', (execOp a.eval o).run P w = .ok .skip w' ∧ C1 w') ∧ ∀ w, C1 w → wpList P l.toArray Q (l.drop (s + 1)) a w
theorem mid_end {l : List Oper} {s : Nat} {late : Nat → Bool} {C0 C1 : World → Prop} {i : Nat} {a : Act} (h1 : ∀ o, l[s]? = some o → ∀ w, C0 w → ∃ w', (execOp a.eval o).run P w = .ok .skip w' ∧ C1 w') (h2 : ∀ w, C1 w → wpList P l.toArray Q (l.drop (s + 1)) a w) :
    wpMid P late C0 C1 (MidEnd P Q l s C0 C1) i [] a := ⟨h1, h2⟩
theorem region_mid {id : Nat} {w0 : World} {a0 : Act} (l : List Oper) (s N : Nat) (late : Nat → Bool) (C0 C1 : World → Prop) (hm : P.follows .mixedOrders = true) (hN : a0.tmps.size = N) (hok : headMid l s N late = true) (hlo : localOK l s = true)
    (hC : C0 { w0 with drawn := w0.drawn + 1 })
    (h : wpMid P late C0 C1 (MidEnd P Q l s C0 C1) 0 (l.take s) a0) :
    (Code.region id l.toArray true).wp P Q a0 w0 := by
  have H := headM_of hok
  obtain ⟨vs, _, hv, hst, hF⟩ := mid_values (P := P) (late := late) (C0 := C0) (C1 := C1) (l := l) (a0 := a0) s 0 (fun _ => undef) (by have := H.le; omega) (by simpa [seqA] using h)
  simp only [Nat.zero_add] at hv hF hst
  obtain ⟨os, hos, hsd, hsg, hssel, hslate, hslook⟩ := H.store
  have hle := H.le
  refine wp_region_any hm ?_
  have main : ∀ (f : Nat) (listed : Array Bool) (a : Act) (w : World), HeadInv .any l.toArray (s + 1) listed → RegsC l s a0 vs listed a → ((listed.getD s false = false ∧ C0 w) ∨ (listed.getD s false = true ∧ C1 w)) →
      ((List.range (s + 1)).filter fun i => !listed.getD i false).length = f → wpAny P .any l.toArray Q (f + (l.length - (s + 1))) listed a w := by
    intro f
    induction f with
    | zero =>
      intro listed a w inv R hw hf
      have hall : ∀ i, i < s + 1 → listed.getD i false = true := by
        intro i hi
        have h0 := List.length_eq_zero_iff.1 hf
        have := List.filter_eq_nil_iff.1 h0 i (List.mem_range.2 hi)
        simpa using this
      have hw1 : C1 w := by
        rcases hw with ⟨h, _⟩ | ⟨_, h⟩
        · rw [hall s (by omega)] at h; cases h
        · exact h
      have hl : listed = ((List.range l.length).map fun j => decide (j < s + 1)).toArray := by
        apply Array.ext
        · rw [inv.size]; simp
        · intro i h1 h2
          have hil : i < l.length := by simpa using h2
          simp only [List.getElem_toArray, List.getElem_map, List.getElem_range]
          by_cases hi : i < s + 1
          · have := hall i hi
            simp [h1] at this
            rw [this]; simp [hi]
          · have := inv.tail i (by omega) (by simpa using hil)
            simp [h1] at this
            rw [this]; simp [hi]
      have hw := hF w hw1
      rw [← R.endM H hN (fun i hi => hall i (by omega))] at hw
      have hdl : (l.drop (s + 1)).length = l.length - (s + 1) := by simp
      have := wpAny_of_seq (P := P) (md := .any) (ops := l.toArray) (Q' := Q) (l.drop (s + 1)) (s + 1) listed a w (fun j => by simp [List.getElem?_drop]) (by rw [hdl, hl]; exact H.seq) hw
      rw [hdl] at this
      rwa [Nat.zero_add]
    | succ f ih =>
      intro listed a w inv R hw hf
      rw [show f + 1 + (l.length - (s + 1)) = (f + (l.length - (s + 1))) + 1 by omega]
      have hex : ∃ i, i < s + 1 ∧ listed.getD i false = false := by
        have : 0 < ((List.range (s + 1)).filter fun i => !listed.getD i false).length := by omega
        obtain ⟨i, hi⟩ := List.exists_mem_of_length_pos this
        rw [List.mem_filter] at hi
        exact ⟨i, List.mem_range.1 hi.1, by simpa using hi.2⟩
      have hleast : ∃ i, i < s + 1 ∧ listed.getD i false = false ∧ ∀ j, j < i → listed.getD j false = true := by
        obtain ⟨i0, h1, h2⟩ := hex
        clear hf ih
        induction i0 using Nat.strongRecOn with
        | _ i ihi =>
          by_cases h : ∃ j, j < i ∧ listed.getD j false = false
          · obtain ⟨j, hj, hl⟩ := h
            exact ihi j hj (by omega) hl
          · refine ⟨i, h1, h2, fun j hj => ?_⟩
            cases hc : listed.getD j false with
            | true => rfl
            | false => exact absurd ⟨j, hj, hc⟩ h
      obtain ⟨i0, hi0, hl0, hbefore⟩ := hleast
      have lsz : listed.size = l.length := by rw [inv.size]; simp
      have hready0 : i0 ∈ Region.ready .any l.toArray listed := by
        refine mem_ready.2 ⟨getD_in (by rw [lsz]; omega) hl0, l[i0]'(by omega), by simp, fun e he hb => ?_⟩
        exact hbefore _ (H.top i0 hi0 _ (List.getElem?_eq_getElem (by omega)) e he hb)
      refine ⟨fun h => (by rw [h] at hready0; cases hready0), fun i hi => ?_⟩
      have hin : i < s + 1 := by
        rcases Nat.lt_or_ge i (s + 1) with h | h
        · exact h
        · exfalso
          obtain ⟨_, oi, hoi, _⟩ := mem_ready.1 hi
          have hil : i < l.length := by have := (Array.getElem?_eq_some_iff.1 hoi).1; simpa using this
          rcases H.sink with e | ⟨hs, hc⟩
          · omega
          · exact tail_waits hs hc (by simp; omega) inv _ i0 rfl hi0 (getD_in (by rw [lsz]; omega) hl0) i h hi
      obtain ⟨hun, oi, hoi', hall⟩ := mem_ready.1 hi
      have hoi : l[i]? = some oi := by simpa using hoi'
      have next : ∀ (a' : Act) (w' : World), RegsC l s a0 vs (listed.setIfInBounds i true) a' → (((listed.setIfInBounds i true).getD s false = false ∧ C0 w') ∨ ((listed.setIfInBounds i true).getD s false = true ∧ C1 w')) →
          wpAny P .any l.toArray Q (f + (l.length - (s + 1))) (listed.setIfInBounds i true) a' w' := by
        intro a' w' R' hw'
        refine ih (listed.setIfInBounds i true) a' w' (inv.set hi hin) R' hw' ?_
        have hfun : ((List.range (s + 1)).filter fun j => !(listed.setIfInBounds i true).getD j false) = ((List.range (s + 1)).filter fun j => !listed.getD j false).filter fun j => decide (j ≠ i) := by
          rw [List.filter_filter]
          apply List.filter_congr
          intro j hj
          by_cases hij : i = j
          · subst hij
            have hil : i < listed.size := by rw [lsz]; omega
            simp [hil]
          · rw [getD_set_ne false hij]
            simp [Ne.symm hij]
        rw [hfun]
        have hmem : i ∈ (List.range (s + 1)).filter fun j => !listed.getD j false := by
          rw [List.mem_filter]
          exact ⟨List.mem_range.2 hin, by rw [getD_both hun]; rfl⟩
        have hnod : ((List.range (s + 1)).filter fun j => !listed.getD j false).Nodup := (List.filter_sublist).nodup List.nodup_range
        have hcount : ∀ (L : List Nat), L.Nodup → i ∈ L → (L.filter fun j => decide (j ≠ i)).length + 1 = L.length := by
          intro L hL hi
          induction L with
          | nil => cases hi
          | cons x L ihL =>
            rw [List.nodup_cons] at hL
            by_cases hx : x = i
            · subst hx
              rw [List.filter_cons_of_neg (by simp), List.filter_eq_self.2 (fun y hy => by simp; rintro rfl; exact hL.1 hy)]
              rfl
            · rw [List.filter_cons_of_pos (by simpa using hx)]
              have : i ∈ L := by
                rcases List.mem_cons.1 hi with h | h
                · exact absurd h.symm hx
                · exact h
              simp only [List.length_cons]
              rw [ihL hL.2 this]
        have := hcount _ hnod hmem
        omega
      unfold wpOp
      simp only [hoi']
      by_cases his : i = s
      · subst his
        obtain rfl : os = oi := Option.some.inj (hos.symm.trans hoi)
        have hC0 : C0 w := by
          rcases hw with ⟨_, h⟩ | ⟨h, _⟩
          · exact h
          · rw [getD_both hun] at h; cases h
        rw [if_pos (by simp [Region.wanted, hsg])]
        left
        obtain ⟨w', hr, hC1⟩ := hst os hos w hC0
        rw [← look_at H hN R (Nat.le_refl _) (fun t ht => by
          rcases hslook t ht with h | ⟨j, oj, h1, h2, h3, h4⟩
          · exact .inl h
          · exact .inr ⟨j, oj, h1, h1, h2, h3, h4⟩) hssel hall] at hr
        unfold Oper.wp
        rw [hr]
        show wpAny P .any l.toArray Q _ _ (a.put os.dst undef) w'
        rw [hsd]
        refine next a w' ⟨R.defers, R.size, fun j oj d hj hoj hd hlj => R.done j oj d hj hoj hd (by rwa [getD_set_ne false (by omega)] at hlj), R.rest⟩ (.inr ⟨?_, hC1⟩)
        have hil : i < listed.size := by rw [lsz]; omega
        simp [hil]
      · have hi' : i < s := by omega
        have L := local_at hlo hi' hoi
        rw [if_pos (by simp [Region.wanted, L.guard])]
        left
        have e := look_at (i := i) H hN R (Nat.le_of_lt hi') (fun t ht => by
          rcases L.look t ht with h | ⟨j, oj, h1, h2, h3⟩
          · exact .inl h
          · exact .inr ⟨j, oj, h1, h2, h3⟩) L.sel hall
        rcases hw with ⟨hls, hC0⟩ | ⟨hls, hC1⟩
        · refine Oper.wp_of_quiet (C := C0) (K := fun a' => a' = a.put oi.dst (vs i)) hC0 (fun a' w' hw' he => by rw [he]; exact next _ w' (R.stepM H hN hi' hoi) (.inl ⟨by rw [getD_set_ne false his]; exact hls, hw'⟩)) ⟨vs i, fun w' hw' => ?_, rfl⟩
          have := (hv i oi (Nat.zero_le _) hi' hoi).1 w' hw'
          unfold Oper.quietAt at *
          rw [e]
          exact this
        · have hlate : late i = true := by
            cases hli : late i with
            | true => rfl
            | false =>
              exfalso
              obtain ⟨e', he', hb', hej⟩ := waits_mem (hslate i hi' hli)
              have := inv.closed s os (by simpa using hos) hls e' he' hb'
              rw [hej] at this
              rw [getD_both hun] at this; cases this
          refine Oper.wp_of_quiet (C := C1) (K := fun a' => a' = a.put oi.dst (vs i)) hC1 (fun a' w' hw' he => by rw [he]; exact next _ w' (R.stepM H hN hi' hoi) (.inr ⟨by rw [getD_set_ne false his]; exact hls, hw'⟩)) ⟨vs i, fun w' hw' => ?_, rfl⟩
          have := (hv i oi (Nat.zero_le _) hi' hoi).2 hlate w' hw'
          unfold Oper.quietAt at *
          rw [e]
          exact this
  have inv0 : HeadInv .any l.toArray (s + 1) (Array.replicate l.toArray.size false) :=
    ⟨by simp, fun j oj _ hl => (by rw [getD_replicate_false] at hl; cases hl), fun t _ ht => getD_in (by simpa using ht) (getD_replicate_false _ _)⟩
  have hc : ((List.range (s + 1)).filter fun i => !(Array.replicate l.toArray.size false).getD i false).length = s + 1 := by
    rw [List.filter_eq_self.2 (fun i _ => by rw [getD_replicate_false]; rfl)]; simp
  have := main (s + 1) _ a0 _ inv0 ⟨rfl, rfl, fun i o d _ _ _ hl => (by rw [getD_replicate_false] at hl; cases hl), fun _ _ => rfl⟩ (.inl ⟨getD_replicate_false _ _, hC⟩) hc
  have e2 : s + 1 + (l.length - (s + 1)) = l.length := by omega
  rw [e2] at this
  simpa using this
theorem mid_run {late : Nat → Bool} {C0 C1 : World → Prop} {F : Act → Prop} {i : Nat} {o : Oper} {rest : List Oper} {a : Act} (v : Value) (h0 : ∀ w, C0 w → (execOp a.eval o).run P w = .ok (.value v) w) (h1 : late i = true → ∀ w, C1 w → (execOp a.eval o).run P w = .ok (.value v) w)
    (h : wpMid P late C0 C1 F (i + 1) rest (a.put o.dst v)) : wpMid P late C0 C1 F i (o :: rest) a :=
  ⟨v, fun w hw => by unfold Oper.quietAt; rw [h0 w hw]; exact ⟨rfl, rfl⟩, fun hl w hw => by unfold Oper.quietAt; rw [h1 hl w hw]; exact ⟨rfl, rfl⟩, h⟩
/-- As above, the frame behind the head under a name. -/
theorem region_midA {id : Nat} {w0 : World} {a0 : Act} (l : List Oper) (s N : Nat) (late : Nat → Bool) (C0 C1 : World → Prop) (A : Act) (hm : P.follows .mixedOrders = true) (hN : a0.tmps.size = N) (hok : headMid l s N late = true) (hlo : localOK l s = true)
    (hC : C0 { w0 with drawn := w0.drawn + 1 }) (h : wpMid P late C0 C1 (fun a => a = A) 0 (l.take s) a0)
    (hst : ∀ o, l[s]? = some o → ∀ w, C0 w → ∃ w', (execOp A.eval o).run P w = .ok .skip w' ∧ C1 w') (ht : ∀ w, C1 w → wpList P l.toArray Q (l.drop (s + 1)) A w) :
    (Code.region id l.toArray true).wp P Q a0 w0 := by
  refine region_mid l s N late C0 C1 hm hN hok hlo hC (wpMid_mono ?_ _ _ _ h)
  rintro a rfl
  exact ⟨hst, ht⟩
end
end Go.Rh
