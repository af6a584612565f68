/-
  What may be known of the results of a region whose tail may come in more than one order; a tail of a build and two stores.
-/
import Derived.Test.YtikmghmapmlebaaYf
import Derived.Test.YtikmghmapmlebaaYh
namespace Go.Proofs.Ytikmghmapmlebaa
open Go.RowKit Go.Rh F255

theorem kk_mono (S : List Kk) : ∀ i v w w', World.grownBy w w' none → kkAt S i v w → kkAt S i v w' := fun i v w w' hg h => by
  unfold kkAt at *
  split at h
  · exact Kk.mono hg h
  · trivial
theorem kk_new (S : List Kk) : ∀ i b w, newKk S i = true → kkAt S i (.pointer (some ⟨b, 0, none⟩)) w → b < w.heap.size := fun i b w ha h => by
  unfold kkAt newKk at *
  split at h
  · rename_i s hs
    rw [hs] at ha
    cases s <;> simp [Kk.isNew] at ha
    obtain ⟨b', hb, hc, _⟩ := h
    simp at hb; subst hb; exact heap_lt hc
  · rename_i hs
    rw [hs] at ha; cases ha

theorem region_kk_any {P : Program} {Q : Exit → Act → World → Prop} {id : Nat} {w0 : World} {a0 : Act} (l : List Oper) (N : Nat) (S : List Kk) (n m : Nat) (hn : S.length = n) (hl : l.length = n + m) (hm : P.follows .mixedOrders = true) (hN : a0.tmps.size = N) (hok : headAny l n N = true)
    (hsteps : ∀ w1, w0.grownBy w1 none → AllOK P Q l w1 a0 (newKk S) (kkAt S) (l.take n) 0)
    (hfin : ∀ (a : Act) w, World.grownBy w0 w none → a.tmps.size = N → a.defers = a0.defers → (∀ k, spares l k = true → a.tmps[k]? = a0.tmps[k]?) →
      (∀ (i : Nat) (s : Kk) (o : Oper) (d : Nat), i < n → S[i]? = some s → l[i]? = some o → o.dst = some d → ∃ v, a.tmps[d]? = some v ∧ s.holds v w) →
      wpAny P .any l.toArray Q m (allOn l n) a w)
    (hlate : ∀ (a : Act) w, World.grownBy w0 w none → a.tmps.size = N → a.defers = a0.defers → (∀ k, spares l k = true → a.tmps[k]? = a0.tmps[k]?) →
      (∀ (i : Nat) (s : Kk) (o : Oper) (d : Nat), i < n - 1 → S[i]? = some s → l[i]? = some o → o.dst = some d → ∃ v, a.tmps[d]? = some v ∧ s.holds v w) →
      wpAny P .any l.toArray Q (m + 1) (allOn l (n - 1)) a w) :
    (Code.region id l.toArray true).wp P Q a0 w0 := by
  subst hn
  have HA := headA_of hok
  have key : ∀ (q : Nat) (listed : Array Bool) (a : Act) (w : World), q ≤ S.length → (∀ i, i < q → listed.getD i false = true) → Regs l { w0 with drawn := w0.drawn + 1 } a0 (newKk S) (kkAt S) listed a w →
      ∀ (i : Nat) (s : Kk) (o : Oper) (d : Nat), i < q → S[i]? = some s → l[i]? = some o → o.dst = some d → ∃ v, a.tmps[d]? = some v ∧ s.holds v w := by
    intro q listed a w hq hall R i s o d hi hs ho hd
    obtain ⟨d', hd', hdN⟩ := HA.dst_head i o (by omega) ho
    obtain rfl : d' = d := by rw [hd] at hd'; exact (Option.some.inj hd').symm
    have hsz : d' < a.tmps.size := by rw [R.size, hN]; exact hdN
    refine ⟨_, Array.getElem?_eq_getElem hsz, ?_⟩
    have h := R.done i o d' ho hd (hall i hi)
    unfold kkAt at h
    rw [hs] at h
    simpa [hsz] using h
  refine region_inv_any l S.length N hm hN hok (newKk S) (kkAt S) (kk_mono S) (kk_new S) (hsteps _ (grown_draws w0)) ?_ ?_
  · intro listed a w hall R
    rw [show l.length - S.length = m by omega]
    exact hfin a w (grown_trans (grown_draws w0) R.x) (by rw [R.size, hN]) R.defers (fun k hk => R.rest k (spares_ne hk)) (key _ listed a w (Nat.le_refl _) hall R)
  · intro listed a w hall R
    rw [show l.length - S.length = m by omega]
    exact hlate a w (grown_trans (grown_draws w0) R.x) (by rw [R.size, hN]) R.defers (fun k hk => R.rest k (spares_ne hk)) (key _ listed a w (by omega) hall R)

section
variable {P : Program} {Q : Exit → Act → World → Prop}
theorem wpOp_of {ops : List Oper} {o : Oper} {i : Nat} {K : Act → World → Prop} {a : Act} {w : World} (h : ops[i]? = some o)
    (hh : if Region.wanted o (yielded ops.toArray a.tmps) then o.wp P a w K Q ∨ (o.asks P a w ∧ LetsOut Q) else K (a.put o.dst undef) w) : wpOp P ops.toArray Q i K a w := by
  have h' : ops.toArray[i]? = some o := by simpa using h
  unfold wpOp
  simp only [h']
  exact hh
theorem at_store_row {ops : List Oper} {o : Oper} {a : Act} {w : World} {K : Act → World → Prop} {ty : TypeId} {t s b : Nat} {cells old : Array Value} (hw : Region.wanted o (yielded ops.toArray a.tmps) = true) (ho : o.op = .store ty (.tmp t) (.tmp s)) (hd : o.dst = none)
    (e1 : a.tmps[t]? = some (.pointer (some ⟨b, 0, none⟩))) (e2 : a.tmps[s]? = some (.agg cells)) {t' : TypeId} (hb : w.heap[b]? = some (.cells old t' (0, 0))) (hi : (P.info? ty).map (·.size) = some cells.size)
    (hold : old.size = cells.size) (h1 : cells.all (·.oneCell') = true) (h : K a (w.setRow b cells)) :
    (if Region.wanted o (yielded ops.toArray a.tmps) then o.wp P a w K Q ∨ (o.asks P a w ∧ LetsOut Q) else K (a.put o.dst undef) w) := by
  rw [if_pos hw]; left
  refine wp_store_row ty _ _ ho b cells (eval_tmp e1) (eval_tmp e2) t' old hb hi hold h1 ?_
  rw [hd]; exact h
theorem two_tail {l : List Oper} {n : Nat} {s1 s2 : Oper} {a : Act} {w w1 w2 : World} (h1 : l[n]? = some s1) (h2 : l[n + 1]? = some s2)
    (r0 : Region.ready .any l.toArray (allOn l n) = [n]) (r1 : Region.ready .any l.toArray ((allOn l n).setIfInBounds n true) = [n + 1])
    (r2 : Region.ready .any l.toArray (((allOn l n).setIfInBounds n true).setIfInBounds (n + 1) true) = [])
    (hs1 : ∀ (K : Act → World → Prop), K a w1 → if Region.wanted s1 (yielded l.toArray a.tmps) then s1.wp P a w K Q ∨ (s1.asks P a w ∧ LetsOut Q) else K (a.put s1.dst undef) w)
    (hs2 : ∀ (K : Act → World → Prop), K a w2 → if Region.wanted s2 (yielded l.toArray a.tmps) then s2.wp P a w1 K Q ∨ (s2.asks P a w1 ∧ LetsOut Q) else K (a.put s2.dst undef) w1)
    (hQ : Q .normal a w2) : wpAny P .any l.toArray Q 2 (allOn l n) a w := by
  refine wpAny_all r0 (by simp) fun i hi => ?_
  simp only [List.mem_cons, List.not_mem_nil, or_false] at hi
  subst hi
  refine wpOp_of h1 (hs1 _ ?_)
  refine wpAny_all r1 (by simp) fun i hi => ?_
  simp only [List.mem_cons, List.not_mem_nil, or_false] at hi
  subst hi
  exact wpOp_of h2 (hs2 _ ⟨r2, hQ⟩)
theorem late_tail {l : List Oper} {n : Nat} {ob s1 s2 : Oper} {a : Act} {w w1 w2 : World} {v : Value} (h0 : l[n]? = some ob) (h1 : l[n + 1]? = some s1) (h2 : l[n + 2]? = some s2)
    (r0 : Region.ready .any l.toArray (allOn l n) = [n, n + 1])
    (r1 : Region.ready .any l.toArray ((allOn l n).setIfInBounds n true) = [n + 1]) (r2 : Region.ready .any l.toArray ((allOn l n).setIfInBounds (n + 1) true) = [n])
    (r3 : Region.ready .any l.toArray (((allOn l n).setIfInBounds n true).setIfInBounds (n + 1) true) = [n + 2]) (r4 : Region.ready .any l.toArray (((allOn l n).setIfInBounds (n + 1) true).setIfInBounds n true) = [n + 2])
    (r5 : Region.ready .any l.toArray ((((allOn l n).setIfInBounds n true).setIfInBounds (n + 1) true).setIfInBounds (n + 2) true) = []) (r6 : Region.ready .any l.toArray ((((allOn l n).setIfInBounds (n + 1) true).setIfInBounds n true).setIfInBounds (n + 2) true) = [])
    (hb : ∀ (w : World) (K : Act → World → Prop), K (a.put ob.dst v) w → if Region.wanted ob (yielded l.toArray a.tmps) then ob.wp P a w K Q ∨ (ob.asks P a w ∧ LetsOut Q) else K (a.put ob.dst undef) w)
    (hs1 : ∀ (a' : Act), (a' = a ∨ a' = a.put ob.dst v) → ∀ (K : Act → World → Prop), K a' w1 → if Region.wanted s1 (yielded l.toArray a'.tmps) then s1.wp P a' w K Q ∨ (s1.asks P a' w ∧ LetsOut Q) else K (a'.put s1.dst undef) w)
    (hs2 : ∀ (K : Act → World → Prop), K (a.put ob.dst v) w2 → if Region.wanted s2 (yielded l.toArray (a.put ob.dst v).tmps) then s2.wp P (a.put ob.dst v) w1 K Q ∨ (s2.asks P (a.put ob.dst v) w1 ∧ LetsOut Q) else K ((a.put ob.dst v).put s2.dst undef) w1)
    (hQ : Q .normal (a.put ob.dst v) w2) : wpAny P .any l.toArray Q 3 (allOn l n) a w := by
  refine wpAny_all r0 (by simp) fun i hi => ?_
  simp only [List.mem_cons, List.not_mem_nil, or_false] at hi
  rcases hi with rfl | rfl
  · refine wpOp_of h0 (hb _ _ ?_)
    refine wpAny_all r1 (by simp) fun i hi => ?_
    simp only [List.mem_cons, List.not_mem_nil, or_false] at hi
    subst hi
    refine wpOp_of h1 (hs1 _ (.inr rfl) _ ?_)
    refine wpAny_all r3 (by simp) fun i hi => ?_
    simp only [List.mem_cons, List.not_mem_nil, or_false] at hi
    subst hi
    exact wpOp_of h2 (hs2 _ ⟨r5, hQ⟩)
  · refine wpOp_of h1 (hs1 _ (.inl rfl) _ ?_)
    refine wpAny_all r2 (by simp) fun i hi => ?_
    simp only [List.mem_cons, List.not_mem_nil, or_false] at hi
    subst hi
    refine wpOp_of h0 (hb _ _ ?_)
    refine wpAny_all r4 (by simp) fun i hi => ?_
    simp only [List.mem_cons, List.not_mem_nil, or_false] at hi
    subst hi
    exact wpOp_of h2 (hs2 _ ⟨r6, hQ⟩)
end
end Go.Proofs.Ytikmghmapmlebaa
namespace Go.Rh
open Go.RowKit
theorem seqA_atB (l : List Oper) {n N : Nat} {a0 : Act} (vs : Nat → Value) (H : HeadB l n N) (hN : a0.tmps.size = N) {j t : Nat} {oj : Oper} (hj : j < n) (hoj : l[j]? = some oj) (hd : oj.dst = some t) :
    ∀ i, j < i → i ≤ n → (seqA l a0 vs i).tmps[t]? = some (vs j)
  | i + 1, hji, hin => by
    obtain ⟨t', ht', hlt⟩ := H.dst_head j oj hj hoj
    obtain rfl : t' = t := by rw [hd] at ht'; exact (Option.some.inj ht').symm
    show ((seqA l a0 vs i).put _ _).tmps[t']? = _
    by_cases hij : j = i
    · subst hij
      rw [hoj]
      show ((seqA l a0 vs j).put oj.dst _).tmps[t']? = _
      rw [hd, put_same _ _ _ (by rw [seqA_size, hN]; exact hlt)]
    · rw [put_other _ _ _ _ ?_]
      · exact seqA_atB l vs H hN hj hoj hd i (by omega) (by omega)
      · cases ho : l[i]? with
        | none => simp
        | some oi => exact fun e => hij (H.dst_inj j i oj oi t' hoj ho hd e)
theorem endB {l : List Oper} {n N : Nat} {a0 a : Act} {vs : Nat → Value} (H : HeadB l n N) (hN : a0.tmps.size = N) (hdf : a.defers = a0.defers)
    (rest : ∀ k, spares (l.take n) k = true → a.tmps[k]? = a0.tmps[k]?) (done : ∀ i o d, i < n → l[i]? = some o → o.dst = some d → a.tmps[d]? = some (vs i)) : a = seqA l a0 vs n := by
  have ht : a.tmps = (seqA l a0 vs n).tmps := by
    apply Array.ext_getElem?
    intro t
    by_cases hs : spares (l.take n) t = true
    · rw [seqA_spare l a0 vs hs n (Nat.le_refl _), rest t hs]
    · have : ∃ o ∈ l.take n, o.dst = some t := by
        unfold spares at hs
        rw [List.all_eq_true] at hs
        rcases Classical.em (∃ o ∈ l.take n, o.dst = some t) with h | h
        · exact h
        · exact absurd (fun o ho => by simpa using fun e => h ⟨o, ho, e⟩) hs
      obtain ⟨o, hm, hd⟩ := this
      obtain ⟨i, hi⟩ := List.mem_iff_getElem?.1 hm
      rw [List.getElem?_take] at hi
      split at hi
      · rename_i hin
        rw [done i o t hin hi hd, seqA_atB l vs H hN hin hi hd n hin (Nat.le_refl _)]
      · cases hi
  have hdf : a.defers = (seqA l a0 vs n).defers := by rw [hdf, seqA_defers]
  obtain ⟨t1, d1⟩ := a
  generalize seqA l a0 vs n = b at ht hdf ⊢
  obtain ⟨t2, d2⟩ := b
  simp only at ht hdf
  rw [ht, hdf]
end Go.Rh
namespace Go.Proofs.Ytikmghmapmlebaa
open Go.RowKit Go.Rh F255

/-- Where the tail begins. -/
structure LateSt (l : List Oper) (N : Nat) (S : List Kk) (n m : Nat) (late : Nat → Bool) (w0 : World) (a0 : Act) (listed : Array Bool) (a : Act) (w : World) : Prop where
  grown : w0.grownBy w none
  size : a.tmps.size = N
  defers : a.defers = a0.defers
  spare : ∀ k, spares l k = true → a.tmps[k]? = a0.tmps[k]?
  many : listed.size = n + m
  all : ∀ i, i < n → late i = false → listed.getD i false = true
  none_ : ∀ i, n ≤ i → i < n + m → listed.getD i true = false
  closed : ∀ j oj, l[j]? = some oj → listed.getD j false = true → ∀ e ∈ oj.after, Region.binds .any e = true → listed.getD e.on false = true
  known : ∀ (i : Nat) (s : Kk) (o : Oper) (d : Nat), i < n → listed.getD i false = true → S[i]? = some s → l[i]? = some o → o.dst = some d → ∃ v, a.tmps[d]? = some v ∧ s.holds v w
  apart : ∀ i j oi oj di dj bi bj, i ≠ j → newKk S i = true → newKk S j = true → l[i]? = some oi → l[j]? = some oj → oi.dst = some di → oj.dst = some dj →
    listed.getD i false = true → listed.getD j false = true → a.tmps[di]? = some (.pointer (some ⟨bi, 0, none⟩)) → a.tmps[dj]? = some (.pointer (some ⟨bj, 0, none⟩)) → bi ≠ bj

theorem region_kk_late {P : Program} {Q : Exit → Act → World → Prop} {id : Nat} {w0 : World} {a0 : Act} (l : List Oper) (N : Nat) (S : List Kk) (n m : Nat) (late : Nat → Bool) (St : Act → World → World → Prop)
    (hn : S.length = n) (hl : l.length = n + m) (hm : P.follows .mixedOrders = true) (hN : a0.tmps.size = N) (hok : headLate l n N late = true)
    (hsp : ((List.range N).all fun k => !spares (l.take n) k || spares l k) = true)
    (hsteps : ∀ w1, w0.grownBy w1 none → AllOK P Q l w1 a0 (newKk S) (kkAt S) (l.take n) 0)
    (htail : ∀ (Q' : Exit → Act → World → Prop) (listed : Array Bool) (a : Act) (w : World), LateSt l N S n m late w0 a0 listed a w →
      (∀ (a' : Act) (w2 w' : World), w0.grownBy w2 none → a'.tmps.size = N → a'.defers = a0.defers → (∀ k, spares l k = true → a'.tmps[k]? = a0.tmps[k]?) →
        (∀ (i : Nat) (s : Kk) (o : Oper) (d : Nat), S[i]? = some s → l[i]? = some o → o.dst = some d → ∃ v, a'.tmps[d]? = some v ∧ s.holds v w2) → St a' w2 w' → Q' .normal a' w') →
      wpAny P .any l.toArray Q' (((List.range n).filter fun i => !listed.getD i false).length + m) listed a w)
    (hfin : ∀ (vs : Nat → Value) (w w' : World), w0.grownBy w none → (∀ i (s : Kk), S[i]? = some s → s.holds (vs i) w) → St (seqA l a0 vs n) w w' → Q .normal (seqA l a0 vs n) w') :
    (Code.region id l.toArray true).wp P Q a0 w0 := by
  subst hn
  have HB := (headL_of hok).1
  refine region_inv_late l S.length N late hm hN hok (newKk S) (kkAt S) (kk_mono S) (kk_new S) (hsteps _ (grown_draws w0)) ?_
  intro listed a w inv hall R
  rw [show l.length - S.length = m by omega]
  have hg0 : w0.grownBy w none := grown_trans (grown_draws w0) R.x
  refine htail Q listed a w ⟨hg0, by rw [R.size, hN], R.defers, fun k hk => R.rest k (spares_ne hk), by rw [inv.size]; simpa using hl, hall, fun i h1 h2 => inv.tail i h1 (by simp; omega), fun j oj ho => inv.closed j oj (by simpa using ho), ?_, ?_⟩ ?_
  · intro i s o d hi hli hs ho hd
    obtain ⟨d', hd', hdN⟩ := HB.dst_head i o hi ho
    obtain rfl : d' = d := by rw [hd] at hd'; exact (Option.some.inj hd').symm
    have hsz : d' < a.tmps.size := by rw [R.size, hN]; exact hdN
    refine ⟨_, Array.getElem?_eq_getElem hsz, ?_⟩
    have h := R.done i o d' ho hd hli
    unfold kkAt at h
    rw [hs] at h
    simpa [hsz] using h
  · intro i j oi oj di dj bi bj hij ai aj hoi hoj hdi hdj li lj ei ej
    exact R.apart i j oi oj di dj bi bj hij ai aj hoi hoj hdi hdj li lj (by rw [ei]; rfl) (by rw [ej]; rfl)
  · intro a' w2 w' hg hsz hdf hspa hkn hst
    obtain ⟨vs, hvs⟩ : ∃ vs : Nat → Value, vs = fun i => (((l[i]?).bind (·.dst)).bind (a'.tmps[·]?)).getD undef := ⟨_, rfl⟩
    have key : ∀ i o d, i < S.length → l[i]? = some o → o.dst = some d → a'.tmps[d]? = some (vs i) := fun i o d hi ho hd => by
      have hs : S[i]? = some S[i] := List.getElem?_eq_getElem hi
      obtain ⟨v, hv, _⟩ := hkn i _ o d hs ho hd
      rw [hvs, hv]; simp [ho, hd, hv]
    have e : a' = seqA l a0 vs S.length := endB HB hN hdf (fun k hk => by
      by_cases hkN : k < N
      · have := List.all_eq_true.1 hsp k (List.mem_range.2 hkN)
        rw [hk] at this
        exact hspa k (by simpa using this)
      · rw [Array.getElem?_eq_none (by omega), Array.getElem?_eq_none (by omega)]) key
    rw [e] at hst ⊢
    refine hfin vs w2 w' hg (fun i s hs => ?_) hst
    have hi : i < S.length := (List.getElem?_eq_some_iff.1 hs).1
    have ho : l[i]? = some (l[i]'(by omega)) := List.getElem?_eq_getElem (by omega)
    obtain ⟨d, hd, _⟩ := HB.dst_head i _ hi ho
    obtain ⟨v, hv, hh⟩ := hkn i s _ d hs ho hd
    rw [key i _ d hi ho hd] at hv
    rw [← Option.some.inj hv] at hh
    exact hh

section
variable {P : Program} {Q : Exit → Act → World → Prop}
/-- The array of what is listed, written out. -/
theorem listed_eq {listed : Array Bool} {n m : Nat} {late : Nat → Bool} (bs : List Bool) (hs : listed.size = n + m) (h1 : ∀ i, i < n → late i = false → listed.getD i false = true)
    (h2 : ∀ i, n ≤ i → i < n + m → listed.getD i true = false) (h3 : ∀ i, i < n → late i = true → listed.getD i false = bs.getD i false)
    (hb : (decide (bs.length = n + m) && (List.range (n + m)).all fun i => if i < n then (late i || bs.getD i false) else !bs.getD i false) = true) : listed = bs.toArray := by
  simp only [Bool.and_eq_true, decide_eq_true_eq] at hb
  obtain ⟨hl, hb⟩ := hb
  apply Array.ext
  · simp [hs, hl]
  · intro i i1 i2
    have hi : i < n + m := by omega
    have hbi := List.all_eq_true.1 hb i (List.mem_range.2 hi)
    have e2 : bs.toArray[i] = bs.getD i false := by simp [show i < bs.length by omega]
    rw [e2]
    by_cases hin : i < n
    · rw [if_pos hin] at hbi
      cases hlt : late i with
      | true =>
        have := h3 i hin hlt
        rw [← this]; simp [i1]
      | false =>
        rw [hlt, Bool.false_or] at hbi
        have := h1 i hin hlt
        rw [hbi]; simpa [i1] using this
    · rw [if_neg hin] at hbi
      have := h2 i (by omega) hi
      rw [show bs.getD i false = false by simpa using hbi]; simpa [i1] using this
theorem wpAny_one {l : List Oper} {f i : Nat} {o : Oper} {L : Array Bool} {a : Act} {w : World} (r : Region.ready .any l.toArray L = [i]) (h : l[i]? = some o)
    (hh : if Region.wanted o (yielded l.toArray a.tmps) then o.wp P a w (wpAny P .any l.toArray Q f (L.setIfInBounds i true)) Q ∨ (o.asks P a w ∧ LetsOut Q) else wpAny P .any l.toArray Q f (L.setIfInBounds i true) (a.put o.dst undef) w) :
    wpAny P .any l.toArray Q (f + 1) L a w := by
  refine wpAny_all r (by simp) fun j hj => ?_
  simp only [List.mem_cons, List.not_mem_nil, or_false] at hj
  subst hj
  exact wpOp_of h hh
theorem wpAny_two {l : List Oper} {f i j : Nat} {o o' : Oper} {L : Array Bool} {a : Act} {w : World} (r : Region.ready .any l.toArray L = [i, j]) (h : l[i]? = some o) (h' : l[j]? = some o')
    (hh : if Region.wanted o (yielded l.toArray a.tmps) then o.wp P a w (wpAny P .any l.toArray Q f (L.setIfInBounds i true)) Q ∨ (o.asks P a w ∧ LetsOut Q) else wpAny P .any l.toArray Q f (L.setIfInBounds i true) (a.put o.dst undef) w)
    (hh' : if Region.wanted o' (yielded l.toArray a.tmps) then o'.wp P a w (wpAny P .any l.toArray Q f (L.setIfInBounds j true)) Q ∨ (o'.asks P a w ∧ LetsOut Q) else wpAny P .any l.toArray Q f (L.setIfInBounds j true) (a.put o'.dst undef) w) :
    wpAny P .any l.toArray Q (f + 1) L a w := by
  refine wpAny_all r (by simp) fun k hk => ?_
  simp only [List.mem_cons, List.not_mem_nil, or_false] at hk
  rcases hk with rfl | rfl
  · exact wpOp_of h hh
  · exact wpOp_of h' hh'
end
end Go.Proofs.Ytikmghmapmlebaa
