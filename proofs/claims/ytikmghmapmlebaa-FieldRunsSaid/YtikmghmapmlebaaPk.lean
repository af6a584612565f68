/-
  What is known of the slots, as data; a region's step from what is known to what is known.
-/
import Derived.Test.YtikmghmapmlebaaP
namespace Go.Proofs.Ytikmghmapmlebaa
open Go.RowKit Go.Rh F255

/-- What one may know of a slot. -/
inductive Kn where
  | eq (v : Value)
  | el (n : Nat)
  | blk (B : Nat) (k : Obj)
  | elAt (B : Nat) (n : Nat)
  | sl (g : Nat → Nat)
def Kn.holds : Kn → Value → World → Prop
  | .eq x, v, _ => v = x
  | .el n, v, _ => ∃ f, v = .agg (U64 f) ∧ IsEl f n
  | .blk B k, v, w => ∃ b, v = .pointer (some ⟨b, 0, none⟩) ∧ w.heap[b]? = some k ∧ B ≤ b
  | .elAt B n, v, w => ∃ b f, v = .pointer (some ⟨b, 0, none⟩) ∧ w.heap[b]? = some (.cells (U64 f) 26) ∧ B ≤ b ∧ IsEl f n
  | .sl g, v, w => ∃ b, v = .slice (some ⟨b, 0, none⟩) 32 32 ∧ w.heap[b]? = some (.cells (U8 g) 22)
def Kn.isNew : Kn → Bool
  | .blk _ _ => true
  | _ => false
def knAt (S : List Kn) (i : Nat) (v : Value) (w : World) : Prop := match S[i]? with | some s => s.holds v w | none => True
def newKn (S : List Kn) (i : Nat) : Bool := match S[i]? with | some s => s.isNew | none => false

theorem Kn.mono {s : Kn} {v : Value} {w w' : World} (hg : w.grownBy w' none) (h : Kn.holds s v w) : Kn.holds s v w' := by
  cases s with
  | eq x => exact h
  | el n => exact h
  | blk B k =>
    obtain ⟨b, rfl, hb, hB⟩ := h
    exact ⟨b, rfl, (hg.block b (heap_lt hb) (by simp)).trans hb, hB⟩
  | elAt B n =>
    obtain ⟨b, f, rfl, hb, hB⟩ := h
    exact ⟨b, f, rfl, (hg.block b (heap_lt hb) (by simp)).trans hb, hB⟩
  | sl g =>
    obtain ⟨b, rfl, hb⟩ := h
    exact ⟨b, rfl, (hg.block b (heap_lt hb) (by simp)).trans hb⟩

def Know : List (Nat × Kn) → Act → World → Prop
  | [], _, _ => True
  | (k, s) :: E, a, w => (∃ v, a.tmps[k]? = some v ∧ s.holds v w) ∧ Know E a w

theorem Know.get {a : Act} {w : World} : ∀ {E : List (Nat × Kn)}, Know E a w → ∀ {i k : Nat} {s : Kn}, E[i]? = some (k, s) → ∃ v, a.tmps[k]? = some v ∧ s.holds v w
  | [], _, _, _, _, h => by simp at h
  | (k, s) :: E, hE, 0, k', s', h => by
    simp only [List.getElem?_cons_zero, Option.some.injEq, Prod.mk.injEq] at h
    obtain ⟨rfl, rfl⟩ := h
    exact hE.1
  | (k, s) :: E, hE, i + 1, k', s', h => Know.get hE.2 (i := i) (by simpa using h)
theorem Know.of {a : Act} {w : World} : ∀ {E : List (Nat × Kn)}, (∀ (i k : Nat) (s : Kn), E[i]? = some (k, s) → ∃ v, a.tmps[k]? = some v ∧ s.holds v w) → Know E a w
  | [], _ => trivial
  | (k, s) :: E, h => ⟨h 0 k s rfl, Know.of fun i k s hi => h (i + 1) k s (by simpa using hi)⟩

/-- One operation's goal, from what is known ahead of the region and of the operations that it waits for. -/
def StepK (P : Program) (Q : Exit → Act → World → Prop) (ops : List Oper) (E : List (Nat × Kn)) (B : Nat) (S : List Kn) (i : Nat) (o : Oper) : Prop :=
  ∀ (a : Act) (w : World), Know E a w → B ≤ w.heap.size →
    (∀ j oj d, waits o j = true → ops[j]? = some oj → oj.dst = some d → ∃ v, a.tmps[d]? = some v ∧ knAt S j v w) →
    ∀ K : Act → World → Prop, (∀ v w', w.grownBy w' none → knAt S i v w' → (newKn S i = true → ∀ b, v = .pointer (some ⟨b, 0, none⟩) → w.heap.size ≤ b) → K (a.put o.dst v) w') →
      (if Region.wanted o (yielded ops.toArray a.tmps) then o.wp P a w K Q ∨ (o.asks P a w ∧ LetsOut Q) else K (a.put o.dst undef) w)
def AllK (P : Program) (Q : Exit → Act → World → Prop) (ops : List Oper) (E : List (Nat × Kn)) (B : Nat) (S : List Kn) : List Oper → Nat → Prop
  | [], _ => True
  | o :: l, i => StepK P Q ops E B S i o ∧ AllK P Q ops E B S l (i + 1)

def knowsOf (l : List Oper) (S : List Kn) : List (Nat × Kn) := (l.zip S).map fun p => (p.1.dst.getD 0, p.2)

theorem allOK_of {P : Program} {Q : Exit → Act → World → Prop} {ops : List Oper} {E : List (Nat × Kn)} {w0 : World} {a0 : Act} {S : List Kn} (hE : Know E a0 w0) (hsp : E.all (fun p => spares ops p.1) = true) :
    ∀ (l : List Oper) (i : Nat), AllK P Q ops E w0.heap.size S l i → AllOK P Q ops w0 a0 (newKn S) (knAt S) l i
  | [], _, _ => trivial
  | o :: l, i, h => by
    refine ⟨?_, allOK_of hE hsp l (i + 1) h.2⟩
    intro a w hg hr hd K hK
    refine h.1 a w (Know.of fun j k s hj => ?_) hg.size hd K hK
    obtain ⟨v, hv, hs⟩ := hE.get hj
    have := List.all_eq_true.1 hsp (k, s) (List.mem_of_getElem? hj)
    exact ⟨v, (hr k this).trans hv, Kn.mono hg hs⟩

theorem kn_mono {S : List Kn} (i : Nat) (v : Value) (w w' : World) (hg : w.grownBy w' none) (h : knAt S i v w) : knAt S i v w' := by
  unfold knAt at *
  split at h
  · exact Kn.mono hg h
  · trivial
theorem kn_new {S : List Kn} (i b : Nat) (w : World) (ha : newKn S i = true) (h : knAt S i (.pointer (some ⟨b, 0, none⟩)) w) : b < w.heap.size := by
  unfold knAt newKn at *; split at h <;> simp_all
  rename_i s _
  cases s <;> simp_all [Kn.isNew]
  obtain ⟨b', hb, hc, _⟩ := h
  simp at hb; subst hb; exact heap_lt hc

section
variable {P : Program} {Q : Exit → Act → World → Prop}

/-- What is known behind the region's head. -/
def Behind (P : Program) (Q : Exit → Act → World → Prop) (l : List Oper) (n N : Nat) (S : List Kn) (E : List (Nat × Kn)) (a0 : Act) (w0 : World) : Prop :=
  ∀ (a : Act) (w : World), w0.grownBy w none → a.defers = a0.defers → a.tmps.size = N → (∀ w', w0.grownBy w' none → Know E a w') → Know (knowsOf (l.take n) S) a w →
      (∀ i j oi oj di dj bi bj, i ≠ j → i < n → j < n → newKn S i = true → newKn S j = true → l[i]? = some oi → l[j]? = some oj → oi.dst = some di → oj.dst = some dj →
        a.tmps[di]? = some (.pointer (some ⟨bi, 0, none⟩)) → a.tmps[dj]? = some (.pointer (some ⟨bj, 0, none⟩)) → bi ≠ bj) →
      wpList P l.toArray Q (l.drop n) a w

theorem behind_of {l : List Oper} {N : Nat} {S : List Kn} {E : List (Nat × Kn)} {a0 : Act} {w0 w0' : World} (hw : w0.grownBy w0' none) (hN : a0.tmps.size = N) (hE : Know E a0 w0) (hsp : E.all (fun p => spares l p.1) = true) (H : Head l S.length N)
    (hfin : Behind P Q l S.length N S E a0 w0) (listed : Array Bool) (a : Act) (w : World) (hall : ∀ i, i < S.length → listed.getD i false = true) (R : Regs l w0' a0 (newKn S) (knAt S) listed a w) : wpList P l.toArray Q (l.drop S.length) a w := by
  have at_dst : ∀ (i : Nat) (o : Oper) (d : Nat), i < S.length → l[i]? = some o → o.dst = some d → ∃ v, a.tmps[d]? = some v ∧ knAt S i v w := by
    intro i o d hi ho hd
    obtain ⟨d', hd', hdN⟩ := H.dst_head i o hi ho
    obtain rfl : d' = d := by rw [hd] at hd'; exact (Option.some.inj hd').symm
    have hsz : d' < a.tmps.size := by rw [R.size, hN]; exact hdN
    have := R.done i o d' ho hd (hall i hi)
    exact ⟨_, Array.getElem?_eq_getElem hsz, by simpa [hsz] using this⟩
  refine hfin a w (grown_trans hw R.x) R.defers (R.size.trans hN) ?_ ?_ ?_
  · refine fun w' hw' => Know.of fun j k s hj => ?_
    obtain ⟨v, hv, hs⟩ := hE.get hj
    have := List.all_eq_true.1 hsp (k, s) (List.mem_of_getElem? hj)
    exact ⟨v, (R.rest k (spares_ne this)).trans hv, Kn.mono hw' hs⟩
  · refine Know.of fun j k s hj => ?_
    unfold knowsOf at hj
    rw [List.getElem?_map] at hj
    cases hz : ((l.take S.length).zip S)[j]? with
    | none => rw [hz] at hj; cases hj
    | some p =>
      rw [hz] at hj
      simp only [Option.map_some, Option.some.injEq, Prod.mk.injEq] at hj
      obtain ⟨rfl, rfl⟩ := hj
      rw [List.getElem?_zip_eq_some] at hz
      obtain ⟨h1, h2⟩ := hz
      rw [List.getElem?_take] at h1
      have hj : j < S.length := (List.getElem?_eq_some_iff.1 h2).1
      rw [if_pos hj] at h1
      obtain ⟨d, hd, _⟩ := H.dst_head j p.1 hj h1
      obtain ⟨v, hv, hk⟩ := at_dst j p.1 d hj h1 hd
      refine ⟨v, by rw [hd]; exact hv, ?_⟩
      simpa [knAt, h2] using hk
  · intro i j oi oj di dj bi bj hij hi hj ai aj hoi hoj hdi hdj ei ej
    exact R.apart i j oi oj di dj bi bj hij ai aj hoi hoj hdi hdj (hall i hi) (hall j hj) (by rw [ei]; rfl) (by rw [ej]; rfl)

theorem grown_draws (w : World) : w.grownBy { w with drawn := w.drawn + 1 } none := ⟨rfl, rfl, rfl, Nat.le_refl _, fun _ _ _ => rfl⟩

theorem know_any {id : Nat} {w0 : World} {a0 : Act} (l : List Oper) (N : Nat) (S : List Kn) (E : List (Nat × Kn)) (hm : P.follows .mixedOrders = true) (hok : headOK l S.length N = true) (hsp : E.all (fun p => spares l p.1) = true)
    (hN : a0.tmps.size = N) (hE : Know E a0 w0) (hsteps : AllK P Q l E w0.heap.size S (l.take S.length) 0) (hfin : Behind P Q l S.length N S E a0 w0) : (Code.region id l.toArray true).wp P Q a0 w0 :=
  region_inv l S.length N hm hN hok (newKn S) (knAt S) kn_mono kn_new (allOK_of (w0 := { w0 with drawn := w0.drawn + 1 }) (Know.of fun _ _ _ hi => (hE.get hi).imp fun _ h => ⟨h.1, Kn.mono (grown_draws w0) h.2⟩) hsp _ _ hsteps)
    (behind_of (grown_draws w0) hN hE hsp (head_of hok) hfin)
theorem know_lex {id : Nat} {w0 : World} {a0 : Act} (l : List Oper) (N : Nat) (S : List Kn) (E : List (Nat × Kn)) (hok : headOK l S.length N = true) (hsp : E.all (fun p => spares l p.1) = true)
    (hN : a0.tmps.size = N) (hE : Know E a0 w0) (hsteps : AllK P Q l E w0.heap.size S (l.take S.length) 0) (hfin : Behind P Q l S.length N S E a0 w0) : (Code.region id l.toArray false).wp P Q a0 w0 :=
  region_lex l S.length N hN hok (newKn S) (knAt S) kn_mono kn_new (allOK_of hE hsp _ _ hsteps) (behind_of (grown_refl _ _) hN hE hsp (head_of hok) hfin)

/-- The regions of a function's text, by their numbers. -/
def regionsIn : Code → List (Nat × Array Oper)
  | .region i o _ => [(i, o)]
  | .seq x y => regionsIn x ++ regionsIn y
  | .cond _ x y => regionsIn x ++ regionsIn y
  | .block _ x => regionsIn x
  | .loop x => regionsIn x
  | .scope x => regionsIn x
  | _ => []
def opsOf (f : Func) (r : Nat) : List Oper := match (regionsIn (f.body.getD .skip)).find? (fun p => p.1 == r) with | some p => p.2.toList | none => []
end

/-- A store of five digits into a block of one's own. -/
theorem at_store {Q : Exit → Act → World → Prop} {ops : Array Oper} {rest : List Oper} {o : Oper} {a : Act} {w w0 : World} {t u b : Nat} {f : Nat → Nat} {old : Array Value} (hg : o.guard = none) (ho : o.op = .store 26 (.tmp t) (.tmp u)) (hd : o.dst = none)
    (et : a.tmps[t]? = some (.pointer (some ⟨b, 0, none⟩))) (eu : a.tmps[u]? = some (.agg (U64 f))) (hb : w.heap[b]? = some (.cells old 26 (0, 0))) (hold : old.size = 5) (hB : w0.heap.size ≤ b) (hw : w0.grownBy w none)
    (h : ∀ w', w0.grownBy w' none → w'.heap[b]? = some (.cells (U64 f) 26 (0, 0)) → (∀ k, k ≠ b → w'.heap[k]? = w.heap[k]?) → wpList Try.prog ops Q rest a w') : wpList Try.prog ops Q (o :: rest) a w := by
  refine wpList_store_row hg 26 _ _ ho b _ (eval_tmp et) (eval_tmp eu) 26 old hb (sz26.trans (by simp [U64])) (by simp [U64, hold]) (vals_one _ _ _) ?_
  rw [hd]
  refine h _ ?_ (setRow_heap _ _ _ _ _ _ hb) (fun k hk => setRow_other _ _ _ _ hk)
  have := below_setRow (w0 := w0) (w := w) (B := w0.heap.size) ⟨hw.os, hw.tape, hw.output, hw.size, fun k hk => hw.block k hk (by simp)⟩ hB (U64 f)
  exact grown_below none this (Nat.le_refl _)
theorem start_size {args : Array Value} {m N : Nat} (h : m = N) (hl : args.size ≤ N) : (args ++ Array.replicate (m - args.size) undef).size = N := by simp; omega
theorem start1 {x : Value} {r : Array Value} {df : List Deferred} {w : World} : Know [(0, .eq x)] { tmps := #[x] ++ r, defers := df } w := ⟨⟨_, by rw [Array.getElem?_append_left (by simp)]; rfl, rfl⟩, trivial⟩
theorem start2 {x y : Value} {r : Array Value} {df : List Deferred} {w : World} : Know [(0, .eq x), (1, .eq y)] { tmps := #[x, y] ++ r, defers := df } w := ⟨⟨_, by rw [Array.getElem?_append_left (by simp)]; rfl, rfl⟩, ⟨_, by rw [Array.getElem?_append_left (by simp)]; rfl, rfl⟩, trivial⟩
theorem start3 {x y z : Value} {r : Array Value} {df : List Deferred} {w : World} : Know [(0, .eq x), (1, .eq y), (2, .eq z)] { tmps := #[x, y, z] ++ r, defers := df } w := ⟨⟨_, by rw [Array.getElem?_append_left (by simp)]; rfl, rfl⟩, ⟨_, by rw [Array.getElem?_append_left (by simp)]; rfl, rfl⟩, ⟨_, by rw [Array.getElem?_append_left (by simp)]; rfl, rfl⟩, trivial⟩
theorem args0 {a : Act} : (#[] : Array Operand).map a.eval = #[] := by simp
theorem args1 {a : Act} {s : Nat} {v : Value} (e : a.tmps[s]? = some v) : #[Operand.tmp s].map a.eval = #[v] := by simp [Act.eval, e]
theorem args2 {a : Act} {s t : Nat} {v u : Value} (e : a.tmps[s]? = some v) (f : a.tmps[t]? = some u) : #[Operand.tmp s, Operand.tmp t].map a.eval = #[v, u] := by simp [Act.eval, e, f]
theorem run_box {P : Program} {o : Oper} {a : Act} {w : World} {ty : TypeId} {x : Operand} {v : Value} {k : Obj} (ho : o.op = .box ty x) (e : a.eval x = v) (hr : ∀ w : World, (Instr.box ty v).run P w = .ok (.pointer (some ⟨w.heap.size, 0, none⟩)) (w.alloc k)) :
    (execOp a.eval o).run P w = .ok (.value (.pointer (some ⟨w.heap.size, 0, none⟩))) (w.alloc k) := by
  unfold execOp
  simp [ho, e, hr]
theorem box22 (g : Nat → Nat) (w : World) : (Instr.box 22 (.agg (U8 g))).run Try.prog w = .ok (.pointer (some ⟨w.heap.size, 0, none⟩)) (w.alloc (.cells (U8 g) 22)) := by
  go_simp
theorem conv22 {b : Nat} {g : Nat → Nat} {w : World} (h : w.heap[b]? = some (.cells (U8 g) 22)) : (convert 29 9 (.slice (some ⟨b, 0, none⟩) 32 32)).run Try.prog w = .ok (.string (bstr g 32)) w := by
  have := run_string_row (P := Try.prog) (off := 0) (n := 32) (g := g) Try.underlying29 Try.underlying5 Try.underlying9 h 32 32 (by omega)
  rwa [show bstr (fun j => g (0 + j)) 32 = bstr g 32 from bstr_congr fun j _ => by rw [Nat.zero_add]] at this
theorem results_tmp {P : Program} {fn : Func} {t : Nat} {v : Value} {a : Act} {w : World} (h : fn.results = #[.tmp t]) (e : a.tmps[t]? = some v) : (results fn a.tmps).run P w = .ok v w := by
  simp [results, h, e]
def P255 : Nat := 57896044618658097711785492504343953926634992332820282019728792003956564819968
theorem sub_mod {a b : Nat → Nat} {m n : Nat} (ha : IsEl a m) (hb : IsEl b n) (w : World) :
    Calls Try.prog 20 #[.agg (U64 a), .agg (U64 b)] w fun e w' => (∃ f, e = .returned (.agg (U64 f)) ∧ IsEl f (m + (pN - n % pN))) ∧ Below w.heap.size w w' := by
  have hl : n % pN ≤ pN := Nat.le_of_lt (Nat.mod_lt _ (by decide))
  have := sub_el ha (hb.of_mod (Nat.mod_mod n pN).symm) hl w
  rwa [Nat.add_sub_assoc hl] at this
theorem refSub_mod (a b : Nat) (ha : a < Two256) (w : World) :
    Calls Try.prog 21 #[.string (le32 a), .string (le32 (b % pN))] w fun e w' => e = .returned (.string (le32 ((a + (pN - b % pN)) % pN))) ∧ Below w.heap.size w w' := by
  have hl : b % pN ≤ pN := Nat.le_of_lt (Nat.mod_lt _ (by decide))
  have := refSub_any a (b % pN) ha hl w
  rwa [Nat.add_sub_assoc hl] at this
theorem below_grown {a b : World} (h : a.grownBy b none) : Below a.heap.size a b := ⟨h.os, h.tape, h.output, h.size, fun k hk => h.block k hk (by simp)⟩
theorem grown_own {a b : World} (h : Below a.heap.size a b) : a.grownBy b none := grown_below none h (Nat.le_refl _)
end Go.Proofs.Ytikmghmapmlebaa
