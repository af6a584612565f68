/-
  What FieldRuns wants: a row of steps in memory; a drawn region with a tail that hands something back.
-/
import Derived.Test.YtikmghmapmlebaaFt
import Derived.Test.YtikmghmapmlebaaYl
namespace Go.Proofs.Ytikmghmapmlebaa
open Go.RowKit Go.Rh F255

theorem region_kk_tail {P : Program} {Q : Exit → Act → World → Prop} {id : Nat} {w0 : World} {a0 : Act} (l : List Oper) (N : Nat) (S : List Kk) (n m : Nat)
    (hn : S.length = n) (hl : l.length = n + m) (hm : P.follows .mixedOrders = true) (hN : a0.tmps.size = N) (hok : headLate l n N (fun _ => false) = true)
    (hsteps : ∀ w1, w0.grownBy w1 none → AllOK P Q l w1 a0 (newKk S) (kkAt S) (l.take n) 0)
    (hfin : ∀ (vs : Nat → Value) (w : World), w0.grownBy w none → (∀ i (s : Kk), S[i]? = some s → s.holds (vs i) w) → wpAny P .any l.toArray Q m (allOn l n) (seqA l a0 vs n) w) :
    (Code.region id l.toArray true).wp P Q a0 w0 := by
  subst hn
  have HB := (headL_of hok).1
  refine region_inv_late l S.length N (fun _ => false) hm hN hok (newKk S) (kkAt S) (kk_mono S) (kk_new S) (hsteps _ (grown_draws w0)) ?_
  intro listed a w inv hall R
  have hall' : ∀ i, i < S.length → listed.getD i false = true := fun i hi => hall i hi rfl
  have hL : listed = allOn l S.length := by
    apply Array.ext
    · rw [inv.size]; simp [allOn]
    · intro i h1 h2
      have hil : i < l.length := by simpa [allOn] using h2
      simp only [allOn, List.getElem_toArray, List.getElem_map, List.getElem_range]
      by_cases hi : i < S.length
      · have := hall' i hi
        simp [h1] at this
        rw [this]; simp [hi]
      · have := inv.tail i (by omega) (by simpa using hil)
        simp [h1] at this
        rw [this]; simp [hi]
  have hc : ((List.range S.length).filter fun i => !listed.getD i false).length = 0 := by
    rw [List.length_eq_zero_iff, List.filter_eq_nil_iff]
    intro i hi
    have := hall' i (List.mem_range.1 hi)
    simp [this]
  rw [hc, show 0 + (l.length - S.length) = m by omega, hL]
  obtain ⟨vs, hvs⟩ : ∃ vs : Nat → Value, vs = fun i => (((l[i]?).bind (·.dst)).bind (a.tmps[·]?)).getD undef := ⟨_, rfl⟩
  have at_ : ∀ i o d, i < S.length → l[i]? = some o → o.dst = some d → a.tmps[d]? = some (vs i) ∧ kkAt S i (vs i) w := fun i o d hi ho hd => by
    obtain ⟨d', hd', hdN⟩ := HB.dst_head i o hi ho
    obtain rfl : d' = d := by rw [hd] at hd'; exact (Option.some.inj hd').symm
    have hsz : d' < a.tmps.size := by rw [R.size, hN]; exact hdN
    have h := R.done i o d' ho hd (hall' i hi)
    have e : a.tmps[d']? = some a.tmps[d'] := Array.getElem?_eq_getElem hsz
    have h2 : vs i = a.tmps[d'] := by rw [hvs]; simp [ho, hd, hsz]
    rw [e, h2]
    refine ⟨rfl, ?_⟩
    simpa [hsz] using h
  have e : a = seqA l a0 vs S.length := endB HB hN R.defers (fun k hk => by
    by_cases hs : spares l k = true
    · exact R.rest k (spares_ne hs)
    · have : ∃ o ∈ l, o.dst = some k := by
        unfold spares at hs
        rw [List.all_eq_true] at hs
        rcases Classical.em (∃ o ∈ l, o.dst = some k) with h | h
        · exact h
        · exact absurd (fun o ho => by simpa using fun e => h ⟨o, ho, e⟩) hs
      obtain ⟨o, hm, hd⟩ := this
      obtain ⟨i, hi⟩ := List.mem_iff_getElem?.1 hm
      have hin : ¬ i < S.length := fun hlt => by
        have : o ∈ l.take S.length := List.mem_of_getElem? (i := i) (by rw [List.getElem?_take, if_pos hlt]; exact hi)
        exact spares_ne hk o this hd
      have hil := (List.getElem?_eq_some_iff.1 hi).1
      exact R.yet i o k hi hd (getD_both (inv.tail i (by omega) (by simpa using hil)))) (fun i o d hi ho hd => (at_ i o d hi ho hd).1)
  rw [e]
  refine hfin vs w (grown_trans (grown_draws w0) R.x) fun i s hs => ?_
  have hi : i < S.length := (List.getElem?_eq_some_iff.1 hs).1
  have ho : l[i]? = some (l[i]'(by omega)) := List.getElem?_eq_getElem (by omega)
  obtain ⟨d, hd, _⟩ := HB.dst_head i _ hi ho
  have := (at_ i _ d hi ho hd).2
  unfold kkAt at this
  rwa [hs] at this

/-- A row of steps: what each does, and with which bytes. -/
def OpsB (w : World) (b off n : Nat) (wh : Nat → Int) (wi : Nat → Nat → Nat) : Prop :=
  b < w.heap.size ∧ ∀ i, i < n → w.cell? ⟨b, off + i * 33, none⟩ = some (.int .i64 (wh i)) ∧ ∀ j, j < 32 → w.cell? ⟨b, off + i * 33 + 1 + j, none⟩ = some (.int .u8 ((wi i j : Nat) : Int))
def OpsAt (w : World) (A : Option Addr) (n : Nat) (wh : Nat → Int) (wi : Nat → Nat → Nat) : Prop := 0 < n → ∃ b off, A = some ⟨b, off, none⟩ ∧ OpsB w b off n wh wi
theorem OpsB.grown {w w' : World} {b off n : Nat} {wh : Nat → Int} {wi : Nat → Nat → Nat} (h : OpsB w b off n wh wi) (k : w.grownBy w' none) : OpsB w' b off n wh wi := by
  obtain ⟨hl, hc⟩ := h
  have e : ∀ o, w'.cell? ⟨b, o, none⟩ = w.cell? ⟨b, o, none⟩ := fun o => World.cell?_of_block (k.block b hl (by simp))
  exact ⟨Nat.lt_of_lt_of_le hl k.size, fun i hi => ⟨(e _).trans (hc i hi).1, fun j hj => (e _).trans ((hc i hi).2 j hj)⟩⟩
theorem range_bytes {w : World} {b o : Nat} {g : Nat → Nat} (h : ∀ j, j < 32 → w.cell? ⟨b, o + j, none⟩ = some (.int .u8 ((g j : Nat) : Int))) : w.rangeAt b o (U8 g).toList := by
  intro j v hv
  rw [Array.getElem?_toList] at hv
  have hj : j < 32 := by
    have := (Array.getElem?_eq_some_iff.1 hv).1
    simpa [U8] using this
  have h1 : (U8 g)[j]? = some (.int .u8 ((g j : Nat) : Int)) := vals_get _ _ hj
  rw [h1] at hv
  rw [← Option.some.inj hv]
  exact h j hj
theorem few_bytes {w : World} {b o c : Nat} {g : Nat → Nat} (hb : b < w.heap.size) (h : ∀ j, j < 32 → w.cell? ⟨b, o + j, none⟩ = some (.int .u8 ((g j : Nat) : Int))) : Few w g (.slice (some ⟨b, o, none⟩) 32 c) 32 := ⟨_, _, rfl, fun _ => ⟨b, o, rfl, hb, h⟩⟩

theorem idx42 {w : World} {b off n c i : Nat} (hi : i < n) : (Instr.indexAt 42 (.slice (some ⟨b, off, none⟩) n c) (.int .i64 i)).run Try.prog w = .ok (.pointer (some ⟨b, off + i * 33, none⟩)) w := by
  go_simp
theorem fld44 {w : World} {b o : Nat} : (Instr.fieldAt 44 (.pointer (some ⟨b, o, none⟩)) 1).run Try.prog w = .ok (.pointer (some ⟨b, o + 1, none⟩)) w := by
  go_simp
theorem sl22 {w : World} {b o : Nat} (hb : (w.cell? ⟨b, o, none⟩).isSome = true) : (Instr.sliceAt 22 (.pointer (some ⟨b, o, none⟩)) none none none).run Try.prog w = .ok (.slice (some ⟨b, o, none⟩) 32 32) w := by
  go_simp
theorem run_op_indexAt {P : Program} {o : Oper} {a : Act} {x y : Operand} {u v v' : Value} {w : World} (ho : o.op = .indexAddr 42 x y) (e : a.eval x = u) (e2 : a.eval y = v) (hr : (Instr.indexAt 42 u v).run P w = .ok v' w) : (execOp a.eval o).run P w = .ok (.value v') w := by
  unfold execOp
  simp [ho, e, e2, hr]
theorem run_op_field44 {P : Program} {o : Oper} {a : Act} {x : Operand} {i : Nat} {v v' : Value} {w : World} (ho : o.op = .fieldAddr 44 x i) (e : a.eval x = v) (hr : (Instr.fieldAt 44 v i).run P w = .ok v' w) : (execOp a.eval o).run P w = .ok (.value v') w := by
  unfold execOp
  simp [ho, e, hr]
theorem eROf (g : Nat → Nat) (hg : ∀ j, j < 32 → g j < 256) (w : World) : Calls Try.prog 15 #[.string (bstr g 32)] w fun e w' => e = .returned (.string (le32 (xF g).val)) ∧ Below w.heap.size w w' :=
  (refOf_any g hg w).mono fun _ _ k => ⟨k.1, k.2⟩
theorem rAdd (a b : Fin p) (w : World) : Calls Try.prog 19 #[.string (le32 a.val), .string (le32 b.val)] w fun e w' => e = .returned (.string (le32 (a + b).val)) ∧ Below w.heap.size w w' :=
  (refAdd_any a.val b.val (fin_256 a) (fin_256 b) w).mono fun _ _ k => ⟨k.1.trans (by rw [fin_add]), k.2⟩
theorem rSub (a b : Fin p) (w : World) : Calls Try.prog 21 #[.string (le32 a.val), .string (le32 b.val)] w fun e w' => e = .returned (.string (le32 (a - b).val)) ∧ Below w.heap.size w w' :=
  (refSub_any a.val b.val (fin_256 a) (Nat.le_of_lt (fin_lt b)) w).mono fun _ _ k => ⟨k.1.trans (by rw [fin_sub]), k.2⟩
theorem rMul (a b : Fin p) (w : World) : Calls Try.prog 23 #[.string (le32 a.val), .string (le32 b.val)] w fun e w' => e = .returned (.string (le32 (a * b).val)) ∧ Below w.heap.size w w' :=
  (refMul_any a.val b.val (fin_256 a) (fin_256 b) w).mono fun _ _ k => ⟨k.1.trans (by rw [fin_mul]), k.2⟩
theorem rInv (a : Fin p) (w : World) : Calls Try.prog 25 #[.string (le32 a.val)] w fun e w' => e = .returned (.string (le32 (inv a).val)) ∧ Below w.heap.size w w' :=
  (refInv_any a.val (fin_256 a) w).mono fun _ _ k => ⟨k.1.trans (by rw [fin_inv]), k.2⟩
/-- A row of five digits stored into a block that lies there. -/
theorem fe_set {w1 w2 : World} {b c : Nat} {x : Fin p} {R : Array Value} (hw : w2 = w1.setRow b R) (h : FeAt w1 c x) (n : c ≠ b) : FeAt w2 c x := h.same (by rw [hw]; exact setRow_other _ _ _ _ n)
theorem fe_put {w1 w2 : World} {b : Nat} {x y : Fin p} {f : Nat → Nat} (hw : w2 = w1.setRow b (U64 f)) (h : FeAt w1 b x) (hf : IsEl f y.val) : FeAt w2 b y := by
  obtain ⟨g, hb, _⟩ := h
  exact ⟨f, by rw [hw]; exact setRow_heap _ _ _ _ _ _ hb, hf⟩
section
variable {W w1 w2 w3 : World} {A B : Obj} {R R' : Array Value} {x y : Fin p} {f g : Nat → Nat} {b : Nat}
theorem fe_two (h1 : w2 = ((w1.alloc A).alloc B).setRow w1.heap.size R) (h2 : w3 = w2.setRow (w1.heap.size + 1) R') (h : FeAt w1 b x) : FeAt w3 b x := by
  have hl := h.lt
  refine h.same ?_
  rw [h2, setRow_other _ _ _ _ (by omega), h1, setRow_other _ _ _ _ (by omega), heap_old _ _ _ (by simp; omega), heap_old _ _ _ hl]
theorem below_two2 (h1 : w2 = ((w1.alloc A).alloc B).setRow w1.heap.size R) (h2 : w3 = w2.setRow (w1.heap.size + 1) R') (h : Below W.heap.size W w1) : Below W.heap.size W w3 := by
  have hs := h.size
  rw [h2, h1]
  exact below_setRow (below_setRow ((h.alloc hs _).alloc (by simp; omega) _) hs _) (by omega) _
theorem two_first (w1 : World) (cs ds : Array Value) : ((w1.alloc (.cells cs 26)).alloc (.cells ds 26)).heap[w1.heap.size]? = some (.cells cs 26 (0, 0)) := by
  rw [heap_old _ _ _ (by simp)]; exact heap_new' _ _ _ rfl
theorem two_second {cs ds : Array Value} (h1 : w2 = ((w1.alloc (.cells cs 26)).alloc (.cells ds 26)).setRow w1.heap.size R) : w2.heap[w1.heap.size + 1]? = some (.cells ds 26 (0, 0)) := by
  rw [h1, setRow_other _ _ _ _ (by omega)]; exact heap_new' _ _ _ (by simp)
theorem two_at1 {cs ds : Array Value} (h1 : w2 = ((w1.alloc (.cells cs 26)).alloc (.cells ds 26)).setRow w1.heap.size (U64 f)) (h2 : w3 = w2.setRow (w1.heap.size + 1) R') (hf : IsEl f x.val) : FeAt w3 w1.heap.size x :=
  ⟨f, by rw [h2, setRow_other _ _ _ _ (by omega), h1]; exact setRow_heap _ _ _ _ _ _ (two_first w1 cs ds), hf⟩
theorem two_at2 {cs ds : Array Value} (h1 : w2 = ((w1.alloc (.cells cs 26)).alloc (.cells ds 26)).setRow w1.heap.size R) (h2 : w3 = w2.setRow (w1.heap.size + 1) (U64 g)) (hg : IsEl g y.val) : FeAt w3 (w1.heap.size + 1) y :=
  ⟨g, by rw [h2]; exact setRow_heap _ _ _ _ _ _ (two_second h1), hg⟩
end
end Go.Proofs.Ytikmghmapmlebaa
