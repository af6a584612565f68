/-
  A range over a function whose iterator writes cells of its own between two rounds: what either side promises the other, and the law of the statement.
-/
import Derived.RangeFuncNested
import Derived.RangeFuncBound
import Derived.RangeFuncCalls
import Derived.RangeFuncLeaves
import Derived.Shelf.Abstract
import Derived.Shelf.RegionOpen
import Derived.WalkKit
import Derived.OwnWalkIn
import Derived.TacticsInMore
import Derived.LoopNIn
import Derived.LoopIn
namespace Go.Rh
open Go.RowKit
variable {P : Program}

theorem room_free {F : Fence} (hd : F.depth = none) (k : Nat) : F.room k := fun d h => by rw [hd] at h; cases h
theorem round_free {F : Fence} (hd : F.depth = none) {m : Nat} (m' : Nat) {l : Nat} {f : FuncId} {tmps : Array Value} {assign body : Code} {w : World} {R : Ending → World → Prop}
    (h : RoundIn F m P l f tmps assign body w R) : RoundIn F m' P l f tmps assign body w R := ⟨h.1, fun c cs _ => h.2 c cs (room_free hd _)⟩
theorem yield_free {m : Nat} (m' : Nat) {l : Nat} {args : Array Value} {W : World} {R : Ending → World → Prop} (h : YieldAt Fence.wide m P l args W R) : YieldAt Fence.wide m' P l args W R := by
  obtain ⟨fn, tmps, assign, body, hy, hR⟩ := h
  exact ⟨fn, tmps, assign, body, hy, round_free rfl m' hR⟩

/-- A caller's facts that bear the iterator's own steps: new blocks; a turn of a block from B on that is one of M or holds no cells. -/
def AbidesE {β : Type} (B : Nat) (M : Nat → Prop) (J : β → World → Prop) : Prop :=
  ∀ s A A' row, J s A → A.grownBy A' row → (∀ r, row = some r → B ≤ r ∧ (M r ∨ ∃ o : Obj, A.heap[r]? = some o ∧ o.isCells = false)) → J s A'
/-- What a round that goes on leaves to the iterator as it was. -/
structure KpE (bs : Nat → Prop) (B E : Nat) (A A' : World) : Prop where
  size : A.heap.size ≤ A'.heap.size
  block : ∀ k, (bs k ∨ B ≤ k ∧ k < E) → A'.heap[k]? = A.heap[k]?
theorem KpE.trans {bs : Nat → Prop} {B E : Nat} {X Y Z : World} (h : KpE bs B E X Y) (k : KpE bs B E Y Z) : KpE bs B E X Z := ⟨Nat.le_trans h.size k.size, fun i hi => (k.block i hi).trans (h.block i hi)⟩
theorem KpE.less {B E E' : Nat} {X Y : World} (h : KpE (fun _ => False) B E X Y) (hE : E' ≤ E) : KpE (fun _ => False) B E' X Y := ⟨h.size, fun k hk => h.block k (.inr (by have := hk.resolve_left id; omega))⟩
theorem KpE.refl (bs : Nat → Prop) (B E : Nat) (X : World) : KpE bs B E X X := ⟨Nat.le_refl _, fun _ _ => rfl⟩

/-- An iterator's contract: it yields the elements of `xs` in their order, as long as it is told to go on; the blocks below `E` are its own. -/
def SeqX {α : Type} (P : Program) (g : Nat) (lb : Array Value) (encs : α → Array Value) (bs : Nat → Prop) (M : Nat → Nat → Prop) (xs : List α) (E : Nat) (W : World) : Prop :=
  W.heap.size ≤ E ∧ ∀ (l : Nat) (J Jx : List α → World → Prop), AbidesE W.heap.size (M W.heap.size) J → AbidesE W.heap.size (M W.heap.size) Jx →
    (∀ pre x rest W1, xs = pre ++ x :: rest → E ≤ W1.heap.size → J pre W1 → YieldAt Fence.wide 0 P l (encs x) W1 fun e W' =>
      (e = .returned (.bool true) ∧ J (pre ++ [x]) W' ∧ KpE bs W.heap.size E W1 W') ∨ (e = .returned (.bool false) ∧ Jx (pre ++ [x]) W' ∧ KpE (fun _ => False) W.heap.size E W1 W')) →
    J [] W → Calls P g (#[.func (.yield l) #[] #[]] ++ lb) W fun e W' => (∃ v, e = .returned v) ∧ E ≤ W'.heap.size ∧ (J xs W' ∨ ∃ pre, pre <+: xs ∧ Jx pre W')

/-- How the body of a round may be left. -/
def postE {α : Type} (bs : Nat → Prop) (B E : Nat) (I : List α → World → Prop) (Ix : Code → List α → World → Prop) (ys : List α) (W : World) : Exit → Act → World → Prop
  | .normal, _, W' => KpE bs B E W W' ∧ I ys W'
  | .ret, _, W' => KpE (fun _ => False) B E W W' ∧ Ix .ret ys W'
  | .exit id, _, W' => KpE (fun _ => False) B E W W' ∧ Ix (.exit id) ys W'
  | .goto t, _, W' => KpE (fun _ => False) B E W W' ∧ Ix (.goto t) ys W'
  | .panic _, _, _ => False
  | .outgrown, _, _ => False

theorem wp_rangeFunc_X {α : Type} {g : Operand} {ps : Array Tmp} {assign body : Code} {Q : Exit → Act → World → Prop} {a : Act} {w : World}
    {gf : Nat} {lb : Array Value} (hg : a.eval g = .func (.func gf) #[] lb) (eg : ∀ args w, (callFunc gf args).run P w = .ok (.enter gf args) w)
    {encs : α → Array Value} {bs : Nat → Prop} {M : Nat → Nat → Prop} {xs : List α} (hbs : ∀ k, bs k → k < w.heap.size) (E : Nat)
    (hseq : ∀ W1 : World, W1.heap.size = w.heap.size + 2 → (∀ k, k < w.heap.size → W1.heap[k]? = w.heap[k]?) → SeqX P gf lb encs bs M xs E W1) (hps : ∀ x, (encs x).size = ps.size)
    (I : List α → World → Prop) (Ix : Code → List α → World → Prop) (hI : AbidesE w.heap.size (M (w.heap.size + 2)) I) (hIx : ∀ c, AbidesE w.heap.size (M (w.heap.size + 2)) (Ix c))
    (h0 : I [] w) (a₁ : α → Act)
    (hassign : ∀ (l : Nat) (x : α) (W : World) (K : Act → World → Prop), K (a₁ x) W →
      assign.wpIn (Fence.wide.inRound l) 7 P (Exit.then K (fun _ _ _ => False)) { tmps := (ps.zip (encs x)).foldl (fun t (p, v) => t.setIfInBounds p v) a.tmps, defers := [] } W)
    (hbody : ∀ (l : Nat) (pre : List α) (x : α) (rest : List α) (W : World), xs = pre ++ x :: rest → E ≤ W.heap.size → I pre W →
      body.wpIn (Fence.wide.inRound l) 7 P (postE bs w.heap.size E I Ix (pre ++ [x]) W) (a₁ x) W)
    (hdone : ∀ (D : Nat) (W : World), D = w.heap.size → E ≤ W.heap.size → I xs W → W.heap[D]? = some (.deferred (some [])) → Q .normal { a with defers := { target := .collected D, args := #[] } :: a.defers } W)
    (hstop : ∀ (D : Nat) (c : Code) (pre : List α) (W : World), D = w.heap.size → E ≤ W.heap.size → pre <+: xs → Ix c pre W → W.heap[D]? = some (.deferred (some [])) → c.wp P Q { a with defers := { target := .collected D, args := #[] } :: a.defers } W) :
    (Code.rangeFunc g ps assign body).wp P Q a w := by
  refine (wpIn_wide (n := 9)).1 (wpIn_rangeFunc fun fn _ => ?_)
  obtain ⟨rec, hrec⟩ : ∃ rec : LoopState → Option Code → Loop, rec = fun st pe => { state := st, pending := pe, fn, tmps := a.tmps, params := ps, assign, body, defers := w.heap.size } := ⟨_, rfl⟩
  obtain ⟨W1, hW1⟩ : ∃ W1, (w.alloc (.deferred (some []))).alloc (.loop (rec .ready none)) = W1 := ⟨_, rfl⟩
  have hsz : W1.heap.size = w.heap.size + 2 := by rw [← hW1]; simp
  have hold : ∀ k, k < w.heap.size → W1.heap[k]? = w.heap[k]? := fun k hk => by
    rw [← hW1]; exact (Below.heap_alloc _ _ _ (by simp; omega)).trans (Below.heap_alloc _ _ _ hk)
  have hL1 : W1.heap[w.heap.size + 1]? = some (.loop (rec .ready none)) := by
    rw [← hW1]; have := World.alloc_heap_new (w.alloc (.deferred (some []))) (.loop (rec .ready none)); rwa [World.size_alloc] at this
  have hK1 : W1.heap[w.heap.size]? = some (.deferred (some [])) := by
    rw [← hW1]; exact (Below.heap_alloc _ _ _ (by simp)).trans (World.alloc_heap_new w _)
  obtain ⟨hE, hcon⟩ := hseq W1 hsz hold
  rw [hsz] at hE hcon
  have hI1 : I [] W1 := by
    rw [← hW1]
    exact hI _ _ _ none (hI _ _ _ none (h0) (World.grownBy_alloc w _ none) (fun r e => by cases e)) (World.grownBy_alloc _ _ none) (fun r e => by cases e)
  refine ⟨w.heap.size + 1, [{ target := .collected w.heap.size, args := #[] }], W1, { target := .fn (.func gf) lb, args := #[.func (.yield (w.heap.size + 1)) #[] #[]] }, W1, gf,
    #[.func (.yield (w.heap.size + 1)) #[] #[]] ++ lb, W1, ?_, ?_, fun _ _ => trivial, ?_, fun h => by simp [Fence.wide] at h, ?_⟩
  · rw [← hW1, hrec]; exact run_enterLoop_outer _ _ _ _ _
  · simp only [resolve, hg]
    simp [go_sem]
  · simp [invoke, go_sem, eg]
  refine callsIn_wide.2 ?_
  have put : ∀ {Z : List α → World → Prop} (hZ : AbidesE w.heap.size (M (w.heap.size + 2)) Z) {ys : List α} {W : World} {o : Obj} (o' : Obj), Z ys W → W.heap[w.heap.size + 1]? = some o → o.isCells = false → Z ys (W.putObj (w.heap.size + 1) o') :=
    fun {Z} hZ {ys W o} o' hz hl ho => hZ ys W _ (some (w.heap.size + 1)) hz (grownBy_putObj' W _ o') (fun r e => by cases e; exact ⟨by omega, .inr ⟨o, hl, ho⟩⟩)
  have stay : ∀ {A A' : World} {row : Option Nat}, A.grownBy A' row → (∀ r, row = some r → w.heap.size + 2 ≤ r ∧ (M (w.heap.size + 2) r ∨ ∃ o : Obj, A.heap[r]? = some o ∧ o.isCells = false)) →
      ∀ {k : Nat} {o : Obj}, k < w.heap.size + 2 → A.heap[k]? = some o → A'.heap[k]? = some o := fun {A A' row} hg' hr {k o} hk ho =>
    (hg'.block k (Array.getElem?_eq_some_iff.1 ho).1 (fun e => by have := (hr k e.symm).1; omega)).trans ho
  have wide : ∀ {A : World} {row : Option Nat}, (∀ r, row = some r → w.heap.size + 2 ≤ r ∧ (M (w.heap.size + 2) r ∨ ∃ o : Obj, A.heap[r]? = some o ∧ o.isCells = false)) →
      ∀ r, row = some r → w.heap.size ≤ r ∧ (M (w.heap.size + 2) r ∨ ∃ o : Obj, A.heap[r]? = some o ∧ o.isCells = false) := fun {A row} hr r e => ⟨by have := (hr r e).1; omega, (hr r e).2⟩
  refine (hcon (w.heap.size + 1)
    (fun pre W => I pre W ∧ W.heap[w.heap.size + 1]? = some (.loop (rec .ready none)) ∧ W.heap[w.heap.size]? = some (.deferred (some [])))
    (fun pre W => ∃ c, Ix c pre W ∧ W.heap[w.heap.size + 1]? = some (.loop (rec .done (some c))) ∧ W.heap[w.heap.size]? = some (.deferred (some [])))
    (fun s A A' row hs hg' hr => ⟨hI s A A' row hs.1 hg' (wide hr), stay hg' hr (by omega) hs.2.1, stay hg' hr (by omega) hs.2.2⟩)
    (fun s A A' row hs hg' hr => by
      obtain ⟨c, hc, hl, hk⟩ := hs
      exact ⟨c, hIx c s A A' row hc hg' (wide hr), stay hg' hr (by omega) hl, stay hg' hr (by omega) hk⟩)
    ?_ ⟨hI1, hL1, hK1⟩).mono ?_
  · rintro pre x rest W hx hEW ⟨hi, hl, hk⟩
    have hlt : w.heap.size + 1 < W.heap.size := (Array.getElem?_eq_some_iff.1 hl).1
    have hy := run_yield (P := P) (args := encs x) hl (by rw [hrec]; exact hps x)
    rw [hrec] at hy
    refine ⟨fn, _, assign, body, hy, round_free rfl 0 (m := 7) (roundIn_of_wpIn trivial (hassign _ x W _ ⟨_, run_beginRound hl (by rw [hrec]), ?_⟩))⟩
    have hl2 : (W.putObj (w.heap.size + 1) (.loop { rec .ready none with state := .busy })).heap[w.heap.size + 1]? = some (.loop { rec .ready none with state := .busy }) := World.putObj_heap_same hlt
    have hk2 : (W.putObj (w.heap.size + 1) (.loop { rec .ready none with state := .busy })).heap[w.heap.size]? = some (.deferred (some [])) := (World.putObj_heap_other (by omega)).trans hk
    have kput : ∀ (A : World) (o : Obj), KpE bs (w.heap.size + 2) E A (A.putObj (w.heap.size + 1) o) := fun A o =>
      ⟨by simp, fun k hk => World.putObj_heap_other (by rcases hk with hk | hk; have := hbs k hk; omega; omega)⟩
    refine wpIn_mono (hbody _ pre x rest _ hx (by simpa using hEW) (put (hI) _ hi hl rfl)) ?_
    have kput0 : ∀ (A : World) (o : Obj), KpE (fun _ => False) (w.heap.size + 2) E A (A.putObj (w.heap.size + 1) o) := fun A o =>
      ⟨by simp, fun k hk => World.putObj_heap_other (by have := hk.resolve_left id; omega)⟩
    have kfin : ∀ (W3 : World), KpE (fun _ => False) w.heap.size E (W.putObj (w.heap.size + 1) (.loop { rec .ready none with state := .busy })) W3 → ∀ {o : Obj}, KpE (fun _ => False) (w.heap.size + 2) E W (W3.putObj (w.heap.size + 1) o) := fun W3 hk3 _ =>
      ((kput0 W _).trans ⟨hk3.size, fun k hk => hk3.block k (.inr (by have := hk.resolve_left id; omega))⟩).trans (kput0 W3 _)
    have fin : ∀ (jump : Option Code) (W3 : World), KpE (fun _ => False) w.heap.size (w.heap.size + 2) (W.putObj (w.heap.size + 1) (.loop { rec .ready none with state := .busy })) W3 →
        (Instr.endRound (w.heap.size + 1) jump).run P W3 = .ok (.bool jump.isNone) (W3.putObj (w.heap.size + 1) (.loop (rec (if jump.isNone then .ready else .done) jump))) ∧
        W3.heap[w.heap.size + 1]? = some (.loop { rec .ready none with state := .busy }) ∧
        (W3.putObj (w.heap.size + 1) (.loop (rec (if jump.isNone then .ready else .done) jump))).heap[w.heap.size + 1]? = some (.loop (rec (if jump.isNone then .ready else .done) jump)) ∧
        (W3.putObj (w.heap.size + 1) (.loop (rec (if jump.isNone then .ready else .done) jump))).heap[w.heap.size]? = some (.deferred (some [])) := fun jump W3 hk3 => by
      have hl3 := (hk3.block (w.heap.size + 1) (.inr ⟨by omega, by omega⟩)).trans hl2
      have := run_endRound (P := P) jump hl3
      rw [hrec] at this ⊢
      exact ⟨this, by rw [hrec] at hl3; exact hl3, World.putObj_heap_same (Array.getElem?_eq_some_iff.1 hl3).1, (World.putObj_heap_other (by omega)).trans ((hk3.block w.heap.size (.inr ⟨by omega, by omega⟩)).trans hk2)⟩
    rintro e a3 W3 hp
    cases e with
    | normal =>
      obtain ⟨hk3, hi3⟩ := hp
      obtain ⟨hr, hl3, hl4, hk4⟩ := fin none W3 ⟨hk3.size, fun k hk => hk3.block k (.inr ⟨(hk.resolve_left id).1, by have := (hk.resolve_left id).2; omega⟩)⟩
      exact ⟨_, _, hr, .inl ⟨rfl, ⟨put (hI) _ hi3 hl3 rfl, hl4, hk4⟩,
        ((kput W _).trans ⟨hk3.size, fun k hk => hk3.block k (hk.imp id fun h => ⟨by omega, h.2⟩)⟩).trans (kput W3 _)⟩⟩
    | ret =>
      obtain ⟨hk3, hi3⟩ := hp
      obtain ⟨hr, hl3, hl4, hk4⟩ := fin (some .ret) W3 (hk3.less hE)
      exact ⟨_, _, hr, .inr ⟨rfl, ⟨.ret, put (hIx _) _ hi3 hl3 rfl, hl4, hk4⟩, kfin W3 hk3⟩⟩
    | exit id =>
      obtain ⟨hk3, hi3⟩ := hp
      obtain ⟨hr, hl3, hl4, hk4⟩ := fin (some (.exit id)) W3 (hk3.less hE)
      exact ⟨_, _, hr, .inr ⟨rfl, ⟨.exit id, put (hIx _) _ hi3 hl3 rfl, hl4, hk4⟩, kfin W3 hk3⟩⟩
    | goto t =>
      obtain ⟨hk3, hi3⟩ := hp
      obtain ⟨hr, hl3, hl4, hk4⟩ := fin (some (.goto t)) W3 (hk3.less hE)
      exact ⟨_, _, hr, .inr ⟨rfl, ⟨.goto t, put (hIx _) _ hi3 hl3 rfl, hl4, hk4⟩, kfin W3 hk3⟩⟩
    | panic ch => exact hp.elim
    | outgrown => exact hp.elim
  · rintro e W2 ⟨⟨v, rfl⟩, hEW2, (⟨hi, hl, hk⟩ | ⟨pre, hSp, c, hi, hl, hk⟩)⟩
    · exact ⟨none, _, by have := run_endLoop (P := P) hl (by rw [hrec]; simp); rw [hrec] at this; exact this, hdone _ _ rfl (by simpa using hEW2) (put (hI) _ hi hl rfl) ((World.putObj_heap_other (by omega)).trans hk)⟩
    · exact ⟨some c, _, by have := run_endLoop (P := P) hl (by rw [hrec]; simp); rw [hrec] at this; exact this, wpIn_wide.2 (hstop _ c pre _ rfl (by simpa using hEW2) hSp (put (hIx c) _ hi hl rfl) ((World.putObj_heap_other (by omega)).trans hk))⟩
/-- A function that held such a loop returns. -/
theorem leave_mark {F : Fence} {n : Nat} {fn : Func} {tmps : Array Value} {R : Ending → World → Prop} {D : Nat} {w : World} {v : Value} (hK : w.heap[D]? = some (.deferred (some []))) (hv : ∀ W : World, (results fn tmps).run P W = .ok v W)
    (hR : R (.returned v) (w.putObj D (.deferred none))) : LeavesInM F n P fn tmps R [{ target := .collected D, args := #[] }] .returning w :=
  ⟨by simp, .inl ⟨_, _, rfl, run_takeDeferred hK, _, hv _, hR⟩⟩
theorem leave_none {F : Fence} {n : Nat} {fn : Func} {tmps : Array Value} {R : Ending → World → Prop} {w : World} {v : Value} (hv : ∀ W : World, (results fn tmps).run P W = .ok v W) (hR : R (.returned v) w) : LeavesInM F n P fn tmps R [] .returning w :=
  ⟨_, hv _, hR⟩
end Go.Rh
