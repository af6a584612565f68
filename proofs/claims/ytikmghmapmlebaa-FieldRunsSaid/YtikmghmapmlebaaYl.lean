/-
  What curve.Times keeps in memory; loads and stores of half a point.
-/
import Derived.Test.YtikmghmapmlebaaYg
import Derived.Test.YtikmghmapmlebaaYi
namespace Go.Proofs.Ytikmghmapmlebaa
open Go.RowKit Go.Rh F255

theorem size_setCells (b : Nat) : ∀ (vs : List Value) (o : Nat) (w : World), (w.setCells b o vs).heap.size = w.heap.size
  | [], _, _ => rfl
  | v :: r, o, w => by rw [World.setCells, size_setCells b r]; simp
theorem other_setCells (b k : Nat) (h : k ≠ b) : ∀ (vs : List Value) (o : Nat) (w : World), (w.setCells b o vs).heap[k]? = w.heap[k]?
  | [], _, _ => rfl
  | v :: r, o, w => by rw [World.setCells, other_setCells b k h r]; exact heap_set_other w b o k v h
theorem below_setCells {B : Nat} {w0 : World} {b : Nat} (hb : B ≤ b) : ∀ (vs : List Value) (o : Nat) (w : World), Below B w0 w → Below B w0 (w.setCells b o vs)
  | [], _, _, h => h
  | v :: r, o, w, h => by rw [World.setCells]; exact below_setCells hb r _ _ (h.setCell (p := ⟨b, o, none⟩) hb v)
theorem mid0 {w : World} {b : Nat} {f g : Nat → Nat} (f' : Nat → Nat) (h : w.heap[b]? = some (.cells (P10 f g) 66 (0, 0))) : (w.setCells b 0 (U64 f').toList).heap[b]? = some (.cells (P10 f' g) 66 (0, 0)) := by
  have e : (U64 f').toList = [.int .u64 (f' 0 : Nat), .int .u64 (f' 1 : Nat), .int .u64 (f' 2 : Nat), .int .u64 (f' 3 : Nat), .int .u64 (f' 4 : Nat)] := rfl
  rw [e]
  simp only [World.setCells]
  have h0 := heap_set_vals (f' 0 : Nat) h (j := 0) (by omega)
  have h1 := heap_set_vals (f' 1 : Nat) h0 (j := 1) (by omega)
  have h2 := heap_set_vals (f' 2 : Nat) h1 (j := 2) (by omega)
  have h3 := heap_set_vals (f' 3 : Nat) h2 (j := 3) (by omega)
  have h4 := heap_set_vals (f' 4 : Nat) h3 (j := 4) (by omega)
  refine h4.trans (congrArg (fun z => some (Obj.cells z 66 (0, 0))) (vals_congr _ _ fun j hj => ?_))
  obtain rfl | rfl | rfl | rfl | rfl | hj : j = 0 ∨ j = 1 ∨ j = 2 ∨ j = 3 ∨ j = 4 ∨ 5 ≤ j := by omega
  iterate 5 (simp [upd])
  rw [if_neg (by omega)]
  unfold upd
  rw [if_neg (by omega), if_neg (by omega), if_neg (by omega), if_neg (by omega), if_neg (by omega)]
  simp only []
  rw [if_neg (by omega)]
theorem mid5 {w : World} {b : Nat} {f g : Nat → Nat} (g' : Nat → Nat) (h : w.heap[b]? = some (.cells (P10 f g) 66 (0, 0))) : (w.setCells b 5 (U64 g').toList).heap[b]? = some (.cells (P10 f g') 66 (0, 0)) := by
  have e : (U64 g').toList = [.int .u64 (g' 0 : Nat), .int .u64 (g' 1 : Nat), .int .u64 (g' 2 : Nat), .int .u64 (g' 3 : Nat), .int .u64 (g' 4 : Nat)] := rfl
  rw [e]
  simp only [World.setCells]
  have h0 := heap_set_vals (g' 0 : Nat) h (j := 5) (by omega)
  have h1 := heap_set_vals (g' 1 : Nat) h0 (j := 6) (by omega)
  have h2 := heap_set_vals (g' 2 : Nat) h1 (j := 7) (by omega)
  have h3 := heap_set_vals (g' 3 : Nat) h2 (j := 8) (by omega)
  have h4 := heap_set_vals (g' 4 : Nat) h3 (j := 9) (by omega)
  refine h4.trans (congrArg (fun z => some (Obj.cells z 66 (0, 0))) (vals_congr _ _ fun j hj => ?_))
  obtain rfl | rfl | rfl | rfl | rfl | hj : j = 5 ∨ j = 6 ∨ j = 7 ∨ j = 8 ∨ j = 9 ∨ j < 5 := by omega
  iterate 5 (simp [upd])
  rw [if_pos hj]
  unfold upd
  rw [if_neg (by omega), if_neg (by omega), if_neg (by omega), if_neg (by omega), if_neg (by omega)]
  simp only []
  rw [if_pos hj]
theorem there_of {w : World} {b o : Nat} {f g : Nat → Nat} (ho : o + 5 ≤ 10) (h : w.heap[b]? = some (.cells (P10 f g) 66 (0, 0))) : w.there b o 5 := fun j hj => by
  refine ⟨?_, frozen_of_row _ _ _ _ _ h⟩
  rw [cell_vals h (by omega)]; rfl
theorem wpList_load_half {P : Program} {ops : Array Oper} {rest : List Oper} {op : Oper} {a : Act} {w : World} {Q : Exit → Act → World → Prop} (hgd : op.guard = none) (ty : TypeId) (x : Operand) (ho : op.op = .load ty x)
    (b o : Nat) (hx : a.eval x = .pointer (some ⟨b, o, none⟩)) (cs : Array Value) (d : TypeDesc) (hc : w.rangeAt b o cs.toList)
    (hu : P.underlying ty = some d) (hd : d.isRow = true) (hi : (P.info? ty).map (·.size) = some cs.size)
    (h : wpList P ops Q rest (a.put op.dst (.agg cs)) w) : wpList P ops Q (op :: rest) a w :=
  wpList_load_mid hgd ty x ho b o hx cs.toList d hc hu hd (by simpa using hi) (by simpa using h)

/-- The halves the other way round. -/
def sw (b : Bool) (q : Fin p × Fin p × Fin p × Fin p) : Fin p × Fin p × Fin p × Fin p := if b then (q.2.2.1, q.2.2.2, q.1, q.2.1) else q
theorem sw_sw (s t : Bool) (q : Fin p × Fin p × Fin p × Fin p) : sw (s != t) (sw t q) = sw s q := by
  cases s <;> cases t <;> rfl
theorem lstep_sw (u : Fin p) (s : Bool) (q : Fin p × Fin p × Fin p × Fin p) : Ed.lstep kF u false (sw s q) = sw s (Ed.lstep kF u s q) := by
  cases s <;> rfl

/-- What lies beside the two points. -/
structure MT (w : World) (g : Nat → Nat) (u : Fin p) (b2 b4 b5 b6 b7 : Nat) (wr : World) : Prop where
  num : wr.heap[b2]? = some (.cells (U8 g) 22 (0, 0))
  res : wr.heap[b4]? = some (.cells (U8 fun _ => 0) 22 (0, 0))
  fe : FeAt wr b5 u
  below : Below w.heap.size w wr
  lo4 : w.heap.size ≤ b4
  lo6 : w.heap.size ≤ b6
  lo7 : w.heap.size ≤ b7
  n67 : b6 ≠ b7
  n26 : b2 ≠ b6
  n27 : b2 ≠ b7
  n46 : b4 ≠ b6
  n47 : b4 ≠ b7
  n56 : b5 ≠ b6
  n57 : b5 ≠ b7
def PQ (b6 b7 : Nat) (F1 G1 F2 G2 : Nat → Nat) (wr : World) : Prop := wr.heap[b6]? = some (.cells (P10 F1 G1) 66 (0, 0)) ∧ wr.heap[b7]? = some (.cells (P10 F2 G2) 66 (0, 0))
theorem MT.own {w wr w' : World} {g : Nat → Nat} {u : Fin p} {b2 b4 b5 b6 b7 : Nat} (h : MT w g u b2 b4 b5 b6 b7 wr) (hb : Below wr.heap.size wr w') : MT w g u b2 b4 b5 b6 b7 w' :=
  ⟨(hb.block _ (heap_lt h.num)).trans h.num, (hb.block _ (heap_lt h.res)).trans h.res, h.fe.grown (grown_own hb), h.below.trans (hb.mono h.below.size), h.lo4, h.lo6, h.lo7, h.n67, h.n26, h.n27, h.n46, h.n47, h.n56, h.n57⟩
theorem PQ.own {wr w' : World} {b6 b7 : Nat} {F1 G1 F2 G2 : Nat → Nat} (h : PQ b6 b7 F1 G1 F2 G2 wr) (hb : Below wr.heap.size wr w') : PQ b6 b7 F1 G1 F2 G2 w' :=
  ⟨(hb.block _ (heap_lt h.1)).trans h.1, (hb.block _ (heap_lt h.2)).trans h.2⟩
theorem MT.six {w wr : World} {g : Nat → Nat} {u : Fin p} {b2 b4 b5 b6 b7 : Nat} (h : MT w g u b2 b4 b5 b6 b7 wr) (o : Nat) (vs : List Value) : MT w g u b2 b4 b5 b6 b7 (wr.setCells b6 o vs) :=
  ⟨(other_setCells _ _ h.n26 _ _ _).trans h.num, (other_setCells _ _ h.n46 _ _ _).trans h.res, h.fe.same (other_setCells _ _ h.n56 _ _ _), below_setCells h.lo6 _ _ _ h.below, h.lo4, h.lo6, h.lo7, h.n67, h.n26, h.n27, h.n46, h.n47, h.n56, h.n57⟩
theorem MT.seven {w wr : World} {g : Nat → Nat} {u : Fin p} {b2 b4 b5 b6 b7 : Nat} (h : MT w g u b2 b4 b5 b6 b7 wr) (o : Nat) (vs : List Value) : MT w g u b2 b4 b5 b6 b7 (wr.setCells b7 o vs) :=
  ⟨(other_setCells _ _ h.n27 _ _ _).trans h.num, (other_setCells _ _ h.n47 _ _ _).trans h.res, h.fe.same (other_setCells _ _ h.n57 _ _ _), below_setCells h.lo7 _ _ _ h.below, h.lo4, h.lo6, h.lo7, h.n67, h.n26, h.n27, h.n46, h.n47, h.n56, h.n57⟩
theorem MT.six_row {w wr : World} {g : Nat → Nat} {u : Fin p} {b2 b4 b5 b6 b7 : Nat} (h : MT w g u b2 b4 b5 b6 b7 wr) (cs : Array Value) : MT w g u b2 b4 b5 b6 b7 (wr.setRow b6 cs) :=
  ⟨(setRow_other _ _ _ _ h.n26).trans h.num, (setRow_other _ _ _ _ h.n46).trans h.res, h.fe.same (setRow_other _ _ _ _ h.n56), below_setRow h.below h.lo6 _, h.lo4, h.lo6, h.lo7, h.n67, h.n26, h.n27, h.n46, h.n47, h.n56, h.n57⟩
theorem MT.seven_row {w wr : World} {g : Nat → Nat} {u : Fin p} {b2 b4 b5 b6 b7 : Nat} (h : MT w g u b2 b4 b5 b6 b7 wr) (cs : Array Value) : MT w g u b2 b4 b5 b6 b7 (wr.setRow b7 cs) :=
  ⟨(setRow_other _ _ _ _ h.n27).trans h.num, (setRow_other _ _ _ _ h.n47).trans h.res, h.fe.same (setRow_other _ _ _ _ h.n57), below_setRow h.below h.lo7 _, h.lo4, h.lo6, h.lo7, h.n67, h.n26, h.n27, h.n46, h.n47, h.n56, h.n57⟩
theorem PQ.six0 {wr : World} {b6 b7 : Nat} {F1 G1 F2 G2 : Nat → Nat} (h : PQ b6 b7 F1 G1 F2 G2 wr) (n : b6 ≠ b7) (f : Nat → Nat) : PQ b6 b7 f G1 F2 G2 (wr.setCells b6 0 (U64 f).toList) := ⟨mid0 f h.1, (other_setCells _ _ (Ne.symm n) _ _ _).trans h.2⟩
theorem PQ.six5 {wr : World} {b6 b7 : Nat} {F1 G1 F2 G2 : Nat → Nat} (h : PQ b6 b7 F1 G1 F2 G2 wr) (n : b6 ≠ b7) (f : Nat → Nat) : PQ b6 b7 F1 f F2 G2 (wr.setCells b6 5 (U64 f).toList) := ⟨mid5 f h.1, (other_setCells _ _ (Ne.symm n) _ _ _).trans h.2⟩
theorem PQ.seven0 {wr : World} {b6 b7 : Nat} {F1 G1 F2 G2 : Nat → Nat} (h : PQ b6 b7 F1 G1 F2 G2 wr) (n : b6 ≠ b7) (f : Nat → Nat) : PQ b6 b7 F1 G1 f G2 (wr.setCells b7 0 (U64 f).toList) := ⟨(other_setCells _ _ n _ _ _).trans h.1, mid0 f h.2⟩
theorem PQ.seven5 {wr : World} {b6 b7 : Nat} {F1 G1 F2 G2 : Nat → Nat} (h : PQ b6 b7 F1 G1 F2 G2 wr) (n : b6 ≠ b7) (f : Nat → Nat) : PQ b6 b7 F1 G1 F2 f (wr.setCells b7 5 (U64 f).toList) := ⟨(other_setCells _ _ n _ _ _).trans h.1, mid5 f h.2⟩
theorem IsEl.lt64 {f : Nat → Nat} {n : Nat} (h : IsEl f n) : ∀ j, j < 5 → f j < 18446744073709551616 := fun j hj => Nat.lt_trans (h.ok j hj) (by decide)

/-- The bytes of a number of the field. -/
def xB (x : Fin p) (j : Nat) : Nat := x.val / 256 ^ j % 256
theorem eBytes {f : Nat → Nat} {x : Fin p} (h : IsEl f x.val) (w : World) : Calls Try.prog 36 #[.agg (U64 f)] w fun e w' => e = .returned (.agg (U8 (xB x))) ∧ Below w.heap.size w w' :=
  (bytes_any f (fun j hj => Nat.lt_trans (h.ok j hj) (by decide)) w).mono fun _ _ k => ⟨k.1.trans (by rw [show U8 (chunk 8 (val (topF (carryN (carryN (carryN f)))) % 2 ^ 255) 255) = U8 fun j => x.val % pN / 256 ^ j % 256 from congrArg U8 (bytes_of h), Nat.mod_eq_of_lt (fin_lt x)]; rfl), k.2⟩
theorem eOf (g : Nat → Nat) (hg : ∀ j, j < 32 → g j < 256) (w : World) : Calls Try.prog 14 #[.agg (U8 g)] w fun e w' => (∃ f, e = .returned (.agg (U64 f)) ∧ IsEl f (xF g).val) ∧ Below w.heap.size w w' :=
  (of_el g hg w).mono fun _ _ h => ⟨h.1.imp fun f k => ⟨k.1, k.2.of_mod (by unfold xF; simp only []; rw [Nat.mod_mod])⟩, h.2⟩
end Go.Proofs.Ytikmghmapmlebaa
namespace Go.Proofs.Ytikmghmapmlebaa
open Go.RowKit Go.Rh F255

/-- The number 1, byte by byte. -/
def d1 (j : Nat) : Nat := if j = 0 then 1 else 0
theorem d1_z : ∀ j, 1 ≤ j → d1 j = 0 := fun j h => if_neg (by omega)
theorem d1_lt : ∀ j, j < 32 → d1 j < 256 := fun j _ => by
  unfold d1
  split <;> decide
theorem d1_val : leN d1 32 % 57896044618658097711785492504343953926634992332820282019728792003956564819968 = (1 : Fin p).val := by decide +kernel
theorem d0_val : leN (fun _ => 0) 32 % 57896044618658097711785492504343953926634992332820282019728792003956564819968 = (0 : Fin p).val := by decide +kernel
theorem few1 (w : World) : Few (w.alloc (.cells #[.int .u8 1] 5)) d1 (.slice (some ⟨w.heap.size, 0, none⟩) 1 1) 1 := by
  refine ⟨_, _, rfl, fun _ => ⟨_, 0, rfl, by simp, fun j hj => ?_⟩⟩
  have h : (w.alloc (.cells #[.int .u8 1] 5)).heap[w.heap.size]? = some (.cells #[.int .u8 1] 5 (0, 0)) := heap_new' _ _ _ rfl
  rw [Nat.zero_add, cell_of_row _ _ _ _ _ _ h]
  obtain rfl : j = 0 := by omega
  rfl
theorem few0 (w : World) : Few w (fun _ => 0) (.slice none 0 0) 0 := ⟨_, _, rfl, fun h => absurd h (by decide)⟩
theorem eSm1 {w : World} {v : Value} (h : Few w d1 v 1) : Calls Try.prog 41 #[v] w fun e w' => (∃ f, e = .returned (.agg (U64 f)) ∧ IsEl f (1 : Fin p).val) ∧ Below w.heap.size w w' := by
  rw [← d1_val]
  exact csmall_any h (by decide) d1_z d1_lt
theorem eSm0 (w : World) : Calls Try.prog 41 #[.slice none 0 0] w fun e w' => (∃ f, e = .returned (.agg (U64 f)) ∧ IsEl f (0 : Fin p).val) ∧ Below w.heap.size w w' := by
  rw [← d0_val]
  exact csmall_any (few0 w) (by decide) (fun _ _ => rfl) (fun _ _ => by decide)
theorem argsC (a : Act) (v : Value) : #[Operand.const v].map a.eval = #[v] := by simp [Act.eval]
theorem run_bs {a : Act} {o : Oper} {w : World} (ho : o.op = .buildSlice 29 1 #[(0, .const (.int .u8 1))]) :
    (execOp a.eval o).run Try.prog w = .ok (.value (.slice (some ⟨w.heap.size, 0, none⟩) 1 1)) (w.alloc (.cells #[.int .u8 1] 5)) := by
  unfold execOp
  simp only [ho]
  go_simp

theorem sw_first (s : Bool) (q : Fin p × Fin p × Fin p × Fin p) : (if s = true then (sw s q).2.2.1 else (sw s q).1) = q.1 := by cases s <;> rfl
theorem sw_second (s : Bool) (q : Fin p × Fin p × Fin p × Fin p) : (if s = true then (sw s q).2.2.2 else (sw s q).2.1) = q.2.1 := by cases s <;> rfl
theorem swap_el (t : Bool) {a b : Nat → Nat} {x y : Fin p} (ha : IsEl a x.val) (hb : IsEl b y.val) (w : World) :
    Calls Try.prog 28 #[.bool t, .agg (U64 a), .agg (U64 b)] w fun e w' => (∃ a' b', e = .returned (.tuple #[.agg (U64 a'), .agg (U64 b')]) ∧ IsEl a' (if t then y else x).val ∧ IsEl b' (if t then x else y).val) ∧ Below w.heap.size w w' :=
  (swap_any t a b (IsEl.lt64 ha) (IsEl.lt64 hb) w).mono fun _ _ h => ⟨⟨_, _, h.1, by cases t; exact ha; exact hb, by cases t; exact hb; exact ha⟩, h.2⟩
theorem there_U {w : World} {b o : Nat} {f g : Nat → Nat} (f' : Nat → Nat) (ho : o + 5 ≤ 10) (h : w.heap[b]? = some (.cells (P10 f g) 66 (0, 0))) : w.there b o (U64 f').size := by
  rw [show (U64 f').size = 5 by simp [U64]]
  exact there_of ho h
theorem four_swap {s now : Bool} {q : Fin p × Fin p × Fin p × Fin p} {A1 B1 A2 B2 : Nat → Nat} (ha : IsEl A1 (if (!(now == s)) = true then (sw s q).2.2.1 else (sw s q).1).val) (hb : IsEl A2 (if (!(now == s)) = true then (sw s q).1 else (sw s q).2.2.1).val)
    (hc : IsEl B1 (if (!(now == s)) = true then (sw s q).2.2.2 else (sw s q).2.1).val) (hd : IsEl B2 (if (!(now == s)) = true then (sw s q).2.1 else (sw s q).2.2.2).val) : Four4 (sw now q) A1 B1 A2 B2 := by
  cases s <;> cases now <;> exact ⟨ha, hc, hb, hd⟩
section
variable {P : Program} {Q : Exit → Act → World → Prop}
theorem late_tailL {l : List Oper} {L : Array Bool} (q n : Nat) {ob s1 s2 : Oper} {a : Act} {w w1 w2 : World} {v : Value} (h0 : l[q]? = some ob) (h1 : l[n]? = some s1) (h2 : l[n + 1]? = some s2)
    (r0 : Region.ready .any l.toArray L = [q, n])
    (r1 : Region.ready .any l.toArray (L.setIfInBounds q true) = [n]) (r2 : Region.ready .any l.toArray (L.setIfInBounds n true) = [q])
    (r3 : Region.ready .any l.toArray ((L.setIfInBounds q true).setIfInBounds n true) = [n + 1]) (r4 : Region.ready .any l.toArray ((L.setIfInBounds n true).setIfInBounds q true) = [n + 1])
    (r5 : Region.ready .any l.toArray (((L.setIfInBounds q true).setIfInBounds n true).setIfInBounds (n + 1) true) = []) (r6 : Region.ready .any l.toArray (((L.setIfInBounds n true).setIfInBounds q true).setIfInBounds (n + 1) true) = [])
    (hb : ∀ (w : World) (K : Act → World → Prop), K (a.put ob.dst v) w → if Region.wanted ob (yielded l.toArray a.tmps) then ob.wp P a w K Q ∨ (ob.asks P a w ∧ LetsOut Q) else K (a.put ob.dst undef) w)
    (hs1 : ∀ (a' : Act), (a' = a ∨ a' = a.put ob.dst v) → ∀ (K : Act → World → Prop), K a' w1 → if Region.wanted s1 (yielded l.toArray a'.tmps) then s1.wp P a' w K Q ∨ (s1.asks P a' w ∧ LetsOut Q) else K (a'.put s1.dst undef) w)
    (hs2 : ∀ (K : Act → World → Prop), K (a.put ob.dst v) w2 → if Region.wanted s2 (yielded l.toArray (a.put ob.dst v).tmps) then s2.wp P (a.put ob.dst v) w1 K Q ∨ (s2.asks P (a.put ob.dst v) w1 ∧ LetsOut Q) else K ((a.put ob.dst v).put s2.dst undef) w1)
    (hQ : Q .normal (a.put ob.dst v) w2) : wpAny P .any l.toArray Q 3 L a w :=
  wpAny_two r0 h0 h1 (hb _ _ (wpAny_one r1 h1 (hs1 _ (.inr rfl) _ (wpAny_one r3 h2 (hs2 _ ⟨r5, hQ⟩))))) (hs1 _ (.inl rfl) _ (wpAny_one r2 h0 (hb _ _ (wpAny_one r4 h2 (hs2 _ ⟨r6, hQ⟩)))))

/-- What is known of the operations that are listed. -/
def Kn10 (l : List Oper) (S : List Kk) (n : Nat) (L : Array Bool) (a : Act) (w : World) : Prop :=
  ∀ (i : Nat) (s : Kk) (o : Oper) (d : Nat), i < n → L.getD i false = true → S[i]? = some s → l[i]? = some o → o.dst = some d → ∃ v, a.tmps[d]? = some v ∧ s.holds v w
theorem Kn10.put {l : List Oper} {S : List Kk} {n N : Nat} {L : Array Bool} {a : Act} {w : World} {i : Nat} {oi : Oper} {di : Nat} {s : Kk} {v : Value} (H : HeadB l n N) (h : Kn10 l S n L a w) (ho : l[i]? = some oi) (hd : oi.dst = some di) (hs : S[i]? = some s)
    (hsz : di < a.tmps.size) (hv : s.holds v w) : Kn10 l S n (L.setIfInBounds i true) (a.put oi.dst v) w := by
  intro j t o d hj hl ht hoj hdj
  by_cases hij : i = j
  · subst hij
    obtain rfl : oi = o := Option.some.inj (ho.symm.trans hoj)
    obtain rfl : di = d := Option.some.inj (hd.symm.trans hdj)
    obtain rfl : s = t := Option.some.inj (hs.symm.trans ht)
    exact ⟨v, by rw [hd]; exact put_same _ _ _ hsz, hv⟩
  · rw [getD_set_ne false hij] at hl
    rw [put_other _ _ _ _ (fun e => hij (H.dst_inj i j oi o d ho hoj e hdj))]
    exact h j t o d hj hl ht hoj hdj
end
end Go.Proofs.Ytikmghmapmlebaa
