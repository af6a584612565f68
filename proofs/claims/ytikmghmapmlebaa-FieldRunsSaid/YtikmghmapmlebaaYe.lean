/-
  Elements and points of the curve in memory and as values; the field's operations said of the field's numbers.
-/
import Derived.Test.YtikmghmapmlebaaYd
import Derived.Test.YtikmghmapmlebaaYa
import Derived.Test.YtikmghmapmlebaaPk
import Derived.Deep.MidRow
namespace Go.Proofs.Ytikmghmapmlebaa
open Go.RowKit Go.Rh F255

/-- A point's ten cells. -/
def P10 (f g : Nat → Nat) : Array Value := vals .u64 10 fun j => if j < 5 then ((f j : Nat) : Int) else ((g (j - 5) : Nat) : Int)

theorem fld0 (w : World) (b : Nat) : (Instr.fieldAt 66 (.pointer (some ⟨b, 0, none⟩)) 0).run Try.prog w = .ok (.pointer (some ⟨b, 0, none⟩)) w := by
  go_simp
theorem fld1 (w : World) (b : Nat) : (Instr.fieldAt 66 (.pointer (some ⟨b, 0, none⟩)) 1).run Try.prog w = .ok (.pointer (some ⟨b, 5, none⟩)) w := by
  go_simp
theorem P10_lit (f g : Nat → Nat) : P10 f g = #[.int .u64 (f 0), .int .u64 (f 1), .int .u64 (f 2), .int .u64 (f 3), .int .u64 (f 4), .int .u64 (g 0), .int .u64 (g 1), .int .u64 (g 2), .int .u64 (g 3), .int .u64 (g 4)] := rfl
set_option maxRecDepth 100000 in
theorem build66 (w : World) (f g : Nat → Nat) : (Instr.build 66 #[(0, .agg (U64 f)), (1, .agg (U64 g))]).run Try.prog w = .ok (.agg (P10 f g)) w := by
  rw [U64_lit, U64_lit, P10_lit]
  generalize Value.int .u64 (f 0) = a0
  generalize Value.int .u64 (f 1) = a1
  generalize Value.int .u64 (f 2) = a2
  generalize Value.int .u64 (f 3) = a3
  generalize Value.int .u64 (f 4) = a4
  generalize Value.int .u64 (g 0) = b0
  generalize Value.int .u64 (g 1) = b1
  generalize Value.int .u64 (g 2) = b2
  generalize Value.int .u64 (g 3) = b3
  generalize Value.int .u64 (g 4) = b4
  go_simp
theorem box66 (f g : Nat → Nat) (w : World) : (Instr.box 66 (.agg (P10 f g))).run Try.prog w = .ok (.pointer (some ⟨w.heap.size, 0, none⟩)) (w.alloc (.cells (P10 f g) 66)) := by
  go_simp
theorem box26 (f : Nat → Nat) (w : World) : (Instr.box 26 (.agg (U64 f))).run Try.prog w = .ok (.pointer (some ⟨w.heap.size, 0, none⟩)) (w.alloc (.cells (U64 f) 26)) := by
  go_simp
theorem alloc66 (w : World) : (Instr.alloc 66 true (.tuple #[])).run Try.prog w = .ok (.pointer (some ⟨w.heap.size, 0, none⟩)) (w.alloc (.cells (P10 (fun _ => 0) fun _ => 0) 66)) := by
  go_simp
  rfl

theorem sz66 : (Try.prog.info? 66).map (·.size) = some 10 := by kernel_rfl
theorem P10_size (f g : Nat → Nat) : (P10 f g).size = 10 := by simp [P10]
theorem P10_one (f g : Nat → Nat) : (P10 f g).all (·.oneCell') = true := vals_one _ _ _
theorem range0 {w : World} {b : Nat} {f g : Nat → Nat} {t : TypeId} {fr : Nat × Nat} (h : w.heap[b]? = some (.cells (P10 f g) t fr)) : w.rangeAt b 0 (U64 f).toList := World.rangeAt_of_block h 0 5
theorem range5 {w : World} {b : Nat} {f g : Nat → Nat} {t : TypeId} {fr : Nat × Nat} (h : w.heap[b]? = some (.cells (P10 f g) t fr)) : w.rangeAt b 5 (U64 g).toList := World.rangeAt_of_block h 5 5

/-- What may be known of a value: it is this one, an element, a new block. -/
def EqV (x : Value) : Value → World → Prop := fun v _ => v = x
def FeV (x : Fin p) : Value → World → Prop := fun v _ => ∃ f, v = .agg (U64 f) ∧ IsEl f x.val
def PtV (x z : Fin p) : Value → World → Prop := fun v _ => ∃ f g, v = .agg (P10 f g) ∧ IsEl f x.val ∧ IsEl g z.val
def NewV (B : Nat) (k : Obj) : Value → World → Prop := fun v w => ∃ b, v = .pointer (some ⟨b, 0, none⟩) ∧ w.heap[b]? = some k ∧ B ≤ b
def FewV (B n : Nat) (g : Nat → Nat) : Value → World → Prop := fun v w => Few w g v n ∧ B ≤ w.heap.size
theorem EqV.mono {x v : Value} {w w' : World} (_hg : w.grownBy w' none) (h : EqV x v w) : EqV x v w' := h
theorem FeV.mono {x : Fin p} {v : Value} {w w' : World} (_hg : w.grownBy w' none) (h : FeV x v w) : FeV x v w' := h
theorem PtV.mono {x z : Fin p} {v : Value} {w w' : World} (_hg : w.grownBy w' none) (h : PtV x z v w) : PtV x z v w' := h
theorem NewV.mono {B : Nat} {k : Obj} {v : Value} {w w' : World} (hg : w.grownBy w' none) (h : NewV B k v w) : NewV B k v w' := by
  obtain ⟨b, rfl, hb, hB⟩ := h
  exact ⟨b, rfl, (hg.block b (heap_lt hb) (by simp)).trans hb, hB⟩
theorem FewV.mono {B n : Nat} {g : Nat → Nat} {v : Value} {w w' : World} (hg : w.grownBy w' none) (h : FewV B n g v w) : FewV B n g v w' := ⟨h.1.grown hg, Nat.le_trans h.2 hg.size⟩

/-- An element, a point in memory. -/
def FeAt (w : World) (b : Nat) (x : Fin p) : Prop := ∃ f, w.heap[b]? = some (.cells (U64 f) 26 (0, 0)) ∧ IsEl f x.val
def PtAt (w : World) (b : Nat) (x z : Fin p) : Prop := ∃ f g, w.heap[b]? = some (.cells (P10 f g) 66 (0, 0)) ∧ IsEl f x.val ∧ IsEl g z.val
theorem FeAt.grown {w w' : World} {b : Nat} {x : Fin p} (h : FeAt w b x) (hg : w.grownBy w' none) : FeAt w' b x := by
  obtain ⟨f, hb, hf⟩ := h
  exact ⟨f, (hg.block b (heap_lt hb) (by simp)).trans hb, hf⟩
theorem PtAt.grown {w w' : World} {b : Nat} {x z : Fin p} (h : PtAt w b x z) (hg : w.grownBy w' none) : PtAt w' b x z := by
  obtain ⟨f, g, hb, hf⟩ := h
  exact ⟨f, g, (hg.block b (heap_lt hb) (by simp)).trans hb, hf⟩
theorem FeAt.same {w w' : World} {b : Nat} {x : Fin p} (h : FeAt w b x) (e : w'.heap[b]? = w.heap[b]?) : FeAt w' b x := by
  obtain ⟨f, hb, hf⟩ := h
  exact ⟨f, e.trans hb, hf⟩
theorem PtAt.same {w w' : World} {b : Nat} {x z : Fin p} (h : PtAt w b x z) (e : w'.heap[b]? = w.heap[b]?) : PtAt w' b x z := by
  obtain ⟨f, g, hb, hf⟩ := h
  exact ⟨f, g, e.trans hb, hf⟩
theorem FeAt.lt {w : World} {b : Nat} {x : Fin p} (h : FeAt w b x) : b < w.heap.size := by obtain ⟨f, hb, _⟩ := h; exact heap_lt hb
theorem PtAt.lt {w : World} {b : Nat} {x z : Fin p} (h : PtAt w b x z) : b < w.heap.size := by obtain ⟨f, g, hb, _⟩ := h; exact heap_lt hb

/-- The operations, said of the field's numbers. -/
theorem eAdd {a b : Nat → Nat} {x y : Fin p} (ha : IsEl a x.val) (hb : IsEl b y.val) (w : World) :
    Calls Try.prog 18 #[.agg (U64 a), .agg (U64 b)] w fun e w' => (∃ f, e = .returned (.agg (U64 f)) ∧ IsEl f (x + y).val) ∧ Below w.heap.size w w' :=
  (add_el ha hb w).mono fun _ _ h => ⟨h.1.imp fun f k => ⟨k.1, k.2.of_mod (by rw [fin_add, Nat.mod_mod])⟩, h.2⟩
theorem eSub {a b : Nat → Nat} {x y : Fin p} (ha : IsEl a x.val) (hb : IsEl b y.val) (w : World) :
    Calls Try.prog 20 #[.agg (U64 a), .agg (U64 b)] w fun e w' => (∃ f, e = .returned (.agg (U64 f)) ∧ IsEl f (x - y).val) ∧ Below w.heap.size w w' :=
  (sub_el ha hb (Nat.le_of_lt (fin_lt y)) w).mono fun _ _ h => ⟨h.1.imp fun f k => ⟨k.1, k.2.of_mod (by rw [fin_sub, Nat.mod_mod])⟩, h.2⟩
theorem eMul {a b : Nat → Nat} {x y : Fin p} (ha : IsEl a x.val) (hb : IsEl b y.val) (w : World) :
    Calls Try.prog 22 #[.agg (U64 a), .agg (U64 b)] w fun e w' => (∃ f, e = .returned (.agg (U64 f)) ∧ IsEl f (x * y).val) ∧ Below w.heap.size w w' :=
  (mul_el ha hb w).mono fun _ _ h => ⟨h.1.imp fun f k => ⟨k.1, k.2.of_mod (by rw [fin_mul, Nat.mod_mod])⟩, h.2⟩
theorem eInv {a : Nat → Nat} {x : Fin p} (ha : IsEl a x.val) (w : World) :
    Calls Try.prog 24 #[.agg (U64 a)] w fun e w' => (∃ f, e = .returned (.agg (U64 f)) ∧ IsEl f (inv x).val) ∧ Below w.heap.size w w' :=
  (inv_any a x.val ha w).mono fun _ _ h => ⟨h.1.imp fun f k => ⟨k.1, k.2.of_mod (by rw [← fin_inv, Nat.mod_mod])⟩, h.2⟩

section
variable {P : Program} {Q : Exit → Act → World → Prop} {ops : List Oper} {o : Oper} {a : Act} {w : World} {K : Act → World → Prop}
theorem at_mid {t b q : Nat} {ty : TypeId} {cs : Array Value} {d : TypeDesc} (hw : Region.wanted o (yielded ops.toArray a.tmps) = true) (ho : o.op = .load ty (.tmp t)) (e : a.tmps[t]? = some (.pointer (some ⟨b, q, none⟩)))
    (hb : w.rangeAt b q cs.toList) (hu : P.underlying ty = some d) (hd : d.isRow = true) (hi : (P.info? ty).map (·.size) = some cs.size)
    (h : K (a.put o.dst (.agg cs)) w) : (if Region.wanted o (yielded ops.toArray a.tmps) then o.wp P a w K Q ∨ (o.asks P a w ∧ LetsOut Q) else K (a.put o.dst undef) w) := by
  rw [if_pos hw]; left
  exact wp_load_mid ty _ ho b q (eval_tmp e) cs.toList d hb hu hd (by simpa using hi) (by simpa using h)
theorem run_op_field {x : Operand} {i : Nat} {v v' : Value} {w : World} (ho : o.op = .fieldAddr 66 x i) (e : a.eval x = v) (hr : (Instr.fieldAt 66 v i).run P w = .ok v' w) : (execOp a.eval o).run P w = .ok (.value v') w := by
  unfold execOp
  simp [ho, e, hr]
theorem run_op_build {x y : Operand} {u v v' : Value} {w : World} (ho : o.op = .build 66 #[(0, x), (1, y)]) (e : a.eval x = u) (e2 : a.eval y = v) (hr : (Instr.build 66 #[(0, u), (1, v)]).run P w = .ok v' w) : (execOp a.eval o).run P w = .ok (.value v') w := by
  unfold execOp
  simp [ho, e, e2, hr]
end
end Go.Proofs.Ytikmghmapmlebaa
