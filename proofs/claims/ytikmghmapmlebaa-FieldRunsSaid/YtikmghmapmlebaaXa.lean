/-
  curve's small: a small number of few bytes; condition: at most 32 bytes.
-/
import Derived.Test.YtikmghmapmlebaaM
import Derived.Laws.IdiomCopy
import Derived.Laws.CopyOwn
import Derived.BigFrame
namespace Go.Proofs.Ytikmghmapmlebaa
open Go.RowKit Go.Rh F255

/-- The first bytes as values. -/
def bvN (g : Nat → Nat) (n : Nat) : List Value := (List.range n).map fun j => .int .u8 ((g j : Nat) : Int)
theorem bvN_length (g : Nat → Nat) (n : Nat) : (bvN g n).length = n := by simp [bvN]
theorem bvN_one (g : Nat → Nat) (n : Nat) : ∀ v ∈ bvN g n, v.oneCell' = true := by
  intro v hv
  simp only [bvN, List.mem_map] at hv
  obtain ⟨x, _, rfl⟩ := hv
  rfl
theorem bvN_get {g : Nat → Nat} {n j : Nat} {v : Value} (h : (bvN g n)[j]? = some v) : j < n ∧ v = .int .u8 ((g j : Nat) : Int) := by
  simp only [bvN, List.getElem?_map, Option.map_eq_some_iff] at h
  obtain ⟨x, hx, rfl⟩ := h
  have hj := (List.getElem?_eq_some_iff.1 hx).1
  rw [List.length_range] at hj
  refine ⟨hj, ?_⟩
  rw [List.getElem?_range hj] at hx
  rw [Option.some.inj hx]
theorem copiedN (g : Nat → Nat) (n : Nat) (hn : n ≤ 32) (hz : ∀ j, n ≤ j → g j = 0) : (bvN g n ++ (vals .u8 32 fun _ => 0).toList.drop n).toArray = U8 g := by
  apply Array.ext_getElem?
  intro j
  by_cases hj : j < 32
  · rw [List.getElem?_toArray, show (U8 g)[j]? = some (.int .u8 ((g j : Nat) : Int)) from vals_get _ _ hj]
    by_cases hl : j < n
    · rw [List.getElem?_append_left (by rw [bvN_length]; exact hl)]
      simp [bvN, hl]
    · rw [List.getElem?_append_right (by rw [bvN_length]; omega), bvN_length, List.getElem?_drop, Array.getElem?_toList, show n + (j - n) = j by omega, vals_get _ _ hj, hz j (by omega)]
      rfl
  · rw [Array.getElem?_eq_none (by simp [bvN_length]; omega), Array.getElem?_eq_none (by simp [U8]; omega)]

/-- A few bytes in memory. -/
def Few (w : World) (g : Nat → Nat) (v : Value) (n : Nat) : Prop := ∃ A c, v = .slice A n c ∧ (0 < n → ∃ b off, A = some ⟨b, off, none⟩ ∧ b < w.heap.size ∧ ∀ j, j < n → w.cell? ⟨b, off + j, none⟩ = some (.int .u8 ((g j : Nat) : Int)))
theorem Few.grown {w w' : World} {g : Nat → Nat} {v : Value} {n : Nat} (h : Few w g v n) (k : w.grownBy w' none) : Few w' g v n := by
  obtain ⟨A, c, rfl, hb⟩ := h
  refine ⟨A, c, rfl, fun h0 => ?_⟩
  obtain ⟨b, off, rfl, hl, hj⟩ := hb h0
  exact ⟨b, off, rfl, Nat.lt_of_lt_of_le hl k.size, fun j hjn => (World.cell?_of_block (k.block b hl (by simp))).trans (hj j hjn)⟩
theorem run_copy_few {P : Program} {w : World} {v : Value} {gf : Nat → Nat} {m : Nat} (dT sT ty : TypeId) (i : TypeInfo) (hu : P.underlying dT = some (.slice 5)) (hi : P.info? 5 = some i) (hsz : i.size = 1) (hv : Few w gf v m)
    {g n c : Nat} {cs : Array Value} {t : TypeId} (hg : w.heap[g]? = some (.cells cs t (0, 0))) (hn : m ≤ n) (hcs : n ≤ cs.size) :
    (Builtin.copy_ #[dT, sT] ty #[.slice (some ⟨g, 0, none⟩) n c, v]).run P w = .ok (goInt m) (w.setRow g (bvN gf m ++ cs.toList.drop m).toArray) := by
  obtain ⟨A, k, rfl, hb⟩ := hv
  by_cases h0 : m = 0
  · subst h0
    rw [run_copy_none (P := P) w dT sT ty 5 _ _ n c 0 k hu (by simp [hi, hsz]) (Nat.zero_min n)]
    simp only [bvN, List.range_zero, List.map_nil, List.nil_append, List.drop_zero, Array.toArray_toList]
    rw [setRow_self w g cs t (0, 0) hg]
    rfl
  · obtain ⟨b, off, rfl, _, hj⟩ := hb (by omega)
    have hmin : (bvN gf m).length = Nat.min m n := by
      rw [bvN_length]; exact (Nat.min_eq_left hn).symm
    rw [run_copy_row (P := P) w dT sT ty 5 g 0 n c ⟨b, off, none⟩ m k cs t (bvN gf m) hu (by simp [hi, hsz]) hg hmin
      (fun j x hx => by
        obtain ⟨hjl, rfl⟩ := bvN_get hx
        have := hj j (by omega)
        simpa [Addr.add_lit] using this) (by rw [bvN_length]; omega) (bvN_one gf m)]
    simp [bvN_length]
theorem wpList_copy_few {P : Program} {ops : Array Oper} {rest : List Oper} {o : Oper} {a : Act} {Q : Exit → Act → World → Prop} {w : World} {v : Value} {gf : Nat → Nat} {m : Nat} (hw : Region.wanted o (yielded ops a.tmps) = true) (d s : Operand) (dT sT : TypeId)
    (ho : o.op = .call { callee := .builtin .copy, args := #[d, s], argTypes := #[dT, sT] }) (i : TypeInfo) (hu : P.underlying dT = some (.slice 5)) (hi : P.info? 5 = some i) (hsz : i.size = 1)
    {g n c : Nat} {cs : Array Value} {t : TypeId} (hd : a.eval d = .slice (some ⟨g, 0, none⟩) n c) (hs : a.eval s = v) (hv : Few w gf v m) (hg : w.heap[g]? = some (.cells cs t (0, 0))) (hn : m ≤ n) (hcs : n ≤ cs.size)
    (h : wpList P ops Q rest (a.put o.dst (goInt m)) (w.setRow g (bvN gf m ++ cs.toList.drop m).toArray)) : wpList P ops Q (o :: rest) a w := by
  refine BigFrame.wpList_want hw fun K hK => ?_
  have hr := run_copy_few (P := P) dT sT o.type i hu hi hsz hv (c := c) hg hn hcs
  unfold Oper.wp execOp
  simp only [ho, resolve, invoke, builtin, Sem.run_bind, Sem.run_pure, Result.andThen_ok, List.map_toArray, List.map_cons, List.map_nil, hd, hs, hr]
  exact hK _ _ h
theorem info5b : (Try.prog.info? 5).map (fun i => (i.zero, i.size, i.bytes)) = some (some (.int .u8 0), 1, 1) := by kernel_rfl

set_option maxRecDepth 100000 in
set_option maxHeartbeats 1000000 in
theorem csmall_any {w : World} {gf : Nat → Nat} {v : Value} {m : Nat} (hv : Few w gf v m) (hm : m ≤ 32) (hz : ∀ j, m ≤ j → gf j = 0) (hg : ∀ j, j < 32 → gf j < 256) :
    Calls Try.prog 41 #[v] w fun e w' => (∃ f, e = .returned (.agg (U64 f)) ∧ IsEl f (leN gf 32 % 57896044618658097711785492504343953926634992332820282019728792003956564819968)) ∧ Below w.heap.size w w' := by
  obtain ⟨i0, hi0, hz0, hz1, hz2⟩ := info_parts info5b
  have HO := Lib.hid (of_el gf hg)
  have HV : Hid (Few ((w.alloc (.cells Z5 26)).alloc (.cells (U8 fun _ => 0) 22)) gf v m) := (hv.grown (World.grownBy_alloc w _ none)).grown (World.grownBy_alloc _ _ none)
  have h0 := heap_new' (w.alloc (.cells Z5 26)) (.cells (U8 fun _ => 0) 22) (w.heap.size + 1) (by simp)
  have HH0 := Lib.hid h0
  have HC := Lib.hid (copiedN gf m hm hz)
  obtain ⟨A, c, rfl, _⟩ := hv
  clear hz hg h0
  go_enter Try.func41, Try.ntmps41
  go_wp2_with (first | (refine wpList_copy_few (by rfl) (.tmp 4) (.tmp 5) 29 29 (by rfl) i0 Try.underlying29 hi0 hz1 (cs := vals .u8 32 fun _ => 0) (by rfl) (by rfl) HV.out HH0.out hm (by simp) ?_; rw [HC.out]; generalize hW : World.setRow _ _ _ = W2; have l2 : W2.heap[w.heap.size + 1]? = some (.cells (U8 gf) 22 (0, 0)) := (by rw [← hW]; exact setRow_heap _ _ _ _ _ _ HH0.out); have l3 : W2.heap[w.heap.size]? = some (.cells Z5 26 (0, 0)) := (by rw [← hW, setRow_other _ _ _ _ (by omega)]; ((simp only [heap_push, World.size_alloc, if_true]; repeat' split); all_goals (first | rfl | (exfalso; omega)))); have lb : Below w.heap.size w W2 := (by rw [← hW]; exact below_setRow (by go_grown) (by omega) _); have L2 := Lib.hid l2; have L3 := Lib.hid l3; have LB := Lib.hid lb; clear hW l2 l3 lb) | (refine wpList_load_row rfl 22 _ rfl (w.heap.size + 1) rfl 22 (U8 gf) (0, 0) _ L2.out Try.underlying22 rfl (sz22.trans (by simp [U8])) ?_) | fail)
  refine (HO.out _).mono ?_
  rintro e w1 ⟨⟨f, rfl, hf⟩, b1⟩
  have l4 : w1.heap[w.heap.size]? = some (.cells Z5 26 (0, 0)) := (b1.block w.heap.size (heap_lt L3.out)).trans L3.out
  have lb2 : Below w.heap.size w w1 := LB.out.trans (b1.mono LB.out.size)
  have HF := Lib.hid hf
  clear b1 hf
  go_wp2_with (refine wpList_store_row rfl 26 _ _ rfl w.heap.size _ rfl rfl 26 _ l4 (sz26.trans (by simp [U64])) (by simp [U64]; rfl) (vals_one _ _ _) ?_)
  refine bodyPost_ret (results_cell_row rfl _ _ _ 26 _ (0, 0) _ rfl (setRow_heap _ _ _ _ _ _ l4) Try.underlying26 rfl (sz26.trans (by simp [U64]))) rfl ⟨⟨f, rfl, HF.out⟩, below_setRow lb2 (by omega) _⟩
end Go.Proofs.Ytikmghmapmlebaa
