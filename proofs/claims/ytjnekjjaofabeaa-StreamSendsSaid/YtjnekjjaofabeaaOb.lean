/-
  What copy of a string, and append of noughts, do to bytes of one's own; steps of regions that draw their order.
-/
import Derived.Test.YtjnekjjaofabeaaOa
import Derived.Test.YtjnekjjaofabeaaLb
import Derived.Deep.RegionHeld3
import Derived.Deep.DrawnRows
import Derived.StillTailTactics
namespace Go.Proofs.Ytjnekjjaofabeaa
open Go.RowKit Go.Rh Rng

def memB (n : Int) (l : List Sp) : Bool := l.any fun s => decide (s.1 ≤ n) && decide (n ≤ s.2)
theorem memB_iff {n : Int} {l : List Sp} : memB n l = true ↔ mem n l := by
  unfold memB mem
  rw [List.any_eq_true]
  constructor
  · rintro ⟨s, h1, h2⟩; simp at h2; exact ⟨s, h1, h2⟩
  · rintro ⟨s, h1, h2⟩; exact ⟨s, h1, by simpa using h2⟩
theorem memB_append (n : Int) (l k : List Sp) : memB n (l ++ k) = (memB n l || memB n k) := by unfold memB; rw [List.any_append]
/-- The bytes `d`, from `off` on, laid over `b` where one of the ranges is. -/
def ovl (b : List UInt8) (off : Nat) (d : List UInt8) (g : List Sp) : List UInt8 := (List.range b.length).map fun (j : Nat) => if memB (j : Int) g then at_ d (j - off) else at_ b j
theorem ovl_length (b : List UInt8) (off : Nat) (d : List UInt8) (g : List Sp) : (ovl b off d g).length = b.length := by simp [ovl]
theorem ovl_at {b : List UInt8} {off : Nat} {d : List UInt8} {g : List Sp} {j : Nat} (h : j < b.length) : at_ (ovl b off d g) j = if memB (j : Int) g then at_ d (j - off) else at_ b j := by
  unfold ovl at_
  rw [List.getD_eq_getElem?_getD, List.getElem?_map, List.getElem?_range h]
  rfl
theorem list_at {l m : List UInt8} (hl : l.length = m.length) (h : ∀ j, j < l.length → at_ l j = at_ m j) : l = m := by
  apply List.ext_getElem hl
  intro j h1 h2
  have := h j h1
  unfold at_ at this
  rw [List.getD_eq_getElem?_getD, List.getD_eq_getElem?_getD, List.getElem?_eq_getElem h1, List.getElem?_eq_getElem h2] at this
  simpa using this
theorem ovl_nil (b : List UInt8) (off : Nat) (d : List UInt8) : ovl b off d [] = b := list_at (ovl_length _ _ _ _) fun j hj => by rw [ovl_length] at hj; rw [ovl_at hj]; rfl

theorem info5 : (Try.prog.info? 5).map (fun i => (i.zero, i.size, i.bytes)) = some (some (.int .u8 0), 1, 1) := by kernel_rfl
set_option maxRecDepth 100000 in
theorem run_copy_str {w : World} (ty : TypeId) {m : List UInt8} {g o n c : Nat} {cs : Array Value} {fr : Nat × Nat} (hg : w.heap[g]? = some (.cells cs 5 fr)) (hf : free fr cs.size) (hn : n ≤ m.length) (ho : o + n ≤ cs.size) :
    ∃ cs', (Builtin.copy_ #[44, 9] ty #[.slice (some ⟨g, o, none⟩) n c, .string (S8 m)]).run Try.prog w = .ok (goInt n) (w.setRow g cs') ∧ cs'.size = cs.size ∧ (∀ j, j < n → cs'[o + j]? = some (.int .u8 (ub (at_ m j)))) ∧ ∀ j, (j < o ∨ o + n ≤ j) → cs'[j]? = cs[j]? := by
  obtain ⟨i0, hi, hz, hsz, hby⟩ := info_parts info5
  have hmin : Nat.min m.length n = n := Nat.min_eq_right hn
  have hs : List.take n (List.map (fun b => Value.int IntKind.u8 (b.toNat : Int)) (S8 m).data.toList) = bv (m.take n) := by simp [S8, bv, ub, List.map_take]
  have htl : (m.take n).length = n := by rw [List.length_take]; omega
  obtain ⟨cs', hr, h1, h2, h3⟩ := run_storeCells_fr Try.prog g o 5 fr (bv (m.take n)) 0 cs w hg hf (by rw [bv_length, htl]; omega) (bv_one _)
  refine ⟨cs', ?_, h1, fun j hj => ?_, fun j hj => h3 j (by rw [bv_length, htl]; omega)⟩
  · simp [Builtin.copy_, run_underlying Try.underlying44, Builtin.lenOf, Builtin.firstCells, sizeOf, typeInfo, hi, hsz, S8_size, hmin, hs, hr]
  · have := h2 j (by rw [bv_length, htl]; exact hj)
    rw [Nat.add_zero] at this
    rw [this, bv_at (by rw [htl]; exact hj)]
    congr 3
    unfold at_
    rw [List.getD_eq_getElem?_getD, List.getD_eq_getElem?_getD, List.getElem?_take, if_pos hj]

theorem step_append_zeros {ops : Array Oper} {o : Oper} {a : Act} {K : Act → World → Prop} {Q : Exit → Act → World → Prop} {E : Prop} {w : World} {v : Value} {l : List UInt8} (hgd : o.guard = none) (s y : Operand)
    (ho : o.op = .call { callee := .builtin .append, args := #[s, y], argTypes := #[44, 3] }) {n : Nat} (hs : a.eval s = v) (hy : a.eval y = .int .i64 (n : Int)) (hown : Rh.Own w 0 v l) (h0 : 0 < n) (hbound : l.length + n ≤ 140737488355328)
    (h : ∀ v' w', Rh.Own w' 0 v' (l ++ List.replicate n 0) → Keep w w' (fun k => v.ownBlock = some k) → (v'.ownBlock = v.ownBlock ∨ v'.ownBlock = some w.heap.size) → K (a.put o.dst v') w') :
    if Region.wanted o (yielded ops a.tmps) = true then Oper.wp Try.prog o a w K Q else E := by
  have hw : Region.wanted o (yielded ops a.tmps) = true := by simp [Region.wanted, hgd]
  rw [if_pos hw]
  obtain ⟨i0, hi, hz, hsz, hby⟩ := info_parts info5
  obtain ⟨v', w', hr, h1, h2, h3⟩ := run_append_zeros (P := Try.prog) 44 3 o.type i0 Try.underlying44 Try.underlying3 hi hz hsz hby hown n h0 hbound (Nat.zero_le _)
  unfold Oper.wp execOp
  simp only [ho, resolve, invoke, builtin, Sem.run_bind, Sem.run_pure, Result.andThen_ok, List.map_toArray, List.map_cons, List.map_nil, hs, hy, hr]
  exact h v' w' h1 h2 h3
theorem wpList_append_zeros {ops : Array Oper} {rest : List Oper} {o : Oper} {a : Act} {Q : Exit → Act → World → Prop} {w : World} {v : Value} {l : List UInt8} (hw : Region.wanted o (yielded ops a.tmps) = true) (s y : Operand)
    (ho : o.op = .call { callee := .builtin .append, args := #[s, y], argTypes := #[44, 3] }) {n : Nat} (hs : a.eval s = v) (hy : a.eval y = .int .i64 (n : Int)) (hown : Rh.Own w 0 v l) (h0 : 0 < n) (hbound : l.length + n ≤ 140737488355328)
    (h : ∀ v' w', Rh.Own w' 0 v' (l ++ List.replicate n 0) → Keep w w' (fun k => v.ownBlock = some k) → (v'.ownBlock = v.ownBlock ∨ v'.ownBlock = some w.heap.size) → wpList Try.prog ops Q rest (a.put o.dst v') w') : wpList Try.prog ops Q (o :: rest) a w := by
  obtain ⟨i0, hi, hz, hsz, hby⟩ := info_parts info5
  obtain ⟨v', w', hr, h1, h2, h3⟩ := run_append_zeros (P := Try.prog) 44 3 o.type i0 Try.underlying44 Try.underlying3 hi hz hsz hby hown n h0 hbound (Nat.zero_le _)
  refine wpList_run hw (v := v') (w' := w') ?_ (h v' w' h1 h2 h3)
  unfold execOp
  simp only [ho, resolve, invoke, builtin, Sem.run_bind, Sem.run_pure, Result.andThen_ok, List.map_toArray, List.map_cons, List.map_nil, hs, hy, hr]
theorem step_append_is {P : Program} {ops : Array Oper} {o : Oper} {a : Act} {w : World} {K : Act → World → Prop} {Q : Exit → Act → World → Prop} {E : Prop}
    (hg : o.guard = none) (d s : Operand) (t u : TypeId) (ho : o.op = .call { callee := .builtin .append, args := #[d, s], argTypes := #[t, u] })
    (x y : Value) (hd : a.eval d = x) (hs : a.eval s = y) {v' : Value} {w' : World} (hr : (Builtin.append_ #[t, u] o.type #[x, y]).run P w = .ok v' w') (hK : K (a.put o.dst v') w') :
    if Region.wanted o (yielded ops a.tmps) = true then Oper.wp P o a w K Q else E := by
  have hw : Region.wanted o (yielded ops a.tmps) = true := by simp [Region.wanted, hg]
  rw [if_pos hw]
  unfold Oper.wp execOp
  simp only [ho, resolve, invoke, builtin, Sem.run_bind, Sem.run_pure, Result.andThen_ok, List.map_toArray, List.map_cons, List.map_nil, hd, hs, hr]
  exact hK
theorem append_zeros {w : World} {v : Value} {l : List UInt8} (hown : Rh.Own w 0 v l) {n : Nat} (h0 : 0 < n) (hbound : l.length + n ≤ 140737488355328) :
    ∃ v' w', (Builtin.append_ #[44, 3] 44 #[v, .int .i64 (n : Int)]).run Try.prog w = .ok v' w' ∧ Rh.Own w' 0 v' (l ++ List.replicate n 0) ∧ Keep w w' (fun k => v.ownBlock = some k) ∧ (v'.ownBlock = v.ownBlock ∨ v'.ownBlock = some w.heap.size) := by
  obtain ⟨i0, hi, hz, hsz, hby⟩ := info_parts info5
  exact run_append_zeros (P := Try.prog) 44 3 44 i0 Try.underlying44 Try.underlying3 hi hz hsz hby hown n h0 hbound (Nat.zero_le _)
theorem append_bytes {w : World} {ok : Nat → Prop} {v x : Value} {l m : List UInt8} (hown : Rh.Own w 0 v l) (hx : Bs ok w x m) (hbound : l.length + m.length ≤ 140737488355328) :
    ∃ v' w', (Builtin.append_ #[44, 44] 44 #[v, x]).run Try.prog w = .ok v' w' ∧ Rh.Own w' 0 v' (l ++ m) ∧ Keep w w' (fun k => v.ownBlock = some k) ∧ (v'.ownBlock = v.ownBlock ∨ v'.ownBlock = some w.heap.size) := by
  obtain ⟨i0, hi, hz, hsz, hby⟩ := info_parts info5
  exact run_append_bytes (P := Try.prog) 44 44 i0 Try.underlying44 hi hz hsz hby hown hx hbound (Nat.zero_le _)
theorem cellA {w : World} {o : Obj} {p : Addr} {u : Value} (h : w.cell? p = some u) : (w.alloc o).cell? p = some u := (World.cell?_of_block (heap_old w o p.block (cell_block h))).trans h
theorem cellD {w : World} {p : Addr} {u : Value} (h : w.cell? p = some u) : w.drew.cell? p = some u := h
theorem S8_extract (l : List UInt8) (a b : Nat) : (S8 l).extract a b = S8 ((l.take b).drop a) := by
  apply ByteArray.ext
  apply Array.ext'
  simp [S8, ByteArray.data_extract, List.extract_eq_take_drop, List.drop_take]
end Go.Proofs.Ytjnekjjaofabeaa
