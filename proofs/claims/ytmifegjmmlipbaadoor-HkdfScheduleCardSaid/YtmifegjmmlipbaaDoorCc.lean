/-
  copy(dst, src) of bytes into a row of the call's own: from bytes that read as a list, from a string.
-/
import Derived.Test.YtmifegjmmlipbaaDoorBa
import Derived.Laws.IdiomCopy
import Derived.Laws.CopyOwn
import Derived.BigFrame
namespace Go.Rh
open Go.RowKit Sha
section
variable {P : Program}
theorem run_copy_bs {ok : Nat → Prop} {w : World} {v : Value} {l : List UInt8} (dT sT ty : TypeId) (i : TypeInfo) (hu : P.underlying dT = some (.slice 5)) (hi : P.info? 5 = some i) (hsz : i.size = 1) (hv : Bs ok w v l)
    {g n c : Nat} {cs : Array Value} {t : TypeId} (hg : w.heap[g]? = some (.cells cs t (0, 0))) (hn : l.length ≤ n) (hcs : n ≤ cs.size) :
    (Builtin.copy_ #[dT, sT] ty #[.slice (some ⟨g, 0, none⟩) n c, v]).run P w = .ok (goInt l.length) (w.setRow g (bv l ++ cs.toList.drop l.length).toArray) := by
  obtain ⟨A, m, k, rfl, hm, hk, hb⟩ := hv
  by_cases h0 : m = 0
  · have hl : l = [] := List.eq_nil_of_length_eq_zero (by omega)
    subst hl
    rw [run_copy_none (P := P) w dT sT ty 5 _ _ n c m k hu (by simp [hi, hsz]) (by rw [h0]; exact Nat.zero_min n)]
    simp only [bv, List.map_nil, List.nil_append, List.length_nil, List.drop_zero, Array.toArray_toList]
    rw [setRow_self w g cs t (0, 0) hg]
    rfl
  · obtain ⟨b, off, rfl, _, hj⟩ := hb (by omega)
    have hmin : (bv l).length = Nat.min m n := by
      rw [bv_length, hm]; exact (Nat.min_eq_left hn).symm
    rw [run_copy_row (P := P) w dT sT ty 5 g 0 n c ⟨b, off, none⟩ m k cs t (bv l) hu (by simp [hi, hsz]) hg hmin
      (fun j x hx => by
        obtain ⟨hjl, rfl⟩ := bv_get hx
        have := hj j (by omega)
        simpa [Addr.add_lit] using this) (by rw [bv_length]; omega) (bv_one l)]
    simp [bv_length]
theorem run_copy_S8 {w : World} {l : List UInt8} (dT sT ty : TypeId) (i : TypeInfo) (hu : P.underlying dT = some (.slice 5)) (hi : P.info? 5 = some i) (hsz : i.size = 1)
    {g n c : Nat} {cs : Array Value} {t : TypeId} (hg : w.heap[g]? = some (.cells cs t (0, 0))) (hn : l.length ≤ n) (hcs : n ≤ cs.size) :
    (Builtin.copy_ #[dT, sT] ty #[.slice (some ⟨g, 0, none⟩) n c, .string (S8 l)]).run P w = .ok (goInt l.length) (w.setRow g (bv l ++ cs.toList.drop l.length).toArray) := by
  have hmin : Nat.min l.length n = l.length := Nat.min_eq_left hn
  have hs : List.take l.length (List.map (fun b => Value.int IntKind.u8 (b.toNat : Int)) (S8 l).data.toList) = bv l :=
    List.take_of_length_le (by simp [S8])
  have hst := run_storeCells_at P g 0 t (bv l) 0 cs w hg (by rw [bv_length]; omega) (bv_one l)
  simp only [Nat.add_zero, List.take_zero, List.nil_append, Nat.zero_add, bv_length] at hst
  simp [Builtin.copy_, run_underlying hu, Builtin.lenOf, Builtin.firstCells, sizeOf, typeInfo, hi, S8_size, hmin, hs, hst]
/-- Behind a copy into a row of noughts. -/
theorem copied (n : Nat) (l : List UInt8) (h : l.length ≤ n) : (bv l ++ (vals .u8 n fun _ => 0).toList.drop l.length).toArray = B8 n (l ++ List.replicate (n - l.length) 0) := by
  apply Array.ext_getElem?
  intro j
  by_cases hj : j < n
  · rw [B8_get _ hj, List.getElem?_toArray]
    by_cases hl : j < l.length
    · rw [List.getElem?_append_left (by rw [bv_length]; exact hl), bv_at hl, at_append_left hl]
    · rw [List.getElem?_append_right (by rw [bv_length]; omega), bv_length, List.getElem?_drop, Array.getElem?_toList, show l.length + (j - l.length) = j by omega, vals_get _ _ hj]
      have e : at_ (l ++ List.replicate (n - l.length) (0 : UInt8)) j = 0 := by
        unfold at_
        rw [List.getD_eq_getElem?_getD, List.getElem?_append_right (by omega), List.getElem?_replicate, if_pos (by omega)]
        rfl
      rw [e]
      rfl
  · rw [Array.getElem?_eq_none (by simp [bv_length]; omega), Array.getElem?_eq_none (by rw [B8_size]; omega)]
theorem wpList_copy_bs {ops : Array Oper} {rest : List Oper} {o : Oper} {a : Act} {Q : Exit → Act → World → Prop} {w : World} {ok : Nat → Prop} {v : Value} {l : List UInt8} (hw : Region.wanted o (yielded ops a.tmps) = true) (d s : Operand) (dT sT : TypeId)
    (ho : o.op = .call { callee := .builtin .copy, args := #[d, s], argTypes := #[dT, sT] }) (i : TypeInfo) (hu : P.underlying dT = some (.slice 5)) (hi : P.info? 5 = some i) (hsz : i.size = 1)
    {g n c : Nat} {cs : Array Value} {t : TypeId} (hd : a.eval d = .slice (some ⟨g, 0, none⟩) n c) (hs : a.eval s = v) (hv : Bs ok w v l) (hg : w.heap[g]? = some (.cells cs t (0, 0))) (hn : l.length ≤ n) (hcs : n ≤ cs.size)
    (h : wpList P ops Q rest (a.put o.dst (goInt l.length)) (w.setRow g (bv l ++ cs.toList.drop l.length).toArray)) : wpList P ops Q (o :: rest) a w := by
  refine BigFrame.wpList_want hw fun K hK => ?_
  have hr := run_copy_bs (P := P) dT sT o.type i hu hi hsz hv (c := c) hg hn hcs
  unfold Oper.wp execOp
  simp only [ho, resolve, invoke, builtin, Sem.run_bind, Sem.run_pure, Result.andThen_ok, List.map_toArray, List.map_cons, List.map_nil, hd, hs, hr]
  exact hK _ _ h
theorem wpList_copy_S8 {ops : Array Oper} {rest : List Oper} {o : Oper} {a : Act} {Q : Exit → Act → World → Prop} {w : World} {l : List UInt8} (hw : Region.wanted o (yielded ops a.tmps) = true) (d s : Operand) (dT sT : TypeId)
    (ho : o.op = .call { callee := .builtin .copy, args := #[d, s], argTypes := #[dT, sT] }) (i : TypeInfo) (hu : P.underlying dT = some (.slice 5)) (hi : P.info? 5 = some i) (hsz : i.size = 1)
    {g n c : Nat} {cs : Array Value} {t : TypeId} (hd : a.eval d = .slice (some ⟨g, 0, none⟩) n c) (hs : a.eval s = .string (S8 l)) (hg : w.heap[g]? = some (.cells cs t (0, 0))) (hn : l.length ≤ n) (hcs : n ≤ cs.size)
    (h : wpList P ops Q rest (a.put o.dst (goInt l.length)) (w.setRow g (bv l ++ cs.toList.drop l.length).toArray)) : wpList P ops Q (o :: rest) a w := by
  refine BigFrame.wpList_want hw fun K hK => ?_
  have hr := run_copy_S8 (P := P) (w := w) (l := l) dT sT o.type i hu hi hsz (c := c) hg hn hcs
  unfold Oper.wp execOp
  simp only [ho, resolve, invoke, builtin, Sem.run_bind, Sem.run_pure, Result.andThen_ok, List.map_toArray, List.map_cons, List.map_nil, hd, hs, hr]
  exact hK _ _ h
end
end Go.Rh
