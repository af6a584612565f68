/-
  append(own, text...): a string's bytes put behind bytes of one's own.
-/
import Derived.Test.YtjnekjjaofabeaaBb
import Derived.Test.YtjnekjjaofabeaaBa
import Derived.BigFrame
namespace Go.Rh
open Go.RowKit
section
variable {P : Program}
theorem run_append_S8 {w : World} {B : Nat} {v : Value} {l m : List UInt8} (t u ty : TypeId) (i : TypeInfo) (ht : P.underlying t = some (.slice 5)) (hu : P.underlying u = some .string) (hi : P.info? 5 = some i) (hz : i.zero = some (.int .u8 0)) (hsz : i.size = 1) (hby : i.bytes = 1)
    (hown : Own w B v l) (hbound : l.length + m.length ≤ 140737488355328) (hB : B ≤ w.heap.size) :
    ∃ v' w', (Builtin.append_ #[t, u] ty #[v, .string (S8 m)]).run P w = .ok v' w' ∧ Own w' B v' (l ++ m) ∧ Keep w w' (fun k => v.ownBlock = some k) ∧ (v'.ownBlock = v.ownBlock ∨ v'.ownBlock = some w.heap.size) := by
  obtain ⟨n, hn⟩ : ∃ n, n = m.length := ⟨_, rfl⟩
  have hsize : (S8 m).size = n := by rw [S8_size, hn]
  have hcells3 : List.take n (List.map (fun b => Value.int .u8 (b.toNat : Int)) (S8 m).data.toList) = bv m := List.take_of_length_le (by simp [S8, hn])
  have hcells : (Array.map (fun b => Value.int .u8 (b.toNat : Int)) (S8 m).data).extract 0 n = (bv m).toArray := by
    apply Array.toList_inj.1
    rw [Array.toList_extract, Array.toList_map, List.extract_eq_take_drop, List.drop_zero, Nat.sub_zero, hcells3]
  have grown : ∀ (cap : Nat), l.length + n ≤ cap →
      Own (w.drew.alloc (.cells ((bv l).toArray ++ (bv m).toArray ++ Builtin.zeroCells (Value.int .u8 0).cells (cap - (l.length + n))) 5)) B (.slice (some ⟨w.heap.size, 0, none⟩) (l.length + n) cap) (l ++ m) := by
    intro cap hcap
    have e : l.length + n = (l ++ m).length := by rw [List.length_append, hn]
    rw [e]
    refine Own.of_block (heap_alloc_new w.drew _) (.inl rfl) hB (by omega) ?_ fun j hj' => ?_
    · simp [bv_length, Builtin.zeroCells, Value.cells]; omega
    · rw [Array.getElem?_append_left (by simp [bv_length]; simpa using hj'), List.append_toArray, ← bv_append, List.getElem?_toArray]
      exact bv_at hj'
  by_cases h0 : n = 0
  · have hm : m = [] := List.eq_nil_of_length_eq_zero (by omega)
    subst hm h0
    refine ⟨v, w, ?_, by rw [List.append_nil]; exact hown, Keep.refl _ _, .inl rfl⟩
    rcases hown with ⟨rfl, rfl⟩ | ⟨g, off, cap, cs, fr, rfl, _, _, _, hnc, _⟩ <;> simp [Builtin.append_, run_underlying ht, run_underlying hu, sizeOf, typeInfo, hi, Builtin.lenOf, Builtin.firstCells, storeCells, hsz, hsize, hcells, hcells3, bv]
    all_goals (first | omega | simp [hnc])
  · rcases hown with ⟨rfl, rfl⟩ | ⟨g, o, cap, cs, fr, rfl, hBg, hg, hf, hnc, hfit, hcs⟩
    · have hge := grownCap_ge w n 0 5
      have hg := grown (grownCap w n 0 5) (by simpa using hge)
      simp only [List.length_nil, Nat.zero_add, List.nil_append] at hg hbound
      have h48' : ¬ (281474976710656 < Builtin.nextslicecap n 0) := by rw [nextslicecap_zero (by omega)]; omega
      have h63' : ¬ (9223372036854775807 < (n : Int)) := by omega
      have hr : (Builtin.append_ #[t, u] ty #[.slice none 0 0, .string (S8 m)]).run P w = .ok (.slice (some ⟨w.heap.size, 0, none⟩) n (grownCap w n 0 5)) (w.drew.alloc (.cells ((bv m).toArray ++ Builtin.zeroCells (Value.int .u8 0).cells (grownCap w n 0 5 - n)) 5)) := by
        simp [Builtin.append_, run_underlying ht, run_underlying hu, sizeOf, typeInfo, zeroValue, hi, hz, hsz, hby, h0, h48', h63', Question.forced, run_firstCells_none, newRow, grownCap, Builtin.lenOf, Builtin.firstCells, hsize, hcells, hcells3]
      refine ⟨_, _, hr, by simpa [bv] using hg, ⟨rfl, rfl, rfl, by simp, fun k hk _ => heap_old w.drew _ k hk⟩, .inr rfl⟩
    · have holds : ∀ j u, (bv l)[j]? = some u → w.cell? ((⟨g, o, none⟩ : Addr).add j) = some u := by
        intro j u hu
        obtain ⟨hjl, rfl⟩ := bv_get hu
        rw [Addr.add_lit, cell_of_row w g (o + j) cs 5 fr hg]
        exact hcs j hjl
      by_cases hroom : l.length + n ≤ cap
      · obtain ⟨cs', hr, hs', hin, hout⟩ := run_storeCells_fr P g (o + l.length) 5 fr (bv m) 0 cs w hg hf (by rw [bv_length]; omega) (bv_one _)
        refine ⟨.slice (some ⟨g, o, none⟩) (l.length + n) cap, w.setRow g cs', ?_, ?_, ?_, .inl rfl⟩
        · simp [Builtin.append_, run_underlying ht, run_underlying hu, sizeOf, typeInfo, zeroValue, hi, hz, hby, hroom, Addr.add_lit, hsz, Builtin.lenOf, Builtin.firstCells, hsize, hcells, hcells3, hr]
        · refine .inr ⟨g, o, cap, cs', fr, by rw [List.length_append, hn], hBg, setRow_heap w g cs _ 5 _ hg, by rw [hs']; exact hf, by rw [List.length_append]; omega, by omega, fun j hj' => ?_⟩
          by_cases hjl : j < l.length
          · rw [hout (o + j) (.inl (by omega)), hcs j hjl, at_append_left hjl]
          · have h1 := hin (j - l.length) (by rw [bv_length]; rw [List.length_append] at hj'; omega)
            rw [show o + l.length + 0 + (j - l.length) = o + j by omega] at h1
            rw [h1, bv_at (by rw [List.length_append] at hj'; omega)]
            congr 3
            unfold at_
            rw [List.getD_eq_getElem?_getD, List.getD_eq_getElem?_getD, List.getElem?_append_right (by omega)]
        · exact Keep.setRow (S := fun k => some g = some k) (Keep.refl w _) (.inr rfl) _
      · have hge := grownCap_ge w (l.length + n) cap 5
        have hfo := run_firstCells_some (P := P) w.drew i.size l.length ⟨g, o, none⟩ l.length cap (bv l) (by rw [bv_length, hsz]; omega) (by simpa using holds)
        rw [hsz] at hfo
        have h63' : ¬ (9223372036854775807 < ((l.length : Int) + (n : Int))) := by omega
        have h48' : ¬ (281474976710656 < Builtin.nextslicecap (l.length + n) cap) := by
          have := growslice_fits (need := l.length + n) (old := cap) (bytes := 1) (by omega) (by omega)
          omega
        have hr : (Builtin.append_ #[t, u] ty #[.slice (some ⟨g, o, none⟩) l.length cap, .string (S8 m)]).run P w = .ok (.slice (some ⟨w.heap.size, 0, none⟩) (l.length + n) (grownCap w (l.length + n) cap 5)) (w.drew.alloc (.cells ((bv l).toArray ++ (bv m).toArray ++ Builtin.zeroCells (Value.int .u8 0).cells (grownCap w (l.length + n) cap 5 - (l.length + n))) 5)) := by
          simp [Builtin.append_, run_underlying ht, run_underlying hu, sizeOf, typeInfo, zeroValue, hi, hz, hsz, hby, h48', h63', hroom, Question.forced, hfo, newRow, grownCap, Builtin.lenOf, hsize]
          simp [Builtin.firstCells, hcells, hcells3]
          rw [← Array.append_assoc]
          exact congrArg (fun x => w.drew.alloc (.cells (x ++ _) 5)) (by simp)
        exact ⟨_, _, hr, grown _ hge, ⟨rfl, rfl, rfl, by simp, fun k hk _ => heap_old w.drew _ k hk⟩, .inr rfl⟩
theorem wpList_append_S8 {ops : Array Oper} {rest : List Oper} {o : Oper} {a : Act} {Q : Exit → Act → World → Prop} {w : World} {B : Nat} {v : Value} {l m : List UInt8} (hw : Region.wanted o (yielded ops a.tmps) = true) (s y : Operand) (t u : TypeId)
    (ho : o.op = .call { callee := .builtin .append, args := #[s, y], argTypes := #[t, u] }) (i : TypeInfo) (ht : P.underlying t = some (.slice 5)) (hu : P.underlying u = some .string) (hi : P.info? 5 = some i) (hz : i.zero = some (.int .u8 0)) (hsz : i.size = 1) (hby : i.bytes = 1)
    (hs : a.eval s = v) (hy : a.eval y = .string (S8 m)) (hown : Own w B v l) (hbound : l.length + m.length ≤ 140737488355328) (hB : B ≤ w.heap.size)
    (h : ∀ v' w', Own w' B v' (l ++ m) → Keep w w' (fun k => v.ownBlock = some k) → (v'.ownBlock = v.ownBlock ∨ v'.ownBlock = some w.heap.size) → wpList P ops Q rest (a.put o.dst v') w') : wpList P ops Q (o :: rest) a w := by
  refine BigFrame.wpList_want hw fun K hK => ?_
  obtain ⟨v', w', hr, h1, h2, h3⟩ := run_append_S8 (P := P) t u o.type i ht hu hi hz hsz hby hown hbound hB
  unfold Oper.wp execOp
  simp only [ho, resolve, invoke, builtin, Sem.run_bind, Sem.run_pure, Result.andThen_ok, List.map_toArray, List.map_cons, List.map_nil, hs, hy, hr]
  exact hK _ _ (h v' w' h1 h2 h3)
/-- Bytes cut to a count, their room too. -/
theorem run_cap_own {w : World} {B : Nat} {v : Value} {l : List UInt8} (t : TypeId) (i : TypeInfo) (ht : P.underlying t = some (.slice 5)) (hi : P.info? 5 = some i) (hsz : i.size = 1) (hown : Own w B v l) (k : Nat) (hk : k ≤ l.length) :
    ∃ v', (∀ W : World, (Instr.sliceAt t v none (some (.int .i64 (k : Int))) (some (.int .i64 (k : Int)))).run P W = .ok v' W) ∧ Own w B v' (l.take k) := by
  have he : P.elem t = 5 := by simp [Program.elem, ht]
  have ht' : P.underlying t = some (.slice (P.elem t)) := by rw [he]; exact ht
  rcases hown with ⟨rfl, rfl⟩ | ⟨g, off, c, cs, fr, rfl, hB, hg, hf, h1, h2, h3⟩
  · obtain rfl : k = 0 := by simpa using hk
    refine ⟨.slice none 0 0, fun W => ?_, .inl ⟨rfl, rfl⟩⟩
    rw [run_sliceAt_slice W t _ _ _ _ ht', run_slice_hm W t _ _ _ ht' _ _ _ _ (by omega) (by omega) (by omega), he, size_of5 hi hsz]
    simp [Result.andThen_ok, sliced]
  · refine ⟨.slice (some ⟨g, off, none⟩) k k, fun W => ?_, .inr ⟨g, off, k, cs, fr, by rw [List.length_take]; congr 1; omega, hB, hg, hf, by rw [List.length_take]; omega, by omega, fun j hj => ?_⟩⟩
    · rw [run_sliceAt_slice W t _ _ _ _ ht', run_slice_hm W t _ _ _ ht' _ _ _ _ (by omega) (by omega) (by omega), he, size_of5 hi hsz]
      simp only [Result.andThen_ok, sliced, Int.toNat_natCast, Nat.mul_one, Nat.zero_mul, Nat.sub_zero]
      split <;> simp [Addr.add_lit]
    · rw [List.length_take] at hj
      rw [h3 j (by omega)]
      congr 3
      unfold at_
      rw [List.getD_eq_getElem?_getD, List.getD_eq_getElem?_getD, List.getElem?_take, if_pos (by omega)]
end
end Go.Rh
