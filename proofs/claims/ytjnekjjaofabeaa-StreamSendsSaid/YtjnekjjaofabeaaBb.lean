/-
  append(a slice of one's own, make([]byte, n)...).
-/
import Derived.Test.YtjnekjjaofabeaaBa
namespace Go.Rh
open Go.RowKit
section
variable {P : Program}
theorem zero_bv (n : Nat) : Builtin.zeroCells (Value.int .u8 0).cells n = (bv (List.replicate n 0)).toArray := by
  apply Array.ext_getElem?
  intro j
  by_cases hj : j < n
  · simp [Builtin.zeroCells, Value.cells, bv, ub, hj, Nat.mod_one]
  · simp [Builtin.zeroCells, Value.cells, bv, ub, hj]
theorem run_append_zeros {w : World} {B : Nat} {v : Value} {l : List UInt8} (t u ty : TypeId) (i : TypeInfo) (ht : P.underlying t = some (.slice 5)) (hu : P.underlying u = some (.int .i64)) (hi : P.info? 5 = some i) (hz : i.zero = some (.int .u8 0)) (hsz : i.size = 1) (hby : i.bytes = 1)
    (hown : Own w B v l) (n : Nat) (h0 : 0 < n) (hbound : l.length + n ≤ 140737488355328) (hB : B ≤ w.heap.size) :
    ∃ v' w', (Builtin.append_ #[t, u] ty #[v, .int .i64 (n : Int)]).run P w = .ok v' w' ∧ Own w' B v' (l ++ List.replicate n 0) ∧ Keep w w' (fun k => v.ownBlock = some k) ∧ (v'.ownBlock = v.ownBlock ∨ v'.ownBlock = some w.heap.size) := by
  have hw : IntKind.i64.wrap (n : Int) = (n : Int) := IntWalk.i64_in _ (by omega)
  have hn0 : ¬ ((n : Int) < 0) := by omega
  have hnz : n ≠ 0 := by omega
  have h48n : ¬ (281474976710656 < (n : Int)) := by omega
  have hm : (List.replicate n (0 : UInt8)).length = n := List.length_replicate
  have grown : ∀ (cap : Nat), l.length + n ≤ cap →
      Own (w.drew.alloc (.cells ((bv l).toArray ++ (bv (List.replicate n 0)).toArray ++ Builtin.zeroCells (Value.int .u8 0).cells (cap - (l.length + n))) 5)) B (.slice (some ⟨w.heap.size, 0, none⟩) (l.length + n) cap) (l ++ List.replicate n 0) := by
    intro cap hcap
    have e : l.length + n = (l ++ List.replicate n (0 : UInt8)).length := by rw [List.length_append, hm]
    rw [e]
    refine Own.of_block (heap_alloc_new w.drew _) (.inl rfl) hB (by omega) ?_ fun j hj' => ?_
    · simp [bv_length, Builtin.zeroCells, Value.cells]; omega
    · rw [Array.getElem?_append_left (by simp [bv_length]; simpa using hj'), List.append_toArray, ← bv_append, List.getElem?_toArray]
      exact bv_at hj'
  rcases hown with ⟨rfl, rfl⟩ | ⟨g, o, cap, cs, fr, rfl, hBg, hg, hf, hnc, hfit, hcs⟩
  · have hge := grownCap_ge w n 0 5
    have hg := grown (grownCap w n 0 5) (by simpa using hge)
    simp only [List.length_nil, Nat.zero_add, List.nil_append] at hg
    have h48' : ¬ (281474976710656 < Builtin.nextslicecap n 0) := by rw [nextslicecap_zero h0]; omega
    have h63' : ¬ (9223372036854775807 < (n : Int)) := by omega
    have hr : (Builtin.append_ #[t, u] ty #[.slice none 0 0, .int .i64 (n : Int)]).run P w = .ok (.slice (some ⟨w.heap.size, 0, none⟩) n (grownCap w n 0 5)) (w.drew.alloc (.cells ((bv (List.replicate n 0)).toArray ++ Builtin.zeroCells (Value.int .u8 0).cells (grownCap w n 0 5 - n)) 5)) := by
      simp [Builtin.append_, asInt, asIntOf, run_underlying ht, run_underlying hu, sizeOf, typeInfo, zeroValue, hi, hz, hsz, hby, hw, hn0, hnz, h48n, h48', h63', Question.forced, run_firstCells_none, newRow, grownCap, zero_bv]
    refine ⟨_, _, hr, by simpa [bv] using hg, ⟨rfl, rfl, rfl, by simp, fun k hk _ => heap_old w.drew _ k hk⟩, .inr rfl⟩
  · have holds : ∀ j u, (bv l)[j]? = some u → w.cell? ((⟨g, o, none⟩ : Addr).add j) = some u := by
      intro j u hu
      obtain ⟨hjl, rfl⟩ := bv_get hu
      rw [Addr.add_lit, cell_of_row w g (o + j) cs 5 fr hg]
      exact hcs j hjl
    by_cases hroom : l.length + n ≤ cap
    · obtain ⟨cs', hr, hs', hin, hout⟩ := run_storeCells_fr P g (o + l.length) 5 fr (bv (List.replicate n 0)) 0 cs w hg hf (by rw [bv_length, hm]; omega) (bv_one _)
      refine ⟨.slice (some ⟨g, o, none⟩) (l.length + n) cap, w.setRow g cs', ?_, ?_, ?_, .inl rfl⟩
      · simp [Builtin.append_, asInt, asIntOf, run_underlying ht, run_underlying hu, sizeOf, typeInfo, zeroValue, hi, hz, hw, hn0, hnz, h48n, hby, hroom, Addr.add_lit, hsz, zero_bv, hr]
      · refine .inr ⟨g, o, cap, cs', fr, by rw [List.length_append, hm], hBg, setRow_heap w g cs _ 5 _ hg, by rw [hs']; exact hf, by rw [List.length_append]; omega, by omega, fun j hj' => ?_⟩
        by_cases hjl : j < l.length
        · rw [hout (o + j) (.inl (by omega)), hcs j hjl, at_append_left hjl]
        · have h1 := hin (j - l.length) (by rw [bv_length]; rw [List.length_append] at hj'; omega)
          rw [show o + l.length + 0 + (j - l.length) = o + j by omega] at h1
          rw [h1, bv_at (by rw [List.length_append] at hj'; omega)]
          congr 3
          unfold at_
          rw [List.getD_eq_getElem?_getD, List.getD_eq_getElem?_getD, List.getElem?_append_right (by omega)]
      · exact Keep.setRow (S := fun k => some g = some k) (Keep.refl w _) (.inr rfl) _
    · have hge := grownCap_ge w (l.length + n) cap 5
      have hfo := run_firstCells_some (P := P) w.drew i.size l.length ⟨g, o, none⟩ l.length cap (bv l) (by rw [bv_length, hsz]; omega) (by simpa using holds)
      rw [hsz] at hfo
      have h63' : ¬ (9223372036854775807 < ((l.length : Int) + (n : Int))) := by omega
      have h48' : ¬ (281474976710656 < Builtin.nextslicecap (l.length + n) cap) := by
        have := growslice_fits (need := l.length + n) (old := cap) (bytes := 1) (by omega) (by omega)
        omega
      have hr : (Builtin.append_ #[t, u] ty #[.slice (some ⟨g, o, none⟩) l.length cap, .int .i64 (n : Int)]).run P w = .ok (.slice (some ⟨w.heap.size, 0, none⟩) (l.length + n) (grownCap w (l.length + n) cap 5)) (w.drew.alloc (.cells ((bv l).toArray ++ (bv (List.replicate n 0)).toArray ++ Builtin.zeroCells (Value.int .u8 0).cells (grownCap w (l.length + n) cap 5 - (l.length + n))) 5)) := by
        simp [Builtin.append_, asInt, asIntOf, run_underlying ht, run_underlying hu, sizeOf, typeInfo, zeroValue, hi, hz, hsz, hby, hw, hn0, hnz, h48n, h48', h63', hroom, Question.forced, hfo, newRow, grownCap, zero_bv]
      exact ⟨_, _, hr, grown _ hge, ⟨rfl, rfl, rfl, by simp, fun k hk _ => heap_old w.drew _ k hk⟩, .inr rfl⟩
end
end Go.Rh
