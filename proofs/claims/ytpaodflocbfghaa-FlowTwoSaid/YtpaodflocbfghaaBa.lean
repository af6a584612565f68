/-
  Slices of numbers, second part: slicing.
-/
import Derived.Test.YtpaodflocbfghaaB
import Derived.Laws.Entries
namespace Go.Rh
open Go.RowKit

section
variable {P : Program}

theorem size_of3 {i : TypeInfo} (hi : P.info? 3 = some i) (hsz : i.size = 1) (w : World) : (sizeOf 3).run P w = .ok 1 w := by simp [sizeOf, typeInfo, hi, hsz]
/-- The bytes from a place on. -/
theorem run_cut_own {w : World} {B : Nat} {v : Value} {l : List Int} (t : TypeId) (i : TypeInfo) (ht : P.underlying t = some (.slice 3)) (hi : P.info? 3 = some i) (hsz : i.size = 1) (hown : Own w B v l) (k : Nat) (h0 : 0 < k) (hk : k ≤ l.length) :
    ∃ v', (∀ W : World, (Instr.sliceAt t v (some (.int .i64 (k : Int))) none none).run P W = .ok v' W) ∧ Own w B v' (l.drop k) ∧ v'.ownBlock = v.ownBlock := by
  have he : P.elem t = 3 := by simp [Program.elem, ht]
  have ht' : P.underlying t = some (.slice (P.elem t)) := by rw [he]; exact ht
  rcases hown with ⟨rfl, rfl⟩ | ⟨g, off, c, cs, fr, rfl, hB, hg, hf, h1, h2, h3⟩
  · simp at hk; omega
  · refine ⟨.slice (some ⟨g, (if c = k then off else off + k), none⟩) (l.length - k) (c - k), fun W => ?_, .inr ⟨g, _, c - k, cs, fr, by rw [List.length_drop], hB, hg, hf, by rw [List.length_drop]; omega, ?_, fun j hj => ?_⟩, rfl⟩
    · rw [run_sliceAt_slice W t _ _ _ _ ht', run_slice_l W t _ _ _ ht' _ _ (by omega) (by omega), he, size_of3 hi hsz]
      simp only [Result.andThen_ok, sliced, Int.toNat_natCast, Nat.mul_one]
      split <;> simp [Addr.add_lit]
    · split <;> omega
    · rw [List.length_drop] at hj
      rw [if_neg (by omega), at_drop, ← h3 (k + j) (by omega)]
      congr 1; omega
/-- Bytes from a place to a place. -/
theorem run_part {ok : Nat → Prop} {w : World} {v : Value} {l : List Int} (t : TypeId) (i : TypeInfo) (ht : P.underlying t = some (.slice 3)) (hi : P.info? 3 = some i) (hsz : i.size = 1) (hv : Bs ok w v l) (a b : Nat) (hab : a ≤ b) (hb : b ≤ l.length) :
    ∃ v', (∀ W : World, (Instr.sliceAt t v (some (.int .i64 (a : Int))) (some (.int .i64 (b : Int))) none).run P W = .ok v' W) ∧ Bs ok w v' ((l.drop a).take (b - a)) := by
  have he : P.elem t = 3 := by simp [Program.elem, ht]
  have ht' : P.underlying t = some (.slice (P.elem t)) := by rw [he]; exact ht
  obtain ⟨A, n, c, rfl, hn, hc, hbk⟩ := hv
  refine ⟨_, fun W => by
    rw [run_sliceAt_slice W t _ _ _ _ ht', run_slice_lh W t _ _ _ ht' _ _ _ _ (by omega) (by omega) (by omega), he, size_of3 hi hsz, Result.andThen_ok], ?_⟩
  simp only [sliced, Int.toNat_natCast, Nat.mul_one]
  refine ⟨_, b - a, c - a, rfl, by rw [List.length_take, List.length_drop]; omega, by omega, fun h0 => ?_⟩
  obtain ⟨g, off, rfl, hok, hj⟩ := hbk (by omega)
  rw [if_neg (by omega)]
  refine ⟨g, off + a, by simp [Addr.add_lit], hok, fun j hjb => ?_⟩
  rw [Nat.add_assoc, hj (a + j) (by omega)]
  congr 2
  unfold at_
  rw [List.getD_eq_getElem?_getD, List.getD_eq_getElem?_getD, List.getElem?_take, if_pos hjb, List.getElem?_drop]
theorem run_first {ok : Nat → Prop} {w : World} {v : Value} {l : List Int} (t : TypeId) (i : TypeInfo) (ht : P.underlying t = some (.slice 3)) (hi : P.info? 3 = some i) (hsz : i.size = 1) (hv : Bs ok w v l) (b : Nat) (hb : b ≤ l.length) :
    ∃ v', (∀ W : World, (Instr.sliceAt t v none (some (.int .i64 (b : Int))) none).run P W = .ok v' W) ∧ Bs ok w v' (l.take b) := by
  have he : P.elem t = 3 := by simp [Program.elem, ht]
  have ht' : P.underlying t = some (.slice (P.elem t)) := by rw [he]; exact ht
  obtain ⟨A, n, c, rfl, hn, hc, hbk⟩ := hv
  refine ⟨_, fun W => by
    rw [run_sliceAt_slice W t _ _ _ _ ht', run_slice_h W t _ _ _ ht' _ _ (by omega) (by omega), he, size_of3 hi hsz, Result.andThen_ok], ?_⟩
  simp only [sliced, Int.toNat_natCast, Nat.mul_one, Nat.zero_mul, Nat.sub_zero]
  refine ⟨_, b, c, rfl, by rw [List.length_take]; omega, by omega, fun h0 => ?_⟩
  obtain ⟨g, off, rfl, hok, hj⟩ := hbk (by omega)
  refine ⟨g, off, by split <;> simp [Addr.add_lit], hok, fun j hjb => ?_⟩
  rw [hj j (by omega)]
  congr 2
  unfold at_
  rw [List.getD_eq_getElem?_getD, List.getD_eq_getElem?_getD, List.getElem?_take, if_pos hjb]
theorem run_from {ok : Nat → Prop} {w : World} {v : Value} {l : List Int} (t : TypeId) (i : TypeInfo) (ht : P.underlying t = some (.slice 3)) (hi : P.info? 3 = some i) (hsz : i.size = 1) (hv : Bs ok w v l) (a : Nat) (ha : a ≤ l.length) :
    ∃ v', (∀ W : World, (Instr.sliceAt t v (some (.int .i64 (a : Int))) none none).run P W = .ok v' W) ∧ Bs ok w v' (l.drop a) := by
  have he : P.elem t = 3 := by simp [Program.elem, ht]
  have ht' : P.underlying t = some (.slice (P.elem t)) := by rw [he]; exact ht
  obtain ⟨A, n, c, rfl, hn, hc, hbk⟩ := hv
  refine ⟨_, fun W => by
    rw [run_sliceAt_slice W t _ _ _ _ ht', run_slice_l W t _ _ _ ht' _ _ (by omega) (by omega), he, size_of3 hi hsz, Result.andThen_ok], ?_⟩
  simp only [sliced, Int.toNat_natCast, Nat.mul_one]
  refine ⟨_, n - a, c - a, rfl, by rw [List.length_drop]; omega, by omega, fun h0 => ?_⟩
  obtain ⟨g, off, rfl, hok, hj⟩ := hbk (by omega)
  rw [if_neg (by omega)]
  refine ⟨g, off + a, by simp [Addr.add_lit], hok, fun j hjb => ?_⟩
  rw [Nat.add_assoc, hj (a + j) (by omega), at_drop]

end
end Go.Rh
