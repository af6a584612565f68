/-
  The first gap; the ranges ahead of a number (where a search by halves comes to). No program in sight.
-/
import Derived.Test.YtjnekjjaofabeaaPb
namespace Go.Rh.Rng

theorem gaps_nil {a b : Int} {l : List Sp} (h : WF l) (e : gaps a b l = []) : ∀ n, a ≤ n → n ≤ b → mem n l := fun n h1 h2 => by
  have := (gaps_all (a := a) (b := b) h).1 n
  rw [e] at this
  apply Classical.byContradiction
  intro hc
  exact mem_nil n (this.2 ⟨⟨h1, h2⟩, hc⟩)
theorem gaps_cons {a b : Int} {l : List Sp} (h : WF l) {s : Sp} {r : List Sp} (e : gaps a b l = s :: r) : (a ≤ s.1 ∧ s.1 ≤ b ∧ s.1 ≤ s.2 ∧ s.2 ≤ b) ∧ (∀ n, a ≤ n → n < s.1 → mem n l) ∧ ¬ mem s.1 l := by
  obtain ⟨g1, g2, g3⟩ := gaps_all (a := a) (b := b) h
  rw [e] at g1 g2 g3
  have hs := g2 s (by simp)
  refine ⟨by omega, fun n h1 h2 => ?_, ?_⟩
  · apply Classical.byContradiction
    intro hc
    obtain ⟨t, ht, h3, h4⟩ := (g1 n).2 ⟨⟨h1, by omega⟩, hc⟩
    rcases List.mem_cons.1 ht with rfl | ht
    · omega
    · have := g3.2.1 t ht; omega
  · exact ((g1 s.1).1 ⟨s, by simp, Int.le_refl _, hs.1⟩).2

/-- How many ranges end ahead of a number. -/
def firstN (n : Int) (l : List Sp) : Nat := (l.takeWhile fun s => decide (s.2 < n)).length
theorem firstN_le (n : Int) (l : List Sp) : firstN n l ≤ l.length := by
  unfold firstN
  exact (List.takeWhile_sublist _).length_le
theorem firstN_lt {n : Int} : ∀ {l : List Sp} {k : Nat}, k < firstN n l → ∃ s, l[k]? = some s ∧ s.2 < n := by
  intro l
  induction l with
  | nil => intro k h; simp [firstN] at h
  | cons a l ih =>
    intro k h
    unfold firstN at h
    rw [List.takeWhile_cons] at h
    split at h
    · rename_i ha
      cases k with
      | zero => exact ⟨a, rfl, by simpa using ha⟩
      | succ k =>
        simp at h
        exact ih (k := k) h
    · simp at h
theorem firstN_ge {n : Int} : ∀ {l : List Sp}, WF l → ∀ {k : Nat} {s : Sp}, firstN n l ≤ k → l[k]? = some s → n ≤ s.2 := by
  intro l
  induction l with
  | nil => intro _ k s _ h; simp at h
  | cons a l ih =>
    intro hw k s h hk
    unfold firstN at h
    rw [List.takeWhile_cons] at h
    by_cases ha : a.2 < n
    · rw [if_pos (by simpa using ha)] at h
      cases k with
      | zero => simp at h
      | succ k =>
        simp at h hk
        exact ih hw.2.2 (k := k) h hk
    · cases k with
      | zero => simp at hk; subst hk; omega
      | succ k =>
        simp at hk
        have := hw.2.1 s (List.mem_of_getElem? hk)
        have h2 := hw.2.2.le s (List.mem_of_getElem? hk)
        omega
/-- What the search by halves comes to. -/
theorem firstN_eq {n : Int} {l : List Sp} (h : WF l) {i : Nat} (hi : i ≤ l.length) (h1 : ∀ k s, k < i → l[k]? = some s → s.2 < n) (h2 : ∀ k s, i ≤ k → l[k]? = some s → n ≤ s.2) : i = firstN n l := by
  rcases Nat.lt_trichotomy i (firstN n l) with hlt | rfl | hgt
  · obtain ⟨s, hs, hn⟩ := firstN_lt hlt
    have := h2 i s (Nat.le_refl _) hs
    omega
  · rfl
  · have hl : firstN n l < l.length := by omega
    have hs : l[firstN n l]? = some l[firstN n l] := List.getElem?_eq_getElem hl
    have := firstN_ge h (Nat.le_refl _) hs
    have := h1 _ _ hgt hs
    omega
theorem take_takeWhile {f : Sp → Bool} : ∀ (l : List Sp), l.take (l.takeWhile f).length = l.takeWhile f ∧ l.drop (l.takeWhile f).length = l.dropWhile f := by
  intro l
  induction l with
  | nil => exact ⟨rfl, rfl⟩
  | cons a l ih =>
    rw [List.takeWhile_cons, List.dropWhile_cons]
    by_cases ha : f a = true
    · simp [ha, ih]
    · simp [ha]
/-- Where `Cut` begins and ends; what it puts there. -/
theorem cutL_eq (a b : Int) (l : List Sp) : cutL a b l = l.take (firstN a l) ++ (midC b (l.drop (firstN a l))).flatMap (left1 a b) ++ l.drop (firstN a l + (midC b (l.drop (firstN a l))).length) := by
  have h := take_takeWhile (f := fun s => decide (s.2 < a)) l
  have h2 := take_takeWhile (f := fun s => decide (s.1 ≤ b)) (l.drop (firstN a l))
  unfold cutL
  have e1 : l.take (firstN a l) = preC a l := h.1
  have e2 : l.drop (firstN a l) = resC a l := h.2
  rw [← List.drop_drop, e1, e2]
  rw [e2] at h2
  have e3 : (resC a l).drop (midC b (resC a l)).length = posC b (resC a l) := h2.2
  rw [e3]
-- where Add begins: one range farther to the front, if that one ends just ahead
open Classical in
theorem preA_len {a : Int} : ∀ {l : List Sp}, WF l → (preA a l).length = if (∃ s, 0 < firstN a l ∧ l[firstN a l - 1]? = some s ∧ s.2 + 1 = a) then firstN a l - 1 else firstN a l := by
  intro l
  induction l with
  | nil => intro _; simp [preA, firstN]
  | cons t l ih =>
    intro hw
    have i := ih hw.2.2
    unfold preA
    rw [List.takeWhile_cons]
    by_cases h1 : t.2 + 1 < a
    · have hf : firstN a (t :: l) = firstN a l + 1 := by
        unfold firstN
        rw [List.takeWhile_cons, if_pos (by simp; omega)]
        rfl
      rw [if_pos (by simpa using h1), List.length_cons, hf]
      show (preA a l).length + 1 = _
      rw [i]
      by_cases hc : ∃ s, 0 < firstN a l ∧ l[firstN a l - 1]? = some s ∧ s.2 + 1 = a
      · rw [if_pos hc]
        obtain ⟨s, h0, hs, he⟩ := hc
        rw [if_pos ⟨s, by omega, by rw [show firstN a l + 1 - 1 = (firstN a l - 1) + 1 by omega]; simpa using hs, he⟩]
        omega
      · rw [if_neg hc, if_neg]
        rintro ⟨s, _, hs, he⟩
        rw [Nat.add_sub_cancel] at hs
        cases hz : firstN a l with
        | zero => rw [hz] at hs; simp at hs; subst hs; omega
        | succ k => rw [hz] at hs; simp at hs; exact hc ⟨s, by omega, by rw [hz]; simpa using hs, he⟩
    · rw [if_neg (by simpa using h1)]
      by_cases h2 : t.2 < a
      · have he : t.2 + 1 = a := by omega
        have hl0 : firstN a l = 0 := by
          cases hz : firstN a l with
          | zero => rfl
          | succ k =>
            obtain ⟨s, hs, hn⟩ := firstN_lt (n := a) (l := l) (k := 0) (by omega)
            have := hw.2.1 s (List.mem_of_getElem? hs)
            have := hw.2.2.le s (List.mem_of_getElem? hs)
            omega
        have hf : firstN a (t :: l) = 1 := by
          unfold firstN
          rw [List.takeWhile_cons, if_pos (by simpa using h2)]
          unfold firstN at hl0
          simp [hl0]
        rw [hf, if_pos ⟨t, by omega, rfl, he⟩]
        rfl
      · have hf : firstN a (t :: l) = 0 := by
          unfold firstN
          rw [List.takeWhile_cons, if_neg (by simpa using h2)]
          rfl
        rw [hf, if_neg (by rintro ⟨s, h0, _⟩; omega)]
        rfl
end Go.Rh.Rng
