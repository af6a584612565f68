/-
  Rows of ranges as cells, two for each.
-/
import Derived.Test.YtjnekjjaofabeaaMa
import Derived.Test.YtjnekjjaofabeaaPc
namespace Go.Rh
open Go.RowKit Rng

def encS (l : List Sp) : List Value := l.flatMap fun s => [.int .i64 s.1, .int .i64 s.2]
theorem encS_nil : encS [] = [] := rfl
theorem encS_cons (s : Sp) (l : List Sp) : encS (s :: l) = .int .i64 s.1 :: .int .i64 s.2 :: encS l := rfl
theorem encS_append (l k : List Sp) : encS (l ++ k) = encS l ++ encS k := List.flatMap_append
theorem encS_length : ∀ l : List Sp, (encS l).length = l.length * 2
  | [] => rfl
  | s :: l => by rw [encS_cons, List.length_cons, List.length_cons, encS_length l, List.length_cons]; omega
theorem encS_one (l : List Sp) : ∀ v ∈ encS l, v.oneCell' = true := by
  intro v hv
  obtain ⟨s, _, hs⟩ := List.mem_flatMap.1 hv
  simp at hs
  rcases hs with rfl | rfl <;> rfl
theorem encS_get : ∀ {l : List Sp} {j : Nat} {s : Sp}, l[j]? = some s → (encS l)[j * 2]? = some (.int .i64 s.1) ∧ (encS l)[j * 2 + 1]? = some (.int .i64 s.2)
  | [], _, _, h => by simp at h
  | t :: l, 0, s, h => by simp at h; subst h; exact ⟨rfl, rfl⟩
  | t :: l, j + 1, s, h => by
    have := encS_get (l := l) (j := j) (by simpa using h)
    rw [encS_cons, show (j + 1) * 2 = j * 2 + 1 + 1 by omega, List.getElem?_cons_succ, List.getElem?_cons_succ, show j * 2 + 1 + 1 + 1 = j * 2 + 1 + 1 + 1 from rfl, List.getElem?_cons_succ, List.getElem?_cons_succ]
    exact this
theorem encS_take : ∀ (l : List Sp) (i : Nat), (encS l).take (i * 2) = encS (l.take i)
  | [], i => by simp [encS_nil]
  | s :: l, 0 => rfl
  | s :: l, i + 1 => by
    rw [encS_cons, show (i + 1) * 2 = i * 2 + 1 + 1 by omega, List.take_succ_cons, List.take_succ_cons, encS_take l i, List.take_succ_cons, encS_cons]
theorem encS_drop : ∀ (l : List Sp) (i : Nat), (encS l).drop (i * 2) = encS (l.drop i)
  | [], i => by simp [encS_nil]
  | s :: l, 0 => rfl
  | s :: l, i + 1 => by
    rw [encS_cons, show (i + 1) * 2 = i * 2 + 1 + 1 by omega, List.drop_succ_cons, List.drop_succ_cons, encS_drop l i, List.drop_succ_cons]
/-- A segment put into a row whose front are ranges. -/
theorem spl_take {cur : List Value} {l m : List Sp} {n i : Nat} (h : cur.take (n * 2) = encS l) (hn : n * 2 ≤ cur.length) (hi : i + m.length ≤ n) :
    (spl cur (i * 2) (encS m)).take (n * 2) = encS (l.take i ++ m ++ l.drop (i + m.length)) := by
  have hl : l.length = n := by
    have := congrArg List.length h
    rw [encS_length, List.length_take] at this
    omega
  have hm : i * 2 + (encS m).length ≤ cur.length := by rw [encS_length]; omega
  apply List.ext_getElem?
  intro j
  by_cases hj : j < n * 2
  · rw [List.getElem?_take, if_pos hj, encS_append, encS_append, ← encS_take, ← encS_drop, ← h]
    by_cases h1 : j < i * 2
    · rw [spl_out hm (.inl h1), List.append_assoc, List.getElem?_append_left (by simp; omega), List.getElem?_take, if_pos h1, List.getElem?_take, if_pos hj]
    · by_cases h2 : j < i * 2 + (encS m).length
      · have := spl_in (cur := cur) (o := i * 2) hm (j := j - i * 2) (by omega)
        rw [show i * 2 + (j - i * 2) = j by omega] at this
        rw [this, List.append_assoc, List.getElem?_append_right (by simp; omega), List.getElem?_append_left (by simp; omega)]
        congr 1
        simp; omega
      · rw [spl_out hm (.inr (by omega)), List.getElem?_append_right (by simp; omega), List.getElem?_drop, List.getElem?_take, if_pos (by simp [encS_length] at h2 ⊢; omega)]
        congr 1
        simp [encS_length] at h2 ⊢; omega
  · rw [List.getElem?_eq_none (by rw [List.length_take, spl_length hm]; omega), List.getElem?_eq_none (by rw [encS_length]; simp [hl]; omega)]
end Go.Rh
