/-
  StreamLimits: the plain law.
-/
import Derived.Test.YtjnekjjaofabeaaOn
namespace Go.Proofs.Ytjnekjjaofabeaa
open Go.RowKit Go.Rh Rng

def tl (t n : Nat) : List Sp := if t < n then [((t : Int), (n : Int) - 1)] else []
theorem cutL_tl {t n e : Nat} (h : t < n) (h1 : t < e) (h2 : e ≤ n) : cutL (t : Int) ((e : Int) - 1) (tl t n) = tl e n := by
  have a1 : ¬ ((n : Int) - 1 < (t : Int)) := by omega
  have a2 : (t : Int) ≤ (e : Int) - 1 := by omega
  unfold tl
  rw [if_pos h]
  by_cases he : e < n
  · rw [if_pos he]
    have a3 : (n : Int) - 1 > (e : Int) - 1 := by omega
    simp [cutL, preC, resC, midC, posC, left1, a1, a2]
    omega
  · rw [if_neg he]
    have a3 : ¬ ((n : Int) - 1 > (e : Int) - 1) := by omega
    simp [cutL, preC, resC, midC, posC, left1, a1, a2]
    omega
/-- A sending end whose bytes were all written at once, and that is closed. -/
structure LimInv (n lim : Nat) (ended : Bool) (s : Snd) (t : Nat) : Prop where
  b : s.b.length = n
  todo : s.todo = tl t n
  limit : s.limit = (lim : Int)
  top : s.top = (t : Int)
  le : t ≤ n
  lm : t ≤ lim
  et : s.endTodo = !ended
  e1 : ended = true → n ≤ lim ∧ t = n
  e2 : t = n → 0 < n → ended = true
theorem LimInv.next {n lim : Nat} {ended : Bool} {s : Snd} {t : Nat} (h : LimInv n lim ended s t) {size : Int} (hs : 1 ≤ size) :
    (nextR s size = (.tuple #[.agg #[.int .i64 0, .string ⟨#[]⟩, .bool false], .bool false], s) ∧ t = min lim n ∧ ended = decide (n ≤ lim)) ∨
    ∃ e d f s', nextR s size = (.tuple #[.agg #[.int .i64 (t : Int), .string d, .bool f], .bool true], s') ∧ t + d.size = e ∧ (d.size : Int) ≤ size ∧ e ≤ lim ∧ ended = false ∧ LimInv n lim f s' e ∧ (n - e) + (if f then 0 else 1) < (n - t) + 1 := by
  have hb := h.b
  have hle := h.le
  have hlm := h.lm
  by_cases htn : t < n
  · have hen : ended = false := by cases hh : ended with
      | false => rfl
      | true => have := h.e1 hh; omega
    have het : s.endTodo = true := by rw [h.et, hen]; rfl
    have htd : s.todo = [((t : Int), (n : Int) - 1)] := by rw [h.todo]; unfold tl; rw [if_pos htn]
    obtain ⟨e, he⟩ : ∃ e : Nat, nextE s ((t : Int), (n : Int) - 1) size = (e : Int) := ⟨(nextE s ((t : Int), (n : Int) - 1) size).toNat, by unfold nextE; rw [h.limit, hb]; simp only; omega⟩
    have hev : (e : Int) = min (min (n : Int) ((t : Int) + min size (n : Int))) (lim : Int) := by rw [← he]; unfold nextE; rw [h.limit, hb]; simp only; omega
    by_cases hc : e ≤ t
    · refine .inl ⟨?_, by omega, ?_⟩
      · unfold nextR
        rw [htd]
        simp only
        rw [if_pos (by rw [he]; omega)]
        unfold nextEnd
        rw [if_pos (.inr (by rw [h.limit, hb]; omega))]
      · rw [hen]
        symm
        rw [decide_eq_false_iff_not]
        omega
    · have hd : (nextD s ((t : Int), (n : Int) - 1) size).length = e - t := by
        unfold nextD
        rw [he, List.length_take, List.length_drop, hb]
        simp only
        omega
      have hS : nextS s ((t : Int), (n : Int) - 1) size = { s with todo := tl e n, top := (e : Int) } := by
        unfold nextS
        rw [he, h.top, h.todo]
        simp only
        rw [cutL_tl htn (by omega) (by omega), show max (t : Int) (e : Int) = (e : Int) by omega]
      refine .inr ⟨e, S8 (nextD s ((t : Int), (n : Int) - 1) size), decide (e = n), finS { s with todo := tl e n, top := (e : Int) } (t : Int) (e - t), ?_, by rw [S8_size, hd]; omega, by rw [S8_size, hd]; omega, by omega, hen, ?_, ?_⟩
      · have hf : finF { s with todo := tl e n, top := (e : Int) } (t : Int) (e - t) = decide (e = n) := by
          unfold finF
          rw [Bool.eq_iff_iff, Bool.and_eq_true, decide_eq_true_eq, decide_eq_true_eq]
          simp only [het, hb, true_and]
          omega
        unfold nextR
        rw [htd]
        simp only
        rw [if_neg (by rw [he]; omega), hS, hd, hf]
      · have hf : finF { s with todo := tl e n, top := (e : Int) } (t : Int) (e - t) = decide (e = n) := by
          unfold finF
          rw [Bool.eq_iff_iff, Bool.and_eq_true, decide_eq_true_eq, decide_eq_true_eq]
          simp only [het, hb, true_and]
          omega
        unfold finS
        rw [hf]
        by_cases hn : e = n
        · rw [if_pos (decide_eq_true hn)]
          exact ⟨hb, rfl, h.limit, rfl, by omega, by omega, by simp [hn], fun _ => ⟨by omega, hn⟩, fun _ _ => decide_eq_true hn⟩
        · rw [if_neg (by simpa using hn)]
          exact ⟨hb, rfl, h.limit, rfl, by omega, by omega, by simp [hn, het], fun hh => absurd (of_decide_eq_true hh) hn, fun hh => absurd hh hn⟩
      · split <;> omega
  · have ht : t = n := by omega
    have htd : s.todo = [] := by rw [h.todo]; unfold tl; rw [if_neg htn]
    have hR : nextR s size = nextEnd s := by unfold nextR; rw [htd]
    rw [hR]
    cases hen : ended with
    | true =>
      have h1 := h.e1 hen
      refine .inl ⟨?_, by omega, by simp; omega⟩
      unfold nextEnd
      rw [if_pos (.inl (by rw [h.et, hen]; rfl))]
    | false =>
      have hn0 : n = 0 := by
        rcases Nat.eq_zero_or_pos n with e | e
        · exact e
        · have := h.e2 ht e; rw [hen] at this; cases this
      have het : s.endTodo = true := by rw [h.et, hen]; rfl
      have hf : finF s (s.b.length : Int) 0 = true := by unfold finF; rw [het]; simp
      refine .inr ⟨0, ⟨#[]⟩, true, finS s (s.b.length : Int) 0, ?_, by rw [ht, hn0]; rfl, by show (0 : Int) ≤ size; omega, by omega, rfl, ?_, by simp; omega⟩
      · unfold nextEnd
        rw [if_neg (by rintro (e | e); rw [het] at e; cases e; rw [h.limit, hb] at e; omega), hf, hb, ht]
      · unfold finS
        rw [if_pos hf]
        exact ⟨hb, by rw [show (0 : Nat) = t by omega]; exact h.todo, h.limit, by rw [show ((0 : Nat) : Int) = (t : Int) by omega]; exact h.top, by omega, by omega, rfl, fun _ => ⟨by omega, by omega⟩, fun _ hh => by omega⟩
end Go.Proofs.Ytjnekjjaofabeaa
