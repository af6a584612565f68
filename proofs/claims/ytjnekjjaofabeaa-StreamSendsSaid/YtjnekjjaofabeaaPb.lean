/-
  Cutting a range out of a set; the gaps of a set between two numbers. No program in sight.
-/
import Derived.Test.YtjnekjjaofabeaaPa
namespace Go.Rh.Rng

/-- What lies ahead of a number; what is left of it. -/
def preC (a : Int) (l : List Sp) : List Sp := l.takeWhile fun s => decide (s.2 < a)
def resC (a : Int) (l : List Sp) : List Sp := l.dropWhile fun s => decide (s.2 < a)
def midC (b : Int) (l : List Sp) : List Sp := l.takeWhile fun s => decide (s.1 ≤ b)
def posC (b : Int) (l : List Sp) : List Sp := l.dropWhile fun s => decide (s.1 ≤ b)
/-- What is left of one range. -/
def left1 (a b : Int) (s : Sp) : List Sp := (if s.1 < a then [(s.1, a - 1)] else []) ++ (if s.2 > b then [(b + 1, s.2)] else [])
def cutL (a b : Int) (l : List Sp) : List Sp := preC a l ++ (midC b (resC a l)).flatMap (left1 a b) ++ posC b (resC a l)
theorem preC_resC (a : Int) (l : List Sp) : preC a l ++ resC a l = l := List.takeWhile_append_dropWhile
theorem midC_posC (b : Int) (l : List Sp) : midC b l ++ posC b l = l := List.takeWhile_append_dropWhile
theorem mem_left1 {a b : Int} (s : Sp) (n : Int) (h : a ≤ b) : mem n (left1 a b s) ↔ (s.1 ≤ n ∧ n ≤ s.2) ∧ ¬ (a ≤ n ∧ n ≤ b) ∨ (s.1 < a ∧ s.1 ≤ n ∧ n ≤ a - 1 ∧ s.2 < n) ∨ (s.2 > b ∧ b + 1 ≤ n ∧ n ≤ s.2 ∧ n < s.1) := by
  unfold left1
  rw [mem_append]
  by_cases h1 : s.1 < a <;> by_cases h2 : s.2 > b
  all_goals simp only [h1, h2, if_true, if_false, mem_cons]
  all_goals simp [mem_nil]
  all_goals omega
theorem mem_flat {n : Int} {f : Sp → List Sp} : ∀ {l : List Sp}, mem n (l.flatMap f) ↔ ∃ s ∈ l, mem n (f s) := by
  intro l
  induction l with
  | nil => simp [mem_nil]
  | cons t l ih => simp [List.flatMap_cons, mem_append, ih]
theorem cutL_parts {a b : Int} {l : List Sp} (h : WF l) :
    (∀ s ∈ preC a l, s.2 < a) ∧ (∀ s ∈ midC b (resC a l), a ≤ s.2 ∧ s.1 ≤ b ∧ s.1 ≤ s.2) ∧ (∀ s ∈ posC b (resC a l), a ≤ s.2 ∧ b < s.1) := by
  have hres : WF (resC a l) := by
    have := h
    rw [← preC_resC a l, wf_append] at this
    exact this.2.1
  have hr : ∀ t ∈ resC a l, decide (t.2 < a) = false := drop_far h fun s t hs ht hst hf => by simp at hf ⊢; omega
  have hp : ∀ t ∈ posC b (resC a l), decide (t.1 ≤ b) = false := drop_far hres fun s t hs ht hst hf => by simp at hf ⊢; omega
  refine ⟨fun s hs => by simpa using takeWhile_all _ _ s hs, fun s hs => ?_, fun s hs => ?_⟩
  · have h1 : s ∈ resC a l := by rw [← midC_posC b (resC a l)]; simp [hs]
    have h2 := hr s h1
    have h3 := takeWhile_all _ _ s hs
    have h4 := hres.le s h1
    simp at h2 h3
    omega
  · have h1 : s ∈ resC a l := by rw [← midC_posC b (resC a l)]; simp [hs]
    have h2 := hr s h1
    have h3 := hp s hs
    simp at h2 h3
    omega
theorem mem_cutL {a b : Int} {l : List Sp} (hab : a ≤ b) (h : WF l) (n : Int) : mem n (cutL a b l) ↔ mem n l ∧ ¬ (a ≤ n ∧ n ≤ b) := by
  obtain ⟨P1, P2, P3⟩ := cutL_parts (a := a) (b := b) h
  unfold cutL
  rw [mem_append, mem_append, mem_flat]
  have hl : mem n l ↔ mem n (preC a l) ∨ mem n (midC b (resC a l)) ∨ mem n (posC b (resC a l)) := by
    rw [← mem_append, midC_posC, ← mem_append, preC_resC]
  rw [hl]
  generalize midC b (resC a l) = m at *
  generalize preC a l = p1 at *
  generalize posC b (resC a l) = p2 at *
  constructor
  · rintro ((⟨s, hs, h1, h2⟩ | ⟨s, hs, h1⟩) | ⟨s, hs, h1, h2⟩)
    · have := P1 s hs
      exact ⟨.inl ⟨s, hs, h1, h2⟩, by omega⟩
    · rw [mem_left1 s n hab] at h1
      have := P2 s hs
      rcases h1 with ⟨h1, h2⟩ | h1 | h1
      · exact ⟨.inr (.inl ⟨s, hs, h1⟩), h2⟩
      · omega
      · omega
    · have := P3 s hs
      exact ⟨.inr (.inr ⟨s, hs, h1, h2⟩), by omega⟩
  · rintro ⟨h1 | ⟨s, hs, h1⟩ | h1, h2⟩
    · exact .inl (.inl h1)
    · exact .inl (.inr ⟨s, hs, (mem_left1 s n hab).2 (.inl ⟨h1, h2⟩)⟩)
    · exact .inr h1
theorem wf_flat {a b : Int} (hab : a ≤ b) : ∀ {m : List Sp}, WF m → (∀ s ∈ m, a ≤ s.2 ∧ s.1 ≤ b ∧ s.1 ≤ s.2) → WF (m.flatMap (left1 a b)) ∧ ∀ t ∈ m.flatMap (left1 a b), ∃ s ∈ m, s.1 ≤ t.1 ∧ t.2 ≤ s.2 := by
  have one : ∀ s : Sp, a ≤ s.2 ∧ s.1 ≤ b ∧ s.1 ≤ s.2 → WF (left1 a b s) ∧ ∀ t ∈ left1 a b s, s.1 ≤ t.1 ∧ t.2 ≤ s.2 := by
    intro s hs
    unfold left1
    by_cases h1 : s.1 < a <;> by_cases h2 : s.2 > b
    all_goals simp only [h1, h2, if_true, if_false]
    all_goals simp [WF]
    all_goals omega
  intro m
  induction m with
  | nil => intro _ _; exact ⟨trivial, fun t ht => by cases ht⟩
  | cons s m ih =>
    intro hw hm
    have h1 := one s (hm s (by simp))
    have h2 := ih hw.2.2 fun t ht => hm t (by simp [ht])
    rw [List.flatMap_cons]
    refine ⟨wf_append.2 ⟨h1.1, h2.1, fun t ht u hu => ?_⟩, fun t ht => ?_⟩
    · obtain ⟨v, hv, e1, e2⟩ := h2.2 u hu
      have := h1.2 t ht
      have := hw.2.1 v hv
      omega
    · rcases List.mem_append.1 ht with ht | ht
      · exact ⟨s, by simp, h1.2 t ht⟩
      · obtain ⟨v, hv, e⟩ := h2.2 t ht
        exact ⟨v, by simp [hv], e⟩
theorem WF.cutL {a b : Int} {l : List Sp} (hab : a ≤ b) (h : WF l) : WF (cutL a b l) := by
  obtain ⟨P1, P2, P3⟩ := cutL_parts (a := a) (b := b) h
  have hp := h
  rw [← preC_resC a l, wf_append] at hp
  obtain ⟨w1, w2, w3⟩ := hp
  rw [← midC_posC b (resC a l), wf_append] at w2
  have hf := wf_flat hab w2.1 P2
  have w4 : ∀ s ∈ preC a l, ∀ t ∈ midC b (resC a l), s.2 + 1 < t.1 := fun s hs t ht => w3 s hs t (by rw [← midC_posC b (resC a l)]; simp [ht])
  have w5 : ∀ s ∈ preC a l, ∀ t ∈ posC b (resC a l), s.2 + 1 < t.1 := fun s hs t ht => w3 s hs t (by rw [← midC_posC b (resC a l)]; simp [ht])
  unfold Rng.cutL
  rw [List.append_assoc, wf_append, wf_append]
  refine ⟨w1, ⟨hf.1, w2.2.1, fun s hs t ht => ?_⟩, fun s hs t ht => ?_⟩
  · obtain ⟨v, hv, e1, e2⟩ := hf.2 s hs
    have := w2.2.2 v hv t ht
    omega
  · rcases List.mem_append.1 ht with ht | ht
    · obtain ⟨v, hv, e1, e2⟩ := hf.2 t ht
      have := w4 s hs v hv
      omega
    · exact w5 s hs t ht

/-- The gaps between two numbers. -/
def gapsL (at_ b : Int) : List Sp → List Sp
  | [] => [(at_, b)]
  | s :: l => if s.2 < at_ then gapsL at_ b l else if s.1 > b then [(at_, b)] else (if s.1 > at_ then [(at_, s.1 - 1)] else []) ++ (if s.2 ≥ b then [] else gapsL (s.2 + 1) b l)
def gaps (a b : Int) (l : List Sp) : List Sp := if a > b then [] else gapsL a b l
theorem gapsL_all {b : Int} : ∀ {l : List Sp} {a : Int}, WF l → a ≤ b → (∀ n, mem n (gapsL a b l) ↔ (a ≤ n ∧ n ≤ b) ∧ ¬ mem n l) ∧ (∀ s ∈ gapsL a b l, s.1 ≤ s.2 ∧ a ≤ s.1 ∧ s.2 ≤ b) ∧ WF (gapsL a b l) := by
  intro l
  induction l with
  | nil =>
    intro a _ hab
    refine ⟨fun n => ?_, fun s hs => ?_, ?_⟩
    · simp [gapsL, mem_cons, mem_nil]
    · simp [gapsL] at hs; subst hs; exact ⟨hab, Int.le_refl _, Int.le_refl _⟩
    · exact ⟨hab, fun t ht => (by cases ht), trivial⟩
  | cons s l ih =>
    intro a hw hab
    have hle := hw.1
    have far : ∀ n, mem n l → s.2 + 1 < n := fun n ⟨t, ht, h1, h2⟩ => by have := hw.2.1 t ht; omega
    unfold gapsL
    by_cases h1 : s.2 < a
    · rw [if_pos h1]
      obtain ⟨i1, i2, i3⟩ := ih hw.2.2 hab
      refine ⟨fun n => ?_, i2, i3⟩
      rw [i1, mem_cons]
      constructor
      · rintro ⟨h, hn⟩; exact ⟨h, fun h' => by rcases h' with h' | h'; omega; exact hn h'⟩
      · rintro ⟨h, hn⟩; exact ⟨h, fun h' => hn (.inr h')⟩
    · rw [if_neg h1]
      by_cases h2 : s.1 > b
      · rw [if_pos h2]
        refine ⟨fun n => ?_, fun t ht => ?_, ⟨hab, fun t ht => (by cases ht), trivial⟩⟩
        · rw [mem_cons, mem_cons]
          constructor
          · rintro (h | h)
            · exact ⟨h, fun h' => by
                rcases h' with h' | h'
                · omega
                · have := far n h'; omega⟩
            · exact absurd h (mem_nil n)
          · rintro ⟨h, _⟩; exact .inl h
        · simp at ht; subst ht; exact ⟨hab, Int.le_refl _, Int.le_refl _⟩
      · rw [if_neg h2]
        by_cases h4 : s.2 ≥ b
        · rw [if_pos h4, List.append_nil]
          by_cases h3 : s.1 > a
          · rw [if_pos h3]
            refine ⟨fun n => ?_, fun t ht => ?_, ⟨by simp only []; omega, fun t ht => (by cases ht), trivial⟩⟩
            · rw [mem_cons, mem_cons]
              constructor
              · rintro (h | h)
                · exact ⟨by simp only [] at h; omega, fun h' => by
                    rcases h' with h' | h'
                    · simp only [] at h; omega
                    · have := far n h'; simp only [] at h; omega⟩
                · exact absurd h (mem_nil n)
              · rintro ⟨h, hn⟩
                left
                simp only []
                refine ⟨h.1, ?_⟩
                apply Classical.byContradiction
                intro hc
                exact hn (.inl ⟨by omega, by omega⟩)
            · simp at ht; subst ht; simp only []; omega
          · rw [if_neg h3]
            refine ⟨fun n => ?_, fun t ht => (by cases ht), trivial⟩
            rw [mem_cons]
            constructor
            · intro h; exact absurd h (mem_nil n)
            · rintro ⟨h, hn⟩; exact absurd (.inl ⟨by omega, by omega⟩) hn
        · rw [if_neg h4]
          obtain ⟨i1, i2, i3⟩ := ih (a := s.2 + 1) hw.2.2 (by omega)
          by_cases h3 : s.1 > a
          · rw [if_pos h3]
            refine ⟨fun n => ?_, fun t ht => ?_, ?_⟩
            · rw [mem_append, mem_cons, mem_cons, i1]
              constructor
              · rintro ((h | h) | ⟨h, hn⟩)
                · exact ⟨by simp only [] at h; omega, fun h' => by
                    rcases h' with h' | h'
                    · simp only [] at h; omega
                    · have := far n h'; simp only [] at h; omega⟩
                · exact absurd h (mem_nil n)
                · exact ⟨by omega, fun h' => by
                    rcases h' with h' | h'
                    · omega
                    · exact hn h'⟩
              · rintro ⟨h, hn⟩
                by_cases hc : n < s.1
                · exact .inl (.inl ⟨h.1, by simp only []; omega⟩)
                · right
                  have : ¬ n ≤ s.2 := fun hx => hn (.inl ⟨by omega, hx⟩)
                  exact ⟨⟨by omega, h.2⟩, fun h' => hn (.inr h')⟩
            · rcases List.mem_append.1 ht with ht | ht
              · simp at ht; subst ht; simp only []; omega
              · have := i2 t ht; omega
            · rw [wf_append]
              refine ⟨⟨by simp only []; omega, fun t ht => (by cases ht), trivial⟩, i3, fun t ht u hu => ?_⟩
              simp at ht; subst ht
              have := i2 u hu
              simp only []; omega
          · rw [if_neg h3, List.nil_append]
            refine ⟨fun n => ?_, fun t ht => by have := i2 t ht; omega, i3⟩
            rw [i1, mem_cons]
            constructor
            · rintro ⟨h, hn⟩
              exact ⟨by omega, fun h' => by
                rcases h' with h' | h'
                · omega
                · exact hn h'⟩
            · rintro ⟨h, hn⟩
              have : ¬ n ≤ s.2 := fun hx => hn (.inl ⟨by omega, hx⟩)
              exact ⟨⟨by omega, h.2⟩, fun h' => hn (.inr h')⟩
theorem gaps_all {a b : Int} {l : List Sp} (h : WF l) : (∀ n, mem n (gaps a b l) ↔ (a ≤ n ∧ n ≤ b) ∧ ¬ mem n l) ∧ (∀ s ∈ gaps a b l, s.1 ≤ s.2 ∧ a ≤ s.1 ∧ s.2 ≤ b) ∧ WF (gaps a b l) := by
  unfold gaps
  by_cases hab : a > b
  · rw [if_pos hab]
    exact ⟨fun n => ⟨fun h => absurd h (mem_nil n), fun h => by omega⟩, fun s hs => (by cases hs), trivial⟩
  · rw [if_neg hab]
    exact gapsL_all h (by omega)
end Go.Rh.Rng
