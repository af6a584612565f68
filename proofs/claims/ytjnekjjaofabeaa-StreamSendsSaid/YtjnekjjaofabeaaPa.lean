/-
  Sets of whole numbers as rising rows of ranges: adding a range, cutting one out, the gaps. No program in sight.
-/
import Derived.Lib.Hide
namespace Go.Rh.Rng

abbrev Sp := Int × Int
/-- Rising, each not empty, with a number between any two. -/
def WF : List Sp → Prop
  | [] => True
  | s :: l => s.1 ≤ s.2 ∧ (∀ t ∈ l, s.2 + 1 < t.1) ∧ WF l
def mem (n : Int) (l : List Sp) : Prop := ∃ s ∈ l, s.1 ≤ n ∧ n ≤ s.2
theorem mem_nil (n : Int) : ¬ mem n [] := by rintro ⟨s, h, _⟩; cases h
theorem mem_cons (n : Int) (s : Sp) (l : List Sp) : mem n (s :: l) ↔ (s.1 ≤ n ∧ n ≤ s.2) ∨ mem n l := by
  unfold mem
  constructor
  · rintro ⟨t, ht, h⟩
    rcases List.mem_cons.1 ht with rfl | ht
    · exact .inl h
    · exact .inr ⟨t, ht, h⟩
  · rintro (h | ⟨t, ht, h⟩)
    · exact ⟨s, by simp, h⟩
    · exact ⟨t, by simp [ht], h⟩
theorem mem_append (n : Int) (l k : List Sp) : mem n (l ++ k) ↔ mem n l ∨ mem n k := by
  unfold mem
  constructor
  · rintro ⟨t, ht, h⟩
    rcases List.mem_append.1 ht with ht | ht
    · exact .inl ⟨t, ht, h⟩
    · exact .inr ⟨t, ht, h⟩
  · rintro (⟨t, ht, h⟩ | ⟨t, ht, h⟩)
    · exact ⟨t, by simp [ht], h⟩
    · exact ⟨t, by simp [ht], h⟩
theorem WF.le {l : List Sp} (h : WF l) : ∀ s ∈ l, s.1 ≤ s.2 := by
  induction l with
  | nil => intro s hs; cases hs
  | cons t l ih =>
    intro s hs
    rcases List.mem_cons.1 hs with rfl | hs
    · exact h.1
    · exact ih h.2.2 s hs
theorem wf_append {l k : List Sp} : WF (l ++ k) ↔ WF l ∧ WF k ∧ ∀ s ∈ l, ∀ t ∈ k, s.2 + 1 < t.1 := by
  induction l with
  | nil => simp [WF]
  | cons a l ih =>
    simp only [List.cons_append, WF, ih, List.mem_append, List.mem_cons]
    constructor
    · rintro ⟨h1, h2, h3, h4, h5⟩
      exact ⟨⟨h1, fun t ht => h2 t (.inl ht), h3⟩, h4, fun s hs t ht => by
        rcases hs with rfl | hs
        · exact h2 t (.inr ht)
        · exact h5 s hs t ht⟩
    · rintro ⟨⟨h1, h2, h3⟩, h4, h5⟩
      exact ⟨h1, fun t ht => by
        rcases ht with ht | ht
        · exact h2 t ht
        · exact h5 a (.inl rfl) t ht, h3, h4, fun s hs t ht => h5 s (.inr hs) t ht⟩

/-- Where a range is put: what lies ahead of it, what it meets, what lies behind. -/
def preA (a : Int) (l : List Sp) : List Sp := l.takeWhile fun s => decide (s.2 + 1 < a)
def resA (a : Int) (l : List Sp) : List Sp := l.dropWhile fun s => decide (s.2 + 1 < a)
def midA (b : Int) (l : List Sp) : List Sp := l.takeWhile fun s => decide (s.1 ≤ b + 1)
def posA (b : Int) (l : List Sp) : List Sp := l.dropWhile fun s => decide (s.1 ≤ b + 1)
def lowF (a : Int) (m : List Sp) : Int := m.foldl (fun x s => min x s.1) a
def topF (b : Int) (m : List Sp) : Int := m.foldl (fun x s => max x s.2) b
def addL (a b : Int) (l : List Sp) : List Sp := preA a l ++ (lowF a (midA b (resA a l)), topF b (midA b (resA a l))) :: posA b (resA a l)

theorem lowF_le (a : Int) : ∀ m : List Sp, lowF a m ≤ a ∧ ∀ s ∈ m, lowF a m ≤ s.1 := by
  intro m
  induction m generalizing a with
  | nil => exact ⟨Int.le_refl _, fun s hs => by cases hs⟩
  | cons t m ih =>
    have := ih (min a t.1)
    refine ⟨Int.le_trans this.1 (Int.min_le_left _ _), fun s hs => ?_⟩
    rcases List.mem_cons.1 hs with rfl | hs
    · exact Int.le_trans this.1 (Int.min_le_right _ _)
    · exact this.2 s hs
theorem lowF_is (a : Int) : ∀ m : List Sp, lowF a m = a ∨ ∃ s ∈ m, lowF a m = s.1 := by
  intro m
  induction m generalizing a with
  | nil => exact .inl rfl
  | cons t m ih =>
    rcases ih (min a t.1) with h | ⟨s, hs, h⟩
    · by_cases h2 : a ≤ t.1
      · left; show lowF (min a t.1) m = a; rw [h]; omega
      · right; refine ⟨t, by simp, ?_⟩; show lowF (min a t.1) m = t.1; rw [h]; omega
    · exact .inr ⟨s, by simp [hs], h⟩
theorem le_topF (b : Int) : ∀ m : List Sp, b ≤ topF b m ∧ ∀ s ∈ m, s.2 ≤ topF b m := by
  intro m
  induction m generalizing b with
  | nil => exact ⟨Int.le_refl _, fun s hs => by cases hs⟩
  | cons t m ih =>
    have := ih (max b t.2)
    refine ⟨Int.le_trans (Int.le_max_left _ _) this.1, fun s hs => ?_⟩
    rcases List.mem_cons.1 hs with rfl | hs
    · exact Int.le_trans (Int.le_max_right _ _) this.1
    · exact this.2 s hs
theorem topF_is (b : Int) : ∀ m : List Sp, topF b m = b ∨ ∃ s ∈ m, topF b m = s.2 := by
  intro m
  induction m generalizing b with
  | nil => exact .inl rfl
  | cons t m ih =>
    rcases ih (max b t.2) with h | ⟨s, hs, h⟩
    · by_cases h2 : t.2 ≤ b
      · left; show topF (max b t.2) m = b; rw [h]; omega
      · right; refine ⟨t, by simp, ?_⟩; show topF (max b t.2) m = t.2; rw [h]; omega
    · exact .inr ⟨s, by simp [hs], h⟩
theorem takeWhile_all {α : Type} (f : α → Bool) : ∀ (l : List α), ∀ x ∈ l.takeWhile f, f x = true := by
  intro l
  induction l with
  | nil => intro x hx; cases hx
  | cons a l ih =>
    intro x hx
    rw [List.takeWhile_cons] at hx
    split at hx
    · rename_i ha
      rcases List.mem_cons.1 hx with rfl | hx
      · exact ha
      · exact ih x hx
    · cases hx
theorem pre_res (a : Int) (l : List Sp) : preA a l ++ resA a l = l := List.takeWhile_append_dropWhile
theorem mid_pos (b : Int) (l : List Sp) : midA b l ++ posA b l = l := List.takeWhile_append_dropWhile
/-- In a rising row what is dropped at last lies wholly on the other side. -/
theorem drop_far {f : Sp → Bool} : ∀ {l : List Sp}, WF l → (∀ s t : Sp, s.1 ≤ s.2 → t.1 ≤ t.2 → s.2 + 1 < t.1 → f s = false → f t = false) → ∀ t ∈ l.dropWhile f, f t = false := by
  intro l
  induction l with
  | nil => intro _ _ t ht; cases ht
  | cons a l ih =>
    intro h hf t ht
    rw [List.dropWhile_cons] at ht
    split at ht
    · exact ih h.2.2 hf t ht
    · rename_i ha
      rcases List.mem_cons.1 ht with rfl | ht
      · simpa using ha
      · exact hf a t h.1 (h.2.2.le t ht) (h.2.1 t ht) (by simpa using ha)
theorem WF.pre {a : Int} {l : List Sp} (h : WF l) : WF (preA a l) ∧ WF (resA a l) := by
  rw [← pre_res a l, wf_append] at h
  exact ⟨h.1, h.2.1⟩
theorem addL_parts {a b : Int} {l : List Sp} (h : WF l) :
    (∀ s ∈ preA a l, s.2 + 1 < a) ∧ (∀ s ∈ midA b (resA a l), a ≤ s.2 + 1 ∧ s.1 ≤ b + 1) ∧ (∀ s ∈ posA b (resA a l), a ≤ s.2 + 1 ∧ b + 1 < s.1) := by
  have hr : ∀ t ∈ resA a l, decide (t.2 + 1 < a) = false := drop_far h fun s t hs ht hst hf => by simp at hf ⊢; omega
  have hp : ∀ t ∈ posA b (resA a l), decide (t.1 ≤ b + 1) = false := drop_far h.pre.2 fun s t hs ht hst hf => by simp at hf ⊢; omega
  refine ⟨fun s hs => by simpa using takeWhile_all _ _ s hs, fun s hs => ?_, fun s hs => ?_⟩
  · have h1 : s ∈ resA a l := by rw [← mid_pos b (resA a l)]; simp [hs]
    have h2 := hr s h1
    have h3 := takeWhile_all _ _ s hs
    simp at h2 h3
    omega
  · have h1 : s ∈ resA a l := by rw [← mid_pos b (resA a l)]; simp [hs]
    have h2 := hr s h1
    have h3 := hp s hs
    simp at h2 h3
    omega
theorem mem_addL {a b : Int} {l : List Sp} (hab : a ≤ b) (h : WF l) (n : Int) : mem n (addL a b l) ↔ mem n l ∨ (a ≤ n ∧ n ≤ b) := by
  obtain ⟨P1, P2, P3⟩ := addL_parts (a := a) (b := b) h
  unfold addL
  rw [mem_append, mem_cons]
  have hl : mem n l ↔ mem n (preA a l) ∨ mem n (midA b (resA a l)) ∨ mem n (posA b (resA a l)) := by
    rw [← mem_append, mid_pos, ← mem_append, pre_res]
  rw [hl]
  have hwm : WF (midA b (resA a l)) := by
    have := h.pre (a := a) |>.2
    rw [← mid_pos b (resA a l), wf_append] at this
    exact this.1
  generalize midA b (resA a l) = m at *
  generalize preA a l = p1 at *
  generalize posA b (resA a l) = p2 at *
  have L1 := lowF_le a m
  have L2 := lowF_is a m
  have T1 := le_topF b m
  have T2 := topF_is b m
  constructor
  · rintro (h | ⟨h1, h2⟩ | h)
    · exact .inl (.inl h)
    · by_cases hn : a ≤ n ∧ n ≤ b
      · exact .inr hn
      · left; right; left
        by_cases hna : n < a
        · rcases L2 with e | ⟨s, hs, e⟩
          · simp only [] at h1; omega
          · have := P2 s hs
            exact ⟨s, hs, by simp only [] at h1; omega, by omega⟩
        · rcases T2 with e | ⟨s, hs, e⟩
          · simp only [] at h2; omega
          · have := P2 s hs
            exact ⟨s, hs, by omega, by simp only [] at h2; omega⟩
    · exact .inl (.inr (.inr h))
  · rintro ((h | ⟨s, hs, h1, h2⟩ | h) | ⟨h1, h2⟩)
    · exact .inl h
    · exact .inr (.inl ⟨by have := L1.2 s hs; simp only []; omega, by have := T1.2 s hs; simp only []; omega⟩)
    · exact .inr (.inr h)
    · exact .inr (.inl ⟨by have := L1.1; simp only []; omega, by have := T1.1; simp only []; omega⟩)
theorem WF.addL {a b : Int} {l : List Sp} (hab : a ≤ b) (h : WF l) : WF (addL a b l) := by
  obtain ⟨P1, P2, P3⟩ := addL_parts (a := a) (b := b) h
  have hp := h
  rw [← pre_res a l, wf_append] at hp
  obtain ⟨w1, w2, w3⟩ := hp
  rw [← mid_pos b (resA a l), wf_append] at w2
  have w4 : ∀ s ∈ preA a l, ∀ t ∈ midA b (resA a l), s.2 + 1 < t.1 := fun s hs t ht => w3 s hs t (by rw [← mid_pos b (resA a l)]; simp [ht])
  have w5 : ∀ s ∈ preA a l, ∀ t ∈ posA b (resA a l), s.2 + 1 < t.1 := fun s hs t ht => w3 s hs t (by rw [← mid_pos b (resA a l)]; simp [ht])
  unfold Rng.addL
  rw [wf_append]
  have L1 := lowF_le a (midA b (resA a l))
  have L2 := lowF_is a (midA b (resA a l))
  have T1 := le_topF b (midA b (resA a l))
  have T2 := topF_is b (midA b (resA a l))
  refine ⟨w1, ⟨by simp only []; omega, fun t ht => ?_, w2.2.1⟩, fun s hs t ht => ?_⟩
  · show topF b _ + 1 < t.1
    rcases T2 with e | ⟨s, hs, e⟩
    · rw [e]; exact (P3 t ht).2
    · rw [e]; exact w2.2.2 s hs t ht
  · rcases List.mem_cons.1 ht with rfl | ht
    · show s.2 + 1 < lowF a _
      rcases L2 with e | ⟨u, hu, e⟩
      · rw [e]; exact P1 s hs
      · rw [e]; exact w4 s hs u hu
    · exact w5 s hs t ht
end Go.Rh.Rng
