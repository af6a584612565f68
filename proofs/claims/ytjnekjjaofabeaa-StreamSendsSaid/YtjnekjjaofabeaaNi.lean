/-
  Adding a range to any set, empty or not: Add (f36).
-/
import Derived.Test.YtjnekjjaofabeaaNh
namespace Go.Proofs.Ytjnekjjaofabeaa
open Go.RowKit Go.Rh Rng

set_option maxRecDepth 100000 in
theorem add_nil {w : World} {s : Nat} {a b : Int} (h : SetAt w s (.slice none 0 0) []) (hab : a ≤ b) :
    Calls Try.prog 36 #[.pointer (some ⟨s, 0, none⟩), .int .i64 a, .int .i64 b] w fun e w' =>
      e = .returned (.int .i64 0) ∧ ∃ v', SetAt w' s v' (addL a b []) ∧ Keep w w' (fun k => k = s) ∧ (∃ k, v'.ownBlock = some k ∧ w.heap.size ≤ k) := by
  have hf := first_any a h
  have hf0 : firstN a [] = 0 := rfl
  rw [hf0] at hf
  have HS := Lib.hid h
  have hs := heap_lt h.row
  have hab' : ¬ b < a := by omega
  clear h hf0
  go_enter Try.func36, Try.ntmps36
  go_wp2_with (go_at_call 44; refine hf.mono ?_; rintro e w1 ⟨rfl, hb1⟩; have HB1 := Lib.hid hb1; have C0 : w1.cell? ⟨s, 0, none⟩ = some (.slice none 0 0) := (hb1.cell (p := ⟨s, 0, none⟩) hs).trans HS.out.cell0; clear hb1)
  obtain ⟨rb, hrb⟩ : ∃ rb, rb = w1.heap.size := ⟨_, rfl⟩
  obtain ⟨w2, hw2⟩ : ∃ w2, w2 = w1.alloc (.cells #[.int .i64 a, .int .i64 b] 93) := ⟨_, rfl⟩
  have M2 : w2.heap[rb]? = some (.cells #[.int .i64 a, .int .i64 b] 93 (0, 0)) := by rw [hw2, hrb]; exact heap_alloc_new w1 _
  have K2 : Below w.heap.size w w2 := by rw [hw2]; exact HB1.out.alloc HB1.out.size _
  have hrbw : w.heap.size ≤ rb := by rw [hrb]; exact HB1.out.size
  rw [← hw2, ← hrb]
  have C2 : w2.cell? ⟨s, 0, none⟩ = some (.slice none 0 0) := (K2.cell (p := ⟨s, 0, none⟩) hs).trans HS.out.cell0
  have R0 : w2.cell? ⟨rb, 0, none⟩ = some (.int .i64 a) := by rw [cell_of_row w2 rb 0 _ _ _ M2]; rfl
  have R1 : w2.cell? ⟨rb, 1, none⟩ = some (.int .i64 b) := by rw [cell_of_row w2 rb 1 _ _ _ M2]; rfl
  have HM2 := Lib.hid M2
  have HK2 := Lib.hid K2
  have HRB := Lib.hid hrbw
  clear hw2 M2 K2 hrb C0 hrbw hf
  have hput : Calls Try.prog 45 #[.pointer (some ⟨s, 0, none⟩), .int .i64 ((0 : Nat) : Int), .int .i64 ((0 : Nat) : Int), .slice (some ⟨w2.heap.size, 0, none⟩) 1 1] (w2.alloc (.cells #[.int .i64 a, .int .i64 b] 93)) fun e w' =>
      (∃ u, e = .returned u) ∧ ∃ v', SetAt w' s v' (addL a b []) ∧ Keep w w' (fun k => k = s) ∧ (∃ k, v'.ownBlock = some k ∧ w.heap.size ≤ k) := by
    have KA : Keep w (w2.alloc (.cells #[.int .i64 a, .int .i64 b] 93)) (fun k => k = s) := (Keep.of_below HK2.out (Nat.le_refl _) _).alloc _
    have SA := HS.out.keep ((Keep.of_below HK2.out (Nat.le_refl _) (fun _ => False)).alloc (.cells #[.int .i64 a, .int .i64 b] 93)) id (fun _ _ => id)
    have OA : One (w2.alloc (.cells #[.int .i64 a, .int .i64 b] 93)) w2.heap.size (a, b) := heap_alloc_new w2 _
    refine (put_any (i := 0) (j := 0) SA OA.row (by simp [Value.ownBlock]) (by have := HK2.out.size; omega) (Nat.le_refl _) (by simp) (.inr ⟨rfl, rfl, _, rfl, OA⟩) (by simp [WF]; exact hab) (by simp)).mono ?_
    rintro e w' ⟨hu, v', h3, h4, h5⟩
    refine ⟨hu, v', h3, KA.trans h4 (fun k _ e => by rcases e with e | e; exact e; simp [Value.ownBlock] at e), ?_⟩
    rcases h5 with h5 | ⟨k, h6, h7⟩
    · rcases h3.2.1 with ⟨_, h⟩ | ⟨g, c, rfl, _⟩
      · simp at h
      · simp [Value.ownBlock] at h5
    · exact ⟨k, h6, Nat.le_trans KA.size h7⟩
  simp only [Int.natCast_zero] at hput
  go_loopw [9] (fun x wr => x = .int .i64 0 ∧ wr = w2) (fun _ _ => 0)
  case atStart => exact ⟨rfl, rfl⟩
  case round =>
    obtain ⟨rfl, rfl⟩ := hrel
    go_wp2_with (go_at_call 45; refine hput.mono ?_; rintro e w2 ⟨⟨u, rfl⟩, v', h3, h4, h5⟩; have H3 := Lib.hid h3; have H4 := Lib.hid h4; have H5 := Lib.hid h5; clear h3 h4 h5)
    go_ret
    exact ⟨rfl, v', H3.out, H4.out, H5.out⟩

/-- A set in memory, its blocks among `F`. -/
def SetIn (F : Nat → Prop) (w : World) (s : Nat) (l : List Sp) : Prop := ∃ v, SetAt w s v l ∧ F s ∧ ∀ k, v.ownBlock = some k → F k
/-- The blocks of `F`, and new ones. -/
def More (F : Nat → Prop) (w : World) : Nat → Prop := fun k => F k ∨ w.heap.size ≤ k
theorem SetIn.keep {F S : Nat → Prop} {w w' : World} {s : Nat} {l : List Sp} (h : SetIn F w s l) (k : Keep w w' S) (hd : ∀ i, F i → ¬ S i) : SetIn F w' s l := by
  obtain ⟨v, h1, h2, h3⟩ := h
  exact ⟨v, h1.keep k (hd s h2) (fun g hg => hd g (h3 g hg)), h2, h3⟩
theorem SetIn.mono {F G : Nat → Prop} {w : World} {s : Nat} {l : List Sp} (h : SetIn F w s l) (hd : ∀ i, i < w.heap.size → F i → G i) : SetIn G w s l := by
  obtain ⟨v, h1, h2, h3⟩ := h
  exact ⟨v, h1, hd s (heap_lt h1.row) h2, fun k hk => hd k (h1.2.1.lt k hk) (h3 k hk)⟩
theorem add_any {F : Nat → Prop} {w : World} {s : Nat} {l : List Sp} {a b : Int} (h : SetIn F w s l) (hab : a ≤ b) (hba : -4611686018427387904 ≤ a) (hbb : b ≤ 4611686018427387904) (hB : Bd l) (hl : (addL a b l).length ≤ 100000) :
    Calls Try.prog 36 #[.pointer (some ⟨s, 0, none⟩), .int .i64 a, .int .i64 b] w fun e w' =>
      e = .returned (.int .i64 0) ∧ SetIn (More F w) w' s (addL a b l) ∧ Keep w w' F := by
  obtain ⟨v, h1, h2, h3⟩ := h
  rcases h1.2.1 with ⟨rfl, rfl⟩ | ⟨g, c, rfl, hr⟩
  · refine (add_nil h1 hab).mono ?_
    rintro e w' ⟨rfl, v', h4, h5, k, h6, h7⟩
    exact ⟨rfl, ⟨v', h4, .inl h2, fun q hq => by rw [h6] at hq; injection hq with hq; subst hq; exact .inr h7⟩, h5.mono (fun i _ e => by subst e; exact h2)⟩
  · refine (add_row h1 hr hab hba hbb hB hl).mono ?_
    rintro e w' ⟨rfl, v', h4, h5, h6⟩
    refine ⟨rfl, ⟨v', h4, .inl h2, fun q hq => ?_⟩, h5.mono (fun i _ e => by rcases e with rfl | rfl; exact h2; exact h3 _ rfl)⟩
    rcases h6 with h6 | ⟨k, h6, h7⟩
    · rw [h6] at hq; injection hq with hq; subst hq; exact .inl (h3 _ rfl)
    · rw [h6] at hq; injection hq with hq; subst hq; exact .inr h7
end Go.Proofs.Ytjnekjjaofabeaa
