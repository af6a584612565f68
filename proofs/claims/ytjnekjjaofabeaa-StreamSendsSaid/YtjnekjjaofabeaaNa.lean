/-
  Sets of ranges in memory; where a number would stand: first (f44), the search (f48), its comparison (f49).
-/
import Derived.Test.YtjnekjjaofabeaaProg
import Derived.Test.YtjnekjjaofabeaaMb
import Derived.Test.YtjnekjjaofabeaaJb
import Derived.Test.YtjnekjjaofabeaaBd
import Derived.Shelf.Abstract
namespace Go.Proofs.Ytjnekjjaofabeaa
open Go.RowKit Go.Rh Rng

/-- A row of ranges at a block, its capacity. -/
def RowAt (w : World) (g c : Nat) (l : List Sp) : Prop :=
  ∃ cur, w.heap[g]? = some (.cells cur 93 (0, 0)) ∧ cur.size = c * 2 ∧ l.length ≤ c ∧ c ≤ maxLen ∧ cur.toList.take (l.length * 2) = encS l
theorem RowAt.keep {w w' : World} {S : Nat → Prop} {g c : Nat} {l : List Sp} (h : RowAt w g c l) (k : Keep w w' S) (hg : ¬ S g) : RowAt w' g c l := by
  obtain ⟨cur, h1, r⟩ := h
  exact ⟨cur, (k.block g (heap_lt h1) hg).trans h1, r⟩
theorem RowAt.heap {w w' : World} {g c : Nat} {l : List Sp} (h : RowAt w g c l) (e : w'.heap[g]? = w.heap[g]?) : RowAt w' g c l := by
  obtain ⟨cur, h1, r⟩ := h
  exact ⟨cur, e.trans h1, r⟩
theorem RowAt.lt {w : World} {g c : Nat} {l : List Sp} (h : RowAt w g c l) : g < w.heap.size := by
  obtain ⟨cur, h1, r⟩ := h; exact heap_lt h1
theorem RowAt.cells {w : World} {g c : Nat} {l : List Sp} (h : RowAt w g c l) {k : Nat} {s : Sp} (hk : l[k]? = some s) :
    w.cell? ⟨g, k * 2, none⟩ = some (.int .i64 s.1) ∧ w.cell? ⟨g, k * 2 + 1, none⟩ = some (.int .i64 s.2) := by
  obtain ⟨cur, h1, h2, h3, h4, h5⟩ := h
  have hl := (List.getElem?_eq_some_iff.1 hk).1
  obtain ⟨e1, e2⟩ := encS_get hk
  rw [← h5, List.getElem?_take, if_pos (by omega)] at e1
  rw [← h5, List.getElem?_take, if_pos (by omega)] at e2
  exact ⟨by rw [cell_of_row w g _ cur 93 (0, 0) h1]; simpa using e1, by rw [cell_of_row w g _ cur 93 (0, 0) h1]; simpa using e2⟩
theorem RowAt.len {w : World} {g c : Nat} {l : List Sp} (h : RowAt w g c l) : l.length ≤ 9223372036854775807 := by
  obtain ⟨cur, h1, h2, h3, h4, h5⟩ := h
  simp only [maxLen] at h4; omega

theorem cmp_any (w : World) (a b n : Int) : Calls Try.prog 49 #[.agg #[.int .i64 a, .int .i64 b], .int .i64 n] w fun e w' =>
    e = .returned (.int .i64 (if b < n then -1 else 1)) ∧ Below w.heap.size w w' := by
  have hB : Below w.heap.size w (w.alloc (.cells #[.int .i64 a, .int .i64 b] 93)) := (Below.refl _ w).alloc (Nat.le_refl _) _
  by_cases h : b < n
  · go_enter Try.func49, Try.ntmps49
    go_wp2
    go_ret
    exact ⟨rfl, hB⟩
  · go_enter Try.func49, Try.ntmps49
    go_wp2
    go_ret
    exact ⟨rfl, hB⟩

theorem wf_lt : ∀ {l : List Sp}, WF l → ∀ {j k : Nat} {s t : Sp}, j < k → l[j]? = some s → l[k]? = some t → s.2 + 1 < t.1
  | [], _, _, _, _, _, _, h, _ => by simp at h
  | a :: l, h, 0, k + 1, s, t, _, hs, ht => by
    simp at hs ht; subst hs
    exact h.2.1 t (List.mem_of_getElem? ht)
  | a :: l, h, j + 1, k + 1, s, t, hjk, hs, ht => wf_lt (l := l) h.2.2 (j := j) (k := k) (by omega) (by simpa using hs) (by simpa using ht)
  | a :: l, h, _, 0, _, _, hjk, _, _ => absurd hjk (Nat.not_lt_zero _)
theorem wf_below {l : List Sp} {n : Int} (h : WF l) {j k : Nat} {s t : Sp} (ht : l[j]? = some t) (hs : l[k]? = some s) (hjk : j < k) (hn : s.2 < n) : t.2 < n := by
  have := wf_lt h hjk ht hs
  have := h.le s (List.mem_of_getElem? hs)
  omega
theorem wf_above {l : List Sp} {n : Int} (h : WF l) {j k : Nat} {s t : Sp} (hs : l[j]? = some s) (ht : l[k]? = some t) (hjk : j < k) (hn : n ≤ s.2) : n ≤ t.2 := by
  have := wf_lt h hjk hs ht
  have := h.le t (List.mem_of_getElem? ht)
  omega
set_option maxRecDepth 100000 in
theorem search_any (w : World) (n : Int) {g c : Nat} {l : List Sp} (hl : WF l) (h : RowAt w g c l) (h1 : l.length ≤ 1000000) : Calls Try.prog 48 #[.slice (some ⟨g, 0, none⟩) l.length c, .int .i64 n, .func (.func 49) #[] #[]] w fun e w' =>
    (∃ b, e = .returned (.tuple #[.int .i64 (firstN n l), .bool b])) ∧ Below w.heap.size w w' := by
  obtain ⟨N, hN⟩ : ∃ N, N = l.length := ⟨_, rfl⟩
  have HN := Lib.hid hN
  have HL := Lib.hid hl
  have HR := Lib.hid h
  have hN1 : N ≤ 1000000 := by omega
  rw [← hN]
  clear hl h hN h1
  go_enter Try.func48, Try.ntmps48
  go_wp2
  go_loopw [9, 10] (fun a b wr => ∃ (i j : Nat), a = .int .i64 i ∧ b = .int .i64 j ∧ i ≤ j ∧ j ≤ N ∧ Below w.heap.size w wr ∧ (∀ k s, k < i → l[k]? = some s → s.2 < n) ∧ (∀ k s, j ≤ k → l[k]? = some s → n ≤ s.2)) (fun a b _ => (intOf b).toNat - (intOf a).toNat)
  case atStart => exact ⟨0, N, rfl, rfl, Nat.zero_le _, Nat.le_refl _, Below.refl _ _, fun k s hk => absurd hk (Nat.not_lt_zero _), fun k s hk he => by have := (List.getElem?_eq_some_iff.1 he).1; have := HN.out; omega⟩
  case round =>
    obtain ⟨i, j, rfl, rfl, hij, hjN, hb, hlo, hhi⟩ := hrel
    have HB := Lib.hid hb
    have HLo := Lib.hid hlo
    have HHi := Lib.hid hhi
    clear hb hlo hhi
    by_cases he : i = j
    · subst he
      have hf : i = firstN n l := firstN_eq HL.out (by have := HN.out; omega) HLo.out HHi.out
      have HF := Lib.hid hf
      clear hf
      by_cases hi : i < N
      · have hiN : (i : Int) < (N : Int) := by omega
        obtain ⟨s, hs⟩ : ∃ s, l[i]? = some s := ⟨l[i]'(by have := HN.out; omega), List.getElem?_eq_getElem _⟩
        have hsn := HHi.out i s (Nat.le_refl _) hs
        have hg := HR.out.lt
        obtain ⟨c0, c1⟩ := HR.out.cells hs
        have k0 : wr.cell? ⟨g, i * 2, none⟩ = some (.int .i64 s.1) := (HB.out.cell (p := ⟨g, i * 2, none⟩) hg).trans c0
        have k1 : wr.cell? ⟨g, i * 2 + 1, none⟩ = some (.int .i64 s.2) := (HB.out.cell (p := ⟨g, i * 2 + 1, none⟩) hg).trans c1
        have hcmp : ∀ W : World, Calls Try.prog 49 #[.agg #[.int .i64 s.1, .int .i64 s.2], .int .i64 n] W fun e w' => e = .returned (.int .i64 1) ∧ Below W.heap.size W w' := fun W => (cmp_any W s.1 s.2 n).mono fun e w' h => by rw [if_neg (by omega)] at h; exact h
        clear c0 c1 hs hsn
        go_wp2_with (go_at_call 49; refine (hcmp _).mono ?_; rintro e w2 ⟨rfl, hb2⟩; have HB2 := Lib.hid hb2; clear hb2)
        go_ret2
        rw [← HF.out]
        exact ⟨⟨_, rfl⟩, HB.out.trans (HB2.out.mono HB.out.size)⟩
      · have hiN : i = N := by omega
        clear hi
        subst hiN
        go_wp2
        go_ret2
        rw [← HF.out]
        exact ⟨⟨_, rfl⟩, HB.out⟩
    · have hlt : (i : Int) < (j : Int) := by omega
      obtain ⟨s, hs⟩ : ∃ s, l[(i + j) / 2]? = some s := ⟨l[(i + j) / 2]'(by have := HN.out; omega), List.getElem?_eq_getElem _⟩
      have HS := Lib.hid hs
      have hg := HR.out.lt
      obtain ⟨c0, c1⟩ := HR.out.cells hs
      have k0 : wr.cell? ⟨g, (i + j) / 2 * 2, none⟩ = some (.int .i64 s.1) := (HB.out.cell (p := ⟨g, (i + j) / 2 * 2, none⟩) hg).trans c0
      have k1 : wr.cell? ⟨g, (i + j) / 2 * 2 + 1, none⟩ = some (.int .i64 s.2) := (HB.out.cell (p := ⟨g, (i + j) / 2 * 2 + 1, none⟩) hg).trans c1
      clear c0 c1 hs he
      by_cases hn : s.2 < n
      · have hcmp : ∀ W : World, Calls Try.prog 49 #[.agg #[.int .i64 s.1, .int .i64 s.2], .int .i64 n] W fun e w' => e = .returned (.int .i64 (-1)) ∧ Below W.heap.size W w' := fun W => (cmp_any W s.1 s.2 n).mono fun e w' h => by rw [if_pos hn] at h; exact h
        go_wp2_with (go_at_call 49; refine (hcmp _).mono ?_; rintro e w2 ⟨rfl, hb2⟩; have HB2 := Lib.hid hb2; clear hb2)
        go_roundw
        case rel =>
          refine ⟨(i + j) / 2 + 1, j, by simp, rfl, by omega, hjN, HB.out.trans (HB2.out.mono HB.out.size), fun k t hk ht => ?_, HHi.out⟩
          rcases Nat.lt_or_eq_of_le (Nat.le_of_lt_succ hk) with h | rfl
          · exact wf_below HL.out ht HS.out h hn
          · rw [HS.out] at ht; cases ht; exact hn
        case measure => simp [intOf]; omega
      · have hcmp : ∀ W : World, Calls Try.prog 49 #[.agg #[.int .i64 s.1, .int .i64 s.2], .int .i64 n] W fun e w' => e = .returned (.int .i64 1) ∧ Below W.heap.size W w' := fun W => (cmp_any W s.1 s.2 n).mono fun e w' h => by rw [if_neg hn] at h; exact h
        go_wp2_with (go_at_call 49; refine (hcmp _).mono ?_; rintro e w2 ⟨rfl, hb2⟩; have HB2 := Lib.hid hb2; clear hb2)
        go_roundw
        case rel =>
          refine ⟨i, (i + j) / 2, rfl, by simp, by omega, by omega, HB.out.trans (HB2.out.mono HB.out.size), HLo.out, fun k t hk ht => ?_⟩
          rcases Nat.lt_or_eq_of_le hk with h | rfl
          · exact wf_above HL.out HS.out ht h (by omega)
          · rw [HS.out] at ht; cases ht; omega
        case measure => simp [intOf]; omega

theorem search_nil (w : World) (n : Int) : Calls Try.prog 48 #[.slice none 0 0, .int .i64 n, .func (.func 49) #[] #[]] w fun e w' => (∃ b, e = .returned (.tuple #[.int .i64 0, .bool b])) ∧ Below w.heap.size w w' := by
  go_enter Try.func48, Try.ntmps48
  go_wp2
  go_loopw [9, 10] (fun a b wr => a = .int .i64 0 ∧ b = .int .i64 0 ∧ wr = w) (fun _ _ _ => 0)
  case atStart => exact ⟨rfl, rfl, rfl⟩
  case round =>
    obtain ⟨rfl, rfl, rfl⟩ := hrel
    go_wp2
    go_ret2
    exact ⟨⟨_, rfl⟩, Below.refl _ _⟩

/-- A slice of ranges: none, or a row of its own. -/
def SetV (w : World) (v : Value) (l : List Sp) : Prop := (v = .slice none 0 0 ∧ l = []) ∨ ∃ g c, v = .slice (some ⟨g, 0, none⟩) l.length c ∧ RowAt w g c l
theorem SetV.form {w : World} {v : Value} {l : List Sp} (h : SetV w v l) : ∃ A c, v = .slice A l.length c := by
  rcases h with ⟨rfl, rfl⟩ | ⟨g, c, rfl, _⟩
  · exact ⟨_, _, rfl⟩
  · exact ⟨_, _, rfl⟩
theorem SetV.formN {w : World} {v : Value} {l : List Sp} (h : SetV w v l) : ∃ A n c, n = l.length ∧ v = .slice A n c := by
  obtain ⟨A, c, h⟩ := h.form
  exact ⟨A, _, c, rfl, h⟩
theorem SetV.keep {w w' : World} {S : Nat → Prop} {v : Value} {l : List Sp} (h : SetV w v l) (k : Keep w w' S) (hS : ∀ g, v.ownBlock = some g → ¬ S g) : SetV w' v l := by
  rcases h with h | ⟨g, c, rfl, h⟩
  · exact .inl h
  · exact .inr ⟨g, c, rfl, h.keep k (hS g rfl)⟩
theorem SetV.lt {w : World} {v : Value} {l : List Sp} (h : SetV w v l) : ∀ g, v.ownBlock = some g → g < w.heap.size := by
  rcases h with ⟨rfl, _⟩ | ⟨g, c, rfl, h⟩
  · intro g hg; simp [Value.ownBlock] at hg
  · intro g' hg; simp [Value.ownBlock] at hg; subst hg; exact h.lt
/-- A set in memory: its block, its row. -/
def SetAt (w : World) (s : Nat) (v : Value) (l : List Sp) : Prop := w.heap[s]? = some (.cells #[v, .int .i64 100000] 96 (0, 0)) ∧ SetV w v l ∧ WF l ∧ l.length ≤ 100000
theorem SetAt.keep {w w' : World} {S : Nat → Prop} {s : Nat} {v : Value} {l : List Sp} (h : SetAt w s v l) (k : Keep w w' S) (hs : ¬ S s) (hS : ∀ g, v.ownBlock = some g → ¬ S g) : SetAt w' s v l :=
  ⟨(k.block s (heap_lt h.1) hs).trans h.1, h.2.1.keep k hS, h.2.2⟩
theorem SetAt.ne {w : World} {s g : Nat} {v : Value} {l : List Sp} (h : SetAt w s v l) (hg : v.ownBlock = some g) : g ≠ s := by
  rintro rfl
  rcases h.2.1 with ⟨rfl, _⟩ | ⟨g', c, rfl, cur, h1, _⟩
  · simp [Value.ownBlock] at hg
  · simp [Value.ownBlock] at hg
    subst hg
    have := h.1
    rw [h1] at this
    injection this with this
    injection this with _ e
    exact absurd e (by decide)
theorem searchV {w : World} (n : Int) {v : Value} {l : List Sp} (h : SetV w v l) (hl : WF l) (h1 : l.length ≤ 1000000) : Calls Try.prog 48 #[v, .int .i64 n, .func (.func 49) #[] #[]] w fun e w' =>
    (∃ b, e = .returned (.tuple #[.int .i64 (firstN n l), .bool b])) ∧ Below w.heap.size w w' := by
  rcases h with ⟨rfl, rfl⟩ | ⟨g, c, rfl, h⟩
  · exact search_nil w n
  · exact search_any w n hl h h1
theorem first_any {w : World} (n : Int) {s : Nat} {v : Value} {l : List Sp} (h : SetAt w s v l) : Calls Try.prog 44 #[.pointer (some ⟨s, 0, none⟩), .int .i64 n] w fun e w' =>
    e = .returned (.int .i64 (firstN n l)) ∧ Below w.heap.size w w' := by
  have hs := searchV n h.2.1 h.2.2.1 (by have := h.2.2.2; omega)
  obtain ⟨A, c, rfl⟩ := h.2.1.form
  have c0 : w.cell? ⟨s, 0, none⟩ = some (.slice A l.length c) := by rw [cell_of_row w s 0 _ _ _ h.1]; rfl
  clear h
  go_enter Try.func44, Try.ntmps44
  go_wp2_with (go_at_call 48; refine hs.mono ?_; rintro e w2 ⟨⟨b, rfl⟩, hb2⟩; have HB2 := Lib.hid hb2; clear hb2)
  go_ret
  exact ⟨rfl, HB2.out⟩
end Go.Proofs.Ytjnekjjaofabeaa
