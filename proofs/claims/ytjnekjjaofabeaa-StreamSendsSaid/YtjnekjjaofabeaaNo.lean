/-
  Bounds of a set's ranges; an empty set (f42, f32); the ranges as they are (f51, f47).
-/
import Derived.Test.YtjnekjjaofabeaaNn
import Derived.WalkSpells
namespace Go.Proofs.Ytjnekjjaofabeaa
open Go.RowKit Go.Rh Rng

/-- All numbers lie from 0 to below N. -/
def InN (N : Int) (l : List Sp) : Prop := ∀ s ∈ l, 0 ≤ s.1 ∧ s.2 < N
theorem inN_len {N : Int} : ∀ {l : List Sp} {a : Int}, WF l → (∀ s ∈ l, a ≤ s.1 ∧ s.2 < N) → l ≠ [] → a + 2 * (l.length : Int) ≤ N + 1
  | [], _, _, _, h => absurd rfl h
  | s :: l, a, hw, hb, _ => by
    have h1 := hb s (by simp)
    have h2 := hw.1
    cases l with
    | nil => simp; omega
    | cons t l =>
      have := inN_len (N := N) (l := t :: l) (a := s.2 + 2) hw.2.2 (fun u hu => by have h3 := hw.2.1 u hu; have h4 := hb u (List.mem_cons_of_mem _ hu); omega) (by simp)
      simp only [List.length_cons] at this ⊢
      omega
theorem InN.len {N : Int} {l : List Sp} (hw : WF l) (h : InN N l) (hN : 0 ≤ N) : 2 * (l.length : Int) ≤ N + 1 := by
  by_cases h0 : l = []
  · subst h0; simp; omega
  · have := inN_len (a := 0) hw h h0; omega
theorem InN.addL {N a b : Int} {l : List Sp} (hw : WF l) (h : InN N l) (h0 : 0 ≤ a) (hab : a ≤ b) (hb : b < N) : InN N (addL a b l) := by
  intro s hs
  have hw2 := WF.addL hab hw
  have hle := hw2.le s hs
  have m1 : mem s.1 (Rng.addL a b l) := ⟨s, hs, Int.le_refl _, hle⟩
  have m2 : mem s.2 (Rng.addL a b l) := ⟨s, hs, hle, Int.le_refl _⟩
  rw [mem_addL hab hw] at m1 m2
  constructor
  · rcases m1 with ⟨t, ht, h1, h2⟩ | h1
    · have := h t ht; omega
    · omega
  · rcases m2 with ⟨t, ht, h1, h2⟩ | h1
    · have := h t ht; omega
    · omega
theorem InN.cutL {N a b : Int} {l : List Sp} (hw : WF l) (h : InN N l) (hab : a ≤ b) : InN N (cutL a b l) := by
  intro s hs
  have hw2 := WF.cutL hab hw
  have hle := hw2.le s hs
  have m1 : mem s.1 (Rng.cutL a b l) := ⟨s, hs, Int.le_refl _, hle⟩
  have m2 : mem s.2 (Rng.cutL a b l) := ⟨s, hs, hle, Int.le_refl _⟩
  rw [mem_cutL hab hw] at m1 m2
  obtain ⟨⟨t, ht, h1, h2⟩, _⟩ := m1
  obtain ⟨⟨u, hu, h3, h4⟩, _⟩ := m2
  have := h t ht; have := h u hu
  omega
theorem InN.mono {N M : Int} {l : List Sp} (h : InN N l) (hN : N ≤ M) : InN M l := fun s hs => by have := h s hs; omega
theorem InN.bd {N : Int} {l : List Sp} (h : InN N l) (hN : N ≤ 4611686018427387904) : Bd l := fun s hs => by have := h s hs; omega

theorem addN {F : Nat → Prop} {w : World} {s : Nat} {l : List Sp} {a b N : Int} (h : SetIn F w s l) (hb : InN N l) (hN : N ≤ 199998) (h0 : 0 ≤ a) (hab : a ≤ b) (hbN : b < N) :
    Calls Try.prog 36 #[.pointer (some ⟨s, 0, none⟩), .int .i64 a, .int .i64 b] w fun e w' =>
      e = .returned (.int .i64 0) ∧ SetIn (More F w) w' s (addL a b l) ∧ Keep w w' F := by
  have hw : WF l := by obtain ⟨v, h1, _⟩ := h; exact h1.2.2.1
  have hl := InN.len (WF.addL hab hw) (hb.addL hw h0 hab hbN) (by omega)
  exact add_any h hab (by omega) (by omega) (hb.bd (by omega)) (by omega)
theorem cutN {F : Nat → Prop} {w : World} {s : Nat} {l : List Sp} {a b N : Int} (h : SetIn F w s l) (hb : InN N l) (hN : N ≤ 199998) (h0 : 0 ≤ a) (hab : a ≤ b) (hbN : b < 4611686018427387904) (hN0 : 0 ≤ N) :
    Calls Try.prog 38 #[.pointer (some ⟨s, 0, none⟩), .int .i64 a, .int .i64 b] w fun e w' =>
      e = .returned (.int .i64 0) ∧ SetIn (More F w) w' s (cutL a b l) ∧ Keep w w' F := by
  obtain ⟨v, h1, h2, h3⟩ := h
  have hw : WF l := h1.2.2.1
  have hl := InN.len (WF.cutL hab hw) (hb.cutL hw hab) hN0
  refine (cut_at h1 hab (by omega) (by omega) (by omega)).mono ?_
  rintro e w' ⟨rfl, v', h4, h5, h6⟩
  refine ⟨rfl, ⟨v', h4, .inl h2, fun q hq => ?_⟩, h5.mono (fun i _ e => by rcases e with rfl | e; exact h2; exact h3 _ e)⟩
  rcases h6 with h6 | ⟨k, h6, h7⟩
  · exact .inl (h3 q (by rw [← h6]; exact hq))
  · rw [h6] at hq; injection hq with hq; subst hq; exact .inr h7

theorem new_any (w : World) : Calls Try.prog 42 #[.int .i64 100000] w fun e w' => e = .returned (.tuple #[.pointer (some ⟨w.heap.size, 0, none⟩), .int .i64 0]) ∧ w' = w.alloc (.cells #[.slice none 0 0, .int .i64 100000] 96) := by
  go_enter Try.func42, Try.ntmps42
  go_wp2
  go_ret2
  exact ⟨rfl, rfl⟩
theorem set_any (w : World) : Calls Try.prog 32 #[] w fun e w' => e = .returned (.pointer (some ⟨w.heap.size, 0, none⟩)) ∧ w' = w.alloc (.cells #[.slice none 0 0, .int .i64 100000] 96) := by
  go_enter Try.func32, Try.ntmps32
  go_wp2_with (go_at_call 42; refine (new_any _).mono ?_; rintro e w' ⟨rfl, rfl⟩)
  go_ret
  exact ⟨rfl, rfl⟩
theorem SetAt.fresh (w : World) : SetAt (w.alloc (.cells #[.slice none 0 0, .int .i64 100000] 96)) w.heap.size (.slice none 0 0) [] := ⟨heap_alloc_new w _, .inl ⟨rfl, rfl⟩, trivial, by simp⟩
theorem SetIn.fresh (w : World) : SetIn (fun k => k = w.heap.size) (w.alloc (.cells #[.slice none 0 0, .int .i64 100000] 96)) w.heap.size [] := ⟨_, SetAt.fresh w, rfl, fun k hk => by simp [Value.ownBlock] at hk⟩

/-- How many blocks a copy takes. -/
def cloneN : Value → List Sp → Nat
  | .slice none _ _, _ => 0
  | _, [] => 1
  | _, _ => 2
theorem run_append_empty {w : World} (ty : TypeId) (A B : Option Addr) (n i c : Nat) (h : n ≤ i) : (Builtin.append_ #[94, 94] ty #[.slice A n i, .slice B 0 c]).run Try.prog w = .ok (.slice A n i) w := by
  obtain ⟨i0, hi0, hz0, hzs, hzb⟩ := info_parts info93
  cases A <;> cases B <;> simp [Builtin.append_, run_underlying Try.underlying94, sizeOf, typeInfo, hi0, Builtin.lenOf, Builtin.firstCells, loadCells, loadCellsFrom, storeCells, hzs, h]
theorem run_append_fresh {w : World} (ty : TypeId) {l : List Sp} {A : Addr} {c k : Nat} (hk : w.heap[k]? = some (.cells #[] 93 (0, 0))) (hsrc : ∀ j u, (encS l)[j]? = some u → w.cell? (A.add j) = some u) (h0 : 0 < l.length) (hb : l.length ≤ 100000) :
    ∃ c', (Builtin.append_ #[94, 94] ty #[.slice (some ⟨k, 0, none⟩) 0 0, .slice (some A) l.length c]).run Try.prog w = .ok (.slice (some ⟨w.heap.size, 0, none⟩) l.length c') (w.drew.alloc (.cells ((encS l).toArray ++ Builtin.zeroCells (Value.agg #[.int .i64 0, .int .i64 0]).cells (c' - l.length)) 93)) ∧ l.length ≤ c' ∧ c' ≤ maxLen := by
  obtain ⟨i0, hi, hz, hs, hby⟩ := info_parts info93
  have hr := run_append_grow (P := Try.prog) w 94 ty 93 i0 _ Try.underlying94 hi hz ⟨k, 0, none⟩ 0 0 [] (by simp) (fun j u hu => by simp at hu) A l.length c (encS l) (by rw [hs, encS_length]) hsrc (by omega) (by omega) (growslice_fits (by omega) (by rw [hby]; omega))
  rw [Nat.zero_add, Array.empty_append] at hr
  exact ⟨_, hr, grownCap_ge w _ 0 93, grownCap_le_maxLen _ _ _ _ (by simp only [maxLen]; omega)⟩
theorem eqn94 (W : World) (a : Option Addr) (n c : Nat) : (binOp .eql 94 (.slice a n c) (.slice none 0 0)).run Try.prog W = .ok (.bool a.isNone) W := Lib.run_eql_slice_nil (P := Try.prog) W 94 93 a n c 0 0 Try.underlying94
set_option maxRecDepth 100000 in
theorem clone_any {w : World} {v : Value} {l : List Sp} (h : SetV w v l) (hb : l.length ≤ 100000) : Calls Try.prog 51 #[v] w fun e w' =>
    ∃ v', e = .returned v' ∧ SetV w' v' l ∧ Below w.heap.size w w' ∧ w'.heap.size = w.heap.size + cloneN v l ∧ ∀ k, v'.ownBlock = some k → w.heap.size ≤ k := by
  have heqn := eqn94
  rcases h with ⟨rfl, rfl⟩ | ⟨g, c, rfl, hr⟩
  · go_enter Try.func51, Try.ntmps51
    go_wp2
    go_ret
    exact ⟨_, rfl, .inl ⟨rfl, rfl⟩, Below.refl _ _, rfl, fun k hk => by simp [Value.ownBlock] at hk⟩
  · have hB : Below w.heap.size w (w.alloc (.cells #[] 93)) := (Below.refl _ w).alloc (Nat.le_refl _) _
    have hR := hr.keep (Keep.of_below hB (Nat.le_refl _) (fun _ => False)) id
    by_cases h0 : l.length = 0
    · have hl : l = [] := List.eq_nil_of_length_eq_zero h0
      subst hl
      have hap := fun (ty : TypeId) (W : World) => run_append_empty (w := W) ty (some ⟨w.heap.size, 0, none⟩) (some ⟨g, 0, none⟩) 0 0 c (Nat.le_refl _)
      clear hR hr
      go_enter Try.func51, Try.ntmps51
      go_wp2_with (at_builtin; refine Lib.wpList_append_run _ rfl _ _ _ _ rfl _ _ rfl rfl _ _ (hap _ _) ?_)
      go_ret
      exact ⟨_, rfl, .inr ⟨w.heap.size, 0, rfl, #[], heap_alloc_new w _, rfl, Nat.le_refl _, by decide, rfl⟩, hB, by simp [cloneN], fun k hk => by simp [Value.ownBlock] at hk; omega⟩
    · have hap := fun ty => run_append_fresh (w := w.alloc (.cells #[] 93)) ty (k := w.heap.size) (c := c) (heap_alloc_new w _) hR.src (by omega) hb
      obtain ⟨c', hap, hc1, hc2⟩ := hap 94
      have hrow := row_new93 (w := w.alloc (.cells #[] 93)) l c' hc1 hc2
      obtain ⟨n, hn⟩ : ∃ n, n = l.length := ⟨_, rfl⟩
      obtain ⟨W, hW⟩ : ∃ W, W = (w.alloc (.cells #[] 93)).drew.alloc (.cells ((encS l).toArray ++ Builtin.zeroCells (Value.agg #[.int .i64 0, .int .i64 0]).cells (c' - l.length)) 93) := ⟨_, rfl⟩
      have hB2 : Below w.heap.size w W := by rw [hW]; exact (hB.drew).alloc (by simp) _
      have hsz : W.heap.size = w.heap.size + 2 := by rw [hW]; simp
      rw [← hW] at hap hrow
      rw [World.size_alloc] at hap hrow
      have HROW := Lib.hid hrow
      have HB2 := Lib.hid hB2
      have HSZ := Lib.hid hsz
      have HN := Lib.hid hn
      have H0 := Lib.hid h0
      rw [← hn] at hap ⊢
      clear hR hr hrow hB2 hsz hW hn h0 hb hB hc1
      go_enter Try.func51, Try.ntmps51
      go_wp2_with (at_builtin; refine Lib.wpList_append_run _ rfl _ _ _ _ rfl _ _ rfl rfl _ _ hap ?_)
      go_ret
      refine ⟨.slice (some ⟨w.heap.size + 1, 0, none⟩) n c', rfl, .inr ⟨_, c', by rw [HN.out], HROW.out⟩, HB2.out, ?_, fun k hk => by simp [Value.ownBlock] at hk; omega⟩
      rw [HSZ.out]
      cases l with
      | nil => exact absurd rfl H0.out
      | cons a l => rfl
end Go.Proofs.Ytjnekjjaofabeaa
