/-
  The sending end: its sets and its bytes are turned; Write (f13).
-/
import Derived.Test.YtjnekjjaofabeaaOj
namespace Go.Proofs.Ytjnekjjaofabeaa
open Go.RowKit Go.Rh Rng

theorem SetAt.new_own {w w' : World} {s : Nat} {l : List Sp} {F1 : Nat → Prop} (h : SetIn (More F1 w) w' s l) : ∃ v, SetAt w' s v l ∧ ∀ k, v.ownBlock = some k → F1 k ∨ w.heap.size ≤ k := by
  obtain ⟨v, h1, h2, h3⟩ := h
  exact ⟨v, h1, h3⟩
/-- What is to be sent is turned. -/
theorem SndAt.todo {F : Nat → Prop} {w : World} {S : Nat} {s : Snd} (h : SndAt F w S s) : ∃ ct F1, w.cell? ⟨S, 1, none⟩ = some (.pointer (some ⟨ct, 0, none⟩)) ∧ SetIn F1 w ct s.todo ∧ (∀ i, F1 i → F i) ∧
    ∀ w' l', SetIn (More F1 w) w' ct l' → Keep w w' F1 → SndAt (More F w) w' S { s with todo := l' } := by
  obtain ⟨vb, ct, vt, cc, vc, h1, h2, h3, h4, f1, f2, f3, f4, f5, f6, n1, n2⟩ := h
  refine ⟨ct, fun k => k = ct ∨ vt.ownBlock = some k, by rw [cell_of_row w S _ _ _ _ h1]; rfl, ⟨vt, h3, .inl rfl, fun k hk => .inr hk⟩, fun i hi => by rcases hi with rfl | hi; exact f2; exact f5 i hi, fun w' l' hs hk => ?_⟩
  obtain ⟨v', hv, ho⟩ := SetAt.new_own hs
  have hd1 : ∀ k, (k = ct ∨ vt.ownBlock = some k) → ∃ cs t fr, w.heap[k]? = some (.cells cs t fr) ∧ (t = 96 ∨ t = 93) := by
    rintro k (rfl | hk)
    · exact ⟨_, _, _, h3.row, .inl rfl⟩
    · obtain ⟨cs, e⟩ := h3.2.1.row hk; exact ⟨_, _, _, e, .inr rfl⟩
  have hS : ¬ (S = ct ∨ vt.ownBlock = some S) := fun e => by
    obtain ⟨cs, t, fr, e1, e2⟩ := hd1 S e
    rcases e2 with rfl | rfl
    · exact block_ne h1 e1 (by decide) rfl
    · exact block_ne h1 e1 (by decide) rfl
  have hB : ∀ k, vb.ownBlock = some k → ¬ (k = ct ∨ vt.ownBlock = some k) := fun k hk e => by
    obtain ⟨cs, t, fr, e1, e2⟩ := hd1 k e
    obtain ⟨cs', fr', e3⟩ := own_row h2 hk
    rcases e2 with rfl | rfl
    · exact block_ne e3 e1 (by decide) rfl
    · exact block_ne e3 e1 (by decide) rfl
  have hC : ¬ (cc = ct ∨ vt.ownBlock = some cc) := fun e => by
    rcases e with e | e
    · exact n1 e.symm
    · obtain ⟨cs, e1⟩ := h3.2.1.row e; exact block_ne h4.row e1 (by decide) rfl
  have hV : ∀ k, vc.ownBlock = some k → ¬ (k = ct ∨ vt.ownBlock = some k) := fun k hkk e => by
    rcases e with rfl | e
    · obtain ⟨cs, e1⟩ := h4.2.1.row hkk; exact block_ne h3.row e1 (by decide) rfl
    · exact n2 k e hkk
  refine ⟨vb, ct, v', cc, vc, (hk.block S (heap_lt h1) hS).trans h1, h2.keep hk hB, hv, h4.keep hk hC hV, .inl f1, .inl f2, .inl f3, fun k e => .inl (f4 k e), fun k e => ?_, fun k e => .inl (f6 k e), n1, fun k e1 e2 => ?_⟩
  · rcases ho k e with (rfl | e) | e
    · exact .inl f2
    · exact .inl (f5 k e)
    · exact .inr e
  · rcases ho k e1 with e | e
    · exact hV k e2 e
    · exact absurd (h4.2.1.lt k e2) (by omega)
/-- What came is turned. -/
theorem SndAt.cameT {F : Nat → Prop} {w : World} {S : Nat} {s : Snd} (h : SndAt F w S s) : ∃ cc F1, w.cell? ⟨S, 2, none⟩ = some (.pointer (some ⟨cc, 0, none⟩)) ∧ SetIn F1 w cc s.came ∧ (∀ i, F1 i → F i) ∧
    ∀ w' l', SetIn (More F1 w) w' cc l' → Keep w w' F1 → SndAt (More F w) w' S { s with came := l' } := by
  obtain ⟨vb, ct, vt, cc, vc, h1, h2, h3, h4, f1, f2, f3, f4, f5, f6, n1, n2⟩ := h
  refine ⟨cc, fun k => k = cc ∨ vc.ownBlock = some k, by rw [cell_of_row w S _ _ _ _ h1]; rfl, ⟨vc, h4, .inl rfl, fun k hk => .inr hk⟩, fun i hi => by rcases hi with rfl | hi; exact f3; exact f6 i hi, fun w' l' hs hk => ?_⟩
  obtain ⟨v', hv, ho⟩ := SetAt.new_own hs
  have hd1 : ∀ k, (k = cc ∨ vc.ownBlock = some k) → ∃ cs t fr, w.heap[k]? = some (.cells cs t fr) ∧ (t = 96 ∨ t = 93) := by
    rintro k (rfl | hk)
    · exact ⟨_, _, _, h4.row, .inl rfl⟩
    · obtain ⟨cs, e⟩ := h4.2.1.row hk; exact ⟨_, _, _, e, .inr rfl⟩
  have hS : ¬ (S = cc ∨ vc.ownBlock = some S) := fun e => by
    obtain ⟨cs, t, fr, e1, e2⟩ := hd1 S e
    rcases e2 with rfl | rfl
    · exact block_ne h1 e1 (by decide) rfl
    · exact block_ne h1 e1 (by decide) rfl
  have hB : ∀ k, vb.ownBlock = some k → ¬ (k = cc ∨ vc.ownBlock = some k) := fun k hk e => by
    obtain ⟨cs, t, fr, e1, e2⟩ := hd1 k e
    obtain ⟨cs', fr', e3⟩ := own_row h2 hk
    rcases e2 with rfl | rfl
    · exact block_ne e3 e1 (by decide) rfl
    · exact block_ne e3 e1 (by decide) rfl
  have hC : ¬ (ct = cc ∨ vc.ownBlock = some ct) := fun e => by
    rcases e with e | e
    · exact n1 e
    · obtain ⟨cs, e1⟩ := h4.2.1.row e; exact block_ne h3.row e1 (by decide) rfl
  have hV : ∀ k, vt.ownBlock = some k → ¬ (k = cc ∨ vc.ownBlock = some k) := fun k hkk e => by
    rcases e with rfl | e
    · obtain ⟨cs, e1⟩ := h3.2.1.row hkk; exact block_ne h4.row e1 (by decide) rfl
    · exact n2 k hkk e
  refine ⟨vb, ct, vt, cc, v', (hk.block S (heap_lt h1) hS).trans h1, h2.keep hk hB, h3.keep hk hC hV, hv, .inl f1, .inl f2, .inl f3, fun k e => .inl (f4 k e), fun k e => .inl (f5 k e), fun k e => ?_, n1, fun k e1 e2 => ?_⟩
  · rcases ho k e with (rfl | e) | e
    · exact .inl f3
    · exact .inl (f6 k e)
    · exact .inr e
  · rcases ho k e2 with e | e
    · exact hV k e1 e
    · exact absurd (h3.2.1.lt k e1) (by omega)
/-- Its bytes are turned. -/
theorem SndAt.bytes {F : Nat → Prop} {w : World} {S : Nat} {s : Snd} (h : SndAt F w S s) : ∃ vb, w.cell? ⟨S, 0, none⟩ = some vb ∧ Rh.Own w 0 vb s.b ∧ (∀ k, vb.ownBlock = some k → F k ∧ k ≠ S) ∧
    ∀ w' v' b', Rh.Own w' 0 v' b' → Keep w w' (fun k => vb.ownBlock = some k) → (v'.ownBlock = vb.ownBlock ∨ v'.ownBlock = some w.heap.size) → SndAt (More F w) (w'.setCell ⟨S, 0, none⟩ v') S { s with b := b' } := by
  obtain ⟨vb, ct, vt, cc, vc, h1, h2, h3, h4, f1, f2, f3, f4, f5, f6, n1, n2⟩ := h
  refine ⟨vb, by rw [cell_of_row w S _ _ _ _ h1]; rfl, h2, fun k hk => ⟨f4 k hk, fun e => by obtain ⟨cs, fr, e'⟩ := own_row h2 hk; exact block_ne e' h1 (by decide) e⟩, fun w' v' b' ho hk ha => ?_⟩
  have r5 : ∀ k, vb.ownBlock = some k → ∃ cs fr, w.heap[k]? = some (.cells cs 5 fr) := fun k hk => own_row h2 hk
  have hS : w'.heap[S]? = _ := (hk.block S (heap_lt h1) (fun e => by obtain ⟨cs, fr, e'⟩ := r5 S e; exact block_ne h1 e' (by decide) rfl)).trans h1
  have h3' : SetAt w' ct vt s.todo := h3.keep hk (fun e => by obtain ⟨cs, fr, e'⟩ := r5 ct e; exact block_ne h3.row e' (by decide) rfl) (fun k e e2 => by obtain ⟨cs, fr, e'⟩ := r5 k e2; obtain ⟨cs', e1⟩ := h3.2.1.row e; exact block_ne e1 e' (by decide) rfl)
  have h4' : SetAt w' cc vc s.came := h4.keep hk (fun e => by obtain ⟨cs, fr, e'⟩ := r5 cc e; exact block_ne h4.row e' (by decide) rfl) (fun k e e2 => by obtain ⟨cs, fr, e'⟩ := r5 k e2; obtain ⟨cs', e1⟩ := h4.2.1.row e; exact block_ne e1 e' (by decide) rfl)
  have kp : Keep w' (w'.setCell ⟨S, 0, none⟩ v') (fun k => k = S) := Keep.setCell (S := fun k => k = S) (Keep.refl w' _) (.inr rfl) _
  have r5' : ∀ k, v'.ownBlock = some k → k ≠ S := fun k hk => by obtain ⟨cs, fr, e⟩ := own_row ho hk; exact block_ne e hS (by decide)
  refine ⟨v', ct, vt, cc, vc, set_block hS 0 v', ho.keep kp (fun k hk e => r5' k hk e), h3'.keep kp (fun e => block_ne h3'.row hS (by decide) e) (fun k hk e => by obtain ⟨cs, e'⟩ := h3'.2.1.row hk; exact block_ne e' hS (by decide) e), h4'.keep kp (fun e => block_ne h4'.row hS (by decide) e) (fun k hk e => by obtain ⟨cs, e'⟩ := h4'.2.1.row hk; exact block_ne e' hS (by decide) e), .inl f1, .inl f2, .inl f3, fun k e => ?_, fun k e => .inl (f5 k e), fun k e => .inl (f6 k e), n1, n2⟩
  rcases ha with e' | e'
  · exact .inl (f4 k (by rw [← e']; exact e))
  · rw [e'] at e; injection e with e; subst e; exact .inr (Nat.le_refl _)
end Go.Proofs.Ytjnekjjaofabeaa
