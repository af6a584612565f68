/-
  StreamSends: the plain law, the refusals, both ends side by side, a piece put behind a row.
-/
import Derived.Test.YtjnekjjaofabeaaZy
import Derived.Test.YtjnekjjaofabeaaOv
import Derived.Test.YtjnekjjaofabeaaZf
namespace Go.Proofs.Ytjnekjjaofabeaa
open Go.RowKit Go.Rh Rng

theorem addAll_ok : ∀ (gs l : List Sp), (∀ g ∈ gs, g.1 ≤ g.2) → WF l → WF (addAll gs l) ∧ ∀ n, mem n (addAll gs l) ↔ mem n l ∨ mem n gs := by
  intro gs
  induction gs with
  | nil => intro l _ hw; exact ⟨hw, fun n => by simp [addAll, mem_nil]⟩
  | cons g gs ih =>
    intro l hg hw
    have h1 := hg g (by simp)
    obtain ⟨a, b⟩ := ih (addL g.1 g.2 l) (fun x hx => hg x (by simp [hx])) (WF.addL h1 hw)
    refine ⟨a, fun n => ?_⟩
    show mem n (addAll gs (addL g.1 g.2 l)) ↔ _
    rw [b n, mem_addL h1 hw, mem_cons, or_assoc]
theorem addAll_in {N : Int} : ∀ (gs l : List Sp), (∀ g ∈ gs, 0 ≤ g.1 ∧ g.1 ≤ g.2 ∧ g.2 < N) → WF l → InN N l → InN N (addAll gs l) := by
  intro gs
  induction gs with
  | nil => intro l _ _ h; exact h
  | cons g gs ih =>
    intro l hg hw h
    have h1 := hg g (by simp)
    exact ih _ (fun x hx => hg x (by simp [hx])) (WF.addL h1.2.1 hw) (h.addL hw h1.1 h1.2.1 h1.2.2)
theorem mem_bound {N : Int} {l : List Sp} (h : InN N l) {n : Int} (hm : mem n l) : 0 ≤ n ∧ n < N := by
  obtain ⟨s, hs, h1, h2⟩ := hm
  have := h s hs
  omega

structure Rel (s : Snd) (r : Rs) : Prop where
  data : r.data = s.b
  len : r.st.length = s.b.length
  wt : WF s.todo
  wc : WF s.came
  it : InN (s.b.length : Int) s.todo
  ic : InN (s.b.length : Int) s.came
  disj : ∀ n, mem n s.todo → ¬ mem n s.came
  z : ∀ j : Nat, j < s.b.length → (r.st.getD j 0 = 0 ↔ mem (j : Int) s.todo)
  t : ∀ j : Nat, j < s.b.length → (r.st.getD j 0 = 2 ↔ mem (j : Int) s.came)
  o : ∀ j : Nat, j < s.b.length → r.st.getD j 0 = 0 ∨ r.st.getD j 0 = 1 ∨ r.st.getD j 0 = 2
  limit : r.limit = s.limit
  lim0 : 0 ≤ s.limit ∧ s.limit ≤ 1099511627776
  top : r.top = s.top
  top0 : 0 ≤ s.top ∧ s.top ≤ (s.b.length : Int)
  closed : r.closed = s.closed
  told : r.told = s.endSent
  e0 : r.en = 0 ↔ s.endTodo = true
  e2 : r.en = 2 ↔ s.ends = true
  e3 : r.en = 3 ↔ s.closed = false
  en : r.en = 0 ∨ r.en = 1 ∨ r.en = 2 ∨ r.en = 3
  et : s.endSent = true → r.en ≠ 3

theorem Rel.new {n : Int} (h : 0 ≤ n ∧ n ≤ 1099511627776) : Rel (snew n) (refN n) :=
  ⟨rfl, rfl, trivial, trivial, fun x hx => by simp [snew] at hx, fun x hx => by simp [snew] at hx, fun n hn => absurd hn (mem_nil n), fun j hj => by simp [snew] at hj, fun j hj => by simp [snew] at hj, fun j hj => by simp [snew] at hj, rfl, h, rfl, ⟨Int.le_refl _, by simp [snew]⟩, rfl, rfl, by simp [snew, refN], by simp [snew, refN], by simp [snew, refN], .inr (.inr (.inr rfl)), by simp [snew]⟩
theorem Rel.sent {s : Snd} {r : Rs} (h : Rel s r) (off : Int) (d : List UInt8) (fin : Bool) : rsentB r off d fin = sentB s off d fin := by
  unfold rsentB sentB
  rw [h.data, h.top, h.told]
theorem Rel.close {s : Snd} {r : Rs} (h : Rel s r) (hc : s.closed = false) : Rel { s with closed := true, endTodo := true } { r with closed := true, en := 0 } := by
  have h3 := h.e3.2 hc
  refine ⟨h.data, h.len, h.wt, h.wc, h.it, h.ic, h.disj, h.z, h.t, h.o, h.limit, h.lim0, h.top, h.top0, rfl, h.told, by simp, ?_, by simp, .inl rfl, by simp⟩
  constructor
  · intro e; cases e
  · intro e
    have := h.e2.2 e
    omega
theorem Rel.allow {s : Snd} {r : Rs} (h : Rel s r) (n : Int) : Rel { s with limit := max s.limit (min n 1099511627776) } { r with limit := max r.limit (min n 1099511627776) } :=
  ⟨h.data, h.len, h.wt, h.wc, h.it, h.ic, h.disj, h.z, h.t, h.o, by simp only; rw [h.limit], by have := h.lim0; simp only; omega, h.top, h.top0, h.closed, h.told, h.e0, h.e2, h.e3, h.en, h.et⟩
theorem getD_app {l : List Int} {n j : Nat} (h : j < l.length + n) : (l ++ List.replicate n (0 : Int)).getD j 0 = if j < l.length then l.getD j 0 else 0 := by
  rw [List.getD_eq_getElem?_getD]
  by_cases e : j < l.length
  · rw [if_pos e, List.getElem?_append_left e, ← List.getD_eq_getElem?_getD]
  · rw [if_neg e, List.getElem?_append_right (by omega), List.getElem?_replicate, if_pos (by omega)]
    rfl
theorem Rel.write {s : Snd} {r : Rs} (h : Rel s r) (d : List UInt8) : Rel (writeS s d) { r with data := r.data ++ d, st := r.st ++ List.replicate d.length 0 } := by
  by_cases hd : d = []
  · subst hd
    have e1 : writeS s [] = s := by unfold writeS; simp
    rw [e1]
    simp only [List.append_nil, List.length_nil, List.replicate_zero]
    exact h
  · have hdl : 0 < d.length := List.length_pos_iff.2 hd
    have e1 : writeS s d = { s with b := s.b ++ d, todo := addL (s.b.length : Int) ((s.b.length : Int) + (d.length : Int) - 1) s.todo } := by unfold writeS; rw [if_neg hd]
    rw [e1]
    have hab : (s.b.length : Int) ≤ (s.b.length : Int) + (d.length : Int) - 1 := by omega
    have hm := fun n => mem_addL (n := n) hab h.wt
    have hl := h.len
    have ht0 := h.top0
    have hL : (s.b ++ d).length = s.b.length + d.length := List.length_append
    refine ⟨by simp only; rw [h.data], by simp only [List.length_append, List.length_replicate]; rw [hl], WF.addL hab h.wt, h.wc, ?_, ?_, ?_, ?_, ?_, ?_, h.limit, h.lim0, h.top, ?_, h.closed, h.told, h.e0, h.e2, h.e3, h.en, h.et⟩
    · simp only [hL]
      exact (h.it.mono (M := ((s.b.length + d.length : Nat) : Int)) (by omega)).addL h.wt (by omega) hab (by omega)
    · simp only [hL]
      exact h.ic.mono (by omega)
    · intro n hn
      rcases (hm n).1 hn with e | e
      · exact h.disj n e
      · intro e2
        have := mem_bound h.ic e2
        omega
    · intro j hj
      simp only [hL] at hj ⊢
      rw [getD_app (by rw [hl]; exact hj), hm]
      by_cases e : j < s.b.length
      · rw [if_pos (by rw [hl]; exact e), h.z j e]
        constructor
        · exact fun e => .inl e
        · rintro (e | e); exact e; omega
      · rw [if_neg (by rw [hl]; exact e)]
        exact ⟨fun _ => .inr (by omega), fun _ => rfl⟩
    · intro j hj
      simp only [hL] at hj ⊢
      rw [getD_app (by rw [hl]; exact hj)]
      by_cases e : j < s.b.length
      · rw [if_pos (by rw [hl]; exact e), h.t j e]
      · rw [if_neg (by rw [hl]; exact e)]
        constructor
        · intro e; cases e
        · intro e2
          have := mem_bound h.ic e2
          omega
    · intro j hj
      simp only [hL] at hj ⊢
      rw [getD_app (by rw [hl]; exact hj)]
      split
      · rename_i e; exact h.o j (by omega)
      · exact .inl rfl
    · simp only [hL]; omega
theorem Rel.done {s : Snd} {r : Rs} (h : Rel s r) : doneB s = rdone r := by
  have hg := gaps_all (a := 0) (b := (s.b.length : Int) - 1) h.wc
  have hl := h.len
  unfold doneB rdone
  rw [Bool.eq_iff_iff, Bool.and_eq_true, Bool.and_eq_true, Bool.and_eq_true, all_two, List.isEmpty_iff, decide_eq_true_eq]
  constructor
  · rintro ⟨h1, h2⟩
    refine ⟨fun j hj => ?_, ?_, h.e2.2 h1⟩
    · rw [h.t j (by omega)]
      have := hg.1 (j : Int)
      rw [h2] at this
      apply Classical.byContradiction
      intro hn
      exact mem_nil _ (this.2 ⟨by omega, hn⟩)
    · have := h.e2.2 h1
      rw [h.closed]
      cases hc : s.closed with
      | true => rfl
      | false => have := h.e3.2 hc; omega
  · rintro ⟨h1, h2, h3⟩
    refine ⟨h.e2.1 h3, ?_⟩
    cases hgg : gaps 0 ((s.b.length : Int) - 1) s.came with
    | nil => rfl
    | cons g gs =>
      exfalso
      have hb := hg.2.1 g (by rw [hgg]; simp)
      have hm : mem g.1 (gaps 0 ((s.b.length : Int) - 1) s.came) := ⟨g, by rw [hgg]; simp, Int.le_refl _, hb.1⟩
      have hm2 := (hg.1 g.1).1 hm
      have := h1 g.1.toNat (by omega)
      rw [h.t _ (by omega), Int.toNat_of_nonneg (by omega)] at this
      exact hm2.2 this
theorem Rel.lost {s : Snd} {r : Rs} (h : Rel s r) {a : Nat} {d : List UInt8} {fin : Bool} (hs : sentB s (a : Int) d fin = true) : Rel (lostS s (a : Int) d fin) (rlost r a d.length fin) := by
  unfold sentB at hs
  rw [decide_eq_true_eq] at hs
  obtain ⟨-, h1, h2, -, h4⟩ := hs
  have hg := gaps_all (a := (a : Int)) (b := (a : Int) + (d.length : Int) - 1) h.wc
  have ht0 := h.top0
  have hl := h.len
  obtain ⟨aw, am⟩ := addAll_ok (gaps (a : Int) ((a : Int) + (d.length : Int) - 1) s.came) s.todo (fun g hgm => (hg.2.1 g hgm).1) h.wt
  have hen : ∀ b : Bool, b = (fin && !s.ends) → ((if fin = true ∧ r.en = 1 then (0 : Int) else r.en) = 0 ↔ (s.endTodo || b) = true) := by
    intro b hb
    rw [hb]
    have e0 := h.e0
    have e2 := h.e2
    have e3 := h.e3
    have en := h.en
    cases hf : fin with
    | false => simp; exact e0
    | true =>
      have het := h.et (h4 hf).1
      cases h5 : s.ends with
      | true =>
        have := e2.2 h5
        rw [if_neg (by omega)]
        simp; exact e0
      | false =>
        have hne : ¬ r.en = 2 := fun e => by have := e2.1 e; rw [h5] at this; cases this
        simp
        omega
  refine ⟨h.data, by unfold rlost lostS; simp only [lostL_length]; exact hl, aw, h.wc, ?_, h.ic, ?_, ?_, ?_, ?_, h.limit, h.lim0, h.top, h.top0, h.closed, h.told, hen _ rfl, ?_, ?_, ?_, ?_⟩
  · exact addAll_in (N := (s.b.length : Int)) _ _ (fun g hgm => by have := hg.2.1 g hgm; omega) h.wt h.it
  · intro n hn
    rcases (am n).1 hn with e | e
    · exact h.disj n e
    · exact ((hg.1 n).1 e).2
  · intro j hj
    have hj' : j < s.b.length := hj
    show (lostL r.st a d.length).getD j 0 = 0 ↔ mem (j : Int) (addAll _ s.todo)
    rw [lostL_getD (by omega), am, hg.1]
    have hz := h.z j hj'
    have ht := h.t j hj'
    have ho := h.o j hj'
    by_cases e : a ≤ j ∧ j < a + d.length ∧ r.st.getD j 0 = 1
    · rw [if_pos e]
      exact ⟨fun _ => .inr ⟨by omega, fun hm => by have := ht.2 hm; omega⟩, fun _ => rfl⟩
    · rw [if_neg e, hz]
      constructor
      · exact fun e => .inl e
      · rintro (e2 | ⟨e2, e3⟩)
        · exact e2
        · rw [← hz]
          rcases ho with ho | ho | ho
          · exact ho
          · exact absurd ⟨by omega, by omega, ho⟩ e
          · exact absurd (ht.1 ho) e3
  · intro j hj
    have hj' : j < s.b.length := hj
    show (lostL r.st a d.length).getD j 0 = 2 ↔ mem (j : Int) s.came
    rw [lostL_getD (by omega), ← h.t j hj']
    split
    · rename_i e; omega
    · exact Iff.rfl
  · intro j hj
    have hj' : j < s.b.length := hj
    show (lostL r.st a d.length).getD j 0 = 0 ∨ (lostL r.st a d.length).getD j 0 = 1 ∨ (lostL r.st a d.length).getD j 0 = 2
    rw [lostL_getD (by omega)]
    split
    · exact .inl rfl
    · exact h.o j hj'
  · show (if fin = true ∧ r.en = 1 then (0 : Int) else r.en) = 2 ↔ s.ends = true
    rw [← h.e2]
    split
    · rename_i e; omega
    · exact Iff.rfl
  · show (if fin = true ∧ r.en = 1 then (0 : Int) else r.en) = 3 ↔ s.closed = false
    rw [← h.e3]
    split
    · rename_i e; omega
    · exact Iff.rfl
  · show (if fin = true ∧ r.en = 1 then (0 : Int) else r.en) = 0 ∨ (if fin = true ∧ r.en = 1 then (0 : Int) else r.en) = 1 ∨ (if fin = true ∧ r.en = 1 then (0 : Int) else r.en) = 2 ∨ (if fin = true ∧ r.en = 1 then (0 : Int) else r.en) = 3
    split
    · exact .inl rfl
    · exact h.en
  · show s.endSent = true → (if fin = true ∧ r.en = 1 then (0 : Int) else r.en) ≠ 3
    intro e
    have := h.et e
    split
    · omega
    · exact this
theorem Rel.came {s : Snd} {r : Rs} (h : Rel s r) {a : Nat} {d : List UInt8} {fin : Bool} (hs : sentB s (a : Int) d fin = true) : Rel (cameS s (a : Int) d fin) (rcame r a d.length fin) := by
  unfold sentB at hs
  rw [decide_eq_true_eq] at hs
  obtain ⟨-, h1, h2, -, h4⟩ := hs
  have ht0 := h.top0
  have hl := h.len
  -- the bytes
  have hD : Rel (cameD s (a : Int) d) { r with st := cameL r.st a d.length } := by
    by_cases hd : d = []
    · subst hd
      have e1 : cameD s (a : Int) [] = s := by unfold cameD; rw [if_pos rfl]
      rw [e1]
      simp only [List.length_nil, cameL_zero]
      exact h
    · have hdl : 0 < d.length := List.length_pos_iff.2 hd
      have e1 : cameD s (a : Int) d = { s with came := addL (a : Int) ((a : Int) + (d.length : Int) - 1) s.came, todo := cutL (a : Int) ((a : Int) + (d.length : Int) - 1) s.todo } := by unfold cameD; rw [if_neg hd]
      rw [e1]
      have hab : (a : Int) ≤ (a : Int) + (d.length : Int) - 1 := by omega
      have hmc := fun n => mem_addL (n := n) hab h.wc
      have hmt := fun n => mem_cutL (n := n) hab h.wt
      refine ⟨h.data, by simp only [cameL_length]; exact hl, WF.cutL hab h.wt, WF.addL hab h.wc, h.it.cutL h.wt hab, InN.addL (N := (s.b.length : Int)) h.wc h.ic (by omega) hab (by omega), ?_, ?_, ?_, ?_, h.limit, h.lim0, h.top, h.top0, h.closed, h.told, h.e0, h.e2, h.e3, h.en, h.et⟩
      · intro n hn
        obtain ⟨g1, g2⟩ := (hmt n).1 hn
        intro e
        rcases (hmc n).1 e with e | e
        · exact h.disj n g1 e
        · exact g2 e
      · intro j hj
        have hj' : j < s.b.length := hj
        show (cameL r.st a d.length).getD j 0 = 0 ↔ mem (j : Int) (cutL _ _ s.todo)
        rw [cameL_getD (by omega), hmt, ← h.z j hj']
        split
        · rename_i e
          constructor
          · intro e2; cases e2
          · rintro ⟨_, e2⟩; exact absurd (show (a : Int) ≤ (j : Int) ∧ (j : Int) ≤ (a : Int) + (d.length : Int) - 1 by omega) e2
        · rename_i e
          exact ⟨fun e2 => ⟨e2, by omega⟩, fun e2 => e2.1⟩
      · intro j hj
        have hj' : j < s.b.length := hj
        show (cameL r.st a d.length).getD j 0 = 2 ↔ mem (j : Int) (addL _ _ s.came)
        rw [cameL_getD (by omega), hmc, ← h.t j hj']
        split
        · rename_i e
          exact ⟨fun _ => .inr (by omega), fun _ => rfl⟩
        · rename_i e
          constructor
          · exact fun e2 => .inl e2
          · rintro (e2 | e2)
            · exact e2
            · omega
      · intro j hj
        have hj' : j < s.b.length := hj
        show (cameL r.st a d.length).getD j 0 = 0 ∨ (cameL r.st a d.length).getD j 0 = 1 ∨ (cameL r.st a d.length).getD j 0 = 2
        rw [cameL_getD (by omega)]
        split
        · exact .inr (.inr rfl)
        · exact h.o j hj'
  cases fin with
  | false =>
    have e1 : cameS s (a : Int) d false = cameD s (a : Int) d := by unfold cameS; simp
    have e2 : rcame r a d.length false = { r with st := cameL r.st a d.length } := by unfold rcame; simp
    rw [e1, e2]
    exact hD
  | true =>
    have e1 : cameS s (a : Int) d true = { cameD s (a : Int) d with ends := true, endTodo := false } := by unfold cameS; simp
    have e2 : rcame r a d.length true = { r with st := cameL r.st a d.length, en := 2 } := by unfold rcame; simp
    have hcl : s.closed = true := by
      have het := h.et (h4 rfl).1
      cases hc : s.closed with
      | true => rfl
      | false => exact absurd (h.e3.2 hc) het
    have hcd : (cameD s (a : Int) d).closed = true := by unfold cameD; split <;> exact hcl
    rw [e1, e2]
    exact ⟨hD.data, hD.len, hD.wt, hD.wc, hD.it, hD.ic, hD.disj, hD.z, hD.t, hD.o, hD.limit, hD.lim0, hD.top, hD.top0, hD.closed, hD.told, by simp, by simp, by simp [hcd], .inr (.inr (.inl rfl)), by simp⟩
end Go.Proofs.Ytjnekjjaofabeaa
namespace Go.Proofs.Ytjnekjjaofabeaa
open Go.RowKit Go.Rh Rng

theorem finS_b (s : Snd) (off : Int) (n : Nat) : (finS s off n).b = s.b ∧ (finS s off n).todo = s.todo ∧ (finS s off n).came = s.came ∧ (finS s off n).limit = s.limit ∧ (finS s off n).top = s.top ∧ (finS s off n).closed = s.closed ∧ (finS s off n).ends = s.ends := by
  unfold finS; split <;> exact ⟨rfl, rfl, rfl, rfl, rfl, rfl, rfl⟩
/-- The end is sent, if it is to be, and the piece goes there. -/
theorem Rel.fin {s : Snd} {r : Rs} (h : Rel s r) {off : Int} {n : Nat} {c : Prop} [Decidable c] (hc : c ↔ off + (n : Int) = (s.b.length : Int)) :
    Rel (finS s off n) { r with en := if c ∧ r.en = 0 then 1 else r.en, told := if c ∧ r.en = 0 then true else r.told } ∧ finF s off n = decide (c ∧ r.en = 0) := by
  have hf : finF s off n = decide (c ∧ r.en = 0) := by
    unfold finF
    rw [Bool.eq_iff_iff, Bool.and_eq_true, decide_eq_true_eq, decide_eq_true_eq, hc, h.e0]
    exact and_comm
  refine ⟨?_, hf⟩
  unfold finS
  rw [hf]
  by_cases e : c ∧ r.en = 0
  · rw [if_pos (decide_eq_true e), if_pos e, if_pos e]
    have het := h.e0.1 e.2
    have hcl : s.closed = true := by
      cases hc : s.closed with
      | true => rfl
      | false => have := h.e3.2 hc; omega
    have hends : s.ends = false := by
      cases hc : s.ends with
      | false => rfl
      | true => have := h.e2.2 hc; omega
    exact ⟨h.data, h.len, h.wt, h.wc, h.it, h.ic, h.disj, h.z, h.t, h.o, h.limit, h.lim0, h.top, h.top0, h.closed, rfl, by simp, by simp [hends], by simp [hcl], .inr (.inl rfl), by simp⟩
  · rw [if_neg (by simpa using e), if_neg e, if_neg e]
    exact h
theorem Rel.next {s : Snd} {r r' : Rs} {most : Int} {out : Value} (h : Rel s r) (hm : 1 ≤ most) (hn : RNext r most out r') : out = (nextR s most).1 ∧ Rel (nextR s most).2 r' := by
  have hl := h.len
  have hlim := h.limit
  have hl0 := h.lim0
  have ht0 := h.top0
  -- nothing is left to be sent, or it may not be
  have hend : (∀ out r', ((r.en = 0 ∧ (r.data.length : Int) ≤ r.limit ∧ out = .tuple #[.agg #[.int .i64 (r.data.length : Int), .string ⟨#[]⟩, .bool true], .bool true] ∧ r' = { r with en := 1, told := true }) ∨
      (¬ (r.en = 0 ∧ (r.data.length : Int) ≤ r.limit) ∧ out = rnone ∧ r' = r)) → out = (nextEnd s).1 ∧ Rel (nextEnd s).2 r') := by
    intro out r' hh
    rcases hh with ⟨h1, h2, rfl, rfl⟩ | ⟨h1, rfl, rfl⟩
    · have het := h.e0.1 h1
      rw [h.data, hlim] at h2
      obtain ⟨f1, f2⟩ := h.fin (off := (s.b.length : Int)) (n := 0) (c := True) (by simp)
      rw [if_pos ⟨trivial, h1⟩, if_pos ⟨trivial, h1⟩] at f1
      rw [decide_eq_true ⟨trivial, h1⟩] at f2
      unfold nextEnd
      rw [if_neg (by rintro (e | e); rw [het] at e; cases e; omega), f2, h.data]
      rw [h.data] at f1
      exact ⟨rfl, f1⟩
    · unfold nextEnd
      rw [if_pos (by
        rw [h.data, hlim] at h1
        cases het : s.endTodo with
        | false => exact .inl rfl
        | true => have := h.e0.2 het; exact .inr (by omega))]
      exact ⟨rfl, h⟩
  rcases hn with ⟨h1, _⟩ | ⟨_, i, hi, hall, hil, hrest⟩
  · omega
  cases htd : s.todo with
  | nil =>
    have hR : nextR s most = nextEnd s := by unfold nextR; rw [htd]
    rw [hR]
    rcases hrest with ⟨h1, h2, h3, _⟩ | ⟨_, h2⟩
    · have := (h.z i (by omega)).1 h3
      rw [htd] at this
      exact absurd this (mem_nil _)
    · exact hend _ _ h2
  | cons x rest =>
    have hwt := h.wt
    rw [htd] at hwt
    have hxi := h.it x (by rw [htd]; simp)
    have hx12 := hwt.1
    obtain ⟨z, hz⟩ : ∃ z : Nat, x.1 = (z : Int) := ⟨x.1.toNat, by omega⟩
    obtain ⟨e, he⟩ : ∃ e : Nat, x.2 + 1 = (e : Int) := ⟨(x.2 + 1).toNat, by omega⟩
    have hmem : ∀ n : Int, mem n s.todo ↔ (x.1 ≤ n ∧ n ≤ x.2) ∨ mem n rest := fun n => by rw [htd]; exact mem_cons n x rest
    have hin : ∀ j : Nat, z ≤ j → j < e → r.st.getD j 0 = 0 := fun j h1 h2 => (h.z j (by omega)).2 ((hmem _).2 (.inl (by omega)))
    have hbelow : ∀ j : Nat, j < z → r.st.getD j 0 ≠ 0 := fun j h1 e0 => by
      rcases (hmem _).1 ((h.z j (by omega)).1 e0) with g | ⟨t, ht, g1, g2⟩
      · omega
      · have := hwt.2.1 t ht; omega
    have hbehind : e < s.b.length → r.st.getD e 0 ≠ 0 := fun h1 e0 => by
      rcases (hmem _).1 ((h.z e h1).1 e0) with g | ⟨t, ht, g1, g2⟩
      · omega
      · have := hwt.2.1 t ht; omega
    by_cases hlz : s.limit ≤ x.1
    · have hR : nextR s most = nextEnd s := by unfold nextR; rw [htd]; exact if_pos (by unfold nextE; omega)
      rw [hR]
      rcases hrest with ⟨h1, h2, h3, _⟩ | ⟨_, h2⟩
      · exact absurd h3 (hbelow i (by omega))
      · exact hend _ _ h2
    · have hiz : i = z := by
        rcases Nat.lt_trichotomy i z with g | g | g
        · rcases hrest with ⟨h1, h2, h3, _⟩ | ⟨h1, _⟩
          · exact absurd h3 (hbelow i g)
          · omega
        · exact g
        · exact absurd (hin z (Nat.le_refl _) (by omega)) (hall z g)
      subst hiz
      rcases hrest with ⟨h1, h2, h3, k, k1, k2, k3, k4, k5, k6, hout, hr'⟩ | ⟨h1, _⟩
      · have hke : k ≤ e := by
          apply Classical.byContradiction
          intro g
          exact hbehind (by omega) (k5 e (by omega) (by omega))
        have hE : nextE s x most = (k : Int) := by
          have : k = e ∨ r.limit ≤ (k : Int) ∨ most ≤ (k : Int) - (i : Int) := by
            rcases k6 with g | g | g | g
            · left; omega
            · exact .inr (.inl g)
            · exact .inr (.inr g)
            · left
              apply Classical.byContradiction
              intro g2
              exact g (hin k (by omega) (by omega))
          unfold nextE
          rw [hlim] at this k3
          omega
        have hD : nextD s x most = (s.b.drop i).take (k - i) := by
          unfold nextD
          rw [hE, hz, Int.toNat_natCast, show ((k : Int) - (i : Int)).toNat = k - i by omega]
        have hDl : (nextD s x most).length = k - i := by rw [hD, List.length_take, List.length_drop]; omega
        have hS : nextS s x most = { s with todo := cutL (i : Int) ((k : Int) - 1) s.todo, top := max s.top (k : Int) } := by unfold nextS; rw [hE, hz]
        have hab : (i : Int) ≤ (k : Int) - 1 := by omega
        have hmt := fun n => mem_cutL (n := n) hab h.wt
        have hRS : Rel (nextS s x most) { r with st := markL r.st i k, top := max r.top (k : Int) } := by
          rw [hS]
          refine ⟨h.data, by simp only [markL_length]; exact hl, WF.cutL hab h.wt, h.wc, h.it.cutL h.wt hab, h.ic, fun n hn => h.disj n ((hmt n).1 hn).1, ?_, ?_, ?_, h.limit, h.lim0, by simp only; rw [h.top], by show 0 ≤ max s.top (k : Int) ∧ max s.top (k : Int) ≤ (s.b.length : Int); omega, h.closed, h.told, h.e0, h.e2, h.e3, h.en, h.et⟩
          · intro j hj
            have hj' : j < s.b.length := hj
            show (markL r.st i k).getD j 0 = 0 ↔ mem (j : Int) (cutL _ _ s.todo)
            rw [markL_getD (by omega), hmt, ← h.z j hj']
            split
            · rename_i g
              constructor
              · intro g2; cases g2
              · rintro ⟨_, g2⟩; exact absurd (show (i : Int) ≤ (j : Int) ∧ (j : Int) ≤ (k : Int) - 1 by omega) g2
            · rename_i g
              exact ⟨fun g2 => ⟨g2, by omega⟩, fun g2 => g2.1⟩
          · intro j hj
            have hj' : j < s.b.length := hj
            show (markL r.st i k).getD j 0 = 2 ↔ mem (j : Int) s.came
            rw [markL_getD (by omega), ← h.t j hj']
            split
            · rename_i g
              have := k5 j g.1 g.2
              constructor
              · intro g2; cases g2
              · intro g2; rw [this] at g2; cases g2
            · exact Iff.rfl
          · intro j hj
            have hj' : j < s.b.length := hj
            show (markL r.st i k).getD j 0 = 0 ∨ (markL r.st i k).getD j 0 = 1 ∨ (markL r.st i k).getD j 0 = 2
            rw [markL_getD (by omega)]
            split
            · exact .inr (.inl rfl)
            · exact h.o j hj'
        have hbS : (nextS s x most).b = s.b := rfl
        obtain ⟨f1, f2⟩ := hRS.fin (off := x.1) (n := k - i) (c := k = r.st.length) (by rw [hbS, hz, hl]; omega)
        have hR : nextR s most = (.tuple #[.agg #[.int .i64 x.1, .string (S8 (nextD s x most)), .bool (finF (nextS s x most) x.1 (nextD s x most).length)], .bool true], finS (nextS s x most) x.1 (nextD s x most).length) := by
          unfold nextR; rw [htd]; exact if_neg (by rw [hE]; omega)
        rw [hR, hDl, f2, hD, hout, hr', h.data, hz]
        rw [hz] at f1
        exact ⟨rfl, f1⟩
      · omega
end Go.Proofs.Ytjnekjjaofabeaa
namespace Go.Proofs.Ytjnekjjaofabeaa
open Go.RowKit Go.Rh Rng

theorem nobody_any (w : World) : Calls Try.prog 18 #[] w fun e w' => e = .returned (.pointer none) ∧ w' = w := by
  go_enter Try.func18, Try.ntmps18
  go_wp2_with fail
  go_ret
  exact ⟨rfl, rfl⟩
theorem allow_nil (w : World) (n : Int) : Calls Try.prog 17 #[.pointer none, .int .i64 n] w fun e w' => (∃ u, e = .returned u) ∧ w' = w := by
  go_enter Try.func17, Try.ntmps17
  go_wp2_with fail
  go_returns
  exact ⟨⟨_, rfl⟩, rfl⟩
theorem fresh_nil (w : World) : Calls Try.prog 16 #[.pointer none] w fun e w' => e = .returned (.int .i64 0) ∧ w' = w := by
  go_enter Try.func16, Try.ntmps16
  go_wp2_with fail
  go_ret
  exact ⟨rfl, rfl⟩
theorem write_nil (w : World) : Calls Try.prog 13 #[.pointer none, .slice none 0 0] w fun e w' => e = .returned (.int .i64 1) ∧ w' = w := by
  go_enter Try.func13, Try.ntmps13
  go_wp2_with fail
  go_ret
  exact ⟨rfl, rfl⟩
theorem write_no {F : Nat → Prop} {w : World} {S : Nat} {s : Snd} (h : SndAt F w S s) (hc : s.closed = true) (A : Option Addr) (n c : Nat) : Calls Try.prog 13 #[.pointer (some ⟨S, 0, none⟩), .slice A n c] w fun e w' => e = .returned (.int .i64 10) ∧ w' = w := by
  obtain ⟨c3, c4, c5, c6, c7, c8, cf⟩ := h.cells
  rw [hc] at c5
  clear h hc cf
  go_enter Try.func13, Try.ntmps13
  go_wp2_with fail
  go_ret
  exact ⟨rfl, rfl⟩
theorem close_no {F : Nat → Prop} {w : World} {S : Nat} {s : Snd} (h : SndAt F w S s) (hc : s.closed = true) : Calls Try.prog 14 #[.pointer (some ⟨S, 0, none⟩)] w fun e w' => e = .returned (.int .i64 10) ∧ w' = w := by
  obtain ⟨c3, c4, c5, c6, c7, c8, cf⟩ := h.cells
  rw [hc] at c5
  clear h hc cf
  go_enter Try.func14, Try.ntmps14
  go_wp2_with fail
  go_ret
  exact ⟨rfl, rfl⟩
theorem newsend_no (w : World) (n : Int) (h : n < 0 ∨ 1099511627776 < n) : Calls Try.prog 12 #[.int .i64 n] w fun e w' => e = .returned (.tuple #[.pointer none, .int .i64 1]) ∧ w' = w := by
  rcases h with h | h
  · go_enter Try.func12, Try.ntmps12
    go_wp2_with fail
    go_ret2
    exact ⟨rfl, rfl⟩
  · have h0 : ¬ n < 0 := by omega
    go_enter Try.func12, Try.ntmps12
    go_wp2_with fail
    go_ret2
    exact ⟨rfl, rfl⟩
theorem from_any (w : World) (off : Int) (d : ByteArray) (f : Bool) : Calls Try.prog 25 #[.agg #[.int .i64 off, .string d, .bool f]] w fun e w' => e = .returned (.agg #[.int .i64 off, .string d, .bool f]) ∧ Keep w w' (fun _ => False) := by
  obtain ⟨wx, hwx⟩ : ∃ wx, wx = (w.alloc (.cells #[.int .i64 off, .string d, .bool f] 34)).alloc (.cells #[.int .i64 0, .string ⟨#[]⟩, .bool false] 57) := ⟨_, rfl⟩
  obtain ⟨p, hp⟩ : ∃ p, p = w.heap.size := ⟨_, rfl⟩
  obtain ⟨p1, hp1⟩ : ∃ p1, p1 = w.heap.size + 1 := ⟨_, rfl⟩
  have kx : Keep w wx (fun _ => False) := by rw [hwx]; exact ((Keep.refl w _).alloc _).alloc _
  have m0 : wx.heap[p]? = some (.cells #[.int .i64 off, .string d, .bool f] 34 (0, 0)) := by rw [hwx, hp]; exact (heap2 _ _ _).1
  have m1 : wx.heap[p1]? = some (.cells #[.int .i64 0, .string ⟨#[]⟩, .bool false] 57 (0, 0)) := by rw [hwx, hp1]; exact (heap2 _ _ _).2
  have a0 : wx.cell? ⟨p, 0, none⟩ = some (.int .i64 off) := by rw [cell_of_row wx p 0 _ _ _ m0]; rfl
  have a1 : wx.cell? ⟨p, 1, none⟩ = some (.string d) := by rw [cell_of_row wx p 1 _ _ _ m0]; rfl
  have a2 : wx.cell? ⟨p, 2, none⟩ = some (.bool f) := by rw [cell_of_row wx p 2 _ _ _ m0]; rfl
  have x0 : wx.cell? ⟨p1, 0, none⟩ = some (.int .i64 0) := by rw [cell_of_row wx p1 0 _ _ _ m1]; rfl
  have x1 : wx.cell? ⟨p1, 1, none⟩ = some (.string ⟨#[]⟩) := by rw [cell_of_row wx p1 1 _ _ _ m1]; rfl
  have x2 : wx.cell? ⟨p1, 2, none⟩ = some (.bool false) := by rw [cell_of_row wx p1 2 _ _ _ m1]; rfl
  have z0 : wx.frozen? ⟨p1, 0, none⟩ = false := by simp [World.frozen?, m1]
  have z1 : wx.frozen? ⟨p1, 1, none⟩ = false := by simp [World.frozen?, m1]
  have z2 : wx.frozen? ⟨p1, 2, none⟩ = false := by simp [World.frozen?, m1]
  have HM := Lib.hid m1
  have HKX := Lib.hid kx
  have HP := Lib.hid hp1
  clear m0 m1 kx
  go_enter Try.func25, Try.ntmps25
  go_upto_region 1 with fail
  rw [← hwx, ← hp1, ← hp]
  clear hwx hp hp1
  go_wp2_with fail
  have hp1 := HP.out
  have hw : w.heap.size ≤ p1 := by omega
  refine bodyPost_ret (results_cell rfl _ rfl (run_loadV57 (set_block (set_block (set_block HM.out 0 (.int .i64 off)) 1 (.string d)) 2 (.bool f)))) rfl ⟨rfl, ?_⟩
  exact ((HKX.out.setCell (p := ⟨p1, 0, none⟩) (.inl hw) _).setCell (p := ⟨p1, 1, none⟩) (.inl hw) _).setCell (p := ⟨p1, 2, none⟩) (.inl hw) _
theorem to_any (w : World) (off : Int) (d : ByteArray) (f : Bool) : Calls Try.prog 26 #[.agg #[.int .i64 off, .string d, .bool f]] w fun e w' => e = .returned (.agg #[.int .i64 off, .string d, .bool f]) ∧ Keep w w' (fun _ => False) := by
  obtain ⟨wx, hwx⟩ : ∃ wx, wx = (w.alloc (.cells #[.int .i64 off, .string d, .bool f] 57)).alloc (.cells #[.int .i64 0, .string ⟨#[]⟩, .bool false] 34) := ⟨_, rfl⟩
  obtain ⟨p, hp⟩ : ∃ p, p = w.heap.size := ⟨_, rfl⟩
  obtain ⟨p1, hp1⟩ : ∃ p1, p1 = w.heap.size + 1 := ⟨_, rfl⟩
  have kx : Keep w wx (fun _ => False) := by rw [hwx]; exact ((Keep.refl w _).alloc _).alloc _
  have m0 : wx.heap[p]? = some (.cells #[.int .i64 off, .string d, .bool f] 57 (0, 0)) := by rw [hwx, hp]; exact (heap2 _ _ _).1
  have m1 : wx.heap[p1]? = some (.cells #[.int .i64 0, .string ⟨#[]⟩, .bool false] 34 (0, 0)) := by rw [hwx, hp1]; exact (heap2 _ _ _).2
  have a0 : wx.cell? ⟨p, 0, none⟩ = some (.int .i64 off) := by rw [cell_of_row wx p 0 _ _ _ m0]; rfl
  have a1 : wx.cell? ⟨p, 1, none⟩ = some (.string d) := by rw [cell_of_row wx p 1 _ _ _ m0]; rfl
  have a2 : wx.cell? ⟨p, 2, none⟩ = some (.bool f) := by rw [cell_of_row wx p 2 _ _ _ m0]; rfl
  have x0 : wx.cell? ⟨p1, 0, none⟩ = some (.int .i64 0) := by rw [cell_of_row wx p1 0 _ _ _ m1]; rfl
  have x1 : wx.cell? ⟨p1, 1, none⟩ = some (.string ⟨#[]⟩) := by rw [cell_of_row wx p1 1 _ _ _ m1]; rfl
  have x2 : wx.cell? ⟨p1, 2, none⟩ = some (.bool false) := by rw [cell_of_row wx p1 2 _ _ _ m1]; rfl
  have z0 : wx.frozen? ⟨p1, 0, none⟩ = false := by simp [World.frozen?, m1]
  have z1 : wx.frozen? ⟨p1, 1, none⟩ = false := by simp [World.frozen?, m1]
  have z2 : wx.frozen? ⟨p1, 2, none⟩ = false := by simp [World.frozen?, m1]
  have HM := Lib.hid m1
  have HKX := Lib.hid kx
  have HP := Lib.hid hp1
  clear m0 m1 kx
  go_enter Try.func26, Try.ntmps26
  go_upto_region 1 with fail
  rw [← hwx, ← hp1, ← hp]
  clear hwx hp hp1
  go_wp2_with fail
  have hp1 := HP.out
  have hw : w.heap.size ≤ p1 := by omega
  refine bodyPost_ret (results_cell rfl _ rfl (run_loadV34 (set_block (set_block (set_block HM.out 0 (.int .i64 off)) 1 (.string d)) 2 (.bool f)))) rfl ⟨rfl, ?_⟩
  exact ((HKX.out.setCell (p := ⟨p1, 0, none⟩) (.inl hw) _).setCell (p := ⟨p1, 1, none⟩) (.inl hw) _).setCell (p := ⟨p1, 2, none⟩) (.inl hw) _
/-- Next without an end, or of less than one byte. -/
theorem next_no {w : World} {P : Value} {most : Int} (hP : P = .pointer none ∨ (∃ S, P = .pointer (some ⟨S, 0, none⟩)) ∧ most < 1) : Calls Try.prog 15 #[P, .int .i64 most] w fun e w' =>
    e = .returned (.tuple #[.agg #[.int .i64 0, .string ⟨#[]⟩, .bool false], .bool false]) ∧ Keep w w' (fun _ => False) := by
  obtain ⟨p, hp⟩ : ∃ p, p = w.heap.size := ⟨_, rfl⟩
  obtain ⟨p1, hp1⟩ : ∃ p1, p1 = w.heap.size + 1 := ⟨_, rfl⟩
  obtain ⟨p2, hp2⟩ : ∃ p2, p2 = w.heap.size + 1 + 1 := ⟨_, rfl⟩
  obtain ⟨p3, hp3⟩ : ∃ p3, p3 = w.heap.size + 1 + 1 + 1 := ⟨_, rfl⟩
  obtain ⟨wx, hwx⟩ : ∃ wx, wx = (((w.alloc (.cells #[P] 40)).alloc (.cells #[.int .i64 most] 3)).alloc (.cells #[.int .i64 0, .string ⟨#[]⟩, .bool false] 34)).alloc (.cells #[.bool false] 4) := ⟨_, rfl⟩
  have kx : Keep w wx (fun _ => False) := by rw [hwx]; exact ((((Keep.refl w _).alloc _).alloc _).alloc _).alloc _
  have m0 : wx.heap[p]? = some (.cells #[P] 40 (0, 0)) := by rw [hwx, hp]; exact (heap4 _ _ _ _ _).1
  have m1 : wx.heap[p1]? = some (.cells #[.int .i64 most] 3 (0, 0)) := by rw [hwx, hp1]; exact (heap4 _ _ _ _ _).2.1
  have m2 : wx.heap[p2]? = some (.cells #[.int .i64 0, .string ⟨#[]⟩, .bool false] 34 (0, 0)) := by rw [hwx, hp2]; exact (heap4 _ _ _ _ _).2.2.1
  have m3 : wx.heap[p3]? = some (.cells #[.bool false] 4 (0, 0)) := by rw [hwx, hp3]; exact (heap4 _ _ _ _ _).2.2.2
  have a0 : wx.cell? ⟨p, 0, none⟩ = some P := by rw [cell_of_row wx p 0 _ _ _ m0]; rfl
  have a1 : wx.cell? ⟨p1, 0, none⟩ = some (.int .i64 most) := by rw [cell_of_row wx p1 0 _ _ _ m1]; rfl
  have x0 : wx.cell? ⟨p2, 0, none⟩ = some (.int .i64 0) := by rw [cell_of_row wx p2 0 _ _ _ m2]; rfl
  have x1 : wx.cell? ⟨p2, 1, none⟩ = some (.string ⟨#[]⟩) := by rw [cell_of_row wx p2 1 _ _ _ m2]; rfl
  have x2 : wx.cell? ⟨p2, 2, none⟩ = some (.bool false) := by rw [cell_of_row wx p2 2 _ _ _ m2]; rfl
  have x3 : wx.cell? ⟨p3, 0, none⟩ = some (.bool false) := by rw [cell_of_row wx p3 0 _ _ _ m3]; rfl
  have z0 : wx.frozen? ⟨p2, 0, none⟩ = false := by simp [World.frozen?, m2]
  have z1 : wx.frozen? ⟨p2, 1, none⟩ = false := by simp [World.frozen?, m2]
  have z2 : wx.frozen? ⟨p2, 2, none⟩ = false := by simp [World.frozen?, m2]
  have z3 : wx.frozen? ⟨p3, 0, none⟩ = false := by simp [World.frozen?, m3]
  have h23 : ¬ p2 = p3 := by omega
  have h32 : ¬ p3 = p2 := by omega
  have HM2 := Lib.hid m2
  have HM3 := Lib.hid m3
  have HKX := Lib.hid kx
  have HP := Lib.hid (show p2 = w.heap.size + 2 ∧ p3 = w.heap.size + 3 from ⟨hp2, hp3⟩)
  clear m0 m1 m2 m3 kx
  have hfin : ∀ W : World, W = (((wx.setCell ⟨p2, 0, none⟩ (.int .i64 0)).setCell ⟨p2, 1, none⟩ (.string ⟨#[]⟩)).setCell ⟨p2, 2, none⟩ (.bool false)).setCell ⟨p3, 0, none⟩ (.bool false) →
      (loadVar 34 ⟨p2, 0, none⟩).run Try.prog W = .ok (.agg #[.int .i64 0, .string ⟨#[]⟩, .bool false]) W ∧ (loadVar 4 ⟨p3, 0, none⟩).run Try.prog W = .ok (.bool false) W ∧ Keep w W (fun _ => False) := by
    intro W hW
    have hp := HP.out
    have g2 : w.heap.size ≤ p2 := by omega
    have g3 : w.heap.size ≤ p3 := by omega
    subst hW
    refine ⟨run_loadV34 ?_, run_loadV4 ?_, (((HKX.out.setCell (p := ⟨p2, 0, none⟩) (.inl g2) _).setCell (p := ⟨p2, 1, none⟩) (.inl g2) _).setCell (p := ⟨p2, 2, none⟩) (.inl g2) _).setCell (p := ⟨p3, 0, none⟩) (.inl g3) _⟩
    · rw [Below.heap_setCell _ _ _ p2 (by first | exact h23 | exact h32)]
      exact set_block (set_block (set_block HM2.out 0 _) 1 _) 2 _
    · refine set_block (cs := #[.bool false]) ?_ 0 (.bool false)
      rw [Below.heap_setCell _ _ _ p3 (by first | exact h23 | exact h32), Below.heap_setCell _ _ _ p3 (by first | exact h23 | exact h32), Below.heap_setCell _ _ _ p3 (by first | exact h23 | exact h32)]
      exact HM3.out
  have HFIN := Lib.hid hfin
  clear hfin
  refine (callsIn_wide (n := 9)).1 (callsIn_of_wp_marks Try.func15 rfl trivial (wpIn_wide.2 ?_) rfl)
  simp only [Try.ntmps15, List.size_toArray, List.length_cons, List.length_nil, Nat.reduceAdd, Nat.reduceSub, Array.replicate_succ, Array.replicate_zero, List.push_toArray, List.append_toArray, List.nil_append, List.cons_append]
  rcases hP with rfl | ⟨⟨S, rfl⟩, hm⟩
  all_goals
    go_upto_region 1 with fail
    rw [← hwx, ← hp3, ← hp2, ← hp1, ← hp]
    clear hwx hp hp1 hp2 hp3
    go_wp2_with fail
    obtain ⟨l1, l2, l3⟩ := HFIN.out _ rfl
    exact leave_noneW (results_cell2 rfl _ rfl rfl l1 l2) ⟨rfl, l3⟩
end Go.Proofs.Ytjnekjjaofabeaa
namespace Go.Proofs.Ytjnekjjaofabeaa
open Go.RowKit Go.Rh Rng

structure Pc where
  off : Int
  d : List UInt8
  fin : Bool
def Pc.cells (p : Pc) : List Value := [.int .i64 p.off, .string (S8 p.d), .bool p.fin]
def flatP (L : List Pc) : List Value := L.flatMap Pc.cells
theorem flatP_length (L : List Pc) : (flatP L).length = L.length * 3 := by
  induction L with
  | nil => rfl
  | cons a L ih => simp only [flatP, List.flatMap_cons, List.length_append, List.length_cons] at ih ⊢; rw [ih]; simp [Pc.cells]; omega
theorem flatP_snoc (L : List Pc) (p : Pc) : flatP (L ++ [p]) = flatP L ++ p.cells := by simp [flatP]
theorem flatP_at : ∀ {L : List Pc} {j : Nat} {p : Pc}, L[j]? = some p → (flatP L)[j * 3]? = some (.int .i64 p.off) ∧ (flatP L)[j * 3 + 1]? = some (.string (S8 p.d)) ∧ (flatP L)[j * 3 + 2]? = some (.bool p.fin)
  | [], j, p, h => by simp at h
  | a :: L, 0, p, h => by
    have : a = p := by simpa using h
    subst this
    exact ⟨rfl, rfl, rfl⟩
  | a :: L, j + 1, p, h => by
    have h' : L[j]? = some p := by simpa using h
    obtain ⟨h1, h2, h3⟩ := flatP_at h'
    have e : ∀ i, (flatP (a :: L))[(j + 1) * 3 + i]? = (flatP L)[j * 3 + i]? := fun i => by
      show (a.cells ++ flatP L)[_]? = _
      rw [List.getElem?_append_right (by simp [Pc.cells]; omega)]
      congr 1
      simp [Pc.cells]; omega
    exact ⟨(e 0).trans h1, (e 1).trans h2, (e 2).trans h3⟩
structure St3 (B : Nat) (W : World) (S R : Nat) (hv : Value) (s : Snd) (r : Rs) (L : List Pc) (F1 F2 : Nat → Prop) : Prop where
  sn : SndAt F1 W S s
  rf : RefAt F2 W R r
  hd : W.ownsRow B 57 3 hv L.length (flatP L)
  b1 : ∀ k, F1 k → B ≤ k ∧ k < W.heap.size
  b2 : ∀ k, F2 k → B ≤ k ∧ k < W.heap.size
  d12 : ∀ k, F1 k → ¬ F2 k
  dh : ∀ k, hv.ownBlock = some k → ¬ F1 k ∧ ¬ F2 k
theorem St3.keep {B : Nat} {W W' : World} {S R : Nat} {hv : Value} {s : Snd} {r : Rs} {L : List Pc} {F1 F2 T : Nat → Prop} (h : St3 B W S R hv s r L F1 F2) (k : Keep W W' T) (h1 : ∀ i, i < W.heap.size → T i → ¬ F1 i ∧ ¬ F2 i ∧ ¬ hv.ownBlock = some i) : St3 B W' S R hv s r L F1 F2 := by
  have hz := k.size
  refine ⟨h.sn.keep k (fun i hi e => (h1 i (h.b1 i hi).2 e).1 hi), h.rf.keep k (fun i hi e => (h1 i (h.b2 i hi).2 e).2.1 hi), ⟨h.hd.1, ?_⟩, fun i hi => ⟨(h.b1 i hi).1, Nat.lt_of_lt_of_le (h.b1 i hi).2 hz⟩, fun i hi => ⟨(h.b2 i hi).1, Nat.lt_of_lt_of_le (h.b2 i hi).2 hz⟩, h.d12, h.dh⟩
  rcases h.hd.2 with hn | ⟨g, cap, cur, rfl, hb, hgg, rest⟩
  · exact .inl hn
  · exact .inr ⟨g, cap, cur, rfl, hb, (k.block g (heap_lt hgg) (fun e => (h1 g (heap_lt hgg) e).2.2 rfl)).trans hgg, rest⟩
/-- A call of the sending end. -/
theorem St3.snd2 {B : Nat} {W W' : World} {S R : Nat} {hv : Value} {s s' : Snd} {r : Rs} {L : List Pc} {F1 F2 : Nat → Prop} (h : St3 B W S R hv s r L F1 F2) (hB : B ≤ W.heap.size) (hs : SndAt (More F1 W) W' S s') (k : Keep W W' F1) : ∃ F1', St3 B W' S R hv s' r L F1' F2 ∧ ∀ i, i < W.heap.size → F1' i → F1 i := by
  have hz := k.size
  refine ⟨fun i => (F1 i ∨ W.heap.size ≤ i) ∧ i < W'.heap.size, ⟨hs.mono (fun i hi e => ⟨e, hi⟩), h.rf.keep k (fun i hi e => h.d12 i e hi), ⟨h.hd.1, ?_⟩, fun i hi => ⟨?_, hi.2⟩, fun i hi => ⟨(h.b2 i hi).1, Nat.lt_of_lt_of_le (h.b2 i hi).2 hz⟩, fun i hi e => ?_, fun i hi => ⟨fun e => ?_, (h.dh i hi).2⟩⟩, fun i hi e => e.1.resolve_right (by omega)⟩
  · rcases h.hd.2 with hn | ⟨g, cap, cur, rfl, hb, hgg, rest⟩
    · exact .inl hn
    · exact .inr ⟨g, cap, cur, rfl, hb, (k.block g (heap_lt hgg) (fun e => (h.dh g rfl).1 e)).trans hgg, rest⟩
  · rcases hi.1 with e | e
    · exact (h.b1 i e).1
    · omega
  · rcases hi.1 with e2 | e2
    · exact h.d12 i e2 e
    · have := (h.b2 i e).2; omega
  · rcases e.1 with e2 | e2
    · exact (h.dh i hi).1 e2
    · have := (h.hd.lt i hi).2; omega
/-- A call of the document's. -/
theorem St3.ref2 {B : Nat} {W W' : World} {S R : Nat} {hv : Value} {s : Snd} {r r' : Rs} {L : List Pc} {F1 F2 : Nat → Prop} (h : St3 B W S R hv s r L F1 F2) (hB : B ≤ W.heap.size) (hs : RefAt (More F2 W) W' R r') (k : Keep W W' F2) : ∃ F2', St3 B W' S R hv s r' L F1 F2' ∧ ∀ i, i < W.heap.size → F2' i → F2 i := by
  have hz := k.size
  refine ⟨fun i => (F2 i ∨ W.heap.size ≤ i) ∧ i < W'.heap.size, ⟨h.sn.keep k (fun i hi e => h.d12 i hi e), hs.mono (fun i hi e => ⟨e, hi⟩), ⟨h.hd.1, ?_⟩, fun i hi => ⟨(h.b1 i hi).1, Nat.lt_of_lt_of_le (h.b1 i hi).2 hz⟩, fun i hi => ⟨?_, hi.2⟩, fun i hi e => ?_, fun i hi => ⟨(h.dh i hi).1, fun e => ?_⟩⟩, fun i hi e => e.1.resolve_right (by omega)⟩
  · rcases h.hd.2 with hn | ⟨g, cap, cur, rfl, hb, hgg, rest⟩
    · exact .inl hn
    · exact .inr ⟨g, cap, cur, rfl, hb, (k.block g (heap_lt hgg) (fun e => (h.dh g rfl).2 e)).trans hgg, rest⟩
  · rcases hi.1 with e | e
    · exact (h.b2 i e).1
    · omega
  · rcases e.1 with e2 | e2
    · exact h.d12 i hi e2
    · have := (h.b1 i hi).2; omega
  · rcases e.1 with e2 | e2
    · exact (h.dh i hi).2 e2
    · have := (h.hd.lt i hi).2; omega
theorem St3.snd {B : Nat} {W W' : World} {S R : Nat} {hv : Value} {s s' : Snd} {r : Rs} {L : List Pc} {F1 F2 : Nat → Prop} (h : St3 B W S R hv s r L F1 F2) (hB : B ≤ W.heap.size) (hs : SndAt (More F1 W) W' S s') (k : Keep W W' F1) : ∃ F1', St3 B W' S R hv s' r L F1' F2 := by
  obtain ⟨F, h1, _⟩ := h.snd2 hB hs k
  exact ⟨F, h1⟩
theorem St3.ref {B : Nat} {W W' : World} {S R : Nat} {hv : Value} {s : Snd} {r r' : Rs} {L : List Pc} {F1 F2 : Nat → Prop} (h : St3 B W S R hv s r L F1 F2) (hB : B ≤ W.heap.size) (hs : RefAt (More F2 W) W' R r') (k : Keep W W' F2) : ∃ F2', St3 B W' S R hv s r' L F1 F2' := by
  obtain ⟨F, h1, _⟩ := h.ref2 hB hs k
  exact ⟨F, h1⟩
/-- A piece is put behind the row. -/
theorem St3.had {B : Nat} {W W' : World} {S R : Nat} {hv hv' : Value} {s : Snd} {r : Rs} {L L' : List Pc} {F1 F2 : Nat → Prop} (h : St3 B W S R hv s r L F1 F2) (hr : W'.ownsRow B 57 3 hv' L'.length (flatP L')) (hg : W.grownBy W' hv.ownBlock) (ha : hv'.ownBlock = hv.ownBlock ∨ ∀ k, hv'.ownBlock = some k → W.heap.size ≤ k) : St3 B W' S R hv' s r L' F1 F2 := by
  have hz := hg.size
  have k : Keep W W' (fun i => hv.ownBlock = some i) := Keep.of_grown (S := fun i => hv.ownBlock = some i) hg (fun i _ e => e)
  refine ⟨h.sn.keep k (fun i hi e => (h.dh i e).1 hi), h.rf.keep k (fun i hi e => (h.dh i e).2 hi), hr, fun i hi => ⟨(h.b1 i hi).1, Nat.lt_of_lt_of_le (h.b1 i hi).2 hz⟩, fun i hi => ⟨(h.b2 i hi).1, Nat.lt_of_lt_of_le (h.b2 i hi).2 hz⟩, h.d12, fun i hi => ?_⟩
  rcases ha with e | e
  · exact h.dh i (by rw [← e]; exact hi)
  · have := e i hi
    exact ⟨fun e2 => by have := (h.b1 i e2).2; omega, fun e2 => by have := (h.b2 i e2).2; omega⟩
theorem St3.below {B : Nat} {W W' : World} {S R : Nat} {hv : Value} {s : Snd} {r : Rs} {L : List Pc} {F1 F2 T : Nat → Prop} (h : St3 B W S R hv s r L F1 F2) (hB : B ≤ W.heap.size) (k : Keep W W' T) (hT : ∀ i, T i → F1 i ∨ F2 i ∨ hv.ownBlock = some i) : Below B W W' :=
  k.below hB (fun i hi e => by
    rcases hT i e with e | e | e
    · have := (h.b1 i e).1; omega
    · have := (h.b2 i e).1; omega
    · have := (h.hd.lt i e).1; omega)

structure Ph where
  what : Int
  N : Int
  data : List UInt8
  raw : Bool
  p : Pc
def Ph.cells (v : Ph) : Array Value := #[.int .i64 v.what, .int .i64 v.N, .string (S8 v.data), .bool v.raw, .int .i64 v.p.off, .string (S8 v.p.d), .bool v.p.fin]
theorem run_load59 {w : World} {b o : Nat} {v : Ph} (h : ∀ i, i < 7 → w.cell? ⟨b, o + i, none⟩ = v.cells[i]?) : (Instr.loadAt 59 (.pointer (some ⟨b, o, none⟩))).run Try.prog w = .ok (.agg v.cells) w := by
  have c0 : w.cell? ⟨b, o, none⟩ = some (.int .i64 v.what) := h 0 (by omega)
  have c1 : w.cell? ⟨b, o + 1, none⟩ = some (.int .i64 v.N) := h 1 (by omega)
  have c2 : w.cell? ⟨b, o + 2, none⟩ = some (.string (S8 v.data)) := h 2 (by omega)
  have c3 : w.cell? ⟨b, o + 3, none⟩ = some (.bool v.raw) := h 3 (by omega)
  have c4 : w.cell? ⟨b, o + 4, none⟩ = some (.int .i64 v.p.off) := h 4 (by omega)
  have c5 : w.cell? ⟨b, o + 5, none⟩ = some (.string (S8 v.p.d)) := h 5 (by omega)
  have c6 : w.cell? ⟨b, o + 6, none⟩ = some (.bool v.p.fin) := h 6 (by omega)
  clear h
  unfold Ph.cells
  go_simp
end Go.Proofs.Ytjnekjjaofabeaa
namespace Go.Proofs.Ytjnekjjaofabeaa
open Go.RowKit Go.Rh Rng

section
variable {B : Nat} {w W : World} {S R : Nat} {hv : Value} {s s' : Snd} {r r' : Rs} {L : List Pc} {F1 F2 : Nat → Prop} {f : Nat} {args : Array Value} {v : Value}
theorem St3.callA (h : St3 B W S R hv s r L F1 F2) (hb : Below B w W) (hB : B ≤ W.heap.size) (hc : Calls Try.prog f args W fun e w' => e = .returned v ∧ SndAt (More F1 W) w' S s' ∧ Keep W w' F1) :
    Calls Try.prog f args W fun e w' => e = .returned v ∧ Below B w w' ∧ (∃ F1', St3 B w' S R hv s' r L F1' F2) ∧ Keep W w' F1 := by
  refine hc.mono ?_
  rintro e w' ⟨h1, h2, h3⟩
  obtain ⟨F1', h4⟩ := h.snd hB h2 h3
  exact ⟨h1, hb.trans (h.below hB h3 (fun i e => .inl e)), ⟨F1', h4⟩, h3⟩
theorem St3.callB (h : St3 B W S R hv s r L F1 F2) (hb : Below B w W) (hB : B ≤ W.heap.size) (hc : Calls Try.prog f args W fun e w' => e = .returned v ∧ RefAt (More F2 W) w' R r' ∧ Keep W w' F2) :
    Calls Try.prog f args W fun e w' => e = .returned v ∧ Below B w w' ∧ (∃ F2', St3 B w' S R hv s r' L F1 F2') ∧ Keep W w' F2 := by
  refine hc.mono ?_
  rintro e w' ⟨h1, h2, h3⟩
  obtain ⟨F2', h4⟩ := h.ref hB h2 h3
  exact ⟨h1, hb.trans (h.below hB h3 (fun i e => .inr (.inl e))), ⟨F2', h4⟩, h3⟩
end
/-- A call of the sending end from any world where the two ends stand so: it answers `v`, the ends then are `s'`, `r`; what is not theirs stays. -/
def OpA (B : Nat) (w : World) (S R : Nat) (s s' : Snd) (r : Rs) (L : List Pc) (f : Nat) (args : Array Value) (v : Value) : Prop :=
  ∀ W hv F1 F2, St3 B W S R hv s r L F1 F2 → Below B w W → B ≤ W.heap.size → Calls Try.prog f args W fun e w' => e = .returned v ∧ Below B w w' ∧ (∃ F1', St3 B w' S R hv s' r L F1' F2) ∧ Keep W w' F1
def OpB (B : Nat) (w : World) (S R : Nat) (s : Snd) (r r' : Rs) (L : List Pc) (f : Nat) (args : Array Value) (v : Value) : Prop :=
  ∀ W hv F1 F2, St3 B W S R hv s r L F1 F2 → Below B w W → B ≤ W.heap.size → Calls Try.prog f args W fun e w' => e = .returned v ∧ Below B w w' ∧ (∃ F2', St3 B w' S R hv s r' L F1 F2') ∧ Keep W w' F2
section
variable {B : Nat} {w : World} {S R : Nat} {s : Snd} {r : Rs} {L : List Pc}
theorem st_close (hR : Rel s r) : ∃ e s' r', Rel s' r' ∧ s'.b = s.b ∧ OpA B w S R s s' r L 14 #[.pointer (some ⟨S, 0, none⟩)] (.int .i64 e) ∧ OpB B w S R s' r r' L 23 #[.pointer (some ⟨R, 0, none⟩)] (.int .i64 e) := by
  cases hc : s.closed with
  | false =>
    refine ⟨0, _, _, hR.close hc, rfl, fun W hv F1 F2 h hb hB => h.callA hb hB ((close_any h.sn hc).mono ?_), fun W hv F1 F2 h hb hB => h.callB hb hB ((refclose_any h.rf (by rw [hR.closed, hc])).mono ?_)⟩
    · rintro e w' ⟨h1, h2, h3⟩; exact ⟨h1, h2.mono (fun i _ e => .inl e), h3⟩
    · rintro e w' ⟨h1, h2, h3⟩; exact ⟨h1, h2.mono (fun i _ e => .inl e), h3⟩
  | true =>
    refine ⟨10, s, r, hR, rfl, fun W hv F1 F2 h hb hB => h.callA hb hB ((close_no h.sn hc).mono ?_), fun W hv F1 F2 h hb hB => h.callB hb hB ((refclose_no h.rf (by rw [hR.closed, hc])).mono ?_)⟩
    · rintro e w' ⟨h1, rfl⟩; exact ⟨h1, h.sn.mono (fun i _ e => .inl e), Keep.refl _ _⟩
    · rintro e w' ⟨h1, rfl⟩; exact ⟨h1, h.rf.mono (fun i _ e => .inl e), Keep.refl _ _⟩
theorem st_done (hR : Rel s r) (hb : s.b.length ≤ 199998) : ∃ v, OpA B w S R s s r L 19 #[.pointer (some ⟨S, 0, none⟩)] (.bool v) ∧ OpB B w S R s r r L 30 #[.pointer (some ⟨R, 0, none⟩)] (.bool v) := by
  refine ⟨doneB s, fun W hv F1 F2 h hb2 hB => h.callA hb2 hB ((done_any h.sn hb hR.ic).mono ?_), fun W hv F1 F2 h hb2 hB => h.callB hb2 hB ((refdone_any h.rf (by rw [hR.len]; exact hb)).mono ?_)⟩
  · rintro e w' ⟨h1, h2⟩; exact ⟨h1, (h.sn.keep h2 (fun _ _ => id)).mono (fun i _ e => .inl e), h2.mono (fun _ _ e => e.elim)⟩
  · rintro e w' ⟨h1, rfl⟩; exact ⟨by rw [h1, hR.done], h.rf.mono (fun i _ e => .inl e), Keep.refl _ _⟩
theorem st_lost (hR : Rel s r) (hb : s.b.length ≤ 199998) (p : Pc) : ∃ e s' r', Rel s' r' ∧ s'.b = s.b ∧ OpA B w S R s s' r L 20 #[.pointer (some ⟨S, 0, none⟩), .agg #[.int .i64 p.off, .string (S8 p.d), .bool p.fin]] (.int .i64 e) ∧
    OpB B w S R s' r r' L 27 #[.pointer (some ⟨R, 0, none⟩), .agg #[.int .i64 p.off, .string (S8 p.d), .bool p.fin]] (.int .i64 e) := by
  have hrd : r.data.length ≤ 199998 := by rw [hR.data]; exact hb
  have hrt : 0 ≤ r.top ∧ r.top ≤ (r.data.length : Int) := by rw [hR.data, hR.top]; exact hR.top0
  have hst : r.st.length = r.data.length := by rw [hR.len, hR.data]
  cases hs : sentB s p.off p.d p.fin with
  | false =>
    refine ⟨1, s, r, hR, rfl, fun W hv F1 F2 h hb2 hB => h.callA hb2 hB ((lost_no h.sn hb hR.top0 p.off p.d p.fin hs).mono ?_), fun W hv F1 F2 h hb2 hB => h.callB hb2 hB ((reflost_no h.rf hrd hrt p.off p.d p.fin (by rw [hR.sent, hs])).mono ?_)⟩
    · rintro e w' ⟨h1, h2⟩; exact ⟨h1, (h.sn.keep h2 (fun _ _ => id)).mono (fun i _ e => .inl e), h2.mono (fun _ _ e => e.elim)⟩
    · rintro e w' ⟨h1, h2⟩; exact ⟨h1, (h.rf.keep h2 (fun _ _ => id)).mono (fun i _ e => .inl e), h2.mono (fun _ _ e => e.elim)⟩
  | true =>
    obtain ⟨a, ha⟩ : ∃ a : Nat, p.off = (a : Int) := ⟨p.off.toNat, by unfold sentB at hs; rw [decide_eq_true_eq] at hs; have := hs.1; omega⟩
    rw [ha] at hs ⊢
    refine ⟨0, _, _, hR.lost hs, rfl, fun W hv F1 F2 h hb2 hB => h.callA hb2 hB (lost_any h.sn hb hR.top0 hR.it hR.ic (a : Int) p.d p.fin hs), fun W hv F1 F2 h hb2 hB => h.callB hb2 hB ((reflost_any h.rf hrd hst hrt a p.d p.fin (by rw [hR.sent, hs])).mono ?_)⟩
    rintro e w' ⟨h1, h2, h3⟩; exact ⟨h1, h2.mono (fun i _ e => .inl e), h3⟩
theorem st_came (hR : Rel s r) (hb : s.b.length ≤ 199998) (p : Pc) : ∃ e s' r', Rel s' r' ∧ s'.b = s.b ∧ OpA B w S R s s' r L 28 #[.pointer (some ⟨S, 0, none⟩), .agg #[.int .i64 p.off, .string (S8 p.d), .bool p.fin]] (.int .i64 e) ∧
    OpB B w S R s' r r' L 29 #[.pointer (some ⟨R, 0, none⟩), .agg #[.int .i64 p.off, .string (S8 p.d), .bool p.fin]] (.int .i64 e) := by
  have hrd : r.data.length ≤ 199998 := by rw [hR.data]; exact hb
  have hrt : 0 ≤ r.top ∧ r.top ≤ (r.data.length : Int) := by rw [hR.data, hR.top]; exact hR.top0
  have hst : r.st.length = r.data.length := by rw [hR.len, hR.data]
  cases hs : sentB s p.off p.d p.fin with
  | false =>
    refine ⟨1, s, r, hR, rfl, fun W hv F1 F2 h hb2 hB => h.callA hb2 hB ((came_no h.sn hb hR.top0 p.off p.d p.fin hs).mono ?_), fun W hv F1 F2 h hb2 hB => h.callB hb2 hB ((refcame_no h.rf hrd hrt p.off p.d p.fin (by rw [hR.sent, hs])).mono ?_)⟩
    · rintro e w' ⟨h1, h2⟩; exact ⟨h1, (h.sn.keep h2 (fun _ _ => id)).mono (fun i _ e => .inl e), h2.mono (fun _ _ e => e.elim)⟩
    · rintro e w' ⟨h1, h2⟩; exact ⟨h1, (h.rf.keep h2 (fun _ _ => id)).mono (fun i _ e => .inl e), h2.mono (fun _ _ e => e.elim)⟩
  | true =>
    obtain ⟨a, ha⟩ : ∃ a : Nat, p.off = (a : Int) := ⟨p.off.toNat, by unfold sentB at hs; rw [decide_eq_true_eq] at hs; have := hs.1; omega⟩
    rw [ha] at hs ⊢
    refine ⟨0, _, _, hR.came hs, by unfold cameS cameD; split <;> split <;> rfl, fun W hv F1 F2 h hb2 hB => h.callA hb2 hB (came_any h.sn hb hR.top0 hR.it hR.ic (a : Int) p.d p.fin hs), fun W hv F1 F2 h hb2 hB => h.callB hb2 hB ((refcame_any h.rf hrd hst hrt a p.d p.fin (by rw [hR.sent, hs])).mono ?_)⟩
    rintro e w' ⟨h1, h2, h3⟩; exact ⟨h1, h2.mono (fun i _ e => .inl e), h3⟩
theorem nextR_b (s : Snd) (most : Int) : (nextR s most).2.b = s.b := by
  have he : (nextEnd s).2.b = s.b := by unfold nextEnd; split; rfl; exact (finS_b _ _ _).1
  unfold nextR
  split
  · exact he
  · split
    · exact he
    · exact (finS_b _ _ _).1
theorem nextR_form (s : Snd) (most : Int) : ∃ (p : Pc) (ok : Bool), (nextR s most).1 = .tuple #[.agg #[.int .i64 p.off, .string (S8 p.d), .bool p.fin], .bool ok] := by
  have hz : (⟨#[]⟩ : ByteArray) = S8 [] := rfl
  have he : ∃ (p : Pc) (ok : Bool), (nextEnd s).1 = .tuple #[.agg #[.int .i64 p.off, .string (S8 p.d), .bool p.fin], .bool ok] := by
    unfold nextEnd
    split
    · exact ⟨⟨0, [], false⟩, _, rfl⟩
    · exact ⟨⟨_, [], _⟩, _, rfl⟩
  unfold nextR
  split
  · exact he
  · split
    · exact he
    · exact ⟨⟨_, _, _⟩, _, rfl⟩
theorem st_next (hR : Rel s r) (hb : s.b.length ≤ 199998) {most : Int} (hm : most ≤ 9223372036854775807) : ∃ (p : Pc) (ok : Bool) (s' : Snd), s'.b = s.b ∧ OpA B w S R s s' r L 15 #[.pointer (some ⟨S, 0, none⟩), .int .i64 most] (.tuple #[.agg #[.int .i64 p.off, .string (S8 p.d), .bool p.fin], .bool ok]) ∧
    ∀ W hv F1 F2, St3 B W S R hv s' r L F1 F2 → Below B w W → B ≤ W.heap.size → Calls Try.prog 24 #[.pointer (some ⟨R, 0, none⟩), .int .i64 most] W fun e w' => e = .returned (.tuple #[.agg #[.int .i64 p.off, .string (S8 p.d), .bool p.fin], .bool ok]) ∧ Below B w w' ∧ (∃ r' F2', Rel s' r' ∧ St3 B w' S R hv s' r' L F1 F2') ∧ Keep W w' F2 := by
  have hrd : r.data.length ≤ 199998 := by rw [hR.data]; exact hb
  have hst : r.st.length = r.data.length := by rw [hR.len, hR.data]
  have hrl : 0 ≤ r.limit := by rw [hR.limit]; exact hR.lim0.1
  by_cases h1 : most < 1
  · refine ⟨⟨0, [], false⟩, false, s, rfl, fun W hv F1 F2 h hb2 hB => h.callA hb2 hB ((next_no (.inr ⟨⟨S, rfl⟩, h1⟩)).mono ?_), fun W hv F1 F2 h hb2 hB => (refnext_any h.rf hrd hst hrl most).mono ?_⟩
    · rintro e w' ⟨h1, h2⟩; exact ⟨h1, (h.sn.keep h2 (fun _ _ => id)).mono (fun i _ e => .inl e), h2.mono (fun _ _ e => e.elim)⟩
    · rintro e w' ⟨out, r', rfl, hn, h2, h3⟩
      rcases hn with ⟨_, rfl, rfl⟩ | ⟨h4, _⟩
      · obtain ⟨F2', h5⟩ := h.ref hB (h2.mono (fun i _ e => .inl e)) h3
        exact ⟨rfl, hb2.trans (h.below hB h3 (fun i e => .inr (.inl e))), ⟨_, F2', hR, h5⟩, h3⟩
      · omega
  · obtain ⟨p, ok, hf⟩ := nextR_form s most
    refine ⟨p, ok, (nextR s most).2, nextR_b s most, fun W hv F1 F2 h hb2 hB => h.callA hb2 hB ?_, fun W hv F1 F2 h hb2 hB => (refnext_any h.rf hrd hst hrl most).mono ?_⟩
    · rw [← hf]
      have ht := hR.top0
      exact next_any h.sn (by omega) hm hb hR.it hR.lim0 ⟨ht.1, by omega⟩
    · rintro e w' ⟨out, r', rfl, hn, h2, h3⟩
      obtain ⟨g1, g2⟩ := hR.next (by omega) hn
      obtain ⟨F2', h5⟩ := h.ref hB (h2.mono (fun i _ e => .inl e)) h3
      exact ⟨by rw [g1, hf], hb2.trans (h.below hB h3 (fun i e => .inr (.inl e))), ⟨_, F2', g2, h5⟩, h3⟩
theorem st_write (hR : Rel s r) (d : List UInt8) (hb : s.b.length + d.length ≤ 199998) : ∃ e s' r', Rel s' r' ∧ s'.b.length ≤ s.b.length + d.length ∧
    (∀ W hv F1 F2 A n c, St3 B W S R hv s r L F1 F2 → Below B w W → B ≤ W.heap.size → Bs (fun i => ¬ F1 i) W (.slice A n c) d → Calls Try.prog 13 #[.pointer (some ⟨S, 0, none⟩), .slice A n c] W fun e' w' => e' = .returned (.int .i64 e) ∧ Below B w w' ∧ (∃ F1', St3 B w' S R hv s' r L F1' F2 ∧ ∀ i, i < W.heap.size → F1' i → F1 i) ∧ Keep W w' F1) ∧
    ∀ W hv F1 F2, St3 B W S R hv s' r L F1 F2 → Below B w W → B ≤ W.heap.size → Calls Try.prog 22 #[.pointer (some ⟨R, 0, none⟩), .string (S8 d)] W fun e' w' => e' = .returned (.int .i64 e) ∧ Below B w w' ∧ (∃ F2', St3 B w' S R hv s' r' L F1 F2' ∧ ∀ i, i < W.heap.size → F2' i → F2 i) ∧ Keep W w' F2 := by
  have hst : r.st.length = r.data.length := by rw [hR.len, hR.data]
  cases hc : s.closed with
  | false =>
    refine ⟨0, writeS s d, _, hR.write d, by unfold writeS; simp only [List.length_append]; omega, fun W hv F1 F2 A n c h hb2 hB hx => (write_any h.sn hx hc hb hR.it).mono ?_, fun W hv F1 F2 h hb2 hB => (refwrite_any h.rf (by rw [hR.closed, hc]) d (by rw [hR.data]; omega) hst).mono ?_⟩
    · rintro e w' ⟨h1, h2, h3⟩
      exact ⟨h1, hb2.trans (h.below hB h3 (fun i e => .inl e)), h.snd2 hB h2 h3, h3⟩
    · rintro e w' ⟨h1, h2, h3⟩
      exact ⟨h1, hb2.trans (h.below hB h3 (fun i e => .inr (.inl e))), h.ref2 hB h2 h3, h3⟩
  | true =>
    refine ⟨10, s, r, hR, by omega, fun W hv F1 F2 A n c h hb2 hB hx => (write_no h.sn hc A n c).mono ?_, fun W hv F1 F2 h hb2 hB => (refwrite_no h.rf (by rw [hR.closed, hc]) (S8 d)).mono ?_⟩
    · rintro e w' ⟨h1, rfl⟩; exact ⟨h1, hb2, ⟨F1, h, fun _ _ e => e⟩, Keep.refl _ _⟩
    · rintro e w' ⟨h1, rfl⟩; exact ⟨h1, hb2, ⟨F2, h, fun _ _ e => e⟩, Keep.refl _ _⟩
theorem st_allow (hR : Rel s r) (n : Int) : ∃ s', s'.b = s.b ∧ Rel s' { r with limit := max r.limit (min n 1099511627776) } ∧ ∀ W hv F1 F2, St3 B W S R hv s r L F1 F2 → Below B w W → B ≤ W.heap.size → Calls Try.prog 17 #[.pointer (some ⟨S, 0, none⟩), .int .i64 n] W fun e w' => (∃ u, e = .returned u) ∧ Below B w w' ∧ (∃ F1', St3 B w' S R hv s' r L F1' F2) ∧ Keep W w' F1 := by
  refine ⟨{ s with limit := max s.limit (min n 1099511627776) }, rfl, hR.allow n, fun W hv F1 F2 h hb2 hB => (allow_any h.sn n).mono ?_⟩
  rintro e w' ⟨h1, h2, h3⟩
  obtain ⟨F1', h4⟩ := h.snd hB (h2.mono (fun i _ e => .inl e)) h3
  exact ⟨h1, hb2.trans (h.below hB h3 (fun i e => .inl e)), ⟨F1', h4⟩, h3⟩
end
end Go.Proofs.Ytjnekjjaofabeaa
namespace Go.Proofs.Ytjnekjjaofabeaa
open Go.RowKit Go.Rh Rng

theorem info57 : (Try.prog.info? 57).map (fun i => (i.zero, i.size, i.bytes)) = some (some (.agg #[.int .i64 0, .string ⟨#[]⟩, .bool false]), 3, 32) := by kernel_rfl
theorem append_pc {B : Nat} {W : World} {hv : Value} {L : List Pc} {p : Pc} {g : Nat} (h : W.ownsRow B 57 3 hv L.length (flatP L)) (hB : B ≤ W.heap.size) (hg : W.heap[g]? = some (.cells #[.int .i64 p.off, .string (S8 p.d), .bool p.fin] 57 (0, 0))) (hl : L.length ≤ 1000) :
    ∃ v' W', (∀ ty, (Builtin.append_ #[56, 56] ty #[hv, .slice (some ⟨g, 0, none⟩) 1 1]).run Try.prog W = .ok v' W') ∧ W'.ownsRow B 57 3 v' (L ++ [p]).length (flatP (L ++ [p])) ∧ W.grownBy W' hv.ownBlock ∧ (v'.ownBlock = hv.ownBlock ∨ ∀ k, v'.ownBlock = some k → W.heap.size ≤ k) := by
  obtain ⟨i, hi, hz, hsz, hby⟩ := info_parts info57
  have hnews : ∀ j u, p.cells[j]? = some u → W.cell? ((⟨g, 0, none⟩ : Addr).add j) = some u := by
    intro j u hu
    rw [Addr.add_lit, cell_of_row W g _ _ 57 (0, 0) hg]
    simpa [Pc.cells] using hu
  have h1 : ∀ u ∈ p.cells, u.oneCell' = true := by
    intro u hu
    simp [Pc.cells] at hu
    rcases hu with rfl | rfl | rfl <;> rfl
  have hpl : p.cells.length = 1 * 3 := rfl
  have hrun : ∀ ty, ∃ v' W', (Builtin.append_ #[56, 56] ty #[hv, .slice (some ⟨g, 0, none⟩) 1 1]).run Try.prog W = .ok v' W' ∧ W'.ownsRow B 57 3 v' (L.length + 1) (flatP L ++ p.cells) ∧ W.grownBy W' hv.ownBlock := by
    intro ty
    obtain ⟨v', W', a, b, c, _⟩ := run_append_own (P := Try.prog) W B 56 ty 57 i _ 3 32 Try.underlying56 hi hz hsz hby rfl (by decide) hv L.length (flatP L) h ⟨g, 0, none⟩ 1 1 p.cells hpl hnews h1 (by simp only [maxLen]; omega) (by omega) hB
    exact ⟨v', W', a, b, c⟩
  have key : ∃ v' W', (∀ ty, (Builtin.append_ #[56, 56] ty #[hv, .slice (some ⟨g, 0, none⟩) 1 1]).run Try.prog W = .ok v' W') ∧ (v'.ownBlock = hv.ownBlock ∨ ∀ k, v'.ownBlock = some k → W.heap.size ≤ k) := by
    rcases h.2 with ⟨rfl, h0⟩ | ⟨b, cap, cur, rfl, hb, hgm, g1, g2, g3, g4⟩
    · exact ⟨_, _, fun ty => run_append_nil (P := Try.prog) W 56 ty 57 i _ Try.underlying56 hi hz ⟨g, 0, none⟩ 1 1 p.cells (by rw [hsz]; rfl) hnews (by omega) (by omega) (by rw [hby]; omega), .inr (fun k hk => by simp [Value.ownBlock] at hk; omega)⟩
    · by_cases hroom : L.length + 1 ≤ cap
      · exact ⟨_, _, fun ty => run_append_room (P := Try.prog) W 56 ty 57 i Try.underlying56 hi b L.length cap cur hgm ⟨g, 0, none⟩ 1 1 p.cells (by rw [hsz]; rfl) hnews h1 hroom (by rw [hsz, g3, hpl]; omega), .inl rfl⟩
      · have holds : ∀ j u, (flatP L)[j]? = some u → W.cell? ((⟨b, 0, none⟩ : Addr).add j) = some u := h.cells (g := b) rfl
        exact ⟨_, _, fun ty => run_append_grow (P := Try.prog) W 56 ty 57 i _ Try.underlying56 hi hz ⟨b, 0, none⟩ L.length cap (flatP L) (by rw [hsz, flatP_length]) holds ⟨g, 0, none⟩ 1 1 p.cells (by rw [hsz]; rfl) hnews (by omega) (by omega) (growslice_fits (by omega) (by rw [hby]; omega)), .inr (fun k hk => by simp [Value.ownBlock] at hk; omega)⟩
  obtain ⟨v', W', hr, ha⟩ := key
  obtain ⟨v2, W2, a, b, c⟩ := hrun 0
  rw [hr 0] at a
  injection a with a1 a2
  subst a1
  subst a2
  refine ⟨v', W', hr, ?_, c, ha⟩
  rw [List.length_append, flatP_snoc]
  exact b
section
variable {B : Nat} {w W0 : World} {S R : Nat} {hv : Value} {s s' : Snd} {r r' : Rs} {L : List Pc} {F1 F2 : Nat → Prop} {f : Nat} {args : Array Value} {v : Value}
theorem St3.near (hs : St3 B W0 S R hv s r L F1 F2) (hb : Below B w W0) (hB : B ≤ W0.heap.size) {W : World} (k : Keep W0 W (fun _ => False)) : St3 B W S R hv s r L F1 F2 ∧ Below B w W ∧ B ≤ W.heap.size :=
  ⟨hs.keep k (fun i _ e => e.elim), hb.trans (k.below hB (fun _ _ e => e)), Nat.le_trans hB k.size⟩
theorem OpA.near (h : OpA B w S R s s' r L f args v) (hs : St3 B W0 S R hv s r L F1 F2) (hb : Below B w W0) (hB : B ≤ W0.heap.size) : ∀ W, Keep W0 W (fun _ => False) → Calls Try.prog f args W fun e w' => e = .returned v ∧ Below B w w' ∧ (∃ F1', St3 B w' S R hv s' r L F1' F2) ∧ Keep W0 w' F1 := fun W k => by
  obtain ⟨a, b, c⟩ := hs.near hb hB k
  refine (h W hv F1 F2 a b c).mono ?_
  rintro e w' ⟨h1, h2, h3, h4⟩
  exact ⟨h1, h2, h3, (k.mono (fun _ _ e => e.elim)).trans h4 (fun _ _ e => e)⟩
theorem OpB.near (h : OpB B w S R s r r' L f args v) (hs : St3 B W0 S R hv s r L F1 F2) (hb : Below B w W0) (hB : B ≤ W0.heap.size) : ∀ W, Keep W0 W (fun _ => False) → Calls Try.prog f args W fun e w' => e = .returned v ∧ Below B w w' ∧ (∃ F2', St3 B w' S R hv s r' L F1 F2') ∧ Keep W0 w' F2 := fun W k => by
  obtain ⟨a, b, c⟩ := hs.near hb hB k
  refine (h W hv F1 F2 a b c).mono ?_
  rintro e w' ⟨h1, h2, h3, h4⟩
  exact ⟨h1, h2, h3, (k.mono (fun _ _ e => e.elim)).trans h4 (fun _ _ e => e)⟩
end
end Go.Proofs.Ytjnekjjaofabeaa
