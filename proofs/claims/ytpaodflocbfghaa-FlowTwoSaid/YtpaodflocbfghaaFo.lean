/-
  FlowBounds: the plain law of the streams that are there.
-/
import Derived.Test.YtpaodflocbfghaaFm
namespace Go.Proofs.Ytpaodflocbfghaa
open Go.RowKit Go.Rh Go.Maps

theorem news_in {t : Int} {j : Nat} {n : Int} : n ∈ news 0 t j ↔ ∃ i : Nat, i < j ∧ n = 4 * (t + (i : Int)) := by
  unfold news
  simp only [List.mem_map, List.mem_range, Int.add_zero]
  constructor
  · rintro ⟨i, hi, rfl⟩; exact ⟨i, hi, rfl⟩
  · rintro ⟨i, hi, rfl⟩; exact ⟨i, hi, rfl⟩
theorem news_nodup (t : Int) (j : Nat) : (news 0 t j).Nodup := by
  induction j with
  | zero => simp [news]
  | succ j ih =>
    rw [news_succ, List.nodup_append]
    refine ⟨ih, by simp, fun a ha b hb => ?_⟩
    obtain ⟨i, hi, rfl⟩ := news_in.1 ha
    simp only [List.mem_singleton] at hb
    subst hb
    omega

/-- The streams that are there, behind so many calls. -/
structure BInv (k : Nat) (M : Int) (S : DS) (T : List Int) : Prop where
  inv : DInv k S
  kind : S.kind = 1
  most : S.most = M
  len : (T.length : Int) = S.theirs - S.left
  tc : S.theirs ≤ S.count
  cl : S.count ≤ S.left + S.most
  mem : ∀ x ∈ T, 0 ≤ x ∧ x % 4 = 0 ∧ x / 4 < S.theirs ∧ x ∉ S.gone
  nodup : T.Nodup
  gt : ∀ x ∈ S.gone, x / 4 < S.theirs
theorem BInv.mono {k : Nat} {M : Int} {S : DS} {T : List Int} (h : BInv k M S T) : BInv (k + 1) M S T := ⟨h.inv.mono, h.kind, h.most, h.len, h.tc, h.cl, h.mem, h.nodup, h.gt⟩
theorem BInv.small {k : Nat} {M : Int} {S : DS} {T : List Int} (h : BInv k M S T) : (T.length : Int) ≤ M := by
  have := h.len; have := h.tc; have := h.cl; have := h.most; omega
theorem BInv.grant {k : Nat} {M : Int} {S : DS} {T : List Int} (h : BInv k M S T) : BInv (k + 1) M (grantS S) T := by
  have hi := h.inv.grantS
  unfold grantS at hi ⊢
  split
  · next hlt =>
    rw [if_pos hlt] at hi
    exact ⟨hi, h.kind, h.most, h.len, by have := h.tc; have := h.cl; show S.theirs ≤ S.left + S.most; omega, by show S.left + S.most ≤ S.left + S.most; omega, h.mem, h.nodup, h.gt⟩
  · exact h.mono
theorem come_kind {k : Nat} {M : Int} {S : DS} {T : List Int} (h : BInv k M S T) {z : Int} (h0 : 0 ≤ z) (h1 : z < 200) :
    (S.count ≤ z → comeE S (4 * z) = 11 ∧ comeS S (4 * z) = S) ∧ (z < S.count → comeE S (4 * z) = 0 ∧ comeL S (4 * z) = news 0 S.theirs (z + 1 - S.theirs).toNat ∧ comeS S (4 * z) = { S with theirs := max S.theirs (z + 1) }) := by
  have hk := h.kind
  have e1 : 4 * z % 4 = 0 := by omega
  have e2 : 4 * z / 4 = z := by omega
  have e3 : comeE S (4 * z) = if S.count ≤ z then 11 else 0 := by
    unfold comeE
    rw [if_neg (by omega), if_neg (by omega), if_neg (by omega), e2]
  refine ⟨fun hc => ?_, fun hc => ?_⟩
  · rw [if_pos hc] at e3
    refine ⟨e3, ?_⟩
    unfold comeS
    rw [if_neg (by rw [e3]; exact fun hh => absurd hh.1 (by decide))]
  · rw [if_neg (by omega)] at e3
    have hp : comeE S (4 * z) = 0 ∧ 4 * z % 4 ≠ S.kind := ⟨e3, by omega⟩
    refine ⟨e3, ?_, ?_⟩
    · unfold comeL; rw [if_pos hp, e1, e2]
    · unfold comeS; rw [if_pos hp, e2]
theorem BInv.come {k : Nat} {M : Int} {S : DS} {T : List Int} (h : BInv k M S T) {z : Int} (h0 : 0 ≤ z) (h1 : z < 200) (hc : z < S.count) : BInv (k + 1) M (comeS S (4 * z)) (T ++ comeL S (4 * z)) := by
  have hi := h.inv.comeS (4 * z)
  obtain ⟨e1, e2, e3⟩ := (come_kind h h0 h1).2 hc
  rw [e3] at hi ⊢
  rw [e2]
  have ht := h.inv.t0
  refine ⟨hi, h.kind, h.most, ?_, ?_, h.cl, ?_, ?_, ?_⟩
  · have := h.len
    rw [List.length_append, news_length]
    show _ = max S.theirs (z + 1) - S.left
    omega
  · have := h.tc; show max S.theirs (z + 1) ≤ S.count; omega
  · intro x hx
    rcases List.mem_append.1 hx with hx | hx
    · obtain ⟨a, b, c, d⟩ := h.mem x hx
      exact ⟨a, b, by show _ < max S.theirs (z + 1); omega, d⟩
    · obtain ⟨i, hi, rfl⟩ := news_in.1 hx
      refine ⟨by omega, by omega, by show _ < max S.theirs (z + 1); omega, fun hg => ?_⟩
      have := h.gt _ hg
      omega
  · rw [List.nodup_append]
    refine ⟨h.nodup, news_nodup _ _, fun a ha b hb => ?_⟩
    obtain ⟨i, hi, rfl⟩ := news_in.1 hb
    have := (h.mem a ha).2.2.1
    omega
  · intro x hx
    have := h.gt x hx
    show _ < max S.theirs (z + 1); omega
theorem BInv.leave {k : Nat} {M : Int} {S : DS} {T : List Int} (h : BInv k M S T) {j : Nat} (hj : j < T.length) : leaveE S (at_ T j) = 0 ∧ BInv (k + 1) M (leaveT S (at_ T j)) (T.take j ++ T.drop (j + 1)) := by
  have hi := h.inv.leaveT (at_ T j)
  have hx : at_ T j ∈ T := mem_at hj
  obtain ⟨m0, m1, m2, m3⟩ := h.mem _ hx
  have hk := h.kind
  have hb : ¬ leaveBad S (at_ T j) := by
    rintro (h1 | h1 | ⟨h1, _⟩ | ⟨_, h1⟩ | h1)
    · omega
    · omega
    · omega
    · omega
    · exact m3 h1
  have e1 : leaveE S (at_ T j) = 0 := by unfold leaveE; rw [if_neg hb]
  have e2 : leaveT S (at_ T j) = { S with gone := S.gone ++ [at_ T j], left := S.left + 1 } := by
    unfold leaveT leaveS
    rw [if_neg hb, if_neg (by omega)]
  have hsplit : T = T.take j ++ (at_ T j :: T.drop (j + 1)) := by
    rw [at_get hj, ← List.drop_eq_getElem_cons hj, List.take_append_drop]
  refine ⟨e1, ?_⟩
  rw [e2] at hi ⊢
  have hnd := h.nodup
  rw [hsplit] at hnd
  rw [List.nodup_append, List.nodup_cons] at hnd
  obtain ⟨n1, ⟨n2, n3⟩, n4⟩ := hnd
  have hsub : ∀ x ∈ T.take j ++ T.drop (j + 1), x ∈ T ∧ x ≠ at_ T j := by
    intro x hx
    rcases List.mem_append.1 hx with hx | hx
    · exact ⟨List.mem_of_mem_take hx, fun e => n4 x hx _ (by simp) e⟩
    · exact ⟨List.mem_of_mem_drop hx, fun e => n2 (e ▸ hx)⟩
  refine ⟨hi, hk, h.most, ?_, h.tc, by have := h.cl; show S.count ≤ S.left + 1 + S.most; omega, ?_, ?_, ?_⟩
  · have := h.len
    rw [List.length_append, List.length_take, List.length_drop]
    show _ = S.theirs - (S.left + 1)
    omega
  · intro x hx
    obtain ⟨a, b, c, d⟩ := h.mem x (hsub x hx).1
    refine ⟨a, b, c, fun hg => ?_⟩
    rcases List.mem_append.1 hg with hg | hg
    · exact d hg
    · exact (hsub x hx).2 (by simpa using hg)
  · rw [List.nodup_append]
    exact ⟨n1, n3, fun a ha b hb => n4 a ha b (by simp [hb])⟩
  · intro x hx
    rcases List.mem_append.1 hx with hx | hx
    · exact h.gt x hx
    · simp only [List.mem_singleton] at hx
      subst hx
      exact m2

/-- The bytes that wait, behind so many calls. -/
structure QInv (k : Nat) (W : Int) (P : PS) : Prop where
  ok : P.Ok
  lim : P.lim ≤ 65536 * (k + 1)
  win : P.win = W
  lw : P.lim ≤ P.used + P.win
theorem QInv.mono {k : Nat} {W : Int} {P : PS} (h : QInv k W P) : QInv (k + 1) W P := ⟨h.ok, by have := h.lim; omega, h.win, h.lw⟩
theorem QInv.waits {k : Nat} {W : Int} {P : PS} (h : QInv k W P) : 0 ≤ P.came - P.used ∧ P.came - P.used ≤ W := by
  have := h.ok.uc; have := h.ok.cl; have := h.lw; have := h.win; omega
theorem QInv.take {k : Nat} {W : Int} {P : PS} (h : QInv k W P) (n : Int) : QInv k W (takeS P n) := by
  have ho := take_ok (n := n) h.ok
  unfold takeS at ho ⊢
  split
  · next he => rw [if_pos he] at ho; exact ⟨ho, h.lim, h.win, h.lw⟩
  · exact h
theorem QInv.use {k : Nat} {W : Int} {P : PS} (h : QInv k W P) (n : Int) : QInv k W (useS P n) := by
  have ho := use_ok (n := n) h.ok
  unfold useS at ho ⊢
  split
  · next he =>
    rw [if_pos he] at ho
    have : 0 ≤ n := by unfold useE at he; omega
    exact ⟨ho, h.lim, h.win, by have := h.lw; show P.lim ≤ P.used + n + P.win; omega⟩
  · exact h
theorem QInv.grant {k : Nat} {W : Int} {P : PS} (h : QInv k W P) (hk : k ≤ 100) : QInv (k + 1) W (pgS P) := by
  have ho := pg_ok h.ok (by have := h.lim; omega)
  have hl := pg_lim h.ok
  unfold pgS at ho hl ⊢
  split
  · next he => rw [if_pos he] at ho hl; exact ⟨ho, by have := h.lim; omega, h.win, by show P.used + P.win ≤ P.used + P.win; omega⟩
  · exact h.mono
end Go.Proofs.Ytpaodflocbfghaa
