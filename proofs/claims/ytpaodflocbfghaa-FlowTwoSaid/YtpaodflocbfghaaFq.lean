/-
  FlowTwo: the plain law of two ends.
-/
import Derived.Test.YtpaodflocbfghaaFp
import Derived.Test.YtpaodflocbfghaaFn
namespace Go.Proofs.Ytpaodflocbfghaa
open Go.RowKit Go.Rh Go.Maps

def aS (o l : Nat) (c : Int) : DS := ⟨0, 5, o, c, 0, 5, 0, news 0 0 l⟩
def bS (M : Nat) (o l : Nat) (c : Int) : DS := ⟨1, M, 0, 0, o, c, l, news 0 0 l⟩
def sP (lim came : Int) : PS := ⟨100, 100, 0, 0, lim, came⟩
def rP (lim came used : Int) : PS := ⟨100, lim, came, used, 0, 0⟩

/-- What the two ends keep. -/
structure Two (k M o l : Nat) (c lim came used : Int) : Prop where
  m0 : 1 ≤ M
  m1 : M ≤ 32
  lo : l ≤ o
  ok : o ≤ k
  oc : (o : Int) ≤ c
  cl : c ≤ l + M
  u0 : 0 ≤ used
  uc : used ≤ came
  cm : came ≤ lim
  lm : lim ≤ 65536 * (k + 1)
theorem Two.mono {k M o l : Nat} {c lim came used : Int} (h : Two k M o l c lim came used) : Two (k + 1) M o l c lim came used :=
  ⟨h.m0, h.m1, h.lo, by have := h.ok; omega, h.oc, h.cl, h.u0, h.uc, h.cm, by have := h.lm; omega⟩
theorem Two.a {k M o l : Nat} {c lim came used : Int} (h : Two k M o l c lim came used) (hk : k ≤ 100) : (aS o l c).Ok :=
  ⟨Int.le_refl 0, by show (0 : Int) ≤ 1; decide, by show (0 : Int) ≤ o; omega, Int.le_refl 0, Int.le_refl 0, by show (5 : Int) ≤ 1099511627776; decide, by show (0 : Int) ≤ 1099511627776; decide, by show (news 0 0 l).length ≤ _; rw [news_length]; have := h.lo; have := h.ok; omega⟩
theorem Two.b {k M o l : Nat} {c lim came used : Int} (h : Two k M o l c lim came used) (hk : k ≤ 100) : (bS M o l c).Ok :=
  ⟨by show (0 : Int) ≤ 1; decide, Int.le_refl 1, Int.le_refl 0, by show (0 : Int) ≤ o; omega, by show (0 : Int) ≤ l; omega, by have := h.cl; have := h.lo; have := h.ok; have := h.m1; show c ≤ 1099511627776; omega, by have := h.lo; have := h.ok; show (l : Int) ≤ 1099511627776; omega, by show (news 0 0 l).length ≤ _; rw [news_length]; have := h.lo; have := h.ok; omega⟩
theorem Two.s {k M o l : Nat} {c lim came used : Int} (h : Two k M o l c lim came used) (hk : k ≤ 100) : (sP lim came).Ok :=
  ⟨by show (0 : Int) ≤ 100; decide, by show (100 : Int) ≤ 65536; decide, Int.le_refl 0, Int.le_refl 0, by show (0 : Int) ≤ 100; decide, by show (100 : Int) ≤ _; decide, by have := h.u0; have := h.uc; show 0 ≤ came; omega, h.cm, by have := h.lm; show lim ≤ _; omega⟩
theorem Two.r {k M o l : Nat} {c lim came used : Int} (h : Two k M o l c lim came used) (hk : k ≤ 100) : (rP lim came used).Ok :=
  ⟨by show (0 : Int) ≤ 100; decide, by show (100 : Int) ≤ 65536; decide, h.u0, h.uc, h.cm, by have := h.lm; show lim ≤ _; omega, Int.le_refl 0, Int.le_refl 0, by show (0 : Int) ≤ _; decide⟩

theorem two_open {o l : Nat} {c : Int} (h : (o : Int) < c) : openN (aS o l c) = 4 * (o : Int) ∧ openE (aS o l c) = 0 ∧ openS (aS o l c) = aS (o + 1) l c := by
  have hn : ¬ (aS o l c).may ≤ (aS o l c).own := by show ¬ c ≤ (o : Int); omega
  unfold openN openE openS
  rw [if_neg hn, if_neg hn, if_neg hn]
  exact ⟨by show 4 * (o : Int) + 0 = _; omega, rfl, by simp [aS]⟩
theorem two_full {o l : Nat} {c : Int} (h : c ≤ (o : Int)) : openE (aS o l c) = 6 ∧ openS (aS o l c) = aS o l c := by
  have hn : (aS o l c).may ≤ (aS o l c).own := h
  unfold openE openS
  rw [if_pos hn, if_pos hn]
  exact ⟨rfl, rfl⟩
theorem two_come {M o l : Nat} {c : Int} (h : (o : Int) < c) (ho : o ≤ 100) : comeE (bS M o l c) (4 * (o : Int)) = 0 ∧ comeL (bS M o l c) (4 * (o : Int)) = [4 * (o : Int)] ∧ comeS (bS M o l c) (4 * (o : Int)) = bS M (o + 1) l c := by
  have e1 : 4 * (o : Int) % 4 = 0 := by omega
  have e2 : 4 * (o : Int) / 4 = o := by omega
  have e3 : comeE (bS M o l c) (4 * (o : Int)) = 0 := by
    unfold comeE
    rw [if_neg (by omega), if_neg (by omega), if_neg (by rw [e1]; show ¬ (0 : Int) = 1; decide), e2, if_neg (by show ¬ c ≤ (o : Int); omega)]
  have hp : comeE (bS M o l c) (4 * (o : Int)) = 0 ∧ 4 * (o : Int) % 4 ≠ (bS M o l c).kind := ⟨e3, by rw [e1]; show (0 : Int) ≠ 1; decide⟩
  refine ⟨e3, ?_, ?_⟩
  · unfold comeL
    rw [if_pos hp, e1, e2]
    show news 0 (o : Int) ((o : Int) + 1 - (o : Int)).toNat = _
    rw [show ((o : Int) + 1 - (o : Int)).toNat = 1 by omega]
    simp [news]
  · unfold comeS
    rw [if_pos hp, e2]
    have e4 : max (o : Int) ((o : Int) + 1) = ((o + 1 : Nat) : Int) := by omega
    show ({ bS M o l c with theirs := max (o : Int) ((o : Int) + 1) } : DS) = _
    rw [e4]
    rfl
theorem two_leaveA {o l : Nat} {c : Int} (h : l < o) : leaveE (aS o l c) (4 * (l : Int)) = 0 ∧ leaveT (aS o l c) (4 * (l : Int)) = aS o (l + 1) c := by
  have hk4 : 4 * (l : Int) % 4 = (aS o l c).kind := by show _ = (0 : Int); omega
  have hb : ¬ leaveBad (aS o l c) (4 * (l : Int)) := by
    rintro (h1 | h1 | ⟨_, h1⟩ | ⟨h1, _⟩ | h1)
    · omega
    · omega
    · have h1 : (o : Int) ≤ 4 * (l : Int) / 4 := h1; omega
    · exact h1 hk4
    · obtain ⟨j, hj, e⟩ := news_mem.1 h1; omega
  unfold leaveE leaveT
  rw [if_neg hb, if_neg hb]
  refine ⟨rfl, ?_⟩
  unfold leaveS
  rw [if_pos hk4]
  unfold aS
  rw [news_succ, Int.zero_add, Int.add_zero]
theorem two_leaveB {M o l : Nat} {c : Int} (h : l < o) : leaveE (bS M o l c) (4 * (l : Int)) = 0 ∧ leaveT (bS M o l c) (4 * (l : Int)) = bS M o (l + 1) c := by
  have hk4 : ¬ 4 * (l : Int) % 4 = (bS M o l c).kind := by show ¬ _ = (1 : Int); omega
  have hb : ¬ leaveBad (bS M o l c) (4 * (l : Int)) := by
    rintro (h1 | h1 | ⟨h1, _⟩ | ⟨_, h1⟩ | h1)
    · omega
    · omega
    · exact hk4 h1
    · have h1 : (o : Int) ≤ 4 * (l : Int) / 4 := h1; omega
    · obtain ⟨j, hj, e⟩ := news_mem.1 h1; omega
  unfold leaveE leaveT
  rw [if_neg hb, if_neg hb]
  refine ⟨rfl, ?_⟩
  unfold leaveS
  rw [if_neg hk4]
  unfold bS
  rw [news_succ, Int.zero_add, Int.add_zero]
  rfl
theorem two_grant {M o l : Nat} {c : Int} : (c - l < M → grantS (bS M o l c) = bS M o l (l + M) ∧ grantT (bS M o l c) = true) ∧ (¬ c - l < M → grantS (bS M o l c) = bS M o l c ∧ grantT (bS M o l c) = false) := by
  refine ⟨fun h => ?_, fun h => ?_⟩
  · have h' : (bS M o l c).count - (bS M o l c).left < (bS M o l c).most := h
    unfold grantS grantT
    rw [if_pos h', decide_eq_true h']
    exact ⟨rfl, rfl⟩
  · have h' : ¬ (bS M o l c).count - (bS M o l c).left < (bS M o l c).most := h
    unfold grantS grantT
    rw [if_neg h', decide_eq_false h']
    exact ⟨rfl, rfl⟩
theorem two_pg {lim came used : Int} : (lim - used < 50 → pgS (rP lim came used) = rP (used + 100) came used ∧ pgT (rP lim came used) = true) ∧ (¬ lim - used < 50 → pgS (rP lim came used) = rP lim came used ∧ pgT (rP lim came used) = false) := by
  refine ⟨fun h => ?_, fun h => ?_⟩
  · have h' : (rP lim came used).lim - (rP lim came used).used < (rP lim came used).win / 2 := by show lim - used < 100 / 2; omega
    unfold pgS pgT
    rw [if_pos h', decide_eq_true h']
    exact ⟨rfl, rfl⟩
  · have h' : ¬ (rP lim came used).lim - (rP lim came used).used < (rP lim came used).win / 2 := by show ¬ lim - used < 100 / 2; omega
    unfold pgS pgT
    rw [if_neg h', decide_eq_false h']
    exact ⟨rfl, rfl⟩
theorem two_spend {lim came n : Int} (h0 : 0 ≤ n) (h1 : n ≤ lim - came) : spendE (sP lim came) n = 0 ∧ spendS (sP lim came) n = sP lim (came + n) := by
  have e : spendE (sP lim came) n = 0 := by unfold spendE; rw [if_neg (by omega), if_neg (by show ¬ lim - came < n; omega)]
  exact ⟨e, by unfold spendS; rw [if_pos e]; rfl⟩
theorem two_take {lim came used n : Int} (h0 : 0 ≤ n) (h1 : n ≤ lim - came) : takeE (rP lim came used) n = 0 ∧ takeS (rP lim came used) n = rP lim (came + n) used := by
  have e : takeE (rP lim came used) n = 0 := by unfold takeE; rw [if_neg (by omega), if_neg (by show ¬ lim - came < n; omega)]
  exact ⟨e, by unfold takeS; rw [if_pos e]; rfl⟩
theorem two_use {lim came used n : Int} (h0 : 0 ≤ n) (h1 : n ≤ came - used) : useE (rP lim came used) n = 0 ∧ useS (rP lim came used) n = rP lim came (used + n) := by
  have e : useE (rP lim came used) n = 0 := by unfold useE; rw [if_neg (by show ¬ (n < 0 ∨ came - used < n); omega)]
  exact ⟨e, by unfold useS; rw [if_pos e]; rfl⟩
theorem news_drop (l o : Nat) (h : l < o) : (news 0 l (o - l)).drop 1 = news 0 ((l + 1 : Nat) : Int) (o - (l + 1)) := by
  obtain ⟨m, hm⟩ : ∃ m, o - l = m + 1 := ⟨o - l - 1, by omega⟩
  have hm2 : o - (l + 1) = m := by omega
  rw [hm, hm2]
  unfold news
  rw [List.range_succ_eq_map]
  simp only [List.map_cons, List.map_map, List.drop_succ_cons, List.drop_zero]
  apply List.map_congr_left
  intro x _
  simp only [Function.comp]
  omega
theorem news_more (l o : Nat) (h : l ≤ o) : news 0 l (o - l) ++ [4 * (o : Int)] = news 0 l (o + 1 - l) := by
  rw [show o + 1 - l = (o - l) + 1 by omega, news_succ]
  congr 2
  omega
end Go.Proofs.Ytpaodflocbfghaa
