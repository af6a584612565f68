/-
  The doors of one end: Open, Leave, Grant as one contract each.
-/
import Derived.Test.YtpaodflocbfghaaFd
namespace Go.Proofs.Ytpaodflocbfghaa
open Go.RowKit Go.Rh Go.Maps

instance leaveBad_dec (S : DS) (n : Int) : Decidable (leaveBad S n) := by unfold leaveBad; infer_instance
def leaveE (S : DS) (n : Int) : Int := if leaveBad S n then 8 else 0
def leaveT (S : DS) (n : Int) : DS := if leaveBad S n then S else leaveS S n
theorem leave_any {w : World} {d g : Nat} {S : DS} (n : Int) (h : Door w d g S) (ok : S.Ok) (hn2 : n ≤ 9223372036854775807) :
    Calls Try.prog 12 #[.pointer (some ⟨d, 0, none⟩), .int .i64 n] w fun e w' => e = .returned (.int .i64 (leaveE S n)) ∧ Door w' d g (leaveT S n) ∧ Keep w w' (fun k => k = d ∨ k = g) := by
  by_cases hb : leaveBad S n
  · have same : ∀ {e : Ending} {w' : World}, (e = .returned (.int .i64 8) ∧ w' = w) → e = .returned (.int .i64 (leaveE S n)) ∧ Door w' d g (leaveT S n) ∧ Keep w w' (fun k => k = d ∨ k = g) := by
      rintro e w' ⟨rfl, rfl⟩
      unfold leaveE leaveT
      rw [if_pos hb, if_pos hb]
      exact ⟨rfl, h, Keep.refl _ _⟩
    by_cases h1 : n < 0
    · exact (leave_neg h h1).mono fun _ _ hh => same hh
    by_cases h2 : 1 < n % 4
    · exact (leave_kind h (by omega) h2).mono fun _ _ hh => same hh
    by_cases h3 : n % 4 = S.kind
    · by_cases h4 : S.own ≤ n / 4
      · exact (leave_own h (by omega) hn2 h3 rfl ok.k1 h4).mono fun _ _ hh => same hh
      · exact (leave_gone h (by omega) hn2 rfl rfl (by omega) (.inl ⟨h3, by omega⟩) (by unfold leaveBad at hb; rcases hb with e | e | e | e | e <;> first | exact e | omega)).mono fun _ _ hh => same hh
    · by_cases h4 : S.theirs ≤ n / 4
      · exact (leave_theirs h (by omega) hn2 rfl h3 rfl (by omega) h4).mono fun _ _ hh => same hh
      · exact (leave_gone h (by omega) hn2 rfl rfl (by omega) (.inr ⟨h3, by omega⟩) (by unfold leaveBad at hb; rcases hb with e | e | e | e | e <;> first | exact e | omega)).mono fun _ _ hh => same hh
  · have hb' := hb
    unfold leaveBad at hb'
    refine (leave_yes h (k := n % 4) (i := n / 4) (by omega) hn2 rfl rfl (by omega) ?_ (fun hg => hb' (.inr (.inr (.inr (.inr hg))))) ok).mono ?_
    · by_cases h3 : n % 4 = S.kind
      · exact .inl ⟨h3, by omega⟩
      · exact .inr ⟨h3, by omega⟩
    · rintro e w' ⟨rfl, hd, hk⟩
      unfold leaveE leaveT
      rw [if_neg hb, if_neg hb]
      exact ⟨rfl, hd, hk⟩

def grantT (S : DS) : Bool := decide (S.count - S.left < S.most)
def grantS (S : DS) : DS := if S.count - S.left < S.most then { S with count := S.left + S.most } else S
theorem grant_any {w : World} {d g : Nat} {S : DS} (h : Door w d g S) (ok : S.Ok) (hc : 0 ≤ S.count) (hm : 0 ≤ S.most) (hm2 : S.most ≤ 1099511627776) :
    Calls Try.prog 19 #[.pointer (some ⟨d, 0, none⟩)] w fun e w' => e = .returned (.tuple #[.int .i64 (grantS S).count, .bool (grantT S)]) ∧ Door w' d g (grantS S) ∧ Keep w w' (fun k => k = d) := by
  by_cases hlt : S.count - S.left < S.most
  · refine (grant_yes h hlt ok.l0 ok.l1 hc ok.c1 hm hm2).mono ?_
    rintro e w' ⟨rfl, hd, hk⟩
    unfold grantS grantT
    rw [if_pos hlt, decide_eq_true hlt]
    exact ⟨rfl, hd, hk⟩
  · refine (grant_no h (by omega) ok.l0 ok.l1 hc ok.c1).mono ?_
    rintro e w' ⟨rfl, nq, rfl⟩
    unfold grantS grantT
    rw [if_neg hlt, decide_eq_false hlt]
    exact ⟨rfl, h.mem rfl, keep_same (Keep.refl _ _) ⟨rfl, rfl, rfl, rfl⟩⟩

def openE (S : DS) : Int := if S.may ≤ S.own then 6 else 0
def openN (S : DS) : Int := if S.may ≤ S.own then 0 else 4 * S.own + S.kind
def openS (S : DS) : DS := if S.may ≤ S.own then S else { S with own := S.own + 1 }
theorem open_any {w : World} {d g : Nat} {S : DS} (h : Door w d g S) (ok : S.Ok) (hm : S.may ≤ 1099511627776) :
    Calls Try.prog 14 #[.pointer (some ⟨d, 0, none⟩)] w fun e w' => e = .returned (.tuple #[.int .i64 (openN S), .int .i64 (openE S)]) ∧ Door w' d g (openS S) ∧ Keep w w' (fun k => k = d) := by
  by_cases hlt : S.may ≤ S.own
  · refine (open_full h hlt).mono ?_
    rintro e w' ⟨rfl, nq, rfl⟩
    unfold openS openE openN
    rw [if_pos hlt, if_pos hlt, if_pos hlt]
    exact ⟨rfl, h.mem rfl, keep_same (Keep.refl _ _) ⟨rfl, rfl, rfl, rfl⟩⟩
  · refine (open_new h (by omega) ok.o0 hm ok.k0 ok.k1).mono ?_
    rintro e w' ⟨rfl, hd, hk⟩
    unfold openS openE openN
    rw [if_neg hlt, if_neg hlt, if_neg hlt]
    exact ⟨rfl, hd, hk⟩
end Go.Proofs.Ytpaodflocbfghaa
