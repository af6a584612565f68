/-
  The document's doors: Leave.
-/
import Derived.Test.YtpaodflocbfghaaFg
namespace Go.Proofs.Ytpaodflocbfghaa
open Go.RowKit Go.Rh Go.Maps

theorem rleave_neg {w : World} {m : Nat} {n : Int} (hn : n < 0) :
    Calls Try.prog 18 #[.pointer (some ⟨m, 0, none⟩), .int .i64 n] w fun e w' => e = .returned (.int .i64 8) ∧ w' = w := by
  have hc : decide (n < 0) = true := by simpa using hn
  go_enter Try.func18, Try.ntmps18
  go_wp2
  go_ret
  exact ⟨rfl, rfl⟩
theorem rleave_kind {w : World} {m : Nat} {n : Int} (hn : 0 ≤ n) (hn2 : n ≤ 9223372036854775807) (hk : 1 < n % 4) :
    Calls Try.prog 18 #[.pointer (some ⟨m, 0, none⟩), .int .i64 n] w fun e w' => e = .returned (.int .i64 8) ∧ w' = w := by
  have hc : decide (n < 0) = false := by simp; omega
  have hc2 : decide (1 < n % 4) = true := by simpa using hk
  go_enter Try.func18, Try.ntmps18
  go_wp2
  go_ret
  exact ⟨rfl, rfl⟩
theorem rleave_own {w : World} {B m : Nat} {s : Bool} {S : DS} {v : Value} {n : Int} (h : RDoor w B m s S v) (hn : 0 ≤ n) (hn2 : n ≤ 9223372036854775807) (hk : n % 4 = S.kind) (hk1 : S.kind ≤ 1) (ho : S.own ≤ n / 4) :
    Calls Try.prog 18 #[.pointer (some ⟨m, 0, none⟩), .int .i64 n] w fun e w' => e = .returned (.int .i64 8) ∧ w' = w := by
  have c2 : w.cell? ⟨m, 2, none⟩ = some (.int .i64 S.own) := h.cell 2
  have hc : decide (n < 0) = false := by simp; omega
  have hc2 : decide (1 < n % 4) = false := by simp; omega
  have hc3 : decide (S.own ≤ n / 4) = true := by simpa using ho
  have hc4 : decide (n % 4 = S.kind) = true := by simpa using hk
  have hk2 : n % 4 ≤ 1 := by omega
  have H := Lib.hid h
  clear h hk
  go_enter Try.func18, Try.ntmps18
  go_wp2_with fail
  refine (own_any H.out hn rfl hk2).mono ?_
  rintro e w' ⟨rfl, rfl⟩
  go_wp2
  go_ret
  exact ⟨rfl, rfl⟩
theorem rleave_theirs {w : World} {B m : Nat} {s : Bool} {S : DS} {v : Value} {n : Int} (h : RDoor w B m s S v) (hn : 0 ≤ n) (hn2 : n ≤ 9223372036854775807) (hk : n % 4 ≠ S.kind) (hk2 : n % 4 ≤ 1) (ho : S.theirs ≤ n / 4) :
    Calls Try.prog 18 #[.pointer (some ⟨m, 0, none⟩), .int .i64 n] w fun e w' => e = .returned (.int .i64 8) ∧ w' = w := by
  have c4 : w.cell? ⟨m, 4, none⟩ = some (.int .i64 S.theirs) := h.cell 4
  have hc : decide (n < 0) = false := by simp; omega
  have hc2 : decide (1 < n % 4) = false := by simp; omega
  have hc3 : decide (S.theirs ≤ n / 4) = true := by simpa using ho
  have hc4 : decide (n % 4 = S.kind) = false := by simpa using hk
  have H := Lib.hid h
  clear h hk
  go_enter Try.func18, Try.ntmps18
  go_wp2_with fail
  refine (own_any H.out hn rfl hk2).mono ?_
  rintro e w' ⟨rfl, rfl⟩
  go_wp2_with fail
  refine (own_any H.out hn rfl hk2).mono ?_
  rintro e w' ⟨rfl, rfl⟩
  go_wp2
  go_ret
  exact ⟨rfl, rfl⟩

theorem not_mem_at {G : List Int} {n : Int} (h : ∀ j, j < G.length → at_ G j ≠ n) : n ∉ G := fun hm => by
  obtain ⟨j, hj, e⟩ := List.getElem_of_mem hm
  exact h j hj (by rw [at_get hj, e])
theorem mem_at {G : List Int} {j : Nat} (hj : j < G.length) : at_ G j ∈ G := by rw [at_get hj]; exact List.getElem_mem _

set_option maxRecDepth 100000 in
theorem rleave_gone {w : World} {B m : Nat} {s : Bool} {S : DS} {v : Value} {n : Int} (h : RDoor w B m s S v) (hn : 0 ≤ n) (hn2 : n ≤ 9223372036854775807) (hk2 : n % 4 ≤ 1) (hb : decide (n % 4 = S.kind) = true ∧ S.own > n / 4 ∨ decide (n % 4 = S.kind) = false ∧ S.theirs > n / 4) (hg : n ∈ S.gone) (hl : S.gone.length ≤ 1099511627776) :
    Calls Try.prog 18 #[.pointer (some ⟨m, 0, none⟩), .int .i64 n] w fun e w' => e = .returned (.int .i64 8) ∧ w' = w := by
  have c2 : w.cell? ⟨m, 2, none⟩ = some (.int .i64 S.own) := h.cell 2
  have c4 : w.cell? ⟨m, 4, none⟩ = some (.int .i64 S.theirs) := h.cell 4
  have c6 : w.cell? ⟨m, 6, none⟩ = some v := h.cell 6
  have hc : decide (n < 0) = false := by simp; omega
  have hc2 : decide (1 < n % 4) = false := by simp; omega
  obtain ⟨A, q, c, e1, hq, hqc, hcells⟩ := h.own.bs
  subst e1
  have H := Lib.hid h
  have HG := Lib.hid hg
  have HQ := Lib.hid hq
  have HC := Lib.hid hcells
  have hql : (q : Int) ≤ 1099511627776 := by omega
  clear h hg hq hcells hqc hl
  rcases hb with ⟨hc4, ho⟩ | ⟨hc4, ho⟩
  · have hc3 : decide (S.own ≤ n / 4) = false := by simp; omega
    go_enter Try.func18, Try.ntmps18
    go_wp2_with fail
    refine (own_any H.out hn rfl hk2).mono ?_
    rintro e w' ⟨rfl, rfl⟩
    go_wp2_with fail
    refine (own_any H.out hn rfl hk2).mono ?_
    rintro e w' ⟨rfl, rfl⟩
    go_wp2
    go_loop [5] (fun i => ∃ k : Nat, k ≤ q ∧ i = .int .i64 k ∧ Hid (∀ j, j < k → at_ S.gone j ≠ n)) (fun i => q - (intOf i).toNat)
    case atStart => exact ⟨0, Nat.zero_le _, rfl, fun j hj => absurd hj (by omega)⟩
    case round =>
      obtain ⟨k, hkq, rfl, hne⟩ := hrel
      by_cases hlt : k < q
      · obtain ⟨g, off, rfl, _, hx⟩ := HC.out (by omega)
        have hx := hx k hlt
        have hlt' : (k : Int) < q := by omega
        by_cases he : at_ S.gone k = n
        · rw [he] at hx
          go_wp2
          go_ret
          exact ⟨rfl, rfl⟩
        · have he' : (at_ S.gone k == n) = false := by simpa using he
          have HE := Lib.hid he
          clear he
          go_wp2
          go_round
          case rel => exact ⟨k + 1, hlt, by go_num, fun j hj => by rcases Nat.lt_succ_iff_lt_or_eq.1 hj with h | h; exact hne.out j h; (subst h; exact HE.out)⟩
          case measure => simp [intOf]; omega
      · exact absurd HG.out (not_mem_at fun j hj => hne.out j (by have := HQ.out; omega))
  · have hc3 : decide (S.theirs ≤ n / 4) = false := by simp; omega
    go_enter Try.func18, Try.ntmps18
    go_wp2_with fail
    refine (own_any H.out hn rfl hk2).mono ?_
    rintro e w' ⟨rfl, rfl⟩
    go_wp2_with fail
    refine (own_any H.out hn rfl hk2).mono ?_
    rintro e w' ⟨rfl, rfl⟩
    go_wp2
    go_loop [5] (fun i => ∃ k : Nat, k ≤ q ∧ i = .int .i64 k ∧ Hid (∀ j, j < k → at_ S.gone j ≠ n)) (fun i => q - (intOf i).toNat)
    case atStart => exact ⟨0, Nat.zero_le _, rfl, fun j hj => absurd hj (by omega)⟩
    case round =>
      obtain ⟨k, hkq, rfl, hne⟩ := hrel
      by_cases hlt : k < q
      · obtain ⟨g, off, rfl, _, hx⟩ := HC.out (by omega)
        have hx := hx k hlt
        have hlt' : (k : Int) < q := by omega
        by_cases he : at_ S.gone k = n
        · rw [he] at hx
          go_wp2
          go_ret
          exact ⟨rfl, rfl⟩
        · have he' : (at_ S.gone k == n) = false := by simpa using he
          have HE := Lib.hid he
          clear he
          go_wp2
          go_round
          case rel => exact ⟨k + 1, hlt, by go_num, fun j hj => by rcases Nat.lt_succ_iff_lt_or_eq.1 hj with h | h; exact hne.out j h; (subst h; exact HE.out)⟩
          case measure => simp [intOf]; omega
      · exact absurd HG.out (not_mem_at fun j hj => hne.out j (by have := HQ.out; omega))
end Go.Proofs.Ytpaodflocbfghaa
