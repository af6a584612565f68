/-
  FlowOpens: the walk.
-/
import Derived.Test.YtpaodflocbfghaaFm
namespace Go.Proofs.Ytpaodflocbfghaa
open Go.RowKit Go.Rh Go.Maps

def oS (q M : Int) (k : Nat) : DS := ⟨q, 3, k, M, 0, 3, 0, []⟩
def pS (q M : Int) (k : Nat) : DS := ⟨q, 3, M, M, 0, 3, 0, news q 0 k⟩
theorem oS_ok {q M : Int} {k : Nat} (h0 : 0 ≤ q) (h1 : q ≤ 1) : (oS q M k).Ok :=
  ⟨h0, h1, by show (0 : Int) ≤ (k : Int); omega, Int.le_refl 0, Int.le_refl 0, by show (3 : Int) ≤ 1099511627776; decide, by show (0 : Int) ≤ 1099511627776; decide, Nat.zero_le _⟩
theorem pS_ok {q M : Int} {k : Nat} (h0 : 0 ≤ q) (h1 : q ≤ 1) (hM : 0 ≤ M) (hk : k ≤ 100) : (pS q M k).Ok :=
  ⟨h0, h1, hM, Int.le_refl 0, Int.le_refl 0, by show (3 : Int) ≤ 1099511627776; decide, by show (0 : Int) ≤ 1099511627776; decide, by show (news q 0 k).length ≤ _; rw [news_length]; omega⟩
theorem o_open {q M : Int} {k : Nat} (h : (k : Int) < M) : openN (oS q M k) = 4 * (k : Int) + q ∧ openE (oS q M k) = 0 ∧ openS (oS q M k) = oS q M (k + 1) := by
  have hn : ¬ (oS q M k).may ≤ (oS q M k).own := by show ¬ M ≤ (k : Int); omega
  unfold openN openE openS
  rw [if_neg hn, if_neg hn, if_neg hn]
  exact ⟨rfl, rfl, by simp [oS]⟩
theorem o_full {q M : Int} {k : Nat} (h : M = (k : Int)) : openE (oS q M k) = 6 ∧ openS (oS q M k) = oS q M k := by
  have hn : (oS q M k).may ≤ (oS q M k).own := by show M ≤ (k : Int); omega
  unfold openE openS
  rw [if_pos hn, if_pos hn]
  exact ⟨rfl, rfl⟩
theorem o_come {q M : Int} {k : Nat} (h0 : 0 ≤ q) (h1 : q ≤ 1) (hk : k ≤ 100) {n : Int} (hn0 : n = 4 * (k : Int) + q) : comeE (oS q M (k + 1)) n = 0 ∧ comeL (oS q M (k + 1)) n = [] ∧ comeS (oS q M (k + 1)) n = oS q M (k + 1) := by
  have hk4 : n % 4 = (oS q M (k + 1)).kind := by show _ = q; omega
  have e : comeE (oS q M (k + 1)) n = 0 := by
    unfold comeE
    rw [if_neg (by omega), if_neg (by omega), if_pos hk4, if_neg (by show ¬ ((k + 1 : Nat) : Int) ≤ _; omega)]
  have hn : ¬ (comeE (oS q M (k + 1)) n = 0 ∧ n % 4 ≠ (oS q M (k + 1)).kind) := fun ⟨_, b⟩ => b hk4
  refine ⟨e, ?_, ?_⟩
  · unfold comeL; rw [if_neg hn]
  · unfold comeS; rw [if_neg hn]
theorem o_leave {q M : Int} {k : Nat} (h0 : 0 ≤ q) (h1 : q ≤ 1) {n : Int} (hn0 : n = 4 * (k : Int) + q + 4) : leaveE (oS q M (k + 1)) n = 8 ∧ leaveT (oS q M (k + 1)) n = oS q M (k + 1) := by
  have hb : leaveBad (oS q M (k + 1)) n := .inr (.inr (.inl ⟨by show _ = q; omega, by show ((k + 1 : Nat) : Int) ≤ _; omega⟩))
  unfold leaveE leaveT
  rw [if_pos hb, if_pos hb]
  exact ⟨rfl, rfl⟩
theorem news_mem {q : Int} {k : Nat} {n : Int} : n ∈ news q 0 k ↔ ∃ j : Nat, j < k ∧ n = 4 * (j : Int) + q := by
  unfold news
  simp only [List.mem_map, List.mem_range]
  constructor
  · rintro ⟨j, hj, rfl⟩; exact ⟨j, hj, by omega⟩
  · rintro ⟨j, hj, rfl⟩; exact ⟨j, hj, by omega⟩
theorem p_leave {q M : Int} {k : Nat} (h0 : 0 ≤ q) (h1 : q ≤ 1) (hk : (k : Int) < M) {n : Int} (hn0 : n = 4 * (k : Int) + q) : leaveE (pS q M k) n = 0 ∧ leaveT (pS q M k) n = pS q M (k + 1) := by
  have hk4 : n % 4 = (pS q M k).kind := by show _ = q; omega
  have hb : ¬ leaveBad (pS q M k) n := by
    rintro (h | h | ⟨_, h⟩ | ⟨h, _⟩ | h)
    · omega
    · omega
    · have h : M ≤ n / 4 := h; omega
    · exact h hk4
    · obtain ⟨j, hj, e⟩ := news_mem.1 h; omega
  unfold leaveE leaveT
  rw [if_neg hb, if_neg hb]
  refine ⟨rfl, ?_⟩
  unfold leaveS
  rw [if_pos hk4]
  unfold pS
  rw [news_succ, Int.zero_add, hn0]
theorem p_again {q M : Int} {k : Nat} {n : Int} (hn0 : n = 4 * (k : Int) + q) : leaveE (pS q M (k + 1)) n = 8 ∧ leaveT (pS q M (k + 1)) n = pS q M (k + 1) := by
  have hb : leaveBad (pS q M (k + 1)) n := .inr (.inr (.inr (.inr (news_mem.2 ⟨k, by omega, hn0⟩))))
  unfold leaveE leaveT
  rw [if_pos hb, if_pos hb]
  exact ⟨rfl, rfl⟩

set_option maxRecDepth 100000 in
set_option maxHeartbeats 0 in
theorem opens_any {w : World} {s : Bool} {may : Int} :
    Calls Try.prog 4 #[.bool s, .int .i64 may] w fun e w' => e = .returned (.bool true) ∧ Below w.heap.size w w' := by
  obtain ⟨M, hM, hM1⟩ : ∃ M : Nat, wrap64 ((IntKind.u64.wrap may).tmod 100) = (M : Int) ∧ M < 100 := by
    have h0 : 0 ≤ IntKind.u64.wrap may := by rw [IntKind.wrap_u64]; omega
    refine ⟨((IntKind.u64.wrap may) % 100).toNat, ?_, by omega⟩
    rw [Int.tmod_eq_emod_of_nonneg h0]
    unfold wrap64
    omega
  have HM := Lib.hid hM
  clear hM
  have hM2 : (M : Int) < 100 := by omega
  go_enter Try.func4, Try.ntmps4
  go_wp2_with fail
  refine (counts_any w).mono ?_
  rintro e w1 ⟨rfl, hb1⟩
  have HB1 := Lib.hid hb1
  clear hb1
  go_wp2_with fail
  rw [HM.out]
  refine (doors_new (s := s) (m := 3) (by decide) (by decide)).mono ?_
  rintro e w2 ⟨rfl, hb2, hp2⟩
  have HB2 : Hid (Below w.heap.size w w2) := HB1.out.trans (hb2.mono HB1.out.size)
  have HP2 := Lib.hid hp2
  have HN1 : Hid (w.heap.size ≤ w1.heap.size) := HB1.out.size
  clear hb2 hp2 HB1
  obtain ⟨g, hg⟩ : ∃ g, g = w1.heap.size := ⟨_, rfl⟩
  rw [← hg] at HP2 HN1 ⊢
  clear hg
  obtain ⟨d, hd⟩ : ∃ d, d = g + 1 := ⟨_, rfl⟩
  have HL : Hid (w.heap.size ≤ g ∧ g < d) := ⟨HN1.out, by omega⟩
  rw [← hd] at HP2 ⊢
  clear hd HN1
  go_wp2_with fail
  refine (allow_any (n := (M : Int)) HP2.out).mono ?_
  rintro e w3 ⟨rfl, hd3, hk3⟩
  have HD3 := Lib.hid hd3
  have HB3 : Hid (Below w.heap.size w w3) := HB2.out.trans (hk3.below HB2.out.size (fun j hj e => by have := HL.out; omega))
  clear hd3 hk3 HP2 HB2
  go_wp2_with fail
  refine (allow_any HD3.out).mono ?_
  rintro e w4 ⟨rfl, hd4, hk4⟩
  have HB4 : Hid (Below w.heap.size w w4) := HB3.out.trans (hk4.below HB3.out.size (fun j hj e => by have := HL.out; omega))
  have eM : max (max 0 (min (M : Int) 1099511627776)) (min ((M : Int) / 2) 1099511627776) = M := by omega
  cases s
  · have hd5 : Door w4 d g (oS 0 M 0) := by have h := hd4; simp only at h; rw [eM] at h; exact h
    have HD4 := Lib.hid hd5
    clear hd4 hd5 hk4 HD3 HB3 eM
    go_wp2
    go_loopw [8] (fun i wr => ∃ k : Nat, i = .int .i64 k ∧ k ≤ M ∧ Door wr d g (oS 0 M k) ∧ Below w.heap.size w wr) (fun i _ => M - (intOf i).toNat)
    case atStart => exact ⟨0, rfl, Nat.zero_le _, HD4.out, HB4.out⟩
    case round =>
      clear HD4 HB4
      obtain ⟨k, rfl, hkM, hd, hb⟩ := hrel
      have HD := Lib.hid hd
      have HB := Lib.hid hb
      clear hd hb
      by_cases hlt : k < M
      · have dk : decide ((k : Int) < M) = true := by simp; omega
        have hk100 : (k : Int) < 100 := by omega
        obtain ⟨o1, o2, o3⟩ := o_open (q := 0) (M := M) (k := k) (by omega)
        have HO : Hid (openN (oS 0 M k) = 4 * (k : Int) + 0 ∧ openE (oS 0 M k) = 0 ∧ openS (oS 0 M k) = oS 0 M (k + 1)) := ⟨o1, o2, o3⟩
        clear o1 o2 o3
        go_wp2_with fail
        refine (open_any HD.out (oS_ok (by decide) (by decide)) (by show (M : Int) ≤ _; omega)).mono ?_
        rintro e w5 ⟨rfl, hd5, hk5⟩
        rw [HO.out.2.2] at hd5
        have HD5 := Lib.hid hd5
        have HB5 : Hid (Below w.heap.size w w5) := HB.out.trans (hk5.below HB.out.size (fun j hj e => by have := HL.out; omega))
        rw [HO.out.1, HO.out.2.1]
        clear hd5 hk5 HD HB HO
        go_wp2_with fail
        refine (come_any (4 * (k : Int)) HD5.out (oS_ok (by decide) (by decide))).mono ?_
        rintro e w6 ⟨va, rfl, hoa, hd6, hk6⟩
        obtain ⟨p1, p2, p3⟩ := o_come (q := 0) (M := M) (k := k) (by decide) (by decide) (by omega) (n := 4 * (k : Int)) (by omega)
        rw [p2] at hoa
        rw [p3] at hd6
        rw [p1]
        obtain ⟨A6, n6, c6, hn6, rfl⟩ := hoa.form
        simp only [List.length_nil] at hn6
        subst hn6
        have HD6 := Lib.hid hd6
        have HB6 : Hid (Below w.heap.size w w6) := HB5.out.trans (hk6.below HB5.out.size (fun j hj e => by have := HL.out; omega))
        clear hoa hd6 hk6 HD5 HB5 p1 p2 p3
        go_wp2_with fail
        refine (leave_any (4 * (k : Int) + 4) HD6.out (oS_ok (by decide) (by decide)) (by omega)).mono ?_
        rintro e w7 ⟨rfl, hd7, hk7⟩
        obtain ⟨q1, q2⟩ := o_leave (q := 0) (M := M) (k := k) (by decide) (by decide) (n := 4 * (k : Int) + 4) (by omega)
        rw [q2] at hd7
        rw [q1]
        have HD7 := Lib.hid hd7
        have HB7 : Hid (Below w.heap.size w w7) := HB6.out.trans (hk7.below HB6.out.size (fun j hj e => by have := HL.out; omega))
        clear hd7 hk7 HD6 HB6 q1 q2
        go_wp2
        go_roundw
        case rel => exact ⟨k + 1, by go_num, hlt, HD7.out, HB7.out⟩
        case measure => simp [intOf]; omega
      · obtain rfl : k = M := by omega
        have dk : decide ((k : Int) < k) = false := by simp
        obtain ⟨o1, o2⟩ := o_full (q := 0) (M := k) (k := k) rfl
        have HO : Hid (openE (oS 0 k k) = 6 ∧ openS (oS 0 k k) = oS 0 k k) := ⟨o1, o2⟩
        clear o1 o2
        go_wp2_with fail
        refine (open_any HD.out (oS_ok (by decide) (by decide)) (by show (k : Int) ≤ _; omega)).mono ?_
        rintro e w5 ⟨rfl, hd5, hk5⟩
        rw [HO.out.2] at hd5
        have HD5 : Hid (Door w5 d g (pS 0 k 0)) := hd5
        have HB5 : Hid (Below w.heap.size w w5) := HB.out.trans (hk5.below HB.out.size (fun j hj e => by have := HL.out; omega))
        rw [HO.out.1]
        obtain ⟨ON, hON⟩ : ∃ z, z = openN (oS 0 k k) := ⟨_, rfl⟩
        rw [← hON]
        clear hd5 hk5 HD HB HO hON
        go_wp2
        go_loopw [15] (fun i wr => ∃ j : Nat, i = .int .i64 j ∧ j ≤ k ∧ Door wr d g (pS 0 k j) ∧ Below w.heap.size w wr) (fun i _ => k - (intOf i).toNat)
        case atStart => exact ⟨0, rfl, Nat.zero_le _, HD5.out, HB5.out⟩
        case round =>
          clear HD5 HB5
          rename World => wx
          obtain ⟨j, rfl, hjM, hd, hb⟩ := hrel
          have HD := Lib.hid hd
          have HB := Lib.hid hb
          clear hd hb
          by_cases hlt : j < k
          · have dj : decide ((j : Int) < k) = true := by simp; omega
            have hj100 : (j : Int) < 100 := by omega
            go_wp2_with fail
            refine (leave_any (4 * (j : Int)) HD.out (pS_ok (by decide) (by decide) (by omega) (by omega)) (by omega)).mono ?_
            rintro e w7 ⟨rfl, hd7, hk7⟩
            obtain ⟨q1, q2⟩ := p_leave (q := 0) (M := k) (k := j) (by decide) (by decide) (by omega) (n := 4 * (j : Int)) (by omega)
            rw [q2] at hd7
            rw [q1]
            have HD7 := Lib.hid hd7
            have HB7 : Hid (Below w.heap.size w w7) := HB.out.trans (hk7.below HB.out.size (fun j hj e => by have := HL.out; omega))
            clear hd7 hk7 HD HB q1 q2
            go_wp2_with fail
            refine (leave_any (4 * (j : Int)) HD7.out (pS_ok (by decide) (by decide) (by omega) (by omega)) (by omega)).mono ?_
            rintro e w8 ⟨rfl, hd8, hk8⟩
            obtain ⟨q1, q2⟩ := p_again (q := 0) (M := k) (k := j) (n := 4 * (j : Int)) (by omega)
            rw [q2] at hd8
            rw [q1]
            have HD8 := Lib.hid hd8
            have HB8 : Hid (Below w.heap.size w w8) := HB7.out.trans (hk8.below HB7.out.size (fun j hj e => by have := HL.out; omega))
            clear hd8 hk8 HD7 HB7 q1 q2
            go_wp2
            go_roundw
            case rel => exact ⟨j + 1, by go_num, hlt, HD8.out, HB8.out⟩
            case measure => simp [intOf]; omega
          · obtain rfl : j = k := by omega
            have dj : decide ((j : Int) < j) = false := by simp
            have HG : Hid ((grantS (pS 0 j j)).count = 3 ∧ grantT (pS 0 j j) = false) := ⟨rfl, rfl⟩
            go_wp2_with fail
            refine (grant_any HD.out (pS_ok (by decide) (by decide) (by omega) (by omega)) (by show (0 : Int) ≤ 3; decide) (by show (0 : Int) ≤ 3; decide) (by show (3 : Int) ≤ _; decide)).mono ?_
            rintro e w9 ⟨rfl, hd9, hk9⟩
            rw [HG.out.1, HG.out.2]
            have HB9 : Hid (Below w.heap.size w w9) := HB.out.trans (hk9.below HB.out.size (fun j hj e => by have := HL.out; omega))
            clear hd9 hk9 HG
            go_wp2
            go_ret
            exact ⟨rfl, HB9.out⟩
  · have hd5 : Door w4 d g (oS 1 M 0) := by have h := hd4; simp only at h; rw [eM] at h; exact h
    have HD4 := Lib.hid hd5
    clear hd4 hd5 hk4 HD3 HB3 eM
    go_wp2
    go_loopw [8] (fun i wr => ∃ k : Nat, i = .int .i64 k ∧ k ≤ M ∧ Door wr d g (oS 1 M k) ∧ Below w.heap.size w wr) (fun i _ => M - (intOf i).toNat)
    case atStart => exact ⟨0, rfl, Nat.zero_le _, HD4.out, HB4.out⟩
    case round =>
      clear HD4 HB4
      obtain ⟨k, rfl, hkM, hd, hb⟩ := hrel
      have HD := Lib.hid hd
      have HB := Lib.hid hb
      clear hd hb
      by_cases hlt : k < M
      · have dk : decide ((k : Int) < M) = true := by simp; omega
        have hk100 : (k : Int) < 100 := by omega
        obtain ⟨o1, o2, o3⟩ := o_open (q := 1) (M := M) (k := k) (by omega)
        have HO : Hid (openN (oS 1 M k) = 4 * (k : Int) + 1 ∧ openE (oS 1 M k) = 0 ∧ openS (oS 1 M k) = oS 1 M (k + 1)) := ⟨o1, o2, o3⟩
        clear o1 o2 o3
        go_wp2_with fail
        refine (open_any HD.out (oS_ok (by decide) (by decide)) (by show (M : Int) ≤ _; omega)).mono ?_
        rintro e w5 ⟨rfl, hd5, hk5⟩
        rw [HO.out.2.2] at hd5
        have HD5 := Lib.hid hd5
        have HB5 : Hid (Below w.heap.size w w5) := HB.out.trans (hk5.below HB.out.size (fun j hj e => by have := HL.out; omega))
        rw [HO.out.1, HO.out.2.1]
        clear hd5 hk5 HD HB HO
        go_wp2_with fail
        refine (come_any (4 * (k : Int) + 1) HD5.out (oS_ok (by decide) (by decide))).mono ?_
        rintro e w6 ⟨va, rfl, hoa, hd6, hk6⟩
        obtain ⟨p1, p2, p3⟩ := o_come (q := 1) (M := M) (k := k) (by decide) (by decide) (by omega) (n := 4 * (k : Int) + 1) (by omega)
        rw [p2] at hoa
        rw [p3] at hd6
        rw [p1]
        obtain ⟨A6, n6, c6, hn6, rfl⟩ := hoa.form
        simp only [List.length_nil] at hn6
        subst hn6
        have HD6 := Lib.hid hd6
        have HB6 : Hid (Below w.heap.size w w6) := HB5.out.trans (hk6.below HB5.out.size (fun j hj e => by have := HL.out; omega))
        clear hoa hd6 hk6 HD5 HB5 p1 p2 p3
        go_wp2_with fail
        refine (leave_any (4 * (k : Int) + 1 + 4) HD6.out (oS_ok (by decide) (by decide)) (by omega)).mono ?_
        rintro e w7 ⟨rfl, hd7, hk7⟩
        obtain ⟨q1, q2⟩ := o_leave (q := 1) (M := M) (k := k) (by decide) (by decide) (n := 4 * (k : Int) + 1 + 4) (by omega)
        rw [q2] at hd7
        rw [q1]
        have HD7 := Lib.hid hd7
        have HB7 : Hid (Below w.heap.size w w7) := HB6.out.trans (hk7.below HB6.out.size (fun j hj e => by have := HL.out; omega))
        clear hd7 hk7 HD6 HB6 q1 q2
        go_wp2
        go_roundw
        case rel => exact ⟨k + 1, by go_num, hlt, HD7.out, HB7.out⟩
        case measure => simp [intOf]; omega
      · obtain rfl : k = M := by omega
        have dk : decide ((k : Int) < k) = false := by simp
        obtain ⟨o1, o2⟩ := o_full (q := 1) (M := k) (k := k) rfl
        have HO : Hid (openE (oS 1 k k) = 6 ∧ openS (oS 1 k k) = oS 1 k k) := ⟨o1, o2⟩
        clear o1 o2
        go_wp2_with fail
        refine (open_any HD.out (oS_ok (by decide) (by decide)) (by show (k : Int) ≤ _; omega)).mono ?_
        rintro e w5 ⟨rfl, hd5, hk5⟩
        rw [HO.out.2] at hd5
        have HD5 : Hid (Door w5 d g (pS 1 k 0)) := hd5
        have HB5 : Hid (Below w.heap.size w w5) := HB.out.trans (hk5.below HB.out.size (fun j hj e => by have := HL.out; omega))
        rw [HO.out.1]
        obtain ⟨ON, hON⟩ : ∃ z, z = openN (oS 1 k k) := ⟨_, rfl⟩
        rw [← hON]
        clear hd5 hk5 HD HB HO hON
        go_wp2
        go_loopw [15] (fun i wr => ∃ j : Nat, i = .int .i64 j ∧ j ≤ k ∧ Door wr d g (pS 1 k j) ∧ Below w.heap.size w wr) (fun i _ => k - (intOf i).toNat)
        case atStart => exact ⟨0, rfl, Nat.zero_le _, HD5.out, HB5.out⟩
        case round =>
          clear HD5 HB5
          rename World => wx
          obtain ⟨j, rfl, hjM, hd, hb⟩ := hrel
          have HD := Lib.hid hd
          have HB := Lib.hid hb
          clear hd hb
          by_cases hlt : j < k
          · have dj : decide ((j : Int) < k) = true := by simp; omega
            have hj100 : (j : Int) < 100 := by omega
            go_wp2_with fail
            refine (leave_any (4 * (j : Int) + 1) HD.out (pS_ok (by decide) (by decide) (by omega) (by omega)) (by omega)).mono ?_
            rintro e w7 ⟨rfl, hd7, hk7⟩
            obtain ⟨q1, q2⟩ := p_leave (q := 1) (M := k) (k := j) (by decide) (by decide) (by omega) (n := 4 * (j : Int) + 1) (by omega)
            rw [q2] at hd7
            rw [q1]
            have HD7 := Lib.hid hd7
            have HB7 : Hid (Below w.heap.size w w7) := HB.out.trans (hk7.below HB.out.size (fun j hj e => by have := HL.out; omega))
            clear hd7 hk7 HD HB q1 q2
            go_wp2_with fail
            refine (leave_any (4 * (j : Int) + 1) HD7.out (pS_ok (by decide) (by decide) (by omega) (by omega)) (by omega)).mono ?_
            rintro e w8 ⟨rfl, hd8, hk8⟩
            obtain ⟨q1, q2⟩ := p_again (q := 1) (M := k) (k := j) (n := 4 * (j : Int) + 1) (by omega)
            rw [q2] at hd8
            rw [q1]
            have HD8 := Lib.hid hd8
            have HB8 : Hid (Below w.heap.size w w8) := HB7.out.trans (hk8.below HB7.out.size (fun j hj e => by have := HL.out; omega))
            clear hd8 hk8 HD7 HB7 q1 q2
            go_wp2
            go_roundw
            case rel => exact ⟨j + 1, by go_num, hlt, HD8.out, HB8.out⟩
            case measure => simp [intOf]; omega
          · obtain rfl : j = k := by omega
            have dj : decide ((j : Int) < j) = false := by simp
            have HG : Hid ((grantS (pS 1 j j)).count = 3 ∧ grantT (pS 1 j j) = false) := ⟨rfl, rfl⟩
            go_wp2_with fail
            refine (grant_any HD.out (pS_ok (by decide) (by decide) (by omega) (by omega)) (by show (0 : Int) ≤ 3; decide) (by show (0 : Int) ≤ 3; decide) (by show (3 : Int) ≤ _; decide)).mono ?_
            rintro e w9 ⟨rfl, hd9, hk9⟩
            rw [HG.out.1, HG.out.2]
            have HB9 : Hid (Below w.heap.size w w9) := HB.out.trans (hk9.below HB.out.size (fun j hj e => by have := HL.out; omega))
            clear hd9 hk9 HG
            go_wp2
            go_ret
            exact ⟨rfl, HB9.out⟩
end Go.Proofs.Ytpaodflocbfghaa
