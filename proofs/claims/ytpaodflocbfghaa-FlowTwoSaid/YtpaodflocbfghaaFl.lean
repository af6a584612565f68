/-
  FlowPurses: the walk.
-/
import Derived.Test.YtpaodflocbfghaaFk
namespace Go.Proofs.Ytpaodflocbfghaa
open Go.RowKit Go.Rh Go.Maps

theorem below_drewN {B : Nat} {a w : World} (h : Below B a w) (n : Nat) : Below B a (w.drewN n) := ⟨h.os, h.tape, h.output, h.size, h.block⟩

/-- A row of calls in memory. -/
def Deals (W : World) (A : Option Addr) (n : Nat) (X N : Nat → Int) : Prop :=
  0 < n → ∃ b off, A = some ⟨b, off, none⟩ ∧ b < W.heap.size ∧ ∀ j, j < n → W.cell? ⟨b, off + j * 2, none⟩ = some (.int .i64 (X j)) ∧ W.cell? ⟨b, off + j * 2 + 1, none⟩ = some (.int .i64 (N j)) ∧ -9223372036854775808 ≤ N j ∧ N j ≤ 9223372036854775807

theorem take_ok {P : PS} {n : Int} (h : P.Ok) : (takeS P n).Ok := by
  unfold takeS
  split
  · next he =>
    unfold takeE at he
    have h1 := h.uc
    have h2 := h.cl
    exact ⟨h.w0, h.w1, h.u0, by show P.used ≤ P.came + n; omega, by show P.came + n ≤ P.lim; omega, h.l1, h.s0, h.sm, h.m1⟩
  · exact h
theorem use_ok {P : PS} {n : Int} (h : P.Ok) : (useS P n).Ok := by
  unfold useS
  split
  · next he =>
    unfold useE at he
    have h1 := h.uc
    have h2 := h.u0
    exact ⟨h.w0, h.w1, by show 0 ≤ P.used + n; omega, by show P.used + n ≤ P.came; omega, h.cl, h.l1, h.s0, h.sm, h.m1⟩
  · exact h
theorem spend_ok {P : PS} {n : Int} (h : P.Ok) : (spendS P n).Ok := by
  unfold spendS
  split
  · next he =>
    unfold spendE at he
    have h1 := h.s0
    exact ⟨h.w0, h.w1, h.u0, h.uc, h.cl, h.l1, by show 0 ≤ P.sent + n; omega, by show P.sent + n ≤ P.may; omega, h.m1⟩
  · exact h
theorem take_lim (P : PS) (n : Int) : (takeS P n).lim = P.lim := by unfold takeS; split <;> rfl
theorem use_lim (P : PS) (n : Int) : (useS P n).lim = P.lim := by unfold useS; split <;> rfl
theorem spend_lim (P : PS) (n : Int) : (spendS P n).lim = P.lim := by unfold spendS; split <;> rfl
theorem pg_lim {P : PS} (h : P.Ok) : (pgS P).lim ≤ P.lim + 65536 := by
  unfold pgS
  have := h.uc
  have := h.cl
  have := h.w1
  split
  · show P.used + P.win ≤ _; omega
  · omega
theorem pg_ok {P : PS} (h : P.Ok) (hl : P.lim ≤ 1125899906842624 - 65536) : (pgS P).Ok := by
  have h2 := pg_lim h
  have h3 := h.w0
  have h4 := h.u0
  have h5 := h.uc
  have h6 := h.cl
  unfold pgS at h2 ⊢
  split
  · next he =>
    rw [if_pos he] at h2
    exact ⟨h.w0, h.w1, h.u0, h.uc, by show P.came ≤ P.used + P.win; omega, by show P.used + P.win ≤ _; have : P.used + P.win ≤ P.lim + 65536 := h2; omega, h.s0, h.sm, h.m1⟩
  · exact h
theorem pallow_ok {P : PS} {n : Int} (h : P.Ok) : ({ P with may := max P.may (min n 1099511627776) } : PS).Ok := by
  have := h.sm
  have := h.m1
  exact ⟨h.w0, h.w1, h.u0, h.uc, h.cl, h.l1, h.s0, by show P.sent ≤ max P.may (min n 1099511627776); omega, by show max P.may (min n 1099511627776) ≤ _; omega⟩

set_option maxRecDepth 100000 in
set_option maxHeartbeats 0 in
theorem purses_any {w : World} {A : Option Addr} {n c : Nat} {X N : Nat → Int} {win : Int} (hx : Deals w A n X N) (hn : (n : Int) ≤ 9223372036854775807) :
    Calls Try.prog 6 #[.int .i64 win, .slice A n c] w fun e w' => e = .returned (.bool true) ∧ Below w.heap.size w w' := by
  have HX := Lib.hid hx
  clear hx
  go_enter Try.func6, Try.ntmps6
  go_wp2_with fail
  refine empty_any.mono ?_
  rintro e w' ⟨rfl, rfl⟩
  go_wp2_with fail
  refine nilp_allow.mono ?_
  rintro e w ⟨rfl, rfl⟩
  go_wp2_with fail
  refine empty_any.mono ?_
  rintro e w' ⟨rfl, rfl⟩
  go_wp2_with fail
  refine nilp_grant.mono ?_
  rintro e w ⟨rfl, rfl⟩
  go_wp2_with fail
  refine (counts_any w).mono ?_
  rintro e w1 ⟨rfl, hb1⟩
  have HB1 := Lib.hid hb1
  clear hb1
  go_wp2_with fail
  refine empty_any.mono ?_
  rintro e w' ⟨rfl, rfl⟩
  go_wp2_with fail
  refine nilp_left.mono ?_
  rintro e w1 ⟨rfl, rfl⟩
  go_wp2_with fail
  refine empty_any.mono ?_
  rintro e w' ⟨rfl, rfl⟩
  go_wp2_with fail
  refine nilp_take.mono ?_
  rintro e w1 ⟨rfl, rfl⟩
  go_wp2_with fail
  refine empty_any.mono ?_
  rintro e w' ⟨rfl, rfl⟩
  go_wp2_with fail
  refine nilp_spend.mono ?_
  rintro e w1 ⟨rfl, rfl⟩
  by_cases hbad : win < 1 ∨ 65536 < win
  · have hor : (decide (win < 1) || decide (65536 < win)) = true := by simpa using hbad
    go_wp2_with fail
    refine (purse_bad hbad).mono ?_
    rintro e w' ⟨rfl, rfl⟩
    rcases hbad with h | h
    · go_wp2
      go_ret
      exact ⟨rfl, HB1.out⟩
    · have h' : ¬ win < 1 := by omega
      go_wp2
      go_ret
      exact ⟨rfl, HB1.out⟩
  have h1 : 1 ≤ win := by omega
  have h2 : win ≤ 65536 := by omega
  have d1 : decide (win < 1) = false := by simp; omega
  have d2 : decide (65536 < win) = false := by simp; omega
  clear hbad
  go_wp2_with fail
  refine (purse_new h1 h2).mono ?_
  rintro e w2 ⟨rfl, hb2, hp2⟩
  have HB2 : Hid (Below w.heap.size w w2) := HB1.out.trans (hb2.mono HB1.out.size)
  have HP2 := Lib.hid hp2
  have HN1 : Hid (w.heap.size ≤ w1.heap.size) := HB1.out.size
  have HN2 : Hid (w1.heap.size < w2.heap.size) := hp2.lt
  clear hb2 hp2 HB1
  obtain ⟨p, hp⟩ : ∃ p, p = w1.heap.size := ⟨_, rfl⟩
  rw [← hp] at HP2 HN1 HN2 ⊢
  clear hp
  go_wp2
  have HM : Hid (Pu 55 (w2.alloc (.cells #[.int .i64 win, .int .i64 win, .int .i64 0, .int .i64 0, .int .i64 0, .int .i64 0] 55)) w2.heap.size ⟨win, win, 0, 0, 0, 0⟩) := heap_alloc_new w2 _
  have HP : Hid (Pu 62 (w2.alloc (.cells #[.int .i64 win, .int .i64 win, .int .i64 0, .int .i64 0, .int .i64 0, .int .i64 0] 55)) p ⟨win, win, 0, 0, 0, 0⟩) := HP2.out.keep ((Keep.refl w2 (fun _ => False)).alloc _) id
  have HB : Hid (Below w.heap.size w (w2.alloc (.cells #[.int .i64 win, .int .i64 win, .int .i64 0, .int .i64 0, .int .i64 0, .int .i64 0] 55))) := HB2.out.alloc HB2.out.size _
  have HL : Hid (w.heap.size ≤ p ∧ p < w2.heap.size) := ⟨HN1.out, HN2.out⟩
  clear HP2 HB2 HN1 HN2
  obtain ⟨m, hm⟩ : ∃ m, m = w2.heap.size := ⟨_, rfl⟩
  rw [← hm] at HM HL ⊢
  obtain ⟨w3, hw3⟩ : ∃ w3, w3 = w2.alloc (.cells #[.int .i64 win, .int .i64 win, .int .i64 0, .int .i64 0, .int .i64 0, .int .i64 0] 55) := ⟨_, rfl⟩
  rw [← hw3] at HM HP HB ⊢
  clear hw3 hm
  go_loopw [10] (fun i wr => ∃ (k : Nat) (P : PS), i = .int .i64 k ∧ k ≤ n ∧ k ≤ 80 ∧ P.Ok ∧ P.lim ≤ 65536 * (k + 1) ∧ Pu 62 wr p P ∧ Pu 55 wr m P ∧ Below w.heap.size w wr) (fun i _ => 80 - (intOf i).toNat)
  case atStart =>
    exact ⟨0, ⟨win, win, 0, 0, 0, 0⟩, rfl, Nat.zero_le _, by omega, ⟨by show 0 ≤ win; omega, h2, Int.le_refl 0, Int.le_refl 0, by show 0 ≤ win; omega, by show win ≤ _; omega, Int.le_refl 0, Int.le_refl 0, by show (0 : Int) ≤ 1099511627776; decide⟩, by show win ≤ _; simp; omega, HP.out, HM.out, HB.out⟩
  case round =>
    clear HP HM HB
    obtain ⟨k, P, rfl, hkn, hk80, hok, hlim, hp, hm, hb⟩ := hrel
    have HOK := Lib.hid hok
    have HLI := Lib.hid hlim
    have HP := Lib.hid hp
    have HM := Lib.hid hm
    have HB := Lib.hid hb
    clear hok hlim hp hm hb
    by_cases hlt : k < n ∧ k < 80
    · obtain ⟨hk1, hk2⟩ := hlt
      have hk1' : (k : Int) < n := by omega
      have hk2' : (k : Int) < 80 := by omega
      have dk : decide ((k : Int) < 80) = true := by simpa using hk2'
      have dn : decide ((k : Int) < n) = true := by simpa using hk1'
      obtain ⟨b, off, rfl, hbl, hcells⟩ := HX.out (by omega)
      obtain ⟨cx, cn, hn0, hn1⟩ := hcells k hk1
      have c0 : wr.cell? ⟨b, off + k * 2, none⟩ = some (.int .i64 (X k)) := (World.cell?_of_block (HB.out.block b hbl)).trans cx
      have c1 : wr.cell? ⟨b, off + k * 2 + 1, none⟩ = some (.int .i64 (N k)) := (World.cell?_of_block (HB.out.block b hbl)).trans cn
      obtain ⟨y, hy⟩ : ∃ y, y = N k := ⟨_, rfl⟩
      obtain ⟨x, hx⟩ : ∃ x, x = X k := ⟨_, rfl⟩
      rw [← hy] at c1 hn0 hn1
      rw [← hx] at c0
      clear cx cn hcells hbl hy hx
      by_cases x1 : x = 1
      · subst x1
        go_wp2_with fail
        refine (take_p y HP.out HOK.out).mono ?_
        rintro e w4 ⟨rfl, hq, hk4⟩
        have HQ4 := Lib.hid hq
        have HM4 : Hid (Pu 55 w4 m P) := HM.out.keep hk4 (fun e => by have := HL.out; omega)
        have HB4 : Hid (Below w.heap.size w w4) := HB.out.trans (hk4.below HB.out.size (fun j hj e => by have := HL.out; omega))
        clear hq hk4
        go_wp2_with fail
        refine (take_r y HM4.out HOK.out).mono ?_
        rintro e w5 ⟨rfl, hr, hk5⟩
        have HR := Lib.hid hr
        have HQ := Lib.hid (HQ4.out.keep hk5 (fun e => by have := HL.out; omega))
        have HC : Hid (Below w.heap.size w w5) := HB4.out.trans (hk5.below HB4.out.size (fun j hj e => by have := HL.out; omega))
        clear hr hk5 HQ4 HM4 HB4
        obtain ⟨P2, hP2⟩ : ∃ P2, P2 = takeS P y := ⟨_, rfl⟩
        have HO2 : Hid P2.Ok := by show PS.Ok P2; rw [hP2]; exact take_ok HOK.out
        have HL2 : Hid (P2.lim ≤ 65536 * (((k + 1 : Nat) : Int) + 1)) := by show P2.lim ≤ _; rw [hP2]; have hl := HLI.out; rw [take_lim]; omega
        rw [← hP2] at HQ HR
        clear hP2 HP HM HB HOK HLI
        have d4 : w5.cell? ⟨m, 4, none⟩ = some (.int .i64 P2.may) := HR.out.cell 4
        have d5 : w5.cell? ⟨m, 5, none⟩ = some (.int .i64 P2.sent) := HR.out.cell 5
        have ew : IntKind.i64.wrap (P2.may - P2.sent) = P2.may - P2.sent := IntWalk.i64_in _ (by have := HO2.out.s0; have := HO2.out.sm; have := HO2.out.m1; omega)
        go_wp2
        go_quiet ((go_at_call 27; exact Calls.quiet_of (left_p (HQ.out.mem rfl) HO2.out)))
        go_wp2
        go_roundw
        case rel => exact ⟨k + 1, P2, by go_num, by omega, by omega, HO2.out, HL2.out, HQ.out.mem rfl, HR.out.mem rfl, below_drewN HC.out nq⟩
        case measure => simp [intOf]; omega
      have e1 : (x == 1) = false := by simpa using x1
      clear x1
      by_cases x2 : x = 2
      · subst x2
        go_wp2_with fail
        refine (use_p y HP.out HOK.out).mono ?_
        rintro e w4 ⟨rfl, hq, hk4⟩
        have HQ4 := Lib.hid hq
        have HM4 : Hid (Pu 55 w4 m P) := HM.out.keep hk4 (fun e => by have := HL.out; omega)
        have HB4 : Hid (Below w.heap.size w w4) := HB.out.trans (hk4.below HB.out.size (fun j hj e => by have := HL.out; omega))
        clear hq hk4
        go_wp2_with fail
        refine (use_r y HM4.out HOK.out).mono ?_
        rintro e w5 ⟨rfl, hr, hk5⟩
        have HR := Lib.hid hr
        have HQ := Lib.hid (HQ4.out.keep hk5 (fun e => by have := HL.out; omega))
        have HC : Hid (Below w.heap.size w w5) := HB4.out.trans (hk5.below HB4.out.size (fun j hj e => by have := HL.out; omega))
        clear hr hk5 HQ4 HM4 HB4
        obtain ⟨P2, hP2⟩ : ∃ P2, P2 = useS P y := ⟨_, rfl⟩
        have HO2 : Hid P2.Ok := by show PS.Ok P2; rw [hP2]; exact use_ok HOK.out
        have HL2 : Hid (P2.lim ≤ 65536 * (((k + 1 : Nat) : Int) + 1)) := by show P2.lim ≤ _; rw [hP2]; have hl := HLI.out; rw [use_lim]; omega
        rw [← hP2] at HQ HR
        clear hP2 HP HM HB HOK HLI
        have d4 : w5.cell? ⟨m, 4, none⟩ = some (.int .i64 P2.may) := HR.out.cell 4
        have d5 : w5.cell? ⟨m, 5, none⟩ = some (.int .i64 P2.sent) := HR.out.cell 5
        have ew : IntKind.i64.wrap (P2.may - P2.sent) = P2.may - P2.sent := IntWalk.i64_in _ (by have := HO2.out.s0; have := HO2.out.sm; have := HO2.out.m1; omega)
        go_wp2
        go_quiet ((go_at_call 27; exact Calls.quiet_of (left_p (HQ.out.mem rfl) HO2.out)))
        go_wp2
        go_roundw
        case rel => exact ⟨k + 1, P2, by go_num, by omega, by omega, HO2.out, HL2.out, HQ.out.mem rfl, HR.out.mem rfl, below_drewN HC.out nq⟩
        case measure => simp [intOf]; omega
      have e2 : (x == 2) = false := by simpa using x2
      clear x2
      by_cases x3 : x = 3
      · subst x3
        go_wp2_with fail
        refine (grant_p HP.out HOK.out).mono ?_
        rintro e w4 ⟨rfl, hq, hk4⟩
        have HQ4 := Lib.hid hq
        have HM4 : Hid (Pu 55 w4 m P) := HM.out.keep hk4 (fun e => by have := HL.out; omega)
        have HB4 : Hid (Below w.heap.size w w4) := HB.out.trans (hk4.below HB.out.size (fun j hj e => by have := HL.out; omega))
        clear hq hk4
        go_wp2_with fail
        refine (grant_r HM4.out HOK.out).mono ?_
        rintro e w5 ⟨rfl, hr, hk5⟩
        have HR := Lib.hid hr
        have HQ := Lib.hid (HQ4.out.keep hk5 (fun e => by have := HL.out; omega))
        have HC : Hid (Below w.heap.size w w5) := HB4.out.trans (hk5.below HB4.out.size (fun j hj e => by have := HL.out; omega))
        clear hr hk5 HQ4 HM4 HB4
        obtain ⟨P2, hP2⟩ : ∃ P2, P2 = pgS P := ⟨_, rfl⟩
        have HO2 : Hid P2.Ok := by show PS.Ok P2; rw [hP2]; exact pg_ok HOK.out (by have := HLI.out; omega)
        have HL2 : Hid (P2.lim ≤ 65536 * (((k + 1 : Nat) : Int) + 1)) := by show P2.lim ≤ _; rw [hP2]; have hl := HLI.out; have := pg_lim HOK.out; omega
        rw [← hP2] at HQ HR ⊢
        clear hP2 HP HM HB HOK HLI
        have d4 : w5.cell? ⟨m, 4, none⟩ = some (.int .i64 P2.may) := HR.out.cell 4
        have d5 : w5.cell? ⟨m, 5, none⟩ = some (.int .i64 P2.sent) := HR.out.cell 5
        have ew : IntKind.i64.wrap (P2.may - P2.sent) = P2.may - P2.sent := IntWalk.i64_in _ (by have := HO2.out.s0; have := HO2.out.sm; have := HO2.out.m1; omega)
        go_wp2
        go_quiet ((go_at_call 27; exact Calls.quiet_of (left_p (HQ.out.mem rfl) HO2.out)))
        go_wp2
        go_roundw
        case rel => exact ⟨k + 1, P2, by go_num, by omega, by omega, HO2.out, HL2.out, HQ.out.mem rfl, HR.out.mem rfl, below_drewN HC.out nq⟩
        case measure => simp [intOf]; omega
      have e3 : (x == 3) = false := by simpa using x3
      clear x3
      by_cases x4 : x = 4
      · subst x4
        go_wp2_with fail
        refine (allow_p (n := y) HP.out).mono ?_
        rintro e w4 ⟨rfl, hq, hk4⟩
        have HQ4 := Lib.hid hq
        have HM4 : Hid (Pu 55 w4 m P) := HM.out.keep hk4 (fun e => by have := HL.out; omega)
        have HB4 : Hid (Below w.heap.size w w4) := HB.out.trans (hk4.below HB.out.size (fun j hj e => by have := HL.out; omega))
        have m4 : w4.cell? ⟨m, 4, none⟩ = some (.int .i64 P.may) := HM4.out.cell 4
        have g4 : w4.frozen? ⟨m, 4, none⟩ = false := HM4.out.free 4
        clear hq hk4
        go_wp2_with fail
        all_goals
          generalize hw5 : World.setCell w4 _ _ = w5
          have hr : Pu 55 w5 m { P with may := max P.may (min y 1099511627776) } ∧ Keep w4 w5 (fun k => k = m) := by
            rw [← hw5]
            exact HM4.out.put (by simp [pcells]; omega) ⟨rfl, rfl, rfl, rfl⟩
          have HR := Lib.hid hr.1
          have HQ := Lib.hid (HQ4.out.keep hr.2 (fun e => by have := HL.out; omega))
          have HC : Hid (Below w.heap.size w w5) := HB4.out.trans (hr.2.below HB4.out.size (fun j hj e => by have := HL.out; omega))
          clear hr hw5 HQ4 HM4 HB4 m4 g4
          obtain ⟨P2, hP2⟩ : ∃ P2, P2 = { P with may := max P.may (min y 1099511627776) } := ⟨_, rfl⟩
          have HO2 : Hid P2.Ok := by show PS.Ok P2; rw [hP2]; exact pallow_ok HOK.out
          have HL2 : Hid (P2.lim ≤ 65536 * (((k + 1 : Nat) : Int) + 1)) := by show P2.lim ≤ _; rw [hP2]; have hl := HLI.out; (show P.lim ≤ _; omega)
          rw [← hP2] at HQ HR
          clear hP2 HP HM HB HOK HLI
          have d4 : w5.cell? ⟨m, 4, none⟩ = some (.int .i64 P2.may) := HR.out.cell 4
          have d5 : w5.cell? ⟨m, 5, none⟩ = some (.int .i64 P2.sent) := HR.out.cell 5
          have ew : IntKind.i64.wrap (P2.may - P2.sent) = P2.may - P2.sent := IntWalk.i64_in _ (by have := HO2.out.s0; have := HO2.out.sm; have := HO2.out.m1; omega)
          go_quiet ((go_at_call 27; exact Calls.quiet_of (left_p (HQ.out.mem rfl) HO2.out)))
          go_wp2
          go_roundw
          case rel => exact ⟨k + 1, P2, by go_num, by omega, by omega, HO2.out, HL2.out, HQ.out.mem rfl, HR.out.mem rfl, below_drewN HC.out nq⟩
          case measure => simp [intOf]; omega
      have e4 : (x == 4) = false := by simpa using x4
      clear x4
      by_cases x5 : x = 5
      · subst x5
        go_wp2_with fail
        refine (spend_p y HP.out HOK.out).mono ?_
        rintro e w4 ⟨rfl, hq, hk4⟩
        have HQ4 := Lib.hid hq
        have HM4 : Hid (Pu 55 w4 m P) := HM.out.keep hk4 (fun e => by have := HL.out; omega)
        have HB4 : Hid (Below w.heap.size w w4) := HB.out.trans (hk4.below HB.out.size (fun j hj e => by have := HL.out; omega))
        clear hq hk4
        go_wp2_with fail
        refine (spend_r y HM4.out HOK.out).mono ?_
        rintro e w5 ⟨rfl, hr, hk5⟩
        have HR := Lib.hid hr
        have HQ := Lib.hid (HQ4.out.keep hk5 (fun e => by have := HL.out; omega))
        have HC : Hid (Below w.heap.size w w5) := HB4.out.trans (hk5.below HB4.out.size (fun j hj e => by have := HL.out; omega))
        clear hr hk5 HQ4 HM4 HB4
        obtain ⟨P2, hP2⟩ : ∃ P2, P2 = spendS P y := ⟨_, rfl⟩
        have HO2 : Hid P2.Ok := by show PS.Ok P2; rw [hP2]; exact spend_ok HOK.out
        have HL2 : Hid (P2.lim ≤ 65536 * (((k + 1 : Nat) : Int) + 1)) := by show P2.lim ≤ _; rw [hP2]; have hl := HLI.out; rw [spend_lim]; omega
        rw [← hP2] at HQ HR
        clear hP2 HP HM HB HOK HLI
        have d4 : w5.cell? ⟨m, 4, none⟩ = some (.int .i64 P2.may) := HR.out.cell 4
        have d5 : w5.cell? ⟨m, 5, none⟩ = some (.int .i64 P2.sent) := HR.out.cell 5
        have ew : IntKind.i64.wrap (P2.may - P2.sent) = P2.may - P2.sent := IntWalk.i64_in _ (by have := HO2.out.s0; have := HO2.out.sm; have := HO2.out.m1; omega)
        go_wp2
        go_quiet ((go_at_call 27; exact Calls.quiet_of (left_p (HQ.out.mem rfl) HO2.out)))
        go_wp2
        go_roundw
        case rel => exact ⟨k + 1, P2, by go_num, by omega, by omega, HO2.out, HL2.out, HQ.out.mem rfl, HR.out.mem rfl, below_drewN HC.out nq⟩
        case measure => simp [intOf]; omega
      have e5 : (x == 5) = false := by simpa using x5
      clear x5
      obtain ⟨w5, rfl⟩ : ∃ u, u = wr := ⟨_, rfl⟩
      have HR := Lib.hid HM.out
      have HQ := Lib.hid HP.out
      have HC := Lib.hid HB.out
      obtain ⟨P2, hP2⟩ : ∃ P2, P2 = P := ⟨_, rfl⟩
      have HO2 : Hid P2.Ok := by show PS.Ok P2; rw [hP2]; exact HOK.out
      have HL2 : Hid (P2.lim ≤ 65536 * (((k + 1 : Nat) : Int) + 1)) := by show P2.lim ≤ _; rw [hP2]; have hl := HLI.out; omega
      rw [← hP2] at HQ HR
      clear hP2 HP HM HB HOK HLI
      have d4 : w5.cell? ⟨m, 4, none⟩ = some (.int .i64 P2.may) := HR.out.cell 4
      have d5 : w5.cell? ⟨m, 5, none⟩ = some (.int .i64 P2.sent) := HR.out.cell 5
      have ew : IntKind.i64.wrap (P2.may - P2.sent) = P2.may - P2.sent := IntWalk.i64_in _ (by have := HO2.out.s0; have := HO2.out.sm; have := HO2.out.m1; omega)
      go_wp2
      go_quiet ((go_at_call 27; exact Calls.quiet_of (left_p (HQ.out.mem rfl) HO2.out)))
      go_wp2
      go_roundw
      case rel => exact ⟨k + 1, P2, by go_num, by omega, by omega, HO2.out, HL2.out, HQ.out.mem rfl, HR.out.mem rfl, below_drewN HC.out nq⟩
      case measure => simp [intOf]; omega
    · have hdn : (decide ((k : Int) < n) && decide ((k : Int) < 80)) = false := by simp; omega
      by_cases h : k < n
      · have dn : decide ((k : Int) < n) = true := by simp; omega
        have dk : decide ((k : Int) < 80) = false := by simp; omega
        clear hlt hdn
        go_wp2
        go_ret
        exact ⟨rfl, HB.out⟩
      · have dn : decide ((k : Int) < n) = false := by simp; omega
        clear hlt hdn
        go_wp2
        go_ret
        exact ⟨rfl, HB.out⟩
end Go.Proofs.Ytpaodflocbfghaa
