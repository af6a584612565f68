/-
  A purse as memory, the program's and the document's: Take, Use, Grant, Spend, Allow, Left, NewPurse; no purse at all.
-/
import Derived.Test.YtpaodflocbfghaaFb
namespace Go.Proofs.Ytpaodflocbfghaa
open Go.RowKit Go.Rh Go.Maps

/-- The numbers of a purse. -/
structure PS where
  win : Int
  lim : Int
  came : Int
  used : Int
  may : Int
  sent : Int
structure PS.Ok (P : PS) : Prop where
  w0 : 0 ≤ P.win
  w1 : P.win ≤ 65536
  u0 : 0 ≤ P.used
  uc : P.used ≤ P.came
  cl : P.came ≤ P.lim
  l1 : P.lim ≤ 1125899906842624
  s0 : 0 ≤ P.sent
  sm : P.sent ≤ P.may
  m1 : P.may ≤ 1099511627776
def pcells (P : PS) : Array Value := #[.int .i64 P.win, .int .i64 P.lim, .int .i64 P.came, .int .i64 P.used, .int .i64 P.may, .int .i64 P.sent]
/-- A purse in memory. -/
def Pu (T : Nat) (w : World) (p : Nat) (P : PS) : Prop := w.heap[p]? = some (.cells (pcells P) T (0, 0))
theorem Pu.keep {T : Nat} {w w' : World} {p : Nat} {P : PS} {S : Nat → Prop} (h : Pu T w p P) (k : Keep w w' S) (hp : ¬ S p) : Pu T w' p P := (k.block p (heap_lt h) hp).trans h
theorem Pu.cell {T : Nat} {w : World} {p : Nat} {P : PS} (h : Pu T w p P) (i : Nat) : w.cell? ⟨p, i, none⟩ = (pcells P)[i]? := cell_of_row w p i _ T _ h
theorem Pu.free {T : Nat} {w : World} {p : Nat} {P : PS} (h : Pu T w p P) (i : Nat) : w.frozen? ⟨p, i, none⟩ = false := frozen_of_row _ _ _ _ _ h
theorem Pu.lt {T : Nat} {w : World} {p : Nat} {P : PS} (h : Pu T w p P) : p < w.heap.size := heap_lt h
theorem Pu.mem {T : Nat} {w w' : World} {p : Nat} {P : PS} (h : Pu T w p P) (e : w'.heap = w.heap) : Pu T w' p P := by unfold Pu; rw [e]; exact h
theorem Pu.put {T : Nat} {w w' : World} {p i : Nat} {P P' : PS} {x : Value} (h : Pu T w p P) (hs : (pcells P).setIfInBounds i x = pcells P')
    (e : w'.heap = (w.setCell ⟨p, i, none⟩ x).heap ∧ w'.os = w.os ∧ w'.tape = w.tape ∧ w'.output = w.output) : Pu T w' p P' ∧ Keep w w' (fun k => k = p) := by
  refine ⟨?_, keep_same (keep_set w p i x) e⟩
  unfold Pu
  rw [e.1, heap_setCell_same w p i _ T _ h, hs]

def takeE (P : PS) (n : Int) : Int := if n < 0 then 1 else if P.lim - P.came < n then 11 else 0
def takeS (P : PS) (n : Int) : PS := if takeE P n = 0 then { P with came := P.came + n } else P
def useE (P : PS) (n : Int) : Int := if n < 0 ∨ P.came - P.used < n then 1 else 0
def useS (P : PS) (n : Int) : PS := if useE P n = 0 then { P with used := P.used + n } else P
def spendE (P : PS) (n : Int) : Int := if n < 0 then 1 else if P.may - P.sent < n then 11 else 0
def spendS (P : PS) (n : Int) : PS := if spendE P n = 0 then { P with sent := P.sent + n } else P
def pgT (P : PS) : Bool := decide (P.lim - P.used < P.win / 2)
def pgS (P : PS) : PS := if P.lim - P.used < P.win / 2 then { P with lim := P.used + P.win } else P

theorem take_p {w : World} {p : Nat} {P : PS} (n : Int) (h : Pu 62 w p P) (ok : P.Ok) :
    Calls Try.prog 23 #[.pointer (some ⟨p, 0, none⟩), .int .i64 n] w fun e w' => e = .returned (.int .i64 (takeE P n)) ∧ Pu 62 w' p (takeS P n) ∧ Keep w w' (fun k => k = p) := by
  have c1 : w.cell? ⟨p, 1, none⟩ = some (.int .i64 P.lim) := h.cell 1
  have c2 : w.cell? ⟨p, 2, none⟩ = some (.int .i64 P.came) := h.cell 2
  have f2 : w.frozen? ⟨p, 2, none⟩ = false := h.free 2
  obtain ⟨_, _, hu, huc, hcl, hl1, _, _, _⟩ := ok
  have e1 : IntKind.i64.wrap (P.lim - P.came) = P.lim - P.came := IntWalk.i64_in _ (by omega)
  have H := Lib.hid h
  clear h
  by_cases h1 : n < 0
  · have et : takeE P n = 1 := by unfold takeE; rw [if_pos h1]
    have es : takeS P n = P := by unfold takeS; rw [et, if_neg (by decide)]
    rw [et, es]
    clear et es
    go_enter Try.func23, Try.ntmps23
    go_wp2
    go_ret
    exact ⟨rfl, H.out, Keep.refl _ _⟩
  · by_cases h2 : P.lim - P.came < n
    · have et : takeE P n = 11 := by unfold takeE; rw [if_neg h1, if_pos h2]
      have es : takeS P n = P := by unfold takeS; rw [et, if_neg (by decide)]
      rw [et, es]
      clear et es
      have hd : decide (P.lim - P.came < n) = true := by simpa using h2
      have hd0 : decide (n < 0) = false := by simpa using h1
      go_enter Try.func23, Try.ntmps23
      go_wp2
      go_quiet (fail)
      go_wp2
      go_ret
      exact ⟨rfl, H.out.mem rfl, keep_same (Keep.refl _ _) ⟨rfl, rfl, rfl, rfl⟩⟩
    · have et : takeE P n = 0 := by unfold takeE; rw [if_neg h1, if_neg h2]
      have es : takeS P n = { P with came := P.came + n } := by unfold takeS; rw [et, if_pos rfl]
      rw [et, es]
      clear et es
      have hd : decide (P.lim - P.came < n) = false := by simpa using h2
      have hd0 : decide (n < 0) = false := by simpa using h1
      go_enter Try.func23, Try.ntmps23
      go_wp2
      go_quiet (fail)
      go_wp2
      go_ret
      exact ⟨rfl, H.out.put (P' := { P with came := P.came + n }) rfl ⟨rfl, rfl, rfl, rfl⟩⟩

theorem take_r {w : World} {p : Nat} {P : PS} (n : Int) (h : Pu 55 w p P) (ok : P.Ok) :
    Calls Try.prog 29 #[.pointer (some ⟨p, 0, none⟩), .int .i64 n] w fun e w' => e = .returned (.int .i64 (takeE P n)) ∧ Pu 55 w' p (takeS P n) ∧ Keep w w' (fun k => k = p) := by
  have c1 : w.cell? ⟨p, 1, none⟩ = some (.int .i64 P.lim) := h.cell 1
  have c2 : w.cell? ⟨p, 2, none⟩ = some (.int .i64 P.came) := h.cell 2
  have f2 : w.frozen? ⟨p, 2, none⟩ = false := h.free 2
  obtain ⟨_, _, hu, huc, hcl, hl1, _, _, _⟩ := ok
  have e1 : IntKind.i64.wrap (P.lim - P.came) = P.lim - P.came := IntWalk.i64_in _ (by omega)
  have H := Lib.hid h
  clear h
  by_cases h1 : n < 0
  · have et : takeE P n = 1 := by unfold takeE; rw [if_pos h1]
    have es : takeS P n = P := by unfold takeS; rw [et, if_neg (by decide)]
    rw [et, es]
    clear et es
    go_enter Try.func29, Try.ntmps29
    go_wp2
    go_ret
    exact ⟨rfl, H.out, Keep.refl _ _⟩
  · by_cases h2 : P.lim - P.came < n
    · have et : takeE P n = 11 := by unfold takeE; rw [if_neg h1, if_pos h2]
      have es : takeS P n = P := by unfold takeS; rw [et, if_neg (by decide)]
      rw [et, es]
      clear et es
      have hd : decide (P.lim - P.came < n) = true := by simpa using h2
      have hd0 : decide (n < 0) = false := by simpa using h1
      go_enter Try.func29, Try.ntmps29
      go_wp2
      go_quiet (fail)
      go_wp2
      go_ret
      exact ⟨rfl, H.out.mem rfl, keep_same (Keep.refl _ _) ⟨rfl, rfl, rfl, rfl⟩⟩
    · have et : takeE P n = 0 := by unfold takeE; rw [if_neg h1, if_neg h2]
      have es : takeS P n = { P with came := P.came + n } := by unfold takeS; rw [et, if_pos rfl]
      rw [et, es]
      clear et es
      have hd : decide (P.lim - P.came < n) = false := by simpa using h2
      have hd0 : decide (n < 0) = false := by simpa using h1
      go_enter Try.func29, Try.ntmps29
      go_wp2
      go_quiet (fail)
      go_wp2
      go_ret
      exact ⟨rfl, H.out.put (P' := { P with came := P.came + n }) rfl ⟨rfl, rfl, rfl, rfl⟩⟩

theorem use_p {w : World} {p : Nat} {P : PS} (n : Int) (h : Pu 62 w p P) (ok : P.Ok) :
    Calls Try.prog 24 #[.pointer (some ⟨p, 0, none⟩), .int .i64 n] w fun e w' => e = .returned (.int .i64 (useE P n)) ∧ Pu 62 w' p (useS P n) ∧ Keep w w' (fun k => k = p) := by
  have c2 : w.cell? ⟨p, 2, none⟩ = some (.int .i64 P.came) := h.cell 2
  have c3 : w.cell? ⟨p, 3, none⟩ = some (.int .i64 P.used) := h.cell 3
  have f3 : w.frozen? ⟨p, 3, none⟩ = false := h.free 3
  obtain ⟨_, _, hu, huc, hcl, hl1, _, _, _⟩ := ok
  have e1 : IntKind.i64.wrap (P.came - P.used) = P.came - P.used := IntWalk.i64_in _ (by omega)
  have H := Lib.hid h
  clear h
  by_cases h1 : n < 0
  · have et : useE P n = 1 := by unfold useE; rw [if_pos (.inl h1)]
    have es : useS P n = P := by unfold useS; rw [et, if_neg (by decide)]
    rw [et, es]
    clear et es
    have hd0 : decide (n < 0) = true := by simpa using h1
    go_enter Try.func24, Try.ntmps24
    go_wp2
    go_quiet (fail)
    go_wp2
    go_ret
    exact ⟨rfl, H.out.mem rfl, keep_same (Keep.refl _ _) ⟨rfl, rfl, rfl, rfl⟩⟩
  · by_cases h2 : P.came - P.used < n
    · have et : useE P n = 1 := by unfold useE; rw [if_pos (.inr h2)]
      have es : useS P n = P := by unfold useS; rw [et, if_neg (by decide)]
      rw [et, es]
      clear et es
      have hd : decide (P.came - P.used < n) = true := by simpa using h2
      have hd0 : decide (n < 0) = false := by simpa using h1
      go_enter Try.func24, Try.ntmps24
      go_wp2
      go_quiet (fail)
      go_wp2
      go_ret
      exact ⟨rfl, H.out.mem rfl, keep_same (Keep.refl _ _) ⟨rfl, rfl, rfl, rfl⟩⟩
    · have et : useE P n = 0 := by unfold useE; rw [if_neg (by omega)]
      have es : useS P n = { P with used := P.used + n } := by unfold useS; rw [et, if_pos rfl]
      rw [et, es]
      clear et es
      have hd : decide (P.came - P.used < n) = false := by simpa using h2
      have hd0 : decide (n < 0) = false := by simpa using h1
      go_enter Try.func24, Try.ntmps24
      go_wp2
      go_quiet (fail)
      go_wp2
      go_ret
      exact ⟨rfl, H.out.put (P' := { P with used := P.used + n }) rfl ⟨rfl, rfl, rfl, rfl⟩⟩

theorem use_r {w : World} {p : Nat} {P : PS} (n : Int) (h : Pu 55 w p P) (ok : P.Ok) :
    Calls Try.prog 30 #[.pointer (some ⟨p, 0, none⟩), .int .i64 n] w fun e w' => e = .returned (.int .i64 (useE P n)) ∧ Pu 55 w' p (useS P n) ∧ Keep w w' (fun k => k = p) := by
  have c2 : w.cell? ⟨p, 2, none⟩ = some (.int .i64 P.came) := h.cell 2
  have c3 : w.cell? ⟨p, 3, none⟩ = some (.int .i64 P.used) := h.cell 3
  have f3 : w.frozen? ⟨p, 3, none⟩ = false := h.free 3
  obtain ⟨_, _, hu, huc, hcl, hl1, _, _, _⟩ := ok
  have e1 : IntKind.i64.wrap (P.came - P.used) = P.came - P.used := IntWalk.i64_in _ (by omega)
  have H := Lib.hid h
  clear h
  by_cases h1 : n < 0
  · have et : useE P n = 1 := by unfold useE; rw [if_pos (.inl h1)]
    have es : useS P n = P := by unfold useS; rw [et, if_neg (by decide)]
    rw [et, es]
    clear et es
    have hd0 : decide (n < 0) = true := by simpa using h1
    go_enter Try.func30, Try.ntmps30
    go_wp2
    go_quiet (fail)
    go_wp2
    go_ret
    exact ⟨rfl, H.out.mem rfl, keep_same (Keep.refl _ _) ⟨rfl, rfl, rfl, rfl⟩⟩
  · by_cases h2 : P.came - P.used < n
    · have et : useE P n = 1 := by unfold useE; rw [if_pos (.inr h2)]
      have es : useS P n = P := by unfold useS; rw [et, if_neg (by decide)]
      rw [et, es]
      clear et es
      have hd : decide (P.came - P.used < n) = true := by simpa using h2
      have hd0 : decide (n < 0) = false := by simpa using h1
      go_enter Try.func30, Try.ntmps30
      go_wp2
      go_quiet (fail)
      go_wp2
      go_ret
      exact ⟨rfl, H.out.mem rfl, keep_same (Keep.refl _ _) ⟨rfl, rfl, rfl, rfl⟩⟩
    · have et : useE P n = 0 := by unfold useE; rw [if_neg (by omega)]
      have es : useS P n = { P with used := P.used + n } := by unfold useS; rw [et, if_pos rfl]
      rw [et, es]
      clear et es
      have hd : decide (P.came - P.used < n) = false := by simpa using h2
      have hd0 : decide (n < 0) = false := by simpa using h1
      go_enter Try.func30, Try.ntmps30
      go_wp2
      go_quiet (fail)
      go_wp2
      go_ret
      exact ⟨rfl, H.out.put (P' := { P with used := P.used + n }) rfl ⟨rfl, rfl, rfl, rfl⟩⟩

theorem grant_p {w : World} {p : Nat} {P : PS} (h : Pu 62 w p P) (ok : P.Ok) :
    Calls Try.prog 22 #[.pointer (some ⟨p, 0, none⟩)] w fun e w' => e = .returned (.tuple #[.int .i64 (pgS P).lim, .bool (pgT P)]) ∧ Pu 62 w' p (pgS P) ∧ Keep w w' (fun k => k = p) := by
  have c0 : w.cell? ⟨p, 0, none⟩ = some (.int .i64 P.win) := h.cell 0
  have c1 : w.cell? ⟨p, 1, none⟩ = some (.int .i64 P.lim) := h.cell 1
  have c3 : w.cell? ⟨p, 3, none⟩ = some (.int .i64 P.used) := h.cell 3
  have f1 : w.frozen? ⟨p, 1, none⟩ = false := h.free 1
  obtain ⟨hw0, hw1, hu, huc, hcl, hl1, _, _, _⟩ := ok
  have e1 : IntKind.i64.wrap (P.lim - P.used) = P.lim - P.used := IntWalk.i64_in _ (by omega)
  have e2 : IntKind.i64.wrap (P.used + P.win) = P.used + P.win := IntWalk.i64_in _ (by omega)
  have e3 : IntKind.i64.wrap (P.win / 2) = P.win / 2 := IntWalk.i64_in _ (by omega)
  have e4 : P.win.tdiv 2 = P.win / 2 := Int.tdiv_eq_ediv_of_nonneg hw0
  have H := Lib.hid h
  clear h
  by_cases hlt : P.lim - P.used < P.win / 2
  · have et : pgT P = true := decide_eq_true hlt
    have es : pgS P = { P with lim := P.used + P.win } := by unfold pgS; rw [if_pos hlt]
    rw [et, es]
    clear et es
    have hd : decide (P.lim - P.used < P.win / 2) = true := by simpa using hlt
    have hd' : decide (P.win / 2 ≤ P.lim - P.used) = false := by simpa using hlt
    go_enter Try.func22, Try.ntmps22
    go_wp2
    go_quiet (fail)
    go_wp2
    obtain ⟨w2, hw2⟩ : ∃ w2, w2 = w.drewN nq := ⟨_, rfl⟩
    rw [← hw2]
    have HW : Hid (w2.heap = w.heap ∧ w2.os = w.os ∧ w2.tape = w.tape ∧ w2.output = w.output) := by subst hw2; exact ⟨rfl, rfl, rfl, rfl⟩
    have H2 := H.out.mem HW.out.1
    have d0 : w2.cell? ⟨p, 0, none⟩ = some (.int .i64 P.win) := H2.cell 0
    have d1 : w2.cell? ⟨p, 1, none⟩ = some (.int .i64 P.lim) := H2.cell 1
    have d3 : w2.cell? ⟨p, 3, none⟩ = some (.int .i64 P.used) := H2.cell 3
    have g1 : w2.frozen? ⟨p, 1, none⟩ = false := H2.free 1
    have HH2 := Lib.hid H2
    clear H2 hw2 c0 c1 c3 f1 H
    go_still_tail 12, (by kernel_rfl)
    change wpList _ _ _ _ _ w2.drew
    go_wp2
    go_ret2
    obtain ⟨h1, h2⟩ := HH2.out.put (w' := (w2.drew).setCell ⟨p, 1, none⟩ (.int .i64 (P.used + P.win))) (P' := { P with lim := P.used + P.win }) rfl ⟨rfl, rfl, rfl, rfl⟩
    exact ⟨rfl, h1, (keep_same (Keep.refl w _) HW.out).trans h2 (fun _ _ => id)⟩
  · have et : pgT P = false := decide_eq_false hlt
    have es : pgS P = P := by unfold pgS; rw [if_neg hlt]
    rw [et, es]
    clear et es
    have hd : decide (P.lim - P.used < P.win / 2) = false := by simpa using hlt
    have hd' : decide (P.win / 2 ≤ P.lim - P.used) = true := by simpa using hlt
    go_enter Try.func22, Try.ntmps22
    go_wp2
    go_quiet (fail)
    go_wp2
    go_ret2
    exact ⟨rfl, H.out.mem rfl, keep_same (Keep.refl _ _) ⟨rfl, rfl, rfl, rfl⟩⟩

theorem grant_r {w : World} {p : Nat} {P : PS} (h : Pu 55 w p P) (ok : P.Ok) :
    Calls Try.prog 31 #[.pointer (some ⟨p, 0, none⟩)] w fun e w' => e = .returned (.tuple #[.int .i64 (pgS P).lim, .bool (pgT P)]) ∧ Pu 55 w' p (pgS P) ∧ Keep w w' (fun k => k = p) := by
  have c0 : w.cell? ⟨p, 0, none⟩ = some (.int .i64 P.win) := h.cell 0
  have c1 : w.cell? ⟨p, 1, none⟩ = some (.int .i64 P.lim) := h.cell 1
  have c3 : w.cell? ⟨p, 3, none⟩ = some (.int .i64 P.used) := h.cell 3
  have f1 : w.frozen? ⟨p, 1, none⟩ = false := h.free 1
  obtain ⟨hw0, hw1, hu, huc, hcl, hl1, _, _, _⟩ := ok
  have e1 : IntKind.i64.wrap (P.lim - P.used) = P.lim - P.used := IntWalk.i64_in _ (by omega)
  have e2 : IntKind.i64.wrap (P.used + P.win) = P.used + P.win := IntWalk.i64_in _ (by omega)
  have e3 : IntKind.i64.wrap (P.win / 2) = P.win / 2 := IntWalk.i64_in _ (by omega)
  have e4 : P.win.tdiv 2 = P.win / 2 := Int.tdiv_eq_ediv_of_nonneg hw0
  have H := Lib.hid h
  clear h
  by_cases hlt : P.lim - P.used < P.win / 2
  · have et : pgT P = true := decide_eq_true hlt
    have es : pgS P = { P with lim := P.used + P.win } := by unfold pgS; rw [if_pos hlt]
    rw [et, es]
    clear et es
    have hd : decide (P.lim - P.used < P.win / 2) = true := by simpa using hlt
    have hd' : decide (P.win / 2 ≤ P.lim - P.used) = false := by simpa using hlt
    go_enter Try.func31, Try.ntmps31
    go_wp2
    go_quiet (fail)
    go_wp2
    obtain ⟨w2, hw2⟩ : ∃ w2, w2 = w.drewN nq := ⟨_, rfl⟩
    rw [← hw2]
    have HW : Hid (w2.heap = w.heap ∧ w2.os = w.os ∧ w2.tape = w.tape ∧ w2.output = w.output) := by subst hw2; exact ⟨rfl, rfl, rfl, rfl⟩
    have H2 := H.out.mem HW.out.1
    have d0 : w2.cell? ⟨p, 0, none⟩ = some (.int .i64 P.win) := H2.cell 0
    have d1 : w2.cell? ⟨p, 1, none⟩ = some (.int .i64 P.lim) := H2.cell 1
    have d3 : w2.cell? ⟨p, 3, none⟩ = some (.int .i64 P.used) := H2.cell 3
    have g1 : w2.frozen? ⟨p, 1, none⟩ = false := H2.free 1
    have HH2 := Lib.hid H2
    clear H2 hw2 c0 c1 c3 f1 H
    go_still_tail 12, (by kernel_rfl)
    change wpList _ _ _ _ _ w2.drew
    go_wp2
    go_ret2
    obtain ⟨h1, h2⟩ := HH2.out.put (w' := (w2.drew).setCell ⟨p, 1, none⟩ (.int .i64 (P.used + P.win))) (P' := { P with lim := P.used + P.win }) rfl ⟨rfl, rfl, rfl, rfl⟩
    exact ⟨rfl, h1, (keep_same (Keep.refl w _) HW.out).trans h2 (fun _ _ => id)⟩
  · have et : pgT P = false := decide_eq_false hlt
    have es : pgS P = P := by unfold pgS; rw [if_neg hlt]
    rw [et, es]
    clear et es
    have hd : decide (P.lim - P.used < P.win / 2) = false := by simpa using hlt
    have hd' : decide (P.win / 2 ≤ P.lim - P.used) = true := by simpa using hlt
    go_enter Try.func31, Try.ntmps31
    go_wp2
    go_quiet (fail)
    go_wp2
    go_ret2
    exact ⟨rfl, H.out.mem rfl, keep_same (Keep.refl _ _) ⟨rfl, rfl, rfl, rfl⟩⟩

theorem spend_r {w : World} {p : Nat} {P : PS} (n : Int) (h : Pu 55 w p P) (ok : P.Ok) :
    Calls Try.prog 32 #[.pointer (some ⟨p, 0, none⟩), .int .i64 n] w fun e w' => e = .returned (.int .i64 (spendE P n)) ∧ Pu 55 w' p (spendS P n) ∧ Keep w w' (fun k => k = p) := by
  have c1 : w.cell? ⟨p, 4, none⟩ = some (.int .i64 P.may) := h.cell 4
  have c2 : w.cell? ⟨p, 5, none⟩ = some (.int .i64 P.sent) := h.cell 5
  have f2 : w.frozen? ⟨p, 5, none⟩ = false := h.free 5
  obtain ⟨_, _, _, _, _, _, hu, huc, hl1⟩ := ok
  have e1 : IntKind.i64.wrap (P.may - P.sent) = P.may - P.sent := IntWalk.i64_in _ (by omega)
  have H := Lib.hid h
  clear h
  by_cases h1 : n < 0
  · have et : spendE P n = 1 := by unfold spendE; rw [if_pos h1]
    have es : spendS P n = P := by unfold spendS; rw [et, if_neg (by decide)]
    rw [et, es]
    clear et es
    go_enter Try.func32, Try.ntmps32
    go_wp2
    go_ret
    exact ⟨rfl, H.out, Keep.refl _ _⟩
  · by_cases h2 : P.may - P.sent < n
    · have et : spendE P n = 11 := by unfold spendE; rw [if_neg h1, if_pos h2]
      have es : spendS P n = P := by unfold spendS; rw [et, if_neg (by decide)]
      rw [et, es]
      clear et es
      have hd : decide (P.may - P.sent < n) = true := by simpa using h2
      have hd0 : decide (n < 0) = false := by simpa using h1
      go_enter Try.func32, Try.ntmps32
      go_wp2
      go_quiet (fail)
      go_wp2
      go_ret
      exact ⟨rfl, H.out.mem rfl, keep_same (Keep.refl _ _) ⟨rfl, rfl, rfl, rfl⟩⟩
    · have et : spendE P n = 0 := by unfold spendE; rw [if_neg h1, if_neg h2]
      have es : spendS P n = { P with sent := P.sent + n } := by unfold spendS; rw [et, if_pos rfl]
      rw [et, es]
      clear et es
      have hd : decide (P.may - P.sent < n) = false := by simpa using h2
      have hd0 : decide (n < 0) = false := by simpa using h1
      go_enter Try.func32, Try.ntmps32
      go_wp2
      go_quiet (fail)
      go_wp2
      go_ret
      exact ⟨rfl, H.out.put (P' := { P with sent := P.sent + n }) rfl ⟨rfl, rfl, rfl, rfl⟩⟩

theorem left_p {w : World} {p : Nat} {P : PS} (h : Pu 62 w p P) (ok : P.Ok) : Calls Try.prog 27 #[.pointer (some ⟨p, 0, none⟩)] w fun e w' => e = .returned (.int .i64 (P.may - P.sent)) ∧ ∃ k, w' = w.drewN k := by
  have c4 : w.cell? ⟨p, 4, none⟩ = some (.int .i64 P.may) := h.cell 4
  have c5 : w.cell? ⟨p, 5, none⟩ = some (.int .i64 P.sent) := h.cell 5
  obtain ⟨_, _, _, _, _, _, hu, huc, hl1⟩ := ok
  have e1 : IntKind.i64.wrap (P.may - P.sent) = P.may - P.sent := IntWalk.i64_in _ (by omega)
  clear h
  go_enter Try.func27, Try.ntmps27
  go_wp2
  go_quiet (fail)
  go_wp2
  go_ret
  exact ⟨rfl, _, rfl⟩
theorem spend_p {w : World} {p : Nat} {P : PS} (n : Int) (h : Pu 62 w p P) (ok : P.Ok) :
    Calls Try.prog 28 #[.pointer (some ⟨p, 0, none⟩), .int .i64 n] w fun e w' => e = .returned (.int .i64 (spendE P n)) ∧ Pu 62 w' p (spendS P n) ∧ Keep w w' (fun k => k = p) := by
  have H := Lib.hid h
  have HK := Lib.hid ok
  obtain ⟨_, _, _, _, _, _, hu, huc, hl1⟩ := ok
  clear h
  by_cases h1 : n < 0
  · have et : spendE P n = 1 := by unfold spendE; rw [if_pos h1]
    have es : spendS P n = P := by unfold spendS; rw [et, if_neg (by decide)]
    rw [et, es]
    clear et es
    have hd0 : decide (n < 0) = true := by simpa using h1
    go_enter Try.func28, Try.ntmps28
    go_wp2
    go_ret
    exact ⟨rfl, H.out, Keep.refl _ _⟩
  · have hd0 : decide (n < 0) = false := by simpa using h1
    by_cases h2 : P.may - P.sent < n
    · have et : spendE P n = 11 := by unfold spendE; rw [if_neg h1, if_pos h2]
      have es : spendS P n = P := by unfold spendS; rw [et, if_neg (by decide)]
      rw [et, es]
      clear et es
      have hd : decide (P.may - P.sent < n) = true := by simpa using h2
      go_enter Try.func28, Try.ntmps28
      go_wp2_with fail
      refine (left_p H.out HK.out).mono ?_
      rintro e w' ⟨rfl, k, rfl⟩
      go_wp2
      go_ret
      exact ⟨rfl, H.out.mem rfl, keep_same (Keep.refl _ _) ⟨rfl, rfl, rfl, rfl⟩⟩
    · have et : spendE P n = 0 := by unfold spendE; rw [if_neg h1, if_neg h2]
      have es : spendS P n = { P with sent := P.sent + n } := by unfold spendS; rw [et, if_pos rfl]
      rw [et, es]
      clear et es
      have hd : decide (P.may - P.sent < n) = false := by simpa using h2
      go_enter Try.func28, Try.ntmps28
      go_wp2_with fail
      refine (left_p H.out HK.out).mono ?_
      rintro e w' ⟨rfl, k, rfl⟩
      have H2 : Hid (Pu 62 (w.drewN k) p P) := H.out.mem rfl
      have c5 : (w.drewN k).cell? ⟨p, 5, none⟩ = some (.int .i64 P.sent) := H2.out.cell 5
      have f5 : (w.drewN k).frozen? ⟨p, 5, none⟩ = false := H2.out.free 5
      go_wp2
      go_ret
      exact ⟨rfl, H.out.put (P' := { P with sent := P.sent + n }) rfl ⟨rfl, rfl, rfl, rfl⟩⟩
theorem allow_p {w : World} {p : Nat} {P : PS} {n : Int} (h : Pu 62 w p P) :
    Calls Try.prog 26 #[.pointer (some ⟨p, 0, none⟩), .int .i64 n] w fun e w' => e = .returned (.tuple #[]) ∧ Pu 62 w' p { P with may := max P.may (min n 1099511627776) } ∧ Keep w w' (fun k => k = p) := by
  have c4 : w.cell? ⟨p, 4, none⟩ = some (.int .i64 P.may) := h.cell 4
  have f4 : w.frozen? ⟨p, 4, none⟩ = false := h.free 4
  have H := Lib.hid h
  clear h
  go_enter Try.func26, Try.ntmps26
  go_wp2
  all_goals
    go_end0
    refine ⟨rfl, H.out.put (P' := { P with may := max P.may (min n 1099511627776) }) ?_ ⟨rfl, rfl, rfl, rfl⟩⟩
    simp [pcells]; omega
theorem purse_bad {w : World} {m : Int} (h : m < 1 ∨ 65536 < m) : Calls Try.prog 21 #[.int .i64 m] w fun e w' => e = .returned (.tuple #[.pointer none, .int .i64 1]) ∧ w' = w := by
  rcases h with h | h
  · go_enter Try.func21, Try.ntmps21
    go_wp2
    go_ret2
    exact ⟨rfl, rfl⟩
  · have h' : ¬ m < 1 := by omega
    go_enter Try.func21, Try.ntmps21
    go_wp2
    go_ret2
    exact ⟨rfl, rfl⟩
theorem purse_new {w : World} {m : Int} (h1 : 1 ≤ m) (h2 : m ≤ 65536) : Calls Try.prog 21 #[.int .i64 m] w fun e w' => e = .returned (.tuple #[.pointer (some ⟨w.heap.size, 0, none⟩), .int .i64 0]) ∧ Below w.heap.size w w' ∧ Pu 62 w' w.heap.size ⟨m, m, 0, 0, 0, 0⟩ := by
  go_enter Try.func21, Try.ntmps21
  go_wp2
  go_ret2
  exact ⟨rfl, (Below.refl _ _).alloc (Nat.le_refl _) _, heap_alloc_new w _⟩
theorem nilp_allow {w : World} {n : Int} : Calls Try.prog 26 #[.pointer none, .int .i64 n] w fun e w' => e = .returned (.tuple #[]) ∧ w' = w := by
  go_enter Try.func26, Try.ntmps26
  go_wp2
  go_end0
  exact ⟨rfl, rfl⟩
theorem nilp_grant {w : World} : Calls Try.prog 22 #[.pointer none] w fun e w' => e = .returned (.tuple #[.int .i64 0, .bool false]) ∧ w' = w := by
  go_enter Try.func22, Try.ntmps22
  go_wp2
  go_ret2
  exact ⟨rfl, rfl⟩
theorem nilp_left {w : World} : Calls Try.prog 27 #[.pointer none] w fun e w' => e = .returned (.int .i64 0) ∧ w' = w := by
  go_enter Try.func27, Try.ntmps27
  go_wp2
  go_ret
  exact ⟨rfl, rfl⟩
theorem nilp_take {w : World} {n : Int} : Calls Try.prog 23 #[.pointer none, .int .i64 n] w fun e w' => e = .returned (.int .i64 1) ∧ w' = w := by
  go_enter Try.func23, Try.ntmps23
  go_wp2
  go_ret
  exact ⟨rfl, rfl⟩
theorem nilp_spend {w : World} {n : Int} : Calls Try.prog 28 #[.pointer none, .int .i64 n] w fun e w' => e = .returned (.int .i64 1) ∧ w' = w := by
  go_enter Try.func28, Try.ntmps28
  go_wp2
  go_ret
  exact ⟨rfl, rfl⟩
theorem empty_any {w : World} : Calls Try.prog 25 #[] w fun e w' => e = .returned (.pointer none) ∧ w' = w := by
  go_enter Try.func25, Try.ntmps25
  go_wp2
  go_ret
  exact ⟨rfl, rfl⟩
end Go.Proofs.Ytpaodflocbfghaa
