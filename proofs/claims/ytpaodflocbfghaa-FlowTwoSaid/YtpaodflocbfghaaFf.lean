/-
  The document's doors as memory; its own, Open, Come, Leave, Grant.
-/
import Derived.Test.YtpaodflocbfghaaFe
namespace Go.Proofs.Ytpaodflocbfghaa
open Go.RowKit Go.Rh Go.Maps

def kindOf (s : Bool) : Int := if s then 1 else 0
def rcells (s : Bool) (S : DS) (v : Value) : Array Value := #[.bool s, .int .i64 S.most, .int .i64 S.own, .int .i64 S.may, .int .i64 S.theirs, .int .i64 S.count, v, .int .i64 S.left]
/-- The document's doors in memory: the block of numbers, the list of those that are through. -/
structure RDoor (w : World) (B m : Nat) (s : Bool) (S : DS) (v : Value) : Prop where
  kind : S.kind = kindOf s
  row : w.heap[m]? = some (.cells (rcells s S v) 36 (0, 0))
  own : Own w B v S.gone
  ne : v.ownBlock ≠ some m
  base : B ≤ m
theorem RDoor.keep {w w' : World} {B m : Nat} {s : Bool} {S : DS} {v : Value} {T : Nat → Prop} (h : RDoor w B m s S v) (k : Keep w w' T) (hm : ¬ T m) (hv : ∀ i, v.ownBlock = some i → ¬ T i) : RDoor w' B m s S v :=
  ⟨h.kind, (k.block m (heap_lt h.row) hm).trans h.row, h.own.keep k hv, h.ne, h.base⟩
theorem RDoor.cell {w : World} {B m : Nat} {s : Bool} {S : DS} {v : Value} (h : RDoor w B m s S v) (i : Nat) : w.cell? ⟨m, i, none⟩ = (rcells s S v)[i]? := cell_of_row w m i _ 36 _ h.row
theorem RDoor.free {w : World} {B m : Nat} {s : Bool} {S : DS} {v : Value} (h : RDoor w B m s S v) (i : Nat) : w.frozen? ⟨m, i, none⟩ = false := frozen_of_row _ _ _ _ _ h.row
theorem RDoor.lt {w : World} {B m : Nat} {s : Bool} {S : DS} {v : Value} (h : RDoor w B m s S v) : m < w.heap.size := heap_lt h.row
theorem RDoor.mem {w w' : World} {B m : Nat} {s : Bool} {S : DS} {v : Value} (h : RDoor w B m s S v) (e : w'.heap = w.heap) : RDoor w' B m s S v :=
  ⟨h.kind, by rw [e]; exact h.row, h.own.heap e, h.ne, h.base⟩
theorem RDoor.put {w w' : World} {B m i : Nat} {s : Bool} {S S' : DS} {v x : Value} (h : RDoor w B m s S v) (hs : (rcells s S v).setIfInBounds i x = rcells s S' v) (hg : S'.gone = S.gone) (hk : S'.kind = S.kind)
    (e : w'.heap = (w.setCell ⟨m, i, none⟩ x).heap ∧ w'.os = w.os ∧ w'.tape = w.tape ∧ w'.output = w.output) : RDoor w' B m s S' v ∧ Keep w w' (fun k => k = m) := by
  have hk1 : Keep w w' (fun k => k = m) := keep_same (keep_set w m i x) e
  refine ⟨⟨hk.trans h.kind, ?_, ?_, h.ne, h.base⟩, hk1⟩
  · rw [e.1, heap_setCell_same w m i _ 36 _ h.row, hs]
  · rw [hg]; exact h.own.keep hk1 (fun j hj e => h.ne (by rw [hj, e]))

theorem own_any {w : World} {B m : Nat} {s : Bool} {S : DS} {v : Value} {n k : Int} (h : RDoor w B m s S v) (hn : 0 ≤ n) (hk : n % 4 = k) (hk1 : k ≤ 1) :
    Calls Try.prog 33 #[.pointer (some ⟨m, 0, none⟩), .int .i64 n] w fun e w' => e = .returned (.bool (decide (k = S.kind))) ∧ w = w' := by
  have c0 : w.cell? ⟨m, 0, none⟩ = some (.bool s) := h.cell 0
  have hs := h.kind
  have e : Hid (((k == 1) == s) = decide (k = S.kind)) := by
    show _ = _
    rw [hs]
    have : k = 0 ∨ k = 1 := by omega
    rcases this with rfl | rfl <;> cases s <;> rfl
  rw [← e.out]
  clear h hs e
  go_enter Try.func33, Try.ntmps33
  go_wp2
  go_ret
  exact ⟨rfl, rfl⟩

theorem ropen_full {w : World} {B m : Nat} {s : Bool} {S : DS} {v : Value} (h : RDoor w B m s S v) (h1 : S.may ≤ S.own) :
    Calls Try.prog 15 #[.pointer (some ⟨m, 0, none⟩)] w fun e w' => e = .returned (.tuple #[.int .i64 0, .int .i64 6]) ∧ ∃ n, w' = w.drewN n := by
  have c2 : w.cell? ⟨m, 2, none⟩ = some (.int .i64 S.own) := h.cell 2
  have c3 : w.cell? ⟨m, 3, none⟩ = some (.int .i64 S.may) := h.cell 3
  clear h
  go_enter Try.func15, Try.ntmps15
  go_wp2
  go_quiet (fail)
  go_wp2
  go_ret2
  exact ⟨rfl, ⟨_, rfl⟩⟩
theorem ropen_new {w : World} {B m : Nat} {s : Bool} {S : DS} {v : Value} (h : RDoor w B m s S v) (h1 : S.own < S.may) (h0 : 0 ≤ S.own) (hm : S.may ≤ 1099511627776) :
    Calls Try.prog 15 #[.pointer (some ⟨m, 0, none⟩)] w fun e w' => e = .returned (.tuple #[.int .i64 (4 * S.own + S.kind), .int .i64 0]) ∧ RDoor w' B m s { S with own := S.own + 1 } v ∧ Keep w w' (fun k => k = m) := by
  have c0 : w.cell? ⟨m, 0, none⟩ = some (.bool s) := h.cell 0
  have c2 : w.cell? ⟨m, 2, none⟩ = some (.int .i64 S.own) := h.cell 2
  have c3 : w.cell? ⟨m, 3, none⟩ = some (.int .i64 S.may) := h.cell 3
  have f2 : w.frozen? ⟨m, 2, none⟩ = false := h.free 2
  have H := Lib.hid h
  have hk := h.kind
  cases s
  · have hk : S.kind = 0 := hk
    have HKD := Lib.hid hk
    clear h hk
    go_enter Try.func15, Try.ntmps15
    go_wp2
    go_quiet (fail)
    go_wp2
    go_ret2
    exact ⟨by rw [HKD.out]; simp, H.out.put (S' := { S with own := S.own + 1 }) rfl rfl rfl ⟨rfl, rfl, rfl, rfl⟩⟩
  · have hk : S.kind = 1 := hk
    have HKD := Lib.hid hk
    clear h hk
    go_enter Try.func15, Try.ntmps15
    go_wp2
    go_quiet (fail)
    go_wp2
    go_ret2
    exact ⟨by rw [HKD.out]; rfl, H.out.put (S' := { S with own := S.own + 1 }) rfl rfl rfl ⟨rfl, rfl, rfl, rfl⟩⟩
theorem ropen_any {w : World} {B m : Nat} {s : Bool} {S : DS} {v : Value} (h : RDoor w B m s S v) (ok : S.Ok) (hm : S.may ≤ 1099511627776) :
    Calls Try.prog 15 #[.pointer (some ⟨m, 0, none⟩)] w fun e w' => e = .returned (.tuple #[.int .i64 (openN S), .int .i64 (openE S)]) ∧ RDoor w' B m s (openS S) v ∧ Keep w w' (fun k => k = m) := by
  by_cases hlt : S.may ≤ S.own
  · refine (ropen_full h hlt).mono ?_
    rintro e w' ⟨rfl, nq, rfl⟩
    unfold openS openE openN
    rw [if_pos hlt, if_pos hlt, if_pos hlt]
    exact ⟨rfl, h.mem rfl, keep_same (Keep.refl _ _) ⟨rfl, rfl, rfl, rfl⟩⟩
  · refine (ropen_new h (by omega) ok.o0 hm).mono ?_
    rintro e w' ⟨rfl, hd, hk⟩
    unfold openS openE openN
    rw [if_neg hlt, if_neg hlt, if_neg hlt]
    exact ⟨rfl, hd, hk⟩

theorem rgrant_no {w : World} {B m : Nat} {s : Bool} {S : DS} {v : Value} (h : RDoor w B m s S v) (h1 : S.most ≤ S.count - S.left) (h2 : 0 ≤ S.left) (h3 : S.left ≤ 1099511627776) (h4 : 0 ≤ S.count) (h5 : S.count ≤ 1099511627776) :
    Calls Try.prog 20 #[.pointer (some ⟨m, 0, none⟩)] w fun e w' => e = .returned (.tuple #[.int .i64 S.count, .bool false]) ∧ ∃ n, w' = w.drewN n := by
  have c1 : w.cell? ⟨m, 1, none⟩ = some (.int .i64 S.most) := h.cell 1
  have c5 : w.cell? ⟨m, 5, none⟩ = some (.int .i64 S.count) := h.cell 5
  have c7 : w.cell? ⟨m, 7, none⟩ = some (.int .i64 S.left) := h.cell 7
  have e1 : IntKind.i64.wrap (S.count - S.left) = S.count - S.left := IntWalk.i64_in _ (by omega)
  have hlt : decide (S.most ≤ S.count - S.left) = true := by simpa using h1
  clear h
  go_enter Try.func20, Try.ntmps20
  go_wp2
  go_quiet (fail)
  go_wp2
  go_ret2
  exact ⟨rfl, ⟨_, rfl⟩⟩
theorem rgrant_yes {w : World} {B m : Nat} {s : Bool} {S : DS} {v : Value} (h : RDoor w B m s S v) (h1 : S.count - S.left < S.most) (h2 : 0 ≤ S.left) (h3 : S.left ≤ 1099511627776) (h4 : 0 ≤ S.count) (h5 : S.count ≤ 1099511627776) (h6 : 0 ≤ S.most) (h7 : S.most ≤ 1099511627776) :
    Calls Try.prog 20 #[.pointer (some ⟨m, 0, none⟩)] w fun e w' => e = .returned (.tuple #[.int .i64 (S.left + S.most), .bool true]) ∧ RDoor w' B m s { S with count := S.left + S.most } v ∧ Keep w w' (fun k => k = m) := by
  have c1 : w.cell? ⟨m, 1, none⟩ = some (.int .i64 S.most) := h.cell 1
  have c5 : w.cell? ⟨m, 5, none⟩ = some (.int .i64 S.count) := h.cell 5
  have c7 : w.cell? ⟨m, 7, none⟩ = some (.int .i64 S.left) := h.cell 7
  have e1 : IntKind.i64.wrap (S.count - S.left) = S.count - S.left := IntWalk.i64_in _ (by omega)
  have e2 : IntKind.i64.wrap (S.left + S.most) = S.left + S.most := IntWalk.i64_in _ (by omega)
  have hlt : decide (S.most ≤ S.count - S.left) = false := by simp; omega
  have H := Lib.hid h
  clear h
  go_enter Try.func20, Try.ntmps20
  go_wp2
  go_quiet (fail)
  go_wp2
  obtain ⟨w2, hw2⟩ : ∃ w2, w2 = w.drewN nq := ⟨_, rfl⟩
  rw [← hw2]
  have HW : Hid (w2.heap = w.heap ∧ w2.os = w.os ∧ w2.tape = w.tape ∧ w2.output = w.output) := by subst hw2; exact ⟨rfl, rfl, rfl, rfl⟩
  have H2 := H.out.mem HW.out.1
  have d1 : w2.cell? ⟨m, 1, none⟩ = some (.int .i64 S.most) := H2.cell 1
  have d7 : w2.cell? ⟨m, 7, none⟩ = some (.int .i64 S.left) := H2.cell 7
  have d5 : w2.cell? ⟨m, 5, none⟩ = some (.int .i64 S.count) := H2.cell 5
  have g5 : w2.frozen? ⟨m, 5, none⟩ = false := H2.free 5
  have HH2 := Lib.hid H2
  clear H2 hw2 c1 c5 c7 H
  go_still_tail 12, (by kernel_rfl)
  change wpList _ _ _ _ _ w2.drew
  go_wp2
  go_ret2
  obtain ⟨h1, h2⟩ := HH2.out.put (w' := (w2.drew).setCell ⟨m, 5, none⟩ (.int .i64 (S.left + S.most))) (S' := { S with count := S.left + S.most }) rfl rfl rfl ⟨rfl, rfl, rfl, rfl⟩
  exact ⟨rfl, h1, (keep_same (Keep.refl w _) HW.out).trans h2 (fun _ _ => id)⟩
theorem rgrant_any {w : World} {B m : Nat} {s : Bool} {S : DS} {v : Value} (h : RDoor w B m s S v) (ok : S.Ok) (hc : 0 ≤ S.count) (hm : 0 ≤ S.most) (hm2 : S.most ≤ 1099511627776) :
    Calls Try.prog 20 #[.pointer (some ⟨m, 0, none⟩)] w fun e w' => e = .returned (.tuple #[.int .i64 (grantS S).count, .bool (grantT S)]) ∧ RDoor w' B m s (grantS S) v ∧ Keep w w' (fun k => k = m) := by
  by_cases hlt : S.count - S.left < S.most
  · refine (rgrant_yes h hlt ok.l0 ok.l1 hc ok.c1 hm hm2).mono ?_
    rintro e w' ⟨rfl, hd, hk⟩
    unfold grantS grantT
    rw [if_pos hlt, decide_eq_true hlt]
    exact ⟨rfl, hd, hk⟩
  · refine (rgrant_no h (by omega) ok.l0 ok.l1 hc ok.c1).mono ?_
    rintro e w' ⟨rfl, nq, rfl⟩
    unfold grantS grantT
    rw [if_neg hlt, decide_eq_false hlt]
    exact ⟨rfl, h.mem rfl, keep_same (Keep.refl _ _) ⟨rfl, rfl, rfl, rfl⟩⟩
end Go.Proofs.Ytpaodflocbfghaa
