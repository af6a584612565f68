/-
  What came out of its order is read in it: flows (f7).
-/
import Derived.Test.YtjnekjjaofabeaaOe
namespace Go.Proofs.Ytjnekjjaofabeaa
open Go.RowKit Go.Rh Rng

def q1 : Rcv := takeR (rnew 100) 2 [99, 100] false
def q2 : Rcv := { q1 with read := readEnd q1 9 }
def q3 : Rcv := takeR q2 0 [97, 98] false
theorem q1_n : takeN (rnew 100) 2 [99, 100] = 4 := by decide +kernel
theorem q1_e : readEnd q1 9 = 0 := by decide +kernel
theorem q2_n : takeN q2 0 [97, 98] = 0 := by decide +kernel
theorem q3_e : readEnd q3 9 = 4 := by decide +kernel
theorem q1_b : q1.b = [0, 0, 99, 100] := by decide +kernel
theorem q2_b : q2.b = [0, 0, 99, 100] := by decide +kernel
theorem q3_b : q3.b = [97, 98, 99, 100] := by decide +kernel
theorem q1_c : q1.came = [(2, 3)] := by decide +kernel
theorem q2_c : q2.came = [(2, 3)] := by decide +kernel
theorem q3_c : q3.came = [(0, 3)] := by decide +kernel
theorem q_in : q1.gone = false ∧ q1.read = 0 ∧ q2.gone = false ∧ q2.known = false ∧ q2.limit = 100 ∧ q2.top = 4 ∧ q2.size = 0 ∧ q3.gone = false ∧ q3.read = 0 := by decide +kernel

set_option maxHeartbeats 1000000 in
set_option maxRecDepth 100000 in
theorem flows_any (w : World) : Calls Try.prog 7 #[] w fun e w' => e = .returned (.bool true) ∧ Below w.heap.size w w' := by
  obtain ⟨i1, i2, i3, i4, i5, i6, i7, i8, i9⟩ := q_in
  have I := Lib.hid (show q1.gone = false ∧ q1.read = 0 ∧ q2.gone = false ∧ q2.known = false ∧ q2.limit = 100 ∧ q2.top = 4 ∧ q2.size = 0 ∧ q3.gone = false ∧ q3.read = 0 from ⟨i1, i2, i3, i4, i5, i6, i7, i8, i9⟩)
  have t1 : ∀ (F : Nat → Prop) (W : World) (R : Nat), RcvAt F W R (rnew 100) → Calls Try.prog 9 #[.pointer (some ⟨R, 0, none⟩), .agg #[.int .i64 2, .string ⟨#[99, 100]⟩, .bool false]] W fun e w' => e = .returned (.tuple #[.int .i64 4, .int .i64 0]) ∧ RcvAt (More F W) w' R q1 ∧ Keep W w' F := fun F W R h => by
    have := take_any h (off := 2) (d := [99, 100]) (fin := false) (by decide) (by decide) (by intro s hs; cases hs) rfl (fun h => by cases h) (fun h => by cases h) (by decide) (by decide) (by decide)
    rw [q1_n] at this
    exact this
  have t2 : ∀ (F : Nat → Prop) (W : World) (R : Nat), RcvAt F W R q1 → Calls Try.prog 10 #[.pointer (some ⟨R, 0, none⟩), .int .i64 9] W fun e w' => e = .returned (.tuple #[.string ⟨#[]⟩, .bool false, .int .i64 0]) ∧ RcvAt (More F W) w' R q2 ∧ Keep W w' F := fun F W R h => by
    have := read_any h (m := 9) (by decide) (by decide) i1 (by rw [i2]; decide) (by rw [i2, q1_b]; decide) (by rw [q1_b]; decide) (by rw [q1_c]; intro s hs; simp at hs; subst hs; decide)
    rw [i2, q1_e, q1_b] at this
    refine this.mono ?_
    rintro e w' ⟨h1, h2⟩
    refine ⟨?_, ?_⟩
    · rw [h1]; rfl
    · rw [show q2 = { q1 with read := 0 } by rw [← q1_e]; rfl]; exact h2
  have t3 : ∀ (F : Nat → Prop) (W : World) (R : Nat), RcvAt F W R q2 → Calls Try.prog 9 #[.pointer (some ⟨R, 0, none⟩), .agg #[.int .i64 0, .string ⟨#[97, 98]⟩, .bool false]] W fun e w' => e = .returned (.tuple #[.int .i64 0, .int .i64 0]) ∧ RcvAt (More F W) w' R q3 ∧ Keep W w' F := fun F W R h => by
    have := take_any h (off := 0) (d := [97, 98]) (fin := false) (by decide) (by rw [q2_b]; decide) (by rw [q2_b, q2_c]; intro s hs; simp at hs; subst hs; decide) i3 (fun h => by rw [i4] at h; cases h) (fun h => by cases h) (by rw [i5]; decide) (by rw [i6]; decide) (by rw [i7]; decide)
    rw [q2_n] at this
    exact this
  have t4 : ∀ (F : Nat → Prop) (W : World) (R : Nat), RcvAt F W R q3 → Calls Try.prog 10 #[.pointer (some ⟨R, 0, none⟩), .int .i64 9] W fun e w' => (∃ b, e = .returned (.tuple #[.string ⟨#[97, 98, 99, 100]⟩, .bool b, .int .i64 0])) ∧ Keep W w' F := fun F W R h => by
    have := read_any h (m := 9) (by decide) (by decide) i8 (by rw [i9]; decide) (by rw [i9, q3_b]; decide) (by rw [q3_b]; decide) (by rw [q3_c]; intro s hs; simp at hs; subst hs; decide)
    rw [i9, q3_e, q3_b] at this
    refine this.mono ?_
    rintro e w' ⟨h1, h2, h3⟩
    exact ⟨⟨_, by rw [h1]; rfl⟩, h3⟩
  have T1 := Lib.hid t1
  have T2 := Lib.hid t2
  have T3 := Lib.hid t3
  have T4 := Lib.hid t4
  clear t1 t2 t3 t4 i1 i2 i3 i4 i5 i6 i7 i8 i9
  go_enter Try.func7, Try.ntmps7
  go_wp2_with fail
  go_wp2_with (first
    | (go_at_call 8; refine (newrecv_any _ 100 (by decide) (by decide)).mono ?_; rintro e w1 ⟨R, rfl, h1, hb1⟩; have H1 := Lib.hid h1; have HB1 := Lib.hid hb1; clear h1 hb1; have s1 := trivial)
    | (have := s1; go_at_call 9; refine (T1.out _ _ _ H1.out).mono ?_; rintro e w2 ⟨rfl, h2, k2⟩; have H2 := Lib.hid h2; have K2 := Lib.hid k2; clear h2 k2 s1; have s2 := trivial)
    | (have := s2; go_at_call 10; refine (T2.out _ _ _ H2.out).mono ?_; rintro e w3 ⟨rfl, h3, k3⟩; have H3 := Lib.hid h3; have K3 := Lib.hid k3; clear h3 k3 s2; have s3 := trivial)
    | (have := s3; go_at_call 9; refine (T3.out _ _ _ H3.out).mono ?_; rintro e w4 ⟨rfl, h4, k4⟩; have H4 := Lib.hid h4; have K4 := Lib.hid k4; clear h4 k4 s3; have s4 := trivial)
    | (have := s4; go_at_call 10; refine (T4.out _ _ _ H4.out).mono ?_; rintro e w5 ⟨⟨b, rfl⟩, k5⟩; have K5 := Lib.hid k5; clear k5 s4))
  go_ret
  refine ⟨rfl, ?_⟩
  have a1 : Keep w w1 (fun k => w.heap.size ≤ k) := Keep.of_below HB1.out (Nat.le_refl _) _
  have a2 := a1.trans K2.out (fun _ _ e => e)
  have a3 := a2.trans K3.out (fun k hk e => by rcases e with e | e; exact e; have := a1.size; omega)
  have a4 := a3.trans K4.out (fun k hk e => by rcases e with (e | e) | e; exact e; have := a1.size; omega; have := a2.size; omega)
  have a5 := a4.trans K5.out (fun k hk e => by rcases e with ((e | e) | e) | e; exact e; have := a1.size; omega; have := a2.size; omega; have := a3.size; omega)
  exact a5.below (Nat.le_refl _) (fun k hk e => by omega)
end Go.Proofs.Ytjnekjjaofabeaa
