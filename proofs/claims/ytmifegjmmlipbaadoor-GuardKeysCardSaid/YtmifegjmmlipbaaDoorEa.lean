/-
  The guard's functions of text: labels, Next, First, Reset.
-/
import Derived.Test.YtmifegjmmlipbaaDoorDg
namespace Go.Proofs.YtmifegjmmlipbaaDoor
open Go.RowKit Go.Rh Sha
attribute [local go_sem] S8_append S8_size

/-- A label's bytes, without context. -/
def gl (l lab : List UInt8) (n : Nat) : List UInt8 := labR l lab [] n
def nKey : List UInt8 := [113, 117, 105, 99, 32, 107, 101, 121]
def nIv : List UInt8 := [113, 117, 105, 99, 32, 105, 118]
def nHp : List UInt8 := [113, 117, 105, 99, 32, 104, 112]
def nKu : List UInt8 := [113, 117, 105, 99, 32, 107, 117]
def nCl : List UInt8 := [99, 108, 105, 101, 110, 116, 32, 105, 110]
def nSv : List UInt8 := [115, 101, 114, 118, 101, 114, 32, 105, 110]
def salt : List UInt8 := [56, 118, 44, 247, 245, 89, 52, 179, 77, 23, 154, 230, 164, 200, 12, 173, 204, 187, 127, 10]

set_option maxRecDepth 100000 in
theorem glabel_any {w : World} {ok : Nat → Prop} {v : Value} {l lab : List UInt8} {n : Nat} (hL : Laid w) (hv : Bs ok w v l) (hb : l.length ≤ 70368744177664) :
    Calls Tryd.prog 52 #[v, .string (S8 lab), .int .i64 n] w fun e w' => e = .returned (.string (S8 (gl l lab n))) ∧ Below w.heap.size w w' := by
  have HS := Lib.hid (St.start hL)
  have HV := Lib.hid hv
  have HB := Lib.hid hb
  obtain ⟨A, n0, c, rfl, hn, hc, hbk⟩ := hv
  clear hn hc hbk hL hb
  go_enter Tryd.func52, Tryd.ntmps52
  go_wp2_with fail
  refine (label_g HS.out HV.out (bs_nil w) HB.out).mono ?_
  rintro e w1 ⟨A1, n1, c1, rfl, -, ho, -, hs⟩
  have HS1 := Lib.hid hs
  have hcv : (convert 22 9 (.slice A1 n1 c1)).run Tryd.prog w1 = .ok (.string (S8 (gl l lab n))) w1 := run_string_bs Tryd.underlying22 Tryd.underlying5 Tryd.underlying9 ho.bs
  clear hs ho
  go_wp2
  go_ret
  exact ⟨rfl, HS1.out.below⟩
set_option maxRecDepth 100000 in
theorem rlabel_any (l lab : List UInt8) (n : Nat) (hb : l.length ≤ 70368744177664) (w : World) :
    Calls Tryd.prog 51 #[.string (S8 l), .string (S8 lab), .int .i64 n] w fun e w' => e = .returned (.string (S8 (gl l lab n))) ∧ Below w.heap.size w w' := by
  have HB := Lib.hid hb
  clear hb
  go_enter Tryd.func51, Tryd.ntmps51
  go_wp2_with fail
  refine (doclabel_g l lab [] n HB.out w).mono ?_
  rintro e w1 ⟨rfl, hb1⟩
  have HB1 := Lib.hid hb1
  clear hb1
  go_wp2
  go_ret
  exact ⟨rfl, HB1.out⟩
theorem st_glabel {B : Nat} {w0 w : World} {xs : List (Nat × Option Nat × List UInt8)} {ok : Nat → Prop} {v : Value} {l lab : List UInt8} {n : Nat} (H : St B w0 w xs) (hv : Bs ok w v l) (hb : l.length ≤ 70368744177664) :
    Calls Tryd.prog 52 #[v, .string (S8 lab), .int .i64 n] w fun e w' => e = .returned (.string (S8 (gl l lab n))) ∧ Below w.heap.size w w' ∧ St B w0 w' xs := by
  refine (glabel_any H.laid hv hb).mono ?_
  rintro e w' ⟨rfl, h⟩
  exact ⟨rfl, h, H.step h⟩
theorem st_rlabel {B : Nat} {w0 w : World} {xs : List (Nat × Option Nat × List UInt8)} {l lab : List UInt8} {n : Nat} (H : St B w0 w xs) (hb : l.length ≤ 70368744177664) :
    Calls Tryd.prog 51 #[.string (S8 l), .string (S8 lab), .int .i64 n] w fun e w' => e = .returned (.string (S8 (gl l lab n))) ∧ Below w.heap.size w w' ∧ St B w0 w' xs := by
  refine (rlabel_any l lab n hb w).mono ?_
  rintro e w' ⟨rfl, h⟩
  exact ⟨rfl, h, H.step h⟩
/-- The next secret; its error. -/
def nextR (s : List UInt8) : List UInt8 := if s.length = 32 then gl s nKu 32 else []
def argE (b : Prop) [Decidable b] : Int := if b then 0 else 1
set_option maxRecDepth 100000 in
theorem docnext_any {B : Nat} {w0 w : World} {xs : List (Nat × Option Nat × List UInt8)} (H : St B w0 w xs) (s : List UInt8) (hb : s.length ≤ 70368744177664) :
    Calls Tryd.prog 41 #[.string (S8 s)] w fun e w' => e = .returned (.tuple #[.string (S8 (nextR s)), .int .i64 (argE (s.length = 32))]) ∧ St B w0 w' xs := by
  have HS := Lib.hid H
  have HB := Lib.hid hb
  clear H hb
  unfold nextR argE
  by_cases h : s.length = 32
  · rw [if_pos h, if_pos h]
    have hI : (s.length : Int) = 32 := by omega
    clear h
    go_enter Tryd.func41, Tryd.ntmps41
    go_wp2_with fail
    refine (st_rlabel (lab := nKu) (n := 32) HS.out HB.out).mono ?_
    rintro e w1 ⟨rfl, -, hs⟩
    have HS1 := Lib.hid hs
    clear hs
    go_wp2
    go_ret2
    exact ⟨rfl, HS1.out⟩
  · rw [if_neg h, if_neg h]
    have hI : ((s.length : Int) != 32) = true := by simp; omega
    clear h
    go_enter Tryd.func41, Tryd.ntmps41
    go_wp2
    go_ret2
    exact ⟨rfl, HS.out⟩
set_option maxRecDepth 100000 in
theorem next_any {B : Nat} {w0 w : World} {xs : List (Nat × Option Nat × List UInt8)} (H : St B w0 w xs) (s : List UInt8) (hb : s.length ≤ 70368744177664) :
    Calls Tryd.prog 42 #[.string (S8 s)] w fun e w' => e = .returned (.tuple #[.string (S8 (nextR s)), .int .i64 (argE (s.length = 32))]) ∧ St B w0 w' xs := by
  have HS := Lib.hid H
  have HB := Lib.hid hb
  unfold nextR argE
  by_cases h : s.length = 32
  · rw [if_pos h, if_pos h]
    have hI : (s.length : Int) = 32 := by omega
    obtain ⟨v, w1, hcv, hown, hbel, _⟩ := run_bytes_S8 (P := Tryd.prog) Tryd.underlying9 Tryd.underlying22 Tryd.underlying5 s w
    have HS1 := Lib.hid (H.step hbel)
    have HV1 := Lib.hid hown.bs
    clear h H hb hown hbel
    go_enter Tryd.func42, Tryd.ntmps42
    go_wp2_with fail
    refine (st_glabel (lab := nKu) (n := 32) HS1.out HV1.out HB.out).mono ?_
    rintro e w2 ⟨rfl, -, hs⟩
    have HS2 := Lib.hid hs
    clear hs
    go_wp2
    go_ret2
    exact ⟨rfl, HS2.out⟩
  · rw [if_neg h, if_neg h]
    have hI : ((s.length : Int) != 32) = true := by simp; omega
    clear h H hb
    go_enter Tryd.func42, Tryd.ntmps42
    go_wp2
    go_ret2
    exact ⟨rfl, HS.out⟩
end Go.Proofs.YtmifegjmmlipbaaDoor
