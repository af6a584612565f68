/-
  Extract; Expand beside other things; the test of the first bytes.
-/
import Derived.Test.YtmifegjmmlipbaaDoorDb
namespace Go.Proofs.YtmifegjmmlipbaaDoor
open Go.RowKit Go.Rh Sha

theorem bs_cell {w : World} {b : Nat} {x : UInt8} {fr : Nat × Nat} (h : w.heap[b]? = some (.cells #[.int .u8 (ub x)] 5 fr)) : Bs (fun k => k = b) w (.slice (some ⟨b, 0, none⟩) 1 1) [x] :=
  ⟨_, _, _, rfl, rfl, Nat.le_refl _, fun _ => ⟨b, 0, rfl, rfl, fun j hj => by
    obtain rfl : j = 0 := by omega
    rw [cell_of_row _ _ _ _ 5 _ h]; rfl⟩⟩
theorem bs_nil (w : World) : Bs (fun _ => False) w (.slice none 0 0) [] := ⟨_, _, _, rfl, rfl, Nat.le_refl _, fun h => absurd h (Nat.lt_irrefl _)⟩
theorem st_expand {B : Nat} {w0 w : World} {xs : List (Nat × Option Nat × List UInt8)} {ok ok' : Nat → Prop} {v x : Value} {l m : List UInt8} {N : Nat} (H : St B w0 w xs) (hv : Bs ok w v l) (hx : Bs ok' w x m) (hb : l.length ≤ 70368744177664) (hb2 : m.length ≤ 70368744177000) (hN : (N : Int) ≤ 8160) :
    Calls Tryd.prog 26 #[v, x, .int .i64 N] w fun e w' => ∃ A n c, e = .returned (.tuple #[.slice A n c, .int .i64 0]) ∧ n = N ∧ Own w' w.heap.size (.slice A n c) (expand l m N) ∧ Below w.heap.size w w' ∧ St B w0 w' xs := by
  refine (expand_any H.laid hv hx hb hb2 hN).mono ?_
  rintro e w' ⟨A, n, c, rfl, rfl, h1, h2⟩
  exact ⟨A, n, c, rfl, rfl, h1, h2, H.step h2⟩

set_option maxRecDepth 100000 in
theorem extract_any {w : World} {ok ok' : Nat → Prop} {v x : Value} {l m : List UInt8} (hL : Laid w) (hv : Bs ok w v l) (hx : Bs ok' w x m) (hb : l.length ≤ 70368744177664) (hb2 : m.length + 64 ≤ 70368744177664) :
    Calls Tryd.prog 28 #[v, x] w fun e w' => ∃ b, e = .returned (.slice (some ⟨b, 0, none⟩) 32 32) ∧ w.heap.size ≤ b ∧ w'.heap[b]? = some (.cells (B8 32 (mac l m)) 24 (0, 0)) ∧ Below w.heap.size w w' := by
  have HV := Lib.hid hv
  have HX := Lib.hid hx
  have HL := Lib.hid hL
  have HB : Hid (l.length ≤ 70368744177664 ∧ m.length + 64 ≤ 70368744177664) := ⟨hb, hb2⟩
  obtain ⟨A, n, c, rfl, hn, hc, hbk⟩ := hv
  obtain ⟨A', n', c', rfl, hn', hc', hbk'⟩ := hx
  clear hn hc hbk hn' hc' hbk' hL hb hb2
  go_enter Tryd.func28, Tryd.ntmps28
  go_wp2_with fail
  refine (mac_any HL.out HV.out HX.out HB.out.1 HB.out.2).mono ?_
  rintro e w1 ⟨rfl, hb1⟩
  obtain ⟨b, hsb⟩ : ∃ b, w1.heap.size = b := ⟨_, rfl⟩
  have HB1 := Lib.hid hb1
  clear hb1
  go_wp2_with (refine wpList_keep_sum hsb (by rfl) _ _ (by rfl) (by rfl) (by rfl) ?_; intro w2 h2 hb2; have H2 := Lib.hid h2; have HB2 : Hid (Below w.heap.size w w2) := HB1.out.trans (hb2.mono HB1.out.size); have HW : Hid (w.heap.size ≤ b) := hsb ▸ HB1.out.size; clear h2 hb2)
  go_wp2
  go_ret
  exact ⟨b, rfl, HW.out, H2.out, HB2.out⟩
theorem st_extract {B : Nat} {w0 w : World} {xs : List (Nat × Option Nat × List UInt8)} {ok ok' : Nat → Prop} {v x : Value} {l m : List UInt8} (H : St B w0 w xs) (hv : Bs ok w v l) (hx : Bs ok' w x m) (hb : l.length ≤ 70368744177664) (hb2 : m.length + 64 ≤ 70368744177664) :
    Calls Tryd.prog 28 #[v, x] w fun e w' => ∃ b, e = .returned (.slice (some ⟨b, 0, none⟩) 32 32) ∧ w.heap.size ≤ b ∧ w'.heap[b]? = some (.cells (B8 32 (mac l m)) 24 (0, 0)) ∧ Below w.heap.size w w' ∧ St B w0 w' xs := by
  refine (extract_any H.laid hv hx hb hb2).mono ?_
  rintro e w' ⟨b, rfl, h0, h1, h2⟩
  exact ⟨b, rfl, h0, h1, h2, H.step h2⟩

set_option maxRecDepth 100000 in
set_option maxHeartbeats 0 in
theorem expands_any {w : World} (hL : Laid w) : Calls Tryd.prog 25 #[] w fun e w' => e = .returned (.bool true) ∧ Below w.heap.size w w' := by
  have HS := Lib.hid (St.start hL)
  clear hL
  go_enter Tryd.func25, Tryd.ntmps25
  go_wp2_with fail
  refine (st_expand (N := 0) HS.out (bs_nil w) (bs_nil w) (Nat.zero_le _) (Nat.zero_le _) (by omega)).mono ?_
  rintro e w1 ⟨A1, n1, c1, rfl, rfl, -, -, hs⟩
  have HS1 := Lib.hid hs
  clear hs
  go_wp2_with fail
  refine (expand_bad (w := w1) (k := 8161) (.inr (by decide))).mono ?_
  rintro e w' ⟨rfl, rfl⟩
  obtain ⟨wk, hwk⟩ : ∃ wk, wk = w'.alloc (.cells #[.int .u8 107] 5 (1, 2)) := ⟨_, rfl⟩
  have k1 : (convert 22 22 (.slice (some ⟨w'.heap.size, 0, none⟩) 1 1)).run Tryd.prog (w'.alloc (.cells #[.int .u8 107] 5)) = .ok (.slice (some ⟨w'.heap.size, 0, none⟩) 1 1) (w'.alloc (.cells #[.int .u8 107] 5 (1, 2))) := Lib.run_convert_bytes_const (P := Tryd.prog) w' 22 5 #[.int .u8 107] 1 1 Tryd.underlying22 Tryd.underlying5
  rw [← hwk] at k1
  have hs2 : wk.heap.size = w'.heap.size + 1 := by rw [hwk]; simp
  have k2 : (convert 22 22 (.slice (some ⟨w'.heap.size + 1, 0, none⟩) 1 1)).run Tryd.prog (wk.alloc (.cells #[.int .u8 105] 5)) = .ok (.slice (some ⟨w'.heap.size + 1, 0, none⟩) 1 1) (wk.alloc (.cells #[.int .u8 105] 5 (1, 2))) := by
    rw [← hs2]; exact Lib.run_convert_bytes_const (P := Tryd.prog) wk 22 5 #[.int .u8 105] 1 1 Tryd.underlying22 Tryd.underlying5
  have HSk : Hid (St w.heap.size w wk []) := by rw [hwk]; exact HS1.out.alloc _
  have HSi := Lib.hid (HSk.out.alloc (.cells #[.int .u8 105] 5 (1, 2)))
  have HK : Hid (Bs (fun k => k = w'.heap.size) (wk.alloc (.cells #[.int .u8 105] 5 (1, 2))) (.slice (some ⟨w'.heap.size, 0, none⟩) 1 1) [107]) := bs_cell ((heap_old _ _ _ (by omega)).trans (by rw [hwk]; exact heap_alloc_new w' _))
  have HI : Hid (Bs (fun k => k = w'.heap.size + 1) (wk.alloc (.cells #[.int .u8 105] 5 (1, 2))) (.slice (some ⟨w'.heap.size + 1, 0, none⟩) 1 1) [105]) := by rw [← hs2]; exact bs_cell (heap_alloc_new wk _)
  clear hwk HSk HS1
  go_wp2_with fail
  refine (st_expand (N := 33) HSi.out HK.out HI.out (by decide) (by decide) (by omega)).mono ?_
  rintro e w3 ⟨A3, n3, c3, rfl, rfl, -, -, hs⟩
  have HS3 := Lib.hid hs
  clear hs k1 k2 HK HI
  go_wp2
  go_ret
  exact ⟨rfl, HS3.out.below⟩
theorem st_expands {B : Nat} {w0 w : World} {xs : List (Nat × Option Nat × List UInt8)} (H : St B w0 w xs) : Calls Tryd.prog 25 #[] w fun e w' => e = .returned (.bool true) ∧ St B w0 w' xs := by
  refine (expands_any H.laid).mono ?_
  rintro e w' ⟨rfl, h1⟩
  exact ⟨rfl, H.step h1⟩
/-- What Expand tells, of any count. -/
def expR (l m : List UInt8) (k : Int) : List UInt8 := if 0 ≤ k ∧ k ≤ 8160 then expand l m k.toNat else []
def expE (k : Int) : Int := if 0 ≤ k ∧ k ≤ 8160 then 0 else 1
theorem expR_length (l m : List UInt8) (k : Int) : (expR l m k).length ≤ 8160 := by
  unfold expR
  split
  · rw [expand_length]; omega
  · simp
theorem docexpand_g (l m : List UInt8) (k : Int) (hb : l.length ≤ 70368744177664) (hb2 : m.length ≤ 70368744177000) (w : World) :
    Calls Tryd.prog 27 #[.string (S8 l), .string (S8 m), .int .i64 k] w fun e w' => e = .returned (.tuple #[.string (S8 (expR l m k)), .int .i64 (expE k)]) ∧ Below w.heap.size w w' := by
  unfold expR expE
  by_cases h : 0 ≤ k ∧ k ≤ 8160
  · rw [if_pos h, if_pos h]
    obtain ⟨N, rfl⟩ : ∃ N : Nat, k = N := ⟨k.toNat, by omega⟩
    exact docexpand_any l m N hb hb2 (by omega) w
  · rw [if_neg h, if_neg h]
    refine (docexpand_bad (by omega)).mono ?_
    rintro e w' ⟨rfl, rfl⟩
    exact ⟨rfl, Below.refl _ _⟩
theorem expand_g {B : Nat} {w0 w : World} {xs : List (Nat × Option Nat × List UInt8)} {ok ok' : Nat → Prop} {v x : Value} {l m : List UInt8} {k : Int} (H : St B w0 w xs) (hv : Bs ok w v l) (hx : Bs ok' w x m) (hb : l.length ≤ 70368744177664) (hb2 : m.length ≤ 70368744177000) :
    Calls Tryd.prog 26 #[v, x, .int .i64 k] w fun e w' => ∃ A n c, e = .returned (.tuple #[.slice A n c, .int .i64 (expE k)]) ∧ n = (expR l m k).length ∧ Own w' w.heap.size (.slice A n c) (expR l m k) ∧ Below w.heap.size w w' ∧ St B w0 w' xs := by
  unfold expR expE
  by_cases h : 0 ≤ k ∧ k ≤ 8160
  · rw [if_pos h, if_pos h]
    obtain ⟨N, rfl⟩ : ∃ N : Nat, k = N := ⟨k.toNat, by omega⟩
    refine (st_expand H hv hx hb hb2 (by omega)).mono ?_
    rintro e w' ⟨A, n, c, rfl, rfl, h1, h2, h3⟩
    exact ⟨A, n, c, rfl, by rw [expand_length]; rfl, h1, h2, h3⟩
  · rw [if_neg h, if_neg h]
    refine (expand_bad (by omega)).mono ?_
    rintro e w' ⟨rfl, rfl⟩
    exact ⟨none, 0, 0, rfl, rfl, .inl ⟨rfl, rfl⟩, Below.refl _ _, H⟩
end Go.Proofs.YtmifegjmmlipbaaDoor
