/-
  The guard's First and Reset.
-/
import Derived.Test.YtmifegjmmlipbaaDoorEa
namespace Go.Proofs.YtmifegjmmlipbaaDoor
open Go.RowKit Go.Rh Sha
attribute [local go_sem] S8_append S8_size

theorem at_take {l : List UInt8} {n j : Nat} (h : j < n) : at_ (l.take n) j = at_ l j := by
  unfold at_
  rw [List.getD_eq_getElem?_getD, List.getD_eq_getElem?_getD, List.getElem?_take, if_pos h]
theorem salt_cells : (#[.int .u8 56, .int .u8 118, .int .u8 44, .int .u8 247, .int .u8 245, .int .u8 89, .int .u8 52, .int .u8 179, .int .u8 77, .int .u8 23, .int .u8 154, .int .u8 230, .int .u8 164, .int .u8 200, .int .u8 12, .int .u8 173, .int .u8 204, .int .u8 187, .int .u8 127, .int .u8 10] : Array Value) = B8 20 salt := rfl
theorem S8_extract (l : List UInt8) (n : Nat) : (S8 l).extract 0 n = S8 (l.take n) := by
  apply ByteArray.ext
  simp [S8]
def firstC (d : List UInt8) : List UInt8 := if d.length ≤ 20 then gl (mac salt d) nCl 32 else []
def firstS (d : List UInt8) : List UInt8 := if d.length ≤ 20 then gl (mac salt d) nSv 32 else []
set_option maxRecDepth 100000 in
theorem docfirst_any {B : Nat} {w0 w : World} {xs : List (Nat × Option Nat × List UInt8)} (H : St B w0 w xs) (d : List UInt8) (hb : d.length ≤ 70368744177000) :
    Calls Tryd.prog 43 #[.string (S8 d)] w fun e w' => e = .returned (.tuple #[.string (S8 (firstC d)), .string (S8 (firstS d)), .int .i64 (argE (d.length ≤ 20))]) ∧ St B w0 w' xs := by
  have HS := Lib.hid H
  have HB := Lib.hid hb
  clear H hb
  unfold firstC firstS argE
  by_cases h : d.length ≤ 20
  · rw [if_pos h, if_pos h, if_pos h]
    have hI : (d.length : Int) ≤ 20 := by omega
    clear h
    go_enter Tryd.func43, Tryd.ntmps43
    go_wp2_with fail
    refine (refmac_any salt d (by decide) (by have := HB.out; omega) w).mono ?_
    rintro e w1 ⟨rfl, hb1⟩
    have HS1 := Lib.hid (HS.out.step hb1)
    obtain ⟨X, hX⟩ : ∃ X, X = mac salt d := ⟨_, rfl⟩
    have hXl : X.length = 32 := by rw [hX]; exact mac_length _ _
    rw [← hX]
    have HXl := Lib.hid hXl
    have HXe := Lib.hid hX
    clear hb1 hX hXl
    go_wp2_with fail
    refine (st_rlabel (lab := nCl) (n := 32) HS1.out (by rw [HXl.out]; omega)).mono ?_
    rintro e w2 ⟨rfl, -, hs⟩
    have HS2 := Lib.hid hs
    clear hs
    go_wp2_with fail
    refine (st_rlabel (lab := nSv) (n := 32) HS2.out (by rw [HXl.out]; omega)).mono ?_
    rintro e w3 ⟨rfl, -, hs⟩
    have HS3 := Lib.hid hs
    clear hs
    go_wp2
    go_ret3
    exact ⟨by rw [← HXe.out]; rfl, HS3.out⟩
  · rw [if_neg h, if_neg h, if_neg h]
    have hI : (20 : Int) < d.length := by omega
    clear h
    go_enter Tryd.func43, Tryd.ntmps43
    go_wp2
    go_ret3
    exact ⟨rfl, HS.out⟩
set_option maxRecDepth 100000 in
theorem first_any {B : Nat} {w0 w : World} {xs : List (Nat × Option Nat × List UInt8)} (H : St B w0 w xs) (d : List UInt8) (hb : d.length ≤ 70368744177000) :
    Calls Tryd.prog 44 #[.string (S8 d)] w fun e w' => e = .returned (.tuple #[.string (S8 (firstC d)), .string (S8 (firstS d)), .int .i64 (argE (d.length ≤ 20))]) ∧ St B w0 w' xs := by
  have HS := Lib.hid H
  have HB := Lib.hid hb
  unfold firstC firstS argE
  by_cases h : d.length ≤ 20
  · rw [if_pos h, if_pos h, if_pos h]
    have hI : (d.length : Int) ≤ 20 := by omega
    obtain ⟨wk, hwk⟩ : ∃ wk, wk = w.alloc (.cells #[.int .u8 56, .int .u8 118, .int .u8 44, .int .u8 247, .int .u8 245, .int .u8 89, .int .u8 52, .int .u8 179, .int .u8 77, .int .u8 23, .int .u8 154, .int .u8 230, .int .u8 164, .int .u8 200, .int .u8 12, .int .u8 173, .int .u8 204, .int .u8 187, .int .u8 127, .int .u8 10] 5 (20, 21)) := ⟨_, rfl⟩
    have k1 : (convert 22 22 (.slice (some ⟨w.heap.size, 0, none⟩) 20 20)).run Tryd.prog (w.alloc (.cells #[.int .u8 56, .int .u8 118, .int .u8 44, .int .u8 247, .int .u8 245, .int .u8 89, .int .u8 52, .int .u8 179, .int .u8 77, .int .u8 23, .int .u8 154, .int .u8 230, .int .u8 164, .int .u8 200, .int .u8 12, .int .u8 173, .int .u8 204, .int .u8 187, .int .u8 127, .int .u8 10] 5)) = .ok (.slice (some ⟨w.heap.size, 0, none⟩) 20 20) wk := by
      rw [hwk]; exact Lib.run_convert_bytes_const (P := Tryd.prog) w 22 5 #[.int .u8 56, .int .u8 118, .int .u8 44, .int .u8 247, .int .u8 245, .int .u8 89, .int .u8 52, .int .u8 179, .int .u8 77, .int .u8 23, .int .u8 154, .int .u8 230, .int .u8 164, .int .u8 200, .int .u8 12, .int .u8 173, .int .u8 204, .int .u8 187, .int .u8 127, .int .u8 10] 20 20 Tryd.underlying22 Tryd.underlying5
    have HSk : Hid (St B w0 wk xs) := by rw [hwk]; exact H.alloc _
    have hrow : wk.heap[w.heap.size]? = some (.cells (B8 20 salt) 5 (20, 21)) := by rw [hwk]; exact heap_alloc_new w _
    obtain ⟨v, w1, hcv, hown, hbel, _⟩ := run_bytes_S8 (P := Tryd.prog) Tryd.underlying9 Tryd.underlying22 Tryd.underlying5 d wk
    have HS1 := Lib.hid (HSk.out.step hbel)
    have HV1 := Lib.hid hown.bs
    have HT1 : Hid (Bs (fun k => k = w.heap.size) w1 (.slice (some ⟨w.heap.size, 0, none⟩) 20 20) salt) := bs_row ((hbel.block _ (heap_lt hrow)).trans hrow) rfl
    obtain ⟨A, n, c, rfl, -, -, -⟩ := hown.bs
    clear h H hb hown hbel hwk hrow HSk HS
    go_enter Tryd.func44, Tryd.ntmps44
    go_wp2_with fail
    refine (st_extract HS1.out HT1.out HV1.out (by decide) (by have := HB.out; omega)).mono ?_
    rintro e w2 ⟨b, rfl, -, hr, -, hs⟩
    have HS2 := Lib.hid hs
    obtain ⟨X, hX⟩ : ∃ X, X = mac salt d := ⟨_, rfl⟩
    have hXl : X.length = 32 := by rw [hX]; exact mac_length _ _
    rw [← hX] at hr
    have HR2 := Lib.hid hr
    have HXl := Lib.hid hXl
    have HXe := Lib.hid hX
    clear hs hr hX hXl k1 hcv HS1 HT1 HV1
    go_wp2_with fail
    refine (st_glabel (lab := nCl) (n := 32) HS2.out (bs_row HR2.out HXl.out) (by rw [HXl.out]; omega)).mono ?_
    rintro e w3 ⟨rfl, hb3, hs⟩
    have HS3 := Lib.hid hs
    have HR3 : Hid (w3.heap[b]? = some (.cells (B8 32 X) 24 (0, 0))) := (hb3.block _ (heap_lt HR2.out)).trans HR2.out
    clear hs hb3 HS2 HR2
    go_wp2_with fail
    refine (st_glabel (lab := nSv) (n := 32) HS3.out (bs_row HR3.out HXl.out) (by rw [HXl.out]; omega)).mono ?_
    rintro e w4 ⟨rfl, -, hs⟩
    have HS4 := Lib.hid hs
    clear hs
    go_wp2
    go_ret3
    exact ⟨by rw [← HXe.out]; rfl, HS4.out⟩
  · rw [if_neg h, if_neg h, if_neg h]
    have hI : (20 : Int) < d.length := by omega
    clear h H hb
    go_enter Tryd.func44, Tryd.ntmps44
    go_wp2
    go_ret3
    exact ⟨rfl, HS.out⟩
set_option maxRecDepth 100000 in
theorem docreset_any (s d : List UInt8) (hb : s.length ≤ 70368744177664) (hb2 : d.length ≤ 70368744177000) (w : World) :
    Calls Tryd.prog 47 #[.string (S8 s), .string (S8 d)] w fun e w' => e = .returned (.string (S8 ((mac s d).take 16))) ∧ Below w.heap.size w w' := by
  have HB : Hid (s.length ≤ 70368744177664 ∧ d.length ≤ 70368744177000) := ⟨hb, hb2⟩
  clear hb hb2
  go_enter Tryd.func47, Tryd.ntmps47
  go_wp2_with fail
  refine (refmac_any s d HB.out.1 (by have := HB.out; omega) w).mono ?_
  rintro e w1 ⟨rfl, hb1⟩
  have HB1 := Lib.hid hb1
  obtain ⟨X, hX⟩ : ∃ X, X = mac s d := ⟨_, rfl⟩
  have hXl : (X.length : Int) = 32 := by rw [hX, mac_length]; rfl
  rw [← hX]
  have hx := S8_extract X 16
  have HXe := Lib.hid hX
  clear hb1 hX
  go_wp2
  go_ret
  exact ⟨by rw [← HXe.out]; rfl, HB1.out⟩
set_option maxRecDepth 100000 in
theorem reset_any {w : World} (hL : Laid w) (s d : List UInt8) (hb : s.length ≤ 70368744177664) (hb2 : d.length ≤ 70368744177000) :
    Calls Tryd.prog 46 #[.string (S8 s), .string (S8 d)] w fun e w' => e = .returned (.string (S8 ((mac s d).take 16))) ∧ Below w.heap.size w w' := by
  have HS := Lib.hid (St.start hL)
  have HB : Hid (s.length ≤ 70368744177664 ∧ d.length ≤ 70368744177000) := ⟨hb, hb2⟩
  obtain ⟨v, w1, hcv, hown, hbel, _⟩ := run_bytes_S8 (P := Tryd.prog) Tryd.underlying9 Tryd.underlying22 Tryd.underlying5 s w
  obtain ⟨x, w2, hcx, hownx, hbelx, _⟩ := run_bytes_S8 (P := Tryd.prog) Tryd.underlying9 Tryd.underlying22 Tryd.underlying5 d w1
  have HS2 := Lib.hid ((HS.out.step hbel).step hbelx)
  have HV2 : Hid (Bs _ w2 v s) := hown.bs.keep (S := fun _ => False) (Keep.of_below hbelx (Nat.le_refl _) _) (fun _ _ => id)
  have HX2 := Lib.hid hownx.bs
  obtain ⟨A, n, c, rfl, -, -, -⟩ := hown.bs
  obtain ⟨A', n', c', rfl, -, -, -⟩ := hownx.bs
  clear hL hb hb2 hown hbel hownx hbelx HS
  go_enter Tryd.func46, Tryd.ntmps46
  go_wp2_with fail
  refine (st_mac HS2.out HV2.out HX2.out HB.out.1 (by have := HB.out; omega)).mono ?_
  rintro e w3 ⟨rfl, -, hs⟩
  obtain ⟨X, hX⟩ : ∃ X, X = mac s d := ⟨_, rfl⟩
  have hXl : X.length = 32 := by rw [hX, mac_length]
  rw [← hX]
  obtain ⟨b, hsb⟩ : ∃ b, w3.heap.size = b := ⟨_, rfl⟩
  have HS3 := Lib.hid hs
  have HXl := Lib.hid hXl
  have HXe := Lib.hid hX
  clear hs hX hXl hcv hcx
  go_wp2_with (refine wpList_keep_sum hsb (by rfl) _ _ (by rfl) (by rfl) (by rfl) ?_; intro w4 h4 hs4; have hcv : (convert 22 9 (.slice (some ⟨b, 0, none⟩) 16 32)).run Tryd.prog w4 = .ok (.string (S8 (X.take 16))) w4 := run_string_bs (ok := fun _ => True) Tryd.underlying22 Tryd.underlying5 Tryd.underlying9 ⟨_, 16, 32, rfl, by rw [List.length_take, HXl.out]; rfl, by decide, fun _ => ⟨b, 0, rfl, trivial, fun j hj => by (rw [Nat.zero_add, cell_of_row w4 b j _ 24 _ h4, B8_get _ (by omega), at_take (by omega)])⟩⟩; have HS4 := Lib.hid (HS3.out.step hs4); clear h4 hs4)
  go_wp2
  go_ret
  exact ⟨by rw [← HXe.out]; rfl, HS4.out.below⟩
end Go.Proofs.YtmifegjmmlipbaaDoor
