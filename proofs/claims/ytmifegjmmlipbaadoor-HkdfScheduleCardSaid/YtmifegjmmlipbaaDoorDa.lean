/-
  Expand of HKDF, plain; the program's Expand; its conditions: the tables as the text lays them, not more than 2^46 bytes.
-/
import Derived.Test.YtmifegjmmlipbaaDoorCg
import Derived.Test.YtmifegjmmlipbaaDoorBd
namespace Sha
/-- The blocks T(i). -/
def hkT (sec info : List UInt8) : Nat → List UInt8
  | 0 => []
  | i + 1 => mac sec (hkT sec info i ++ info ++ [UInt8.ofNat (i + 1)])
/-- The first i blocks, one behind the other. -/
def hkOut (sec info : List UInt8) : Nat → List UInt8
  | 0 => []
  | i + 1 => hkOut sec info i ++ hkT sec info (i + 1)
theorem hkT_length (sec info : List UInt8) : ∀ i, (hkT sec info i).length ≤ 32
  | 0 => by simp [hkT]
  | i + 1 => by simp only [hkT]; rw [mac_length]; exact Nat.le_refl _
theorem hkT_pos (sec info : List UInt8) {i : Nat} (h : 0 < i) : (hkT sec info i).length = 32 := by
  obtain ⟨j, rfl⟩ : ∃ j, i = j + 1 := ⟨i - 1, by omega⟩
  exact mac_length _ _
theorem hkOut_length (sec info : List UInt8) : ∀ i, (hkOut sec info i).length = 32 * i
  | 0 => rfl
  | i + 1 => by simp only [hkOut, List.length_append]; rw [hkOut_length sec info i, hkT_pos sec info (Nat.succ_pos i)]; omega
def blocksOf (n : Nat) : Nat := (n + 31) / 32
def expand (sec info : List UInt8) (n : Nat) : List UInt8 := (hkOut sec info (blocksOf n)).take n
theorem expand_length (sec info : List UInt8) (n : Nat) : (expand sec info n).length = n := by
  unfold expand blocksOf; rw [List.length_take, hkOut_length]; omega
end Sha
namespace Go.Proofs.YtmifegjmmlipbaaDoor
open Go.RowKit Go.Rh Sha

theorem byte_next (j : Nat) : (ub (UInt8.ofNat (j + 1)) + 1) % 256 = ub (UInt8.ofNat (j + 2)) := by
  have h := ub_of (j + 2)
  rw [IntKind.wrap_u8] at h
  rw [← h]
  unfold ub
  rw [UInt8.toNat_ofNat']
  omega

set_option maxRecDepth 100000 in
set_option maxHeartbeats 0 in
theorem expand_any {w : World} {ok ok' : Nat → Prop} {v x : Value} {l m : List UInt8} {N : Nat} (hL : Laid w) (hv : Bs ok w v l) (hx : Bs ok' w x m) (hb : l.length ≤ 70368744177664) (hb2 : m.length ≤ 70368744177000) (hN : (N : Int) ≤ 8160) :
    Calls Tryd.prog 26 #[v, x, .int .i64 N] w fun e w' => ∃ A n c, e = .returned (.tuple #[.slice A n c, .int .i64 0]) ∧ n = N ∧ Own w' w.heap.size (.slice A n c) (expand l m N) ∧ Below w.heap.size w w' := by
  obtain ⟨i0, hi0, hz0, hz1, hz2⟩ := info_parts info5
  have HV : Hid (Bs (fun k => k < w.heap.size) w v l) := hv.mono (fun i hi _ => hi)
  have HX : Hid (Bs (fun k => k < w.heap.size) w x m) := hx.mono (fun i hi _ => hi)
  obtain ⟨A, n, c, rfl, hn, hc, hbk⟩ := hv
  obtain ⟨A', n', c', rfl, hn', hc', hbk'⟩ := hx
  have HB : Hid (l.length ≤ 70368744177664 ∧ m.length ≤ 70368744177000) := ⟨hb, hb2⟩
  have HL := Lib.hid hL
  clear hc hbk hc' hbk' hn hn' hb hb2 hL
  go_enter Tryd.func26, Tryd.ntmps26
  go_wp2_with fail
  go_loopg [8, 9, 10] (blocksOf N) (fun g s8 s9 s10 wr => ∃ (j : Nat) (A8 : Option Addr) (n8 c8 : Nat) (A9 : Option Addr) (n9 c9 : Nat) (y : UInt8), y = UInt8.ofNat (j + 1) ∧ j + g = blocksOf N ∧ s8 = .slice A8 n8 c8 ∧ n8 = 32 * j ∧ s9 = .slice A9 n9 c9 ∧ s10 = .int .u8 (ub y) ∧ Below w.heap.size w wr ∧ Own wr w.heap.size (.slice A8 n8 c8) (hkOut l m j) ∧ Bs (fun i => w.heap.size ≤ i) wr (.slice A9 n9 c9) (hkT l m j))
  case atStart => exact ⟨0, none, 0, 0, none, 0, 0, 1, rfl, Nat.zero_add _, rfl, rfl, rfl, by rfl, Below.refl _ _, .inl ⟨rfl, rfl⟩, none, 0, 0, rfl, rfl, Nat.le_refl _, fun h => absurd h (Nat.lt_irrefl _)⟩
  case round =>
    obtain ⟨j, A8, n8, c8, A9, n9, c9, y, hy, hj, rfl, hn8, rfl, rfl, hbw, ho, ht⟩ := hrel
    have HY := Lib.hid hy
    clear hy
    have HBr := Lib.hid hbw
    have HO := Lib.hid ho
    have HT := Lib.hid ht
    have hjN : 32 * j < N + 32 := by unfold blocksOf at hj; omega
    have hn8' : (n8 : Int) = 32 * (j : Int) := by omega
    have HN8 := Lib.hid hn8
    clear hbw ho ht hn8
    by_cases hlt : 32 * j < N
    · have hlt' : (n8 : Int) < N := by omega
      have hgk : 1 ≤ gk := by unfold blocksOf at hj; omega
      have hj255 : j ≤ 255 := by omega
      have HJ : Hid (j + gk = blocksOf N) := hj
      clear hlt hjN hj hn8'
      obtain ⟨wa, hwa⟩ : ∃ wa, wa = wr.alloc (.cells #[] 5) := ⟨_, rfl⟩
      have HC0 : Hid (Ch wr wa (.slice (some ⟨wr.heap.size, 0, none⟩) 0 0) []) := by rw [hwa]; exact Ch.lit wr
      have HWA := Lib.hid hwa
      have HLt := Lib.hid (hkT_length l m j)
      clear hwa
      have HXr : Hid (Bs (fun k => k < w.heap.size) wr (.slice A' n' c') m) := HX.out.keep (S := fun _ => False) (Keep.of_below HBr.out (Nat.le_refl _) _) (fun _ _ => id)
      have HVr : Hid (Bs (fun k => k < w.heap.size) wr (.slice A n c) l) := HV.out.keep (S := fun _ => False) (Keep.of_below HBr.out (Nat.le_refl _) _) (fun _ _ => id)
      go_wp2_with (first
        | (at_builtin; rw [← HWA.out]; refine wpList_app (o := ⟨some 27, _, _, _, _, _⟩) (by rfl) (.tmp 25) (.tmp 26) (by rfl) (by rfl) (by rfl) HC0.out (HC0.out.old HT.out) (by have := HLt.out; simp; omega) ?_; intro A1 n1 c1 w1 hn1 hc1 hk1; have HC1 := Lib.hid hc1; clear hc1 hn1 hk1)
        | (at_builtin; refine wpList_app (o := ⟨some 29, _, _, _, _, _⟩) (by rfl) (.tmp 27) (.tmp 28) (by rfl) (by rfl) (by rfl) HC1.out (HC1.out.old HXr.out) (by have := HLt.out; have := HB.out; simp; omega) ?_; intro A2 n2 c2 w2 hn2 hc2 hk2; have HC2 := Lib.hid hc2; have HD2 := Lib.hid ((bs_new w2 y).mono (ok' := fun _ => True) (fun _ _ _ => trivial)); clear hc2 hn2 hk2)
        | (at_builtin; refine wpList_app (o := ⟨some 32, _, _, _, _, _⟩) (by rfl) (.tmp 29) (.tmp 31) (by rfl) (by rfl) (by rfl) (HC2.out.alloc _) HD2.out (by have := HLt.out; have := HB.out; simp; omega) ?_; intro A3 n3 c3 w3 hn3 hc3 hk3; have HC3 := Lib.hid hc3; clear hc3 hn3 hk3))
      rw [List.nil_append] at HC3
      have HLen : Hid ((hkT l m j ++ m ++ [y]).length + 64 ≤ 70368744177664) := by
        have := HLt.out; have := HB.out
        show _ ≤ _
        simp only [List.length_append, List.length_cons, List.length_nil]
        omega
      have HB3 : Hid (Below w.heap.size w w3) := HBr.out.trans (HC3.out.below.mono HBr.out.size)
      have HO3 : Hid (Own w3 w.heap.size (.slice A8 n8 c8) (hkOut l m j)) := HO.out.keep (S := fun _ => False) (Keep.of_below HC3.out.below (Nat.le_refl _) _) (fun _ _ => id)
      have HV3 : Hid (Bs (fun k => k < w.heap.size) w3 (.slice A n c) l) := HC3.out.old HVr.out
      have HD3 : Hid (Bs (fun _ => True) w3 (.slice A3 n3 c3) (hkT l m j ++ m ++ [y])) := HC3.out.bs
      clear HC0 HC1 HC2 HC3 HD2 HWA HXr HVr HO HT HBr
      refine (mac_any (HL.out.below HB3.out (Nat.le_refl _)) HV3.out HD3.out HB.out.1 HLen.out).mono ?_
      rintro e w4 ⟨rfl, hb4⟩
      have HTn : Hid (mac l (hkT l m j ++ m ++ [y]) = hkT l m (j + 1)) := by rw [HY.out]; rfl
      rw [HTn.out]
      obtain ⟨b, hsb⟩ : ∃ b, w4.heap.size = b := ⟨_, rfl⟩
      have HB4 : Hid (Below w.heap.size w w4) := HB3.out.trans (hb4.mono HB3.out.size)
      have HO4 : Hid (Own w4 w.heap.size (.slice A8 n8 c8) (hkOut l m j)) := HO3.out.keep (S := fun _ => False) (Keep.of_below hb4 (Nat.le_refl _) _) (fun _ _ => id)
      clear hb4 HB3 HO3 HV3 HD3
      go_wp2_with (first
        | (refine wpList_keep_sum (m := hkT l m (j + 1)) hsb (by rfl) _ _ (by rfl) (by rfl) (by rfl) ?_; intro w5 h5 hb5; have H5 := Lib.hid h5; have HB5 : Hid (Below w.heap.size w w5) := HB4.out.trans (hb5.mono HB4.out.size); have HO5 : Hid (Own w5 w.heap.size (.slice A8 n8 c8) (hkOut l m j)) := HO4.out.keep (S := fun _ => False) (Keep.of_below hb5 (Nat.le_refl _) _) (fun _ _ => id); have HP5 : Hid (∀ i, (Value.slice A8 n8 c8).ownBlock = some i → i < b) := fun i hi => hsb ▸ (HO4.out.lt i hi).2; have HWb : Hid (w.heap.size ≤ b) := hsb ▸ HB4.out.size; clear h5 hb5)
        | (at_builtin; refine wpList_append_bytes (o := ⟨some 39, _, _, _, _, _⟩) (by rfl) (.tmp 37) (.tmp 38) 22 (by rfl) i0 Tryd.underlying22 hi0 hz0 hz1 hz2 (by rfl) (by rfl) HO5.out (bs_row H5.out (hkT_pos l m (Nat.succ_pos j))) (by rw [hkOut_length, hkT_pos l m (Nat.succ_pos j)]; omega) HB5.out.size ?_; intro v6 w6 own6 keep6 at6; have HO6 := Lib.hid own6; have HK6 := Lib.hid keep6; obtain ⟨A6, n6, c6, hn6, rfl⟩ := own6.form; have HN6 := Lib.hid hn6; clear own6 keep6 at6 hn6))
      have HB6 : Hid (Below w.heap.size w w6) := HB5.out.trans (HK6.out.below HB5.out.size (fun i hi e => by have := (HO5.out.lt i e).1; omega))
      have H6 : Hid (w6.heap[b]? = some (.cells (B8 32 (hkT l m (j + 1))) 24 (0, 0))) := (HK6.out.block b (heap_lt H5.out) (fun e => by have := HP5.out b e; omega)).trans H5.out
      have HYN : Hid ((ub y + 1) % 256 = ub (UInt8.ofNat (j + 2))) := by show _ = _; rw [HY.out]; exact byte_next j
      go_wp2
      go_roundg (gk - 1)
      case measure => omega
      case rel =>
        refine ⟨j + 1, A6, n6, c6, some ⟨b, 0, none⟩, 32, 32, UInt8.ofNat (j + 2), rfl, by have := HJ.out; omega, rfl, by rw [HN6.out, List.length_append, hkOut_length, hkT_pos l m (Nat.succ_pos j)]; omega, rfl, by rw [HYN.out], HB6.out, HO6.out, ?_⟩
        exact (bs_row H6.out (hkT_pos l m (Nat.succ_pos j))).mono (fun i _ e => by subst e; exact HWb.out)
    · have hlt' : (N : Int) ≤ n8 := by omega
      have hjb : j = blocksOf N := by unfold blocksOf at hj ⊢; omega
      obtain ⟨v', hcut, hown⟩ := run_cap_own (P := Tryd.prog) 22 i0 Tryd.underlying22 hi0 hz1 HO.out N (by rw [hkOut_length]; omega)
      rw [hjb] at hown
      obtain ⟨Az, nz, cz, hnz, rfl⟩ := hown.form
      have HZ : Hid (Own wr w.heap.size (.slice Az nz cz) (expand l m N)) := hown
      have HNZ : Hid (nz = N) := by rw [hnz]; exact expand_length l m N
      clear hown hnz hjb hjN hj hn8' hlt
      go_wp2
      go_ret2
      exact ⟨Az, nz, cz, rfl, HNZ.out, HZ.out, HBr.out⟩
set_option maxRecDepth 100000 in
theorem expand_bad {w : World} {v x : Value} {k : Int} (hk : k < 0 ∨ 8160 < k) :
    Calls Tryd.prog 26 #[v, x, .int .i64 k] w fun e w' => e = .returned (.tuple #[.slice none 0 0, .int .i64 1]) ∧ w' = w := by
  rcases hk with hk | hk
  · go_enter Tryd.func26, Tryd.ntmps26
    go_wp2
    go_ret2
    exact ⟨rfl, rfl⟩
  · have hk0 : 0 ≤ k := by omega
    go_enter Tryd.func26, Tryd.ntmps26
    go_wp2
    go_ret2
    exact ⟨rfl, rfl⟩
end Go.Proofs.YtmifegjmmlipbaaDoor
