/-
  The document's Expand; its condition: not more than 2^46 bytes.
-/
import Derived.Test.YtmifegjmmlipbaaDoorDa
namespace Go.Proofs.YtmifegjmmlipbaaDoor
open Go.RowKit Go.Rh Sha
attribute [local go_sem] S8_append S8_size

set_option maxRecDepth 100000 in
set_option maxHeartbeats 0 in
theorem docexpand_any (l m : List UInt8) (N : Nat) (hb : l.length ≤ 70368744177664) (hb2 : m.length ≤ 70368744177000) (hN : (N : Int) ≤ 8160) (w : World) :
    Calls Tryd.prog 27 #[.string (S8 l), .string (S8 m), .int .i64 N] w fun e w' => e = .returned (.tuple #[.string (S8 (expand l m N)), .int .i64 0]) ∧ Below w.heap.size w w' := by
  obtain ⟨i0, hi0, hz0, hz1, hz2⟩ := info_parts info5
  have HB : Hid (l.length ≤ 70368744177664 ∧ m.length ≤ 70368744177000) := ⟨hb, hb2⟩
  have hmI : (m.length : Int) ≤ 70368744177000 := by omega
  clear hb hb2
  go_enter Tryd.func27, Tryd.ntmps27
  go_wp2_with fail
  go_loopg [8, 9, 10] (blocksOf N) (fun g s8 s9 s10 wr => ∃ (j : Nat) (A8 : Option Addr) (n8 c8 : Nat), j + g = blocksOf N ∧ s8 = .slice A8 n8 c8 ∧ n8 = 32 * j ∧ s9 = .string (S8 (hkT l m j)) ∧ s10 = .int .i64 ((j : Int) + 1) ∧ Below w.heap.size w wr ∧ Own wr w.heap.size (.slice A8 n8 c8) (hkOut l m j))
  case atStart => exact ⟨0, none, 0, 0, Nat.zero_add _, rfl, rfl, rfl, rfl, Below.refl _ _, .inl ⟨rfl, rfl⟩⟩
  case round =>
    obtain ⟨j, A8, n8, c8, hj, rfl, hn8, rfl, rfl, hbw, ho⟩ := hrel
    have HBr := Lib.hid hbw
    have HO := Lib.hid ho
    have hjN : 32 * j < N + 32 := by unfold blocksOf at hj; omega
    have hn8' : (n8 : Int) = 32 * (j : Int) := by omega
    have HN8 := Lib.hid hn8
    clear hbw ho hn8
    by_cases hlt : 32 * j < N
    · have hlt' : (n8 : Int) < N := by omega
      have hgk : 1 ≤ gk := by unfold blocksOf at hj; omega
      have hj255 : (j : Int) ≤ 255 := by omega
      have HJ : Hid (j + gk = blocksOf N) := hj
      clear hlt hjN hj hn8'
      obtain ⟨y, hy⟩ : ∃ y, y = UInt8.ofNat (j + 1) := ⟨_, rfl⟩
      have hyb : ((j : Int) + 1) % 256 = ub y := by
        have h := ub_of (j + 1)
        rw [IntKind.wrap_u8] at h
        rw [hy, ← h]
        simp
      have HY := Lib.hid hy
      clear hy
      have hcv : (convert 22 9 (.slice (some ⟨wr.heap.size, 0, none⟩) 1 1)).run Tryd.prog (wr.alloc (.cells #[.int .u8 (ub y)] 5)) = .ok (.string (S8 [y])) (wr.alloc (.cells #[.int .u8 (ub y)] 5)) :=
        run_string_bs Tryd.underlying22 Tryd.underlying5 Tryd.underlying9 (bs_new wr y)
      obtain ⟨T, hT⟩ : ∃ T, T = hkT l m j := ⟨_, rfl⟩
      have hTl : (T.length : Int) ≤ 32 := by rw [hT]; have := hkT_length l m j; omega
      rw [← hT]
      have HT := Lib.hid hT
      clear hT
      go_wp2_with fail
      have HLen : Hid ((T ++ (m ++ [y])).length + 64 ≤ 70368744177664) := by
        have := HB.out
        show _ ≤ _
        simp only [List.length_append, List.length_cons, List.length_nil]
        omega
      refine (refmac_any l (T ++ (m ++ [y])) HB.out.1 HLen.out _).mono ?_
      rintro e w4 ⟨rfl, hb4⟩
      have hTn : mac l (T ++ (m ++ [y])) = hkT l m (j + 1) := by rw [HT.out, HY.out, ← List.append_assoc]; rfl
      rw [hTn]
      have HB4 : Hid (Below w.heap.size w w4) := HBr.out.trans (((Below.refl _ wr).alloc (Nat.le_refl _) _ |>.trans (hb4.mono (by simp))).mono HBr.out.size)
      have HO4 : Hid (Own w4 w.heap.size (.slice A8 n8 c8) (hkOut l m j)) := HO.out.keep (S := fun _ => False) (Keep.of_below ((Below.refl _ wr).alloc (Nat.le_refl _) _ |>.trans (hb4.mono (by simp))) (Nat.le_refl _) _) (fun _ _ => id)
      clear hb4 hTn HBr HO hcv
      go_wp2_with (at_builtin; refine wpList_append_S8 (o := ⟨some 35, _, _, _, _, _⟩) (by rfl) (.tmp 33) (.tmp 34) 22 9 (by rfl) i0 Tryd.underlying22 Tryd.underlying9 hi0 hz0 hz1 hz2 (by rfl) (by rfl) HO4.out (by rw [hkOut_length, hkT_pos l m (Nat.succ_pos j)]; omega) HB4.out.size ?_; intro v6 w6 own6 keep6 at6; have HO6 := Lib.hid own6; have HK6 := Lib.hid keep6; obtain ⟨A6, n6, c6, hn6, rfl⟩ := own6.form; have HN6 := Lib.hid hn6; clear own6 keep6 at6 hn6)
      have HB6 : Hid (Below w.heap.size w w6) := HB4.out.trans (HK6.out.below HB4.out.size (fun i hi e => by have := (HO4.out.lt i e).1; omega))
      go_wp2
      go_roundg (gk - 1)
      case measure => omega
      case rel =>
        exact ⟨j + 1, A6, n6, c6, by have := HJ.out; omega, rfl, by rw [HN6.out, List.length_append, hkOut_length, hkT_pos l m (Nat.succ_pos j)]; omega, rfl, by go_num, HB6.out, HO6.out⟩
    · have hlt' : (N : Int) ≤ n8 := by omega
      have hjb : j = blocksOf N := by unfold blocksOf at hj ⊢; omega
      obtain ⟨v', hcut, hbs⟩ := run_first (P := Tryd.prog) 22 i0 Tryd.underlying22 hi0 hz1 HO.out.bs N (by rw [hkOut_length]; omega)
      rw [hjb] at hbs
      have hcv : (convert 22 9 v').run Tryd.prog wr = .ok (.string (S8 (expand l m N))) wr := run_string_bs Tryd.underlying22 Tryd.underlying5 Tryd.underlying9 hbs
      clear hbs hjb hjN hj hn8' hlt
      go_wp2
      go_ret2
      exact ⟨rfl, HBr.out⟩
set_option maxRecDepth 100000 in
theorem docexpand_bad {w : World} {v x : Value} {k : Int} (hk : k < 0 ∨ 8160 < k) :
    Calls Tryd.prog 27 #[v, x, .int .i64 k] w fun e w' => e = .returned (.tuple #[.string (S8 []), .int .i64 1]) ∧ w' = w := by
  rcases hk with hk | hk
  · go_enter Tryd.func27, Tryd.ntmps27
    go_wp2
    go_ret2
    exact ⟨rfl, rfl⟩
  · have hk0 : 0 ≤ k := by omega
    go_enter Tryd.func27, Tryd.ntmps27
    go_wp2
    go_ret2
    exact ⟨rfl, rfl⟩
end Go.Proofs.YtmifegjmmlipbaaDoor
