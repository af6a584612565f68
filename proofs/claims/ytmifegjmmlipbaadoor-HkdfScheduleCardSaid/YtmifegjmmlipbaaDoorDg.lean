/-
  The document's Label.
-/
import Derived.Test.YtmifegjmmlipbaaDoorDf
namespace Go.Proofs.YtmifegjmmlipbaaDoor
open Go.RowKit Go.Rh Sha
attribute [local go_sem] S8_append S8_size

set_option maxRecDepth 100000 in
theorem doclabel_bad {w : World} {v x y : Value} {k : Int} (hk : k < 0 ∨ 8160 < k) :
    Calls Tryd.prog 29 #[v, y, x, .int .i64 k] w fun e w' => e = .returned (.tuple #[.string (S8 []), .int .i64 1]) ∧ w' = w := by
  rcases hk with hk | hk
  · go_enter Tryd.func29, Tryd.ntmps29
    go_wp2
    go_ret2
    exact ⟨rfl, rfl⟩
  · have hk0 : 0 ≤ k := by omega
    go_enter Tryd.func29, Tryd.ntmps29
    go_wp2
    go_ret2
    exact ⟨rfl, rfl⟩
set_option maxRecDepth 100000 in
theorem doclabel_long {w : World} {v : Value} {lab c : List UInt8} {k : Int} (hk : 0 ≤ k ∧ k ≤ 8160) (hl : ¬ (lab.length ≤ 249 ∧ c.length ≤ 255)) :
    Calls Tryd.prog 29 #[v, .string (S8 lab), .string (S8 c), .int .i64 k] w fun e w' => e = .returned (.tuple #[.string (S8 []), .int .i64 5]) ∧ w' = w := by
  obtain ⟨hk0, hk1⟩ := hk
  by_cases h1 : (lab.length : Int) ≤ 249
  · have h2 : (255 : Int) < c.length := by omega
    clear hl
    go_enter Tryd.func29, Tryd.ntmps29
    go_wp2
    go_ret2
    exact ⟨rfl, rfl⟩
  · have h2 : (249 : Int) < lab.length := by omega
    clear hl h1
    go_enter Tryd.func29, Tryd.ntmps29
    go_wp2
    go_ret2
    exact ⟨rfl, rfl⟩
set_option maxRecDepth 100000 in
set_option maxHeartbeats 0 in
theorem doclabel_ok {w : World} {l lab m : List UInt8} {N : Nat} (hb : l.length ≤ 70368744177664) (h1 : lab.length ≤ 249) (h2 : m.length ≤ 255) (hN : (N : Int) ≤ 8160) :
    Calls Tryd.prog 29 #[.string (S8 l), .string (S8 lab), .string (S8 m), .int .i64 N] w fun e w' => e = .returned (.tuple #[.string (S8 (expand l (infoOf lab m N) N)), .int .i64 0]) ∧ Below w.heap.size w w' := by
  have hlab : (lab.length : Int) ≤ 249 := by omega
  have hmI : (m.length : Int) ≤ 255 := by omega
  have HB : Hid (l.length ≤ 70368744177664 ∧ lab.length ≤ 249 ∧ m.length ≤ 255) := ⟨hb, h1, h2⟩
  clear hb h1 h2
  go_enter Tryd.func29, Tryd.ntmps29
  have e1 : (N : Int) / 256 = ub (UInt8.ofNat (N / 256)) := by rw [← ofNat_ub (by omega)]; omega
  have e2 : (N : Int) % 256 = ub (UInt8.ofNat N) := by unfold ub; rw [UInt8.toNat_ofNat']; omega
  have e3 : (lab.length : Int) + 6 = ub (UInt8.ofNat (6 + lab.length)) := by rw [← ofNat_ub (by omega)]; omega
  have e4 : (m.length : Int) = ub (UInt8.ofNat m.length) := ofNat_ub (by omega)
  have k1 : (convert 22 9 (.slice (some ⟨w.heap.size, 0, none⟩) 3 3)).run Tryd.prog (w.alloc (.cells #[.int .u8 ((N : Int) / 256), .int .u8 ((N : Int) % 256), .int .u8 ((lab.length : Int) + 6)] 5)) = .ok (.string (S8 [UInt8.ofNat (N / 256), UInt8.ofNat N, UInt8.ofNat (6 + lab.length)])) (w.alloc (.cells #[.int .u8 ((N : Int) / 256), .int .u8 ((N : Int) % 256), .int .u8 ((lab.length : Int) + 6)] 5)) := by
    rw [e1, e2, e3]
    exact run_string_bs Tryd.underlying22 Tryd.underlying5 Tryd.underlying9 (ch_three w _ _ _).bs
  obtain ⟨wa, hwa⟩ : ∃ wa, wa = w.alloc (.cells #[.int .u8 ((N : Int) / 256), .int .u8 ((N : Int) % 256), .int .u8 ((lab.length : Int) + 6)] 5) := ⟨_, rfl⟩
  have hsz : wa.heap.size = w.heap.size + 1 := by rw [hwa]; simp
  have k2 : (convert 22 9 (.slice (some ⟨w.heap.size + 1, 0, none⟩) 1 1)).run Tryd.prog ((w.alloc (.cells #[.int .u8 ((N : Int) / 256), .int .u8 ((N : Int) % 256), .int .u8 ((lab.length : Int) + 6)] 5)).alloc (.cells #[.int .u8 (m.length : Int)] 5)) = .ok (.string (S8 [UInt8.ofNat m.length])) ((w.alloc (.cells #[.int .u8 ((N : Int) / 256), .int .u8 ((N : Int) % 256), .int .u8 ((lab.length : Int) + 6)] 5)).alloc (.cells #[.int .u8 (m.length : Int)] 5)) := by
    rw [← hwa, ← hsz, e4]
    have := bs_new wa (UInt8.ofNat m.length)
    exact run_string_bs Tryd.underlying22 Tryd.underlying5 Tryd.underlying9 this
  have HB2 : Hid (Below w.heap.size w ((w.alloc (.cells #[.int .u8 ((N : Int) / 256), .int .u8 ((N : Int) % 256), .int .u8 ((lab.length : Int) + 6)] 5)).alloc (.cells #[.int .u8 (m.length : Int)] 5))) := ((Below.refl _ _).alloc (Nat.le_refl _) _).alloc (by simp) _
  clear e1 e2 e3 e4 hwa hsz wa
  have hpre : ({ data := #[116, 108, 115, 49, 51, 32] } : ByteArray) = S8 [116, 108, 115, 49, 51, 32] := rfl
  go_wp2_with fail
  have hI : (UInt8.ofNat (N / 256) :: UInt8.ofNat N :: (6 + UInt8.ofNat lab.length) :: 116 :: 108 :: 115 :: 49 :: 51 :: 32 :: (lab ++ UInt8.ofNat m.length :: m)) = infoOf lab m N := by simp [infoOf]
  rw [hI]
  clear hI k1 k2 hpre
  refine (docexpand_any l (infoOf lab m N) N HB.out.1 (by rw [infoOf_length]; have := HB.out; omega) hN _).mono ?_
  rintro e w5 ⟨rfl, hb5⟩
  have HB5 : Hid (Below w.heap.size w w5) := HB2.out.trans (hb5.mono HB2.out.size)
  clear hb5
  go_wp2
  go_ret2
  exact ⟨rfl, HB5.out⟩
theorem doclabel_g (l lab m : List UInt8) (k : Int) (hb : l.length ≤ 70368744177664) (w : World) :
    Calls Tryd.prog 29 #[.string (S8 l), .string (S8 lab), .string (S8 m), .int .i64 k] w fun e w' => e = .returned (.tuple #[.string (S8 (labR l lab m k)), .int .i64 (labE lab m k)]) ∧ Below w.heap.size w w' := by
  unfold labR labE
  by_cases h : 0 ≤ k ∧ k ≤ 8160
  · by_cases h2 : lab.length ≤ 249 ∧ m.length ≤ 255
    · have hR : (0 ≤ k ∧ k ≤ 8160) ∧ lab.length ≤ 249 ∧ m.length ≤ 255 := ⟨h, h2⟩
      rw [if_pos h, if_pos h2, if_pos hR]
      obtain ⟨N, rfl⟩ : ∃ N : Nat, k = N := ⟨k.toNat, by omega⟩
      exact doclabel_ok hb h2.1 h2.2 (by omega)
    · have hR : ¬ ((0 ≤ k ∧ k ≤ 8160) ∧ lab.length ≤ 249 ∧ m.length ≤ 255) := fun e => h2 e.2
      rw [if_pos h, if_neg h2, if_neg hR]
      refine (doclabel_long h h2).mono ?_
      rintro e w' ⟨rfl, rfl⟩
      exact ⟨rfl, Below.refl _ _⟩
  · have hR : ¬ ((0 ≤ k ∧ k ≤ 8160) ∧ lab.length ≤ 249 ∧ m.length ≤ 255) := fun e => h e.1
    rw [if_neg h, if_neg hR]
    refine (doclabel_bad (by omega)).mono ?_
    rintro e w' ⟨rfl, rfl⟩
    exact ⟨rfl, Below.refl _ _⟩
end Go.Proofs.YtmifegjmmlipbaaDoor
