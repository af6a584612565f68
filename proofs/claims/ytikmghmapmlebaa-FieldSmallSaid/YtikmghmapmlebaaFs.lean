/-
  FieldSmall walked; no condition.
-/
import Derived.Test.YtikmghmapmlebaaFt
namespace Go.Proofs.Ytikmghmapmlebaa
open Go.RowKit Go.Rh F255

set_option maxRecDepth 100000 in
set_option maxHeartbeats 1000000 in
theorem small_law (m n : Nat) (hm : m < 65536) (hn : n < 65536) (w : World) :
    Calls Try.prog 7 #[.int .u16 m, .int .u16 n] w fun e w' => e = .returned (.bool true) ∧ Below w.heap.size w w' := by
  obtain ⟨xa, hxa⟩ : ∃ x : Fin p, x.val = m := ⟨⟨m, Nat.lt_trans hm (by decide)⟩, rfl⟩
  obtain ⟨xb, hxb⟩ : ∃ x : Fin p, x.val = n := ⟨⟨n, Nat.lt_trans hn (by decide)⟩, rfl⟩
  have hmn : m * n < 4294967296 := Nat.lt_of_le_of_lt (Nat.mul_le_mul (Nat.le_of_lt_succ hm) (Nat.le_of_lt_succ hn)) (by decide)
  have hsx : (xa + xb).val = m + n := by rw [fin_add, hxa, hxb, Nat.mod_eq_of_lt (Nat.lt_trans (show m + n < 131072 by omega) (by decide))]
  have hpx : (xa * xb).val = m * n := by rw [fin_mul, hxa, hxb, Nat.mod_eq_of_lt (Nat.lt_trans hmn (by decide))]
  have C1 := Lib.hid (fun w => small_el (by2_lt hm) (leN_by2 m) (by omega) hxa w)
  have C2 := Lib.hid (fun w => small_el (by2_lt hn) (leN_by2 n) (by omega) hxb w)
  have C3 := Lib.hid (fun w => small_el (by3_lt (show m + n < 16777216 by omega)) (leN_by3 (m + n)) (by omega) hsx w)
  have C4 := Lib.hid (fun w => small_el (by4_lt hmn) (leN_by4 (m * n)) hmn hpx w)
  have HX := Lib.hid (And.intro hxa (And.intro hxb (And.intro hm hn)))
  obtain ⟨A, hA⟩ : ∃ A : Int, A = m := ⟨_, rfl⟩
  obtain ⟨B, hB⟩ : ∃ A : Int, A = n := ⟨_, rfl⟩
  have hA0 : 0 ≤ A := by omega
  have hA1 : A < 65536 := by omega
  have hB0 : 0 ≤ B := by omega
  have hB1 : B < 65536 := by omega
  have HA := Lib.hid hA
  have HB := Lib.hid hB
  rw [← hA, ← hB]
  have hAB0 : 0 ≤ A * B := Int.mul_nonneg hA0 hB0
  have hAB1 : A * B < 4294967296 := by
    rw [hA, hB]
    rw [← Int.natCast_mul]
    omega
  have LB : Hid (Below w.heap.size w w) := Lib.hid (Below.refl _ _)
  clear hm hn hxa hxb hmn hsx hpx hA hB
  go_enter Try.func7, Try.ntmps7
  go_wp2_with fail
  rw [HA.out]
  refine (C1.out _).mono ?_
  rw [← HA.out]
-- HEAD
  rintro e w1 ⟨⟨fa, rfl, hf⟩, hb⟩
  replace LB := Lib.hid (LB.out.trans (hb.mono LB.out.size))
  have HF := Lib.hid hf
  clear hb hf
  obtain ⟨w2, hw⟩ : ∃ zz, zz = World.setRow (w1.alloc (.cells #[.int .u64 0, .int .u64 0, .int .u64 0, .int .u64 0, .int .u64 0] 26)) w1.heap.size (U64 fa) := ⟨_, rfl⟩
  have T1 : Hid ((w1.alloc (.cells #[.int .u64 0, .int .u64 0, .int .u64 0, .int .u64 0, .int .u64 0] 26)).heap[w1.heap.size]? = some (.cells #[.int .u64 0, .int .u64 0, .int .u64 0, .int .u64 0, .int .u64 0] 26 (0, 0))) := Lib.hid (heap_new' _ _ _ rfl)
  have M5 : Hid (FeAt w2 w1.heap.size (xa)) := Lib.hid ⟨fa, by rw [hw]; exact setRow_heap _ _ _ _ _ _ T1.out, HF.out⟩
  replace LB := Lib.hid (below_newE hw LB.out)
  have HW := Lib.hid hw
  clear hw HF
  go_wp2_with (first | (refine wpList_store_row rfl 26 (.tmp 5) (.tmp 22) rfl w1.heap.size (U64 fa) rfl rfl 26 _ T1.out (sz26.trans (by simp [U64])) (by first | (simp [U64]; done) | (simp [U64]; rfl)) (vals_one _ _ _) ?_; rw [← HW.out]) | fail)
  clear T1 HW
  rw [HB.out]
  refine (C2.out _).mono ?_
  rw [← HB.out]
  rintro e w3 ⟨⟨fb, rfl, hf⟩, hb⟩
  replace M5 := Lib.hid (M5.out.grown (grown_own hb))
  replace LB := Lib.hid (LB.out.trans (hb.mono LB.out.size))
  have HF := Lib.hid hf
  clear hb hf
  obtain ⟨w4, hw⟩ : ∃ zz, zz = World.setRow (w3.alloc (.cells #[.int .u64 0, .int .u64 0, .int .u64 0, .int .u64 0, .int .u64 0] 26)) w3.heap.size (U64 fb) := ⟨_, rfl⟩
  have T1 : Hid ((w3.alloc (.cells #[.int .u64 0, .int .u64 0, .int .u64 0, .int .u64 0, .int .u64 0] 26)).heap[w3.heap.size]? = some (.cells #[.int .u64 0, .int .u64 0, .int .u64 0, .int .u64 0, .int .u64 0] 26 (0, 0))) := Lib.hid (heap_new' _ _ _ rfl)
  have M6 : Hid (FeAt w4 w3.heap.size (xb)) := Lib.hid ⟨fb, by rw [hw]; exact setRow_heap _ _ _ _ _ _ T1.out, HF.out⟩
  replace M5 := Lib.hid (fe_new hw M5.out)
  replace LB := Lib.hid (below_newE hw LB.out)
  have HW := Lib.hid hw
  clear hw HF
  go_wp2_with (first | (refine wpList_store_row rfl 26 (.tmp 6) (.tmp 29) rfl w3.heap.size (U64 fb) rfl rfl 26 _ T1.out (sz26.trans (by simp [U64])) (by first | (simp [U64]; done) | (simp [U64]; rfl)) (vals_one _ _ _) ?_; rw [← HW.out]) | fail)
  clear T1 HW
  rw [HA.out, HB.out]
  refine (C3.out _).mono ?_
  rw [← HA.out, ← HB.out]
  rintro e w5 ⟨⟨fs, rfl, hf⟩, hb⟩
  replace M5 := Lib.hid (M5.out.grown (grown_own hb))
  replace M6 := Lib.hid (M6.out.grown (grown_own hb))
  replace LB := Lib.hid (LB.out.trans (hb.mono LB.out.size))
  have HF := Lib.hid hf
  clear hb hf
  obtain ⟨w6, hw⟩ : ∃ zz, zz = World.setRow (w5.alloc (.cells #[.int .u64 0, .int .u64 0, .int .u64 0, .int .u64 0, .int .u64 0] 26)) w5.heap.size (U64 fs) := ⟨_, rfl⟩
  have T1 : Hid ((w5.alloc (.cells #[.int .u64 0, .int .u64 0, .int .u64 0, .int .u64 0, .int .u64 0] 26)).heap[w5.heap.size]? = some (.cells #[.int .u64 0, .int .u64 0, .int .u64 0, .int .u64 0, .int .u64 0] 26 (0, 0))) := Lib.hid (heap_new' _ _ _ rfl)
  have M9 : Hid (FeAt w6 w5.heap.size (xa + xb)) := Lib.hid ⟨fs, by rw [hw]; exact setRow_heap _ _ _ _ _ _ T1.out, HF.out⟩
  replace M5 := Lib.hid (fe_new hw M5.out)
  replace M6 := Lib.hid (fe_new hw M6.out)
  replace LB := Lib.hid (below_newE hw LB.out)
  have HW := Lib.hid hw
  clear hw HF
  go_wp2_with (first | (refine wpList_store_row rfl 26 (.tmp 9) (.tmp 49) rfl w5.heap.size (U64 fs) rfl rfl 26 _ T1.out (sz26.trans (by simp [U64])) (by first | (simp [U64]; done) | (simp [U64]; rfl)) (vals_one _ _ _) ?_; rw [← HW.out]) | fail)
  clear T1 HW
  rw [HA.out, HB.out]
  refine (C4.out _).mono ?_
  rw [← HA.out, ← HB.out]
  rintro e w7 ⟨⟨fp, rfl, hf⟩, hb⟩
  replace M5 := Lib.hid (M5.out.grown (grown_own hb))
  replace M6 := Lib.hid (M6.out.grown (grown_own hb))
  replace M9 := Lib.hid (M9.out.grown (grown_own hb))
  replace LB := Lib.hid (LB.out.trans (hb.mono LB.out.size))
  have HF := Lib.hid hf
  clear hb hf
  obtain ⟨w8, hw⟩ : ∃ zz, zz = World.setRow (w7.alloc (.cells #[.int .u64 0, .int .u64 0, .int .u64 0, .int .u64 0, .int .u64 0] 26)) w7.heap.size (U64 fp) := ⟨_, rfl⟩
  have T1 : Hid ((w7.alloc (.cells #[.int .u64 0, .int .u64 0, .int .u64 0, .int .u64 0, .int .u64 0] 26)).heap[w7.heap.size]? = some (.cells #[.int .u64 0, .int .u64 0, .int .u64 0, .int .u64 0, .int .u64 0] 26 (0, 0))) := Lib.hid (heap_new' _ _ _ rfl)
  have M10 : Hid (FeAt w8 w7.heap.size (xa * xb)) := Lib.hid ⟨fp, by rw [hw]; exact setRow_heap _ _ _ _ _ _ T1.out, HF.out⟩
  replace M5 := Lib.hid (fe_new hw M5.out)
  replace M6 := Lib.hid (fe_new hw M6.out)
  replace M9 := Lib.hid (fe_new hw M9.out)
  replace LB := Lib.hid (below_newE hw LB.out)
  have HW := Lib.hid hw
  clear hw HF
  obtain ⟨g5, hg5, kg5⟩ := M5.out
  have R5 := Lib.hid hg5
  have K5 := Lib.hid kg5
  clear hg5 kg5
  obtain ⟨g6, hg6, kg6⟩ := M6.out
  have R6 := Lib.hid hg6
  have K6 := Lib.hid kg6
  clear hg6 kg6
  go_wp2_with (first | (refine wpList_store_row rfl 26 (.tmp 10) (.tmp 62) rfl w7.heap.size (U64 fp) rfl rfl 26 _ T1.out (sz26.trans (by simp [U64])) (by first | (simp [U64]; done) | (simp [U64]; rfl)) (vals_one _ _ _) ?_; rw [← HW.out]) | (refine wpList_load_row rfl 26 (.tmp 5) rfl w1.heap.size rfl 26 (U64 g5) (0, 0) _ R5.out Try.underlying26 rfl (sz26.trans (by simp [U64])) ?_) | (refine wpList_load_row rfl 26 (.tmp 6) rfl w3.heap.size rfl 26 (U64 g6) (0, 0) _ R6.out Try.underlying26 rfl (sz26.trans (by simp [U64])) ?_) | fail)
  clear T1 HW
  refine (eSub K5.out K6.out _).mono ?_
  clear R5 R6
  rintro e w9 ⟨⟨fd, rfl, hf⟩, hb⟩
  replace M5 := Lib.hid (M5.out.grown (grown_own hb))
  replace M6 := Lib.hid (M6.out.grown (grown_own hb))
  replace M9 := Lib.hid (M9.out.grown (grown_own hb))
  replace M10 := Lib.hid (M10.out.grown (grown_own hb))
  replace LB := Lib.hid (LB.out.trans (hb.mono LB.out.size))
  have HF := Lib.hid hf
  clear hb hf
  obtain ⟨w10, hw⟩ : ∃ zz, zz = World.setRow (w9.alloc (.cells #[.int .u64 0, .int .u64 0, .int .u64 0, .int .u64 0, .int .u64 0] 26)) w9.heap.size (U64 fd) := ⟨_, rfl⟩
  have T1 : Hid ((w9.alloc (.cells #[.int .u64 0, .int .u64 0, .int .u64 0, .int .u64 0, .int .u64 0] 26)).heap[w9.heap.size]? = some (.cells #[.int .u64 0, .int .u64 0, .int .u64 0, .int .u64 0, .int .u64 0] 26 (0, 0))) := Lib.hid (heap_new' _ _ _ rfl)
  have M11 : Hid (FeAt w10 w9.heap.size (xa - xb)) := Lib.hid ⟨fd, by rw [hw]; exact setRow_heap _ _ _ _ _ _ T1.out, HF.out⟩
  replace M5 := Lib.hid (fe_new hw M5.out)
  replace M6 := Lib.hid (fe_new hw M6.out)
  replace M9 := Lib.hid (fe_new hw M9.out)
  replace M10 := Lib.hid (fe_new hw M10.out)
  replace LB := Lib.hid (below_newE hw LB.out)
  have HW := Lib.hid hw
  clear hw HF
  obtain ⟨g11, hg11, kg11⟩ := M11.out
  have R11 := Lib.hid hg11
  have K11 := Lib.hid kg11
  clear hg11 kg11
  clear K6
  obtain ⟨g6b, hg6b, kg6b⟩ := M6.out
  have R6b := Lib.hid hg6b
  have K6b := Lib.hid kg6b
  clear hg6b kg6b
  go_wp2_with (first | (refine wpList_store_row rfl 26 (.tmp 11) (.tmp 65) rfl w9.heap.size (U64 fd) rfl rfl 26 _ T1.out (sz26.trans (by simp [U64])) (by first | (simp [U64]; done) | (simp [U64]; rfl)) (vals_one _ _ _) ?_; rw [← HW.out]) | (refine wpList_load_row rfl 26 (.tmp 11) rfl w9.heap.size rfl 26 (U64 g11) (0, 0) _ R11.out Try.underlying26 rfl (sz26.trans (by simp [U64])) ?_) | (refine wpList_load_row rfl 26 (.tmp 6) rfl w3.heap.size rfl 26 (U64 g6b) (0, 0) _ R6b.out Try.underlying26 rfl (sz26.trans (by simp [U64])) ?_) | fail)
  clear T1 HW
  refine (eAdd K11.out K6b.out _).mono ?_
  clear R11 R6b
  rintro e w11 ⟨⟨fk, rfl, hf⟩, hb⟩
  replace M5 := Lib.hid (M5.out.grown (grown_own hb))
  replace M6 := Lib.hid (M6.out.grown (grown_own hb))
  replace M9 := Lib.hid (M9.out.grown (grown_own hb))
  replace M10 := Lib.hid (M10.out.grown (grown_own hb))
  replace M11 := Lib.hid (M11.out.grown (grown_own hb))
  replace LB := Lib.hid (LB.out.trans (hb.mono LB.out.size))
  have HF := Lib.hid hf
  clear hb hf
  have hk : xa - xb + xb = xa := by grind
  replace HF := Lib.hid (hk ▸ HF.out)
  clear hk
  obtain ⟨w12, hw⟩ : ∃ zz, zz = World.setRow (w11.alloc (.cells #[.int .u64 0, .int .u64 0, .int .u64 0, .int .u64 0, .int .u64 0] 26)) w11.heap.size (U64 fk) := ⟨_, rfl⟩
  have T1 : Hid ((w11.alloc (.cells #[.int .u64 0, .int .u64 0, .int .u64 0, .int .u64 0, .int .u64 0] 26)).heap[w11.heap.size]? = some (.cells #[.int .u64 0, .int .u64 0, .int .u64 0, .int .u64 0, .int .u64 0] 26 (0, 0))) := Lib.hid (heap_new' _ _ _ rfl)
  have M12 : Hid (FeAt w12 w11.heap.size (xa)) := Lib.hid ⟨fk, by rw [hw]; exact setRow_heap _ _ _ _ _ _ T1.out, HF.out⟩
  replace M5 := Lib.hid (fe_new hw M5.out)
  replace M6 := Lib.hid (fe_new hw M6.out)
  replace M9 := Lib.hid (fe_new hw M9.out)
  replace M10 := Lib.hid (fe_new hw M10.out)
  replace M11 := Lib.hid (fe_new hw M11.out)
  replace LB := Lib.hid (below_newE hw LB.out)
  have HW := Lib.hid hw
  clear hw HF
  clear K11
  obtain ⟨g11b, hg11b, kg11b⟩ := M11.out
  have R11b := Lib.hid hg11b
  have K11b := Lib.hid kg11b
  clear hg11b kg11b
  go_wp2_with (first | (refine wpList_store_row rfl 26 (.tmp 12) (.tmp 68) rfl w11.heap.size (U64 fk) rfl rfl 26 _ T1.out (sz26.trans (by simp [U64])) (by first | (simp [U64]; done) | (simp [U64]; rfl)) (vals_one _ _ _) ?_; rw [← HW.out]) | (refine wpList_load_row rfl 26 (.tmp 11) rfl w9.heap.size rfl 26 (U64 g11b) (0, 0) _ R11b.out Try.underlying26 rfl (sz26.trans (by simp [U64])) ?_) | fail)
  clear T1 HW
  refine (eText K11b.out _).mono ?_
  rintro e w13 ⟨rfl, hb⟩
  replace M5 := Lib.hid (M5.out.grown (grown_own hb))
  replace M6 := Lib.hid (M6.out.grown (grown_own hb))
  replace M9 := Lib.hid (M9.out.grown (grown_own hb))
  replace M10 := Lib.hid (M10.out.grown (grown_own hb))
  replace M11 := Lib.hid (M11.out.grown (grown_own hb))
  replace M12 := Lib.hid (M12.out.grown (grown_own hb))
  replace LB := Lib.hid (LB.out.trans (hb.mono LB.out.size))
  clear hb R11b K11b K5 K6b
  by_cases hc : B ≤ A
  · have hge : decide (A ≥ B) = true := by simpa using hc
    go_wp2_with fail
    obtain ⟨k, hk⟩ : ∃ k : Nat, A - B = k := ⟨(A - B).toNat, by omega⟩
    rw [hk]
    have hkb : k < 65536 := by omega
    have hv0 : (xa - xb).val = k := by
      have h1 := HA.out
      have h2 := HB.out
      rw [fin_sub, HX.out.1, HX.out.2.1, show m + pN - n = k + pN by omega, Nat.add_mod_right, Nat.mod_eq_of_lt (Nat.lt_trans hkb (by decide))]
    have q11_108 : Hid (Value.bool ((le32 (xa - xb).val).toList == (bstr (by2 k) 2 ++ (le32 0).extract 0 30).toList) = Value.bool true) := Lib.hid (by rw [hv0, ← low_str hkb]; simp)
    clear hv0 hA0 hA1 hB0 hB1 hAB0 hAB1 hc hge hk HA HB HX C1 C2 C3 C4
    refine region_kk _ 170 [.eq (.bool true), .eq (.bool true), .fe (xa), .fe (xb), .fe (xa + xb), .eq (.string (le32 ((xa + xb).val))), .fe (xa + xb), .eq (.string (le32 ((xa + xb).val))), .eq (.bool true), .eq (.bool true), .eq (.bool true), .fe (xa), .fe (xb), .fe (xa * xb), .eq (.string (le32 ((xa * xb).val))), .fe (xa * xb), .eq (.string (le32 ((xa * xb).val))), .eq (.bool true), .eq (.bool true), .eq (.bool true), .eq (.string (le32 ((xa - xb).val))), .eq (.int .u16 ((k : Int))), .eq (.int .u8 (((k : Int)) % 256)), .eq (.int .u16 ((k : Int))), .eq (.int .u16 (((k : Int)) / 256)), .eq (.int .u8 ((((k : Int)) / 256) % 256)), .few 0 2 (by2 k), .eq (.string (bstr (by2 k) 2)), .eq (.string (le32 0)), .eq (.string ((le32 0).extract 0 30)), .eq (.string (bstr (by2 k) 2 ++ (le32 0).extract 0 30)), .eq (.bool true), .eq (.bool true), .eq (.bool true)] (by kernel_rfl) (by rfl) (by kernel_rfl) (by kernel_rfl) (fun x1 hw => ?_) (fun vs v hg hv hap => ?_)
    · refine ⟨?_, ?_, ?_, ?_, ?_, ?_, ?_, ?_, ?_, ?_, ?_, ?_, ?_, ?_, ?_, ?_, ?_, ?_, ?_, ?_, ?_, ?_, ?_, ?_, ?_, ?_, ?_, ?_, ?_, ?_, ?_, ?_, ?_, ?_, trivial⟩
      · intro a x2 hg hsp hd K hK
        replace hg := grown_trans hw hg
        refine at_call (wanted_free rfl) rfl (args0) Try.func16 (by kernel_rfl) rfl ?_
        refine (wraps_any _).mono ?_
        rintro e w1 ⟨rfl, hb⟩
        exact ⟨_, rfl, hK _ _ (grown_own hb) rfl (fun h => Bool.noConfusion (show false = true from h))⟩
      · intro a x2 hg hsp hd K hK
        replace hg := grown_trans hw hg
        obtain ⟨_, e1, h1⟩ := hd 0 _ 77 (by kernel_rfl) rfl rfl
        have h1 : _ = _ := h1
        subst h1
        exact at_value (wanted_free rfl) (run_move (Or.inl rfl) (eval_tmp e1)) (hK _ _ (grown_refl _ _) rfl (fun h => Bool.noConfusion (show false = true from h)))
      · intro a x2 hg hsp hd K hK
        replace hg := grown_trans hw hg
        obtain ⟨_, eg, hgd⟩ := hd 1 _ 78 (by kernel_rfl) rfl rfl
        have hgd : _ = _ := hgd
        subst hgd
        have e1 : a.tmps[5]? = some (.pointer (some ⟨w1.heap.size, 0, none⟩)) := (hsp 5 (by kernel_rfl)).trans rfl
        obtain ⟨f, hb, hf⟩ := M5.out.grown hg
        exact at_row (wanted_on rfl rfl rfl eg) rfl e1 hb Try.underlying26 rfl (sz26.trans (by simp [U64])) (hK _ _ (grown_refl _ _) ⟨_, rfl, hf⟩ (fun h => Bool.noConfusion (show false = true from h)))
      · intro a x2 hg hsp hd K hK
        replace hg := grown_trans hw hg
        obtain ⟨_, eg, hgd⟩ := hd 1 _ 78 (by kernel_rfl) rfl rfl
        have hgd : _ = _ := hgd
        subst hgd
        have e1 : a.tmps[6]? = some (.pointer (some ⟨w3.heap.size, 0, none⟩)) := (hsp 6 (by kernel_rfl)).trans rfl
        obtain ⟨f, hb, hf⟩ := M6.out.grown hg
        exact at_row (wanted_on rfl rfl rfl eg) rfl e1 hb Try.underlying26 rfl (sz26.trans (by simp [U64])) (hK _ _ (grown_refl _ _) ⟨_, rfl, hf⟩ (fun h => Bool.noConfusion (show false = true from h)))
      · intro a x2 hg hsp hd K hK
        replace hg := grown_trans hw hg
        obtain ⟨_, eg, hgd⟩ := hd 1 _ 78 (by kernel_rfl) rfl rfl
        have hgd : _ = _ := hgd
        subst hgd
        obtain ⟨_, e1, f1, rfl, h1⟩ := hd 2 _ 79 (by kernel_rfl) rfl rfl
        obtain ⟨_, e2, f2, rfl, h2⟩ := hd 3 _ 80 (by kernel_rfl) rfl rfl
        refine at_call (wanted_on rfl rfl rfl eg) rfl (args2 e1 e2) Try.func18 (by kernel_rfl) rfl ?_
        refine (eAdd h1 h2 _).mono ?_
        rintro e w1 ⟨⟨f, rfl, hf⟩, hb⟩
        exact ⟨_, rfl, hK _ _ (grown_own hb) ⟨_, rfl, hf⟩ (fun h => Bool.noConfusion (show false = true from h))⟩
      · intro a x2 hg hsp hd K hK
        replace hg := grown_trans hw hg
        obtain ⟨_, eg, hgd⟩ := hd 1 _ 78 (by kernel_rfl) rfl rfl
        have hgd : _ = _ := hgd
        subst hgd
        obtain ⟨_, e1, f1, rfl, h1⟩ := hd 4 _ 81 (by kernel_rfl) rfl rfl
        refine at_call (wanted_on rfl rfl rfl eg) rfl (args1 e1) Try.func17 (by kernel_rfl) rfl ?_
        refine (eText h1 _).mono ?_
        rintro e w1 ⟨rfl, hb⟩
        exact ⟨_, rfl, hK _ _ (grown_own hb) rfl (fun h => Bool.noConfusion (show false = true from h))⟩
      · intro a x2 hg hsp hd K hK
        replace hg := grown_trans hw hg
        obtain ⟨_, eg, hgd⟩ := hd 1 _ 78 (by kernel_rfl) rfl rfl
        have hgd : _ = _ := hgd
        subst hgd
        have e1 : a.tmps[9]? = some (.pointer (some ⟨w5.heap.size, 0, none⟩)) := (hsp 9 (by kernel_rfl)).trans rfl
        obtain ⟨f, hb, hf⟩ := M9.out.grown hg
        exact at_row (wanted_on rfl rfl rfl eg) rfl e1 hb Try.underlying26 rfl (sz26.trans (by simp [U64])) (hK _ _ (grown_refl _ _) ⟨_, rfl, hf⟩ (fun h => Bool.noConfusion (show false = true from h)))
      · intro a x2 hg hsp hd K hK
        replace hg := grown_trans hw hg
        obtain ⟨_, eg, hgd⟩ := hd 1 _ 78 (by kernel_rfl) rfl rfl
        have hgd : _ = _ := hgd
        subst hgd
        obtain ⟨_, e1, f1, rfl, h1⟩ := hd 6 _ 83 (by kernel_rfl) rfl rfl
        refine at_call (wanted_on rfl rfl rfl eg) rfl (args1 e1) Try.func17 (by kernel_rfl) rfl ?_
        refine (eText h1 _).mono ?_
        rintro e w1 ⟨rfl, hb⟩
        exact ⟨_, rfl, hK _ _ (grown_own hb) rfl (fun h => Bool.noConfusion (show false = true from h))⟩
      · intro a x2 hg hsp hd K hK
        replace hg := grown_trans hw hg
        obtain ⟨_, eg, hgd⟩ := hd 1 _ 78 (by kernel_rfl) rfl rfl
        have hgd : _ = _ := hgd
        subst hgd
        obtain ⟨_, e1, h1⟩ := hd 5 _ 82 (by kernel_rfl) rfl rfl
        have h1 : _ = _ := h1
        subst h1
        obtain ⟨_, e2, h2⟩ := hd 7 _ 84 (by kernel_rfl) rfl rfl
        have h2 : _ = _ := h2
        subst h2
        exact at_value (wanted_on rfl rfl rfl eg) (run_eqs rfl (eval_tmp e1) (eval_tmp e2)) (hK _ _ (grown_refl _ _) (show Value.bool _ = Value.bool true from by simp) (fun h => Bool.noConfusion (show false = true from h)))
      · intro a x2 hg hsp hd K hK
        replace hg := grown_trans hw hg
        obtain ⟨_, e1, h1⟩ := hd 1 _ 78 (by kernel_rfl) rfl rfl
        have h1 : _ = _ := h1
        subst h1
        obtain ⟨_, e2, h2⟩ := hd 8 _ 85 (by kernel_rfl) rfl rfl
        have h2 : _ = _ := h2
        subst h2
        exact at_value (wanted_free rfl) (run_pick (v := .bool true) rfl (eval_tmp e1) ((if_pos rfl).trans (eval_tmp e2))) (hK _ _ (grown_refl _ _) rfl (fun h => Bool.noConfusion (show false = true from h)))
      · intro a x2 hg hsp hd K hK
        replace hg := grown_trans hw hg
        obtain ⟨_, e1, h1⟩ := hd 9 _ 86 (by kernel_rfl) rfl rfl
        have h1 : _ = _ := h1
        subst h1
        exact at_value (wanted_free rfl) (run_move (Or.inl rfl) (eval_tmp e1)) (hK _ _ (grown_refl _ _) rfl (fun h => Bool.noConfusion (show false = true from h)))
      · intro a x2 hg hsp hd K hK
        replace hg := grown_trans hw hg
        obtain ⟨_, eg, hgd⟩ := hd 10 _ 87 (by kernel_rfl) rfl rfl
        have hgd : _ = _ := hgd
        subst hgd
        have e1 : a.tmps[5]? = some (.pointer (some ⟨w1.heap.size, 0, none⟩)) := (hsp 5 (by kernel_rfl)).trans rfl
        obtain ⟨f, hb, hf⟩ := M5.out.grown hg
        exact at_row (wanted_on rfl rfl rfl eg) rfl e1 hb Try.underlying26 rfl (sz26.trans (by simp [U64])) (hK _ _ (grown_refl _ _) ⟨_, rfl, hf⟩ (fun h => Bool.noConfusion (show false = true from h)))
      · intro a x2 hg hsp hd K hK
        replace hg := grown_trans hw hg
        obtain ⟨_, eg, hgd⟩ := hd 10 _ 87 (by kernel_rfl) rfl rfl
        have hgd : _ = _ := hgd
        subst hgd
        have e1 : a.tmps[6]? = some (.pointer (some ⟨w3.heap.size, 0, none⟩)) := (hsp 6 (by kernel_rfl)).trans rfl
        obtain ⟨f, hb, hf⟩ := M6.out.grown hg
        exact at_row (wanted_on rfl rfl rfl eg) rfl e1 hb Try.underlying26 rfl (sz26.trans (by simp [U64])) (hK _ _ (grown_refl _ _) ⟨_, rfl, hf⟩ (fun h => Bool.noConfusion (show false = true from h)))
      · intro a x2 hg hsp hd K hK
        replace hg := grown_trans hw hg
        obtain ⟨_, eg, hgd⟩ := hd 10 _ 87 (by kernel_rfl) rfl rfl
        have hgd : _ = _ := hgd
        subst hgd
        obtain ⟨_, e1, f1, rfl, h1⟩ := hd 11 _ 88 (by kernel_rfl) rfl rfl
        obtain ⟨_, e2, f2, rfl, h2⟩ := hd 12 _ 89 (by kernel_rfl) rfl rfl
        refine at_call (wanted_on rfl rfl rfl eg) rfl (args2 e1 e2) Try.func22 (by kernel_rfl) rfl ?_
        refine (eMul h1 h2 _).mono ?_
        rintro e w1 ⟨⟨f, rfl, hf⟩, hb⟩
        exact ⟨_, rfl, hK _ _ (grown_own hb) ⟨_, rfl, hf⟩ (fun h => Bool.noConfusion (show false = true from h))⟩
      · intro a x2 hg hsp hd K hK
        replace hg := grown_trans hw hg
        obtain ⟨_, eg, hgd⟩ := hd 10 _ 87 (by kernel_rfl) rfl rfl
        have hgd : _ = _ := hgd
        subst hgd
        obtain ⟨_, e1, f1, rfl, h1⟩ := hd 13 _ 90 (by kernel_rfl) rfl rfl
        refine at_call (wanted_on rfl rfl rfl eg) rfl (args1 e1) Try.func17 (by kernel_rfl) rfl ?_
        refine (eText h1 _).mono ?_
        rintro e w1 ⟨rfl, hb⟩
        exact ⟨_, rfl, hK _ _ (grown_own hb) rfl (fun h => Bool.noConfusion (show false = true from h))⟩
      · intro a x2 hg hsp hd K hK
        replace hg := grown_trans hw hg
        obtain ⟨_, eg, hgd⟩ := hd 10 _ 87 (by kernel_rfl) rfl rfl
        have hgd : _ = _ := hgd
        subst hgd
        have e1 : a.tmps[10]? = some (.pointer (some ⟨w7.heap.size, 0, none⟩)) := (hsp 10 (by kernel_rfl)).trans rfl
        obtain ⟨f, hb, hf⟩ := M10.out.grown hg
        exact at_row (wanted_on rfl rfl rfl eg) rfl e1 hb Try.underlying26 rfl (sz26.trans (by simp [U64])) (hK _ _ (grown_refl _ _) ⟨_, rfl, hf⟩ (fun h => Bool.noConfusion (show false = true from h)))
      · intro a x2 hg hsp hd K hK
        replace hg := grown_trans hw hg
        obtain ⟨_, eg, hgd⟩ := hd 10 _ 87 (by kernel_rfl) rfl rfl
        have hgd : _ = _ := hgd
        subst hgd
        obtain ⟨_, e1, f1, rfl, h1⟩ := hd 15 _ 92 (by kernel_rfl) rfl rfl
        refine at_call (wanted_on rfl rfl rfl eg) rfl (args1 e1) Try.func17 (by kernel_rfl) rfl ?_
        refine (eText h1 _).mono ?_
        rintro e w1 ⟨rfl, hb⟩
        exact ⟨_, rfl, hK _ _ (grown_own hb) rfl (fun h => Bool.noConfusion (show false = true from h))⟩
      · intro a x2 hg hsp hd K hK
        replace hg := grown_trans hw hg
        obtain ⟨_, eg, hgd⟩ := hd 10 _ 87 (by kernel_rfl) rfl rfl
        have hgd : _ = _ := hgd
        subst hgd
        obtain ⟨_, e1, h1⟩ := hd 14 _ 91 (by kernel_rfl) rfl rfl
        have h1 : _ = _ := h1
        subst h1
        obtain ⟨_, e2, h2⟩ := hd 16 _ 93 (by kernel_rfl) rfl rfl
        have h2 : _ = _ := h2
        subst h2
        exact at_value (wanted_on rfl rfl rfl eg) (run_eqs rfl (eval_tmp e1) (eval_tmp e2)) (hK _ _ (grown_refl _ _) (show Value.bool _ = Value.bool true from by simp) (fun h => Bool.noConfusion (show false = true from h)))
      · intro a x2 hg hsp hd K hK
        replace hg := grown_trans hw hg
        obtain ⟨_, e1, h1⟩ := hd 10 _ 87 (by kernel_rfl) rfl rfl
        have h1 : _ = _ := h1
        subst h1
        obtain ⟨_, e2, h2⟩ := hd 17 _ 94 (by kernel_rfl) rfl rfl
        have h2 : _ = _ := h2
        subst h2
        exact at_value (wanted_free rfl) (run_pick (v := .bool true) rfl (eval_tmp e1) ((if_pos rfl).trans (eval_tmp e2))) (hK _ _ (grown_refl _ _) rfl (fun h => Bool.noConfusion (show false = true from h)))
      · intro a x2 hg hsp hd K hK
        replace hg := grown_trans hw hg
        obtain ⟨_, e1, h1⟩ := hd 18 _ 95 (by kernel_rfl) rfl rfl
        have h1 : _ = _ := h1
        subst h1
        exact at_value (wanted_free rfl) (run_move (Or.inl rfl) (eval_tmp e1)) (hK _ _ (grown_refl _ _) rfl (fun h => Bool.noConfusion (show false = true from h)))
      · intro a x2 hg hsp hd K hK
        replace hg := grown_trans hw hg
        obtain ⟨_, eg, hgd⟩ := hd 19 _ 96 (by kernel_rfl) rfl rfl
        have hgd : _ = _ := hgd
        subst hgd
        have e1 : a.tmps[13]? = some (.string (le32 ((xa - xb).val))) := (hsp 13 (by kernel_rfl)).trans rfl
        exact at_value (wanted_on rfl rfl rfl eg) (run_move (Or.inl rfl) (eval_tmp e1)) (hK _ _ (grown_refl _ _) rfl (fun h => Bool.noConfusion (show false = true from h)))
      · intro a x2 hg hsp hd K hK
        replace hg := grown_trans hw hg
        obtain ⟨_, eg, hgd⟩ := hd 19 _ 96 (by kernel_rfl) rfl rfl
        have hgd : _ = _ := hgd
        subst hgd
        have e1 : a.tmps[14]? = some (.int .u16 ((k : Int))) := (hsp 14 (by kernel_rfl)).trans rfl
        exact at_value (wanted_on rfl rfl rfl eg) (run_move (Or.inl rfl) (eval_tmp e1)) (hK _ _ (grown_refl _ _) rfl (fun h => Bool.noConfusion (show false = true from h)))
      · intro a x2 hg hsp hd K hK
        replace hg := grown_trans hw hg
        obtain ⟨_, eg, hgd⟩ := hd 19 _ 96 (by kernel_rfl) rfl rfl
        have hgd : _ = _ := hgd
        subst hgd
        obtain ⟨_, e1, h1⟩ := hd 21 _ 98 (by kernel_rfl) rfl rfl
        have h1 : _ = _ := h1
        subst h1
        exact at_value (wanted_on rfl rfl rfl eg) (run_op_convert rfl (eval_tmp e1) (conv39_5 _ (by omega) (by omega) _)) (hK _ _ (grown_refl _ _) rfl (fun h => Bool.noConfusion (show false = true from h)))
      · intro a x2 hg hsp hd K hK
        replace hg := grown_trans hw hg
        obtain ⟨_, eg, hgd⟩ := hd 19 _ 96 (by kernel_rfl) rfl rfl
        have hgd : _ = _ := hgd
        subst hgd
        have e1 : a.tmps[14]? = some (.int .u16 ((k : Int))) := (hsp 14 (by kernel_rfl)).trans rfl
        exact at_value (wanted_on rfl rfl rfl eg) (run_move (Or.inl rfl) (eval_tmp e1)) (hK _ _ (grown_refl _ _) rfl (fun h => Bool.noConfusion (show false = true from h)))
      · intro a x2 hg hsp hd K hK
        replace hg := grown_trans hw hg
        obtain ⟨_, eg, hgd⟩ := hd 19 _ 96 (by kernel_rfl) rfl rfl
        have hgd : _ = _ := hgd
        subst hgd
        obtain ⟨_, e1, h1⟩ := hd 23 _ 100 (by kernel_rfl) rfl rfl
        have h1 : _ = _ := h1
        subst h1
        exact at_value (wanted_on rfl rfl rfl eg) (run_shr39 rfl (eval_tmp e1) (by omega) (by omega)) (hK _ _ (grown_refl _ _) rfl (fun h => Bool.noConfusion (show false = true from h)))
      · intro a x2 hg hsp hd K hK
        replace hg := grown_trans hw hg
        obtain ⟨_, eg, hgd⟩ := hd 19 _ 96 (by kernel_rfl) rfl rfl
        have hgd : _ = _ := hgd
        subst hgd
        obtain ⟨_, e1, h1⟩ := hd 24 _ 101 (by kernel_rfl) rfl rfl
        have h1 : _ = _ := h1
        subst h1
        exact at_value (wanted_on rfl rfl rfl eg) (run_op_convert rfl (eval_tmp e1) (conv39_5 _ (by omega) (by omega) _)) (hK _ _ (grown_refl _ _) rfl (fun h => Bool.noConfusion (show false = true from h)))
      · intro a x2 hg hsp hd K hK
        replace hg := grown_trans hw hg
        obtain ⟨_, eg, hgd⟩ := hd 19 _ 96 (by kernel_rfl) rfl rfl
        have hgd : _ = _ := hgd
        subst hgd
        obtain ⟨_, e1, h1⟩ := hd 22 _ 99 (by kernel_rfl) rfl rfl
        have h1 : _ = _ := h1
        subst h1
        obtain ⟨_, e2, h2⟩ := hd 25 _ 102 (by kernel_rfl) rfl rfl
        have h2 : _ = _ := h2
        subst h2
        exact at_value (wanted_on rfl rfl rfl eg) (run_bs2 (m := k % 256) (n := k / 256) rfl (eval_tmp e1) ((eval_tmp e2).trans (congrArg (Value.int .u8) (by omega)))) (hK _ _ (grown_new (grown_refl _ _) _) ⟨few2 _ _, Nat.zero_le _⟩ (fun h => Bool.noConfusion (show false = true from h)))
      · intro a x2 hg hsp hd K hK
        replace hg := grown_trans hw hg
        obtain ⟨_, eg, hgd⟩ := hd 19 _ 96 (by kernel_rfl) rfl rfl
        have hgd : _ = _ := hgd
        subst hgd
        obtain ⟨_, e1, h1, _⟩ := hd 26 _ 103 (by kernel_rfl) rfl rfl
        exact at_value (wanted_on rfl rfl rfl eg) (run_op_convert rfl (eval_tmp e1) (run_string_few h1)) (hK _ _ (grown_refl _ _) rfl (fun h => Bool.noConfusion (show false = true from h)))
      · intro a x2 hg hsp hd K hK
        replace hg := grown_trans hw hg
        obtain ⟨_, eg, hgd⟩ := hd 19 _ 96 (by kernel_rfl) rfl rfl
        have hgd : _ = _ := hgd
        subst hgd
        refine at_call (wanted_on rfl rfl rfl eg) rfl (argsC) Try.func26 (by kernel_rfl) rfl ?_
        refine (small_any 0 (by decide) _).mono ?_
        rintro e w1 ⟨rfl, hb⟩
        exact ⟨_, rfl, hK _ _ (grown_own hb) rfl (fun h => Bool.noConfusion (show false = true from h))⟩
      · intro a x2 hg hsp hd K hK
        replace hg := grown_trans hw hg
        obtain ⟨_, eg, hgd⟩ := hd 19 _ 96 (by kernel_rfl) rfl rfl
        have hgd : _ = _ := hgd
        subst hgd
        obtain ⟨_, e1, h1⟩ := hd 28 _ 105 (by kernel_rfl) rfl rfl
        have h1 : _ = _ := h1
        subst h1
        exact at_value (wanted_on rfl rfl rfl eg) (run_sl9 le32_30 rfl (eval_tmp e1)) (hK _ _ (grown_refl _ _) rfl (fun h => Bool.noConfusion (show false = true from h)))
      · intro a x2 hg hsp hd K hK
        replace hg := grown_trans hw hg
        obtain ⟨_, eg, hgd⟩ := hd 19 _ 96 (by kernel_rfl) rfl rfl
        have hgd : _ = _ := hgd
        subst hgd
        obtain ⟨_, e1, h1⟩ := hd 27 _ 104 (by kernel_rfl) rfl rfl
        have h1 : _ = _ := h1
        subst h1
        obtain ⟨_, e2, h2⟩ := hd 29 _ 106 (by kernel_rfl) rfl rfl
        have h2 : _ = _ := h2
        subst h2
        exact at_value (wanted_on rfl rfl rfl eg) (run_adds add_l rfl (eval_tmp e1) (eval_tmp e2)) (hK _ _ (grown_refl _ _) rfl (fun h => Bool.noConfusion (show false = true from h)))
      · intro a x2 hg hsp hd K hK
        replace hg := grown_trans hw hg
        obtain ⟨_, eg, hgd⟩ := hd 19 _ 96 (by kernel_rfl) rfl rfl
        have hgd : _ = _ := hgd
        subst hgd
        obtain ⟨_, e1, h1⟩ := hd 20 _ 97 (by kernel_rfl) rfl rfl
        have h1 : _ = _ := h1
        subst h1
        obtain ⟨_, e2, h2⟩ := hd 30 _ 107 (by kernel_rfl) rfl rfl
        have h2 : _ = _ := h2
        subst h2
        exact at_value (wanted_on rfl rfl rfl eg) (run_eqs rfl (eval_tmp e1) (eval_tmp e2)) (hK _ _ (grown_refl _ _) (show Value.bool _ = Value.bool true from q11_108.out) (fun h => Bool.noConfusion (show false = true from h)))
      · intro a x2 hg hsp hd K hK
        replace hg := grown_trans hw hg
        obtain ⟨_, e1, h1⟩ := hd 19 _ 96 (by kernel_rfl) rfl rfl
        have h1 : _ = _ := h1
        subst h1
        obtain ⟨_, e2, h2⟩ := hd 31 _ 108 (by kernel_rfl) rfl rfl
        have h2 : _ = _ := h2
        subst h2
        exact at_value (wanted_free rfl) (run_pick (v := .bool true) rfl (eval_tmp e1) ((if_pos rfl).trans (eval_tmp e2))) (hK _ _ (grown_refl _ _) rfl (fun h => Bool.noConfusion (show false = true from h)))
      · intro a x2 hg hsp hd K hK
        replace hg := grown_trans hw hg
        obtain ⟨_, e1, h1⟩ := hd 32 _ 109 (by kernel_rfl) rfl rfl
        have h1 : _ = _ := h1
        subst h1
        exact at_value (wanted_free rfl) (run_move (Or.inr rfl) (eval_tmp e1)) (hK _ _ (grown_refl _ _) rfl (fun h => Bool.noConfusion (show false = true from h)))
    have v0 : vs 0 = _ := hv 0 _ rfl
    have v1 : vs 1 = _ := hv 1 _ rfl
    obtain ⟨F79, v2, -⟩ := hv 2 _ rfl
    obtain ⟨F80, v3, -⟩ := hv 3 _ rfl
    obtain ⟨F81, v4, -⟩ := hv 4 _ rfl
    have v5 : vs 5 = _ := hv 5 _ rfl
    obtain ⟨F83, v6, -⟩ := hv 6 _ rfl
    have v7 : vs 7 = _ := hv 7 _ rfl
    have v8 : vs 8 = _ := hv 8 _ rfl
    have v9 : vs 9 = _ := hv 9 _ rfl
    have v10 : vs 10 = _ := hv 10 _ rfl
    obtain ⟨F88, v11, -⟩ := hv 11 _ rfl
    obtain ⟨F89, v12, -⟩ := hv 12 _ rfl
    obtain ⟨F90, v13, -⟩ := hv 13 _ rfl
    have v14 : vs 14 = _ := hv 14 _ rfl
    obtain ⟨F92, v15, -⟩ := hv 15 _ rfl
    have v16 : vs 16 = _ := hv 16 _ rfl
    have v17 : vs 17 = _ := hv 17 _ rfl
    have v18 : vs 18 = _ := hv 18 _ rfl
    have v19 : vs 19 = _ := hv 19 _ rfl
    have v20 : vs 20 = _ := hv 20 _ rfl
    have v21 : vs 21 = _ := hv 21 _ rfl
    have v22 : vs 22 = _ := hv 22 _ rfl
    have v23 : vs 23 = _ := hv 23 _ rfl
    have v24 : vs 24 = _ := hv 24 _ rfl
    have v25 : vs 25 = _ := hv 25 _ rfl
    obtain ⟨⟨A103, C103, v26, -⟩, -⟩ := hv 26 _ rfl
    have v27 : vs 27 = _ := hv 27 _ rfl
    have v28 : vs 28 = _ := hv 28 _ rfl
    have v29 : vs 29 = _ := hv 29 _ rfl
    have v30 : vs 30 = _ := hv 30 _ rfl
    have v31 : vs 31 = _ := hv 31 _ rfl
    have v32 : vs 32 = _ := hv 32 _ rfl
    have v33 : vs 33 = _ := hv 33 _ rfl
    simp [seqA, Act.put, v0, v1, v2, v3, v4, v5, v6, v7, v8, v9, v10, v11, v12, v13, v14, v15, v16, v17, v18, v19, v20, v21, v22, v23, v24, v25, v26, v27, v28, v29, v30, v31, v32, v33]
    clear hv hap
    replace LB := Lib.hid (LB.out.grown hg LB.out.size (fun j hj => by cases hj))
    go_wp2_with fail
    go_ret
    exact ⟨rfl, LB.out⟩
  · have hge : decide (A ≥ B) = false := by simp; omega
    go_wp2_with fail
    obtain ⟨M, hM⟩ : ∃ M : Int, 65517 - (B - A) = M := ⟨_, rfl⟩
    rw [hM]
    obtain ⟨v, hv0⟩ : ∃ v, (xa - xb).val = v := ⟨_, rfl⟩
    have hv1 : ((v : Nat) : Int) = 57896044618658097711785492504343953926634992332820282019728792003956564819949 - (B - A) := by
      have h1 := HA.out
      have h2 := HB.out
      have h3 : pN = 57896044618658097711785492504343953926634992332820282019728792003956564819949 := by decide
      rw [← hv0, fin_sub, HX.out.1, HX.out.2.1, Nat.mod_eq_of_lt (by omega)]
      omega
    have q13_144 : Hid (((((xa - xb).val / 256 ^ 31 % 256 : Nat) : Int) == 127) = true) := Lib.hid (by rw [hv0]; simp; omega)
    by_cases hN : M < 0
    · have q13_148 : Hid (decide (M < 0) = true) := Lib.hid (by simpa using hN)
      clear hv0 hv1 hM hA0 hA1 hB0 hB1 hAB0 hAB1 hc hge HA HB HX C1 C2 C3 C4
      refine region_kk _ 170 [.eq (.bool true), .eq (.bool true), .fe (xa), .fe (xb), .fe (xa + xb), .eq (.string (le32 ((xa + xb).val))), .fe (xa + xb), .eq (.string (le32 ((xa + xb).val))), .eq (.bool true), .eq (.bool true), .eq (.bool true), .fe (xa), .fe (xb), .fe (xa * xb), .eq (.string (le32 ((xa * xb).val))), .fe (xa * xb), .eq (.string (le32 ((xa * xb).val))), .eq (.bool true), .eq (.bool true), .eq (.bool true), .fe (xa), .eq (.string (le32 (xa.val))), .fe (xa), .eq (.string (le32 (xa.val))), .eq (.bool true), .eq (.bool true), .eq (.bool true), .eq (.string (le32 ((xa - xb).val))), .eq (.int .u8 (((((xa - xb).val) / 256 ^ 31 % 256 : Nat) : Int))), .eq (.bool true), .eq (.bool true), .eq (.bool true), .eq (.int .i64 M), .eq (.bool true), .eq (.bool true), .eq (undef), .eq (undef), .eq (undef), .eq (undef), .eq (undef), .eq (undef), .eq (undef), .eq (undef), .eq (undef), .eq (undef), .eq (undef), .eq (undef), .eq (undef), .eq (undef), .eq (undef), .eq (undef), .eq (undef), .eq (undef), .eq (.bool true), .eq (.bool true), .eq (.bool true)] (by kernel_rfl) (by rfl) (by kernel_rfl) (by kernel_rfl) (fun x1 hw => ?_) (fun vs v hg hv hap => ?_)
      · refine ⟨?_, ?_, ?_, ?_, ?_, ?_, ?_, ?_, ?_, ?_, ?_, ?_, ?_, ?_, ?_, ?_, ?_, ?_, ?_, ?_, ?_, ?_, ?_, ?_, ?_, ?_, ?_, ?_, ?_, ?_, ?_, ?_, ?_, ?_, ?_, ?_, ?_, ?_, ?_, ?_, ?_, ?_, ?_, ?_, ?_, ?_, ?_, ?_, ?_, ?_, ?_, ?_, ?_, ?_, ?_, ?_, trivial⟩
        · intro a x2 hg hsp hd K hK
          replace hg := grown_trans hw hg
          refine at_call (wanted_free rfl) rfl (args0) Try.func16 (by kernel_rfl) rfl ?_
          refine (wraps_any _).mono ?_
          rintro e w1 ⟨rfl, hb⟩
          exact ⟨_, rfl, hK _ _ (grown_own hb) rfl (fun h => Bool.noConfusion (show false = true from h))⟩
        · intro a x2 hg hsp hd K hK
          replace hg := grown_trans hw hg
          obtain ⟨_, e1, h1⟩ := hd 0 _ 115 (by kernel_rfl) rfl rfl
          have h1 : _ = _ := h1
          subst h1
          exact at_value (wanted_free rfl) (run_move (Or.inl rfl) (eval_tmp e1)) (hK _ _ (grown_refl _ _) rfl (fun h => Bool.noConfusion (show false = true from h)))
        · intro a x2 hg hsp hd K hK
          replace hg := grown_trans hw hg
          obtain ⟨_, eg, hgd⟩ := hd 1 _ 116 (by kernel_rfl) rfl rfl
          have hgd : _ = _ := hgd
          subst hgd
          have e1 : a.tmps[5]? = some (.pointer (some ⟨w1.heap.size, 0, none⟩)) := (hsp 5 (by kernel_rfl)).trans rfl
          obtain ⟨f, hb, hf⟩ := M5.out.grown hg
          exact at_row (wanted_on rfl rfl rfl eg) rfl e1 hb Try.underlying26 rfl (sz26.trans (by simp [U64])) (hK _ _ (grown_refl _ _) ⟨_, rfl, hf⟩ (fun h => Bool.noConfusion (show false = true from h)))
        · intro a x2 hg hsp hd K hK
          replace hg := grown_trans hw hg
          obtain ⟨_, eg, hgd⟩ := hd 1 _ 116 (by kernel_rfl) rfl rfl
          have hgd : _ = _ := hgd
          subst hgd
          have e1 : a.tmps[6]? = some (.pointer (some ⟨w3.heap.size, 0, none⟩)) := (hsp 6 (by kernel_rfl)).trans rfl
          obtain ⟨f, hb, hf⟩ := M6.out.grown hg
          exact at_row (wanted_on rfl rfl rfl eg) rfl e1 hb Try.underlying26 rfl (sz26.trans (by simp [U64])) (hK _ _ (grown_refl _ _) ⟨_, rfl, hf⟩ (fun h => Bool.noConfusion (show false = true from h)))
        · intro a x2 hg hsp hd K hK
          replace hg := grown_trans hw hg
          obtain ⟨_, eg, hgd⟩ := hd 1 _ 116 (by kernel_rfl) rfl rfl
          have hgd : _ = _ := hgd
          subst hgd
          obtain ⟨_, e1, f1, rfl, h1⟩ := hd 2 _ 117 (by kernel_rfl) rfl rfl
          obtain ⟨_, e2, f2, rfl, h2⟩ := hd 3 _ 118 (by kernel_rfl) rfl rfl
          refine at_call (wanted_on rfl rfl rfl eg) rfl (args2 e1 e2) Try.func18 (by kernel_rfl) rfl ?_
          refine (eAdd h1 h2 _).mono ?_
          rintro e w1 ⟨⟨f, rfl, hf⟩, hb⟩
          exact ⟨_, rfl, hK _ _ (grown_own hb) ⟨_, rfl, hf⟩ (fun h => Bool.noConfusion (show false = true from h))⟩
        · intro a x2 hg hsp hd K hK
          replace hg := grown_trans hw hg
          obtain ⟨_, eg, hgd⟩ := hd 1 _ 116 (by kernel_rfl) rfl rfl
          have hgd : _ = _ := hgd
          subst hgd
          obtain ⟨_, e1, f1, rfl, h1⟩ := hd 4 _ 119 (by kernel_rfl) rfl rfl
          refine at_call (wanted_on rfl rfl rfl eg) rfl (args1 e1) Try.func17 (by kernel_rfl) rfl ?_
          refine (eText h1 _).mono ?_
          rintro e w1 ⟨rfl, hb⟩
          exact ⟨_, rfl, hK _ _ (grown_own hb) rfl (fun h => Bool.noConfusion (show false = true from h))⟩
        · intro a x2 hg hsp hd K hK
          replace hg := grown_trans hw hg
          obtain ⟨_, eg, hgd⟩ := hd 1 _ 116 (by kernel_rfl) rfl rfl
          have hgd : _ = _ := hgd
          subst hgd
          have e1 : a.tmps[9]? = some (.pointer (some ⟨w5.heap.size, 0, none⟩)) := (hsp 9 (by kernel_rfl)).trans rfl
          obtain ⟨f, hb, hf⟩ := M9.out.grown hg
          exact at_row (wanted_on rfl rfl rfl eg) rfl e1 hb Try.underlying26 rfl (sz26.trans (by simp [U64])) (hK _ _ (grown_refl _ _) ⟨_, rfl, hf⟩ (fun h => Bool.noConfusion (show false = true from h)))
        · intro a x2 hg hsp hd K hK
          replace hg := grown_trans hw hg
          obtain ⟨_, eg, hgd⟩ := hd 1 _ 116 (by kernel_rfl) rfl rfl
          have hgd : _ = _ := hgd
          subst hgd
          obtain ⟨_, e1, f1, rfl, h1⟩ := hd 6 _ 121 (by kernel_rfl) rfl rfl
          refine at_call (wanted_on rfl rfl rfl eg) rfl (args1 e1) Try.func17 (by kernel_rfl) rfl ?_
          refine (eText h1 _).mono ?_
          rintro e w1 ⟨rfl, hb⟩
          exact ⟨_, rfl, hK _ _ (grown_own hb) rfl (fun h => Bool.noConfusion (show false = true from h))⟩
        · intro a x2 hg hsp hd K hK
          replace hg := grown_trans hw hg
          obtain ⟨_, eg, hgd⟩ := hd 1 _ 116 (by kernel_rfl) rfl rfl
          have hgd : _ = _ := hgd
          subst hgd
          obtain ⟨_, e1, h1⟩ := hd 5 _ 120 (by kernel_rfl) rfl rfl
          have h1 : _ = _ := h1
          subst h1
          obtain ⟨_, e2, h2⟩ := hd 7 _ 122 (by kernel_rfl) rfl rfl
          have h2 : _ = _ := h2
          subst h2
          exact at_value (wanted_on rfl rfl rfl eg) (run_eqs rfl (eval_tmp e1) (eval_tmp e2)) (hK _ _ (grown_refl _ _) (show Value.bool _ = Value.bool true from by simp) (fun h => Bool.noConfusion (show false = true from h)))
        · intro a x2 hg hsp hd K hK
          replace hg := grown_trans hw hg
          obtain ⟨_, e1, h1⟩ := hd 1 _ 116 (by kernel_rfl) rfl rfl
          have h1 : _ = _ := h1
          subst h1
          obtain ⟨_, e2, h2⟩ := hd 8 _ 123 (by kernel_rfl) rfl rfl
          have h2 : _ = _ := h2
          subst h2
          exact at_value (wanted_free rfl) (run_pick (v := .bool true) rfl (eval_tmp e1) ((if_pos rfl).trans (eval_tmp e2))) (hK _ _ (grown_refl _ _) rfl (fun h => Bool.noConfusion (show false = true from h)))
        · intro a x2 hg hsp hd K hK
          replace hg := grown_trans hw hg
          obtain ⟨_, e1, h1⟩ := hd 9 _ 124 (by kernel_rfl) rfl rfl
          have h1 : _ = _ := h1
          subst h1
          exact at_value (wanted_free rfl) (run_move (Or.inl rfl) (eval_tmp e1)) (hK _ _ (grown_refl _ _) rfl (fun h => Bool.noConfusion (show false = true from h)))
        · intro a x2 hg hsp hd K hK
          replace hg := grown_trans hw hg
          obtain ⟨_, eg, hgd⟩ := hd 10 _ 125 (by kernel_rfl) rfl rfl
          have hgd : _ = _ := hgd
          subst hgd
          have e1 : a.tmps[5]? = some (.pointer (some ⟨w1.heap.size, 0, none⟩)) := (hsp 5 (by kernel_rfl)).trans rfl
          obtain ⟨f, hb, hf⟩ := M5.out.grown hg
          exact at_row (wanted_on rfl rfl rfl eg) rfl e1 hb Try.underlying26 rfl (sz26.trans (by simp [U64])) (hK _ _ (grown_refl _ _) ⟨_, rfl, hf⟩ (fun h => Bool.noConfusion (show false = true from h)))
        · intro a x2 hg hsp hd K hK
          replace hg := grown_trans hw hg
          obtain ⟨_, eg, hgd⟩ := hd 10 _ 125 (by kernel_rfl) rfl rfl
          have hgd : _ = _ := hgd
          subst hgd
          have e1 : a.tmps[6]? = some (.pointer (some ⟨w3.heap.size, 0, none⟩)) := (hsp 6 (by kernel_rfl)).trans rfl
          obtain ⟨f, hb, hf⟩ := M6.out.grown hg
          exact at_row (wanted_on rfl rfl rfl eg) rfl e1 hb Try.underlying26 rfl (sz26.trans (by simp [U64])) (hK _ _ (grown_refl _ _) ⟨_, rfl, hf⟩ (fun h => Bool.noConfusion (show false = true from h)))
        · intro a x2 hg hsp hd K hK
          replace hg := grown_trans hw hg
          obtain ⟨_, eg, hgd⟩ := hd 10 _ 125 (by kernel_rfl) rfl rfl
          have hgd : _ = _ := hgd
          subst hgd
          obtain ⟨_, e1, f1, rfl, h1⟩ := hd 11 _ 126 (by kernel_rfl) rfl rfl
          obtain ⟨_, e2, f2, rfl, h2⟩ := hd 12 _ 127 (by kernel_rfl) rfl rfl
          refine at_call (wanted_on rfl rfl rfl eg) rfl (args2 e1 e2) Try.func22 (by kernel_rfl) rfl ?_
          refine (eMul h1 h2 _).mono ?_
          rintro e w1 ⟨⟨f, rfl, hf⟩, hb⟩
          exact ⟨_, rfl, hK _ _ (grown_own hb) ⟨_, rfl, hf⟩ (fun h => Bool.noConfusion (show false = true from h))⟩
        · intro a x2 hg hsp hd K hK
          replace hg := grown_trans hw hg
          obtain ⟨_, eg, hgd⟩ := hd 10 _ 125 (by kernel_rfl) rfl rfl
          have hgd : _ = _ := hgd
          subst hgd
          obtain ⟨_, e1, f1, rfl, h1⟩ := hd 13 _ 128 (by kernel_rfl) rfl rfl
          refine at_call (wanted_on rfl rfl rfl eg) rfl (args1 e1) Try.func17 (by kernel_rfl) rfl ?_
          refine (eText h1 _).mono ?_
          rintro e w1 ⟨rfl, hb⟩
          exact ⟨_, rfl, hK _ _ (grown_own hb) rfl (fun h => Bool.noConfusion (show false = true from h))⟩
        · intro a x2 hg hsp hd K hK
          replace hg := grown_trans hw hg
          obtain ⟨_, eg, hgd⟩ := hd 10 _ 125 (by kernel_rfl) rfl rfl
          have hgd : _ = _ := hgd
          subst hgd
          have e1 : a.tmps[10]? = some (.pointer (some ⟨w7.heap.size, 0, none⟩)) := (hsp 10 (by kernel_rfl)).trans rfl
          obtain ⟨f, hb, hf⟩ := M10.out.grown hg
          exact at_row (wanted_on rfl rfl rfl eg) rfl e1 hb Try.underlying26 rfl (sz26.trans (by simp [U64])) (hK _ _ (grown_refl _ _) ⟨_, rfl, hf⟩ (fun h => Bool.noConfusion (show false = true from h)))
        · intro a x2 hg hsp hd K hK
          replace hg := grown_trans hw hg
          obtain ⟨_, eg, hgd⟩ := hd 10 _ 125 (by kernel_rfl) rfl rfl
          have hgd : _ = _ := hgd
          subst hgd
          obtain ⟨_, e1, f1, rfl, h1⟩ := hd 15 _ 130 (by kernel_rfl) rfl rfl
          refine at_call (wanted_on rfl rfl rfl eg) rfl (args1 e1) Try.func17 (by kernel_rfl) rfl ?_
          refine (eText h1 _).mono ?_
          rintro e w1 ⟨rfl, hb⟩
          exact ⟨_, rfl, hK _ _ (grown_own hb) rfl (fun h => Bool.noConfusion (show false = true from h))⟩
        · intro a x2 hg hsp hd K hK
          replace hg := grown_trans hw hg
          obtain ⟨_, eg, hgd⟩ := hd 10 _ 125 (by kernel_rfl) rfl rfl
          have hgd : _ = _ := hgd
          subst hgd
          obtain ⟨_, e1, h1⟩ := hd 14 _ 129 (by kernel_rfl) rfl rfl
          have h1 : _ = _ := h1
          subst h1
          obtain ⟨_, e2, h2⟩ := hd 16 _ 131 (by kernel_rfl) rfl rfl
          have h2 : _ = _ := h2
          subst h2
          exact at_value (wanted_on rfl rfl rfl eg) (run_eqs rfl (eval_tmp e1) (eval_tmp e2)) (hK _ _ (grown_refl _ _) (show Value.bool _ = Value.bool true from by simp) (fun h => Bool.noConfusion (show false = true from h)))
        · intro a x2 hg hsp hd K hK
          replace hg := grown_trans hw hg
          obtain ⟨_, e1, h1⟩ := hd 10 _ 125 (by kernel_rfl) rfl rfl
          have h1 : _ = _ := h1
          subst h1
          obtain ⟨_, e2, h2⟩ := hd 17 _ 132 (by kernel_rfl) rfl rfl
          have h2 : _ = _ := h2
          subst h2
          exact at_value (wanted_free rfl) (run_pick (v := .bool true) rfl (eval_tmp e1) ((if_pos rfl).trans (eval_tmp e2))) (hK _ _ (grown_refl _ _) rfl (fun h => Bool.noConfusion (show false = true from h)))
        · intro a x2 hg hsp hd K hK
          replace hg := grown_trans hw hg
          obtain ⟨_, e1, h1⟩ := hd 18 _ 133 (by kernel_rfl) rfl rfl
          have h1 : _ = _ := h1
          subst h1
          exact at_value (wanted_free rfl) (run_move (Or.inl rfl) (eval_tmp e1)) (hK _ _ (grown_refl _ _) rfl (fun h => Bool.noConfusion (show false = true from h)))
        · intro a x2 hg hsp hd K hK
          replace hg := grown_trans hw hg
          obtain ⟨_, eg, hgd⟩ := hd 19 _ 134 (by kernel_rfl) rfl rfl
          have hgd : _ = _ := hgd
          subst hgd
          have e1 : a.tmps[12]? = some (.pointer (some ⟨w11.heap.size, 0, none⟩)) := (hsp 12 (by kernel_rfl)).trans rfl
          obtain ⟨f, hb, hf⟩ := M12.out.grown hg
          exact at_row (wanted_on rfl rfl rfl eg) rfl e1 hb Try.underlying26 rfl (sz26.trans (by simp [U64])) (hK _ _ (grown_refl _ _) ⟨_, rfl, hf⟩ (fun h => Bool.noConfusion (show false = true from h)))
        · intro a x2 hg hsp hd K hK
          replace hg := grown_trans hw hg
          obtain ⟨_, eg, hgd⟩ := hd 19 _ 134 (by kernel_rfl) rfl rfl
          have hgd : _ = _ := hgd
          subst hgd
          obtain ⟨_, e1, f1, rfl, h1⟩ := hd 20 _ 135 (by kernel_rfl) rfl rfl
          refine at_call (wanted_on rfl rfl rfl eg) rfl (args1 e1) Try.func17 (by kernel_rfl) rfl ?_
          refine (eText h1 _).mono ?_
          rintro e w1 ⟨rfl, hb⟩
          exact ⟨_, rfl, hK _ _ (grown_own hb) rfl (fun h => Bool.noConfusion (show false = true from h))⟩
        · intro a x2 hg hsp hd K hK
          replace hg := grown_trans hw hg
          obtain ⟨_, eg, hgd⟩ := hd 19 _ 134 (by kernel_rfl) rfl rfl
          have hgd : _ = _ := hgd
          subst hgd
          have e1 : a.tmps[5]? = some (.pointer (some ⟨w1.heap.size, 0, none⟩)) := (hsp 5 (by kernel_rfl)).trans rfl
          obtain ⟨f, hb, hf⟩ := M5.out.grown hg
          exact at_row (wanted_on rfl rfl rfl eg) rfl e1 hb Try.underlying26 rfl (sz26.trans (by simp [U64])) (hK _ _ (grown_refl _ _) ⟨_, rfl, hf⟩ (fun h => Bool.noConfusion (show false = true from h)))
        · intro a x2 hg hsp hd K hK
          replace hg := grown_trans hw hg
          obtain ⟨_, eg, hgd⟩ := hd 19 _ 134 (by kernel_rfl) rfl rfl
          have hgd : _ = _ := hgd
          subst hgd
          obtain ⟨_, e1, f1, rfl, h1⟩ := hd 22 _ 137 (by kernel_rfl) rfl rfl
          refine at_call (wanted_on rfl rfl rfl eg) rfl (args1 e1) Try.func17 (by kernel_rfl) rfl ?_
          refine (eText h1 _).mono ?_
          rintro e w1 ⟨rfl, hb⟩
          exact ⟨_, rfl, hK _ _ (grown_own hb) rfl (fun h => Bool.noConfusion (show false = true from h))⟩
        · intro a x2 hg hsp hd K hK
          replace hg := grown_trans hw hg
          obtain ⟨_, eg, hgd⟩ := hd 19 _ 134 (by kernel_rfl) rfl rfl
          have hgd : _ = _ := hgd
          subst hgd
          obtain ⟨_, e1, h1⟩ := hd 21 _ 136 (by kernel_rfl) rfl rfl
          have h1 : _ = _ := h1
          subst h1
          obtain ⟨_, e2, h2⟩ := hd 23 _ 138 (by kernel_rfl) rfl rfl
          have h2 : _ = _ := h2
          subst h2
          exact at_value (wanted_on rfl rfl rfl eg) (run_eqs rfl (eval_tmp e1) (eval_tmp e2)) (hK _ _ (grown_refl _ _) (show Value.bool _ = Value.bool true from by simp) (fun h => Bool.noConfusion (show false = true from h)))
        · intro a x2 hg hsp hd K hK
          replace hg := grown_trans hw hg
          obtain ⟨_, e1, h1⟩ := hd 19 _ 134 (by kernel_rfl) rfl rfl
          have h1 : _ = _ := h1
          subst h1
          obtain ⟨_, e2, h2⟩ := hd 24 _ 139 (by kernel_rfl) rfl rfl
          have h2 : _ = _ := h2
          subst h2
          exact at_value (wanted_free rfl) (run_pick (v := .bool true) rfl (eval_tmp e1) ((if_pos rfl).trans (eval_tmp e2))) (hK _ _ (grown_refl _ _) rfl (fun h => Bool.noConfusion (show false = true from h)))
        · intro a x2 hg hsp hd K hK
          replace hg := grown_trans hw hg
          obtain ⟨_, e1, h1⟩ := hd 25 _ 140 (by kernel_rfl) rfl rfl
          have h1 : _ = _ := h1
          subst h1
          exact at_value (wanted_free rfl) (run_move (Or.inl rfl) (eval_tmp e1)) (hK _ _ (grown_refl _ _) rfl (fun h => Bool.noConfusion (show false = true from h)))
        · intro a x2 hg hsp hd K hK
          replace hg := grown_trans hw hg
          obtain ⟨_, eg, hgd⟩ := hd 26 _ 141 (by kernel_rfl) rfl rfl
          have hgd : _ = _ := hgd
          subst hgd
          have e1 : a.tmps[13]? = some (.string (le32 ((xa - xb).val))) := (hsp 13 (by kernel_rfl)).trans rfl
          exact at_value (wanted_on rfl rfl rfl eg) (run_move (Or.inl rfl) (eval_tmp e1)) (hK _ _ (grown_refl _ _) rfl (fun h => Bool.noConfusion (show false = true from h)))
        · intro a x2 hg hsp hd K hK
          replace hg := grown_trans hw hg
          obtain ⟨_, eg, hgd⟩ := hd 26 _ 141 (by kernel_rfl) rfl rfl
          have hgd : _ = _ := hgd
          subst hgd
          obtain ⟨_, e1, h1⟩ := hd 27 _ 142 (by kernel_rfl) rfl rfl
          have h1 : _ = _ := h1
          subst h1
          exact at_value (wanted_on rfl rfl rfl eg) (run_index9 (g := fun j => ((xa - xb).val) / 256 ^ j % 256) (i := 31) (by decide) (Nat.mod_lt _ (by decide)) rfl (eval_tmp e1)) (hK _ _ (grown_refl _ _) rfl (fun h => Bool.noConfusion (show false = true from h)))
        · intro a x2 hg hsp hd K hK
          replace hg := grown_trans hw hg
          obtain ⟨_, eg, hgd⟩ := hd 26 _ 141 (by kernel_rfl) rfl rfl
          have hgd : _ = _ := hgd
          subst hgd
          obtain ⟨_, e1, h1⟩ := hd 28 _ 143 (by kernel_rfl) rfl rfl
          have h1 : _ = _ := h1
          subst h1
          exact at_value (wanted_on rfl rfl rfl eg) (run_eq5 rfl (eval_tmp e1) rfl) (hK _ _ (grown_refl _ _) (show Value.bool _ = Value.bool true from by rw [q13_144.out]) (fun h => Bool.noConfusion (show false = true from h)))
        · intro a x2 hg hsp hd K hK
          replace hg := grown_trans hw hg
          obtain ⟨_, e1, h1⟩ := hd 26 _ 141 (by kernel_rfl) rfl rfl
          have h1 : _ = _ := h1
          subst h1
          obtain ⟨_, e2, h2⟩ := hd 29 _ 144 (by kernel_rfl) rfl rfl
          have h2 : _ = _ := h2
          subst h2
          exact at_value (wanted_free rfl) (run_pick (v := .bool true) rfl (eval_tmp e1) ((if_pos rfl).trans (eval_tmp e2))) (hK _ _ (grown_refl _ _) rfl (fun h => Bool.noConfusion (show false = true from h)))
        · intro a x2 hg hsp hd K hK
          replace hg := grown_trans hw hg
          obtain ⟨_, e1, h1⟩ := hd 30 _ 145 (by kernel_rfl) rfl rfl
          have h1 : _ = _ := h1
          subst h1
          exact at_value (wanted_free rfl) (run_move (Or.inl rfl) (eval_tmp e1)) (hK _ _ (grown_refl _ _) rfl (fun h => Bool.noConfusion (show false = true from h)))
        · intro a x2 hg hsp hd K hK
          replace hg := grown_trans hw hg
          obtain ⟨_, eg, hgd⟩ := hd 31 _ 146 (by kernel_rfl) rfl rfl
          have hgd : _ = _ := hgd
          subst hgd
          have e1 : a.tmps[15]? = some (.int .i64 M) := (hsp 15 (by kernel_rfl)).trans rfl
          exact at_value (wanted_on rfl rfl rfl eg) (run_move (Or.inl rfl) (eval_tmp e1)) (hK _ _ (grown_refl _ _) rfl (fun h => Bool.noConfusion (show false = true from h)))
        · intro a x2 hg hsp hd K hK
          replace hg := grown_trans hw hg
          obtain ⟨_, eg, hgd⟩ := hd 31 _ 146 (by kernel_rfl) rfl rfl
          have hgd : _ = _ := hgd
          subst hgd
          obtain ⟨_, e1, h1⟩ := hd 32 _ 147 (by kernel_rfl) rfl rfl
          have h1 : _ = _ := h1
          subst h1
          exact at_value (wanted_on rfl rfl rfl eg) (run_lss3 rfl (eval_tmp e1) rfl) (hK _ _ (grown_refl _ _) (show Value.bool _ = Value.bool true from by rw [q13_148.out]) (fun h => Bool.noConfusion (show false = true from h)))
        · intro a x2 hg hsp hd K hK
          replace hg := grown_trans hw hg
          obtain ⟨_, eg, hgd⟩ := hd 31 _ 146 (by kernel_rfl) rfl rfl
          have hgd : _ = _ := hgd
          subst hgd
          obtain ⟨_, e1, h1⟩ := hd 33 _ 148 (by kernel_rfl) rfl rfl
          have h1 : _ = _ := h1
          subst h1
          exact at_value (wanted_on rfl rfl rfl eg) (run_move (Or.inl rfl) (eval_tmp e1)) (hK _ _ (grown_refl _ _) rfl (fun h => Bool.noConfusion (show false = true from h)))
        · intro a x2 hg hsp hd K hK
          replace hg := grown_trans hw hg
          obtain ⟨_, eg, hgd⟩ := hd 34 _ 149 (by kernel_rfl) rfl rfl
          have hgd : _ = _ := hgd
          subst hgd
          exact at_unwantedE rfl rfl rfl eg (by decide) (hK _ _ (grown_refl _ _) rfl (fun h => Bool.noConfusion (show false = true from h)))
        · intro a x2 hg hsp hd K hK
          replace hg := grown_trans hw hg
          obtain ⟨_, eg, hgd⟩ := hd 34 _ 149 (by kernel_rfl) rfl rfl
          have hgd : _ = _ := hgd
          subst hgd
          exact at_unwantedE rfl rfl rfl eg (by decide) (hK _ _ (grown_refl _ _) rfl (fun h => Bool.noConfusion (show false = true from h)))
        · intro a x2 hg hsp hd K hK
          replace hg := grown_trans hw hg
          obtain ⟨_, eg, hgd⟩ := hd 34 _ 149 (by kernel_rfl) rfl rfl
          have hgd : _ = _ := hgd
          subst hgd
          exact at_unwantedE rfl rfl rfl eg (by decide) (hK _ _ (grown_refl _ _) rfl (fun h => Bool.noConfusion (show false = true from h)))
        · intro a x2 hg hsp hd K hK
          replace hg := grown_trans hw hg
          obtain ⟨_, eg, hgd⟩ := hd 34 _ 149 (by kernel_rfl) rfl rfl
          have hgd : _ = _ := hgd
          subst hgd
          exact at_unwantedE rfl rfl rfl eg (by decide) (hK _ _ (grown_refl _ _) rfl (fun h => Bool.noConfusion (show false = true from h)))
        · intro a x2 hg hsp hd K hK
          replace hg := grown_trans hw hg
          obtain ⟨_, eg, hgd⟩ := hd 34 _ 149 (by kernel_rfl) rfl rfl
          have hgd : _ = _ := hgd
          subst hgd
          exact at_unwantedE rfl rfl rfl eg (by decide) (hK _ _ (grown_refl _ _) rfl (fun h => Bool.noConfusion (show false = true from h)))
        · intro a x2 hg hsp hd K hK
          replace hg := grown_trans hw hg
          obtain ⟨_, eg, hgd⟩ := hd 34 _ 149 (by kernel_rfl) rfl rfl
          have hgd : _ = _ := hgd
          subst hgd
          exact at_unwantedE rfl rfl rfl eg (by decide) (hK _ _ (grown_refl _ _) rfl (fun h => Bool.noConfusion (show false = true from h)))
        · intro a x2 hg hsp hd K hK
          replace hg := grown_trans hw hg
          obtain ⟨_, eg, hgd⟩ := hd 40 _ 155 (by kernel_rfl) rfl rfl
          have hgd : _ = _ := hgd
          subst hgd
          exact at_unwantedU rfl rfl rfl eg (hK _ _ (grown_refl _ _) rfl (fun h => Bool.noConfusion (show false = true from h)))
        · intro a x2 hg hsp hd K hK
          replace hg := grown_trans hw hg
          obtain ⟨_, eg, hgd⟩ := hd 40 _ 155 (by kernel_rfl) rfl rfl
          have hgd : _ = _ := hgd
          subst hgd
          exact at_unwantedU rfl rfl rfl eg (hK _ _ (grown_refl _ _) rfl (fun h => Bool.noConfusion (show false = true from h)))
        · intro a x2 hg hsp hd K hK
          replace hg := grown_trans hw hg
          obtain ⟨_, eg, hgd⟩ := hd 40 _ 155 (by kernel_rfl) rfl rfl
          have hgd : _ = _ := hgd
          subst hgd
          exact at_unwantedU rfl rfl rfl eg (hK _ _ (grown_refl _ _) rfl (fun h => Bool.noConfusion (show false = true from h)))
        · intro a x2 hg hsp hd K hK
          replace hg := grown_trans hw hg
          obtain ⟨_, eg, hgd⟩ := hd 40 _ 155 (by kernel_rfl) rfl rfl
          have hgd : _ = _ := hgd
          subst hgd
          exact at_unwantedU rfl rfl rfl eg (hK _ _ (grown_refl _ _) rfl (fun h => Bool.noConfusion (show false = true from h)))
        · intro a x2 hg hsp hd K hK
          replace hg := grown_trans hw hg
          obtain ⟨_, eg, hgd⟩ := hd 40 _ 155 (by kernel_rfl) rfl rfl
          have hgd : _ = _ := hgd
          subst hgd
          exact at_unwantedU rfl rfl rfl eg (hK _ _ (grown_refl _ _) rfl (fun h => Bool.noConfusion (show false = true from h)))
        · intro a x2 hg hsp hd K hK
          replace hg := grown_trans hw hg
          obtain ⟨_, eg, hgd⟩ := hd 40 _ 155 (by kernel_rfl) rfl rfl
          have hgd : _ = _ := hgd
          subst hgd
          exact at_unwantedU rfl rfl rfl eg (hK _ _ (grown_refl _ _) rfl (fun h => Bool.noConfusion (show false = true from h)))
        · intro a x2 hg hsp hd K hK
          replace hg := grown_trans hw hg
          obtain ⟨_, eg, hgd⟩ := hd 34 _ 149 (by kernel_rfl) rfl rfl
          have hgd : _ = _ := hgd
          subst hgd
          exact at_unwantedE rfl rfl rfl eg (by decide) (hK _ _ (grown_refl _ _) rfl (fun h => Bool.noConfusion (show false = true from h)))
        · intro a x2 hg hsp hd K hK
          replace hg := grown_trans hw hg
          obtain ⟨_, eg, hgd⟩ := hd 34 _ 149 (by kernel_rfl) rfl rfl
          have hgd : _ = _ := hgd
          subst hgd
          exact at_unwantedE rfl rfl rfl eg (by decide) (hK _ _ (grown_refl _ _) rfl (fun h => Bool.noConfusion (show false = true from h)))
        · intro a x2 hg hsp hd K hK
          replace hg := grown_trans hw hg
          obtain ⟨_, eg, hgd⟩ := hd 48 _ 163 (by kernel_rfl) rfl rfl
          have hgd : _ = _ := hgd
          subst hgd
          exact at_unwantedU rfl rfl rfl eg (hK _ _ (grown_refl _ _) rfl (fun h => Bool.noConfusion (show false = true from h)))
        · intro a x2 hg hsp hd K hK
          replace hg := grown_trans hw hg
          obtain ⟨_, eg, hgd⟩ := hd 48 _ 163 (by kernel_rfl) rfl rfl
          have hgd : _ = _ := hgd
          subst hgd
          exact at_unwantedU rfl rfl rfl eg (hK _ _ (grown_refl _ _) rfl (fun h => Bool.noConfusion (show false = true from h)))
        · intro a x2 hg hsp hd K hK
          replace hg := grown_trans hw hg
          obtain ⟨_, eg, hgd⟩ := hd 48 _ 163 (by kernel_rfl) rfl rfl
          have hgd : _ = _ := hgd
          subst hgd
          exact at_unwantedU rfl rfl rfl eg (hK _ _ (grown_refl _ _) rfl (fun h => Bool.noConfusion (show false = true from h)))
        · intro a x2 hg hsp hd K hK
          replace hg := grown_trans hw hg
          obtain ⟨_, eg, hgd⟩ := hd 34 _ 149 (by kernel_rfl) rfl rfl
          have hgd : _ = _ := hgd
          subst hgd
          exact at_unwantedE rfl rfl rfl eg (by decide) (hK _ _ (grown_refl _ _) rfl (fun h => Bool.noConfusion (show false = true from h)))
        · intro a x2 hg hsp hd K hK
          replace hg := grown_trans hw hg
          obtain ⟨_, eg, hgd⟩ := hd 31 _ 146 (by kernel_rfl) rfl rfl
          have hgd : _ = _ := hgd
          subst hgd
          obtain ⟨_, e1, h1⟩ := hd 34 _ 149 (by kernel_rfl) rfl rfl
          have h1 : _ = _ := h1
          subst h1
          exact at_value (wanted_on rfl rfl rfl eg) (run_pick (v := .bool true) rfl (eval_tmp e1) ((if_pos rfl).trans rfl)) (hK _ _ (grown_refl _ _) rfl (fun h => Bool.noConfusion (show false = true from h)))
        · intro a x2 hg hsp hd K hK
          replace hg := grown_trans hw hg
          obtain ⟨_, e1, h1⟩ := hd 31 _ 146 (by kernel_rfl) rfl rfl
          have h1 : _ = _ := h1
          subst h1
          obtain ⟨_, e2, h2⟩ := hd 53 _ 168 (by kernel_rfl) rfl rfl
          have h2 : _ = _ := h2
          subst h2
          exact at_value (wanted_free rfl) (run_pick (v := .bool true) rfl (eval_tmp e1) ((if_pos rfl).trans (eval_tmp e2))) (hK _ _ (grown_refl _ _) rfl (fun h => Bool.noConfusion (show false = true from h)))
        · intro a x2 hg hsp hd K hK
          replace hg := grown_trans hw hg
          obtain ⟨_, e1, h1⟩ := hd 54 _ 169 (by kernel_rfl) rfl rfl
          have h1 : _ = _ := h1
          subst h1
          exact at_value (wanted_free rfl) (run_move (Or.inr rfl) (eval_tmp e1)) (hK _ _ (grown_refl _ _) rfl (fun h => Bool.noConfusion (show false = true from h)))
      have v0 : vs 0 = _ := hv 0 _ rfl
      have v1 : vs 1 = _ := hv 1 _ rfl
      obtain ⟨F117, v2, -⟩ := hv 2 _ rfl
      obtain ⟨F118, v3, -⟩ := hv 3 _ rfl
      obtain ⟨F119, v4, -⟩ := hv 4 _ rfl
      have v5 : vs 5 = _ := hv 5 _ rfl
      obtain ⟨F121, v6, -⟩ := hv 6 _ rfl
      have v7 : vs 7 = _ := hv 7 _ rfl
      have v8 : vs 8 = _ := hv 8 _ rfl
      have v9 : vs 9 = _ := hv 9 _ rfl
      have v10 : vs 10 = _ := hv 10 _ rfl
      obtain ⟨F126, v11, -⟩ := hv 11 _ rfl
      obtain ⟨F127, v12, -⟩ := hv 12 _ rfl
      obtain ⟨F128, v13, -⟩ := hv 13 _ rfl
      have v14 : vs 14 = _ := hv 14 _ rfl
      obtain ⟨F130, v15, -⟩ := hv 15 _ rfl
      have v16 : vs 16 = _ := hv 16 _ rfl
      have v17 : vs 17 = _ := hv 17 _ rfl
      have v18 : vs 18 = _ := hv 18 _ rfl
      have v19 : vs 19 = _ := hv 19 _ rfl
      obtain ⟨F135, v20, -⟩ := hv 20 _ rfl
      have v21 : vs 21 = _ := hv 21 _ rfl
      obtain ⟨F137, v22, -⟩ := hv 22 _ rfl
      have v23 : vs 23 = _ := hv 23 _ rfl
      have v24 : vs 24 = _ := hv 24 _ rfl
      have v25 : vs 25 = _ := hv 25 _ rfl
      have v26 : vs 26 = _ := hv 26 _ rfl
      have v27 : vs 27 = _ := hv 27 _ rfl
      have v28 : vs 28 = _ := hv 28 _ rfl
      have v29 : vs 29 = _ := hv 29 _ rfl
      have v30 : vs 30 = _ := hv 30 _ rfl
      have v31 : vs 31 = _ := hv 31 _ rfl
      have v32 : vs 32 = _ := hv 32 _ rfl
      have v33 : vs 33 = _ := hv 33 _ rfl
      have v34 : vs 34 = _ := hv 34 _ rfl
      have v35 : vs 35 = _ := hv 35 _ rfl
      have v36 : vs 36 = _ := hv 36 _ rfl
      have v37 : vs 37 = _ := hv 37 _ rfl
      have v38 : vs 38 = _ := hv 38 _ rfl
      have v39 : vs 39 = _ := hv 39 _ rfl
      have v40 : vs 40 = _ := hv 40 _ rfl
      have v41 : vs 41 = _ := hv 41 _ rfl
      have v42 : vs 42 = _ := hv 42 _ rfl
      have v43 : vs 43 = _ := hv 43 _ rfl
      have v44 : vs 44 = _ := hv 44 _ rfl
      have v45 : vs 45 = _ := hv 45 _ rfl
      have v46 : vs 46 = _ := hv 46 _ rfl
      have v47 : vs 47 = _ := hv 47 _ rfl
      have v48 : vs 48 = _ := hv 48 _ rfl
      have v49 : vs 49 = _ := hv 49 _ rfl
      have v50 : vs 50 = _ := hv 50 _ rfl
      have v51 : vs 51 = _ := hv 51 _ rfl
      have v52 : vs 52 = _ := hv 52 _ rfl
      have v53 : vs 53 = _ := hv 53 _ rfl
      have v54 : vs 54 = _ := hv 54 _ rfl
      have v55 : vs 55 = _ := hv 55 _ rfl
      simp [seqA, Act.put, v0, v1, v2, v3, v4, v5, v6, v7, v8, v9, v10, v11, v12, v13, v14, v15, v16, v17, v18, v19, v20, v21, v22, v23, v24, v25, v26, v27, v28, v29, v30, v31, v32, v33, v34, v35, v36, v37, v38, v39, v40, v41, v42, v43, v44, v45, v46, v47, v48, v49, v50, v51, v52, v53, v54, v55]
      clear hv hap
      replace LB := Lib.hid (LB.out.grown hg LB.out.size (fun j hj => by cases hj))
      go_wp2_with fail
      go_ret
      exact ⟨rfl, LB.out⟩
    · have q13_148 : Hid (decide (M < 0) = false) := Lib.hid (by simpa using hN)
      have hN0 : 0 ≤ M := by omega
      have hN1 : M < 65536 := by omega
      have q13_154 : Hid (((((xa - xb).val / 256 ^ 0 % 256 : Nat) : Int) == M % 256) = true) := Lib.hid (by rw [hv0]; simp; omega)
      have q13_161 : Hid (((((xa - xb).val / 256 ^ 1 % 256 : Nat) : Int) == M / 256 % 256) = true) := Lib.hid (by rw [hv0]; simp; omega)
      have q13_166 : Hid (((((xa - xb).val / 256 ^ 2 % 256 : Nat) : Int) == 255) = true) := Lib.hid (by rw [hv0]; simp; omega)
      clear hv0 hv1 hM hA0 hA1 hB0 hB1 hAB0 hAB1 hc hge HA HB HX C1 C2 C3 C4
      refine region_kk _ 170 [.eq (.bool true), .eq (.bool true), .fe (xa), .fe (xb), .fe (xa + xb), .eq (.string (le32 ((xa + xb).val))), .fe (xa + xb), .eq (.string (le32 ((xa + xb).val))), .eq (.bool true), .eq (.bool true), .eq (.bool true), .fe (xa), .fe (xb), .fe (xa * xb), .eq (.string (le32 ((xa * xb).val))), .fe (xa * xb), .eq (.string (le32 ((xa * xb).val))), .eq (.bool true), .eq (.bool true), .eq (.bool true), .fe (xa), .eq (.string (le32 (xa.val))), .fe (xa), .eq (.string (le32 (xa.val))), .eq (.bool true), .eq (.bool true), .eq (.bool true), .eq (.string (le32 ((xa - xb).val))), .eq (.int .u8 (((((xa - xb).val) / 256 ^ 31 % 256 : Nat) : Int))), .eq (.bool true), .eq (.bool true), .eq (.bool true), .eq (.int .i64 M), .eq (.bool false), .eq (.bool false), .eq (.string (le32 ((xa - xb).val))), .eq (.int .u8 (((((xa - xb).val) / 256 ^ 0 % 256 : Nat) : Int))), .eq (.int .i64 M), .eq (.int .u8 (M % 256)), .eq (.bool true), .eq (.bool true), .eq (.string (le32 ((xa - xb).val))), .eq (.int .u8 (((((xa - xb).val) / 256 ^ 1 % 256 : Nat) : Int))), .eq (.int .i64 M), .eq (.int .i64 (M / 256)), .eq (.int .u8 ((M / 256) % 256)), .eq (.bool true), .eq (.bool true), .eq (.bool true), .eq (.string (le32 ((xa - xb).val))), .eq (.int .u8 (((((xa - xb).val) / 256 ^ 2 % 256 : Nat) : Int))), .eq (.bool true), .eq (.bool true), .eq (.bool true), .eq (.bool true), .eq (.bool true)] (by kernel_rfl) (by rfl) (by kernel_rfl) (by kernel_rfl) (fun x1 hw => ?_) (fun vs v hg hv hap => ?_)
      · refine ⟨?_, ?_, ?_, ?_, ?_, ?_, ?_, ?_, ?_, ?_, ?_, ?_, ?_, ?_, ?_, ?_, ?_, ?_, ?_, ?_, ?_, ?_, ?_, ?_, ?_, ?_, ?_, ?_, ?_, ?_, ?_, ?_, ?_, ?_, ?_, ?_, ?_, ?_, ?_, ?_, ?_, ?_, ?_, ?_, ?_, ?_, ?_, ?_, ?_, ?_, ?_, ?_, ?_, ?_, ?_, ?_, trivial⟩
        · intro a x2 hg hsp hd K hK
          replace hg := grown_trans hw hg
          refine at_call (wanted_free rfl) rfl (args0) Try.func16 (by kernel_rfl) rfl ?_
          refine (wraps_any _).mono ?_
          rintro e w1 ⟨rfl, hb⟩
          exact ⟨_, rfl, hK _ _ (grown_own hb) rfl (fun h => Bool.noConfusion (show false = true from h))⟩
        · intro a x2 hg hsp hd K hK
          replace hg := grown_trans hw hg
          obtain ⟨_, e1, h1⟩ := hd 0 _ 115 (by kernel_rfl) rfl rfl
          have h1 : _ = _ := h1
          subst h1
          exact at_value (wanted_free rfl) (run_move (Or.inl rfl) (eval_tmp e1)) (hK _ _ (grown_refl _ _) rfl (fun h => Bool.noConfusion (show false = true from h)))
        · intro a x2 hg hsp hd K hK
          replace hg := grown_trans hw hg
          obtain ⟨_, eg, hgd⟩ := hd 1 _ 116 (by kernel_rfl) rfl rfl
          have hgd : _ = _ := hgd
          subst hgd
          have e1 : a.tmps[5]? = some (.pointer (some ⟨w1.heap.size, 0, none⟩)) := (hsp 5 (by kernel_rfl)).trans rfl
          obtain ⟨f, hb, hf⟩ := M5.out.grown hg
          exact at_row (wanted_on rfl rfl rfl eg) rfl e1 hb Try.underlying26 rfl (sz26.trans (by simp [U64])) (hK _ _ (grown_refl _ _) ⟨_, rfl, hf⟩ (fun h => Bool.noConfusion (show false = true from h)))
        · intro a x2 hg hsp hd K hK
          replace hg := grown_trans hw hg
          obtain ⟨_, eg, hgd⟩ := hd 1 _ 116 (by kernel_rfl) rfl rfl
          have hgd : _ = _ := hgd
          subst hgd
          have e1 : a.tmps[6]? = some (.pointer (some ⟨w3.heap.size, 0, none⟩)) := (hsp 6 (by kernel_rfl)).trans rfl
          obtain ⟨f, hb, hf⟩ := M6.out.grown hg
          exact at_row (wanted_on rfl rfl rfl eg) rfl e1 hb Try.underlying26 rfl (sz26.trans (by simp [U64])) (hK _ _ (grown_refl _ _) ⟨_, rfl, hf⟩ (fun h => Bool.noConfusion (show false = true from h)))
        · intro a x2 hg hsp hd K hK
          replace hg := grown_trans hw hg
          obtain ⟨_, eg, hgd⟩ := hd 1 _ 116 (by kernel_rfl) rfl rfl
          have hgd : _ = _ := hgd
          subst hgd
          obtain ⟨_, e1, f1, rfl, h1⟩ := hd 2 _ 117 (by kernel_rfl) rfl rfl
          obtain ⟨_, e2, f2, rfl, h2⟩ := hd 3 _ 118 (by kernel_rfl) rfl rfl
          refine at_call (wanted_on rfl rfl rfl eg) rfl (args2 e1 e2) Try.func18 (by kernel_rfl) rfl ?_
          refine (eAdd h1 h2 _).mono ?_
          rintro e w1 ⟨⟨f, rfl, hf⟩, hb⟩
          exact ⟨_, rfl, hK _ _ (grown_own hb) ⟨_, rfl, hf⟩ (fun h => Bool.noConfusion (show false = true from h))⟩
        · intro a x2 hg hsp hd K hK
          replace hg := grown_trans hw hg
          obtain ⟨_, eg, hgd⟩ := hd 1 _ 116 (by kernel_rfl) rfl rfl
          have hgd : _ = _ := hgd
          subst hgd
          obtain ⟨_, e1, f1, rfl, h1⟩ := hd 4 _ 119 (by kernel_rfl) rfl rfl
          refine at_call (wanted_on rfl rfl rfl eg) rfl (args1 e1) Try.func17 (by kernel_rfl) rfl ?_
          refine (eText h1 _).mono ?_
          rintro e w1 ⟨rfl, hb⟩
          exact ⟨_, rfl, hK _ _ (grown_own hb) rfl (fun h => Bool.noConfusion (show false = true from h))⟩
        · intro a x2 hg hsp hd K hK
          replace hg := grown_trans hw hg
          obtain ⟨_, eg, hgd⟩ := hd 1 _ 116 (by kernel_rfl) rfl rfl
          have hgd : _ = _ := hgd
          subst hgd
          have e1 : a.tmps[9]? = some (.pointer (some ⟨w5.heap.size, 0, none⟩)) := (hsp 9 (by kernel_rfl)).trans rfl
          obtain ⟨f, hb, hf⟩ := M9.out.grown hg
          exact at_row (wanted_on rfl rfl rfl eg) rfl e1 hb Try.underlying26 rfl (sz26.trans (by simp [U64])) (hK _ _ (grown_refl _ _) ⟨_, rfl, hf⟩ (fun h => Bool.noConfusion (show false = true from h)))
        · intro a x2 hg hsp hd K hK
          replace hg := grown_trans hw hg
          obtain ⟨_, eg, hgd⟩ := hd 1 _ 116 (by kernel_rfl) rfl rfl
          have hgd : _ = _ := hgd
          subst hgd
          obtain ⟨_, e1, f1, rfl, h1⟩ := hd 6 _ 121 (by kernel_rfl) rfl rfl
          refine at_call (wanted_on rfl rfl rfl eg) rfl (args1 e1) Try.func17 (by kernel_rfl) rfl ?_
          refine (eText h1 _).mono ?_
          rintro e w1 ⟨rfl, hb⟩
          exact ⟨_, rfl, hK _ _ (grown_own hb) rfl (fun h => Bool.noConfusion (show false = true from h))⟩
        · intro a x2 hg hsp hd K hK
          replace hg := grown_trans hw hg
          obtain ⟨_, eg, hgd⟩ := hd 1 _ 116 (by kernel_rfl) rfl rfl
          have hgd : _ = _ := hgd
          subst hgd
          obtain ⟨_, e1, h1⟩ := hd 5 _ 120 (by kernel_rfl) rfl rfl
          have h1 : _ = _ := h1
          subst h1
          obtain ⟨_, e2, h2⟩ := hd 7 _ 122 (by kernel_rfl) rfl rfl
          have h2 : _ = _ := h2
          subst h2
          exact at_value (wanted_on rfl rfl rfl eg) (run_eqs rfl (eval_tmp e1) (eval_tmp e2)) (hK _ _ (grown_refl _ _) (show Value.bool _ = Value.bool true from by simp) (fun h => Bool.noConfusion (show false = true from h)))
        · intro a x2 hg hsp hd K hK
          replace hg := grown_trans hw hg
          obtain ⟨_, e1, h1⟩ := hd 1 _ 116 (by kernel_rfl) rfl rfl
          have h1 : _ = _ := h1
          subst h1
          obtain ⟨_, e2, h2⟩ := hd 8 _ 123 (by kernel_rfl) rfl rfl
          have h2 : _ = _ := h2
          subst h2
          exact at_value (wanted_free rfl) (run_pick (v := .bool true) rfl (eval_tmp e1) ((if_pos rfl).trans (eval_tmp e2))) (hK _ _ (grown_refl _ _) rfl (fun h => Bool.noConfusion (show false = true from h)))
        · intro a x2 hg hsp hd K hK
          replace hg := grown_trans hw hg
          obtain ⟨_, e1, h1⟩ := hd 9 _ 124 (by kernel_rfl) rfl rfl
          have h1 : _ = _ := h1
          subst h1
          exact at_value (wanted_free rfl) (run_move (Or.inl rfl) (eval_tmp e1)) (hK _ _ (grown_refl _ _) rfl (fun h => Bool.noConfusion (show false = true from h)))
        · intro a x2 hg hsp hd K hK
          replace hg := grown_trans hw hg
          obtain ⟨_, eg, hgd⟩ := hd 10 _ 125 (by kernel_rfl) rfl rfl
          have hgd : _ = _ := hgd
          subst hgd
          have e1 : a.tmps[5]? = some (.pointer (some ⟨w1.heap.size, 0, none⟩)) := (hsp 5 (by kernel_rfl)).trans rfl
          obtain ⟨f, hb, hf⟩ := M5.out.grown hg
          exact at_row (wanted_on rfl rfl rfl eg) rfl e1 hb Try.underlying26 rfl (sz26.trans (by simp [U64])) (hK _ _ (grown_refl _ _) ⟨_, rfl, hf⟩ (fun h => Bool.noConfusion (show false = true from h)))
        · intro a x2 hg hsp hd K hK
          replace hg := grown_trans hw hg
          obtain ⟨_, eg, hgd⟩ := hd 10 _ 125 (by kernel_rfl) rfl rfl
          have hgd : _ = _ := hgd
          subst hgd
          have e1 : a.tmps[6]? = some (.pointer (some ⟨w3.heap.size, 0, none⟩)) := (hsp 6 (by kernel_rfl)).trans rfl
          obtain ⟨f, hb, hf⟩ := M6.out.grown hg
          exact at_row (wanted_on rfl rfl rfl eg) rfl e1 hb Try.underlying26 rfl (sz26.trans (by simp [U64])) (hK _ _ (grown_refl _ _) ⟨_, rfl, hf⟩ (fun h => Bool.noConfusion (show false = true from h)))
        · intro a x2 hg hsp hd K hK
          replace hg := grown_trans hw hg
          obtain ⟨_, eg, hgd⟩ := hd 10 _ 125 (by kernel_rfl) rfl rfl
          have hgd : _ = _ := hgd
          subst hgd
          obtain ⟨_, e1, f1, rfl, h1⟩ := hd 11 _ 126 (by kernel_rfl) rfl rfl
          obtain ⟨_, e2, f2, rfl, h2⟩ := hd 12 _ 127 (by kernel_rfl) rfl rfl
          refine at_call (wanted_on rfl rfl rfl eg) rfl (args2 e1 e2) Try.func22 (by kernel_rfl) rfl ?_
          refine (eMul h1 h2 _).mono ?_
          rintro e w1 ⟨⟨f, rfl, hf⟩, hb⟩
          exact ⟨_, rfl, hK _ _ (grown_own hb) ⟨_, rfl, hf⟩ (fun h => Bool.noConfusion (show false = true from h))⟩
        · intro a x2 hg hsp hd K hK
          replace hg := grown_trans hw hg
          obtain ⟨_, eg, hgd⟩ := hd 10 _ 125 (by kernel_rfl) rfl rfl
          have hgd : _ = _ := hgd
          subst hgd
          obtain ⟨_, e1, f1, rfl, h1⟩ := hd 13 _ 128 (by kernel_rfl) rfl rfl
          refine at_call (wanted_on rfl rfl rfl eg) rfl (args1 e1) Try.func17 (by kernel_rfl) rfl ?_
          refine (eText h1 _).mono ?_
          rintro e w1 ⟨rfl, hb⟩
          exact ⟨_, rfl, hK _ _ (grown_own hb) rfl (fun h => Bool.noConfusion (show false = true from h))⟩
        · intro a x2 hg hsp hd K hK
          replace hg := grown_trans hw hg
          obtain ⟨_, eg, hgd⟩ := hd 10 _ 125 (by kernel_rfl) rfl rfl
          have hgd : _ = _ := hgd
          subst hgd
          have e1 : a.tmps[10]? = some (.pointer (some ⟨w7.heap.size, 0, none⟩)) := (hsp 10 (by kernel_rfl)).trans rfl
          obtain ⟨f, hb, hf⟩ := M10.out.grown hg
          exact at_row (wanted_on rfl rfl rfl eg) rfl e1 hb Try.underlying26 rfl (sz26.trans (by simp [U64])) (hK _ _ (grown_refl _ _) ⟨_, rfl, hf⟩ (fun h => Bool.noConfusion (show false = true from h)))
        · intro a x2 hg hsp hd K hK
          replace hg := grown_trans hw hg
          obtain ⟨_, eg, hgd⟩ := hd 10 _ 125 (by kernel_rfl) rfl rfl
          have hgd : _ = _ := hgd
          subst hgd
          obtain ⟨_, e1, f1, rfl, h1⟩ := hd 15 _ 130 (by kernel_rfl) rfl rfl
          refine at_call (wanted_on rfl rfl rfl eg) rfl (args1 e1) Try.func17 (by kernel_rfl) rfl ?_
          refine (eText h1 _).mono ?_
          rintro e w1 ⟨rfl, hb⟩
          exact ⟨_, rfl, hK _ _ (grown_own hb) rfl (fun h => Bool.noConfusion (show false = true from h))⟩
        · intro a x2 hg hsp hd K hK
          replace hg := grown_trans hw hg
          obtain ⟨_, eg, hgd⟩ := hd 10 _ 125 (by kernel_rfl) rfl rfl
          have hgd : _ = _ := hgd
          subst hgd
          obtain ⟨_, e1, h1⟩ := hd 14 _ 129 (by kernel_rfl) rfl rfl
          have h1 : _ = _ := h1
          subst h1
          obtain ⟨_, e2, h2⟩ := hd 16 _ 131 (by kernel_rfl) rfl rfl
          have h2 : _ = _ := h2
          subst h2
          exact at_value (wanted_on rfl rfl rfl eg) (run_eqs rfl (eval_tmp e1) (eval_tmp e2)) (hK _ _ (grown_refl _ _) (show Value.bool _ = Value.bool true from by simp) (fun h => Bool.noConfusion (show false = true from h)))
        · intro a x2 hg hsp hd K hK
          replace hg := grown_trans hw hg
          obtain ⟨_, e1, h1⟩ := hd 10 _ 125 (by kernel_rfl) rfl rfl
          have h1 : _ = _ := h1
          subst h1
          obtain ⟨_, e2, h2⟩ := hd 17 _ 132 (by kernel_rfl) rfl rfl
          have h2 : _ = _ := h2
          subst h2
          exact at_value (wanted_free rfl) (run_pick (v := .bool true) rfl (eval_tmp e1) ((if_pos rfl).trans (eval_tmp e2))) (hK _ _ (grown_refl _ _) rfl (fun h => Bool.noConfusion (show false = true from h)))
        · intro a x2 hg hsp hd K hK
          replace hg := grown_trans hw hg
          obtain ⟨_, e1, h1⟩ := hd 18 _ 133 (by kernel_rfl) rfl rfl
          have h1 : _ = _ := h1
          subst h1
          exact at_value (wanted_free rfl) (run_move (Or.inl rfl) (eval_tmp e1)) (hK _ _ (grown_refl _ _) rfl (fun h => Bool.noConfusion (show false = true from h)))
        · intro a x2 hg hsp hd K hK
          replace hg := grown_trans hw hg
          obtain ⟨_, eg, hgd⟩ := hd 19 _ 134 (by kernel_rfl) rfl rfl
          have hgd : _ = _ := hgd
          subst hgd
          have e1 : a.tmps[12]? = some (.pointer (some ⟨w11.heap.size, 0, none⟩)) := (hsp 12 (by kernel_rfl)).trans rfl
          obtain ⟨f, hb, hf⟩ := M12.out.grown hg
          exact at_row (wanted_on rfl rfl rfl eg) rfl e1 hb Try.underlying26 rfl (sz26.trans (by simp [U64])) (hK _ _ (grown_refl _ _) ⟨_, rfl, hf⟩ (fun h => Bool.noConfusion (show false = true from h)))
        · intro a x2 hg hsp hd K hK
          replace hg := grown_trans hw hg
          obtain ⟨_, eg, hgd⟩ := hd 19 _ 134 (by kernel_rfl) rfl rfl
          have hgd : _ = _ := hgd
          subst hgd
          obtain ⟨_, e1, f1, rfl, h1⟩ := hd 20 _ 135 (by kernel_rfl) rfl rfl
          refine at_call (wanted_on rfl rfl rfl eg) rfl (args1 e1) Try.func17 (by kernel_rfl) rfl ?_
          refine (eText h1 _).mono ?_
          rintro e w1 ⟨rfl, hb⟩
          exact ⟨_, rfl, hK _ _ (grown_own hb) rfl (fun h => Bool.noConfusion (show false = true from h))⟩
        · intro a x2 hg hsp hd K hK
          replace hg := grown_trans hw hg
          obtain ⟨_, eg, hgd⟩ := hd 19 _ 134 (by kernel_rfl) rfl rfl
          have hgd : _ = _ := hgd
          subst hgd
          have e1 : a.tmps[5]? = some (.pointer (some ⟨w1.heap.size, 0, none⟩)) := (hsp 5 (by kernel_rfl)).trans rfl
          obtain ⟨f, hb, hf⟩ := M5.out.grown hg
          exact at_row (wanted_on rfl rfl rfl eg) rfl e1 hb Try.underlying26 rfl (sz26.trans (by simp [U64])) (hK _ _ (grown_refl _ _) ⟨_, rfl, hf⟩ (fun h => Bool.noConfusion (show false = true from h)))
        · intro a x2 hg hsp hd K hK
          replace hg := grown_trans hw hg
          obtain ⟨_, eg, hgd⟩ := hd 19 _ 134 (by kernel_rfl) rfl rfl
          have hgd : _ = _ := hgd
          subst hgd
          obtain ⟨_, e1, f1, rfl, h1⟩ := hd 22 _ 137 (by kernel_rfl) rfl rfl
          refine at_call (wanted_on rfl rfl rfl eg) rfl (args1 e1) Try.func17 (by kernel_rfl) rfl ?_
          refine (eText h1 _).mono ?_
          rintro e w1 ⟨rfl, hb⟩
          exact ⟨_, rfl, hK _ _ (grown_own hb) rfl (fun h => Bool.noConfusion (show false = true from h))⟩
        · intro a x2 hg hsp hd K hK
          replace hg := grown_trans hw hg
          obtain ⟨_, eg, hgd⟩ := hd 19 _ 134 (by kernel_rfl) rfl rfl
          have hgd : _ = _ := hgd
          subst hgd
          obtain ⟨_, e1, h1⟩ := hd 21 _ 136 (by kernel_rfl) rfl rfl
          have h1 : _ = _ := h1
          subst h1
          obtain ⟨_, e2, h2⟩ := hd 23 _ 138 (by kernel_rfl) rfl rfl
          have h2 : _ = _ := h2
          subst h2
          exact at_value (wanted_on rfl rfl rfl eg) (run_eqs rfl (eval_tmp e1) (eval_tmp e2)) (hK _ _ (grown_refl _ _) (show Value.bool _ = Value.bool true from by simp) (fun h => Bool.noConfusion (show false = true from h)))
        · intro a x2 hg hsp hd K hK
          replace hg := grown_trans hw hg
          obtain ⟨_, e1, h1⟩ := hd 19 _ 134 (by kernel_rfl) rfl rfl
          have h1 : _ = _ := h1
          subst h1
          obtain ⟨_, e2, h2⟩ := hd 24 _ 139 (by kernel_rfl) rfl rfl
          have h2 : _ = _ := h2
          subst h2
          exact at_value (wanted_free rfl) (run_pick (v := .bool true) rfl (eval_tmp e1) ((if_pos rfl).trans (eval_tmp e2))) (hK _ _ (grown_refl _ _) rfl (fun h => Bool.noConfusion (show false = true from h)))
        · intro a x2 hg hsp hd K hK
          replace hg := grown_trans hw hg
          obtain ⟨_, e1, h1⟩ := hd 25 _ 140 (by kernel_rfl) rfl rfl
          have h1 : _ = _ := h1
          subst h1
          exact at_value (wanted_free rfl) (run_move (Or.inl rfl) (eval_tmp e1)) (hK _ _ (grown_refl _ _) rfl (fun h => Bool.noConfusion (show false = true from h)))
        · intro a x2 hg hsp hd K hK
          replace hg := grown_trans hw hg
          obtain ⟨_, eg, hgd⟩ := hd 26 _ 141 (by kernel_rfl) rfl rfl
          have hgd : _ = _ := hgd
          subst hgd
          have e1 : a.tmps[13]? = some (.string (le32 ((xa - xb).val))) := (hsp 13 (by kernel_rfl)).trans rfl
          exact at_value (wanted_on rfl rfl rfl eg) (run_move (Or.inl rfl) (eval_tmp e1)) (hK _ _ (grown_refl _ _) rfl (fun h => Bool.noConfusion (show false = true from h)))
        · intro a x2 hg hsp hd K hK
          replace hg := grown_trans hw hg
          obtain ⟨_, eg, hgd⟩ := hd 26 _ 141 (by kernel_rfl) rfl rfl
          have hgd : _ = _ := hgd
          subst hgd
          obtain ⟨_, e1, h1⟩ := hd 27 _ 142 (by kernel_rfl) rfl rfl
          have h1 : _ = _ := h1
          subst h1
          exact at_value (wanted_on rfl rfl rfl eg) (run_index9 (g := fun j => ((xa - xb).val) / 256 ^ j % 256) (i := 31) (by decide) (Nat.mod_lt _ (by decide)) rfl (eval_tmp e1)) (hK _ _ (grown_refl _ _) rfl (fun h => Bool.noConfusion (show false = true from h)))
        · intro a x2 hg hsp hd K hK
          replace hg := grown_trans hw hg
          obtain ⟨_, eg, hgd⟩ := hd 26 _ 141 (by kernel_rfl) rfl rfl
          have hgd : _ = _ := hgd
          subst hgd
          obtain ⟨_, e1, h1⟩ := hd 28 _ 143 (by kernel_rfl) rfl rfl
          have h1 : _ = _ := h1
          subst h1
          exact at_value (wanted_on rfl rfl rfl eg) (run_eq5 rfl (eval_tmp e1) rfl) (hK _ _ (grown_refl _ _) (show Value.bool _ = Value.bool true from by rw [q13_144.out]) (fun h => Bool.noConfusion (show false = true from h)))
        · intro a x2 hg hsp hd K hK
          replace hg := grown_trans hw hg
          obtain ⟨_, e1, h1⟩ := hd 26 _ 141 (by kernel_rfl) rfl rfl
          have h1 : _ = _ := h1
          subst h1
          obtain ⟨_, e2, h2⟩ := hd 29 _ 144 (by kernel_rfl) rfl rfl
          have h2 : _ = _ := h2
          subst h2
          exact at_value (wanted_free rfl) (run_pick (v := .bool true) rfl (eval_tmp e1) ((if_pos rfl).trans (eval_tmp e2))) (hK _ _ (grown_refl _ _) rfl (fun h => Bool.noConfusion (show false = true from h)))
        · intro a x2 hg hsp hd K hK
          replace hg := grown_trans hw hg
          obtain ⟨_, e1, h1⟩ := hd 30 _ 145 (by kernel_rfl) rfl rfl
          have h1 : _ = _ := h1
          subst h1
          exact at_value (wanted_free rfl) (run_move (Or.inl rfl) (eval_tmp e1)) (hK _ _ (grown_refl _ _) rfl (fun h => Bool.noConfusion (show false = true from h)))
        · intro a x2 hg hsp hd K hK
          replace hg := grown_trans hw hg
          obtain ⟨_, eg, hgd⟩ := hd 31 _ 146 (by kernel_rfl) rfl rfl
          have hgd : _ = _ := hgd
          subst hgd
          have e1 : a.tmps[15]? = some (.int .i64 M) := (hsp 15 (by kernel_rfl)).trans rfl
          exact at_value (wanted_on rfl rfl rfl eg) (run_move (Or.inl rfl) (eval_tmp e1)) (hK _ _ (grown_refl _ _) rfl (fun h => Bool.noConfusion (show false = true from h)))
        · intro a x2 hg hsp hd K hK
          replace hg := grown_trans hw hg
          obtain ⟨_, eg, hgd⟩ := hd 31 _ 146 (by kernel_rfl) rfl rfl
          have hgd : _ = _ := hgd
          subst hgd
          obtain ⟨_, e1, h1⟩ := hd 32 _ 147 (by kernel_rfl) rfl rfl
          have h1 : _ = _ := h1
          subst h1
          exact at_value (wanted_on rfl rfl rfl eg) (run_lss3 rfl (eval_tmp e1) rfl) (hK _ _ (grown_refl _ _) (show Value.bool _ = Value.bool false from by rw [q13_148.out]) (fun h => Bool.noConfusion (show false = true from h)))
        · intro a x2 hg hsp hd K hK
          replace hg := grown_trans hw hg
          obtain ⟨_, eg, hgd⟩ := hd 31 _ 146 (by kernel_rfl) rfl rfl
          have hgd : _ = _ := hgd
          subst hgd
          obtain ⟨_, e1, h1⟩ := hd 33 _ 148 (by kernel_rfl) rfl rfl
          have h1 : _ = _ := h1
          subst h1
          exact at_value (wanted_on rfl rfl rfl eg) (run_move (Or.inl rfl) (eval_tmp e1)) (hK _ _ (grown_refl _ _) rfl (fun h => Bool.noConfusion (show false = true from h)))
        · intro a x2 hg hsp hd K hK
          replace hg := grown_trans hw hg
          obtain ⟨_, eg, hgd⟩ := hd 34 _ 149 (by kernel_rfl) rfl rfl
          have hgd : _ = _ := hgd
          subst hgd
          have e1 : a.tmps[13]? = some (.string (le32 ((xa - xb).val))) := (hsp 13 (by kernel_rfl)).trans rfl
          exact at_value (wanted_on rfl rfl rfl eg) (run_move (Or.inl rfl) (eval_tmp e1)) (hK _ _ (grown_refl _ _) rfl (fun h => Bool.noConfusion (show false = true from h)))
        · intro a x2 hg hsp hd K hK
          replace hg := grown_trans hw hg
          obtain ⟨_, eg, hgd⟩ := hd 34 _ 149 (by kernel_rfl) rfl rfl
          have hgd : _ = _ := hgd
          subst hgd
          obtain ⟨_, e1, h1⟩ := hd 35 _ 150 (by kernel_rfl) rfl rfl
          have h1 : _ = _ := h1
          subst h1
          exact at_value (wanted_on rfl rfl rfl eg) (run_index9 (g := fun j => ((xa - xb).val) / 256 ^ j % 256) (i := 0) (by decide) (Nat.mod_lt _ (by decide)) rfl (eval_tmp e1)) (hK _ _ (grown_refl _ _) rfl (fun h => Bool.noConfusion (show false = true from h)))
        · intro a x2 hg hsp hd K hK
          replace hg := grown_trans hw hg
          obtain ⟨_, eg, hgd⟩ := hd 34 _ 149 (by kernel_rfl) rfl rfl
          have hgd : _ = _ := hgd
          subst hgd
          have e1 : a.tmps[15]? = some (.int .i64 M) := (hsp 15 (by kernel_rfl)).trans rfl
          exact at_value (wanted_on rfl rfl rfl eg) (run_move (Or.inl rfl) (eval_tmp e1)) (hK _ _ (grown_refl _ _) rfl (fun h => Bool.noConfusion (show false = true from h)))
        · intro a x2 hg hsp hd K hK
          replace hg := grown_trans hw hg
          obtain ⟨_, eg, hgd⟩ := hd 34 _ 149 (by kernel_rfl) rfl rfl
          have hgd : _ = _ := hgd
          subst hgd
          obtain ⟨_, e1, h1⟩ := hd 37 _ 152 (by kernel_rfl) rfl rfl
          have h1 : _ = _ := h1
          subst h1
          exact at_value (wanted_on rfl rfl rfl eg) (run_op_convert rfl (eval_tmp e1) (conv3_5 _ (by omega) (by omega) _)) (hK _ _ (grown_refl _ _) rfl (fun h => Bool.noConfusion (show false = true from h)))
        · intro a x2 hg hsp hd K hK
          replace hg := grown_trans hw hg
          obtain ⟨_, eg, hgd⟩ := hd 34 _ 149 (by kernel_rfl) rfl rfl
          have hgd : _ = _ := hgd
          subst hgd
          obtain ⟨_, e1, h1⟩ := hd 36 _ 151 (by kernel_rfl) rfl rfl
          have h1 : _ = _ := h1
          subst h1
          obtain ⟨_, e2, h2⟩ := hd 38 _ 153 (by kernel_rfl) rfl rfl
          have h2 : _ = _ := h2
          subst h2
          exact at_value (wanted_on rfl rfl rfl eg) (run_eq5 rfl (eval_tmp e1) (eval_tmp e2)) (hK _ _ (grown_refl _ _) (show Value.bool _ = Value.bool true from by rw [q13_154.out]) (fun h => Bool.noConfusion (show false = true from h)))
        · intro a x2 hg hsp hd K hK
          replace hg := grown_trans hw hg
          obtain ⟨_, eg, hgd⟩ := hd 34 _ 149 (by kernel_rfl) rfl rfl
          have hgd : _ = _ := hgd
          subst hgd
          obtain ⟨_, e1, h1⟩ := hd 39 _ 154 (by kernel_rfl) rfl rfl
          have h1 : _ = _ := h1
          subst h1
          exact at_value (wanted_on rfl rfl rfl eg) (run_move (Or.inl rfl) (eval_tmp e1)) (hK _ _ (grown_refl _ _) rfl (fun h => Bool.noConfusion (show false = true from h)))
        · intro a x2 hg hsp hd K hK
          replace hg := grown_trans hw hg
          obtain ⟨_, eg, hgd⟩ := hd 40 _ 155 (by kernel_rfl) rfl rfl
          have hgd : _ = _ := hgd
          subst hgd
          have e1 : a.tmps[13]? = some (.string (le32 ((xa - xb).val))) := (hsp 13 (by kernel_rfl)).trans rfl
          exact at_value (wanted_on rfl rfl rfl eg) (run_move (Or.inl rfl) (eval_tmp e1)) (hK _ _ (grown_refl _ _) rfl (fun h => Bool.noConfusion (show false = true from h)))
        · intro a x2 hg hsp hd K hK
          replace hg := grown_trans hw hg
          obtain ⟨_, eg, hgd⟩ := hd 40 _ 155 (by kernel_rfl) rfl rfl
          have hgd : _ = _ := hgd
          subst hgd
          obtain ⟨_, e1, h1⟩ := hd 41 _ 156 (by kernel_rfl) rfl rfl
          have h1 : _ = _ := h1
          subst h1
          exact at_value (wanted_on rfl rfl rfl eg) (run_index9 (g := fun j => ((xa - xb).val) / 256 ^ j % 256) (i := 1) (by decide) (Nat.mod_lt _ (by decide)) rfl (eval_tmp e1)) (hK _ _ (grown_refl _ _) rfl (fun h => Bool.noConfusion (show false = true from h)))
        · intro a x2 hg hsp hd K hK
          replace hg := grown_trans hw hg
          obtain ⟨_, eg, hgd⟩ := hd 40 _ 155 (by kernel_rfl) rfl rfl
          have hgd : _ = _ := hgd
          subst hgd
          have e1 : a.tmps[15]? = some (.int .i64 M) := (hsp 15 (by kernel_rfl)).trans rfl
          exact at_value (wanted_on rfl rfl rfl eg) (run_move (Or.inl rfl) (eval_tmp e1)) (hK _ _ (grown_refl _ _) rfl (fun h => Bool.noConfusion (show false = true from h)))
        · intro a x2 hg hsp hd K hK
          replace hg := grown_trans hw hg
          obtain ⟨_, eg, hgd⟩ := hd 40 _ 155 (by kernel_rfl) rfl rfl
          have hgd : _ = _ := hgd
          subst hgd
          obtain ⟨_, e1, h1⟩ := hd 43 _ 158 (by kernel_rfl) rfl rfl
          have h1 : _ = _ := h1
          subst h1
          exact at_value (wanted_on rfl rfl rfl eg) (run_shr3 rfl (eval_tmp e1) (by omega) (by omega)) (hK _ _ (grown_refl _ _) rfl (fun h => Bool.noConfusion (show false = true from h)))
        · intro a x2 hg hsp hd K hK
          replace hg := grown_trans hw hg
          obtain ⟨_, eg, hgd⟩ := hd 40 _ 155 (by kernel_rfl) rfl rfl
          have hgd : _ = _ := hgd
          subst hgd
          obtain ⟨_, e1, h1⟩ := hd 44 _ 159 (by kernel_rfl) rfl rfl
          have h1 : _ = _ := h1
          subst h1
          exact at_value (wanted_on rfl rfl rfl eg) (run_op_convert rfl (eval_tmp e1) (conv3_5 _ (by omega) (by omega) _)) (hK _ _ (grown_refl _ _) rfl (fun h => Bool.noConfusion (show false = true from h)))
        · intro a x2 hg hsp hd K hK
          replace hg := grown_trans hw hg
          obtain ⟨_, eg, hgd⟩ := hd 40 _ 155 (by kernel_rfl) rfl rfl
          have hgd : _ = _ := hgd
          subst hgd
          obtain ⟨_, e1, h1⟩ := hd 42 _ 157 (by kernel_rfl) rfl rfl
          have h1 : _ = _ := h1
          subst h1
          obtain ⟨_, e2, h2⟩ := hd 45 _ 160 (by kernel_rfl) rfl rfl
          have h2 : _ = _ := h2
          subst h2
          exact at_value (wanted_on rfl rfl rfl eg) (run_eq5 rfl (eval_tmp e1) (eval_tmp e2)) (hK _ _ (grown_refl _ _) (show Value.bool _ = Value.bool true from by rw [q13_161.out]) (fun h => Bool.noConfusion (show false = true from h)))
        · intro a x2 hg hsp hd K hK
          replace hg := grown_trans hw hg
          obtain ⟨_, eg, hgd⟩ := hd 34 _ 149 (by kernel_rfl) rfl rfl
          have hgd : _ = _ := hgd
          subst hgd
          obtain ⟨_, e1, h1⟩ := hd 40 _ 155 (by kernel_rfl) rfl rfl
          have h1 : _ = _ := h1
          subst h1
          obtain ⟨_, e2, h2⟩ := hd 46 _ 161 (by kernel_rfl) rfl rfl
          have h2 : _ = _ := h2
          subst h2
          exact at_value (wanted_on rfl rfl rfl eg) (run_pick (v := .bool true) rfl (eval_tmp e1) ((if_pos rfl).trans (eval_tmp e2))) (hK _ _ (grown_refl _ _) rfl (fun h => Bool.noConfusion (show false = true from h)))
        · intro a x2 hg hsp hd K hK
          replace hg := grown_trans hw hg
          obtain ⟨_, eg, hgd⟩ := hd 34 _ 149 (by kernel_rfl) rfl rfl
          have hgd : _ = _ := hgd
          subst hgd
          obtain ⟨_, e1, h1⟩ := hd 47 _ 162 (by kernel_rfl) rfl rfl
          have h1 : _ = _ := h1
          subst h1
          exact at_value (wanted_on rfl rfl rfl eg) (run_move (Or.inl rfl) (eval_tmp e1)) (hK _ _ (grown_refl _ _) rfl (fun h => Bool.noConfusion (show false = true from h)))
        · intro a x2 hg hsp hd K hK
          replace hg := grown_trans hw hg
          obtain ⟨_, eg, hgd⟩ := hd 48 _ 163 (by kernel_rfl) rfl rfl
          have hgd : _ = _ := hgd
          subst hgd
          have e1 : a.tmps[13]? = some (.string (le32 ((xa - xb).val))) := (hsp 13 (by kernel_rfl)).trans rfl
          exact at_value (wanted_on rfl rfl rfl eg) (run_move (Or.inl rfl) (eval_tmp e1)) (hK _ _ (grown_refl _ _) rfl (fun h => Bool.noConfusion (show false = true from h)))
        · intro a x2 hg hsp hd K hK
          replace hg := grown_trans hw hg
          obtain ⟨_, eg, hgd⟩ := hd 48 _ 163 (by kernel_rfl) rfl rfl
          have hgd : _ = _ := hgd
          subst hgd
          obtain ⟨_, e1, h1⟩ := hd 49 _ 164 (by kernel_rfl) rfl rfl
          have h1 : _ = _ := h1
          subst h1
          exact at_value (wanted_on rfl rfl rfl eg) (run_index9 (g := fun j => ((xa - xb).val) / 256 ^ j % 256) (i := 2) (by decide) (Nat.mod_lt _ (by decide)) rfl (eval_tmp e1)) (hK _ _ (grown_refl _ _) rfl (fun h => Bool.noConfusion (show false = true from h)))
        · intro a x2 hg hsp hd K hK
          replace hg := grown_trans hw hg
          obtain ⟨_, eg, hgd⟩ := hd 48 _ 163 (by kernel_rfl) rfl rfl
          have hgd : _ = _ := hgd
          subst hgd
          obtain ⟨_, e1, h1⟩ := hd 50 _ 165 (by kernel_rfl) rfl rfl
          have h1 : _ = _ := h1
          subst h1
          exact at_value (wanted_on rfl rfl rfl eg) (run_eq5 rfl (eval_tmp e1) rfl) (hK _ _ (grown_refl _ _) (show Value.bool _ = Value.bool true from by rw [q13_166.out]) (fun h => Bool.noConfusion (show false = true from h)))
        · intro a x2 hg hsp hd K hK
          replace hg := grown_trans hw hg
          obtain ⟨_, eg, hgd⟩ := hd 34 _ 149 (by kernel_rfl) rfl rfl
          have hgd : _ = _ := hgd
          subst hgd
          obtain ⟨_, e1, h1⟩ := hd 48 _ 163 (by kernel_rfl) rfl rfl
          have h1 : _ = _ := h1
          subst h1
          obtain ⟨_, e2, h2⟩ := hd 51 _ 166 (by kernel_rfl) rfl rfl
          have h2 : _ = _ := h2
          subst h2
          exact at_value (wanted_on rfl rfl rfl eg) (run_pick (v := .bool true) rfl (eval_tmp e1) ((if_pos rfl).trans (eval_tmp e2))) (hK _ _ (grown_refl _ _) rfl (fun h => Bool.noConfusion (show false = true from h)))
        · intro a x2 hg hsp hd K hK
          replace hg := grown_trans hw hg
          obtain ⟨_, eg, hgd⟩ := hd 31 _ 146 (by kernel_rfl) rfl rfl
          have hgd : _ = _ := hgd
          subst hgd
          obtain ⟨_, e1, h1⟩ := hd 34 _ 149 (by kernel_rfl) rfl rfl
          have h1 : _ = _ := h1
          subst h1
          obtain ⟨_, e2, h2⟩ := hd 52 _ 167 (by kernel_rfl) rfl rfl
          have h2 : _ = _ := h2
          subst h2
          exact at_value (wanted_on rfl rfl rfl eg) (run_pick (v := .bool true) rfl (eval_tmp e1) ((if_neg (by decide)).trans (eval_tmp e2))) (hK _ _ (grown_refl _ _) rfl (fun h => Bool.noConfusion (show false = true from h)))
        · intro a x2 hg hsp hd K hK
          replace hg := grown_trans hw hg
          obtain ⟨_, e1, h1⟩ := hd 31 _ 146 (by kernel_rfl) rfl rfl
          have h1 : _ = _ := h1
          subst h1
          obtain ⟨_, e2, h2⟩ := hd 53 _ 168 (by kernel_rfl) rfl rfl
          have h2 : _ = _ := h2
          subst h2
          exact at_value (wanted_free rfl) (run_pick (v := .bool true) rfl (eval_tmp e1) ((if_pos rfl).trans (eval_tmp e2))) (hK _ _ (grown_refl _ _) rfl (fun h => Bool.noConfusion (show false = true from h)))
        · intro a x2 hg hsp hd K hK
          replace hg := grown_trans hw hg
          obtain ⟨_, e1, h1⟩ := hd 54 _ 169 (by kernel_rfl) rfl rfl
          have h1 : _ = _ := h1
          subst h1
          exact at_value (wanted_free rfl) (run_move (Or.inr rfl) (eval_tmp e1)) (hK _ _ (grown_refl _ _) rfl (fun h => Bool.noConfusion (show false = true from h)))
      have v0 : vs 0 = _ := hv 0 _ rfl
      have v1 : vs 1 = _ := hv 1 _ rfl
      obtain ⟨F117, v2, -⟩ := hv 2 _ rfl
      obtain ⟨F118, v3, -⟩ := hv 3 _ rfl
      obtain ⟨F119, v4, -⟩ := hv 4 _ rfl
      have v5 : vs 5 = _ := hv 5 _ rfl
      obtain ⟨F121, v6, -⟩ := hv 6 _ rfl
      have v7 : vs 7 = _ := hv 7 _ rfl
      have v8 : vs 8 = _ := hv 8 _ rfl
      have v9 : vs 9 = _ := hv 9 _ rfl
      have v10 : vs 10 = _ := hv 10 _ rfl
      obtain ⟨F126, v11, -⟩ := hv 11 _ rfl
      obtain ⟨F127, v12, -⟩ := hv 12 _ rfl
      obtain ⟨F128, v13, -⟩ := hv 13 _ rfl
      have v14 : vs 14 = _ := hv 14 _ rfl
      obtain ⟨F130, v15, -⟩ := hv 15 _ rfl
      have v16 : vs 16 = _ := hv 16 _ rfl
      have v17 : vs 17 = _ := hv 17 _ rfl
      have v18 : vs 18 = _ := hv 18 _ rfl
      have v19 : vs 19 = _ := hv 19 _ rfl
      obtain ⟨F135, v20, -⟩ := hv 20 _ rfl
      have v21 : vs 21 = _ := hv 21 _ rfl
      obtain ⟨F137, v22, -⟩ := hv 22 _ rfl
      have v23 : vs 23 = _ := hv 23 _ rfl
      have v24 : vs 24 = _ := hv 24 _ rfl
      have v25 : vs 25 = _ := hv 25 _ rfl
      have v26 : vs 26 = _ := hv 26 _ rfl
      have v27 : vs 27 = _ := hv 27 _ rfl
      have v28 : vs 28 = _ := hv 28 _ rfl
      have v29 : vs 29 = _ := hv 29 _ rfl
      have v30 : vs 30 = _ := hv 30 _ rfl
      have v31 : vs 31 = _ := hv 31 _ rfl
      have v32 : vs 32 = _ := hv 32 _ rfl
      have v33 : vs 33 = _ := hv 33 _ rfl
      have v34 : vs 34 = _ := hv 34 _ rfl
      have v35 : vs 35 = _ := hv 35 _ rfl
      have v36 : vs 36 = _ := hv 36 _ rfl
      have v37 : vs 37 = _ := hv 37 _ rfl
      have v38 : vs 38 = _ := hv 38 _ rfl
      have v39 : vs 39 = _ := hv 39 _ rfl
      have v40 : vs 40 = _ := hv 40 _ rfl
      have v41 : vs 41 = _ := hv 41 _ rfl
      have v42 : vs 42 = _ := hv 42 _ rfl
      have v43 : vs 43 = _ := hv 43 _ rfl
      have v44 : vs 44 = _ := hv 44 _ rfl
      have v45 : vs 45 = _ := hv 45 _ rfl
      have v46 : vs 46 = _ := hv 46 _ rfl
      have v47 : vs 47 = _ := hv 47 _ rfl
      have v48 : vs 48 = _ := hv 48 _ rfl
      have v49 : vs 49 = _ := hv 49 _ rfl
      have v50 : vs 50 = _ := hv 50 _ rfl
      have v51 : vs 51 = _ := hv 51 _ rfl
      have v52 : vs 52 = _ := hv 52 _ rfl
      have v53 : vs 53 = _ := hv 53 _ rfl
      have v54 : vs 54 = _ := hv 54 _ rfl
      have v55 : vs 55 = _ := hv 55 _ rfl
      simp [seqA, Act.put, v0, v1, v2, v3, v4, v5, v6, v7, v8, v9, v10, v11, v12, v13, v14, v15, v16, v17, v18, v19, v20, v21, v22, v23, v24, v25, v26, v27, v28, v29, v30, v31, v32, v33, v34, v35, v36, v37, v38, v39, v40, v41, v42, v43, v44, v45, v46, v47, v48, v49, v50, v51, v52, v53, v54, v55]
      clear hv hap
      replace LB := Lib.hid (LB.out.grown hg LB.out.size (fun j hj => by cases hj))
      go_wp2_with fail
      go_ret
      exact ⟨rfl, LB.out⟩
end Go.Proofs.Ytikmghmapmlebaa
