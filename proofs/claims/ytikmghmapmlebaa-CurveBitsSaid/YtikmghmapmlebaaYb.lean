/-
  The reference's Times: the ladder; no condition.
-/
import Derived.Test.YtikmghmapmlebaaYc
import Derived.BigRegion
import Derived.Deep.DeepCutAuto
import Derived.Laws.Concat
namespace Go.Proofs.Ytikmghmapmlebaa
open Go.RowKit Go.Rh F255

set_option maxRecDepth 100000 in
set_option maxHeartbeats 2000000 in
theorem rtimes_any (g h : Nat → Nat) (hg : ∀ j, j < 32 → g j < 256) (hh : ∀ j, j < 32 → h j < 256) (w : World) :
    Calls Try.prog 31 #[.string (bstr g 32), .string (bstr h 32)] w fun e w' => e = .returned (fs (Ed.tim crv.toFld kF (xF h) (cbit g) 254 255)) ∧ Hid (BB w w') := by
  have hB0 : Hid (BB w w) := Lib.hid (BB.of (by go_grown))
  have HOf := Lib.hid (fun w1 (k : Hid (BB w w1)) => fOf k h hh)
  have HBit := Lib.hid (fun w1 (k : Hid (BB w w1)) => fBit k g hg)
  clear hg hh
  obtain ⟨u, hu⟩ : ∃ u, u = xF h := ⟨_, rfl⟩
  rw [← hu] at HOf ⊢
  obtain ⟨bt, hbt⟩ : ∃ bt, bt = cbit g := ⟨_, rfl⟩
  rw [← hbt] at HBit ⊢
  have hmk := mkz29
  have HU := Lib.hid hu
  have HT := Lib.hid hbt
  clear hu hbt
  go_enter Try.func31, Try.ntmps31
  go_wp2_with fail
  refine (HOf.out _ (by assumption)).mono ?_
  rintro e w1 ⟨rfl, hb⟩
  go_wp2_with fail
  refine (fOne (by assumption)).mono ?_
  rintro e w1 ⟨rfl, hb⟩
  go_wp2_with fail
  refine (fNought (by assumption)).mono ?_
  rintro e w1 ⟨rfl, hb⟩
  go_wp2_with fail
  refine (fOne (by assumption)).mono ?_
  rintro e w1 ⟨rfl, hb⟩
  go_wp2_with fail
  go_loopw [6, 7, 8, 9, 10] (fun a b c d i wr => TRel u bt w a b c d i wr) (fun _ _ _ _ i _ => (intOf i + 1).toNat)
  case atStart => exact ⟨0, by omega, rfl, ⟨rfl, rfl, rfl, rfl⟩, by assumption⟩
  case round =>
    obtain ⟨j, hj, rfl, ⟨rfl, rfl, rfl, rfl⟩, lb⟩ := hrel
    obtain ⟨⟨a, b, c, d⟩, hq⟩ : ∃ q, q = Ed.lad kF u bt 254 j := ⟨_, rfl⟩
    rw [← hq]
    dsimp only
    have LB := Lib.hid lb
    have HQ := Lib.hid hq
    clear lb hq
    by_cases hx : j < 255
    · have hge : (decide ((254 : Int) - (j : Int) ≥ 0)) = true := by simp; omega
      have hnat : (254 : Int) - (j : Int) = ((254 - j : Nat) : Int) := by omega
      obtain ⟨i, hi⟩ : ∃ i, i = 254 - j := ⟨_, rfl⟩
      rw [← hi] at hnat
      have hile : i ≤ 254 := by omega
      have HB := Lib.hid (fun w1 k => HBit.out w1 k i hile)
      rw [hnat] at hge ⊢
      have HI := Lib.hid hi
      have HN := Lib.hid hnat
      clear hi hnat
      cases hbi : bt i
      · rw [hbi] at HB
        go_wp2_with fail
        refine (HB.out _ LB).mono ?_
        rintro e w1 ⟨rfl, hb⟩
        go_wp2_with (first | (go_at_call 19; refine (fAdd (by assumption) _ _).mono ?_; rintro e w1 ⟨rfl, hb⟩) | (go_at_call 21; refine (fSub (by assumption) _ _).mono ?_; rintro e w1 ⟨rfl, hb⟩) | (go_at_call 23; refine (fMul (by assumption) _ _).mono ?_; rintro e w1 ⟨rfl, hb⟩) | fail)
        obtain ⟨W, hW⟩ : ∃ W, W = w1 := ⟨_, rfl⟩
        have a1 := conv3 (w1.alloc (.cells #[.int .u8 65, .int .u8 219, .int .u8 1] 5)).drew w1.heap.size (by rw [heap_drew]; exact heap_new' _ _ _ rfl)
        have a2 := conv3 ((w1.alloc (.cells (vals .u8 29 fun _ => 0) 5)).alloc (.cells #[.int .u8 65, .int .u8 219, .int .u8 1] 5)).drew (w1.heap.size + 1) (by rw [heap_drew]; exact heap_new' _ _ _ (by simp))
        have a3 := conv3 ((w1.alloc (.cells #[.int .u8 65, .int .u8 219, .int .u8 1] 5)).alloc (.cells (vals .u8 29 fun _ => 0) 5)).drew w1.heap.size (by rw [heap_drew, heap_old _ _ _ (by simp)]; exact heap_new' _ _ _ rfl)
        have m1 := conv29 (w1.alloc (.cells (vals .u8 29 fun _ => 0) 5)).drew w1.heap.size (by rw [heap_drew]; exact heap_new' _ _ _ rfl)
        have m2 := conv29 ((w1.alloc (.cells #[.int .u8 65, .int .u8 219, .int .u8 1] 5)).alloc (.cells (vals .u8 29 fun _ => 0) 5)).drew (w1.heap.size + 1) (by rw [heap_drew]; exact heap_new' _ _ _ (by simp))
        have m3 := conv29 ((w1.alloc (.cells (vals .u8 29 fun _ => 0) 5)).alloc (.cells #[.int .u8 65, .int .u8 219, .int .u8 1] 5)).drew w1.heap.size (by rw [heap_drew, heap_old _ _ _ (by simp)]; exact heap_new' _ _ _ rfl)
        have z1 : (bstr kd 3).size = 3 := bstr_size _ _
        have z2 : (bstr (fun _ => 0) 29).size = 29 := bstr_size _ _
        have HST := Lib.hid (step_off u a b c d)
        clear hW
        go_region
        all_goals
          go_wp2_with fail
          refine (fMulK (Lib.hid (hb.out.go (by go_grown))) _).mono ?_
          rintro e w2 ⟨rfl, hb2⟩
          go_wp2_with fail
          refine (fAdd hb2 _ _).mono ?_
          rintro e w3 ⟨rfl, hb3⟩
          go_wp2_with fail
          refine (fMul hb3 _ _).mono ?_
          rintro e w4 ⟨rfl, hb4⟩
          go_wp2
          go_roundw
          case measure => simp [intOf]
          refine ⟨j + 1, by omega, ?_, ?_, hb4.out⟩
          · have := HI.out; go_num
          · show Four (Ed.lstep kF u (bt (254 - j)) (Ed.lad kF u bt 254 j)) _ _ _ _
            rw [← HQ.out, ← HI.out, hbi, HST.out]
            exact ⟨rfl, rfl, rfl, rfl⟩
      · rw [hbi] at HB
        go_wp2_with fail
        refine (HB.out _ LB).mono ?_
        rintro e w1 ⟨rfl, hb⟩
        go_wp2_with (first | (go_at_call 19; refine (fAdd (by assumption) _ _).mono ?_; rintro e w1 ⟨rfl, hb⟩) | (go_at_call 21; refine (fSub (by assumption) _ _).mono ?_; rintro e w1 ⟨rfl, hb⟩) | (go_at_call 23; refine (fMul (by assumption) _ _).mono ?_; rintro e w1 ⟨rfl, hb⟩) | fail)
        obtain ⟨W, hW⟩ : ∃ W, W = w1 := ⟨_, rfl⟩
        have a1 := conv3 (w1.alloc (.cells #[.int .u8 65, .int .u8 219, .int .u8 1] 5)).drew w1.heap.size (by rw [heap_drew]; exact heap_new' _ _ _ rfl)
        have a2 := conv3 ((w1.alloc (.cells (vals .u8 29 fun _ => 0) 5)).alloc (.cells #[.int .u8 65, .int .u8 219, .int .u8 1] 5)).drew (w1.heap.size + 1) (by rw [heap_drew]; exact heap_new' _ _ _ (by simp))
        have a3 := conv3 ((w1.alloc (.cells #[.int .u8 65, .int .u8 219, .int .u8 1] 5)).alloc (.cells (vals .u8 29 fun _ => 0) 5)).drew w1.heap.size (by rw [heap_drew, heap_old _ _ _ (by simp)]; exact heap_new' _ _ _ rfl)
        have m1 := conv29 (w1.alloc (.cells (vals .u8 29 fun _ => 0) 5)).drew w1.heap.size (by rw [heap_drew]; exact heap_new' _ _ _ rfl)
        have m2 := conv29 ((w1.alloc (.cells #[.int .u8 65, .int .u8 219, .int .u8 1] 5)).alloc (.cells (vals .u8 29 fun _ => 0) 5)).drew (w1.heap.size + 1) (by rw [heap_drew]; exact heap_new' _ _ _ (by simp))
        have m3 := conv29 ((w1.alloc (.cells (vals .u8 29 fun _ => 0) 5)).alloc (.cells #[.int .u8 65, .int .u8 219, .int .u8 1] 5)).drew w1.heap.size (by rw [heap_drew, heap_old _ _ _ (by simp)]; exact heap_new' _ _ _ rfl)
        have z1 : (bstr kd 3).size = 3 := bstr_size _ _
        have z2 : (bstr (fun _ => 0) 29).size = 29 := bstr_size _ _
        have HST := Lib.hid (step_off u c d a b)
        clear hW
        go_region
        all_goals
          go_wp2_with fail
          refine (fMulK (Lib.hid (hb.out.go (by go_grown))) _).mono ?_
          rintro e w2 ⟨rfl, hb2⟩
          go_wp2_with fail
          refine (fAdd hb2 _ _).mono ?_
          rintro e w3 ⟨rfl, hb3⟩
          go_wp2_with fail
          refine (fMul hb3 _ _).mono ?_
          rintro e w4 ⟨rfl, hb4⟩
          go_wp2
          go_roundw
          case measure => simp [intOf]
          refine ⟨j + 1, by omega, ?_, ?_, hb4.out⟩
          · have := HI.out; go_num
          · show Four (Ed.lstep kF u (bt (254 - j)) (Ed.lad kF u bt 254 j)) _ _ _ _
            rw [← HQ.out, ← HI.out, hbi, step_on, HST.out]
            exact ⟨rfl, rfl, rfl, rfl⟩
    · obtain rfl : j = 255 := by omega
      go_wp2_with fail
      refine (fInv LB _).mono ?_
      rintro e w1 ⟨rfl, hb⟩
      go_wp2_with fail
      refine (fMul hb _ _).mono ?_
      rintro e w2 ⟨rfl, hb2⟩
      go_wp2
      go_ret
      refine ⟨?_, hb2⟩
      unfold Ed.tim
      rw [← HQ.out]
      rfl
end Go.Proofs.Ytikmghmapmlebaa
