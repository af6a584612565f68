/-
  The program's Mac tells HMAC; its conditions: the tables as the text lays them, not more than 2^46 bytes.
-/
import Derived.Test.YtmifegjmmlipbaaDoorCa
import Derived.Test.YtmifegjmmlipbaaDoorCc
import Derived.Deep.DeepCutAuto
namespace Go.Proofs.YtmifegjmmlipbaaDoor
open Go.RowKit Go.Rh Sha

theorem sz82 : (Tryd.prog.info? 82).map (·.size) = some 64 := by kernel_rfl
theorem zm : (#[.int .u8 0, .int .u8 0, .int .u8 0, .int .u8 0, .int .u8 0, .int .u8 0, .int .u8 0, .int .u8 0, .int .u8 0, .int .u8 0, .int .u8 0, .int .u8 0, .int .u8 0, .int .u8 0, .int .u8 0, .int .u8 0, .int .u8 0, .int .u8 0, .int .u8 0, .int .u8 0, .int .u8 0, .int .u8 0, .int .u8 0, .int .u8 0, .int .u8 0, .int .u8 0, .int .u8 0, .int .u8 0, .int .u8 0, .int .u8 0, .int .u8 0, .int .u8 0, .int .u8 0, .int .u8 0, .int .u8 0, .int .u8 0, .int .u8 0, .int .u8 0, .int .u8 0, .int .u8 0, .int .u8 0, .int .u8 0, .int .u8 0, .int .u8 0, .int .u8 0, .int .u8 0, .int .u8 0, .int .u8 0, .int .u8 0, .int .u8 0, .int .u8 0, .int .u8 0, .int .u8 0, .int .u8 0, .int .u8 0, .int .u8 0, .int .u8 0, .int .u8 0, .int .u8 0, .int .u8 0, .int .u8 0, .int .u8 0, .int .u8 0, .int .u8 0] : Array Value) = vals .u8 64 fun _ => 0 := rfl
theorem keyBlock_short {l : List UInt8} (h : l.length ≤ 64) : l ++ List.replicate (64 - l.length) 0 = keyBlock l := by
  unfold keyBlock Sha.keyOf; rw [if_neg (by omega)]
theorem keyBlock_long {l : List UInt8} (h : 64 < l.length) : sum l ++ List.replicate (64 - (sum l).length) 0 = keyBlock l := by
  unfold keyBlock Sha.keyOf; rw [if_pos h]
theorem xorAll_snoc (c : UInt8) (l : List UInt8) {k : Nat} (h : k < l.length) : xorAll c (l.take k) ++ [at_ l k ^^^ c] = xorAll c (l.take (k + 1)) := by
  rw [List.take_succ_eq_append_getElem h, at_get h]; unfold xorAll; rw [List.map_append]; rfl
theorem xorAll_length (c : UInt8) (l : List UInt8) : (xorAll c l).length = l.length := by simp [xorAll]

set_option maxRecDepth 100000 in
set_option maxHeartbeats 0 in
theorem mac_any {w : World} {ok ok' : Nat → Prop} {v x : Value} {l m : List UInt8} (hL : Laid w) (hv : Bs ok w v l) (hx : Bs ok' w x m) (hb : l.length ≤ 70368744177664) (hb2 : m.length + 64 ≤ 70368744177664) :
    Calls Tryd.prog 23 #[v, x] w fun e w' => e = .returned (.agg (B8 32 (mac l m))) ∧ Below w.heap.size w w' := by
  obtain ⟨i0, hi0, hz0, hz1, hz2⟩ := info_parts info5
  have HV : Hid (Bs (fun k => k < w.heap.size) w v l) := hv.mono (fun i hi _ => hi)
  have HX : Hid (Bs (fun k => k < w.heap.size) w x m) := hx.mono (fun i hi _ => hi)
  obtain ⟨A, n, c, rfl, hn, hc, hbk⟩ := hv
  obtain ⟨A', n', c', rfl, hn', hc', hbk'⟩ := hx
  have HN := Lib.hid hn
  have HB := Lib.hid hb
  have HM := Lib.hid hb2
  have HL := Lib.hid hL
  clear hc hbk hc' hbk' hn hn' hb hb2 hL
  go_enter Tryd.func23, Tryd.ntmps23
  go_upto_if 14 with fail
  obtain ⟨w1, hw1⟩ : ∃ w1, w1 = (w.alloc (.cells #[.int .u8 0, .int .u8 0, .int .u8 0, .int .u8 0, .int .u8 0, .int .u8 0, .int .u8 0, .int .u8 0, .int .u8 0, .int .u8 0, .int .u8 0, .int .u8 0, .int .u8 0, .int .u8 0, .int .u8 0, .int .u8 0, .int .u8 0, .int .u8 0, .int .u8 0, .int .u8 0, .int .u8 0, .int .u8 0, .int .u8 0, .int .u8 0, .int .u8 0, .int .u8 0, .int .u8 0, .int .u8 0, .int .u8 0, .int .u8 0, .int .u8 0, .int .u8 0] 24)).alloc (.cells #[.int .u8 0, .int .u8 0, .int .u8 0, .int .u8 0, .int .u8 0, .int .u8 0, .int .u8 0, .int .u8 0, .int .u8 0, .int .u8 0, .int .u8 0, .int .u8 0, .int .u8 0, .int .u8 0, .int .u8 0, .int .u8 0, .int .u8 0, .int .u8 0, .int .u8 0, .int .u8 0, .int .u8 0, .int .u8 0, .int .u8 0, .int .u8 0, .int .u8 0, .int .u8 0, .int .u8 0, .int .u8 0, .int .u8 0, .int .u8 0, .int .u8 0, .int .u8 0, .int .u8 0, .int .u8 0, .int .u8 0, .int .u8 0, .int .u8 0, .int .u8 0, .int .u8 0, .int .u8 0, .int .u8 0, .int .u8 0, .int .u8 0, .int .u8 0, .int .u8 0, .int .u8 0, .int .u8 0, .int .u8 0, .int .u8 0, .int .u8 0, .int .u8 0, .int .u8 0, .int .u8 0, .int .u8 0, .int .u8 0, .int .u8 0, .int .u8 0, .int .u8 0, .int .u8 0, .int .u8 0, .int .u8 0, .int .u8 0, .int .u8 0, .int .u8 0] 82) := ⟨_, rfl⟩
  have hz : w1.heap.size = w.heap.size + 2 := by rw [hw1]; simp
  have HR : Hid (w1.heap[w.heap.size]? = some (.cells #[.int .u8 0, .int .u8 0, .int .u8 0, .int .u8 0, .int .u8 0, .int .u8 0, .int .u8 0, .int .u8 0, .int .u8 0, .int .u8 0, .int .u8 0, .int .u8 0, .int .u8 0, .int .u8 0, .int .u8 0, .int .u8 0, .int .u8 0, .int .u8 0, .int .u8 0, .int .u8 0, .int .u8 0, .int .u8 0, .int .u8 0, .int .u8 0, .int .u8 0, .int .u8 0, .int .u8 0, .int .u8 0, .int .u8 0, .int .u8 0, .int .u8 0, .int .u8 0] 24 (0, 0))) := by rw [hw1]; exact (heap2 w _ _).1
  have HK : Hid (w1.heap[w.heap.size + 1]? = some (.cells #[.int .u8 0, .int .u8 0, .int .u8 0, .int .u8 0, .int .u8 0, .int .u8 0, .int .u8 0, .int .u8 0, .int .u8 0, .int .u8 0, .int .u8 0, .int .u8 0, .int .u8 0, .int .u8 0, .int .u8 0, .int .u8 0, .int .u8 0, .int .u8 0, .int .u8 0, .int .u8 0, .int .u8 0, .int .u8 0, .int .u8 0, .int .u8 0, .int .u8 0, .int .u8 0, .int .u8 0, .int .u8 0, .int .u8 0, .int .u8 0, .int .u8 0, .int .u8 0, .int .u8 0, .int .u8 0, .int .u8 0, .int .u8 0, .int .u8 0, .int .u8 0, .int .u8 0, .int .u8 0, .int .u8 0, .int .u8 0, .int .u8 0, .int .u8 0, .int .u8 0, .int .u8 0, .int .u8 0, .int .u8 0, .int .u8 0, .int .u8 0, .int .u8 0, .int .u8 0, .int .u8 0, .int .u8 0, .int .u8 0, .int .u8 0, .int .u8 0, .int .u8 0, .int .u8 0, .int .u8 0, .int .u8 0, .int .u8 0, .int .u8 0, .int .u8 0] 82 (0, 0))) := by rw [hw1]; exact (heap2 w _ _).2
  have HB1 : Hid (Below w.heap.size w w1) := by rw [hw1]; exact ((Below.refl _ _).alloc (Nat.le_refl _) _).alloc (by simp) _
  rw [← hw1]
  have HZ := Lib.hid hz
  clear hw1 hz
  have HV1 : Hid (Bs (fun k => k < w.heap.size) w1 (.slice A n c) l) := HV.out.keep (S := fun _ => False) (Keep.of_below HB1.out (Nat.le_refl _) _) (fun _ _ => id)
  go_cut [] (fun wx => Hid (wx.heap[w.heap.size]? = some (.cells #[.int .u8 0, .int .u8 0, .int .u8 0, .int .u8 0, .int .u8 0, .int .u8 0, .int .u8 0, .int .u8 0, .int .u8 0, .int .u8 0, .int .u8 0, .int .u8 0, .int .u8 0, .int .u8 0, .int .u8 0, .int .u8 0, .int .u8 0, .int .u8 0, .int .u8 0, .int .u8 0, .int .u8 0, .int .u8 0, .int .u8 0, .int .u8 0, .int .u8 0, .int .u8 0, .int .u8 0, .int .u8 0, .int .u8 0, .int .u8 0, .int .u8 0, .int .u8 0] 24 (0, 0))) ∧ Hid (wx.heap[w.heap.size + 1]? = some (.cells (B8 64 (keyBlock l)) 82 (0, 0))) ∧ Hid (Below w.heap.size w wx) ∧ Hid (w.heap.size + 2 ≤ wx.heap.size))
  case first =>
    by_cases h64 : l.length ≤ 64
    · have hn64 : (n : Int) ≤ 64 := by have := HN.out; omega
      have HD := Lib.hid (copied 64 l h64)
      have H64 := Lib.hid h64
      clear h64
      go_wp2_with (refine wpList_copy_bs (by rfl) (.tmp 20) (.tmp 21) 22 22 (by rfl) i0 Tryd.underlying22 hi0 hz1 (by rfl) (by rfl) HV1.out HK.out H64.out (by decide) ?_; rw [zm, HD.out, keyBlock_short H64.out])
      go_meet
      have hs : w1.heap.size = w.heap.size + 2 := HZ.out
      exact ⟨(setRow_other _ _ _ _ (by omega)).trans HR.out, setRow_heap _ _ _ _ _ _ HK.out, below_setRow HB1.out (by omega) _, by show _ ≤ (w1.setRow _ _).heap.size; simp [World.setRow]; omega⟩
    · have hn64 : (64 : Int) < n := by have := HN.out; omega
      have H64 : Hid (64 < l.length) := by show 64 < l.length; omega
      clear h64
      go_wp2_with fail
      refine (sum_any (HL.out.below HB1.out (Nat.le_refl _)) HV1.out HB.out).mono ?_
      rintro e w2 ⟨rfl, hb2⟩
      obtain ⟨b, hsb⟩ : ∃ b, w2.heap.size = b := ⟨_, rfl⟩
      have HB2 := Lib.hid hb2
      clear hb2
      go_wp2_with (refine wpList_keep_sum hsb (by rfl) _ _ (by rfl) (by rfl) (by rfl) ?_; intro w3 h3 hb3; have H3 := Lib.hid h3; have HB3 := Lib.hid hb3; clear h3 hb3)
      have HSB := Lib.hid hsb
      clear hsb
      have hsz : w1.heap.size = w.heap.size + 2 := HZ.out
      have hs1 := HB2.out.size
      have hs2 := HB3.out.size
      have HK3 : Hid (w3.heap[w.heap.size + 1]? = some (.cells #[.int .u8 0, .int .u8 0, .int .u8 0, .int .u8 0, .int .u8 0, .int .u8 0, .int .u8 0, .int .u8 0, .int .u8 0, .int .u8 0, .int .u8 0, .int .u8 0, .int .u8 0, .int .u8 0, .int .u8 0, .int .u8 0, .int .u8 0, .int .u8 0, .int .u8 0, .int .u8 0, .int .u8 0, .int .u8 0, .int .u8 0, .int .u8 0, .int .u8 0, .int .u8 0, .int .u8 0, .int .u8 0, .int .u8 0, .int .u8 0, .int .u8 0, .int .u8 0, .int .u8 0, .int .u8 0, .int .u8 0, .int .u8 0, .int .u8 0, .int .u8 0, .int .u8 0, .int .u8 0, .int .u8 0, .int .u8 0, .int .u8 0, .int .u8 0, .int .u8 0, .int .u8 0, .int .u8 0, .int .u8 0, .int .u8 0, .int .u8 0, .int .u8 0, .int .u8 0, .int .u8 0, .int .u8 0, .int .u8 0, .int .u8 0, .int .u8 0, .int .u8 0, .int .u8 0, .int .u8 0, .int .u8 0, .int .u8 0, .int .u8 0, .int .u8 0] 82 (0, 0))) := (HB3.out.block _ (by omega)).trans ((HB2.out.block _ (by omega)).trans HK.out)
      have HR3 : Hid (w3.heap[w.heap.size]? = some (.cells #[.int .u8 0, .int .u8 0, .int .u8 0, .int .u8 0, .int .u8 0, .int .u8 0, .int .u8 0, .int .u8 0, .int .u8 0, .int .u8 0, .int .u8 0, .int .u8 0, .int .u8 0, .int .u8 0, .int .u8 0, .int .u8 0, .int .u8 0, .int .u8 0, .int .u8 0, .int .u8 0, .int .u8 0, .int .u8 0, .int .u8 0, .int .u8 0, .int .u8 0, .int .u8 0, .int .u8 0, .int .u8 0, .int .u8 0, .int .u8 0, .int .u8 0, .int .u8 0] 24 (0, 0))) := (HB3.out.block _ (by omega)).trans ((HB2.out.block _ (by omega)).trans HR.out)
      have HBL : Hid (Below w.heap.size w w3) := (HB1.out.trans (HB2.out.mono (by omega))).trans (HB3.out.mono (by omega))
      have HD := Lib.hid (copied 64 (sum l) (by rw [sum_length]; decide))
      have hs3 : w.heap.size + 2 ≤ w3.heap.size := by omega
      have HS3 := Lib.hid hs3
      clear hsz hs1 hs2 hs3
      refine region_tail_drew 2 50 (by kernel_rfl) (by rfl) (by kernel_rfl) (by kernel_rfl) ?_
      simp only [List.take_succ_cons, List.take_zero, List.drop_succ_cons, List.drop_zero]
      show wpQuiet _ _ _ _ _ ⟨_, _⟩
      refine wq_S (Instr.sliceAt 82 (.pointer (some ⟨w.heap.size + 1, 0, none⟩)) none none none) (by rfl) (by rfl) (v := .slice (some ⟨w.heap.size + 1, 0, none⟩) 64 64) (fun w' _ => by go_simp) ?_
      go_simp
      refine wq_S (Instr.sliceAt 24 (.pointer (some ⟨b, 0, none⟩)) none none none) (by rfl) (by rfl) (v := .slice (some ⟨b, 0, none⟩) 32 32) (fun w' _ => by go_simp) ?_
      refine wpQuiet_nil ?_
      intro nq
      refine wpList_copy_bs (by rfl) (.tmp 17) (.tmp 18) 22 22 (by rfl) i0 Tryd.underlying22 hi0 hz1 (by rfl) (by rfl) (bs_row H3.out (sum_length l)) HK3.out (by rw [sum_length]; decide) (by decide) ?_
      rw [zm, HD.out, keyBlock_long H64.out]
      go_wp2
      go_meet
      exact ⟨(setRow_other _ _ _ _ (by omega)).trans HR3.out, setRow_heap _ _ _ _ _ _ HK3.out, below_setRow (by exact ⟨HBL.out.os, HBL.out.tape, HBL.out.output, HBL.out.size, HBL.out.block⟩) (by omega) _, by show _ ≤ ((w3.drewN nq).setRow _ _).heap.size; simp [World.setRow]; exact HS3.out⟩
  case rest =>
    obtain ⟨hr, hk, hb, hz⟩ := hcut
    have HRc : Hid (wc.heap[w.heap.size]? = some (.cells #[.int .u8 0, .int .u8 0, .int .u8 0, .int .u8 0, .int .u8 0, .int .u8 0, .int .u8 0, .int .u8 0, .int .u8 0, .int .u8 0, .int .u8 0, .int .u8 0, .int .u8 0, .int .u8 0, .int .u8 0, .int .u8 0, .int .u8 0, .int .u8 0, .int .u8 0, .int .u8 0, .int .u8 0, .int .u8 0, .int .u8 0, .int .u8 0, .int .u8 0, .int .u8 0, .int .u8 0, .int .u8 0, .int .u8 0, .int .u8 0, .int .u8 0, .int .u8 0] 24 (0, 0))) := hr
    have HBc : Hid (Below w.heap.size w wc) := hb
    have HZc : Hid (w.heap.size + 2 ≤ wc.heap.size) := hz
    have HS0 := Lib.hid (St.start (HL.out.below hb.out (Nat.le_refl _)))
    have HX0 : Hid (Bs (fun k => k < wc.heap.size) wc (.slice A' n' c') m) := (HX.out.keep (S := fun _ => False) (Keep.of_below hb.out (Nat.le_refl _) _) (fun _ _ => id)).mono (fun i hi _ => hi)
    clear HV HX HV1 HB1 HZ HR HK HB HN
    go_wp2_with fail
    refine (st_new HS0.out).mono ?_
    rintro e w2 ⟨a, rfl, -, -, hs⟩
    have HS1 := Lib.hid hs
    clear hs
    go_wp2_with fail
    refine (st_new HS1.out).mono ?_
    rintro e w3 ⟨b, rfl, -, -, hs⟩
    have HS2 := Lib.hid hs
    have hk2 : w3.heap[w.heap.size + 1]? = some (.cells (B8 64 (keyBlock l)) 82 (0, 0)) := (hs.below.block _ (by have := hz.out; omega)).trans hk.out
    have HK2 := Lib.hid hk2
    clear hs HS1 HS0 hk hk2
    go_wp2_with (refine wpList_load_row rfl 82 _ rfl (w.heap.size + 1) rfl 82 _ (0, 0) _ HK2.out Tryd.underlying82 rfl (sz82.trans (by simp [B8])) ?_)
    clear HK2
    have HKL := Lib.hid (keyBlock_length l)
    go_loopw [26] (fun i wr => ∃ (k : Nat) (qa qb : Option Nat), i = .int .i64 k ∧ k ≤ 64 ∧ St wc.heap.size wc wr [(b, qb, xorAll 0x5c ((keyBlock l).take k)), (a, qa, xorAll 0x36 ((keyBlock l).take k))]) (fun i _ => 64 - (intOf i).toNat)
    case atStart => exact ⟨0, none, none, rfl, by omega, HS2.out⟩
    case round =>
      clear HS2
      obtain ⟨k, qa, qb, rfl, hk, hS⟩ := hrel
      have HSr := Lib.hid hS
      clear hS
      by_cases hlt : k < 64
      · have hlt' : (k : Int) < 64 := by omega
        have ix : ∀ w, (Instr.index 82 (.agg (B8 64 (keyBlock l))) (.int .i64 k)).run Tryd.prog w = .ok (.int .u8 (ub (at_ (keyBlock l) k))) w :=
          fun w => run_index_arr (n := 64) (q := .u8) Tryd.underlying82 Tryd.underlying5 (by kernel_rfl) _ _ _ _ (by omega) (by omega) (by rw [Int.toNat_natCast]; exact B8_get _ hlt) w
        have ex1 : bits .xor .u8 (ub (at_ (keyBlock l) k)) 54 = ub (at_ (keyBlock l) k ^^^ 0x36) := ub_xor _ 0x36
        have ex2 : bits .xor .u8 (ub (at_ (keyBlock l) k)) 92 = ub (at_ (keyBlock l) k ^^^ 0x5c) := ub_xor _ 0x5c
        have HIX := Lib.hid (xorAll_snoc 0x36 (keyBlock l) (k := k) (by rw [HKL.out]; exact hlt))
        have HOX := Lib.hid (xorAll_snoc 0x5c (keyBlock l) (k := k) (by rw [HKL.out]; exact hlt))
        have HLT : Hid (((keyBlock l).take k).length ≤ 64) := by show _ ≤ _; rw [List.length_take, HKL.out]; omega
        go_wp2_with fail
        refine (st_write_fresh HSr.out.swap ((Below.refl _ _).alloc (Nat.le_refl _) _) (bs_new wr _) (by rw [xorAll_length]; have := HLT.out; simp only [List.length_cons, List.length_nil]; omega)).mono ?_
        rintro e w4 ⟨rfl, q4, hs⟩
        rw [HIX.out] at hs
        have HS4 := Lib.hid hs
        clear hs HSr
        go_wp2_with fail
        refine (st_write_fresh HS4.out.swap ((Below.refl _ _).alloc (Nat.le_refl _) _) (bs_new w4 _) (by rw [xorAll_length]; have := HLT.out; simp only [List.length_cons, List.length_nil]; omega)).mono ?_
        rintro e w5 ⟨rfl, q5, hs⟩
        rw [HOX.out] at hs
        have HS5 := Lib.hid hs
        clear hs HS4
        go_wp2
        go_roundw
        case measure => simp [intOf]; omega
        exact ⟨k + 1, q4, q5, by go_num, by omega, HS5.out⟩
      · obtain rfl : k = 64 := by omega
        have etake : (keyBlock l).take 64 = keyBlock l := List.take_of_length_le (by rw [HKL.out]; exact Nat.le_refl _)
        rw [etake] at HSr
        clear etake
        go_wp2_with fail
        refine (st_write_old HSr.out.swap HX0.out (by rw [xorAll_length, HKL.out]; have := HM.out; omega)).mono ?_
        rintro e w4 ⟨rfl, q4, hs⟩
        have HS4 := Lib.hid hs
        clear hs HSr
        go_wp2_with fail
        refine (st_sum HS4.out (by rw [List.length_append, xorAll_length, HKL.out]; have := HM.out; omega)).mono ?_
        rintro e w5 ⟨rfl, -, hs⟩
        obtain ⟨d, hsd⟩ : ∃ d, w5.heap.size = d := ⟨_, rfl⟩
        have HS5 := Lib.hid hs
        clear hs HS4
        go_wp2_with (refine wpList_keep_sum hsd (by rfl) _ _ (by rfl) (by rfl) (by rfl) ?_; intro w6 h6 hb6; have H6 := Lib.hid h6; have HB6 := Lib.hid hb6; clear h6 hb6)
        have HSD := Lib.hid hsd
        clear hsd
        go_wp2_with fail
        refine (st_write_fresh HS5.out.swap HB6.out ((bs_row H6.out (sum_length _)).mono (fun i _ e => by have := HSD.out; omega)) (by rw [xorAll_length, HKL.out, sum_length]; omega)).mono ?_
        rintro e w7 ⟨rfl, q7, hs⟩
        have HS7 := Lib.hid hs
        clear hs HS5
        go_wp2_with fail
        refine (st_sum HS7.out (by rw [List.length_append, xorAll_length, HKL.out, sum_length]; omega)).mono ?_
        rintro e w8 ⟨rfl, -, hs⟩
        have HS8 := Lib.hid hs
        have hz : w8.heap[w.heap.size]? = some (.cells #[.int .u8 0, .int .u8 0, .int .u8 0, .int .u8 0, .int .u8 0, .int .u8 0, .int .u8 0, .int .u8 0, .int .u8 0, .int .u8 0, .int .u8 0, .int .u8 0, .int .u8 0, .int .u8 0, .int .u8 0, .int .u8 0, .int .u8 0, .int .u8 0, .int .u8 0, .int .u8 0, .int .u8 0, .int .u8 0, .int .u8 0, .int .u8 0, .int .u8 0, .int .u8 0, .int .u8 0, .int .u8 0, .int .u8 0, .int .u8 0, .int .u8 0, .int .u8 0] 24 (0, 0)) := (hs.below.block _ (by have := HZc.out; omega)).trans HRc.out
        have HBL : Hid (Below w.heap.size w w8) := HBc.out.trans (hs.below.mono HBc.out.size)
        clear hs HS7
        go_wp2_with (refine wpList_store_row (by rfl) 24 _ _ (by rfl) w.heap.size _ (by rfl) (by rfl) 24 _ hz (sz24.trans (by simp [B8])) (by simp [B8]) (vals_one _ _ _) ?_)
        refine bodyPost_ret (results_cell_row rfl _ _ _ 24 (B8 32 (mac l m)) (0, 0) _ rfl (setRow_heap _ _ _ _ _ _ hz) Tryd.underlying24 rfl (sz24.trans (by simp [B8]))) rfl ⟨rfl, below_setRow HBL.out (Nat.le_refl _) _⟩
end Go.Proofs.YtmifegjmmlipbaaDoor
