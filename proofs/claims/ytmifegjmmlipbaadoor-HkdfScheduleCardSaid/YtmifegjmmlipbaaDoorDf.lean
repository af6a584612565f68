/-
  Label of HKDF: plain; the program's.
-/
import Derived.Test.YtmifegjmmlipbaaDoorDc
namespace Sha
def infoOf (lab ctx : List UInt8) (n : Nat) : List UInt8 :=
  [UInt8.ofNat (n / 256), UInt8.ofNat n, UInt8.ofNat (6 + lab.length)] ++ [116, 108, 115, 49, 51, 32] ++ lab ++ [UInt8.ofNat ctx.length] ++ ctx
theorem infoOf_length (lab ctx : List UInt8) (n : Nat) : (infoOf lab ctx n).length = 10 + lab.length + ctx.length := by
  simp [infoOf]; omega
def labR (sec lab ctx : List UInt8) (k : Int) : List UInt8 := if (0 ≤ k ∧ k ≤ 8160) ∧ lab.length ≤ 249 ∧ ctx.length ≤ 255 then expand sec (infoOf lab ctx k.toNat) k.toNat else []
def labE (lab ctx : List UInt8) (k : Int) : Int := if 0 ≤ k ∧ k ≤ 8160 then if lab.length ≤ 249 ∧ ctx.length ≤ 255 then 0 else 5 else 1
theorem labR_length (sec lab ctx : List UInt8) (k : Int) : (labR sec lab ctx k).length ≤ 8160 := by
  unfold labR
  split
  · rw [expand_length]; omega
  · simp
end Sha
namespace Go.Proofs.YtmifegjmmlipbaaDoor
open Go.RowKit Go.Rh Sha

theorem wpList_appS {wb w : World} {v : Value} {l m : List UInt8} {ops : Array Oper} {rest : List Oper} {o : Oper} {a : Act} {Q : Exit → Act → World → Prop} (hw : Region.wanted o (yielded ops a.tmps) = true) (s y : Operand)
    (ho : o.op = .call { callee := .builtin .append, args := #[s, y], argTypes := #[22, 9] }) (hs : a.eval s = v) (hy : a.eval y = .string (S8 m)) (hown : Ch wb w v l) (hbound : l.length + m.length ≤ 140737488355328)
    (h : ∀ A n c w', n = (l ++ m).length → Ch wb w' (.slice A n c) (l ++ m) → wpList Tryd.prog ops Q rest (a.put o.dst (.slice A n c)) w') : wpList Tryd.prog ops Q (o :: rest) a w := by
  obtain ⟨i0, hi0, hz0, hz1, hz2⟩ := info_parts info5
  refine wpList_append_S8 hw s y 22 9 ho i0 Tryd.underlying22 Tryd.underlying9 hi0 hz0 hz1 hz2 hs hy hown.own hbound hown.below.size fun v' w' h1 h2 _ => ?_
  obtain ⟨A, n, c, hn, rfl⟩ := h1.form
  exact h A n c w' hn (hown.next h1 h2)
theorem ch_three (w : World) (x y z : UInt8) : Ch w (w.alloc (.cells #[.int .u8 (ub x), .int .u8 (ub y), .int .u8 (ub z)] 5)) (.slice (some ⟨w.heap.size, 0, none⟩) 3 3) [x, y, z] :=
  ⟨(Below.refl _ _).alloc (Nat.le_refl _) _, Own.of_block (l := [x, y, z]) (heap_alloc_new w _) (.inl rfl) (Nat.le_refl _) (Nat.le_refl _) (Nat.le_refl _) (fun j hj => by
    match j, hj with
    | 0, _ => rfl
    | 1, _ => rfl
    | 2, _ => rfl)⟩
theorem ofNat_ub {n : Nat} (h : n < 256) : (n : Int) = ub (UInt8.ofNat n) := by unfold ub; rw [UInt8.toNat_ofNat']; omega
set_option maxRecDepth 100000 in
theorem label_bad {w : World} {v x y : Value} {k : Int} (hk : k < 0 ∨ 8160 < k) :
    Calls Tryd.prog 30 #[v, y, x, .int .i64 k] w fun e w' => e = .returned (.tuple #[.slice none 0 0, .int .i64 1]) ∧ w' = w := by
  rcases hk with hk | hk
  · go_enter Tryd.func30, Tryd.ntmps30
    go_wp2
    go_ret2
    exact ⟨rfl, rfl⟩
  · have hk0 : 0 ≤ k := by omega
    go_enter Tryd.func30, Tryd.ntmps30
    go_wp2
    go_ret2
    exact ⟨rfl, rfl⟩
set_option maxRecDepth 100000 in
theorem label_long {w : World} {ok : Nat → Prop} {v x : Value} {lab c : List UInt8} {k : Int} (hx : Bs ok w x c) (hk : 0 ≤ k ∧ k ≤ 8160) (hl : ¬ (lab.length ≤ 249 ∧ c.length ≤ 255)) :
    Calls Tryd.prog 30 #[v, .string (S8 lab), x, .int .i64 k] w fun e w' => e = .returned (.tuple #[.slice none 0 0, .int .i64 5]) ∧ w' = w := by
  obtain ⟨A, n, c, rfl, hn, hc, hbk⟩ := hx
  obtain ⟨hk0, hk1⟩ := hk
  have hs : (S8 lab).size = lab.length := S8_size lab
  by_cases h1 : (lab.length : Int) ≤ 249
  · have h2 : (255 : Int) < n := by omega
    clear hn hc hbk hl
    go_enter Tryd.func30, Tryd.ntmps30
    go_wp2
    go_ret2
    exact ⟨rfl, rfl⟩
  · have h2 : (249 : Int) < lab.length := by omega
    clear hn hc hbk hl h1
    go_enter Tryd.func30, Tryd.ntmps30
    go_wp2
    go_ret2
    exact ⟨rfl, rfl⟩
set_option maxRecDepth 100000 in
set_option maxHeartbeats 0 in
theorem label_ok {w : World} {ok ok' : Nat → Prop} {v x : Value} {l lab m : List UInt8} {N : Nat} (hL : Laid w) (hv : Bs ok w v l) (hx : Bs ok' w x m) (hb : l.length ≤ 70368744177664) (h1 : lab.length ≤ 249) (h2 : m.length ≤ 255) (hN : (N : Int) ≤ 8160) :
    Calls Tryd.prog 30 #[v, .string (S8 lab), x, .int .i64 N] w fun e w' => ∃ A n c, e = .returned (.tuple #[.slice A n c, .int .i64 0]) ∧ n = N ∧ Own w' w.heap.size (.slice A n c) (expand l (infoOf lab m N) N) ∧ Below w.heap.size w w' := by
  obtain ⟨i0, hi0, hz0, hz1, hz2⟩ := info_parts info5
  have HV : Hid (Bs (fun k => k < w.heap.size) w v l) := hv.mono (fun i hi _ => hi)
  have HX : Hid (Bs (fun k => k < w.heap.size) w x m) := hx.mono (fun i hi _ => hi)
  obtain ⟨A, n, c, rfl, hn, hc, hbk⟩ := hv
  obtain ⟨A', n', c', rfl, hn', hc', hbk'⟩ := hx
  have hs : (S8 lab).size = lab.length := S8_size lab
  have hnI : (n' : Int) ≤ 255 := by omega
  have HN' := Lib.hid hn'
  have hlab : (lab.length : Int) ≤ 249 := by omega
  have HB : Hid (l.length ≤ 70368744177664 ∧ lab.length ≤ 249 ∧ m.length ≤ 255) := ⟨hb, h1, h2⟩
  have HL := Lib.hid hL
  clear hn hn' hc hbk hc' hbk' hb h1 h2 hL
  go_enter Tryd.func30, Tryd.ntmps30
  have e1 : (N : Int) / 256 = ub (UInt8.ofNat (N / 256)) := by rw [← ofNat_ub (by omega)]; omega
  have e2 : (N : Int) % 256 = ub (UInt8.ofNat N) := by unfold ub; rw [UInt8.toNat_ofNat']; omega
  have e3 : 6 + (lab.length : Int) = ub (UInt8.ofNat (6 + lab.length)) := by rw [← ofNat_ub (by omega)]; omega
  have e4 : (n' : Int) = ub (UInt8.ofNat m.length) := by rw [← ofNat_ub (by have := HB.out; omega), HN'.out]
  obtain ⟨wa, hwa⟩ : ∃ wa, wa = w.alloc (.cells #[.int .u8 ((N : Int) / 256), .int .u8 ((N : Int) % 256), .int .u8 (6 + (lab.length : Int))] 5) := ⟨_, rfl⟩
  have HC0 : Hid (Ch w wa (.slice (some ⟨w.heap.size, 0, none⟩) 3 3) [UInt8.ofNat (N / 256), UInt8.ofNat N, UInt8.ofNat (6 + lab.length)]) := by rw [hwa, e1, e2, e3]; exact ch_three w _ _ _
  have HD : Hid (∀ W : World, Bs (fun _ => True) (W.alloc (.cells #[.int .u8 (n' : Int)] 5)) (.slice (some ⟨W.heap.size, 0, none⟩) 1 1) [UInt8.ofNat m.length]) := fun W => by rw [e4]; exact (bs_new W _).mono (fun _ _ _ => trivial)
  have HWA := Lib.hid hwa
  clear hwa e1 e2 e3 e4
  go_wp2_with (first
    | (at_builtin; rw [← HWA.out]; refine wpList_appS (o := ⟨some 37, _, _, _, _, _⟩) (m := [116, 108, 115, 49, 51, 32]) (by rfl) (.tmp 36) _ (by rfl) (by rfl) (by rfl) HC0.out (by simp) ?_; intro A1 n1 c1 w1 hn1 hc1; have HC1 := Lib.hid hc1; clear hc1 hn1)
    | (at_builtin; refine wpList_appS (o := ⟨some 40, _, _, _, _, _⟩) (by rfl) (.tmp 38) (.tmp 39) (by rfl) (by rfl) (by rfl) HC1.out (by have := HB.out; simp; omega) ?_; intro A2 n2 c2 w2 hn2 hc2; have HC2 := Lib.hid hc2; clear hc2 hn2)
    | (at_builtin; refine wpList_app (o := ⟨some 45, _, _, _, _, _⟩) (by rfl) (.tmp 40) (.tmp 44) (by rfl) (by rfl) (by rfl) (HC2.out.alloc _) (HD.out _) (by have := HB.out; simp; omega) ?_; intro A3 n3 c3 w3 hn3 hc3 hk3; have HC3 := Lib.hid hc3; clear hc3 hn3 hk3)
    | (at_builtin; refine wpList_app (o := ⟨some 49, _, _, _, _, _⟩) (by rfl) (.tmp 47) (.tmp 48) (by rfl) (by rfl) (by rfl) HC3.out (HC3.out.old HX.out) (by have := HB.out; simp; omega) ?_; intro A4 n4 c4 w4 hn4 hc4 hk4; have HC4 := Lib.hid hc4; clear hc4 hn4 hk4))
  have HIN : Hid ([UInt8.ofNat (N / 256), UInt8.ofNat N, UInt8.ofNat (6 + lab.length)] ++ [116, 108, 115, 49, 51, 32] ++ lab ++ [UInt8.ofNat m.length] ++ m = infoOf lab m N) := rfl
  have HC5 : Hid (Ch w w4 (.slice A4 n4 c4) (infoOf lab m N)) := by rw [← HIN.out]; exact HC4.out
  have HV4 : Hid (Bs (fun k => k < w.heap.size) w4 (.slice A n c) l) := HC4.out.old HV.out
  clear HC0 HC1 HC2 HC3 HC4 HIN HWA HD
  refine (expand_any (HL.out.below HC5.out.below (Nat.le_refl _)) HV4.out HC5.out.bs HB.out.1 (by rw [infoOf_length]; have := HB.out; omega) hN).mono ?_
  rintro e w5 ⟨A5, n5, c5, rfl, hn5, ho5, hb5⟩
  have HO5 : Hid (Own w5 w.heap.size (.slice A5 n5 c5) (expand l (infoOf lab m N) N)) := ho5.mono (fun k hk => Nat.le_trans HC5.out.below.size (ho5.lt k hk).1)
  have HB5 : Hid (Below w.heap.size w w5) := HC5.out.below.trans (hb5.mono HC5.out.below.size)
  have HN5 := Lib.hid hn5
  clear hn5 ho5 hb5 HC5 HV4
  go_wp2
  go_ret2
  exact ⟨A5, n5, c5, rfl, HN5.out, HO5.out, HB5.out⟩
theorem label_g {B : Nat} {w0 w : World} {xs : List (Nat × Option Nat × List UInt8)} {ok ok' : Nat → Prop} {v x : Value} {l lab m : List UInt8} {k : Int} (H : St B w0 w xs) (hv : Bs ok w v l) (hx : Bs ok' w x m) (hb : l.length ≤ 70368744177664) :
    Calls Tryd.prog 30 #[v, .string (S8 lab), x, .int .i64 k] w fun e w' => ∃ A n c, e = .returned (.tuple #[.slice A n c, .int .i64 (labE lab m k)]) ∧ n = (labR l lab m k).length ∧ Own w' w.heap.size (.slice A n c) (labR l lab m k) ∧ Below w.heap.size w w' ∧ St B w0 w' xs := by
  unfold labR labE
  by_cases h : 0 ≤ k ∧ k ≤ 8160
  · by_cases h2 : lab.length ≤ 249 ∧ m.length ≤ 255
    · have hR : (0 ≤ k ∧ k ≤ 8160) ∧ lab.length ≤ 249 ∧ m.length ≤ 255 := ⟨h, h2⟩
      rw [if_pos h, if_pos h2, if_pos hR]
      obtain ⟨N, rfl⟩ : ∃ N : Nat, k = N := ⟨k.toNat, by omega⟩
      refine (label_ok H.laid hv hx hb h2.1 h2.2 (by omega)).mono ?_
      rintro e w' ⟨A, n, c, rfl, rfl, h1, h2⟩
      exact ⟨A, n, c, rfl, by rw [expand_length]; rfl, h1, h2, H.step h2⟩
    · have hR : ¬ ((0 ≤ k ∧ k ≤ 8160) ∧ lab.length ≤ 249 ∧ m.length ≤ 255) := fun e => h2 e.2
      rw [if_pos h, if_neg h2, if_neg hR]
      refine (label_long hx h h2).mono ?_
      rintro e w' ⟨rfl, rfl⟩
      exact ⟨none, 0, 0, rfl, rfl, .inl ⟨rfl, rfl⟩, Below.refl _ _, H⟩
  · have hR : ¬ ((0 ≤ k ∧ k ≤ 8160) ∧ lab.length ≤ 249 ∧ m.length ≤ 255) := fun e => h e.1
    rw [if_neg h, if_neg hR]
    refine (label_bad (by omega)).mono ?_
    rintro e w' ⟨rfl, rfl⟩
    exact ⟨none, 0, 0, rfl, rfl, .inl ⟨rfl, rfl⟩, Below.refl _ _, H⟩
end Go.Proofs.YtmifegjmmlipbaaDoor
