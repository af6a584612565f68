/-
  The reference's Sum of a text; its condition: not more than 2^46 bytes.
-/
import Derived.Test.YtmifegjmmlipbaaDoorXe
import Derived.Deep.RegionHeldLaw
namespace Go.Proofs.YtmifegjmmlipbaaDoor
open Go.RowKit Go.Rh Sha

/-- The state of the reference's Sum: its bytes, its register's place. -/
structure RefInv (w wr : World) (v : Value) (l : List UInt8) (r : Nat → W) : Prop where
  own : Own wr (w.heap.size + 1) v l
  reg : wr.heap[w.heap.size]? = some (.cells (U32 8 r) 76 (0, 0))
  below : Below w.heap.size w wr
  size : w.heap.size + 1 ≤ wr.heap.size
theorem RefInv.alloc {w wr : World} {v : Value} {l : List UInt8} {r : Nat → W} (h : RefInv w wr v l r) (o : Obj) : RefInv w (wr.alloc o) v l r :=
  ⟨h.own.keep (S := fun _ => False) ((Keep.refl _ _).alloc o) (fun _ _ => id), (heap_old _ _ _ (by have := h.size; omega)).trans h.reg, h.below.alloc (by have := h.size; omega) _, by simp; have := h.size; omega⟩
theorem RefInv.drewN {w wr : World} {v : Value} {l : List UInt8} {r : Nat → W} (h : RefInv w wr v l r) (n : Nat) : RefInv w (wr.drewN n) v l r :=
  ⟨h.own.heap rfl, h.reg, below_drewN h.below n, h.size⟩
theorem RefInv.drew {w wr : World} {v : Value} {l : List UInt8} {r : Nat → W} (h : RefInv w wr v l r) : RefInv w wr.drew v l r := ⟨h.own.heap rfl, h.reg, h.below.drew, h.size⟩
theorem RefInv.append {w wr w' : World} {v v' : Value} {l m : List UInt8} {r : Nat → W} (h : RefInv w wr v l r) (ho : Own w' (w.heap.size + 1) v' m) (k : Keep wr w' (fun k => v.ownBlock = some k)) : RefInv w w' v' m r :=
  ⟨ho, (k.block _ (by have := h.size; omega) (fun e => by have := (h.own.lt _ e).1; omega)).trans h.reg,
    ⟨k.os.trans h.below.os, k.tape.trans h.below.tape, k.output.trans h.below.output, Nat.le_trans h.below.size k.size, fun i hi => (k.block i (by have := h.size; omega) (fun e => by have := (h.own.lt _ e).1; omega)).trans (h.below.block i hi)⟩, Nat.le_trans h.size k.size⟩

theorem RefInv.stored {w wr wb : World} {v : Value} {l : List UInt8} {r : Nat → W} (h : RefInv w wr v l r) (k : wr.grownBy wb none) (r' : Nat → W) : RefInv w (wb.setRow w.heap.size (U32 8 r')) v l r' :=
  have hs := h.size
  have kk : Keep wr (wb.setRow w.heap.size (U32 8 r')) (fun k => k = w.heap.size) := Keep.setRow (S := fun k => k = w.heap.size) (Keep.of_grown k (by simp)) (.inr rfl) _
  have hg := (k.block _ (heap_lt h.reg) (by simp)).trans h.reg
  ⟨h.own.keep kk (fun i hi e => by have := (h.own.lt i hi).1; omega), setRow_heap _ _ _ _ _ _ hg, below_setRow (h.below.trans ⟨k.os, k.tape, k.output, k.size, fun i hi => k.block i (Nat.lt_of_lt_of_le hi h.below.size) (by simp)⟩) (Nat.le_refl _) _, Nat.le_trans hs kk.size⟩
theorem pad_bound3 (l : List UInt8) (z : Nat) (h : z < zeros l.length) (hb : l.length ≤ 70368744177664) : (l ++ 128 :: List.replicate z 0).length + [(0 : UInt8)].length ≤ 140737488355328 := by
  have h1 := zeros_lt l.length
  rw [List.length_append, List.length_cons, List.length_replicate]
  show l.length + (z + 1) + 1 ≤ _
  omega
theorem pad_len4 (l : List UInt8) (i : Nat) (h : i ≤ 8) : ((l ++ 128 :: List.replicate (zeros l.length) 0) ++ (lenBytes l.length).take i).length = l.length + 1 + zeros l.length + i := by
  have h3 : (lenBytes l.length).length = 8 := by simp [lenBytes]
  rw [List.length_append, List.length_append, List.length_cons, List.length_replicate, List.length_take, h3]
  omega
theorem pad_bound4 (l : List UInt8) (i : Nat) (h : i ≤ 8) (b : UInt8) (hb : l.length ≤ 70368744177664) : ((l ++ 128 :: List.replicate (zeros l.length) 0) ++ (lenBytes l.length).take i).length + [b].length ≤ 140737488355328 := by
  have h1 := zeros_lt l.length
  rw [pad_len4 l i h]
  show l.length + 1 + zeros l.length + i + 1 ≤ _
  omega
theorem pad_eq (l : List UInt8) : (l ++ 128 :: List.replicate (zeros l.length) 0) ++ (lenBytes l.length).take 8 = pad l := by
  rw [lenBytes_all, List.append_assoc]; rfl
theorem run_row8 {w : World} {b : Nat} {r : Nat → W} (hg : w.heap[b]? = some (.cells (U32 8 r) 76 (0, 0))) : (Instr.loadAt 76 (.pointer (some ⟨b, 0, none⟩))).run Tryd.prog w = .ok (.agg (U32 8 r)) w := by
  have hr : w.rangeAt b 0 (U32 8 r).toList := fun j x hj => by
    rw [cell_of_row w b (0 + j) _ 76 _ hg, Nat.zero_add]
    simpa using hj
  have := run_loadAt_mid w b 0 76 _ _ hr Tryd.underlying76 rfl (sz76.trans rfl)
  rwa [Array.toArray_toList] at this
theorem block_part (r : Nat → W) (l : List UInt8) (a j : Nat) (ha : a = 64 * j) : block r (at_ ((l.drop a).take (a + 64 - a))) = block r (fun i => at_ l (64 * j + i)) := by
  subst ha
  refine block_congr _ fun i hi => ?_
  unfold at_
  rw [List.getD_eq_getElem?_getD, List.getD_eq_getElem?_getD, List.getElem?_take, if_pos (by omega), List.getElem?_drop]
theorem u8_u (x : W) : IntKind.u8.wrap (u x) = ub (UInt8.ofNat x.toNat) := ub_of x.toNat
/-- A word's four bytes. -/
def four (x : W) : List UInt8 := [UInt8.ofNat (x >>> 24).toNat, UInt8.ofNat (x >>> 16).toNat, UInt8.ofNat (x >>> 8).toNat, UInt8.ofNat x.toNat]
theorem bs_four (w : World) (x : W) : Bs (fun _ => True) (w.alloc (.cells #[.int .u8 (ub (UInt8.ofNat (x >>> 24).toNat)), .int .u8 (ub (UInt8.ofNat (x >>> 16).toNat)), .int .u8 (ub (UInt8.ofNat (x >>> 8).toNat)), .int .u8 (ub (UInt8.ofNat x.toNat))] 5)) (.slice (some ⟨w.heap.size, 0, none⟩) 4 4) (four x) :=
  ⟨_, _, _, rfl, rfl, Nat.le_refl _, fun _ => ⟨_, _, rfl, trivial, fun j hj => by
    rw [cell_of_row _ _ _ _ 5 _ (heap_alloc_new w _), Nat.zero_add]
    match j, hj with
    | 0, _ => rfl
    | 1, _ => rfl
    | 2, _ => rfl
    | 3, _ => rfl⟩⟩
theorem take_bound (l : List UInt8) (k : Nat) (m : List UInt8) (hm : m.length = 4 := by rfl) : ((sum l).take (4 * k)).length + m.length ≤ 140737488355328 := by
  rw [List.length_take, sum_length, hm]; omega
theorem take_four (l : List UInt8) (k : Nat) (hk : k < 8) : (sum l).take (4 * (k + 1)) = (sum l).take (4 * k) ++ four (foldN IV (pad l) ((pad l).length / 64) k) := by
  have hb : ∀ i (hi : i < (sum l).length), (sum l)[i] = UInt8.ofNat ((foldN IV (pad l) ((pad l).length / 64) (i / 4)).toNat / 2 ^ (24 - 8 * (i % 4))) := fun i hi => by
    simp [sum, bytesOf]
  have hl := sum_length l
  rw [show 4 * (k + 1) = 4 * k + 1 + 1 + 1 + 1 by omega, List.take_succ_eq_append_getElem (by omega), List.take_succ_eq_append_getElem (by omega), List.take_succ_eq_append_getElem (by omega), List.take_succ_eq_append_getElem (by omega), hb, hb, hb, hb]
  rw [show 4 * k / 4 = k by omega, show (4 * k + 1) / 4 = k by omega, show (4 * k + 1 + 1) / 4 = k by omega, show (4 * k + 1 + 1 + 1) / 4 = k by omega, show 4 * k % 4 = 0 by omega, show (4 * k + 1) % 4 = 1 by omega, show (4 * k + 1 + 1) % 4 = 2 by omega, show (4 * k + 1 + 1 + 1) % 4 = 3 by omega]
  generalize foldN IV (pad l) ((pad l).length / 64) k = x
  simp [four, BitVec.toNat_ushiftRight, Nat.shiftRight_eq_div_pow]
attribute [local go_sem] u_shr8 u_shr16 u_shr24 u8_u u_byte
theorem iv_lit : U32 8 IV = #[.int .u32 1779033703, .int .u32 3144134277, .int .u32 1013904242, .int .u32 2773480762, .int .u32 1359893119, .int .u32 2600822924, .int .u32 528734635, .int .u32 1541459225] := by kernel_rfl

set_option maxRecDepth 100000 in
set_option maxHeartbeats 0 in
theorem refsum_any (l : List UInt8) (hb : l.length ≤ 70368744177664) (w : World) :
    Calls Tryd.prog 17 #[.string (S8 l)] w fun e w' => e = .returned (.string (S8 (sum l))) ∧ Below w.heap.size w w' := by
  obtain ⟨i0, hi0, hz0, hz1, hz2⟩ := info_parts info5
  obtain ⟨v0, w0, hcv, hown0, hbel0, hob0⟩ := run_bytes_S8 (P := Tryd.prog) Tryd.underlying9 Tryd.underlying22 Tryd.underlying5 l (w.alloc (.cells (U32 8 IV) 76))
  rw [iv_lit] at hcv
  obtain ⟨A0, n0, k0, hn0, rfl⟩ := hown0.form
  have HR0 : Hid (RefInv w w0 (.slice A0 n0 k0) l IV) := by
    have e : (w.alloc (.cells (U32 8 IV) 76)).heap.size = w.heap.size + 1 := by simp
    rw [e] at hown0 hbel0
    exact ⟨hown0, (hbel0.block _ (by omega)).trans (heap_alloc_new w _), ((Below.refl _ w).alloc (Nat.le_refl _) _).trans (hbel0.mono (by omega)), Nat.le_trans (by simp) hbel0.size⟩
  have HB1 : Hid (Bs (fun _ => True) (w0.alloc (.cells #[.int .u8 128] 5)) (.slice (some ⟨w0.heap.size, 0, none⟩) 1 1) [128]) := bs_one w0 128
  have hs8 : (S8 l).size = l.length := S8_size l
  have ew : IntKind.i64.wrap ((l.length : Int) * 8) = (l.length : Int) * 8 := IntWalk.i64_in _ (by omega)
  have HN0 := Lib.hid hn0
  clear hown0 hbel0 hob0 hn0
  go_enter Tryd.func17, Tryd.ntmps17
  go_wp2_with (at_builtin; refine wpList_append_bytes (o := ⟨some 15, _, _, _, _, _⟩) (by rfl) (.tmp 13) (.tmp 14) 22 (by rfl) i0 Tryd.underlying22 hi0 hz0 hz1 hz2 (by rfl) (by rfl) (HR0.out.alloc _).own HB1.out (by show l.length + 1 ≤ _; omega) (HR0.out.alloc _).size ?_; intro v2 w2 own2 keep2 at2; have HS2 : Hid (RefInv w w2 v2 (l ++ [128]) IV) := (HR0.out.alloc _).append own2 keep2; obtain ⟨A2, n2, k2, hn2, rfl⟩ := HS2.out.own.form; have HN2 := Lib.hid hn2; clear own2 keep2 at2 hn2 HR0 HB1)
  go_loopg [4] (zeros l.length) (fun k p wr => ∃ (z : Nat) (A : Option Addr) (n c : Nat), z + k = zeros l.length ∧ p = .slice A n c ∧ n = l.length + 1 + z ∧ RefInv w wr (.slice A n c) (l ++ 128 :: List.replicate z 0) IV)
  case atStart => exact ⟨0, A2, n2, k2, Nat.zero_add _, rfl, by rw [HN2.out, List.length_append]; rfl, HS2.out⟩
  case round =>
    clear HS2 HN2 hcv
    obtain ⟨z, A, n, c, hz, rfl, hn, hS⟩ := hrel
    have hzl := zeros_lt l.length
    have hn0 : (n : Int) ≤ 70368744177864 := by omega
    by_cases hk : z < zeros l.length
    · have e56' : ¬ (n : Int) % 64 = 56 := by have := zeros_yet _ _ hk; omega
      have e56 : ((n : Int) % 64 != 56) = true := by simpa using e56'
      clear e56'
      have HN := Lib.hid hn
      have HZ := Lib.hid hz
      have HS := Lib.hid hS
      have HB : Hid (Bs (fun _ => True) (wr.alloc (.cells #[.int .u8 0] 5)) (.slice (some ⟨wr.heap.size, 0, none⟩) 1 1) [0]) := bs_zero wr
      have hgk : 1 ≤ gk := by omega
      have HBD := Lib.hid (pad_bound3 l z hk hb)
      clear hn hz hS
      go_wp2_with (at_builtin; refine wpList_append_bytes (o := ⟨some 22, _, _, _, _, _⟩) (by rfl) (.tmp 20) (.tmp 21) 22 (by rfl) i0 Tryd.underlying22 hi0 hz0 hz1 hz2 (by rfl) (by rfl) (HS.out.alloc _).own HB.out HBD.out (HS.out.alloc _).size ?_; intro v3 w3 own3 keep3 at3; have HS3 : Hid (RefInv w w3 v3 (l ++ 128 :: List.replicate (z + 1) 0) IV) := (rep_snoc z l) ▸ (HS.out.alloc _).append own3 keep3; obtain ⟨A3, n3, c3, hn3, rfl⟩ := HS3.out.own.form; have HN3 := Lib.hid hn3; clear own3 keep3 at3 hn3)
      go_roundg (gk - 1)
      case measure => omega
      case rel => exact ⟨z + 1, A3, n3, c3, by have := HZ.out; omega, rfl, by rw [HN3.out, List.length_append, List.length_cons, List.length_replicate]; omega, HS3.out⟩
    · obtain rfl : z = zeros l.length := by omega
      have e56 : (n : Int) % 64 = 56 := by have := zeros_end l.length; omega
      have HN := Lib.hid hn
      have HS := Lib.hid hS
      clear hn hz hS hk
      go_wp2
      go_loopw [4, 6] (fun p s wr => ∃ (i : Nat) (A : Option Addr) (n c : Nat) (y : Int), i ≤ 8 ∧ y + (i : Int) = 7 ∧ s = .int .i64 y ∧ p = .slice A n c ∧ n = l.length + 1 + zeros l.length + i ∧ RefInv w wr (.slice A n c) ((l ++ 128 :: List.replicate (zeros l.length) 0) ++ (lenBytes l.length).take i) IV) (fun _ s _ => (intOf s + 1).toNat)
      case atStart => exact ⟨0, A, n, c, 7, by omega, by omega, rfl, rfl, by rw [HN.out]; rfl, by rw [List.take_zero, List.append_nil]; exact HS.out⟩
      case round =>
        clear HS HN e56 hn0
        obtain ⟨i, A', n', c', y, hi8, hy, rfl, rfl, hn', hS⟩ := hrel
        by_cases hlt : i < 8
        · obtain ⟨m, rfl⟩ : ∃ m : Nat, y = m := ⟨y.toNat, by omega⟩
          have em : 8 * m = 56 - 8 * i := by omega
          have hm : (m : Int) ≤ 7 := by omega
          have e8 : IntKind.i64.wrap (8 * (m : Int)) = 8 * (m : Int) := IntWalk.i64_in _ (by omega)
          have t8 : (8 * (m : Int)).toNat = 8 * m := by omega
          have b8 : (0 : Int) ≤ 8 * (m : Int) := by omega
          have c8 : 8 * (m : Int) ≤ 56 := by omega
          have ev := byte_of l.length (8 * m)
          have HS := Lib.hid hS
          have HN' := Lib.hid hn'
          have HB := Lib.hid (bs_one wr (UInt8.ofNat (l.length * 8 / 2 ^ (8 * m))))
          have HEM := Lib.hid em
          have HY := Lib.hid hy
          have HBD := Lib.hid (pad_bound4 l i hi8 (UInt8.ofNat (l.length * 8 / 2 ^ (8 * m))) hb)
          clear hS hn' em hy
          go_wp2_with (at_builtin; refine wpList_append_bytes (o := ⟨some 37, _, _, _, _, _⟩) (by rfl) (.tmp 30) (.tmp 36) 22 (by rfl) i0 Tryd.underlying22 hi0 hz0 hz1 hz2 (by rfl) (by rfl) (HS.out.alloc _).own HB.out HBD.out (HS.out.alloc _).size ?_; intro v3 w3 own3 keep3 at3; have HS3 : Hid (RefInv w w3 v3 ((l ++ 128 :: List.replicate (zeros l.length) 0) ++ (lenBytes l.length).take (i + 1)) IV) := (by have h3 := (HS.out.alloc _).append own3 keep3; rw [lenBytes_get l.length i hlt, ← List.append_assoc, ← HEM.out]; exact h3); obtain ⟨A3, n3, c3, hn3, rfl⟩ := HS3.out.own.form; have HN3 := Lib.hid hn3; clear own3 keep3 at3 hn3)
          go_roundw
          case measure => simp [intOf]
          case rel => exact ⟨i + 1, A3, n3, c3, (m : Int) - 1, by omega, by have := HY.out; omega, rfl, rfl, by rw [HN3.out, pad_len4 l (i + 1) (by omega)], HS3.out⟩
        · obtain rfl : i = 8 := by omega
          have hS' : RefInv w wr (.slice A' n' c') (pad l) IV := by rw [← pad_eq]; exact hS
          have hnP : n' = (pad l).length := by rw [hn', pad_length]
          have hy8 : y < 0 := by omega
          have HS := Lib.hid hS'
          have HNP := Lib.hid hnP
          have hnb : n' ≤ 70368744178000 := by omega
          clear hS hS' hnP hn' hy hlt hi8
          go_wp2
          go_loopw [7] (fun s wr => ∃ (j a : Nat), j ≤ (pad l).length / 64 ∧ a = 64 * j ∧ s = .int .i64 (a : Int) ∧ RefInv w wr (.slice A' n' c') (pad l) (foldN IV (pad l) j)) (fun s _ => n' - (intOf s).toNat)
          case atStart => exact ⟨0, 0, by omega, rfl, rfl, HS.out⟩
          case round =>
            clear HS
            obtain ⟨j, a, hj, ha, rfl, hS⟩ := hrel
            have hPm := pad_mod l
            have hNP := HNP.out
            by_cases hlt : a < n'
            · have ha64 : a + 64 ≤ n' := by omega
              obtain ⟨v9, hpart, hbs9⟩ := run_part (P := Tryd.prog) 22 i0 Tryd.underlying22 hi0 hz1 hS.own.bs a (a + 64) (by omega) (by omega)
              have hpart' : ∀ W : World, (Instr.sliceAt 22 (.slice A' n' c') (some (.int .i64 (a : Int))) (some (.int .i64 ((a : Int) + 64))) none).run Tryd.prog W = .ok v9 W := by simpa using hpart
              have hl9 : 64 ≤ (((pad l).drop a).take (a + 64 - a)).length := by rw [List.length_take, List.length_drop]; omega
              have HP := Lib.hid hpart'
              have HA := Lib.hid ha
              have HJ := Lib.hid hj
              have HS := Lib.hid hS
              have HB9 := Lib.hid hbs9
              have e64 : IntKind.i64.wrap ((a : Int) + 64) = (a : Int) + 64 := IntWalk.i64_in _ (by omega)
              have hnext : j + 1 ≤ (pad l).length / 64 := by omega
              have HNX := Lib.hid hnext
              clear hpart hpart' ha hj hS hbs9 hPm hNP hnext
              go_wp2
              refine region_tail_grown 8 80 (by kernel_rfl) (by rfl) (by kernel_rfl) (by kernel_rfl) ?_
              simp only [List.take_succ_cons, List.take_zero, List.drop_succ_cons, List.drop_zero]
              refine wq_load (by rfl) 76 (.tmp 3) (by rfl) (.pointer (some ⟨w.heap.size, 0, none⟩)) (by rfl) (fun w' hw' => run_row8 ((hw'.block _ (heap_lt HS.out.reg) (by simp)).trans HS.out.reg)) ?_
              go_simp
              (repeat (go_big_quiet_step (fail)))
              refine wq_run (v := .int .i64 ((a : Int) + 64)) (by rfl) (fun w' _ => by unfold execOp; simp only [Act.eval]; go_simp) ?_
              go_simp
              refine wq_S (Instr.sliceAt 22 (.slice A' n' c') (some (.int .i64 (a : Int))) (some (.int .i64 ((a : Int) + 64))) none) (by rfl) (by rfl) (fun w' _ => HP.out w') ?_
              go_simp
              refine wq_convert (u := v9) (by rfl) 22 9 (.tmp 49) (by rfl) (by rfl) (fun w' hw' => run_string_bs Tryd.underlying22 Tryd.underlying5 Tryd.underlying9 (HB9.out.keep (S := fun _ => False) (Keep.of_grown hw' (by simp)) (fun _ _ => id))) ?_
              go_simp
              refine wq_call (vs := #[.agg (U32 8 (foldN IV (pad l) j)), .string (S8 (((pad l).drop a).take (a + 64 - a)))]) (by rfl) (by rfl) (by simp [Act.eval]) Tryd.func48 (by kernel_rfl) (by rfl) (v := .agg (U32 8 (foldN IV (pad l) (j + 1)))) (fun w' hw' => ?_) ?_
              · refine (block_any _ (((pad l).drop a).take (a + 64 - a)) hl9 w').mono ?_
                rintro e w'' ⟨rfl, hb'⟩
                exact ⟨by rw [block_part _ _ _ _ HA.out]; rfl, grown_trans hw' (grown_below none hb' (Nat.le_refl _))⟩
              go_simp
              refine wpQuiet_nil ?_
              intro wb hwb
              have hRb : wb.heap[w.heap.size]? = some (.cells (U32 8 (foldN IV (pad l) j)) 76 (0, 0)) := (hwb.block _ (heap_lt HS.out.reg) (by simp)).trans HS.out.reg
              have HS9 := Lib.hid (HS.out.stored hwb (foldN IV (pad l) (j + 1)))
              go_wp2_with (refine wpList_store_row (by rfl) 76 _ _ (by rfl) w.heap.size _ (by rfl) (by rfl) 76 _ hRb (sz76.trans (by simp [U32])) (by simp [U32]) (vals_one _ _ _) ?_)
              go_roundw
              case measure => simp [intOf]; omega
              case rel => exact ⟨j + 1, a + 64, HNX.out, by have := HA.out; omega, by go_num, HS9.out⟩
            · have ej : j = (pad l).length / 64 := by omega
              have hS' : RefInv w wr (.slice A' n' c') (pad l) (foldN IV (pad l) ((pad l).length / 64)) := by rw [← ej]; exact hS
              have HS := Lib.hid hS'
              clear hj ha hS hS' hPm ej hNP
              go_wp2
              go_loopw [8, 9] (fun p s wr => ∃ (k : Nat) (A : Option Addr) (n c : Nat), k ≤ 8 ∧ s = .int .i64 (k : Int) ∧ p = .slice A n c ∧ RefInv w wr (.slice A n c) ((sum l).take (4 * k)) (foldN IV (pad l) ((pad l).length / 64))) (fun _ s _ => 8 - (intOf s).toNat)
              case atStart => exact ⟨0, none, 0, 0, by omega, rfl, rfl, .inl ⟨rfl, rfl⟩, HS.out.reg, HS.out.below, HS.out.size⟩
              case round =>
                clear HS
                obtain ⟨k, A4, n4, c4, hk8, rfl, rfl, hS⟩ := hrel
                by_cases hlt : k < 8
                · have cr : wr.cell? ⟨w.heap.size, k, none⟩ = some (.int .u32 (u (foldN IV (pad l) ((pad l).length / 64) k))) := cell_vals hS.reg hlt
                  have kk : (k : Int) < 8 := by omega
                  have HS := Lib.hid hS
                  have HBD := Lib.hid (take_bound l k (four (foldN IV (pad l) ((pad l).length / 64) k)))
                  clear hS
                  go_wp2
                  have HB := Lib.hid (bs_four wr.drew (foldN IV (pad l) ((pad l).length / 64) k))
                  go_region_held_law (fun w' => w'.cell? ⟨w.heap.size, k, none⟩ = some (.int .u32 (u (foldN IV (pad l) ((pad l).length / 64) k)))) (first | go_keep | exact cell_vals ((HS.out.drew.alloc _).append own3 keep3).reg hlt) ((refine step_append_bytes (o := ⟨some 77, _, _, _, _, _⟩) (by rfl) (.tmp 56) (.tmp 76) 22 (by rfl) i0 Tryd.underlying22 hi0 hz0 hz1 hz2 (by rfl) (by rfl) (HS.out.drew.alloc _).own HB.out HBD.out (HS.out.drew.alloc _).size ?_; intro v3 w3 own3 keep3 at3))
                  have HS3 : Hid (RefInv w w3 v3 ((sum l).take (4 * (k + 1))) (foldN IV (pad l) ((pad l).length / 64))) := (by have h3 := (HS.out.drew.alloc _).append own3 keep3; rw [take_four l k hlt]; exact h3)
                  obtain ⟨A3, n3, c3, hn3, rfl⟩ := HS3.out.own.form
                  clear own3 keep3 at3 hn3
                  go_wp2
                  go_roundw
                  case measure => simp [intOf]; omega
                  case rel => exact ⟨k + 1, A3, n3, c3, by omega, by go_num, rfl, HS3.out⟩
                · obtain rfl : k = 8 := by omega
                  have hcv : ∀ W : World, W = wr → (convert 22 9 (.slice A4 n4 c4)).run Tryd.prog W = .ok (.string (S8 (sum l))) W := fun W e => by
                    subst e
                    have h := run_string_bs (P := Tryd.prog) Tryd.underlying22 Tryd.underlying5 Tryd.underlying9 hS.own.bs
                    rwa [List.take_of_length_le (by rw [sum_length]; decide)] at h
                  have hcv' := hcv wr rfl
                  have HBL := Lib.hid hS.below
                  clear hcv hS
                  go_wp2
                  go_ret
                  exact ⟨rfl, HBL.out⟩
end Go.Proofs.YtmifegjmmlipbaaDoor
