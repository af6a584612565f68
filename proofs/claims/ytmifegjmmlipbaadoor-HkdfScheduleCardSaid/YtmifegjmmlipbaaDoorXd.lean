/-
  The program's Sum of what was written; its condition: not more than 2^46 bytes.
-/
import Derived.Test.YtmifegjmmlipbaaDoorXc
namespace Go.Proofs.YtmifegjmmlipbaaDoor
open Go.RowKit Go.Rh Sha

theorem sz24 : (Tryd.prog.info? 24).map (·.size) = some 32 := by kernel_rfl
def Z32 : Array Value := vals .u8 32 fun _ => 0
/-- The state of Sum: its bytes, its result's place. -/
structure SumInv (w wr : World) (v : Value) (l : List UInt8) : Prop where
  own : Own wr (w.heap.size + 1) v l
  out : wr.heap[w.heap.size]? = some (.cells Z32 24 (0, 0))
  below : Below w.heap.size w wr
  size : w.heap.size + 1 ≤ wr.heap.size
theorem SumInv.alloc {w wr : World} {v : Value} {l : List UInt8} (h : SumInv w wr v l) (o : Obj) : SumInv w (wr.alloc o) v l :=
  ⟨h.own.keep (S := fun _ => False) ((Keep.refl _ _).alloc o) (fun _ _ => id), (heap_old _ _ _ (by have := h.size; omega)).trans h.out, h.below.alloc (by have := h.size; omega) _, by simp; have := h.size; omega⟩
theorem SumInv.append {w wr w' : World} {v v' : Value} {l m : List UInt8} (h : SumInv w wr v l) (ho : Own w' (w.heap.size + 1) v' m) (k : Keep wr w' (fun k => v.ownBlock = some k)) : SumInv w w' v' m :=
  ⟨ho, (k.block _ (by have := h.size; omega) (fun e => by have := (h.own.lt _ e).1; omega)).trans h.out,
    ⟨k.os.trans h.below.os, k.tape.trans h.below.tape, k.output.trans h.below.output, Nat.le_trans h.below.size k.size, fun i hi => (k.block i (by have := h.size; omega) (fun e => by have := (h.own.lt _ e).1; omega)).trans (h.below.block i hi)⟩, Nat.le_trans h.size k.size⟩
theorem SumInv.row {w wr : World} {v : Value} {l : List UInt8} (h : SumInv w wr v l) {b : Nat} (hb : wr.heap.size = b) (z : Array Value) (t : TypeId) (cs : Array Value) : SumInv w ((wr.alloc (.cells z t)).setRow b cs) v l :=
  have hs := h.size
  ⟨h.own.keep (S := fun _ => False) (Keep.setRow ((Keep.refl _ _).alloc _) (.inl (by omega)) _) (fun _ _ => id), (setRow_other _ _ _ _ (by omega)).trans ((heap_old _ _ _ (by omega)).trans h.out), below_setRow (h.below.alloc (by omega) _) (by omega) _, by simp [World.setRow]; omega⟩
theorem SumInv.mixed {w wr w6 : World} {v v' : Value} {l l' : List UInt8} (h : SumInv w wr v l) (hb : Below wr.heap.size wr w6) {b : Nat} {cs : Array Value} (hR : wr.heap[b]? = some (.cells cs 76 (0, 0))) (hbB : w.heap.size + 1 ≤ b) (ho : Own wr (w.heap.size + 1) v' l') (hob : v'.ownBlock = v.ownBlock) (ds : Array Value) : SumInv w (w6.setRow b ds) v' l' :=
  have hs := h.size
  have k : Keep wr (w6.setRow b ds) (fun k => k = b) := Keep.setRow (S := fun k => k = b) (Keep.of_below hb (Nat.le_refl _) _) (.inr rfl) _
  ⟨ho.keep k (fun i hi e => by subst e; obtain ⟨cs, fr, hc⟩ := own_ty ho hi; exact ne_ty hc hR (by decide) rfl), (k.block _ (by omega) (by omega)).trans h.out, below_setRow (h.below.trans (hb.mono h.below.size)) (by omega) _, Nat.le_trans hs k.size⟩
theorem sum_byte (l : List UInt8) (k : Nat) (hk : k < 32) : ub (UInt8.ofNat ((foldN (reg l) (restOf l ++ tailOf l.length) ((restOf l ++ tailOf l.length).length / 64) (k / 4)).toNat / 2 ^ (24 - 8 * (k % 4)))) = ub (at_ (sum l) k) := by
  rw [sum_of_reg, at_get (by rw [bytesOf_length]; exact hk)]
  simp [bytesOf]
theorem sum_byte' (l : List UInt8) (k m : Nat) (hk : k < 32) (hm : m = 24 - 8 * (k % 4)) : u (foldN (reg l) (restOf l ++ tailOf l.length) ((restOf l ++ tailOf l.length).length / 64) (k / 4)) / 2 ^ m % 256 = ub (at_ (sum l) k) := by
  rw [← sum_byte l k hk, ← hm]
  generalize foldN (reg l) (restOf l ++ tailOf l.length) ((restOf l ++ tailOf l.length).length / 64) (k / 4) = x
  have e : u x / 2 ^ m = ((x.toNat / 2 ^ m : Nat) : Int) := by unfold u; simp
  rw [e]
  have h := ub_of (x.toNat / 2 ^ m)
  rw [IntKind.wrap_u8] at h
  exact h
theorem bs_one (w : World) (x : UInt8) : Bs (fun _ => True) (w.alloc (.cells #[.int .u8 (ub x)] 5)) (.slice (some ⟨w.heap.size, 0, none⟩) 1 1) [x] :=
  ⟨_, _, _, rfl, rfl, Nat.le_refl _, fun _ => ⟨_, _, rfl, trivial, fun j hj => by
    obtain rfl : j = 0 := by omega
    rw [cell_of_row _ _ _ _ 5 _ (heap_alloc_new w _)]
    rfl⟩⟩

theorem bs_zero (w : World) : Bs (fun _ => True) (w.alloc (.cells #[.int .u8 0] 5)) (.slice (some ⟨w.heap.size, 0, none⟩) 1 1) [0] := by
  have h := bs_one w 0
  have e : ub 0 = 0 := by decide
  rwa [e] at h
theorem zeros_lt (n : Nat) : zeros n < 64 := by unfold zeros; omega
theorem pad_bound (l : List UInt8) (z : Nat) (h : z < zeros l.length) : (restOf l ++ 128 :: List.replicate z 0).length + [(0 : UInt8)].length ≤ 140737488355328 := by
  have h1 := zeros_lt l.length
  have h2 := restOf_length l
  rw [List.length_append, List.length_cons, List.length_replicate]
  show (restOf l).length + (z + 1) + 1 ≤ _
  omega
theorem lenBytes_get (n i : Nat) (h : i < 8) : (lenBytes n).take (i + 1) = (lenBytes n).take i ++ [UInt8.ofNat (n * 8 / 2 ^ (56 - 8 * i))] := by
  have hl : i < (lenBytes n).length := by simp [lenBytes]; exact h
  rw [List.take_succ_eq_append_getElem hl]
  simp [lenBytes]
theorem lenBytes_all (n : Nat) : (lenBytes n).take 8 = lenBytes n := List.take_of_length_le (by simp [lenBytes])
def PP (l : List UInt8) : List UInt8 := restOf l ++ tailOf l.length
theorem pad_len2 (l : List UInt8) (i : Nat) (h : i ≤ 8) : ((restOf l ++ 128 :: List.replicate (zeros l.length) 0) ++ (lenBytes l.length).take i).length = l.length % 64 + 1 + zeros l.length + i := by
  have h2 := restOf_length l
  have h3 : (lenBytes l.length).length = 8 := by simp [lenBytes]
  rw [List.length_append, List.length_append, List.length_cons, List.length_replicate, List.length_take, h3]
  omega
theorem pad_bound2 (l : List UInt8) (i : Nat) (h : i ≤ 8) (b : UInt8) : ((restOf l ++ 128 :: List.replicate (zeros l.length) 0) ++ (lenBytes l.length).take i).length + [b].length ≤ 140737488355328 := by
  have h1 := zeros_lt l.length
  have h2 := restOf_length l
  rw [List.length_append, List.length_append, List.length_cons, List.length_replicate, List.length_take]
  show (restOf l).length + (zeros l.length + 1) + _ + 1 ≤ _
  omega
theorem PP_eq (l : List UInt8) : (restOf l ++ 128 :: List.replicate (zeros l.length) 0) ++ (lenBytes l.length).take 8 = PP l := by
  rw [lenBytes_all, List.append_assoc]; rfl
theorem PP_length (l : List UInt8) : (PP l).length = l.length % 64 + 1 + zeros l.length + 8 := by
  simp [PP, tailOf, lenBytes, restOf_length]; omega
theorem PP_mod (l : List UInt8) : (PP l).length % 64 = 0 := by rw [PP_length]; unfold zeros; omega
theorem byte_of (n m : Nat) : IntKind.u8.wrap ((n : Int) * 8 / 2 ^ m) = ub (UInt8.ofNat (n * 8 / 2 ^ m)) := by
  have e : (n : Int) * 8 / 2 ^ m = ((n * 8 / 2 ^ m : Nat) : Int) := by simp
  rw [e, ub_of]
theorem zeros_end (n : Nat) : (n % 64 + 1 + zeros n) % 64 = 56 := by unfold zeros; omega
theorem zeros_yet (n z : Nat) (h : z < zeros n) : (n % 64 + 1 + z) % 64 ≠ 56 := by unfold zeros at h; omega
theorem rep_snoc (z : Nat) (l : List UInt8) : (l ++ 128 :: List.replicate z 0) ++ [0] = l ++ 128 :: List.replicate (z + 1) 0 := by
  rw [List.append_assoc, List.cons_append, ← List.replicate_succ']

set_option maxRecDepth 100000 in
set_option maxHeartbeats 0 in
theorem hsum_any {w : World} {B h : Nat} {q : Option Nat} {l : List UInt8} (hL : Laid w) (H : HashAt w B h q l) (hb : l.length ≤ 70368744177664) :
    Calls Tryd.prog 21 #[.pointer (some ⟨h, 0, none⟩)] w fun e w' => e = .returned (.agg (B8 32 (sum l))) ∧ Below w.heap.size w w' := by
  obtain ⟨i0, hi0, hz0, hz1, hz2⟩ := info_parts info5
  obtain ⟨v, h1, hown, hq, hBh⟩ := H
  obtain ⟨A0, n0, k0, hn0, rfl⟩ := hown.form
  have hhl := heap_lt h1
  have c8 : w.cell? ⟨h, 8, none⟩ = some (.slice A0 n0 k0) := by rw [cell_of_row w h 8 _ 80 _ h1]; rfl
  have c9 : w.cell? ⟨h, 9, none⟩ = some (.int .i64 (l.length : Int)) := by rw [cell_of_row w h 9 _ 80 _ h1]; rfl
  have HL := Lib.hid hL
  have HH := Lib.hid h1
  have HOW := Lib.hid hown
  have HN0 := Lib.hid hn0
  have HQ := Lib.hid hq
  have hlen := restOf_length l
  have HLEN := Lib.hid hlen
  have HS0 : Hid (SumInv w ((w.alloc (.cells Z32 24)).alloc (.cells #[] 5)) (.slice (some ⟨w.heap.size + 1, 0, none⟩) 0 0) []) :=
    ⟨Own.of_block (l := []) (cs := #[]) (fr := (0, 0)) (by ((simp only [heap_push, World.size_alloc, if_true]; repeat' split); all_goals (first | rfl | (exfalso; omega)))) (.inl rfl) (Nat.le_refl _) (Nat.le_refl _) (Nat.le_refl _) (fun j hj => by simp at hj), by ((simp only [heap_push, World.size_alloc, if_true]; repeat' split); all_goals (first | rfl | (exfalso; omega))), by go_grown, by simp⟩
  have HB0 : Hid (Bs (fun k => k < w.heap.size) ((w.alloc (.cells Z32 24)).alloc (.cells #[] 5)) (.slice A0 n0 k0) (restOf l)) :=
    (hown.bs.mono (ok' := fun k => k < w.heap.size) (fun i hi _ => hi)).keep (S := fun _ => False) (((Keep.refl _ _).alloc _).alloc _) (fun _ _ => id)
  clear hL h1 hown hn0 hq hlen
  go_enter Tryd.func21, Tryd.ntmps21
  go_wp2_with (first
    | (at_builtin
       refine wpList_append_bytes (o := ⟨some 17, _, _, _, _, _⟩) (by rfl) (.tmp 12) (.tmp 16) 22 (by rfl) i0 Tryd.underlying22 hi0 hz0 hz1 hz2 (by rfl) (by rfl) HS0.out.own HB0.out (by have := HLEN.out; simp only [List.length_append, List.length_nil, List.length_cons]; omega) HS0.out.size ?_
       intro v1 w1 own1 keep1 at1
       have HS1 : Hid (SumInv w w1 v1 (restOf l)) := HS0.out.append own1 keep1
       have HB1 := Lib.hid (bs_one w1 128)
       obtain ⟨A1, n1, k1, hn1, rfl⟩ := HS1.out.own.form
       have HN1 := Lib.hid hn1
       clear own1 keep1 at1 hn1 HS0 HB0)
    | (at_builtin
       refine wpList_append_bytes (o := ⟨some 19, _, _, _, _, _⟩) (by rfl) (.tmp 17) (.tmp 18) 22 (by rfl) i0 Tryd.underlying22 hi0 hz0 hz1 hz2 (by rfl) (by rfl) (HS1.out.alloc _).own HB1.out (by have := HLEN.out; simp only [List.length_append, List.length_nil, List.length_cons]; omega) (HS1.out.alloc _).size ?_
       intro v2 w2 own2 keep2 at2
       have HS2 : Hid (SumInv w w2 v2 (restOf l ++ [128])) := (HS1.out.alloc _).append own2 keep2
       obtain ⟨A2, n2, k2, hn2, rfl⟩ := HS2.out.own.form
       have HN2 := Lib.hid hn2
       clear own2 keep2 at2 hn2 HS1 HB1))
  clear c8 HOW HN0 HQ HN1
  go_loopg [3] (zeros l.length) (fun k p wr => ∃ z A n c, z + k = zeros l.length ∧ p = .slice A n c ∧ n = l.length % 64 + 1 + z ∧ SumInv w wr (.slice A n c) (restOf l ++ 128 :: List.replicate z 0))
  case atStart => exact ⟨0, A2, n2, k2, Nat.zero_add _, rfl, by rw [HN2.out, List.length_append, HLEN.out]; rfl, HS2.out⟩
  case round =>
    clear HS2 HN2
    obtain ⟨z, A, n, c, hz, rfl, hn, hS⟩ := hrel
    have hzl := zeros_lt l.length
    have hn0 : (n : Int) ≤ 200 := by omega
    by_cases hk : z < zeros l.length
    · have e56' : ¬ (n : Int) % 64 = 56 := by have := zeros_yet _ _ hk; omega
      have e56 : ((n : Int) % 64 != 56) = true := by simpa using e56'
      clear e56'
      have HN := Lib.hid hn
      have HZ := Lib.hid hz
      have HS := Lib.hid hS
      have HB : Hid (Bs (fun _ => True) (wr.alloc (.cells #[.int .u8 0] 5)) (.slice (some ⟨wr.heap.size, 0, none⟩) 1 1) [0]) := bs_zero wr
      have hgk : 1 ≤ gk := by omega
      have HBD := Lib.hid (pad_bound l z hk)
      clear hn hz hS
      go_wp2_with (at_builtin; refine wpList_append_bytes (o := ⟨some 26, _, _, _, _, _⟩) (by rfl) (.tmp 24) (.tmp 25) 22 (by rfl) i0 Tryd.underlying22 hi0 hz0 hz1 hz2 (by rfl) (by rfl) (HS.out.alloc _).own HB.out HBD.out (HS.out.alloc _).size ?_; intro v3 w3 own3 keep3 at3; have HS3 : Hid (SumInv w w3 v3 (restOf l ++ 128 :: List.replicate (z + 1) 0)) := (rep_snoc z (restOf l)) ▸ (HS.out.alloc _).append own3 keep3; obtain ⟨A3, n3, c3, hn3, rfl⟩ := HS3.out.own.form; have HN3 := Lib.hid hn3; clear own3 keep3 at3 hn3)
      go_roundg (gk - 1)
      case measure => omega
      case rel => exact ⟨z + 1, A3, n3, c3, by have := HZ.out; omega, rfl, by rw [HN3.out, List.length_append, HLEN.out, List.length_cons, List.length_replicate]; omega, HS3.out⟩
    · obtain rfl : z = zeros l.length := by omega
      have e56 : (n : Int) % 64 = 56 := by have := zeros_end l.length; omega
      have HN := Lib.hid hn
      have HS := Lib.hid hS
      clear hn hz hS hk
      go_wp2
      go_loopw [3, 4] (fun p s wr => ∃ (i : Nat) (A : Option Addr) (n c : Nat) (y : Int), i ≤ 8 ∧ y + 8 * (i : Int) = 56 ∧ s = .int .i64 y ∧ p = .slice A n c ∧ n = l.length % 64 + 1 + zeros l.length + i ∧ SumInv w wr (.slice A n c) ((restOf l ++ 128 :: List.replicate (zeros l.length) 0) ++ (lenBytes l.length).take i)) (fun _ s _ => (intOf s + 8).toNat)
      case atStart => exact ⟨0, A, n, c, 56, by omega, by omega, rfl, rfl, by rw [HN.out]; rfl, by rw [List.take_zero, List.append_nil]; exact HS.out⟩
      case round =>
        clear HS HN e56 hn0 c9
        obtain ⟨i, A', n', c', y, hi8, hy, rfl, rfl, hn', hS⟩ := hrel
        by_cases hlt : i < 8
        · obtain ⟨m, rfl⟩ : ∃ m : Nat, y = m := ⟨y.toNat, by omega⟩
          have em : m = 56 - 8 * i := by omega
          have hm : (m : Int) ≤ 56 := by omega
          have c9 : wr.cell? ⟨h, 9, none⟩ = some (.int .i64 (l.length : Int)) := by
            rw [hS.below.cell (p := ⟨h, 9, none⟩) hhl, cell_of_row w h 9 _ 80 _ HH.out]; rfl
          have ev := byte_of l.length m
          have ew : IntKind.u64.wrap ((l.length : Int) * 8) = (l.length : Int) * 8 := wraps_u64 _ (by omega) (by omega)
          have HS := Lib.hid hS
          have HN' := Lib.hid hn'
          have HB := Lib.hid (bs_one wr (UInt8.ofNat (l.length * 8 / 2 ^ m)))
          have HEM := Lib.hid em
          have HY := Lib.hid hy
          have HBD := Lib.hid (pad_bound2 l i hi8 (UInt8.ofNat (l.length * 8 / 2 ^ m)))
          clear hS hn' em hy
          go_wp2_with (at_builtin; refine wpList_append_bytes (o := ⟨some 42, _, _, _, _, _⟩) (by rfl) (.tmp 31) (.tmp 41) 22 (by rfl) i0 Tryd.underlying22 hi0 hz0 hz1 hz2 (by rfl) (by rfl) (HS.out.alloc _).own HB.out HBD.out (HS.out.alloc _).size ?_; intro v3 w3 own3 keep3 at3; have HS3 : Hid (SumInv w w3 v3 ((restOf l ++ 128 :: List.replicate (zeros l.length) 0) ++ (lenBytes l.length).take (i + 1))) := (by have h3 := (HS.out.alloc _).append own3 keep3; rw [lenBytes_get l.length i hlt, ← List.append_assoc, ← HEM.out]; exact h3); obtain ⟨A3, n3, c3, hn3, rfl⟩ := HS3.out.own.form; have HN3 := Lib.hid hn3; clear own3 keep3 at3 hn3)
          go_roundw
          case measure => simp [intOf]; omega
          case rel => exact ⟨i + 1, A3, n3, c3, (m : Int) - 8, by omega, by have := HY.out; omega, rfl, rfl, by rw [HN3.out, pad_len2 l (i + 1) (by omega)], HS3.out⟩
        · obtain rfl : i = 8 := by omega
          have hS' : SumInv w wr (.slice A' n' c') (PP l) := by rw [← PP_eq]; exact hS
          have hnP : n' = (PP l).length := by rw [hn', PP_length]
          have hHr : wr.heap[h]? = some (.cells (hcells (reg l) (.slice A0 n0 k0) l.length) 80 (0, 0)) := (hS'.below.block h hhl).trans HH.out
          have hrange := regs_range hHr
          obtain ⟨b5, hb5⟩ : ∃ b5, wr.heap.size = b5 := ⟨_, rfl⟩
          have hy8 : y < 0 := by omega
          have HX : (wr.alloc (.cells #[.int .u32 0, .int .u32 0, .int .u32 0, .int .u32 0, .int .u32 0, .int .u32 0, .int .u32 0, .int .u32 0] 76)).heap[b5]? = some (.cells #[.int .u32 0, .int .u32 0, .int .u32 0, .int .u32 0, .int .u32 0, .int .u32 0, .int .u32 0, .int .u32 0] 76 (0, 0)) := heap_new' _ _ _ hb5.symm
          have HS := Lib.hid hS'
          have HNP := Lib.hid hnP
          clear hS hS' hnP hn' hy hHr hlt hi8
          go_wp2_with (first | (refine wpList_load_mid (op := ⟨some 46, _, _, _, _, _⟩) (by rfl) 76 (.tmp 45) (by rfl) h 0 (by rfl) _ _ hrange Tryd.underlying76 rfl (sz76.trans rfl) ?_; simp only [Array.toArray_toList]) | (refine wpList_store_row rfl 76 _ _ rfl b5 _ rfl rfl 76 _ HX (sz76.trans (by simp [U32])) (by simp [U32]) (vals_one _ _ _) ?_))
          show Code.wp _ _ _ ⟨_, _⟩ _
          have HS5 := Lib.hid (HS.out.row hb5 #[.int .u32 0, .int .u32 0, .int .u32 0, .int .u32 0, .int .u32 0, .int .u32 0, .int .u32 0, .int .u32 0] 76 (U32 8 (reg l)))
          have HR5 := Lib.hid (setRow_heap _ b5 _ (U32 8 (reg l)) 76 _ HX)
          have hb5' : w.heap.size + 1 ≤ b5 := by rw [← hb5]; exact HS.out.size
          obtain ⟨w5, hw5⟩ : ∃ w5, w5 = (wr.alloc (.cells #[.int .u32 0, .int .u32 0, .int .u32 0, .int .u32 0, .int .u32 0, .int .u32 0, .int .u32 0, .int .u32 0] 76)).setRow b5 (U32 8 (reg l)) := ⟨_, rfl⟩
          rw [← hw5] at HS5 HR5 ⊢
          clear hw5 HX hrange HS hb5 wr
          go_loopg [3] ((PP l).length / 64) (fun k p wr => ∃ (j : Nat) (A : Option Addr) (n c : Nat), j + k = (PP l).length / 64 ∧ p = .slice A n c ∧ n = ((PP l).drop (64 * j)).length ∧ SumInv w wr (.slice A n c) ((PP l).drop (64 * j)) ∧ wr.heap[b5]? = some (.cells (U32 8 (foldN (reg l) (PP l) j)) 76 (0, 0)))
          case atStart => exact ⟨0, A', n', c', Nat.zero_add _, rfl, by rw [Nat.mul_zero, List.drop_zero]; exact HNP.out, by rw [Nat.mul_zero, List.drop_zero]; exact HS5.out, HR5.out⟩
          case round =>
            clear HS5 HR5 w5 HNP
            obtain ⟨j, A7, n7, c7, hj, rfl, hn7, hS, hR⟩ := hrel
            have hPm := PP_mod l
            have hPl := PP_length l
            have hzl2 := zeros_lt l.length
            rw [List.length_drop] at hn7
            have hn7b : n7 ≤ 200 := by omega
            by_cases hk : 0 < n7
            · have hgk : 1 ≤ gk := by omega
              have hn64 : 64 ≤ n7 := by omega
              obtain ⟨A2x, n2x, c2x, e2, hn2, hc2, hbk⟩ := hS.own.bs
              injection e2 with e2 e3 e4
              subst e2 e3 e4
              obtain ⟨g, off, rfl, hg, hbytes⟩ := hbk hk
              have hgl : g < wr.heap.size := cell_block (hbytes 0 hk)
              have hlies : Lies wr g off 64 ((PP l).drop (64 * j)) := fun i hi => hbytes i (by omega)
              have hLr : Laid wr := HL.out.below hS.below (Nat.le_refl _)
              obtain ⟨tk, hkr⟩ := hLr.k
              obtain ⟨v8, hcut, hown8, hob8⟩ := run_cut_own (P := Tryd.prog) 22 i0 Tryd.underlying22 hi0 hz1 hS.own 64 (by decide) (by rw [← hn2]; exact hn64)
              obtain ⟨A8, n8, c8, hn8, rfl⟩ := hown8.form
              have hcut' : ∀ W : World, (Instr.sliceAt 22 (.slice (some ⟨g, off, none⟩) n7 c7) (some (.int .i64 64)) none none).run Tryd.prog W = .ok (.slice A8 n8 c8) W := hcut
              have HS := Lib.hid hS
              have HJ := Lib.hid hj
              have HMIX := Lib.hid (mix_any (foldN (reg l) (PP l) j) ((PP l).drop (64 * j)) g off n7 c7 hn64 (by omega) wr hgl hlies hkr)
              have HRr := Lib.hid hR
              have HO8 := Lib.hid hown8
              have HB8 := Lib.hid hob8
              have HN8 := Lib.hid hn8
              have hrb := heap_lt hR
              clear hS hj hn7 hPm hPl hn2 hc2 hbk hg hbytes hgl hlies hLr hkr hcut hown8 hob8 hn8
              go_wp2_with (first | (refine wpList_load_row (o := ⟨some 52, _, _, _, _, _⟩) (by rfl) 76 _ (by rfl) b5 (by rfl) 76 _ (0, 0) _ hR Tryd.underlying76 rfl (sz76.trans (by simp [U32])) ?_) | (go_at_call 49; refine HMIX.out.mono ?_; rintro e w6 ⟨rfl, hb6⟩; have HB6 := Lib.hid hb6; have hR6 := (hb6.block b5 hrb).trans HRr.out; clear hb6) | (refine wpList_store_row (by rfl) 76 _ _ (by rfl) b5 _ (by rfl) (by rfl) 76 _ hR6 (sz76.trans (by simp [U32])) (by simp [U32]) (vals_one _ _ _) ?_))
              go_roundg (gk - 1)
              case measure => omega
              case rel =>
                have ed : ((PP l).drop (64 * j)).drop 64 = (PP l).drop (64 * (j + 1)) := by rw [List.drop_drop]; congr 1
                refine ⟨j + 1, A8, n8, c8, by have := HJ.out; omega, rfl, by rw [HN8.out, ed], ?_, ?_⟩
                · rw [← ed]
                  exact HS.out.mixed HB6.out HRr.out hb5' HO8.out HB8.out _
                · refine (setRow_heap _ _ _ _ _ _ hR6).trans (congrArg (fun r => some (Obj.cells (U32 8 r) 76 (0, 0))) (block_congr _ fun i _ => ?_))
                  rw [at_drop]
            · have ej : j = (PP l).length / 64 := by omega
              have hR' : wr.heap[b5]? = some (.cells (U32 8 (foldN (reg l) (PP l) ((PP l).length / 64))) 76 (0, 0)) := by rw [← ej]; exact hR
              obtain ⟨b6, hb6⟩ : ∃ b6, wr.heap.size = b6 := ⟨_, rfl⟩
              have HS := Lib.hid hS
              have HR := Lib.hid hR'
              have hb56 : b5 < b6 := by rw [← hb6]; exact heap_lt hR
              have HB6 := Lib.hid hb6
              clear hj hn7 hS hR hR' hPm hPl hzl2 ej
              go_wp2
              go_loopw [55] (fun i wr => ∃ k : Nat, k ≤ 32 ∧ i = .int .i64 k ∧ wr.heap[b6]? = some (.cells (vals .u8 32 fun j => if j < k then ub (at_ (sum l) j) else 0) 24 (0, 0)) ∧ wr.heap[b5]? = some (.cells (U32 8 (foldN (reg l) (PP l) ((PP l).length / 64))) 76 (0, 0)) ∧ wr.heap[w.heap.size]? = some (.cells Z32 24 (0, 0)) ∧ Below w.heap.size w wr) (fun i _ => 32 - (intOf i).toNat)
              case atStart => exact ⟨0, by omega, rfl, heap_new' _ _ _ HB6.out.symm, (heap_old _ _ _ (heap_lt HR.out)).trans HR.out, (heap_old _ _ _ (heap_lt HS.out.out)).trans HS.out.out, HS.out.below.alloc (by have := HS.out.size; omega) _⟩
              case round =>
                clear HS HR HB6 hb6
                obtain ⟨k, hk32, rfl, hO, hR, hZ, hbl⟩ := hrel
                by_cases hlt : k < 32
                · have e1 : IntKind.i64.wrap ((k : Int) / 4) = (k : Int) / 4 := IntWalk.i64_in _ (by omega)
                  have t1 : ((k : Int) / 4).toNat = k / 4 := by omega
                  have b1 : 0 ≤ (k : Int) / 4 := by omega
                  have b2 : (k : Int) / 4 < 8 := by omega
                  obtain ⟨m, hm⟩ : ∃ m : Nat, m = 24 - 8 * (k % 4) := ⟨_, rfl⟩
                  have em : 24 - 8 * ((k : Int) % 4) = (m : Int) := by omega
                  have hm24 : m ≤ 24 := by omega
                  have cR : wr.cell? ⟨b5, k / 4, none⟩ = some (.int .u32 (u (foldN (reg l) (PP l) ((PP l).length / 64) (k / 4)))) := cell_vals hR (by omega)
                  have cO : wr.cell? ⟨b6, k, none⟩ = some (.int .u8 0) := (cell_vals hO hlt).trans (congrArg (fun z => some (Value.int .u8 z)) (if_neg (Nat.lt_irrefl k)))
                  have fO : wr.frozen? ⟨b6, k, none⟩ = false := frozen_of_row _ _ _ _ _ hO
                  have ev : u (foldN (reg l) (PP l) ((PP l).length / 64) (k / 4)) / 2 ^ m % 256 = ub (at_ (sum l) k) := sum_byte' l k m hlt hm
                  have HEV := Lib.hid ev
                  have HO := Lib.hid hO
                  have HR := Lib.hid hR
                  have HZ := Lib.hid hZ
                  clear hO hR hZ ev hm
                  go_wp2
                  go_roundw
                  case measure => simp [intOf]; omega
                  case rel =>
                    refine ⟨k + 1, by omega, by go_num, ?_, ?_, ?_, hbl.setCell (p := ⟨b6, k, none⟩) (by show w.heap.size ≤ b6; omega) _⟩
                    · rw [heap_set_vals _ HO.out hlt, HEV.out]
                      refine congrArg (fun x => some (Obj.cells x 24 (0, 0))) (vals_congr _ _ fun j _ => ?_)
                      unfold upd
                      by_cases hj : j = k
                      · subst hj; rw [if_pos rfl, if_pos (by omega)]
                      · rw [if_neg hj]
                        show (if j < k then ub (at_ (sum l) j) else 0) = if j < k + 1 then ub (at_ (sum l) j) else 0
                        by_cases h2 : j < k
                        · rw [if_pos h2, if_pos (by omega)]
                        · rw [if_neg h2, if_neg (by omega)]
                    · rw [heap_set_other _ _ _ _ _ (by omega)]; exact HR.out
                    · rw [heap_set_other _ _ _ _ _ (by omega)]; exact HZ.out
                · obtain rfl : k = 32 := by omega
                  have hO' : wr.heap[b6]? = some (.cells (B8 32 (sum l)) 24 (0, 0)) := hO.trans (congrArg (fun x => some (Obj.cells x 24 (0, 0))) (vals_congr _ _ fun j hj => if_pos hj))
                  clear hO hR
                  go_wp2_with (first | (refine wpList_load_row (o := ⟨some 71, _, _, _, _, _⟩) (by rfl) 24 _ (by rfl) b6 (by rfl) 24 _ (0, 0) _ hO' Tryd.underlying24 rfl (sz24.trans (by simp [B8])) ?_) | (refine wpList_store_row (by rfl) 24 _ _ (by rfl) w.heap.size _ (by rfl) (by rfl) 24 _ hZ (sz24.trans (by simp [B8])) (by simp [B8, Z32]) (vals_one _ _ _) ?_))
                  refine bodyPost_ret (results_cell_row rfl _ _ _ 24 (B8 32 (sum l)) (0, 0) _ rfl (setRow_heap _ _ _ _ _ _ hZ) Tryd.underlying24 rfl (sz24.trans (by simp [B8]))) rfl ⟨rfl, below_setRow hbl (by omega) _⟩
end Go.Proofs.YtmifegjmmlipbaaDoor
