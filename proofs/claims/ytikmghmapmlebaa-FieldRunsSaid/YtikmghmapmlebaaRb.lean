/-
  The reference's carry and reduction; their conditions: digits within bounds.
-/
import Derived.Test.YtikmghmapmlebaaRa
namespace Go.Proofs.Ytikmghmapmlebaa
open Go.RowKit Go.Rh F255

/-- A number's 32 bytes, the lowest first, as a string. -/
def le32 (m : Nat) : ByteArray := bstr (fun j => m / 256 ^ j % 256) 32

/-- What a round of the reference's last part knows. -/
structure Dig (D : Nat → Int) : Prop where
  bd : ∀ j, j < 32 → 0 ≤ D j ∧ D j < 256

theorem redR_stays {c : Nat → Int} {r : Nat} (h : NI (redR c r) 32 < P25) : ∀ k, redR c (r + k) = redR c r
  | 0 => rfl
  | k + 1 => by
    have ih := redR_stays h k
    show (if NI (redR c (r + k)) 32 < P25 then redR c (r + k) else sbf (redR c (r + k))) = _
    rw [ih, if_pos h]

theorem less_of {D : Nat → Int} (hD : ∀ j, j < 32 → 0 ≤ D j ∧ D j < 256) {k : Nat} (hk : k < 32) (heq : ∀ j, k < j → j < 32 → D j = pD j) (h : D k < pD k) : NI D 32 < P25 := by
  have h1 := NI_below (f := D) (g := pD) (i := k) (fun j hj => hD j (by omega)) (fun j _ => (pD_bd j).1) h
  have h2 := NI_above (f := D) (g := pD) (i := k + 1) 32 (by omega) fun j a b => heq j (by omega) b
  rw [NI_pD] at h2
  omega
theorem not_less_of {D : Nat → Int} (hD : ∀ j, j < 32 → 0 ≤ D j ∧ D j < 256) {k : Nat} (hk : k < 32) (heq : ∀ j, k < j → j < 32 → D j = pD j) (h : pD k < D k) : ¬ NI D 32 < P25 := by
  have h1 := NI_below (f := pD) (g := D) (i := k) (fun j _ => pD_bd j) (fun j hj => (hD j (by omega)).1) h
  have h2 := NI_above (f := D) (g := pD) (i := k + 1) 32 (by omega) fun j a b => heq j (by omega) b
  rw [NI_pD] at h2
  omega
theorem not_less_eq {D : Nat → Int} (heq : ∀ j, j < 32 → D j = pD j) : ¬ NI D 32 < P25 := by
  rw [NI_congr heq, NI_pD]; omega

/-- Digits are their number's. -/
theorem NI_toNat {D : Nat → Int} (hD : ∀ j, j < 32 → 0 ≤ D j ∧ D j < 256) (j : Nat) (hj : j < 32) : (NI D 32).toNat / 256 ^ j % 256 = (D j).toNat := by
  have key : ∀ n, n ≤ 32 → NI D n = ((leN (fun j => (D j).toNat) n : Nat) : Int) := by
    intro n
    induction n with
    | zero => intro _; rfl
    | succ n ih =>
      intro h
      have hd := hD n (by omega)
      simp only [NI, leN]
      rw [ih (by omega)]
      have : ((D n).toNat : Int) = D n := Int.toNat_of_nonneg hd.1
      simp [this]
  rw [key 32 (by omega), Int.toNat_natCast]
  exact leN_digit (g := fun j => (D j).toNat) (n := 32) (fun j hj => by have := hD j hj; show (D j).toNat < 256; omega) j hj

set_option maxRecDepth 100000 in
set_option maxHeartbeats 2000000 in
theorem below_any (f : Nat → Int) (N : Nat) (hN : 32 ≤ N) (cap g : Nat) (hf : ∀ j, j < 32 → -1099511627776 ≤ f j ∧ f j ≤ 1099511627776) (h0 : 0 ≤ NI f 32) (h1 : NI f 32 < 8589934592 * T256)
    (w : World) (hw : w.heap[g]? = some (.cells (vals .i64 N f) 3 (0, 0))) :
    Calls Try.prog 35 #[.slice (some ⟨g, 0, none⟩) 32 cap] w fun e w' => e = .returned (.string (le32 (NI f 32 % P25).toNat)) ∧ w.grownBy w' (some g) := by
  obtain ⟨c, hc⟩ : ∃ c, c = passR f 6 := ⟨_, rfl⟩
  obtain ⟨p1, p2, _⟩ := passes h0 h1
  rw [← hc] at p1 p2
  have HR := Lib.hid (redR_all (f := c) fun j _ => p1 j)
  have H3 := Lib.hid (redR_three (f := c) fun j _ => p1 j)
  have HC := Lib.hid (refcarry_any f N hN cap g hf h0 h1 w hw)
  have P2 := Lib.hid p2
  have gl := heap_lt hw
  have HCC := Lib.hid hc
  clear p1 p2 hf h0 h1 hw hc
  go_enter Try.func35, Try.ntmps35
  go_wp2_with fail
  refine HC.out.mono ?_
  rintro e w1 ⟨rfl, l0, g1⟩
  rw [← HCC.out] at l0
  have L0 := Lib.hid l0
  have G1 := Lib.hid g1
  clear l0 g1
  go_wp2_with fail
  refine (prime_any w1).mono ?_
  rintro e w2 ⟨rfl, l1, b1⟩
  have hz1 := G1.out.size
  have hz2 := b1.size
  have l0 : w2.heap[g]? = some (.cells (vals .i64 N fun j => if j < 32 then c j else f j) 3 (0, 0)) := (b1.block g (by omega)).trans L0.out
  have g2 : w.grownBy w2 (some g) := grown_trans G1.out (grown_below _ b1 (Nat.le_refl _))
  have hR : w.heap.size ≤ w1.heap.size := hz1
  obtain ⟨R, hRe⟩ : ∃ R, R = w1.heap.size := ⟨_, rfl⟩
  rw [← hRe] at l1 hR
  rw [← hRe]
  have hRl : R < w2.heap.size := heap_lt l1
  have hgR : g ≠ R := by omega
  have L1 := Lib.hid l1
  have L0' := Lib.hid l0
  have G2 := Lib.hid g2
  clear L0 G1 b1 hz1 hz2 l0 l1 hRe g2
  go_wp2
  go_loopw [4] (fun i wr => ∃ r : Nat, r ≤ 3 ∧ i = .int .i64 r ∧ wr.heap[g]? = some (.cells (vals .i64 N fun j => if j < 32 then redR c r j else f j) 3 (0, 0)) ∧ wr.heap[R]? = some (.cells (vals .i64 32 pD) 3 (0, 0)) ∧ w.grownBy wr (some g)) (fun i _ => 3 - (intOf i).toNat)
  case atStart => exact ⟨0, by omega, rfl, L0'.out, L1.out, G2.out⟩
  case round =>
    clear L0' L1 G2
    obtain ⟨r, hr, rfl, l0, l1, g2⟩ := hrel
    by_cases hlt : r < 3
    · obtain ⟨D, hDe⟩ : ∃ D, D = redR c r := ⟨_, rfl⟩
      rw [← hDe] at l0
      have hD := (HR.out r).1
      rw [← hDe] at hD
      have HDe := Lib.hid hDe
      have HD := Lib.hid hD
      have L0 := Lib.hid l0
      have L1 := Lib.hid l1
      have G2 := Lib.hid g2
      clear l0 l1 g2 hDe hD
      obtain ⟨wo, hwo⟩ : ∃ wo : World, wo = wr := ⟨_, rfl⟩
      subst hwo
      go_wp2
      go_loopw [5, 6] (fun l i wr => ∃ x : Int, -1 ≤ x ∧ x ≤ 31 ∧ l = .bool false ∧ i = .int .i64 x ∧ (∀ j : Nat, x < j → j < 32 → D j = pD j) ∧ wr.heap[g]? = some (.cells (vals .i64 N fun j => if j < 32 then D j else f j) 3 (0, 0)) ∧ wr.heap[R]? = some (.cells (vals .i64 32 pD) 3 (0, 0)) ∧ w.grownBy wr (some g)) (fun _ i _ => (intOf i + 1).toNat)
      case atStart => exact ⟨31, by omega, by omega, rfl, rfl, fun j h1 h2 => by omega, L0.out, L1.out, G2.out⟩
      case round =>
        clear L0 L1 G2
        obtain ⟨x, hx1, hx2, rfl, rfl, heq, l0, l1, g2⟩ := hrel
        by_cases hx : 0 ≤ x
        · obtain ⟨k, rfl⟩ := Int.eq_ofNat_of_zero_le hx
          have hk : k < 32 := by omega
          have c0 : wr.cell? ⟨g, k, none⟩ = some (.int .i64 (D k)) := by rw [cell_vals l0 (by omega), if_pos hk]
          have c1 : wr.cell? ⟨R, k, none⟩ = some (.int .i64 (pD k)) := cell_vals l1 hk
          have HE := Lib.hid heq
          have L0 := Lib.hid l0
          have L1 := Lib.hid l1
          have G2 := Lib.hid g2
          clear heq l0 l1 g2
          by_cases he : D k = pD k
          · have hne : (D k != pD k) = false := by simp [he]
            have HEE := Lib.hid he
            clear he
            go_wp2
            go_quiet (fail)
            go_wp2
            refine ⟨⟨(k : Int) - 1, by omega, by omega, rfl, rfl, fun j h1 h2 => ?_, L0.out, L1.out, grown_drewN G2.out _⟩, by simp [intOf]⟩
            by_cases e : j = k
            · rw [e]; exact HEE.out
            · exact HE.out j (by omega) h2
          · have hne : (D k != pD k) = true := by simp [he]
            have HEE := Lib.hid he
            have heq' : ∀ j, k < j → j < 32 → D j = pD j := fun j h1 h2 => HE.out j (by omega) h2
            by_cases hlp : D k < pD k
            · have hless := less_of HD.out hk heq' hlp
              have HND : Hid (NI D 32 = NI f 32 % P25) := Lib.hid (by
                rw [← P2.out, ← H3.out, HDe.out, ← redR_stays (by rw [← HDe.out]; exact hless) (3 - r), show r + (3 - r) = 3 by omega])
              clear he heq' hless
              go_wp2
              go_quiet (fail)
              have c0 : (wr.drewN nq).cell? ⟨g, k, none⟩ = some (.int .i64 (D k)) := c0
              have c1 : (wr.drewN nq).cell? ⟨R, k, none⟩ = some (.int .i64 (pD k)) := c1
              have L0 : Hid ((wr.drewN nq).heap[g]? = some (.cells (vals .i64 N fun j => if j < 32 then D j else f j) 3 (0, 0))) := L0
              have L1 : Hid ((wr.drewN nq).heap[R]? = some (.cells (vals .i64 32 pD) 3 (0, 0))) := L1
              have G2 : Hid (w.grownBy (wr.drewN nq) (some g)) := Lib.hid (grown_drewN G2.out nq)
              generalize wr.drewN nq = w5 at *
              go_wp2
              go_quiet (fail)
              have L0 : Hid ((w5.drewN nq).heap[g]? = some (.cells (vals .i64 N fun j => if j < 32 then D j else f j) 3 (0, 0))) := L0
              have G2 : Hid (w.grownBy (w5.drewN nq) (some g)) := Lib.hid (grown_drewN G2.out nq)
              have L1 : Hid ((w5.drewN nq).heap[R]? = some (.cells (vals .i64 32 pD) 3 (0, 0))) := L1
              generalize w5.drewN nq = w6 at *
              have hmk := make29'
              have hS : w.heap.size ≤ w6.heap.size := G2.out.size
              have hgS : g ≠ w6.heap.size := by omega
              obtain ⟨S, hSe⟩ : ∃ S, S = w6.heap.size := ⟨_, rfl⟩
              rw [← hSe] at hS hgS
              have HSe := Lib.hid hSe
              have hmk' : (Instr.makeSlice 29 (.int .i64 32) (.int .i64 32)).run Try.prog w6 = .ok (.slice (some ⟨S, 0, none⟩) 32 32) (w6.alloc (.cells (vals .u8 32 fun _ => 0) 5)) := by rw [hSe]; exact hmk w6
              clear hSe hmk
              go_wp2
              go_loopw [10] (fun i wr => ∃ k : Nat, k ≤ 32 ∧ i = .int .i64 k ∧ wr.heap[g]? = some (.cells (vals .i64 N fun j => if j < 32 then D j else f j) 3 (0, 0)) ∧ wr.heap[S]? = some (.cells (vals .u8 32 (firstK D k)) 5 (0, 0)) ∧ w.grownBy wr (some g)) (fun i _ => 32 - (intOf i).toNat)
              case atStart =>
                refine ⟨0, by omega, rfl, ?_, ?_, grown_new G2.out _⟩
                · rw [heap_old _ _ _ (heap_lt L0.out)]; exact L0.out
                · rw [firstK_zero, heap_new' _ _ _ HSe.out]
              case round =>
                clear L0 G2
                obtain ⟨k, hk, rfl, l0, l2, g2⟩ := hrel
                by_cases hlt : k < 32
                · have bd := HD.out k hlt
                  have bd1 := bd.1
                  have bd2 := bd.2
                  clear bd
                  have c0 : wr.cell? ⟨g, k, none⟩ = some (.int .i64 (D k)) := by rw [cell_vals l0 (by omega), if_pos hlt]
                  have c2 : wr.cell? ⟨S, k, none⟩ = some (.int .u8 (firstK D k k)) := cell_vals l2 hlt
                  have f2 : wr.frozen? ⟨S, k, none⟩ = false := frozen_of_row _ _ _ _ _ l2
                  have eu : IntKind.u8.wrap (D k) = D k := IntWalk.u8_in _ (by omega)
                  have L0 := Lib.hid l0
                  have L2 := Lib.hid l2
                  clear l0 l2
                  go_wp2
                  go_roundw
                  case measure => simp [intOf]; omega
                  refine ⟨k + 1, by omega, by go_num, ?_, ?_, grown_set_new g2 hS _ _⟩
                  · rw [heap_set_other _ _ _ _ _ (by omega)]; exact L0.out
                  · rw [heap_set_vals (n := 32) _ L2.out hlt]
                    exact congrArg (fun x => some (Obj.cells x 5 (0, 0))) (vals_congr _ _ fun j _ => firstK_upd D k j)
                · obtain rfl : k = 32 := by omega
                  rw [firstK_all, vals_congr .u8 32 (g := fun j => (((D j).toNat : Nat) : Int)) fun j hj => (Int.toNat_of_nonneg (HD.out j hj).1).symm] at l2
                  have hcv := run_string_row (P := Try.prog) Try.underlying29 Try.underlying5 Try.underlying9 l2 32 32 (by omega)
                  have hres : bstr (fun j => (D (0 + j)).toNat) 32 = le32 (NI f 32 % P25).toNat := by
                    refine bstr_congr fun j hj => ?_
                    rw [← HND.out, NI_toNat HD.out j hj, Nat.zero_add]
                  rw [hres] at hcv
                  clear hres l0 l2
                  go_wp2
                  go_ret
                  exact ⟨rfl, g2⟩
            · have hless := not_less_of HD.out hk heq' (by omega)
              have HNL := Lib.hid hless
              clear he heq' hless
              go_wp2
              go_quiet (fail)
              have c0 : (wr.drewN nq).cell? ⟨g, k, none⟩ = some (.int .i64 (D k)) := c0
              have c1 : (wr.drewN nq).cell? ⟨R, k, none⟩ = some (.int .i64 (pD k)) := c1
              have L0 : Hid ((wr.drewN nq).heap[g]? = some (.cells (vals .i64 N fun j => if j < 32 then D j else f j) 3 (0, 0))) := L0
              have L1 : Hid ((wr.drewN nq).heap[R]? = some (.cells (vals .i64 32 pD) 3 (0, 0))) := L1
              have G2 : Hid (w.grownBy (wr.drewN nq) (some g)) := Lib.hid (grown_drewN G2.out nq)
              generalize wr.drewN nq = w5 at *
              go_wp2
              go_quiet (fail)
              have L0 : Hid ((w5.drewN nq).heap[g]? = some (.cells (vals .i64 N fun j => if j < 32 then D j else f j) 3 (0, 0))) := L0
              have G2 : Hid (w.grownBy (w5.drewN nq) (some g)) := Lib.hid (grown_drewN G2.out nq)
              have L1 : Hid ((w5.drewN nq).heap[R]? = some (.cells (vals .i64 32 pD) 3 (0, 0))) := L1
              generalize w5.drewN nq = w6 at *
              go_wp2
              go_loopw [7, 8] (fun o i wr => ∃ k : Nat, k ≤ 32 ∧ i = .int .i64 k ∧ o = .int .i64 (brf D k) ∧ wr.heap[g]? = some (.cells (vals .i64 N fun j => if j < 32 then (if j < k then sbf D j else D j) else f j) 3 (0, 0)) ∧ wr.heap[R]? = some (.cells (vals .i64 32 pD) 3 (0, 0)) ∧ w.grownBy wr (some g)) (fun _ i _ => 32 - (intOf i).toNat)
              case atStart => exact ⟨0, by omega, rfl, rfl, L0.out, L1.out, G2.out⟩
              case round =>
                clear L0 L1 G2
                obtain ⟨k, hk, rfl, rfl, l0, l1, g2⟩ := hrel
                by_cases hlt : k < 32
                · have c0 : wr.cell? ⟨g, k, none⟩ = some (.int .i64 (D k)) := by rw [cell_vals l0 (by omega), if_pos hlt, if_neg (by omega)]
                  have c1 : wr.cell? ⟨R, k, none⟩ = some (.int .i64 (pD k)) := cell_vals l1 hlt
                  have f0 : wr.frozen? ⟨g, k, none⟩ = false := frozen_of_row _ _ _ _ _ l0
                  have bd := HD.out k hlt
                  have bp := pD_bd k
                  have bb := brf_bd D k
                  have es : sbf D k = D k - pD k - brf D k + 256 * brf D (k + 1) := rfl
                  have eb : brf D (k + 1) = if D k - pD k - brf D k < 0 then 1 else 0 := rfl
                  have ES := Lib.hid es
                  have EB := Lib.hid eb
                  have L0 := Lib.hid l0
                  have L1 := Lib.hid l1
                  clear l0 l1 es eb
                  obtain ⟨x, hx⟩ : ∃ x, x = D k := ⟨_, rfl⟩
                  obtain ⟨y, hy⟩ : ∃ y, y = pD k := ⟨_, rfl⟩
                  obtain ⟨o, ho⟩ : ∃ o, o = brf D k := ⟨_, rfl⟩
                  rw [← hx] at bd c0
                  rw [← hy] at bp c1
                  rw [← ho] at bb
                  rw [← ho]
                  have HX := Lib.hid hx
                  have HY := Lib.hid hy
                  have HO := Lib.hid ho
                  clear hx hy ho
                  have ew : IntKind.i64.wrap (x - y) = x - y := IntWalk.i64_in _ (by omega)
                  have ew2 : IntKind.i64.wrap (x - y - o) = x - y - o := IntWalk.i64_in _ (by omega)
                  by_cases hneg : x - y - o < 0
                  · go_wp2
                    go_still_tail 14, (by kernel_rfl)
                    change wpList _ _ _ _ _ wr.drew
                    go_wp2
                    go_roundw
                    case measure => simp [intOf]; omega
                    refine ⟨k + 1, by omega, by go_num, ?_, ?_, ?_, grown_drew (grown_set (grown_set g2 _ _) _ _)⟩
                    · rw [EB.out, ← HX.out, ← HY.out, ← HO.out, if_pos hneg]
                    · rw [heap_drew, heap_set_vals (f := upd (fun j => if j < 32 then (if j < k then sbf D j else D j) else f j) k (x - y - o)) (n := N) _ (heap_set_vals (n := N) _ L0.out (by omega)) (by omega)]
                      refine congrArg (fun x => some (Obj.cells x 3 (0, 0))) (vals_congr _ _ fun j hj => ?_)
                      unfold upd
                      dsimp only
                      by_cases e : j = k
                      · subst e
                        rw [if_pos rfl, if_pos hlt, if_pos (by omega), ES.out, EB.out, ← HX.out, ← HY.out, ← HO.out, if_pos hneg]
                        omega
                      · rw [if_neg e, if_neg e]
                        by_cases e2 : j < k
                        · rw [if_pos e2, if_pos (show j < k + 1 by omega)]
                        · rw [if_neg e2, if_neg (show ¬ j < k + 1 by omega)]
                    · rw [heap_drew, heap_set_other _ _ _ _ _ (Ne.symm hgR), heap_set_other _ _ _ _ _ (Ne.symm hgR)]; exact L1.out
                  · go_wp2
                    go_still_tail 14, (by kernel_rfl)
                    change wpList _ _ _ _ _ wr.drew
                    go_wp2
                    go_roundw
                    case measure => simp [intOf]; omega
                    refine ⟨k + 1, by omega, by go_num, ?_, ?_, ?_, grown_drew (grown_set g2 _ _)⟩
                    · rw [EB.out, ← HX.out, ← HY.out, ← HO.out, if_neg (by omega)]
                    · rw [heap_drew, heap_set_vals (n := N) _ L0.out (by omega)]
                      refine congrArg (fun x => some (Obj.cells x 3 (0, 0))) (vals_congr _ _ fun j hj => ?_)
                      unfold upd
                      dsimp only
                      by_cases e : j = k
                      · subst e
                        rw [if_pos rfl, if_pos hlt, if_pos (by omega), ES.out, EB.out, ← HX.out, ← HY.out, ← HO.out, if_neg (by omega)]
                        omega
                      · rw [if_neg e]
                        by_cases e2 : j < k
                        · rw [if_pos e2, if_pos (show j < k + 1 by omega)]
                        · rw [if_neg e2, if_neg (show ¬ j < k + 1 by omega)]
                    · rw [heap_drew, heap_set_other _ _ _ _ _ (Ne.symm hgR)]; exact L1.out
                · obtain rfl : k = 32 := by omega
                  have L0 := Lib.hid l0
                  have L1 := Lib.hid l1
                  clear l0 l1
                  go_wp2
                  go_roundw
                  case measure => simp [intOf]; omega
                  refine ⟨r + 1, by omega, by go_num, ?_, L1.out, g2⟩
                  rw [L0.out]
                  refine congrArg (fun x => some (Obj.cells x 3 (0, 0))) (vals_congr _ _ fun j hj => ?_)
                  show (if j < 32 then (if j < 32 then sbf D j else D j) else f j) = if j < 32 then (if NI (redR c r) 32 < P25 then redR c r else sbf (redR c r)) j else f j
                  rw [← HDe.out, if_neg (Int.not_lt.2 HNL.out)]
                  by_cases e : j < 32
                  · rw [if_pos e, if_pos e, if_pos e]
                  · rw [if_neg e, if_neg e]
        · have hless := not_less_eq (D := D) fun j hj => heq j (by omega) hj
          have HNL := Lib.hid hless
          have L0 := Lib.hid l0
          have L1 := Lib.hid l1
          have G2 := Lib.hid g2
          obtain rfl : x = -1 := by omega
          clear hless l0 l1 g2 heq
          obtain ⟨w6, hw6⟩ : ∃ w6 : World, w6 = wr := ⟨_, rfl⟩
          subst hw6
          go_wp2
          go_loopw [7, 8] (fun o i wr => ∃ k : Nat, k ≤ 32 ∧ i = .int .i64 k ∧ o = .int .i64 (brf D k) ∧ wr.heap[g]? = some (.cells (vals .i64 N fun j => if j < 32 then (if j < k then sbf D j else D j) else f j) 3 (0, 0)) ∧ wr.heap[R]? = some (.cells (vals .i64 32 pD) 3 (0, 0)) ∧ w.grownBy wr (some g)) (fun _ i _ => 32 - (intOf i).toNat)
          case atStart => exact ⟨0, by omega, rfl, rfl, L0.out, L1.out, G2.out⟩
          case round =>
            clear L0 L1 G2
            obtain ⟨k, hk, rfl, rfl, l0, l1, g2⟩ := hrel
            by_cases hlt : k < 32
            · have c0 : wr.cell? ⟨g, k, none⟩ = some (.int .i64 (D k)) := by rw [cell_vals l0 (by omega), if_pos hlt, if_neg (by omega)]
              have c1 : wr.cell? ⟨R, k, none⟩ = some (.int .i64 (pD k)) := cell_vals l1 hlt
              have f0 : wr.frozen? ⟨g, k, none⟩ = false := frozen_of_row _ _ _ _ _ l0
              have bd := HD.out k hlt
              have bp := pD_bd k
              have bb := brf_bd D k
              have es : sbf D k = D k - pD k - brf D k + 256 * brf D (k + 1) := rfl
              have eb : brf D (k + 1) = if D k - pD k - brf D k < 0 then 1 else 0 := rfl
              have ES := Lib.hid es
              have EB := Lib.hid eb
              have L0 := Lib.hid l0
              have L1 := Lib.hid l1
              clear l0 l1 es eb
              obtain ⟨x, hx⟩ : ∃ x, x = D k := ⟨_, rfl⟩
              obtain ⟨y, hy⟩ : ∃ y, y = pD k := ⟨_, rfl⟩
              obtain ⟨o, ho⟩ : ∃ o, o = brf D k := ⟨_, rfl⟩
              rw [← hx] at bd c0
              rw [← hy] at bp c1
              rw [← ho] at bb
              rw [← ho]
              have HX := Lib.hid hx
              have HY := Lib.hid hy
              have HO := Lib.hid ho
              clear hx hy ho
              have ew : IntKind.i64.wrap (x - y) = x - y := IntWalk.i64_in _ (by omega)
              have ew2 : IntKind.i64.wrap (x - y - o) = x - y - o := IntWalk.i64_in _ (by omega)
              by_cases hneg : x - y - o < 0
              · go_wp2
                go_still_tail 14, (by kernel_rfl)
                change wpList _ _ _ _ _ wr.drew
                go_wp2
                go_roundw
                case measure => simp [intOf]; omega
                refine ⟨k + 1, by omega, by go_num, ?_, ?_, ?_, grown_drew (grown_set (grown_set g2 _ _) _ _)⟩
                · rw [EB.out, ← HX.out, ← HY.out, ← HO.out, if_pos hneg]
                · rw [heap_drew, heap_set_vals (f := upd (fun j => if j < 32 then (if j < k then sbf D j else D j) else f j) k (x - y - o)) (n := N) _ (heap_set_vals (n := N) _ L0.out (by omega)) (by omega)]
                  refine congrArg (fun x => some (Obj.cells x 3 (0, 0))) (vals_congr _ _ fun j hj => ?_)
                  unfold upd
                  dsimp only
                  by_cases e : j = k
                  · subst e
                    rw [if_pos rfl, if_pos hlt, if_pos (by omega), ES.out, EB.out, ← HX.out, ← HY.out, ← HO.out, if_pos hneg]
                    omega
                  · rw [if_neg e, if_neg e]
                    by_cases e2 : j < k
                    · rw [if_pos e2, if_pos (show j < k + 1 by omega)]
                    · rw [if_neg e2, if_neg (show ¬ j < k + 1 by omega)]
                · rw [heap_drew, heap_set_other _ _ _ _ _ (Ne.symm hgR), heap_set_other _ _ _ _ _ (Ne.symm hgR)]; exact L1.out
              · go_wp2
                go_still_tail 14, (by kernel_rfl)
                change wpList _ _ _ _ _ wr.drew
                go_wp2
                go_roundw
                case measure => simp [intOf]; omega
                refine ⟨k + 1, by omega, by go_num, ?_, ?_, ?_, grown_drew (grown_set g2 _ _)⟩
                · rw [EB.out, ← HX.out, ← HY.out, ← HO.out, if_neg (by omega)]
                · rw [heap_drew, heap_set_vals (n := N) _ L0.out (by omega)]
                  refine congrArg (fun x => some (Obj.cells x 3 (0, 0))) (vals_congr _ _ fun j hj => ?_)
                  unfold upd
                  dsimp only
                  by_cases e : j = k
                  · subst e
                    rw [if_pos rfl, if_pos hlt, if_pos (by omega), ES.out, EB.out, ← HX.out, ← HY.out, ← HO.out, if_neg (by omega)]
                    omega
                  · rw [if_neg e]
                    by_cases e2 : j < k
                    · rw [if_pos e2, if_pos (show j < k + 1 by omega)]
                    · rw [if_neg e2, if_neg (show ¬ j < k + 1 by omega)]
                · rw [heap_drew, heap_set_other _ _ _ _ _ (Ne.symm hgR)]; exact L1.out
            · obtain rfl : k = 32 := by omega
              have L0 := Lib.hid l0
              have L1 := Lib.hid l1
              clear l0 l1
              go_wp2
              go_roundw
              case measure => simp [intOf]; omega
              refine ⟨r + 1, by omega, by go_num, ?_, L1.out, g2⟩
              rw [L0.out]
              refine congrArg (fun x => some (Obj.cells x 3 (0, 0))) (vals_congr _ _ fun j hj => ?_)
              show (if j < 32 then (if j < 32 then sbf D j else D j) else f j) = if j < 32 then (if NI (redR c r) 32 < P25 then redR c r else sbf (redR c r)) j else f j
              rw [← HDe.out, if_neg (Int.not_lt.2 HNL.out)]
              by_cases e : j < 32
              · rw [if_pos e, if_pos e, if_pos e]
              · rw [if_neg e, if_neg e]
    · obtain rfl : r = 3 := by omega
      obtain ⟨D, hDe⟩ : ∃ D, D = redR c 3 := ⟨_, rfl⟩
      rw [← hDe] at l0
      have hD := (HR.out 3).1
      rw [← hDe] at hD
      have HD := Lib.hid hD
      have HND : Hid (NI D 32 = NI f 32 % P25) := Lib.hid (by rw [hDe, H3.out, P2.out])
      have L0 := Lib.hid l0
      have G2 := Lib.hid g2
      clear l0 l1 g2 hDe hD
      have hmk := make29'
      have hS : w.heap.size ≤ wr.heap.size := G2.out.size
      have hgS : g ≠ wr.heap.size := by omega
      obtain ⟨S, hSe⟩ : ∃ S, S = wr.heap.size := ⟨_, rfl⟩
      rw [← hSe] at hS hgS
      have HSe := Lib.hid hSe
      have hmk' : (Instr.makeSlice 29 (.int .i64 32) (.int .i64 32)).run Try.prog wr = .ok (.slice (some ⟨S, 0, none⟩) 32 32) (wr.alloc (.cells (vals .u8 32 fun _ => 0) 5)) := by rw [hSe]; exact hmk wr
      clear hSe hmk
      obtain ⟨w6, hw6⟩ : ∃ w6 : World, w6 = wr := ⟨_, rfl⟩
      subst hw6
      go_wp2
      go_loopw [10] (fun i wr => ∃ k : Nat, k ≤ 32 ∧ i = .int .i64 k ∧ wr.heap[g]? = some (.cells (vals .i64 N fun j => if j < 32 then D j else f j) 3 (0, 0)) ∧ wr.heap[S]? = some (.cells (vals .u8 32 (firstK D k)) 5 (0, 0)) ∧ w.grownBy wr (some g)) (fun i _ => 32 - (intOf i).toNat)
      case atStart =>
        refine ⟨0, by omega, rfl, ?_, ?_, grown_new G2.out _⟩
        · rw [heap_old _ _ _ (heap_lt L0.out)]; exact L0.out
        · rw [firstK_zero, heap_new' _ _ _ HSe.out]
      case round =>
        clear L0 G2
        obtain ⟨k, hk, rfl, l0, l2, g2⟩ := hrel
        by_cases hlt : k < 32
        · have bd := HD.out k hlt
          have bd1 := bd.1
          have bd2 := bd.2
          clear bd
          have c0 : wr.cell? ⟨g, k, none⟩ = some (.int .i64 (D k)) := by rw [cell_vals l0 (by omega), if_pos hlt]
          have c2 : wr.cell? ⟨S, k, none⟩ = some (.int .u8 (firstK D k k)) := cell_vals l2 hlt
          have f2 : wr.frozen? ⟨S, k, none⟩ = false := frozen_of_row _ _ _ _ _ l2
          have eu : IntKind.u8.wrap (D k) = D k := IntWalk.u8_in _ (by omega)
          have L0 := Lib.hid l0
          have L2 := Lib.hid l2
          clear l0 l2
          go_wp2
          go_roundw
          case measure => simp [intOf]; omega
          refine ⟨k + 1, by omega, by go_num, ?_, ?_, grown_set_new g2 hS _ _⟩
          · rw [heap_set_other _ _ _ _ _ (by omega)]; exact L0.out
          · rw [heap_set_vals (n := 32) _ L2.out hlt]
            exact congrArg (fun x => some (Obj.cells x 5 (0, 0))) (vals_congr _ _ fun j _ => firstK_upd D k j)
        · obtain rfl : k = 32 := by omega
          rw [firstK_all, vals_congr .u8 32 (g := fun j => (((D j).toNat : Nat) : Int)) fun j hj => (Int.toNat_of_nonneg (HD.out j hj).1).symm] at l2
          have hcv := run_string_row (P := Try.prog) Try.underlying29 Try.underlying5 Try.underlying9 l2 32 32 (by omega)
          have hres : bstr (fun j => (D (0 + j)).toNat) 32 = le32 (NI f 32 % P25).toNat := by
            refine bstr_congr fun j hj => ?_
            rw [← HND.out, NI_toNat HD.out j hj, Nat.zero_add]
          rw [hres] at hcv
          clear hres l0 l2
          go_wp2
          go_ret
          exact ⟨rfl, g2⟩
end Go.Proofs.Ytikmghmapmlebaa
