/-
  HkdfFewer: the walk; a struct of two rows of bytes and two numbers, opened.
-/
import Derived.Test.YtmifegjmmlipbaaDoorDc
import Derived.Test.YtmifegjmmlipbaaDoorCj
import Derived.Lib.SmallJoins
namespace Sha
theorem hkOut_prefix (sec info : List UInt8) : ∀ n m, n ≤ m → (hkOut sec info m).take (32 * n) = hkOut sec info n
  | n, 0, h => by
    obtain rfl : n = 0 := by omega
    rfl
  | n, m + 1, h => by
    have hl := hkOut_length sec info m
    by_cases e : n = m + 1
    · subst e
      exact List.take_of_length_le (by rw [hkOut_length]; exact Nat.le_refl _)
    · simp only [hkOut]
      rw [List.take_append_of_le_length (by omega)]
      exact hkOut_prefix sec info n m (by omega)
theorem expand_prefix (sec info : List UInt8) {n m : Nat} (h : n ≤ m) : (expand sec info m).take n = expand sec info n := by
  have h1 := hkOut_prefix sec info (blocksOf n) (blocksOf m) (by unfold blocksOf; omega)
  unfold expand
  rw [← h1, List.take_take, List.take_take]
  congr 1
  unfold blocksOf
  omega
end Sha
namespace Go.Proofs.YtmifegjmmlipbaaDoor
open Go.ChangeShapes Go.WideShapes Go.ChangeAt Go.RowKit Go.Rh Sha
section
variable {H : Type} {enc : TypeId × Value → H}
theorem open_fewer {r : Reach} {b0 : Nat} {W : World} {v : Value} {d : DataW H} {ps : List MemPlace} (hval : Value.okWide Tryd.prog W r b0 43 v) (hd : DataW.Trod enc Tryd.prog W 0 (fun _ => true) true 43 v d ps) :
    ∃ v0 v1 l0 l1 k0 k1, v = .agg #[v0, v1, .int .i64 k0, .int .i64 k1] ∧ Bs (fun k => k < W.heap.size) W v0 l0 ∧ Bs (fun k => k < W.heap.size) W v1 l1 ∧ l0.length ≤ maxLen ∧ l1.length ≤ maxLen := by
  obtain ⟨v0, v1, v2, v3, y0, y1, y2, y3, n, rfl, _, _, h0, h1, h2, h3⟩ := Go.Joins.open_agg4 Tryd.underlying43 (by kernel_rfl) (by kernel_rfl) hval hd
  obtain ⟨x0, l0, e0, b0, m0, _⟩ := bs_of_trod h0
  obtain ⟨x1, l1, e1, b1, m1, _⟩ := bs_of_trod h1
  obtain rfl : v0 = x0 := by simpa using e0
  obtain rfl : v1 = x1 := by simpa using e1
  obtain ⟨k0, rfl⟩ : ∃ k0, v2 = .int .i64 k0 := by
    obtain ⟨k, hk, _⟩ := DataW.trod_int Tryd.underlying3 h2
    exact ⟨k, by simpa using hk⟩
  obtain ⟨k1, rfl⟩ : ∃ k1, v3 = .int .i64 k1 := by
    obtain ⟨k, hk, _⟩ := DataW.trod_int Tryd.underlying3 h3
    exact ⟨k, by simpa using hk⟩
  exact ⟨v0, v1, l0, l1, k0, k1, rfl, b0, b1, m0, m1⟩
end
set_option maxRecDepth 100000 in
set_option maxHeartbeats 0 in
theorem hkdfFewer_small {w : World} {v x : Value} {l m : List UInt8} {k0 k1 : Int} (hL : Laid w) (hv : Bs (fun k => k < w.heap.size) w v l) (hx : Bs (fun k => k < w.heap.size) w x m) (hb : l.length ≤ 3000) (hb2 : m.length ≤ 300) : Calls Tryd.prog 9 #[.agg #[v, x, .int .i64 k0, .int .i64 k1]] w fun e w' => e = .returned (.bool true) ∧ Below w.heap.size w w' := by
  have HS := Lib.hid (St.start hL)
  have HV := Lib.hid hv
  have HX := Lib.hid hx
  have hk0 : 0 ≤ IntKind.u64.wrap k0 := u64_ge k0
  have hk1 : 0 ≤ IntKind.u64.wrap k1 := u64_ge k1
  obtain ⟨i0, hi0, hz0, hz1, hz2⟩ := info_parts info5
  obtain ⟨A, n, c, rfl, hn, hc, hbk⟩ := hv
  obtain ⟨A', n', c', rfl, hn', hc', hbk'⟩ := hx
  have hn5 : (n : Int) ≤ 3000 := by omega
  have hn6 : (n' : Int) ≤ 300 := by omega
  have HL2 : Hid (l.length ≤ 3000 ∧ m.length ≤ 300) := ⟨hb, hb2⟩
  clear hc hbk hL hc' hbk' hn hn' hb hb2
  obtain ⟨N, hN, hN1⟩ : ∃ N : Nat, IntKind.u64.wrap k0 % 400 = (N : Int) ∧ N < 400 := ⟨(IntKind.u64.wrap k0 % 400).toNat, by omega, by omega⟩
  obtain ⟨M, hM, hM1⟩ : ∃ M : Nat, IntKind.u64.wrap k1 % 400 = (M : Int) ∧ M < 400 := ⟨(IntKind.u64.wrap k1 % 400).toNat, by omega, by omega⟩
  go_enter Tryd.func9, Tryd.ntmps9
  obtain ⟨g, hg⟩ : ∃ g, w.heap.size = g := ⟨_, rfl⟩
  obtain ⟨wa, hwa⟩ : ∃ wa, wa = w.alloc (.cells #[.slice A n c, .slice A' n' c', .int .i64 k0, .int .i64 k1] 43) := ⟨_, rfl⟩
  have HGa : Hid (wa.heap[g]? = some (.cells #[.slice A n c, .slice A' n' c', .int .i64 k0, .int .i64 k1] 43 (0, 0))) := by rw [hwa]; exact heap_new' _ _ _ hg.symm
  have HSa : Hid (St g w wa []) := by rw [hwa, ← hg]; exact HS.out.alloc _
  have hVg : Hid (Bs (fun k => k < g) w (.slice A n c) l) := by rw [← hg]; exact HV.out
  have hXg : Hid (Bs (fun k => k < g) w (.slice A' n' c') m) := by rw [← hg]; exact HX.out
  rw [hg]
  clear HV HX HS
  have HWA := Lib.hid hwa
  clear hwa
  go_wp2_with fail
  rw [← HWA.out]
  refine (expands_any HSa.out.laid).mono ?_
  rintro e w1 ⟨rfl, hb1⟩
  have HG1 : Hid (w1.heap[g]? = some (.cells #[.slice A n c, .slice A' n' c', .int .i64 k0, .int .i64 k1] 43 (0, 0))) := (hb1.block _ (heap_lt HGa.out)).trans HGa.out
  have HS1 := Lib.hid (HSa.out.step hb1)
  clear hb1 HSa HGa
  have c0 : w1.cell? ⟨g, 0, none⟩ = some (.slice A n c) := by rw [cell_of_row w1 g 0 _ 43 _ HG1.out]; rfl
  have c1 : w1.cell? ⟨g, 1, none⟩ = some (.slice A' n' c') := by rw [cell_of_row w1 g 1 _ 43 _ HG1.out]; rfl
  have c2 : w1.cell? ⟨g, 2, none⟩ = some (.int .i64 k0) := by rw [cell_of_row w1 g 2 _ 43 _ HG1.out]; rfl
  have c3 : w1.cell? ⟨g, 3, none⟩ = some (.int .i64 k1) := by rw [cell_of_row w1 g 3 _ 43 _ HG1.out]; rfl
  go_wp2_with fail
  go_quiet (fail)
  obtain ⟨w2, hw2⟩ : ∃ w2, w2 = w1.drewN nq := ⟨_, rfl⟩
  have HG2 : Hid (w2.heap[g]? = some (.cells #[.slice A n c, .slice A' n' c', .int .i64 k0, .int .i64 k1] 43 (0, 0))) := by rw [hw2]; exact HG1.out
  have HS2 : Hid (St g w w2 []) := by rw [hw2]; exact HS1.out.step ⟨rfl, rfl, rfl, Nat.le_refl _, fun _ _ => rfl⟩
  rw [← hw2]
  clear hw2 HG1 HS1 c0 c1 c2 c3 hk0 hk1
  go_upto_region 4 with fail
  go_cut [3, 4] (fun s3 s4 wx => ∃ a b : Nat, s3 = .int .i64 a ∧ s4 = .int .i64 b ∧ a ≤ b ∧ b < 400 ∧ wx = w2)
  case first =>
    by_cases h : (N : Int) ≤ M
    · by_cases h' : (M : Int) ≤ N
      · go_wp2
        all_goals (go_meet; first | exact ⟨N, N, by go_num, by go_num, by omega, by omega, rfl⟩ | exact ⟨N, M, by go_num, by go_num, by omega, by omega, rfl⟩)
      · have h2 : (N : Int) < M := by omega
        go_wp2
        all_goals (go_meet; exact ⟨N, M, rfl, rfl, by omega, by omega, rfl⟩)
    · have h2 : (M : Int) < N := by omega
      clear h
      go_wp2
      all_goals (go_meet; exact ⟨M, N, rfl, rfl, by omega, by omega, rfl⟩)
  case rest =>
    obtain ⟨a, b, rfl, rfl, hab, hb4, rfl⟩ := hcut
    clear hN hM
    have HAB : Hid (a ≤ b ∧ b < 400) := ⟨hab, hb4⟩
    have c0 : wc.cell? ⟨g, 0, none⟩ = some (.slice A n c) := by rw [cell_of_row wc g 0 _ 43 _ HG2.out]; rfl
    have c1 : wc.cell? ⟨g, 1, none⟩ = some (.slice A' n' c') := by rw [cell_of_row wc g 1 _ 43 _ HG2.out]; rfl
    go_wp2_with fail
    refine (st_expand (N := a) HS2.out (HS2.out.old hVg.out) (HS2.out.old hXg.out) (by have := HL2.out; omega) (by have := HL2.out; omega) (by have := HAB.out; omega)).mono ?_
    rintro e w3 ⟨A3, n3, c3, rfl, hn3, ho3, hb3, hs⟩
    have HG3 : Hid (w3.heap[g]? = some (.cells #[.slice A n c, .slice A' n' c', .int .i64 k0, .int .i64 k1] 43 (0, 0))) := (hb3.block _ (heap_lt HG2.out)).trans HG2.out
    have HS3 := Lib.hid hs
    have HO3 : Hid (Bs (fun _ => True) w3 (.slice A3 n3 c3) (expand l m a)) := ho3.bs.mono (fun _ _ _ => trivial)
    have HN3 := Lib.hid hn3
    clear hs ho3 hb3 hn3 HS2 HG2 c0 c1
    have c0 : w3.cell? ⟨g, 0, none⟩ = some (.slice A n c) := by rw [cell_of_row w3 g 0 _ 43 _ HG3.out]; rfl
    have c1 : w3.cell? ⟨g, 1, none⟩ = some (.slice A' n' c') := by rw [cell_of_row w3 g 1 _ 43 _ HG3.out]; rfl
    go_wp2_with fail
    refine (st_expand (N := b) HS3.out (HS3.out.old hVg.out) (HS3.out.old hXg.out) (by have := HL2.out; omega) (by have := HL2.out; omega) (by have := HAB.out; omega)).mono ?_
    rintro e w4 ⟨A4, n4, c4, rfl, hn4, ho4, hb4', hs⟩
    have HS4 := Lib.hid hs
    have HO4 : Hid (Bs (fun _ => True) w4 (.slice A3 n3 c3) (expand l m a)) := HO3.out.keep (S := fun _ => False) (Keep.of_below hb4' (Nat.le_refl _) _) (fun _ _ => id)
    have HP4 : Hid (Bs (fun _ => True) w4 (.slice A4 n4 c4) (expand l m b)) := ho4.bs.mono (fun _ _ _ => trivial)
    have en3 : n3 = a := HN3.out
    subst en3
    subst hn4
    obtain ⟨y, hcut, hy⟩ := run_first (P := Tryd.prog) 22 i0 Tryd.underlying22 hi0 hz1 HP4.out n3 (by rw [expand_length]; exact HAB.out.1)
    rw [expand_prefix l m HAB.out.1] at hy
    have HYb := Lib.hid hy
    obtain ⟨R, hR⟩ : ∃ R, R = expand l m n3 := ⟨_, rfl⟩
    rw [← hR] at HYb HO4
    clear hs ho4 hb4' HS3 HG3 HO3 HP4 c0 c1 hy hR hab hb4
    go_wp2_with fail
    refine region_quiet_grown (by kernel_rfl) (by kernel_rfl) ?_
    show wpQuiet _ _ _ _ _ ⟨_, _⟩
    go_big_quiet_step (fail)
    refine wg_run (v := .bool true) (by rfl) (fun w' _ => by unfold execOp; simp only [Act.eval]; go_simp) ?_
    go_simp
    go_big_quiet_step (fail)
    go_big_quiet_step (fail)
    refine wg_run (v := .bool true) (by rfl) (fun w' _ => by unfold execOp; simp only [Act.eval]; go_simp) ?_
    go_simp
    refine wg_run (v := .bool true) (by rfl) (fun w' _ => by unfold execOp; simp only [Act.eval]; go_simp) ?_
    go_simp
    go_big_quiet_step (fail)
    go_big_quiet_step (fail)
    refine wg_run (v := .int .i64 (n3 : Int)) (by rfl) (fun w' _ => by unfold execOp; simp only [Act.eval]; go_simp) ?_
    go_simp
    go_big_quiet_step (fail)
    refine wg_run (v := .bool true) (by rfl) (fun w' _ => by unfold execOp; simp only [Act.eval]; go_simp) ?_
    go_simp
    refine wg_run (v := .bool true) (by rfl) (fun w' _ => by unfold execOp; simp only [Act.eval]; go_simp) ?_
    go_simp
    go_big_quiet_step (fail)
    go_big_quiet_step (fail)
    refine wg_run (v := .int .i64 (n4 : Int)) (by rfl) (fun w' _ => by unfold execOp; simp only [Act.eval]; go_simp) ?_
    go_simp
    go_big_quiet_step (fail)
    refine wg_run (v := .bool true) (by rfl) (fun w' _ => by unfold execOp; simp only [Act.eval]; go_simp) ?_
    go_simp
    refine wg_run (v := .bool true) (by rfl) (fun w' _ => by unfold execOp; simp only [Act.eval]; go_simp) ?_
    go_simp
    go_big_quiet_step (fail)
    go_big_quiet_step (fail)
    refine wg_convert (u := .slice A3 n3 c3) (by rfl) 22 9 (.tmp 77) (by rfl) (by rfl) (fun w' hw' => run_string_bs Tryd.underlying22 Tryd.underlying5 Tryd.underlying9 (HO4.out.keep (S := fun _ => False) (Keep.of_grown hw' (by simp)) (fun _ _ => id))) ?_
    go_simp
    go_big_quiet_step (fail)
    go_big_quiet_step (fail)
    refine wg_run (v := y) (by rfl) (fun w' _ => by unfold execOp; simp only [Act.eval]; go_simp) ?_
    go_simp
    refine wg_convert (u := y) (by rfl) 22 9 (.tmp 81) (by rfl) (by rfl) (fun w' hw' => run_string_bs Tryd.underlying22 Tryd.underlying5 Tryd.underlying9 (HYb.out.keep (S := fun _ => False) (Keep.of_grown hw' (by simp)) (fun _ _ => id))) ?_
    go_simp
    refine wg_run (v := .bool true) (by rfl) (fun w' _ => by unfold execOp; simp only [Act.eval]; go_simp) ?_
    go_simp
    refine wg_run (v := .bool true) (by rfl) (fun w' _ => by unfold execOp; simp only [Act.eval]; go_simp) ?_
    go_simp
    go_big_quiet_step (fail)
    refine wpQuiet_nil ?_
    intro w5 hw5
    have HS5 := Lib.hid (HS4.out.grown hw5)
    clear hw5
    go_wp2
    go_ret
    exact ⟨rfl, by first | exact HS5.out.below | (rw [hg]; exact HS5.out.below)⟩
set_option maxRecDepth 100000 in
theorem hkdfFewer_big1 {w : World} {v x : Value} {l m : List UInt8} {k0 k1 : Int} {ok ok' : Nat → Prop} (hL : Laid w) (hv : Bs ok w v l) (hx : Bs ok' w x m) (hb : 3000 < l.length) : Calls Tryd.prog 9 #[.agg #[v, x, .int .i64 k0, .int .i64 k1]] w fun e w' => e = .returned (.bool true) ∧ Below w.heap.size w w' := by
  have HS := Lib.hid (St.start hL)
  obtain ⟨A, n, c, rfl, hn, hc, hbk⟩ := hv
  obtain ⟨A', n', c', rfl, hn', hc', hbk'⟩ := hx
  have hn5 : (3000 : Int) < n := by omega
  clear hc hbk hL hc' hbk' hn hn' hb
  obtain ⟨g, hg⟩ : ∃ g, w.heap.size = g := ⟨_, rfl⟩
  obtain ⟨wa, hwa⟩ : ∃ wa, wa = w.alloc (.cells #[.slice A n c, .slice A' n' c', .int .i64 k0, .int .i64 k1] 43) := ⟨_, rfl⟩
  have HGa : Hid (wa.heap[g]? = some (.cells #[.slice A n c, .slice A' n' c', .int .i64 k0, .int .i64 k1] 43 (0, 0))) := by rw [hwa]; exact heap_new' _ _ _ hg.symm
  have HSa : Hid (St g w wa []) := by rw [hwa, ← hg]; exact HS.out.alloc _
  clear HS
  have HWA := Lib.hid hwa
  clear hwa
  go_enter Tryd.func9, Tryd.ntmps9
  go_wp2_with fail
  rw [← HWA.out]
  refine (expands_any HSa.out.laid).mono ?_
  rintro e w1 ⟨rfl, hb1⟩
  have HG1 : Hid (w1.heap[g]? = some (.cells #[.slice A n c, .slice A' n' c', .int .i64 k0, .int .i64 k1] 43 (0, 0))) := (hb1.block _ (heap_lt HGa.out)).trans HGa.out
  have HS1 := Lib.hid (HSa.out.step hb1)
  clear hb1 HSa HGa
  have c0 : w1.cell? ⟨g, 0, none⟩ = some (.slice A n c) := by rw [cell_of_row w1 g 0 _ 43 _ HG1.out]; rfl
  have c1 : w1.cell? ⟨g, 1, none⟩ = some (.slice A' n' c') := by rw [cell_of_row w1 g 1 _ 43 _ HG1.out]; rfl
  go_wp2_with fail
  refine (st_expands HS1.out).mono ?_
  rintro e w2 ⟨rfl, hs⟩
  have HS2 := Lib.hid hs
  clear hs c0 c1
  go_wp2
  go_ret
  exact ⟨rfl, by first | exact HS2.out.below | (rw [hg]; exact HS2.out.below)⟩
set_option maxRecDepth 100000 in
theorem hkdfFewer_big2 {w : World} {v x : Value} {l m : List UInt8} {k0 k1 : Int} {ok ok' : Nat → Prop} (hL : Laid w) (hv : Bs ok w v l) (hx : Bs ok' w x m) (hb : l.length ≤ 3000) (hc0 : 300 < m.length) : Calls Tryd.prog 9 #[.agg #[v, x, .int .i64 k0, .int .i64 k1]] w fun e w' => e = .returned (.bool true) ∧ Below w.heap.size w w' := by
  have HS := Lib.hid (St.start hL)
  obtain ⟨A, n, c, rfl, hn, hc, hbk⟩ := hv
  obtain ⟨A', n', c', rfl, hn', hc', hbk'⟩ := hx
  have hn5 : (n : Int) ≤ 3000 := by omega
  have hn6 : (300 : Int) < n' := by omega
  clear hc hbk hL hc' hbk' hn hn' hb hc0
  obtain ⟨g, hg⟩ : ∃ g, w.heap.size = g := ⟨_, rfl⟩
  obtain ⟨wa, hwa⟩ : ∃ wa, wa = w.alloc (.cells #[.slice A n c, .slice A' n' c', .int .i64 k0, .int .i64 k1] 43) := ⟨_, rfl⟩
  have HGa : Hid (wa.heap[g]? = some (.cells #[.slice A n c, .slice A' n' c', .int .i64 k0, .int .i64 k1] 43 (0, 0))) := by rw [hwa]; exact heap_new' _ _ _ hg.symm
  have HSa : Hid (St g w wa []) := by rw [hwa, ← hg]; exact HS.out.alloc _
  clear HS
  have HWA := Lib.hid hwa
  clear hwa
  go_enter Tryd.func9, Tryd.ntmps9
  go_wp2_with fail
  rw [← HWA.out]
  refine (expands_any HSa.out.laid).mono ?_
  rintro e w1 ⟨rfl, hb1⟩
  have HG1 : Hid (w1.heap[g]? = some (.cells #[.slice A n c, .slice A' n' c', .int .i64 k0, .int .i64 k1] 43 (0, 0))) := (hb1.block _ (heap_lt HGa.out)).trans HGa.out
  have HS1 := Lib.hid (HSa.out.step hb1)
  clear hb1 HSa HGa
  have c0 : w1.cell? ⟨g, 0, none⟩ = some (.slice A n c) := by rw [cell_of_row w1 g 0 _ 43 _ HG1.out]; rfl
  have c1 : w1.cell? ⟨g, 1, none⟩ = some (.slice A' n' c') := by rw [cell_of_row w1 g 1 _ 43 _ HG1.out]; rfl
  go_wp2_with fail
  refine (st_expands HS1.out).mono ?_
  rintro e w2 ⟨rfl, hs⟩
  have HS2 := Lib.hid hs
  clear hs c0 c1
  go_wp2
  go_ret
  exact ⟨rfl, by first | exact HS2.out.below | (rw [hg]; exact HS2.out.below)⟩
end Go.Proofs.YtmifegjmmlipbaaDoor
