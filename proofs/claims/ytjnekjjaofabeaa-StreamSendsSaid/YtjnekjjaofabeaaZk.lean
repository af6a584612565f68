/-
  StreamSends (f5): the walk.
-/
import Derived.Test.YtjnekjjaofabeaaZm
import Derived.Deep.CutBlock
import Derived.Test.YtjnekjjaofabeaaOf
import Derived.Test.YtjnekjjaofabeaaOg
namespace Go.Proofs.Ytjnekjjaofabeaa
open Go.RowKit Go.Rh Rng

/-- A row of pushes in memory. -/
def Pushes (W : World) (A : Option Addr) (n : Nat) (X : Nat → Ph) : Prop :=
  0 < n → ∃ b off, A = some ⟨b, off, none⟩ ∧ b < W.heap.size ∧ ∀ j, j < n → ∀ i, i < 7 → W.cell? ⟨b, off + j * 7 + i, none⟩ = (X j).cells[i]?

set_option maxHeartbeats 4000000 in
set_option maxRecDepth 100000 in
theorem sends_any {w : World} {A : Option Addr} {n c : Nat} {X : Nat → Ph} (hx : Pushes w A n X) (hN : ∀ j, j < n → (X j).N ≤ 9223372036854775807) (hn : (n : Int) ≤ 9223372036854775807) (hc : n ≤ c) (lim : Int) :
    Calls Try.prog 5 #[.int .i64 lim, .slice A n c] w fun e w' => e = .returned (.bool true) ∧ Below w.heap.size w w' := by
  have HX := Lib.hid hx
  have HNN := Lib.hid hN
  clear hx hN
  go_enter Try.func5, Try.ntmps5
  go_upto_region 5 with (first
    | (go_at_call 18; refine (nobody_any _).mono ?_; rintro e w' ⟨rfl, hh⟩; obtain rfl := hh.symm)
    | (go_at_call 17; refine (allow_nil _ _).mono ?_; rintro e w' ⟨⟨u, rfl⟩, hh⟩; obtain rfl := hh.symm)
    | (go_at_call 15; refine (next_no (.inl rfl)).mono ?_; rintro e w1 ⟨rfl, k1⟩; have K1 := Lib.hid k1; clear k1)
    | (go_at_call 7; refine (flows_any _).mono ?_; rintro e w2 ⟨rfl, k2⟩; have K2 := Lib.hid k2; clear k2)
    | (go_at_call 19; refine (done_nil _).mono ?_; rintro e w3 ⟨rfl, k3⟩; have K3 := Lib.hid k3; clear k3)
    | (go_at_call 16; refine (fresh_nil _).mono ?_; rintro e w' ⟨rfl, hh⟩; obtain rfl := hh.symm)
    | (go_at_call 13; refine (write_nil _).mono ?_; rintro e w' ⟨rfl, hh⟩; obtain rfl := hh.symm)
    | (go_at_call 20; refine (lost_nil _ _ _ _).mono ?_; rintro e w4 ⟨rfl, k4⟩; have K4 := Lib.hid k4; clear k4))
  have hb : Below w.heap.size w w4 := by
    have k1 := (K1.out.alloc (.cells #[.int .i64 0, .string ⟨#[]⟩, .bool false] 34))
    have k2 := k1.trans (Keep.of_below K2.out (Nat.le_refl _) (fun _ => False)) (fun _ _ e => e)
    exact ((k2.trans K3.out (fun _ _ e => e)).trans K4.out (fun _ _ e => e)).below (Nat.le_refl _) (fun _ _ e => e)
  have HB := Lib.hid hb
  clear hb K1 K2 K3 K4
  by_cases hl : lim < 0 ∨ 1099511627776 < lim
  · have hno := newsend_no w4 lim hl
    have HNO := Lib.hid hno
    clear hno
    rcases hl with hl | hl
    · go_wp2_with (first | (go_at_call 12; refine HNO.out.mono ?_; rintro e w' ⟨rfl, hh⟩; obtain rfl := hh.symm))
      go_ret
      exact ⟨by first | rfl | trivial, HB.out⟩
    · have hl0 : ¬ lim < 0 := by omega
      go_wp2_with (first | (go_at_call 12; refine HNO.out.mono ?_; rintro e w' ⟨rfl, hh⟩; obtain rfl := hh.symm))
      go_ret
      exact ⟨by first | rfl | trivial, HB.out⟩
  · have hl0 : ¬ lim < 0 := by omega
    have hl1 : ¬ 1099511627776 < lim := by omega
    go_wp2_with (first
      | (go_at_call 12; refine (newsend_any _ lim (by omega) (by omega)).mono ?_; rintro e w5 ⟨S, rfl, h5, k5⟩; have H5 := Lib.hid h5; have K5 := Lib.hid k5; clear h5 k5)
      | (go_at_call 21; refine (refnew_any _ lim).mono ?_; rintro e w6 ⟨R, rfl, h6, k6⟩; have H6 := Lib.hid h6; have K6 := Lib.hid k6; clear h6 k6))
    have z4 := HB.out.size
    have z5 := K5.out.size
    have z6 := K6.out.size
    have hst : St3 w.heap.size w6 S R (.slice none 0 0) (snew lim) (refN lim) [] (fun i => w4.heap.size ≤ i ∧ i < w5.heap.size) (fun i => w5.heap.size ≤ i ∧ i < w6.heap.size) :=
      ⟨(H5.out.mono (fun i hi e => ⟨e, hi⟩)).keep (Keep.of_below K6.out (Nat.le_refl _) (fun _ => False)) (fun _ _ => id), H6.out.mono (fun i hi e => ⟨e, hi⟩), World.ownsRow_nil _ _ _ _, fun k hk => by omega, fun k hk => by omega, fun k h1 h2 => by omega, fun k hk => by simp [Value.ownBlock] at hk⟩
    have hb6 : Below w.heap.size w w6 := (HB.out.trans (K5.out.mono z4)).trans (K6.out.mono (by omega))
    have HST := Lib.hid hst
    have HB6 := Lib.hid hb6
    have HREL := Lib.hid (Rel.new (n := lim) ⟨by omega, by omega⟩)
    clear hst hb6 HB H5 K5 H6 K6 z4 z5 z6 hl hl0 hl1
    go_loopw [10, 11] (fun h i wr => ∃ (i' : Nat) (s : Snd) (r : Rs) (L : List Pc) (F1 F2 : Nat → Prop), i = .int .i64 (i' : Int) ∧ i' ≤ n ∧ i' ≤ 80 ∧ Rel s r ∧ St3 w.heap.size wr S R h s r L F1 F2 ∧ Below w.heap.size w wr ∧ s.b.length ≤ 2000 * i' ∧ L.length ≤ i') (fun _ i _ => 80 - (intOf i).toNat)
    case atStart => exact ⟨0, _, _, [], _, _, rfl, Nat.zero_le _, by omega, HREL.out, HST.out, HB6.out, by simp [snew], Nat.le_refl _⟩
    case round =>
      clear HST HB6 HREL
      obtain ⟨i, s, r, L, F1, F2, rfl, hi1, hi2, hR, hst, hB, hbl, hL⟩ := hrel
      have HR := Lib.hid hR
      have HS := Lib.hid hst
      have HB := Lib.hid hB
      have HL := Lib.hid (show s.b.length ≤ 2000 * i ∧ L.length ≤ i from ⟨hbl, hL⟩)
      clear hR hst hB hbl hL
      by_cases hcon : i < n ∧ i < 80
      · obtain ⟨hc1, hc2⟩ := hcon
        have d1 : (i : Int) < (n : Int) := by omega
        have d2 : (i : Int) < 80 := by omega
        have dd1 : decide ((i : Int) < (n : Int)) = true := decide_eq_true d1
        have dd2 : decide ((i : Int) < 80) = true := decide_eq_true d2
        obtain ⟨b, off, rfl, hbw, hcells⟩ := HX.out (by omega)
        have hbr : b < wr.heap.size := Nat.lt_of_lt_of_le hbw HB.out.size
        have hcr : ∀ k, k < 7 → wr.cell? ⟨b, off + i * 7 + k, none⟩ = (X i).cells[k]? := fun k hk => (World.cell?_of_block (HB.out.block b hbw)).trans (hcells i hc1 k hk)
        obtain ⟨v, hv⟩ : ∃ v, v = X i := ⟨_, rfl⟩
        rw [← hv] at hcr
        have e0 : wr.cell? ⟨b, off + i * 7, none⟩ = some (.int .i64 v.what) := hcr 0 (by omega)
        have e1 : wr.cell? ⟨b, off + i * 7 + 1, none⟩ = some (.int .i64 v.N) := hcr 1 (by omega)
        have e2 : wr.cell? ⟨b, off + i * 7 + 2, none⟩ = some (.string (S8 v.data)) := hcr 2 (by omega)
        have e3 : wr.cell? ⟨b, off + i * 7 + 3, none⟩ = some (.bool v.raw) := hcr 3 (by omega)
        have e4 : wr.cell? ⟨b, off + i * 7 + 4, none⟩ = some (.int .i64 v.p.off) := hcr 4 (by omega)
        have e5 : wr.cell? ⟨b, off + i * 7 + 5, none⟩ = some (.string (S8 v.p.d)) := hcr 5 (by omega)
        have e6 : wr.cell? ⟨b, off + i * 7 + 6, none⟩ = some (.bool v.p.fin) := hcr 6 (by omega)
        have hic : i < c := by omega
        have HVN : Hid (v.N ≤ 9223372036854775807) := by rw [hv]; exact HNN.out i hc1
        clear hcr hcells hv
        go_upto_region 17 with fail
        obtain ⟨Y, hY⟩ : ∃ Y, Y = wr.heap.size := ⟨_, rfl⟩
        obtain ⟨P, hP⟩ : ∃ P, P = wr.heap.size + 1 := ⟨_, rfl⟩
        obtain ⟨W1, hW1⟩ : ∃ W1, W1 = (wr.alloc (.cells #[.int .i64 v.what, .int .i64 v.N, .string (S8 v.data), .bool v.raw, .int .i64 v.p.off, .string (S8 v.p.d), .bool v.p.fin] 59)).alloc (.cells #[.int .i64 v.p.off, .string (S8 v.p.d), .bool v.p.fin] 57) := ⟨_, rfl⟩
        have k1 : Keep wr W1 (fun _ => False) := by rw [hW1]; exact ((Keep.refl wr _).alloc _).alloc _
        have mY : W1.heap[Y]? = some (.cells v.cells 59 (0, 0)) := by rw [hW1, hY]; exact (heap2 _ _ _).1
        have mP : W1.heap[P]? = some (.cells #[.int .i64 v.p.off, .string (S8 v.p.d), .bool v.p.fin] 57 (0, 0)) := by rw [hW1, hP]; exact (heap2 _ _ _).2
        have zW : W1.heap.size = Y + 2 := by rw [hW1, hY]; simp
        rw [← hW1, ← hP, ← hY]
        have hYw : w.heap.size ≤ Y := by rw [hY]; exact HB.out.size
        have hYr : Y = wr.heap.size ∧ P = Y + 1 := ⟨hY, by omega⟩
        have HS1 := Lib.hid (HS.out.keep k1 (fun i _ e => e.elim))
        have HB1 : Hid (Below w.heap.size w W1) := (HB.out.trans ((k1.below (B := w.heap.size) HB.out.size (fun _ _ e => e))))
        have HK1 := Lib.hid k1
        have HMY := Lib.hid mY
        have HMP := Lib.hid mP
        have HYR := Lib.hid hYr
        have HZW := Lib.hid (show W1.heap.size = Y + 2 ∧ w.heap.size ≤ Y from ⟨zW, hYw⟩)
        clear hW1 hY hP k1 mY mP zW hYw hYr e0 e1 e2 e3 e4 e5 e6 d1 d2 hic hbr hbw
        obtain ⟨A2, n2, c2, hn2, rfl⟩ : ∃ A2 n2 c2, n2 = L.length ∧ u10 = .slice A2 n2 c2 := by
          rcases HS1.out.hd.2 with ⟨hh, hL0⟩ | ⟨g, cap, cur, hh, -⟩
          · exact ⟨_, _, _, hL0.symm, hh⟩
          · exact ⟨_, _, _, rfl, hh⟩
        have HN2 := Lib.hid hn2
        clear hn2
        go_cut [97] from 84 to 97 (fun s97 wx => ∃ tb : Bool, s97 = .bool tb ∧ wx = W1 ∧ Hid (tb = true → v.raw = false ∧ 0 < n2))
        case first =>
          have y3 : W1.cell? ⟨Y, 3, none⟩ = some (.bool v.raw) := by rw [cell_of_row W1 Y 3 _ _ _ HMY.out]; rfl
          cases hraw : v.raw with
          | true =>
            rw [hraw] at y3
            clear hraw
            go_wp2_with fail
            go_meet
            exact ⟨false, rfl, by first | rfl | trivial, fun e => by cases e⟩
          | false =>
            rw [hraw] at y3
            have HRW := Lib.hid hraw
            clear hraw
            rcases Nat.eq_zero_or_pos n2 with hL0 | hL0
            · subst hL0
              go_wp2_with fail
              go_meet
              exact ⟨false, rfl, by first | rfl | trivial, fun e => by cases e⟩
            · have h0m : (0 : Int) < (n2 : Int) := by omega
              have HL0 := Lib.hid hL0
              go_wp2_with fail
              go_meet
              exact ⟨true, rfl, by first | rfl | trivial, fun _ => ⟨HRW.out, HL0.out⟩⟩
        obtain ⟨tb, rfl, hwc, htb⟩ := hcut
        obtain rfl := hwc.symm
        have HTB := Lib.hid htb
        clear htb hwc
        go_upto_if 97 with fail
        go_cut [] from 84 to 108 (fun wx => ∃ p : Pc, Hid (wx.heap[P]? = some (.cells #[.int .i64 p.off, .string (S8 p.d), .bool p.fin] 57 (0, 0))) ∧ Hid (Keep W1 wx (fun k => k = P)))
        case first =>
          have y1 : W1.cell? ⟨Y, 1, none⟩ = some (.int .i64 v.N) := by rw [cell_of_row W1 Y 1 _ _ _ HMY.out]; rfl
          have y3 : W1.cell? ⟨Y, 3, none⟩ = some (.bool v.raw) := by rw [cell_of_row W1 Y 3 _ _ _ HMY.out]; rfl
          have x0 : W1.cell? ⟨P, 0, none⟩ = some (.int .i64 v.p.off) := by rw [cell_of_row W1 P 0 _ _ _ HMP.out]; rfl
          have x1 : W1.cell? ⟨P, 1, none⟩ = some (.string (S8 v.p.d)) := by rw [cell_of_row W1 P 1 _ _ _ HMP.out]; rfl
          have x2 : W1.cell? ⟨P, 2, none⟩ = some (.bool v.p.fin) := by rw [cell_of_row W1 P 2 _ _ _ HMP.out]; rfl
          have z0 : W1.frozen? ⟨P, 0, none⟩ = false := by simp [World.frozen?, HMP.out]
          have z1 : W1.frozen? ⟨P, 1, none⟩ = false := by simp [World.frozen?, HMP.out]
          have z2 : W1.frozen? ⟨P, 2, none⟩ = false := by simp [World.frozen?, HMP.out]
          cases tb with
          | false =>
            go_wp2_with fail
            go_meet
            exact ⟨v.p, HMP, Keep.refl _ _⟩
          | true =>
            obtain ⟨-, hL0⟩ := HTB.out.out rfl
            rcases HS1.out.hd.2 with ⟨hh, hL1⟩ | ⟨g, cap, cur, hh, hgb, hgm, hg1, hg2, hg3, hg4⟩
            · exfalso; have := HN2.out; omega
            obtain ⟨e1, e2, e3⟩ : A2 = some ⟨g, 0, none⟩ ∧ n2 = L.length ∧ c2 = cap := by injection hh with e1 e2 e3; exact ⟨e1, e2, e3⟩
            subst e1
            subst e3
            obtain ⟨m, hm⟩ : ∃ m, n2 = m + 1 := ⟨n2 - 1, by omega⟩
            have hLb := HL.out.2
            have hq := rm_is v.N m (by omega)
            have hql := rm_le v.N m
            obtain ⟨q, hqq⟩ : ∃ q, q = rm v.N m := ⟨_, rfl⟩
            rw [← hqq] at hq hql
            obtain ⟨pp, hpp⟩ : ∃ pp, L[q]? = some pp := ⟨L[q]'(by omega), List.getElem?_eq_getElem _⟩
            have hfl := flatP_at hpp
            have hcell : ∀ i u, (flatP L)[i]? = some u → W1.cell? ⟨g, i, none⟩ = some u := by
              intro i u hu
              have := HS1.out.hd.cells (g := g) rfl i u hu
              rwa [Addr.add_lit, Nat.zero_add] at this
            have g0 := hcell _ _ hfl.1
            have g1 := hcell _ _ hfl.2.1
            have g2 := hcell _ _ hfl.2.2
            have hul : IntKind.u64.wrap ((m : Int) + 1) = (m : Int) + 1 := by rw [IntKind.wrap_u64]; omega
            have hqi : (q : Int) < (m : Int) + 1 := by omega
            have hq1 : q < m + 1 := by omega
            have h0m : (0 : Int) < (m : Int) + 1 := by omega
            have hmc : m + 1 ≤ c2 := by omega
            subst hm
            clear hh hgm hg4 hcell hfl hpp hqq hg3 hL0 e2
            go_wp2_with fail
            go_meet
            refine ⟨pp, ?_, ?_⟩
            · exact set_block (set_block (set_block HMP.out 0 (.int .i64 pp.off)) 1 (.string (S8 pp.d))) 2 (.bool pp.fin)
            · exact ((Keep.setCell (S := fun k => k = P) (Keep.refl W1 _) (p := ⟨P, 0, none⟩) (.inr rfl) _).setCell (p := ⟨P, 1, none⟩) (.inr rfl) _).setCell (p := ⟨P, 2, none⟩) (.inr rfl) _
        case rest =>
          obtain ⟨p, HMPc, HKc⟩ := hcut
          have hyr := HYR.out
          have hzw := HZW.out
          have mYc := (HKc.out.block Y (heap_lt HMY.out) (fun e => by omega)).trans HMY.out
          obtain ⟨wt, hwt⟩ : ∃ wt, wt = v.what := ⟨_, rfl⟩
          obtain ⟨vn, hvn⟩ : ∃ vn, vn = v.N := ⟨_, rfl⟩
          obtain ⟨vd, hvd⟩ : ∃ vd, vd = v.data := ⟨_, rfl⟩
          have y0 : wc.cell? ⟨Y, 0, none⟩ = some (.int .i64 wt) := by rw [hwt, cell_of_row wc Y 0 _ _ _ mYc]; rfl
          have y1 : wc.cell? ⟨Y, 1, none⟩ = some (.int .i64 vn) := by rw [hvn, cell_of_row wc Y 1 _ _ _ mYc]; rfl
          have y2 : wc.cell? ⟨Y, 2, none⟩ = some (.string (S8 vd)) := by rw [hvd, cell_of_row wc Y 2 _ _ _ mYc]; rfl
          have hsc : St3 w.heap.size wc S R (.slice A2 n2 c2) s r L F1 F2 := HS1.out.keep HKc.out (fun i hi e => ⟨fun f => by have := (HS.out.b1 i f).2; omega, fun f => by have := (HS.out.b2 i f).2; omega, fun f => by have := (HS.out.hd.lt i f).2; omega⟩)
          have hbc : Below w.heap.size w wc := HB1.out.trans (HKc.out.below (by omega) (fun i hi e => by omega))
          have HSC := Lib.hid hsc
          have HBC := Lib.hid hbc
          have HZC := Lib.hid (show w.heap.size ≤ wc.heap.size from hbc.size)
          have HYP := Lib.hid (show ∀ i, (F1 i ∨ F2 i ∨ (Value.slice A2 n2 c2).ownBlock = some i) → i < Y from fun i hi => by
            rcases hi with f | f | f
            · have := (HS.out.b1 i f).2; omega
            · have := (HS.out.b2 i f).2; omega
            · have := (HS.out.hd.lt i f).2; omega)
          have hbb : s.b.length + 2000 ≤ 199998 := by have := HL.out.1; omega
          have HBB := Lib.hid hbb
          have HMYc := Lib.hid mYc
          have HPY := Lib.hid (show P = Y + 1 from hyr.2)
          have HVB : Hid (vn ≤ 9223372036854775807) := by rw [hvn]; exact HVN.out
          clear hyr hzw mYc hwt hvn hvd hsc hbc hbb HS HB HS1 HB1 HK1 HMY HMP HKc HTB
          go_upto_block 2 with fail
          go_cut [10, 14, 15, 16, 17, 18, 19, 20] from 109 to 212 (fun h _ _ _ _ _ _ _ wx => ∃ (s' : Snd) (r' : Rs) (L' : List Pc) (F1' F2' : Nat → Prop), Hid (Rel s' r') ∧ Hid (St3 w.heap.size wx S R h s' r' L' F1' F2') ∧ Hid (Below w.heap.size w wx) ∧ Hid (s'.b.length ≤ 2000 * (i + 1) ∧ L'.length ≤ i + 1))
          case first =>
            by_cases h1 : wt = 1
            · obtain ⟨m, hm, hm1, hm2⟩ : ∃ m : Nat, (if (2000 : Int) < (vd.length : Int) then 2000 else (vd.length : Int)) = (m : Int) ∧ m ≤ 2000 ∧ m ≤ vd.length := by
                by_cases h : 2000 < vd.length
                · exact ⟨2000, by rw [if_pos (by omega)]; rfl, by omega, by omega⟩
                · exact ⟨vd.length, by rw [if_neg (by omega)], by omega, by omega⟩
              obtain ⟨d0, hd0⟩ : ∃ d0, d0 = vd.take m := ⟨_, rfl⟩
              have hl0 : d0.length = m := by rw [hd0, List.length_take]; omega
              have hex : (S8 vd).extract 0 m = S8 d0 := by rw [S8_extract, hd0]; simp
              have hszv : (S8 vd).size = vd.length := S8_size vd
              obtain ⟨v3, w3, hcv, how, hbl, hob⟩ := run_bytes_S8 (P := Try.prog) Try.underlying9 Try.underlying44 Try.underlying5 d0 wc
              obtain ⟨A3, n3, c3, hn3, rfl⟩ := how.form
              have k3 : Keep wc w3 (fun _ => False) := Keep.of_below hbl (Nat.le_refl _) _
              obtain ⟨st3, be3, sz3⟩ := HSC.out.near HBC.out HZC.out k3
              have hyl : Y < wc.heap.size := heap_lt HMYc.out
              have hnf : ∀ i, (Value.slice A3 n3 c3).ownBlock = some i → ¬ (F1 i ∨ F2 i) := fun i hi e => by
                have h1 := HYP.out i (by rcases e with e | e; exact .inl e; exact .inr (.inl e))
                rw [hob] at hi
                injection hi with hi
                omega
              obtain ⟨e, s', r', hR', hlen, hA, hB⟩ := st_write (B := w.heap.size) (w := w) (S := S) (R := R) (L := L) HR.out d0 (by have := HBB.out; omega)
              have hA1 := hA w3 _ F1 F2 A3 n3 c3 st3 be3 sz3 (how.bs.mono (fun i _ hi e => hnf i hi (.inl e)))
              have HOW := Lib.hid how
              have HOB := Lib.hid (show ∀ i, (Value.slice A3 n3 c3).ownBlock = some i → i = wc.heap.size from fun i hi => by rw [hob] at hi; injection hi with hi; exact hi.symm)
              have HNF := Lib.hid hnf
              have HA1 := Lib.hid hA1
              have HB1 := Lib.hid hB
              have HR1 := Lib.hid (show Rel s' r' ∧ s'.b.length ≤ 2000 * (i + 1) from ⟨hR', by have := HL.out.1; omega⟩)
              have HN3 := Lib.hid hn3
              have HK3 := Lib.hid k3
              have HS3 := Lib.hid st3
              have hn3b : n3 ≤ 2000 := by omega
              have hm3 : ¬ (vd.length : Int) < (m : Int) := by omega
              have hmz : (0 : Int) ≤ (m : Int) := by omega
              have hmt : (m : Int).toNat = m := by omega
              clear how hob hnf hA1 hB hR' hlen hA k3 st3 be3 sz3 hbl hn3 hd0 hl0 y1
              subst h1
              go_upto_region 25 with (first
                | (go_at_call 13; refine HA1.out.mono ?_; rintro e' wa ⟨rfl, ba, ⟨Fa, sa, ia⟩, ka⟩; have how := HOW.out.keep ka (fun i hi e => HNF.out i hi (.inl e)); have hcb := run_string_bs (P := Try.prog) Try.underlying44 Try.underlying5 Try.underlying9 how.bs; have HOA := Lib.hid how; have hb2 := HB1.out wa _ Fa F2 sa ba ba.size; have HB2 := Lib.hid hb2; have HIA := Lib.hid ia; have HZA := Lib.hid ka.size; clear ba sa ka hb2 how ia)
                | (go_at_call 22; refine HB2.out.mono ?_; rintro e' wb ⟨rfl, bb, ⟨Fb, sb, ib⟩, kb⟩; have how := HOA.out.keep kb (fun i hi e => HNF.out i hi (.inr e)); have HOB2 := Lib.hid how; have SB := Lib.hid sb; have BB := Lib.hid bb; have HIB := Lib.hid ib; clear sb bb kb how ib))
              have hfree : ∀ i, (Value.slice A3 n3 c3).ownBlock = some i → ¬ Fa i ∧ ¬ Fb i ∧ ¬ (Value.slice A2 n2 c2).ownBlock = some i := by
                intro i hi
                have h1 := HOB.out i hi
                have hnf := HNF.out i hi
                have h3 := (HOW.out.lt i hi).2
                have hza := HZA.out
                refine ⟨fun e => hnf (.inl (HIA.out i h3 e)), fun e => hnf (.inr (HIB.out i (by omega) e)), fun e => ?_⟩
                have := (HS3.out.hd.lt i e).2
                have h4 := HYP.out i (.inr (.inr e))
                have h5 := heap_lt HMYc.out
                omega
              have HFREE := Lib.hid hfree
              clear hfree
              go_wp2_with fail
              go_loopw [16] (fun k wr2 => ∃ kk : Nat, k = .int .i64 (kk : Int) ∧ kk ≤ n3 ∧ Keep wb wr2 (fun i => (Value.slice A3 n3 c3).ownBlock = some i) ∧ (0 < n3 → ∃ g o cs fr, A3 = some ⟨g, o, none⟩ ∧ wr2.heap[g]? = some (.cells cs 5 fr) ∧ free fr cs.size ∧ o + n3 ≤ cs.size ∧ n3 ≤ c3 ∧ ∀ j, j < n3 → ∃ u, cs[o + j]? = some (.int .u8 u))) (fun k _ => n3 - (intOf k).toNat)
              case atStart =>
                refine ⟨0, rfl, Nat.zero_le _, Keep.refl _ _, fun h0 => ?_⟩
                rcases HOB2.out with ⟨e, _⟩ | ⟨g, o, c', cs, fr, e, _, g1, g2, g3, g4, g5⟩
                · injection e with e1 e2 e3
                  omega
                · injection e with e1 e2 e3
                  subst e3
                  exact ⟨g, o, cs, fr, e1, g1, g2, by omega, by omega, fun j hj => ⟨_, g5 j (by omega)⟩⟩
              case round =>
                obtain ⟨kk, rfl, hk, hkp, hrow⟩ := hrel
                by_cases hlt : kk < n3
                · obtain ⟨g, o, cs, fr, rfl, hg, hf, hfit, hcap, hcs⟩ := hrow (by omega)
                  obtain ⟨u, hu⟩ := hcs kk hlt
                  have cg : wr.cell? ⟨g, o + kk, none⟩ = some (.int .u8 u) := by rw [cell_of_row wr g _ _ _ _ hg]; exact hu
                  have fg : wr.frozen? ⟨g, o + kk, none⟩ = false := frozen_free hg hf (by omega)
                  have hk1 : (kk : Int) < (n3 : Int) := by omega
                  have hkc : kk < c3 := by omega
                  have HG := Lib.hid (show _ ∧ _ ∧ _ ∧ _ ∧ _ from ⟨hg, hf, hfit, hcap, hcs⟩)
                  have HKP := Lib.hid hkp
                  clear hg hf hfit hcap hcs hkp hrow hu
                  go_wp2_with fail
                  go_roundw
                  case rel =>
                    obtain ⟨hg, hf, hfit, hcap, hcs⟩ := HG.out
                    refine ⟨kk + 1, by go_num, by omega, HKP.out.setCell (p := ⟨g, o + kk, none⟩) (.inr rfl) _, fun _ => ⟨g, o, cs.setIfInBounds (o + kk) (.int .u8 45), fr, rfl, by rw [setCell_eq_setRow wr g (o + kk) cs 5 fr _ hg]; exact setRow_heap wr g cs _ 5 _ hg, by rw [Array.size_setIfInBounds]; exact hf, by rw [Array.size_setIfInBounds]; exact hfit, hcap, fun j hj => ?_⟩⟩
                    by_cases e : j = kk
                    · subst e
                      exact ⟨45, by rw [Array.getElem?_setIfInBounds_self_of_lt (by omega)]⟩
                    · obtain ⟨u2, hu2⟩ := hcs j hj
                      exact ⟨u2, by rw [Array.getElem?_setIfInBounds_ne (by omega)]; exact hu2⟩
                  case measure => simp [intOf]; omega
                · have HKP := Lib.hid hkp
                  clear hrow hkp
                  go_wp2_with fail
                  go_meet
                  refine ⟨s', r', L, Fa, Fb, HR1.out.1, SB.out.keep HKP.out (fun i hi e => HFREE.out i e), BB.out.trans (HKP.out.below BB.out.size (fun i hi e => ?_)), ⟨HR1.out.2, by have := HL.out; omega⟩⟩
                  have h1 := HOB.out i e
                  have h2 := HZC.out
                  omega
            by_cases h2 : wt = 2
            · obtain ⟨e, s', r', hR', hsb, hA, hB⟩ := st_close (B := w.heap.size) (w := w) (S := S) (R := R) (L := L) HR.out
              have hA1 := hA wc _ F1 F2 HSC.out HBC.out HZC.out
              have HA1 := Lib.hid hA1
              have HB1 := Lib.hid hB
              have HR1 := Lib.hid (show Rel s' r' ∧ s'.b = s.b from ⟨hR', hsb⟩)
              clear hR' hsb hA hA1 hB y1 y2
              subst h2
              go_wp2_with (first
                | (go_at_call 14; refine HA1.out.mono ?_; rintro e' wa ⟨rfl, ba, ⟨Fa, sa⟩, ka⟩; have hb2 := HB1.out wa _ Fa F2 sa ba ba.size; have HB2 := Lib.hid hb2; clear ba sa ka hb2)
                | (go_at_call 23; refine HB2.out.mono ?_; rintro e' wb ⟨rfl, bb, ⟨Fb, sb⟩, kb⟩; have SB := Lib.hid sb; have BB := Lib.hid bb; clear sb bb kb))
              go_meet
              exact ⟨s', r', L, Fa, Fb, HR1.out.1, SB.out, BB.out, ⟨by rw [HR1.out.2]; have := HL.out; omega, by have := HL.out; omega⟩⟩
            by_cases h3 : wt = 3
            · obtain ⟨s', hsb, hR', hA⟩ := st_allow (B := w.heap.size) (w := w) (S := S) (R := R) (L := L) HR.out vn
              have hA1 := hA wc _ F1 F2 HSC.out HBC.out HZC.out
              obtain ⟨lm, hlm⟩ : ∃ lm, lm = r.limit := ⟨_, rfl⟩
              have HLM := Lib.hid hlm
              have HA1 := Lib.hid hA1
              have HR1 := Lib.hid (show Rel s' { r with limit := max r.limit (min vn 1099511627776) } ∧ s'.b = s.b from ⟨hR', hsb⟩)
              have HYF : Hid (∀ i, F1 i → i ≠ Y) := fun i hi e => by have := HYP.out i (.inl hi); omega
              have hfin : ∀ (W W' : World) (Fa : Nat → Prop) (u : Int), St3 w.heap.size W S R (.slice A2 n2 c2) s' r L Fa F2 → Below w.heap.size w W → (W' = W.setCell ⟨R, 5, none⟩ (.int .i64 u) ∨ W' = (W.setCell ⟨R, 5, none⟩ (.int .i64 u)).drew) → u = max lm (min vn 1099511627776) →
                  ∃ Fb, St3 w.heap.size W' S R (.slice A2 n2 c2) s' { r with limit := max r.limit (min vn 1099511627776) } L Fa Fb ∧ Below w.heap.size w W' := by
                intro W W' Fa u hs hb hW hu
                have hr := hs.rf.set 5 (.int .i64 u) { r with limit := max r.limit (min vn 1099511627776) } (fun _ => by rw [hu, HLM.out]; rfl) rfl
                have k1 : Keep W (W.setCell ⟨R, 5, none⟩ (.int .i64 u)) F2 := (Keep.refl W F2).setCell (.inr hs.rf.own) _
                obtain ⟨Fb, h1⟩ := hs.ref hb.size (hr.mono (fun i _ e => .inl e)) k1
                have h2 := hb.trans (hs.below hb.size k1 (fun i e => .inr (.inl e)))
                rcases hW with rfl | rfl
                · exact ⟨Fb, h1, h2⟩
                · obtain ⟨n1, n2, -⟩ := h1.near h2 h2.size ((Keep.refl _ (fun _ => False)).drew)
                  exact ⟨Fb, n1, n2⟩
              have HFIN := Lib.hid hfin
              clear hR' hsb hA hA1 y2 hfin hlm
              subst h3
              go_upto_region 34 with (first | (go_at_call 17; refine HA1.out.mono ?_; rintro e' wa ⟨⟨u, rfl⟩, ba, ⟨Fa, sa⟩, ka⟩; have bt := ka.block Y (heap_lt HMYc.out) (fun e => HYF.out Y e rfl); have y1 : wa.cell? ⟨Y, 1, none⟩ = some (.int .i64 vn) := (World.cell?_of_block bt).trans y1; have q5 : wa.cell? ⟨R, 5, none⟩ = some (.int .i64 lm) := (by rw [HLM.out]; exact sa.rf.cells.2.2.2.2.1); have g5 : wa.frozen? ⟨R, 5, none⟩ = false := sa.rf.cells.2.2.2.2.2.2 5; have SA := Lib.hid sa; have BA := Lib.hid ba; clear sa ba ka bt))
              by_cases hv1 : vn ≤ 1099511627776
              · have hv2 : ¬ 1099511627776 < vn := by omega
                obtain ⟨m, hm⟩ : ∃ m, m = max lm (min vn 1099511627776) := ⟨_, rfl⟩
                have HM := Lib.hid hm
                clear hm
                go_region
                all_goals
                  go_wp2_with fail
                all_goals
                  go_meet
                  first
                    | (obtain ⟨Fb, n1, n2⟩ := HFIN.out wa _ Fa vn SA.out BA.out (.inr rfl) (by omega); exact ⟨s', _, L, Fa, Fb, HR1.out.1, n1, n2, ⟨by rw [HR1.out.2]; have := HL.out; omega, by have := HL.out; omega⟩⟩)
                    | (obtain ⟨Fb, n1, n2⟩ := HFIN.out wa _ Fa lm SA.out BA.out (.inr rfl) (by omega); exact ⟨s', _, L, Fa, Fb, HR1.out.1, n1, n2, ⟨by rw [HR1.out.2]; have := HL.out; omega, by have := HL.out; omega⟩⟩)
                    | (obtain ⟨Fb, n1, n2⟩ := HFIN.out wa _ Fa 1099511627776 SA.out BA.out (.inr rfl) (by omega); exact ⟨s', _, L, Fa, Fb, HR1.out.1, n1, n2, ⟨by rw [HR1.out.2]; have := HL.out; omega, by have := HL.out; omega⟩⟩)
              · have hv2 : 1099511627776 < vn := by omega
                go_region
                all_goals
                  go_wp2_with fail
                all_goals
                  go_meet
                  first
                    | (obtain ⟨Fb, n1, n2⟩ := HFIN.out wa _ Fa vn SA.out BA.out (.inr rfl) (by omega); exact ⟨s', _, L, Fa, Fb, HR1.out.1, n1, n2, ⟨by rw [HR1.out.2]; have := HL.out; omega, by have := HL.out; omega⟩⟩)
                    | (obtain ⟨Fb, n1, n2⟩ := HFIN.out wa _ Fa lm SA.out BA.out (.inr rfl) (by omega); exact ⟨s', _, L, Fa, Fb, HR1.out.1, n1, n2, ⟨by rw [HR1.out.2]; have := HL.out; omega, by have := HL.out; omega⟩⟩)
                    | (obtain ⟨Fb, n1, n2⟩ := HFIN.out wa _ Fa 1099511627776 SA.out BA.out (.inr rfl) (by omega); exact ⟨s', _, L, Fa, Fb, HR1.out.1, n1, n2, ⟨by rw [HR1.out.2]; have := HL.out; omega, by have := HL.out; omega⟩⟩)
            by_cases h4 : wt = 4
            · obtain ⟨q, ok, s', hsb, hA, hB⟩ := st_next (B := w.heap.size) (w := w) (S := S) (R := R) (L := L) HR.out (by have := HBB.out; omega) (most := vn) HVB.out
              have hA1 := hA wc _ F1 F2 HSC.out HBC.out HZC.out
              have HA1 := Lib.hid hA1
              have HB1 := Lib.hid hB
              have HSB := Lib.hid hsb
              have HYF : Hid (∀ i, F1 i → i ≠ Y) := fun i hi e => by have := HYP.out i (.inl hi); omega
              have HY1 : Hid (Y < wc.heap.size) := heap_lt HMYc.out
              clear hsb hA hA1 hB y2
              subst h4
              go_upto_region 37 with (first | (go_at_call 15; refine HA1.out.mono ?_; rintro e' wa ⟨rfl, ba, ⟨Fa, sa⟩, ka⟩; have HBK := Lib.hid (ka.block Y (heap_lt HMYc.out) (fun e => HYF.out Y e rfl)); have HSZ := Lib.hid ka.size; have SA := Lib.hid sa; have BA := Lib.hid ba; clear sa ba ka))
              obtain ⟨T, hT⟩ : ∃ T, T = wa.heap.size := ⟨_, rfl⟩
              obtain ⟨wa1, hwa1⟩ : ∃ wa1, wa1 = wa.alloc (.cells #[.int .i64 q.off, .string (S8 q.d), .bool q.fin] 34) := ⟨_, rfl⟩
              have ka1 : Keep wa wa1 (fun _ => False) := by rw [hwa1]; exact (Keep.refl wa _).alloc _
              have mT : wa1.heap[T]? = some (.cells #[.int .i64 q.off, .string (S8 q.d), .bool q.fin] 34 (0, 0)) := by rw [hwa1, hT]; exact heap_alloc_new _ _
              obtain ⟨sa1, ba1, za1⟩ := SA.out.near BA.out BA.out.size ka1
              have z1 : wc.heap.size ≤ wa.heap.size := HSZ.out
              have y1' : wa1.cell? ⟨Y, 1, none⟩ = some (.int .i64 vn) := (World.cell?_of_block ((ka1.block Y (by have := HY1.out; omega) id).trans HBK.out)).trans y1
              have hYT : Y < T := by have := HY1.out; omega
              rw [← hwa1, ← hT]
              have HB2 := Lib.hid (HB1.out wa1 _ Fa F2 sa1 ba1 za1)
              have HMT := Lib.hid mT
              have HTF : Hid (∀ i, F2 i → i ≠ T) := fun i hi e => by have := HYP.out i (.inr (.inl hi)); omega
              clear y1 hwa1 hT ka1 mT sa1 ba1 za1 z1
              go_upto_region 38 with (first | (go_at_call 24; refine HB2.out.mono ?_; rintro e' wb ⟨rfl, bb, ⟨r', Fb, hR', sb⟩, kb⟩; have HBT := Lib.hid (kb.block T (heap_lt HMT.out) (fun e => HTF.out T e rfl)); have SB := Lib.hid sb; have BB := Lib.hid bb; have HR1 := Lib.hid hR'; clear sb bb kb hR'))
              obtain ⟨U, hU⟩ : ∃ U, U = wb.heap.size := ⟨_, rfl⟩
              obtain ⟨wb1, hwb1⟩ : ∃ wb1, wb1 = wb.alloc (.cells #[.int .i64 q.off, .string (S8 q.d), .bool q.fin] 57) := ⟨_, rfl⟩
              have kb1 : Keep wb wb1 (fun _ => False) := by rw [hwb1]; exact (Keep.refl wb _).alloc _
              have mU : wb1.heap[U]? = some (.cells #[.int .i64 q.off, .string (S8 q.d), .bool q.fin] 57 (0, 0)) := by rw [hwb1, hU]; exact heap_alloc_new _ _
              have mT := HBT.out.trans HMT.out
              have mT1 := (kb1.block T (heap_lt mT) id).trans mT
              obtain ⟨sb1, bb1, zb1⟩ := SB.out.near BB.out BB.out.size kb1
              have t0 : wb1.cell? ⟨T, 0, none⟩ = some (.int .i64 q.off) := by rw [cell_of_row wb1 T 0 _ _ _ mT1]; rfl
              have t1 : wb1.cell? ⟨T, 1, none⟩ = some (.string (S8 q.d)) := by rw [cell_of_row wb1 T 1 _ _ _ mT1]; rfl
              have t2 : wb1.cell? ⟨T, 2, none⟩ = some (.bool q.fin) := by rw [cell_of_row wb1 T 2 _ _ _ mT1]; rfl
              have x0 : wb1.cell? ⟨U, 0, none⟩ = some (.int .i64 q.off) := by rw [cell_of_row wb1 U 0 _ _ _ mU]; rfl
              have x1 : wb1.cell? ⟨U, 1, none⟩ = some (.string (S8 q.d)) := by rw [cell_of_row wb1 U 1 _ _ _ mU]; rfl
              have x2 : wb1.cell? ⟨U, 2, none⟩ = some (.bool q.fin) := by rw [cell_of_row wb1 U 2 _ _ _ mU]; rfl
              rw [← hwb1, ← hU]
              have SB1 := Lib.hid sb1
              have BB1 := Lib.hid bb1
              have HMU := Lib.hid mU
              clear hwb1 hU kb1 mU mT mT1 sb1 bb1 zb1 y1' hYT
              go_region_held3 (fun w' => w'.cell? ⟨T, 0, none⟩ = some (.int .i64 q.off) ∧ w'.cell? ⟨T, 1, none⟩ = some (.string (S8 q.d)) ∧ w'.cell? ⟨T, 2, none⟩ = some (.bool q.fin) ∧ w'.cell? ⟨U, 0, none⟩ = some (.int .i64 q.off) ∧ w'.cell? ⟨U, 1, none⟩ = some (.string (S8 q.d)) ∧ w'.cell? ⟨U, 2, none⟩ = some (.bool q.fin)) (go_keep)
                (first
                  | (go_at_call 25; refine (from_any _ q.off (S8 q.d) q.fin).mono ?_; rintro e' wf ⟨rfl, kf⟩; have kf2 : Keep wb1 wf (fun _ => False) := (by first | exact kf | exact ⟨kf.os, kf.tape, kf.output, kf.size, kf.block⟩); have t0 : wf.cell? ⟨T, 0, none⟩ = some (.int .i64 q.off) := (World.cell?_of_block (kf2.block T (cell_block t0) id)).trans t0; have t1 : wf.cell? ⟨T, 1, none⟩ = some (.string (S8 q.d)) := (World.cell?_of_block (kf2.block T (cell_block t1) id)).trans t1; have t2 : wf.cell? ⟨T, 2, none⟩ = some (.bool q.fin) := (World.cell?_of_block (kf2.block T (cell_block t2) id)).trans t2; have bU := kf2.block U (heap_lt HMU.out) id; have x0 := (World.cell?_of_block bU).trans x0; have x1 := (World.cell?_of_block bU).trans x1; have x2 := (World.cell?_of_block bU).trans x2; have KF := Lib.hid kf2; clear kf kf2 bU))
              cases ok with
              | false =>
                go_wp2_with fail
                go_meet
                obtain ⟨n1, n2, -⟩ := SB1.out.near BB1.out BB1.out.size (by first | exact KF.out | exact KF.out.drew)
                exact ⟨s', r', L, Fa, Fb, HR1.out, n1, n2, ⟨by rw [HSB.out]; have := HL.out; omega, by have := HL.out; omega⟩⟩
              | true =>
                go_upto_region 41 with fail
                obtain ⟨f1, f2, f3⟩ := SB1.out.near BB1.out BB1.out.size KF.out
                obtain ⟨g1, g2, g3⟩ := f1.near f2 f3 ((Keep.refl wf (fun _ => False)).alloc (.cells #[.int .i64 q.off, .string (S8 q.d), .bool q.fin] 57))
                obtain ⟨v', W', hr, ho, hg, ha⟩ := append_pc (p := q) g1.hd g3 (heap_alloc_new wf _) (by have := HL.out; omega)
                have hst := g1.had ho hg ha
                have hbe : Below w.heap.size w W' := g2.trans (g1.below g3 (Keep.of_grown (S := fun i => (Value.slice A2 n2 c2).ownBlock = some i) hg (fun i _ e => e)) (fun i e => .inr (.inr e)))
                have HRN := Lib.hid hr
                have HST := Lib.hid hst
                have HBE := Lib.hid hbe
                clear f1 f2 f3 g1 g2 g3 hr ho hg ha hst hbe
                go_wp2_with (at_builtin; refine Lib.wpList_append_run _ rfl _ _ _ _ rfl _ _ rfl rfl _ _ (HRN.out _) ?_)
                go_meet
                exact ⟨s', r', L ++ [q], Fa, Fb, HR1.out, HST.out, HBE.out, ⟨by rw [HSB.out]; have := HL.out; omega, by rw [List.length_append]; have := HL.out; simp only [List.length_cons, List.length_nil]; omega⟩⟩
            by_cases h5 : wt = 5
            · obtain ⟨e, s', r', hR', hsb, hA, hB⟩ := st_lost (B := w.heap.size) (w := w) (S := S) (R := R) (L := L) HR.out (by have := HBB.out; omega) p
              have x0 : wc.cell? ⟨P, 0, none⟩ = some (.int .i64 p.off) := by rw [cell_of_row wc P 0 _ _ _ HMPc.out]; rfl
              have x1 : wc.cell? ⟨P, 1, none⟩ = some (.string (S8 p.d)) := by rw [cell_of_row wc P 1 _ _ _ HMPc.out]; rfl
              have x2 : wc.cell? ⟨P, 2, none⟩ = some (.bool p.fin) := by rw [cell_of_row wc P 2 _ _ _ HMPc.out]; rfl
              have HA1 := Lib.hid (hA.near HSC.out HBC.out HZC.out)
              have HB1 := Lib.hid hB
              have HR1 := Lib.hid (show Rel s' r' ∧ s'.b = s.b from ⟨hR', hsb⟩)
              have HPF : Hid (∀ i, (F1 i ∨ F2 i) → i ≠ P) := fun i hi e => by have := HYP.out i (by rcases hi with h | h; exact .inl h; exact .inr (.inl h)); have := HPY.out; omega
              clear hR' hsb hA hB y1 y2
              subst h5
              go_upto_region 43 with fail
              go_region_held3 (fun w' => w'.cell? ⟨P, 0, none⟩ = some (.int .i64 p.off) ∧ w'.cell? ⟨P, 1, none⟩ = some (.string (S8 p.d)) ∧ w'.cell? ⟨P, 2, none⟩ = some (.bool p.fin)) (go_keep)
                (first
                  | (go_at_call 26; refine (to_any _ p.off (S8 p.d) p.fin).mono ?_; rintro e' wt ⟨rfl, kt⟩; have kt2 : Keep wc wt (fun _ => False) := (by first | exact kt | exact ⟨kt.os, kt.tape, kt.output, kt.size, kt.block⟩); have bt := kt2.block P (heap_lt HMPc.out) id; have x0 := (World.cell?_of_block bt).trans x0; have x1 := (World.cell?_of_block bt).trans x1; have x2 := (World.cell?_of_block bt).trans x2; have KT := Lib.hid kt2; clear kt kt2 bt)
                  | (go_at_call 20; refine (HA1.out _ (by first | exact KT.out | exact KT.out.drew)).mono ?_; rintro e' wa ⟨rfl, ba, ⟨Fa, sa⟩, ka⟩; have bt := ka.block P (heap_lt HMPc.out) (fun e => HPF.out P (.inl e) rfl); have m3 := bt.trans HMPc.out; have x0 : wa.cell? ⟨P, 0, none⟩ = some (.int .i64 p.off) := (by rw [cell_of_row wa P 0 _ _ _ m3]; rfl); have x1 : wa.cell? ⟨P, 1, none⟩ = some (.string (S8 p.d)) := (by rw [cell_of_row wa P 1 _ _ _ m3]; rfl); have x2 : wa.cell? ⟨P, 2, none⟩ = some (.bool p.fin) := (by rw [cell_of_row wa P 2 _ _ _ m3]; rfl); have HM3 := Lib.hid m3; have HB2 := Lib.hid (HB1.out.near sa ba ba.size); clear sa ba ka bt m3)
                  | (go_at_call 27; refine (HB2.out _ (by first | exact Keep.refl _ _ | exact (Keep.refl _ _).drew)).mono ?_; rintro e' wb ⟨rfl, bb, ⟨Fb, sb⟩, kb⟩; have bt := kb.block P (heap_lt HM3.out) (fun e => HPF.out P (.inr e) rfl); have m3 := bt.trans HM3.out; have x0 : wb.cell? ⟨P, 0, none⟩ = some (.int .i64 p.off) := (by rw [cell_of_row wb P 0 _ _ _ m3]; rfl); have x1 : wb.cell? ⟨P, 1, none⟩ = some (.string (S8 p.d)) := (by rw [cell_of_row wb P 1 _ _ _ m3]; rfl); have x2 : wb.cell? ⟨P, 2, none⟩ = some (.bool p.fin) := (by rw [cell_of_row wb P 2 _ _ _ m3]; rfl); have SB := Lib.hid sb; have BB := Lib.hid bb; clear sb bb kb bt m3))
              go_wp2_with fail
              go_meet
              exact ⟨s', r', L, Fa, Fb, HR1.out.1, (SB.out.near BB.out BB.out.size (by first | exact Keep.refl _ _ | exact (Keep.refl _ _).drew)).1, (SB.out.near BB.out BB.out.size (by first | exact Keep.refl _ _ | exact (Keep.refl _ _).drew)).2.1, ⟨by rw [HR1.out.2]; have := HL.out; omega, by have := HL.out; omega⟩⟩
            by_cases h6 : wt = 6
            · obtain ⟨e, s', r', hR', hsb, hA, hB⟩ := st_came (B := w.heap.size) (w := w) (S := S) (R := R) (L := L) HR.out (by have := HBB.out; omega) p
              have x0 : wc.cell? ⟨P, 0, none⟩ = some (.int .i64 p.off) := by rw [cell_of_row wc P 0 _ _ _ HMPc.out]; rfl
              have x1 : wc.cell? ⟨P, 1, none⟩ = some (.string (S8 p.d)) := by rw [cell_of_row wc P 1 _ _ _ HMPc.out]; rfl
              have x2 : wc.cell? ⟨P, 2, none⟩ = some (.bool p.fin) := by rw [cell_of_row wc P 2 _ _ _ HMPc.out]; rfl
              have HA1 := Lib.hid (hA.near HSC.out HBC.out HZC.out)
              have HB1 := Lib.hid hB
              have HR1 := Lib.hid (show Rel s' r' ∧ s'.b = s.b from ⟨hR', hsb⟩)
              have HPF : Hid (∀ i, (F1 i ∨ F2 i) → i ≠ P) := fun i hi e => by have := HYP.out i (by rcases hi with h | h; exact .inl h; exact .inr (.inl h)); have := HPY.out; omega
              clear hR' hsb hA hB y1 y2
              subst h6
              go_upto_region 46 with fail
              go_region_held3 (fun w' => w'.cell? ⟨P, 0, none⟩ = some (.int .i64 p.off) ∧ w'.cell? ⟨P, 1, none⟩ = some (.string (S8 p.d)) ∧ w'.cell? ⟨P, 2, none⟩ = some (.bool p.fin)) (go_keep)
                (first
                  | (go_at_call 26; refine (to_any _ p.off (S8 p.d) p.fin).mono ?_; rintro e' wt ⟨rfl, kt⟩; have kt2 : Keep wc wt (fun _ => False) := (by first | exact kt | exact ⟨kt.os, kt.tape, kt.output, kt.size, kt.block⟩); have bt := kt2.block P (heap_lt HMPc.out) id; have x0 := (World.cell?_of_block bt).trans x0; have x1 := (World.cell?_of_block bt).trans x1; have x2 := (World.cell?_of_block bt).trans x2; have KT := Lib.hid kt2; clear kt kt2 bt)
                  | (go_at_call 28; refine (HA1.out _ (by first | exact KT.out | exact KT.out.drew)).mono ?_; rintro e' wa ⟨rfl, ba, ⟨Fa, sa⟩, ka⟩; have bt := ka.block P (heap_lt HMPc.out) (fun e => HPF.out P (.inl e) rfl); have m3 := bt.trans HMPc.out; have x0 : wa.cell? ⟨P, 0, none⟩ = some (.int .i64 p.off) := (by rw [cell_of_row wa P 0 _ _ _ m3]; rfl); have x1 : wa.cell? ⟨P, 1, none⟩ = some (.string (S8 p.d)) := (by rw [cell_of_row wa P 1 _ _ _ m3]; rfl); have x2 : wa.cell? ⟨P, 2, none⟩ = some (.bool p.fin) := (by rw [cell_of_row wa P 2 _ _ _ m3]; rfl); have HM3 := Lib.hid m3; have HB2 := Lib.hid (HB1.out.near sa ba ba.size); clear sa ba ka bt m3)
                  | (go_at_call 29; refine (HB2.out _ (by first | exact Keep.refl _ _ | exact (Keep.refl _ _).drew)).mono ?_; rintro e' wb ⟨rfl, bb, ⟨Fb, sb⟩, kb⟩; have bt := kb.block P (heap_lt HM3.out) (fun e => HPF.out P (.inr e) rfl); have m3 := bt.trans HM3.out; have x0 : wb.cell? ⟨P, 0, none⟩ = some (.int .i64 p.off) := (by rw [cell_of_row wb P 0 _ _ _ m3]; rfl); have x1 : wb.cell? ⟨P, 1, none⟩ = some (.string (S8 p.d)) := (by rw [cell_of_row wb P 1 _ _ _ m3]; rfl); have x2 : wb.cell? ⟨P, 2, none⟩ = some (.bool p.fin) := (by rw [cell_of_row wb P 2 _ _ _ m3]; rfl); have SB := Lib.hid sb; have BB := Lib.hid bb; clear sb bb kb bt m3))
              go_wp2_with fail
              go_meet
              exact ⟨s', r', L, Fa, Fb, HR1.out.1, (SB.out.near BB.out BB.out.size (by first | exact Keep.refl _ _ | exact (Keep.refl _ _).drew)).1, (SB.out.near BB.out BB.out.size (by first | exact Keep.refl _ _ | exact (Keep.refl _ _).drew)).2.1, ⟨by rw [HR1.out.2]; have := HL.out; omega, by have := HL.out; omega⟩⟩
            go_wp2_with fail
            go_meet
            exact ⟨s, r, L, F1, F2, HR.out, HSC.out, HBC.out, ⟨by have := HL.out; omega, by have := HL.out; omega⟩⟩
          case rest =>
            obtain ⟨s', r', L', Fa, Fb, HR2, HS2, HB2, HL2⟩ := hcut
            obtain ⟨dv, hA, hB⟩ := st_done (B := w.heap.size) (w := w) (S := S) (R := R) (L := L') HR2.out (by have := HL2.out.1; omega)
            obtain ⟨tp, htp⟩ : ∃ tp, tp = r'.top := ⟨_, rfl⟩
            have c6 : wc.cell? ⟨R, 6, none⟩ = some (.int .i64 tp) := by rw [htp]; exact HS2.out.rf.cells.2.2.2.2.2.1
            have htp2 : s'.top = tp := by rw [htp]; exact HR2.out.top.symm
            have HA1 := Lib.hid (hA.near HS2.out HB2.out HB2.out.size)
            have HBB2 := Lib.hid hB
            have HTP := Lib.hid htp
            have HTP2 := Lib.hid htp2
            clear hA hB htp htp2 y0 y1 y2
            go_upto_region 48 with fail
            go_region_held3 (fun w' => w'.cell? ⟨R, 6, none⟩ = some (.int .i64 tp)) (go_keep)
              (first
                | (go_at_call 19; refine (HA1.out _ (by first | exact Keep.refl _ _ | exact (Keep.refl _ _).drew)).mono ?_; rintro e' wa ⟨rfl, ba, ⟨F5, sa⟩, -⟩; have c6 : wa.cell? ⟨R, 6, none⟩ = some (.int .i64 tp) := (by rw [HTP.out]; exact sa.rf.cells.2.2.2.2.2.1); have HB1 := Lib.hid (HBB2.out.near sa ba ba.size); clear sa ba)
                | (go_at_call 30; refine (HB1.out _ (by first | exact Keep.refl _ _ | exact (Keep.refl _ _).drew)).mono ?_; rintro e' wb ⟨rfl, bb, ⟨F6, sb⟩, -⟩; have c6 : wb.cell? ⟨R, 6, none⟩ = some (.int .i64 tp) := (by rw [HTP.out]; exact sb.rf.cells.2.2.2.2.2.1); have SB := Lib.hid sb; have BB := Lib.hid bb; clear sb bb)
                | (go_at_call 16; refine (fresh_any (SB.out.sn.keep (by first | exact Keep.refl _ (fun _ => False) | exact (Keep.refl _ (fun _ => False)).drew) (fun _ _ => id))).mono ?_; rintro e' w' ⟨rfl, hh⟩; obtain rfl := hh.symm; rw [HTP2.out]))
            go_wp2_with fail
            go_roundw
            case rel =>
              obtain ⟨n1, n2, -⟩ := SB.out.near BB.out BB.out.size (by first | exact Keep.refl _ _ | exact (Keep.refl _ _).drew)
              exact ⟨i + 1, s', r', L', F5, F6, by go_num, by omega, by omega, HR2.out, n1, n2, HL2.out.1, HL2.out.2⟩
            case measure => simp [intOf]; omega
      · have hcon' : ¬ i < n ∨ (i < n ∧ ¬ i < 80) := by omega
        rcases hcon' with h | ⟨h, h2⟩
        all_goals
          go_wp2_with fail
          go_ret
          exact ⟨by first | rfl | trivial, HB.out⟩
end Go.Proofs.Ytjnekjjaofabeaa
