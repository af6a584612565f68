/-
  FlowBounds: the walk.
-/
import Derived.Test.YtpaodflocbfghaaFo
import Derived.Deep.RegionHeldLaw
import Derived.Deep.Cut
namespace Go.Proofs.Ytpaodflocbfghaa
open Go.RowKit Go.Rh Go.Maps

theorem mod_u64 (x : Int) (c : Nat) (hc : 0 < c) (hc2 : c ≤ 1000000) : ∃ q : Nat, wrap64 ((IntKind.u64.wrap x).tmod (c : Int)) = (q : Int) ∧ q < c := by
  have h0 : 0 ≤ IntKind.u64.wrap x := by rw [IntKind.wrap_u64]; omega
  have h1 := Int.emod_nonneg (IntKind.u64.wrap x) (b := (c : Int)) (by omega)
  have h2 := Int.emod_lt_of_pos (IntKind.u64.wrap x) (b := (c : Int)) (by omega)
  refine ⟨((IntKind.u64.wrap x) % (c : Int)).toNat, ?_, by omega⟩
  rw [Int.tmod_eq_emod_of_nonneg h0]
  unfold wrap64
  omega
theorem mod_one (x : Int) (c : Nat) (hc : 0 < c) (hc2 : c ≤ 1000000) : ∃ q : Nat, wrap64 (1 + wrap64 ((IntKind.u64.wrap x).tmod (c : Int))) = (q : Int) ∧ 1 ≤ q ∧ q ≤ c := by
  obtain ⟨q, h1, h2⟩ := mod_u64 x c hc hc2
  refine ⟨q + 1, ?_, by omega, by omega⟩
  rw [h1]
  unfold wrap64
  omega
theorem step_append_ints {P : Program} {ops : Array Oper} {o : Oper} {a : Act} {K : Act → World → Prop} {Q : Exit → Act → World → Prop} {E : Prop} {w : World} {B : Nat} {ok : Nat → Prop} {v x : Value} {l m : List Int} (hgd : o.guard = none) (s y : Operand) (t : TypeId)
    (ho : o.op = .call { callee := .builtin .append, args := #[s, y], argTypes := #[t, t] }) (i : TypeInfo) (ht : P.underlying t = some (.slice 3)) (hi : P.info? 3 = some i) (hz : i.zero = some (.int .i64 0)) (hsz : i.size = 1) (hby : i.bytes = 8)
    (hs : a.eval s = v) (hy : a.eval y = x) (hown : Own w B v l) (hx : Bs ok w x m) (hbound : l.length + m.length ≤ 17592186044416) (hB : B ≤ w.heap.size)
    (h : ∀ v' w', Own w' B v' (l ++ m) → Keep w w' (fun k => v.ownBlock = some k) → (v'.ownBlock = v.ownBlock ∨ v'.ownBlock = some w.heap.size) → K (a.put o.dst v') w') :
    if Region.wanted o (yielded ops a.tmps) = true then Oper.wp P o a w K Q else E := by
  have hw : Region.wanted o (yielded ops a.tmps) = true := by simp [Region.wanted, hgd]
  rw [if_pos hw]
  obtain ⟨v', w', hr, h1, h2, h3⟩ := run_append_bytes (P := P) t o.type i ht hi hz hsz hby hown hx hbound hB
  unfold Oper.wp execOp
  simp only [ho, resolve, invoke, builtin, Sem.run_bind, Sem.run_pure, Result.andThen_ok, List.map_toArray, List.map_cons, List.map_nil, hs, hy, hr]
  exact h v' w' h1 h2 h3

/-- What the loop keeps. -/
def BRel (w : World) (n : Nat) (M W : Nat) (d g p B : Nat) (s11 s12 i : Value) (wr : World) : Prop :=
  ∃ (k : Nat) (S : DS) (P : PS) (T : List Int) (A1 : Option Addr) (q1 c1 : Nat), i = .int .i64 k ∧ s11 = .slice A1 q1 c1 ∧ s12 = .int .i64 (P.came - P.used) ∧ k ≤ n ∧ k ≤ 100 ∧ q1 = T.length ∧ BInv k M S T ∧ QInv k W P ∧ Door wr d g S ∧ Pu 62 wr p P ∧ Own wr B (.slice A1 q1 c1) T ∧ Below w.heap.size w wr ∧ B ≤ wr.heap.size

set_option maxRecDepth 100000 in
set_option maxHeartbeats 0 in
theorem bounds_any {w : World} {A : Option Addr} {n c : Nat} {X N : Nat → Int} {most win : Int} (hx : Deals w A n X N) (hn : (n : Int) ≤ 9223372036854775807) :
    Calls Try.prog 5 #[.int .i64 most, .int .i64 win, .slice A n c] w fun e w' => e = .returned (.bool true) ∧ Below w.heap.size w w' := by
  obtain ⟨i0, hi0, hz0, hz1, hz2⟩ := info_parts info3
  have HX := Lib.hid hx
  clear hx
  obtain ⟨M, hM, hM1, hM2⟩ := mod_one most 32 (by decide) (by decide)
  obtain ⟨W, hW, hW1, hW2⟩ := mod_one win 65536 (by decide) (by decide)
  have HMM : Hid (wrap64 (1 + wrap64 ((IntKind.u64.wrap most).tmod 32)) = (M : Int)) := hM
  have HWW : Hid (wrap64 (1 + wrap64 ((IntKind.u64.wrap win).tmod 65536)) = (W : Int)) := hW
  clear hM hW
  have m1 : 1 ≤ (M : Int) := by omega
  have m2 : (M : Int) ≤ 32 := by omega
  have v1 : 1 ≤ (W : Int) := by omega
  have v2 : (W : Int) ≤ 65536 := by omega
  clear hM1 hM2 hW1 hW2
  go_enter Try.func5, Try.ntmps5
  go_wp2_with fail
  refine (counts_any w).mono ?_
  rintro e w1 ⟨rfl, hb1⟩
  have HB1 := Lib.hid hb1
  clear hb1
  go_wp2_with fail
  rw [HMM.out, HWW.out]
  refine (doors_new (s := true) m1 m2).mono ?_
  rintro e w2 ⟨rfl, hb2, hp2⟩
  have HB2 : Hid (Below w.heap.size w w2) := HB1.out.trans (hb2.mono HB1.out.size)
  have HP2 := Lib.hid hp2
  have HN1 : Hid (w.heap.size ≤ w1.heap.size) := HB1.out.size
  have HN2 : Hid (w1.heap.size + 1 < w2.heap.size) := hp2.lt
  clear hb2 hp2 HB1
  obtain ⟨g, hg⟩ : ∃ g, g = w1.heap.size := ⟨_, rfl⟩
  rw [← hg] at HP2 HN1 HN2 ⊢
  clear hg
  obtain ⟨d, hd⟩ : ∃ d, d = g + 1 := ⟨_, rfl⟩
  have HGD : Hid (g < d) := by show g < d; omega
  rw [← hd] at HP2 HN2 ⊢
  clear hd
  go_wp2_with fail
  refine (purse_new v1 v2).mono ?_
  rintro e w3 ⟨rfl, hb3, hp3⟩
  have HB : Hid (Below w.heap.size w w3) := HB2.out.trans (hb3.mono HB2.out.size)
  have HP : Hid (Pu 62 w3 w2.heap.size ⟨W, W, 0, 0, 0, 0⟩) := hp3
  have HD : Hid (Door w3 d g ⟨1, M, 0, 0, 0, M, 0, []⟩) := HP2.out.keep (Keep.of_below hb3 (Nat.le_refl _) (fun _ => False)) id id
  have HLp : Hid (w2.heap.size < w3.heap.size) := hp3.lt
  have HL0 : Hid (w.heap.size ≤ g ∧ g < d ∧ d < w2.heap.size) := ⟨HN1.out, HGD.out, HN2.out⟩
  obtain ⟨p, hp⟩ : ∃ p, p = w2.heap.size := ⟨_, rfl⟩
  rw [← hp] at HP HLp HL0 ⊢
  obtain ⟨B, hB⟩ : ∃ B, B = w3.heap.size := ⟨_, rfl⟩
  rw [← hB] at HLp
  have HL : Hid (w.heap.size ≤ g ∧ g < d ∧ d < p ∧ p < B) := ⟨HL0.out.1, HL0.out.2.1, HL0.out.2.2, HLp.out⟩
  have HBS : Hid (B ≤ w3.heap.size) := by show B ≤ _; omega
  clear hb3 hp3 HP2 HB2 HN1 HN2 HGD HLp HL0 hp hB
  go_wp2
  go_loopw [11, 12, 13] (fun s11 s12 i wr => BRel w n M W d g p B s11 s12 i wr) (fun _ _ i _ => 100 - (intOf i).toNat)
  case atStart =>
    refine ⟨0, ⟨1, M, 0, 0, 0, M, 0, []⟩, ⟨W, W, 0, 0, 0, 0⟩, [], none, 0, 0, rfl, rfl, rfl, Nat.zero_le _, by omega, rfl, ⟨⟨by show (0 : Int) ≤ 1; decide, Int.le_refl 1, Int.le_refl 0, Int.le_refl 0, Int.le_refl 0, Int.le_refl 0, by show (0 : Int) ≤ M; omega, by show (M : Int) ≤ _; simp; omega, Nat.le_refl 0, m1, m2, by show (0 : Int) ≤ 1099511627776; decide⟩, rfl, rfl, rfl, by show (0 : Int) ≤ M; omega, by show (M : Int) ≤ 0 + M; omega, fun x hx => by simp at hx, List.nodup_nil, fun x hx => by simp at hx⟩,
      ⟨⟨by show (0 : Int) ≤ W; omega, v2, Int.le_refl 0, Int.le_refl 0, by show (0 : Int) ≤ W; omega, by show (W : Int) ≤ _; omega, Int.le_refl 0, Int.le_refl 0, by show (0 : Int) ≤ 1099511627776; decide⟩, by show (W : Int) ≤ _; simp; omega, rfl, by show (W : Int) ≤ 0 + W; omega⟩, HD.out, HP.out, .inl ⟨rfl, rfl⟩, HB.out, HBS.out⟩
  case round =>
    clear HP HD HB HBS
    obtain ⟨k, S, P, T, A1, q1, cc1, rfl, rfl, rfl, hkn, hk100, hq1, hbi, hqi, hd, hp, ho, hb, hbs⟩ := hrel
    have HBI := Lib.hid hbi
    have HQI := Lib.hid hqi
    have HD := Lib.hid hd
    have HP := Lib.hid hp
    have HO := Lib.hid ho
    have HB := Lib.hid hb
    have HBS := Lib.hid hbs
    have HQ1 := Lib.hid hq1
    have HOK : Hid S.Ok := hbi.inv.ok (by omega)
    have hq1M : (q1 : Int) ≤ M := by have := hbi.small; omega
    have hwt := hqi.waits
    obtain ⟨T0, hT0⟩ : ∃ t, t = P.came - P.used := ⟨_, rfl⟩
    rw [← hT0] at hwt ⊢
    have HT0 := Lib.hid hT0
    obtain ⟨hwt0, hwt1⟩ := hwt
    clear hbi hqi hd hp ho hb hbs hq1 hT0
    by_cases hlt : k < n ∧ k < 100
    · obtain ⟨hk1, hk2⟩ := hlt
      have hk1' : (k : Int) < n := by omega
      have hk2' : (k : Int) < 100 := by omega
      have dk : decide ((k : Int) < 100) = true := by simpa using hk2'
      have dn : decide ((k : Int) < n) = true := by simpa using hk1'
      obtain ⟨b, off, rfl, hbl, hcells⟩ := HX.out (by omega)
      obtain ⟨cx, cn, _, _⟩ := hcells k hk1
      have c0 : wr.cell? ⟨b, off + k * 2, none⟩ = some (.int .i64 (X k)) := (World.cell?_of_block (HB.out.block b hbl)).trans cx
      have c1 : wr.cell? ⟨b, off + k * 2 + 1, none⟩ = some (.int .i64 (N k)) := (World.cell?_of_block (HB.out.block b hbl)).trans cn
      obtain ⟨y, hy⟩ : ∃ y, y = N k := ⟨_, rfl⟩
      obtain ⟨x, hx⟩ : ∃ x, x = X k := ⟨_, rfl⟩
      rw [← hy] at c1
      rw [← hx] at c0
      obtain ⟨z, hz, hzl0, hzl'⟩ : ∃ z : Int, wrap64 ((IntKind.u64.wrap y).tmod 100000) = z ∧ 0 ≤ z ∧ z < 100000 := by
        obtain ⟨z, h1, h2⟩ := mod_u64 y 100000 (by decide) (by decide)
        exact ⟨z, h1, by omega, by omega⟩
      clear cx cn hcells hbl hy hx
      have dq : decide ((M : Int) < q1) = false := by simp; omega
      by_cases x1 : x = 1 ∨ x = 3
      · rcases x1 with rfl | rfl
        · go_wp2_with fail
          refine (come_any (4 * (z % 200)) HD.out HOK.out).mono ?_
          rintro e w4 ⟨va, rfl, hoa, hd4, hk4⟩
          have HD4 := Lib.hid hd4
          have HOA := Lib.hid hoa
          have HP4 := Lib.hid (HP.out.keep hk4 (fun e => by have := HL.out; omega))
          have HO4 := Lib.hid (HO.out.keep hk4 (fun i hi e => by have := (HO.out.lt i hi).1; have := HL.out; omega))
          have HB4 : Hid (Below w.heap.size w w4) := HB.out.trans (hk4.below HB.out.size (fun j hj e => by have := HL.out; omega))
          have HS4 : Hid (B ≤ w4.heap.size) := Nat.le_trans HBS.out hk4.size
          clear hoa hd4 hk4 HD HP HO HB
          have dw : decide ((W : Int) < T0) = false := by simp; omega
          have dw0 : decide (T0 < 0) = false := by simp; omega
          obtain ⟨A4, n4, c4, hn4, rfl⟩ := HOA.out.form
          have HN4 := Lib.hid hn4
          clear hn4
          by_cases hc : z % 200 < S.count
          · have HCK : Hid (comeE S (4 * (z % 200)) = 0) := ((come_kind HBI.out (by omega) (by omega)).2 hc).1
            have HBJ : Hid (BInv (k + 1) M (comeS S (4 * (z % 200))) (T ++ comeL S (4 * (z % 200)))) := HBI.out.come (by omega) (by omega) hc
            have HLL : Hid ((T ++ comeL S (4 * (z % 200))).length ≤ 32) := by have := HBJ.out.small; show _ ≤ _; omega
            rw [HCK.out]
            have HQT : Hid (q1 = T.length) := HQ1.out
            clear hc
            go_wp2_with (at_builtin; go_loud (refine wpList_append_ints rfl _ _ 26 rfl i0 Try.underlying26 hi0 hz0 hz1 hz2 (by rfl) (by rfl) HO4.out HOA.out.bs (by have := HLL.out; rw [List.length_append] at this; omega) HS4.out ?_; intro v1 w5 own1 keep1 at1; obtain ⟨A5, n5, c5, hn5, rfl⟩ := own1.form; have HN5 := Lib.hid hn5; have HO5 := Lib.hid own1; have HK5 := Lib.hid keep1; have hn5M : (n5 : Int) ≤ M := (by have := HBJ.out.small; omega); have dq5 : decide ((M : Int) < n5) = false := (by simp; omega); clear own1 keep1 at1 hn5 dq hq1M))
            go_roundw
            case measure => simp [intOf]; omega
            case rel =>
              have hk5 := HK5.out
              have ho4 := HO4.out
              exact ⟨k + 1, comeS S (4 * (z % 200)), P, T ++ comeL S (4 * (z % 200)), A5, n5, c5, by go_num, rfl, by rw [HT0.out], by omega, by omega, HN5.out, HBJ.out, HQI.out.mono, HD4.out.keep hk5 (fun e => by have := (ho4.lt d e).1; have := HL.out; omega) (fun e => by have := (ho4.lt g e).1; have := HL.out; omega), HP4.out.keep hk5 (fun e => by have := (ho4.lt p e).1; have := HL.out; omega), HO5.out, HB4.out.trans (hk5.below HB4.out.size (fun j hj e => by have := (ho4.lt j e).1; have := HL.out; omega)), Nat.le_trans HS4.out hk5.size⟩
          · have HCK : Hid (comeE S (4 * (z % 200)) = 11 ∧ comeS S (4 * (z % 200)) = S) := (come_kind HBI.out (by omega) (by omega)).1 (by omega)
            have HD5 : Hid (Door w4 d g S) := by have h := HD4.out; rw [HCK.out.2] at h; exact h
            rw [HCK.out.1]
            clear hc
            go_wp2
            go_roundw
            case rel => exact ⟨k + 1, S, P, T, A1, q1, cc1, by go_num, rfl, by rw [HT0.out], by omega, by omega, HQ1.out, HBI.out.mono, HQI.out.mono, HD5.out, HP4.out, HO4.out, HB4.out, HS4.out⟩
            case measure => simp [intOf]; omega
        · go_wp2_with fail
          refine (come_any (4 * (z % 200)) HD.out HOK.out).mono ?_
          rintro e w4 ⟨va, rfl, hoa, hd4, hk4⟩
          have HD4 := Lib.hid hd4
          have HOA := Lib.hid hoa
          have HP4 := Lib.hid (HP.out.keep hk4 (fun e => by have := HL.out; omega))
          have HO4 := Lib.hid (HO.out.keep hk4 (fun i hi e => by have := (HO.out.lt i hi).1; have := HL.out; omega))
          have HB4 : Hid (Below w.heap.size w w4) := HB.out.trans (hk4.below HB.out.size (fun j hj e => by have := HL.out; omega))
          have HS4 : Hid (B ≤ w4.heap.size) := Nat.le_trans HBS.out hk4.size
          clear hoa hd4 hk4 HD HP HO HB
          have dw : decide ((W : Int) < T0) = false := by simp; omega
          have dw0 : decide (T0 < 0) = false := by simp; omega
          obtain ⟨A4, n4, c4, hn4, rfl⟩ := HOA.out.form
          have HN4 := Lib.hid hn4
          clear hn4
          by_cases hc : z % 200 < S.count
          · have HCK : Hid (comeE S (4 * (z % 200)) = 0) := ((come_kind HBI.out (by omega) (by omega)).2 hc).1
            have HBJ : Hid (BInv (k + 1) M (comeS S (4 * (z % 200))) (T ++ comeL S (4 * (z % 200)))) := HBI.out.come (by omega) (by omega) hc
            have HLL : Hid ((T ++ comeL S (4 * (z % 200))).length ≤ 32) := by have := HBJ.out.small; show _ ≤ _; omega
            rw [HCK.out]
            have HQT : Hid (q1 = T.length) := HQ1.out
            clear hc
            go_wp2_with (at_builtin; go_loud (refine wpList_append_ints rfl _ _ 26 rfl i0 Try.underlying26 hi0 hz0 hz1 hz2 (by rfl) (by rfl) HO4.out HOA.out.bs (by have := HLL.out; rw [List.length_append] at this; omega) HS4.out ?_; intro v1 w5 own1 keep1 at1; obtain ⟨A5, n5, c5, hn5, rfl⟩ := own1.form; have HN5 := Lib.hid hn5; have HO5 := Lib.hid own1; have HK5 := Lib.hid keep1; have hn5M : (n5 : Int) ≤ M := (by have := HBJ.out.small; omega); have dq5 : decide ((M : Int) < n5) = false := (by simp; omega); clear own1 keep1 at1 hn5 dq hq1M))
            go_roundw
            case measure => simp [intOf]; omega
            case rel =>
              have hk5 := HK5.out
              have ho4 := HO4.out
              exact ⟨k + 1, comeS S (4 * (z % 200)), P, T ++ comeL S (4 * (z % 200)), A5, n5, c5, by go_num, rfl, by rw [HT0.out], by omega, by omega, HN5.out, HBJ.out, HQI.out.mono, HD4.out.keep hk5 (fun e => by have := (ho4.lt d e).1; have := HL.out; omega) (fun e => by have := (ho4.lt g e).1; have := HL.out; omega), HP4.out.keep hk5 (fun e => by have := (ho4.lt p e).1; have := HL.out; omega), HO5.out, HB4.out.trans (hk5.below HB4.out.size (fun j hj e => by have := (ho4.lt j e).1; have := HL.out; omega)), Nat.le_trans HS4.out hk5.size⟩
          · have HCK : Hid (comeE S (4 * (z % 200)) = 11 ∧ comeS S (4 * (z % 200)) = S) := (come_kind HBI.out (by omega) (by omega)).1 (by omega)
            have HD5 : Hid (Door w4 d g S) := by have h := HD4.out; rw [HCK.out.2] at h; exact h
            rw [HCK.out.1]
            clear hc
            go_wp2
            go_roundw
            case rel => exact ⟨k + 1, S, P, T, A1, q1, cc1, by go_num, rfl, by rw [HT0.out], by omega, by omega, HQ1.out, HBI.out.mono, HQI.out.mono, HD5.out, HP4.out, HO4.out, HB4.out, HS4.out⟩
            case measure => simp [intOf]; omega
      have e1 : (x == 1) = false := by simp; omega
      have e3 : (x == 3) = false := by simp; omega
      by_cases x4 : x = 4
      · subst x4
        by_cases hq0 : q1 = 0
        · have HQ0 := Lib.hid hq0
          have d0 : decide ((0 : Int) < q1) = false := by simp; omega
          have d0' : decide (0 < q1) = false := by simp; omega
          have dw : decide ((W : Int) < T0) = false := by simp; omega
          have dw0 : decide (T0 < 0) = false := by simp; omega
          clear hq0
          go_wp2
          go_roundw
          case rel => exact ⟨k + 1, S, P, T, A1, q1, cc1, by go_num, rfl, by rw [HT0.out], by omega, by omega, HQ1.out, HBI.out.mono, HQI.out.mono, HD.out, HP.out, HO.out, HB.out, HBS.out⟩
          case measure => simp [intOf]; omega
        · have hq0' : (0 : Int) < q1 := by omega
          have d0 : decide ((0 : Int) < q1) = true := by simp; omega
          have d0' : decide (0 < q1) = true := by simp; omega
          have dz : ((q1 : Int) == 0) = false := by simp; omega
          have hb1 := Int.emod_nonneg z (b := (q1 : Int)) (by omega)
          have hb2 := Int.emod_lt_of_pos z (b := (q1 : Int)) (by omega)
          obtain ⟨j, hj⟩ : ∃ j : Nat, z % (q1 : Int) = j := ⟨(z % (q1 : Int)).toNat, by omega⟩
          have hjq : j < q1 := by omega
          have hjq' : (j : Int) < q1 := by omega
          have HJL : Hid (j < T.length) := by have := HQ1.out; show j < _; omega
          obtain ⟨g6, o6, hA6, _, hcell⟩ : ∃ g6 o6, A1 = some ⟨g6, o6, none⟩ ∧ True ∧ wr.cell? ⟨g6, o6 + j, none⟩ = some (.int .i64 (at_ T j)) := by
            obtain ⟨A6, n6, c6, e6, hn6, _, hc6⟩ := HO.out.bs
            injection e6 with e61 e62 e63
            subst e61 e62 e63
            obtain ⟨g6, o6, rfl, _, hx⟩ := hc6 (by omega)
            exact ⟨g6, o6, rfl, trivial, hx j hjq⟩
          subst hA6
          have htd : z.tmod (q1 : Int) = j := by rw [Int.tmod_eq_emod_of_nonneg hzl0]; exact hj
          clear hb1 hb2 hq0
          obtain ⟨hle, hbj⟩ := HBI.out.leave HJL.out
          have HLE := Lib.hid hle
          have HBJ := Lib.hid hbj
          clear hle hbj
          go_wp2_with fail
          refine (leave_any (at_ T j) HD.out HOK.out ?_).mono ?_
          · have := HBI.out.mem _ (mem_at HJL.out); have := HBI.out.inv.c1; have := HBI.out.tc; omega
          rintro e w4 ⟨rfl, hd4, hk4⟩
          rw [HLE.out]
          have hlt0 : ∀ i, (Value.slice (some ⟨g6, o6, none⟩) q1 cc1).ownBlock = some i → B ≤ i ∧ i < wr.heap.size := HO.out.lt
          have HD4 := Lib.hid hd4
          have HP4 := Lib.hid (HP.out.keep hk4 (fun e => by have := HL.out; omega))
          have HO4 := Lib.hid (HO.out.keep hk4 (fun i hi e => by have := (hlt0 i hi).1; have := HL.out; omega))
          have HB4 : Hid (Below w.heap.size w w4) := HB.out.trans (hk4.below HB.out.size (fun j hj e => by have := HL.out; omega))
          have HS4 : Hid (B ≤ w4.heap.size) := Nat.le_trans HBS.out hk4.size
          obtain ⟨y1, hc1, hy1⟩ := run_first (P := Try.prog) 26 i0 Try.underlying26 hi0 hz1 HO4.out.bs j (by have := HJL.out; omega)
          obtain ⟨y2, hc2, hy2⟩ := run_from (P := Try.prog) 26 i0 Try.underlying26 hi0 hz1 HO4.out.bs (j + 1) (by have := HJL.out; omega)
          have hc2' : ∀ W : World, (Instr.sliceAt 26 (.slice (some ⟨g6, o6, none⟩) q1 cc1) (some (.int .i64 ((j : Int) + 1))) none none).run Try.prog W = .ok y2 W := hc2
          have HOB : Hid (∀ i, (Value.slice (some ⟨g6, o6, none⟩) q1 cc1).ownBlock = some i → i < w4.heap.size) := fun i hi => (HO4.out.lt i hi).2
          have HY1 : Hid (Bs (fun i => i < w4.heap.size) (w4.alloc (.cells #[] 3)) y1 (T.take j)) := (hy1.mono (fun i _ e => HOB.out i e)).keep ((Keep.refl w4 (fun _ => False)).alloc _) (fun _ _ => id)
          have HY2 : Hid (Bs (fun i => i < w4.heap.size) (w4.alloc (.cells #[] 3)) y2 (T.drop (j + 1))) := (hy2.mono (fun i _ e => HOB.out i e)).keep ((Keep.refl w4 (fun _ => False)).alloc _) (fun _ _ => id)
          have HOL : Hid (Own (w4.alloc (.cells #[] 3)) B (.slice (some ⟨w4.heap.size, 0, none⟩) 0 0) []) := .inr ⟨w4.heap.size, 0, 0, #[], (0, 0), rfl, HS4.out, heap_alloc_new w4 _, .inl rfl, Nat.le_refl _, Nat.le_refl _, fun j hj => by simp at hj⟩
          have HTL : Hid (T.length ≤ 32) := by have := HQ1.out; show _ ≤ _; omega
          have ew : IntKind.i64.wrap ((j : Int) + 1) = j + 1 := IntWalk.i64_in _ (by omega)
          have dw : decide ((W : Int) < T0) = false := by simp; omega
          have dw0 : decide (T0 < 0) = false := by simp; omega
          clear hd4 hk4 HD HP HO HB HBS hy1 hy2 hc2 hlt0 hcell htd hj dq
          go_wp2
          go_region_law (first | (refine step_append_ints (by rfl) (.tmp 118) (.tmp 121) 26 (by rfl) i0 Try.underlying26 hi0 hz0 hz1 hz2 (by rfl) (by rfl) (HOL.out.heap (by rfl)) (HY1.out.heap (by rfl)) (by have := HTL.out; simp; omega) (by have := HS4.out; simp; omega) ?_; intro v5 w5 own5 keep5 at5; have HO5 := Lib.hid own5; have HK5 := Lib.hid keep5; have HA5 := Lib.hid at5; clear own5 keep5 at5) | (refine step_append_ints (by rfl) (.tmp 122) (.tmp 126) 26 (by rfl) i0 Try.underlying26 hi0 hz0 hz1 hz2 (by rfl) (by rfl) (HO5.out.heap (by rfl)) (((HY2.out.heap (by rfl)).keep HK5.out (fun i hi e => by simp [Value.ownBlock] at e; omega)).heap (by rfl)) (by have := HTL.out; simp; omega) (by have := HS4.out; have := HK5.out.size; simp at this ⊢; omega) ?_; intro v6 w6 own6 keep6 at6; have HO6 := Lib.hid own6; have HK6 := Lib.hid keep6; clear own6 keep6 at6) | fail)
          all_goals
            have ho7 : Own w6 B v6 (T.take j ++ T.drop (j + 1)) := by have h := HO6.out; simpa using h
            have HO7 := Lib.hid ho7
            clear ho7
            obtain ⟨A6, n6, c6, hn6, rfl⟩ := HO7.out.form
            have HN6 := Lib.hid hn6
            have hn6M : (n6 : Int) ≤ M := by have := HBJ.out.small; omega
            have dq6 : decide ((M : Int) < n6) = false := by simp; omega
            have HK7 : Hid (Keep w4 w6 (fun _ => False)) := by
              have k1 := HK5.out
              have k2 := HK6.out
              have hs1 := k1.size
              have hs2 := k2.size
              simp at hs1
              have ha : ∀ i, v5.ownBlock = some i → w4.heap.size ≤ i := fun i hi => by
                rcases HA5.out with e | e
                · rw [hi] at e; simp [Value.ownBlock] at e; omega
                · rw [hi] at e; simp at e; omega
              exact ⟨k2.os.trans k1.os, k2.tape.trans k1.tape, k2.output.trans k1.output, by omega, fun i hi _ => (k2.block i (by show i < w5.heap.size; omega) (fun e => by have := ha i e; omega)).trans ((k1.block i (by simp; omega) (fun e => by simp [Value.ownBlock] at e; omega)).trans (heap_old w4 _ i hi))⟩
            clear hn6 hq1M
            go_wp2
            go_roundw
            case measure => simp [intOf]; omega
            case rel => exact ⟨k + 1, leaveT S (at_ T j), P, T.take j ++ T.drop (j + 1), A6, n6, c6, by go_num, rfl, by rw [HT0.out], by omega, by omega, HN6.out, HBJ.out, HQI.out.mono, HD4.out.keep HK7.out id id, HP4.out.keep HK7.out id, HO7.out, HB4.out.trans (HK7.out.below HB4.out.size (fun _ _ h => h)), Nat.le_trans HS4.out HK7.out.size⟩
      have e4 : (x == 4) = false := by simpa using x4
      by_cases x5 : x = 5
      · subst x5
        go_wp2_with fail
        refine (grant_any HD.out HOK.out HBI.out.inv.c0 (by have := HBI.out.inv.m0; omega) (by have := HBI.out.inv.m1; omega)).mono ?_
        rintro e w4 ⟨rfl, hd4, hk4⟩
        have HD4 := Lib.hid hd4
        have HP4 := Lib.hid (HP.out.keep hk4 (fun e => by have := HL.out; omega))
        have HO4 := Lib.hid (HO.out.keep hk4 (fun i hi e => by have := (HO.out.lt i hi).1; have := HL.out; omega))
        have HB4 : Hid (Below w.heap.size w w4) := HB.out.trans (hk4.below HB.out.size (fun j hj e => by have := HL.out; omega))
        have HS4 : Hid (B ≤ w4.heap.size) := Nat.le_trans HBS.out hk4.size
        clear hd4 hk4 HD HP HO HB HBS
        go_wp2_with fail
        refine (grant_p HP4.out HQI.out.ok).mono ?_
        rintro e w5 ⟨rfl, hp5, hk5⟩
        have HP5 := Lib.hid hp5
        have HD5 := Lib.hid (HD4.out.keep hk5 (fun e => by have := HL.out; omega) (fun e => by have := HL.out; omega))
        have HO5 := Lib.hid (HO4.out.keep hk5 (fun i hi e => by have := (HO4.out.lt i hi).1; have := HL.out; omega))
        have HB5 : Hid (Below w.heap.size w w5) := HB4.out.trans (hk5.below HB4.out.size (fun j hj e => by have := HL.out; omega))
        have HS5 : Hid (B ≤ w5.heap.size) := Nat.le_trans HS4.out hk5.size
        clear hp5 hk5 HD4 HP4 HO4 HB4 HS4
        have dw : decide ((W : Int) < T0) = false := by simp; omega
        have dw0 : decide (T0 < 0) = false := by simp; omega
        go_wp2
        go_roundw
        case rel => exact ⟨k + 1, grantS S, pgS P, T, A1, q1, cc1, by go_num, rfl, by rw [HT0.out]; unfold pgS; split <;> rfl, by omega, by omega, HQ1.out, HBI.out.grant, HQI.out.grant (by omega), HD5.out, HP5.out, HO5.out, HB5.out, HS5.out⟩
        case measure => simp [intOf]; omega
      have e5 : (x == 5) = false := by simpa using x5
      clear x5 x4 x1
      go_wp2_with fail
      refine (take_p z HP.out HQI.out.ok).mono ?_
      rintro e w4 ⟨rfl, hp4, hk4⟩
      have HP4 := Lib.hid hp4
      have HD4 := Lib.hid (HD.out.keep hk4 (fun e => by have := HL.out; omega) (fun e => by have := HL.out; omega))
      have HO4 := Lib.hid (HO.out.keep hk4 (fun i hi e => by have := (HO.out.lt i hi).1; have := HL.out; omega))
      have HB4 : Hid (Below w.heap.size w w4) := HB.out.trans (hk4.below HB.out.size (fun j hj e => by have := HL.out; omega))
      have HS4 : Hid (B ≤ w4.heap.size) := Nat.le_trans HBS.out hk4.size
      have HQ4 : Hid (QInv k W (takeS P z)) := HQI.out.take z
      obtain ⟨P4, hP4⟩ : ∃ u, u = takeS P z := ⟨_, rfl⟩
      obtain ⟨E4, hE4⟩ : ∃ u, u = takeE P z := ⟨_, rfl⟩
      have HC4 : Hid (P4.came - P4.used = if E4 = 0 then T0 + z else T0) := by
        show _ = _
        rw [hP4, hE4, HT0.out]
        unfold takeS
        split
        · show P.came + z - P.used = _; omega
        · rfl
      rw [← hP4] at HP4 HQ4
      rw [← hE4]
      clear hp4 hk4 HD HP HO HB HBS HQI HT0 hP4 hE4
      have hw4 := HQ4.out.waits
      obtain ⟨T4, hT4⟩ : ∃ u, u = P4.came - P4.used := ⟨_, rfl⟩
      rw [← hT4] at hw4
      obtain ⟨hw40, hw41⟩ := hw4
      have HT4 := Lib.hid hT4
      rw [← hT4] at HC4
      clear hT4
      by_cases hE : E4 = 0
      · subst hE
        have hT : T0 + z = T4 := by have := HC4.out; simpa using this.symm
        have HTT := Lib.hid hT
        have hz4 : T0 + z ≤ 65536 := by omega
        clear hT
        go_wp2_with fail
        refine (use_p (z / 2) HP4.out HQ4.out.ok).mono ?_
        rintro e w5 ⟨rfl, hp5, hk5⟩
        have HP5 := Lib.hid hp5
        have HD5 := Lib.hid (HD4.out.keep hk5 (fun e => by have := HL.out; omega) (fun e => by have := HL.out; omega))
        have HO5 := Lib.hid (HO4.out.keep hk5 (fun i hi e => by have := (HO4.out.lt i hi).1; have := HL.out; omega))
        have HB5 : Hid (Below w.heap.size w w5) := HB4.out.trans (hk5.below HB4.out.size (fun j hj e => by have := HL.out; omega))
        have HS5 : Hid (B ≤ w5.heap.size) := Nat.le_trans HS4.out hk5.size
        have HQ5 : Hid (QInv k W (useS P4 (z / 2))) := HQ4.out.use (z / 2)
        obtain ⟨P5, hP5⟩ : ∃ u, u = useS P4 (z / 2) := ⟨_, rfl⟩
        obtain ⟨E5, hE5⟩ : ∃ u, u = useE P4 (z / 2) := ⟨_, rfl⟩
        have HC5 : Hid (P5.came - P5.used = if E5 = 0 then T4 - z / 2 else T4) := by
          show _ = _
          rw [hP5, hE5, HT4.out]
          unfold useS
          split
          · show P4.came - (P4.used + z / 2) = _; omega
          · rfl
        rw [← hP5] at HP5 HQ5
        rw [← hE5]
        clear hp5 hk5 HD4 HP4 HO4 HB4 HS4 HQ4 HT4 hP5 hE5
        have hw5 := HQ5.out.waits
        obtain ⟨T5, hT5⟩ : ∃ u, u = P5.came - P5.used := ⟨_, rfl⟩
        rw [← hT5] at hw5
        obtain ⟨hw50, hw51⟩ := hw5
        have HT5 := Lib.hid hT5
        rw [← hT5] at HC5
        clear hT5
        by_cases hE5 : E5 = 0
        · subst hE5
          have hT : (T0 + z) - z / 2 = T5 := by have := HC5.out; rw [← HTT.out] at this; simpa using this.symm
          have dw : decide ((W : Int) < (T0 + z) - z / 2) = false := by simp; omega
          have dw0 : decide ((T0 + z) - z / 2 < 0) = false := by simp; omega
          have HTT5 := Lib.hid hT
          clear hT
          go_wp2
          go_roundw
          case rel => exact ⟨k + 1, S, P5, T, A1, q1, cc1, by go_num, rfl, by rw [← HT5.out, ← HTT5.out], by omega, by omega, HQ1.out, HBI.out.mono, HQ5.out.mono, HD5.out, HP5.out, HO5.out, HB5.out, HS5.out⟩
          case measure => simp [intOf]; omega
        · have hEb5 : (E5 == 0) = false := by simpa using hE5
          have hT : (T0 + z) = T5 := by have := HC5.out; rw [← HTT.out] at this; rw [if_neg hE5] at this; exact this.symm
          have dw : decide ((W : Int) < (T0 + z)) = false := by simp; omega
          have dw0 : decide ((T0 + z) < 0) = false := by simp; omega
          have HTT5 := Lib.hid hT
          clear hT hE5
          go_wp2
          go_roundw
          case rel => exact ⟨k + 1, S, P5, T, A1, q1, cc1, by go_num, rfl, by rw [← HT5.out, ← HTT5.out], by omega, by omega, HQ1.out, HBI.out.mono, HQ5.out.mono, HD5.out, HP5.out, HO5.out, HB5.out, HS5.out⟩
          case measure => simp [intOf]; omega
      · have hEb : (E4 == 0) = false := by simpa using hE
        have hT : T0 = T4 := by have := HC4.out; rw [if_neg hE] at this; exact this.symm
        subst hT
        clear hE
        go_wp2_with fail
        refine (use_p (z / 2) HP4.out HQ4.out.ok).mono ?_
        rintro e w5 ⟨rfl, hp5, hk5⟩
        have HP5 := Lib.hid hp5
        have HD5 := Lib.hid (HD4.out.keep hk5 (fun e => by have := HL.out; omega) (fun e => by have := HL.out; omega))
        have HO5 := Lib.hid (HO4.out.keep hk5 (fun i hi e => by have := (HO4.out.lt i hi).1; have := HL.out; omega))
        have HB5 : Hid (Below w.heap.size w w5) := HB4.out.trans (hk5.below HB4.out.size (fun j hj e => by have := HL.out; omega))
        have HS5 : Hid (B ≤ w5.heap.size) := Nat.le_trans HS4.out hk5.size
        have HQ5 : Hid (QInv k W (useS P4 (z / 2))) := HQ4.out.use (z / 2)
        obtain ⟨P5, hP5⟩ : ∃ u, u = useS P4 (z / 2) := ⟨_, rfl⟩
        obtain ⟨E5, hE5⟩ : ∃ u, u = useE P4 (z / 2) := ⟨_, rfl⟩
        have HC5 : Hid (P5.came - P5.used = if E5 = 0 then T0 - z / 2 else T0) := by
          show _ = _
          rw [hP5, hE5, HT4.out]
          unfold useS
          split
          · show P4.came - (P4.used + z / 2) = _; omega
          · rfl
        rw [← hP5] at HP5 HQ5
        rw [← hE5]
        clear hp5 hk5 HD4 HP4 HO4 HB4 HS4 HQ4 HT4 hP5 hE5
        have hw5 := HQ5.out.waits
        obtain ⟨T5, hT5⟩ : ∃ u, u = P5.came - P5.used := ⟨_, rfl⟩
        rw [← hT5] at hw5
        obtain ⟨hw50, hw51⟩ := hw5
        have HT5 := Lib.hid hT5
        rw [← hT5] at HC5
        clear hT5
        by_cases hE5 : E5 = 0
        · subst hE5
          have hT : T0 - z / 2 = T5 := by have := HC5.out; skip; simpa using this.symm
          have dw : decide ((W : Int) < T0 - z / 2) = false := by simp; omega
          have dw0 : decide (T0 - z / 2 < 0) = false := by simp; omega
          have HTT5 := Lib.hid hT
          clear hT
          go_wp2
          go_roundw
          case rel => exact ⟨k + 1, S, P5, T, A1, q1, cc1, by go_num, rfl, by rw [← HT5.out, ← HTT5.out], by omega, by omega, HQ1.out, HBI.out.mono, HQ5.out.mono, HD5.out, HP5.out, HO5.out, HB5.out, HS5.out⟩
          case measure => simp [intOf]; omega
        · have hEb5 : (E5 == 0) = false := by simpa using hE5
          have hT : T0 = T5 := by have := HC5.out; skip; rw [if_neg hE5] at this; exact this.symm
          have dw : decide ((W : Int) < T0) = false := by simp; omega
          have dw0 : decide (T0 < 0) = false := by simp; omega
          have HTT5 := Lib.hid hT
          clear hT hE5
          go_wp2
          go_roundw
          case rel => exact ⟨k + 1, S, P5, T, A1, q1, cc1, by go_num, rfl, by rw [← HT5.out, ← HTT5.out], by omega, by omega, HQ1.out, HBI.out.mono, HQ5.out.mono, HD5.out, HP5.out, HO5.out, HB5.out, HS5.out⟩
          case measure => simp [intOf]; omega
    · by_cases h : k < n
      · have dn : decide ((k : Int) < n) = true := by simp; omega
        have dk : decide ((k : Int) < 100) = false := by simp; omega
        clear hlt
        go_wp2
        go_ret
        exact ⟨rfl, HB.out⟩
      · have dn : decide ((k : Int) < n) = false := by simp; omega
        clear hlt
        go_wp2
        go_ret
        exact ⟨rfl, HB.out⟩
end Go.Proofs.Ytpaodflocbfghaa
