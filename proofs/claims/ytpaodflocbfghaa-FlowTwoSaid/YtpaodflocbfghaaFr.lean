/-
  FlowTwo: the walk.
-/
import Derived.Test.YtpaodflocbfghaaFq
namespace Go.Proofs.Ytpaodflocbfghaa
open Go.RowKit Go.Rh Go.Maps

/-- What the loop keeps. -/
def TRel (w : World) (n M : Nat) (ga da gb db p q B : Nat) (s13 s14 i : Value) (wr : World) : Prop :=
  ∃ (k o l : Nat) (c lim came used : Int) (A1 : Option Addr) (q1 c1 : Nat), i = .int .i64 k ∧ s13 = .slice A1 q1 c1 ∧ s14 = .int .i64 (came - used) ∧ k ≤ n ∧ k ≤ 100 ∧ q1 = o - l ∧ Two k M o l c lim came used ∧ Door wr da ga (aS o l c) ∧ Door wr db gb (bS M o l c) ∧ Pu 62 wr p (sP lim came) ∧ Pu 62 wr q (rP lim came used) ∧ Own wr B (.slice A1 q1 c1) (news 0 l (o - l)) ∧ Below w.heap.size w wr ∧ B ≤ wr.heap.size
/-- All the ends' blocks, in their places. -/
structure Pl (w0 ga da gb db p q B : Nat) : Prop where
  a : w0 ≤ ga
  b : ga < da
  c : da < gb
  d : gb < db
  e : db < p
  f : p < q
  g : q < B

set_option maxRecDepth 100000 in
set_option maxHeartbeats 0 in
theorem two_any {w : World} {A : Option Addr} {n c : Nat} {X N : Nat → Int} {most : Int} (hx : Deals w A n X N) (hn : (n : Int) ≤ 9223372036854775807) :
    Calls Try.prog 7 #[.int .i64 most, .slice A n c] w fun e w' => e = .returned (.bool true) ∧ Below w.heap.size w w' := by
  obtain ⟨i0, hi0, hz0, hz1, hz2⟩ := info_parts info3
  have HX := Lib.hid hx
  clear hx
  obtain ⟨M, hM, hM1, hM2⟩ := mod_one most 32 (by decide) (by decide)
  have HMM : Hid (wrap64 (1 + wrap64 ((IntKind.u64.wrap most).tmod 32)) = (M : Int)) := hM
  have m1 : 1 ≤ (M : Int) := by omega
  have m2 : (M : Int) ≤ 32 := by omega
  clear hM hM1 hM2
  go_enter Try.func7, Try.ntmps7
  go_wp2_with fail
  refine (counts_any w).mono ?_
  rintro e w1 ⟨rfl, hb1⟩
  have HB1 := Lib.hid hb1
  clear hb1
  go_wp2_with fail
  rw [HMM.out]
  refine (doors_new (s := false) (m := 5) (by decide) (by decide)).mono ?_
  rintro e w2 ⟨rfl, hb2, ha2⟩
  have HB2 : Hid (Below w.heap.size w w2) := HB1.out.trans (hb2.mono HB1.out.size)
  have HA2 := Lib.hid ha2
  have HN1 : Hid (w.heap.size ≤ w1.heap.size ∧ w1.heap.size + 1 < w2.heap.size) := ⟨HB1.out.size, ha2.lt⟩
  clear hb2 ha2 HB1
  go_wp2_with fail
  refine (doors_new (s := true) m1 m2).mono ?_
  rintro e w3 ⟨rfl, hb3, hd3⟩
  have HB3 : Hid (Below w.heap.size w w3) := HB2.out.trans (hb3.mono HB2.out.size)
  have HA3 := Lib.hid (HA2.out.keep (Keep.of_below hb3 (Nat.le_refl _) (fun _ => False)) id id)
  have HD3 := Lib.hid hd3
  have HN2 : Hid (w2.heap.size + 1 < w3.heap.size) := hd3.lt
  clear hb3 hd3 HB2 HA2
  go_wp2_with fail
  refine (purse_new (m := 100) (by decide) (by decide)).mono ?_
  rintro e w4 ⟨rfl, hb4, hp4⟩
  have HB4 : Hid (Below w.heap.size w w4) := HB3.out.trans (hb4.mono HB3.out.size)
  have HA4 := Lib.hid (HA3.out.keep (Keep.of_below hb4 (Nat.le_refl _) (fun _ => False)) id id)
  have HD4 := Lib.hid (HD3.out.keep (Keep.of_below hb4 (Nat.le_refl _) (fun _ => False)) id id)
  have HP4 := Lib.hid hp4
  have HN3 : Hid (w3.heap.size < w4.heap.size) := hp4.lt
  clear hb4 hp4 HB3 HA3 HD3
  go_wp2_with fail
  refine (purse_new (m := 100) (by decide) (by decide)).mono ?_
  rintro e w5 ⟨rfl, hb5, hq5⟩
  have HB5 : Hid (Below w.heap.size w w5) := HB4.out.trans (hb5.mono HB4.out.size)
  have HA5 := Lib.hid (HA4.out.keep (Keep.of_below hb5 (Nat.le_refl _) (fun _ => False)) id id)
  have HD5 := Lib.hid (HD4.out.keep (Keep.of_below hb5 (Nat.le_refl _) (fun _ => False)) id id)
  have HP5 := Lib.hid (HP4.out.keep (Keep.of_below hb5 (Nat.le_refl _) (fun _ => False)) id)
  have HQ5 := Lib.hid hq5
  have HN4 : Hid (w4.heap.size < w5.heap.size) := hq5.lt
  clear hb5 hq5 HB4 HA4 HD4 HP4
  obtain ⟨ga, hga⟩ : ∃ x, x = w1.heap.size := ⟨_, rfl⟩
  rw [← hga] at HA5 HN1 ⊢
  obtain ⟨gb, hgb⟩ : ∃ x, x = w2.heap.size := ⟨_, rfl⟩
  rw [← hgb] at HD5 HN1 HN2 ⊢
  obtain ⟨p, hp⟩ : ∃ x, x = w3.heap.size := ⟨_, rfl⟩
  rw [← hp] at HP5 HN2 HN3 ⊢
  obtain ⟨q, hq⟩ : ∃ x, x = w4.heap.size := ⟨_, rfl⟩
  rw [← hq] at HQ5 HN3 HN4 ⊢
  obtain ⟨B, hB⟩ : ∃ x, x = w5.heap.size := ⟨_, rfl⟩
  have HBS5 : Hid (B ≤ w5.heap.size) := by show B ≤ _; omega
  rw [← hB] at HN4
  obtain ⟨da, hda⟩ : ∃ x, x = ga + 1 := ⟨_, rfl⟩
  rw [← hda] at HA5 HN1 ⊢
  obtain ⟨db, hdb⟩ : ∃ x, x = gb + 1 := ⟨_, rfl⟩
  rw [← hdb] at HD5 HN2 ⊢
  have HL : Hid (Pl w.heap.size ga da gb db p q B) := ⟨HN1.out.1, by omega, HN1.out.2, by omega, HN2.out, HN3.out, HN4.out⟩
  clear hga hgb hp hq hB hda hdb HN1 HN2 HN3 HN4
  go_wp2_with fail
  refine (allow_any (n := (M : Int)) HA5.out).mono ?_
  rintro e w6 ⟨rfl, ha6, hk6⟩
  obtain ⟨la, lb, lc, ld, le, lf, lg⟩ := HL.out
  have ha7 : Door w6 da ga (aS 0 0 M) := by
    have e : max (0 : Int) (min (M : Int) 1099511627776) = M := by omega
    have h := ha6
    simp only at h
    rw [e] at h
    exact h
  have HA6 := Lib.hid ha7
  have HD6 := Lib.hid (HD5.out.keep hk6 (fun e => by omega) (fun e => by omega))
  have HP6 := Lib.hid (HP5.out.keep hk6 (fun e => by omega))
  have HQ6 := Lib.hid (HQ5.out.keep hk6 (fun e => by omega))
  have HB6 : Hid (Below w.heap.size w w6) := HB5.out.trans (hk6.below HB5.out.size (fun j hj e => by omega))
  have HS6 : Hid (B ≤ w6.heap.size) := Nat.le_trans HBS5.out hk6.size
  clear ha6 ha7 hk6 HA5 HD5 HP5 HQ5 HB5 HBS5 la lb lc ld le lf lg
  go_wp2_with fail
  refine (allow_p (n := 100) HP6.out).mono ?_
  rintro e w7 ⟨rfl, hp7, hk7⟩
  obtain ⟨la, lb, lc, ld, le, lf, lg⟩ := HL.out
  have HP7 : Hid (Pu 62 w7 p (sP 100 0)) := hp7
  have HA7 := Lib.hid (HA6.out.keep hk7 (fun e => by omega) (fun e => by omega))
  have HD7 : Hid (Door w7 db gb (bS M 0 0 M)) := HD6.out.keep hk7 (fun e => by omega) (fun e => by omega)
  have HQ7 : Hid (Pu 62 w7 q (rP 100 0 0)) := HQ6.out.keep hk7 (fun e => by omega)
  have HB7 : Hid (Below w.heap.size w w7) := HB6.out.trans (hk7.below HB6.out.size (fun j hj e => by omega))
  have HS7 : Hid (B ≤ w7.heap.size) := Nat.le_trans HS6.out hk7.size
  clear hp7 hk7 HA6 HD6 HP6 HQ6 HB6 HS6 la lb lc ld le lf lg
  go_wp2
  go_loopw [13, 14, 15] (fun s13 s14 i wr => TRel w n M ga da gb db p q B s13 s14 i wr) (fun _ _ i _ => 100 - (intOf i).toNat)
  case atStart =>
    exact ⟨0, 0, 0, M, 100, 0, 0, none, 0, 0, rfl, rfl, rfl, Nat.zero_le _, by omega, rfl, ⟨by omega, by omega, Nat.le_refl 0, Nat.le_refl 0, by omega, by omega, Int.le_refl 0, Int.le_refl 0, by omega, by omega⟩, HA7.out, HD7.out, HP7.out, HQ7.out, .inl ⟨rfl, rfl⟩, HB7.out, HS7.out⟩
  case round =>
    clear HA7 HD7 HP7 HQ7 HB7 HS7
    obtain ⟨k, o, l, cb, lim, came, used, A1, q1, cc1, rfl, rfl, rfl, hkn, hk100, hq1, ht, ha, hd, hp, hq, ho, hb, hbs⟩ := hrel
    have HT := Lib.hid ht
    have HA := Lib.hid ha
    have HD := Lib.hid hd
    have HP := Lib.hid hp
    have HQ := Lib.hid hq
    have HO := Lib.hid ho
    have HB := Lib.hid hb
    have HBS := Lib.hid hbs
    have HQ1 := Lib.hid hq1
    obtain ⟨T0, hT0⟩ : ∃ t, t = came - used := ⟨_, rfl⟩
    rw [← hT0]
    have hT0a : 0 ≤ T0 := by have := ht.uc; omega
    have hT0b : T0 ≤ 1000000000 := by have := ht.u0; have := ht.cm; have := ht.lm; omega
    have HT0 := Lib.hid hT0
    clear ht ha hd hp hq ho hb hbs hq1 hT0
    by_cases hlt : k < n ∧ k < 100
    · obtain ⟨hk1, hk2⟩ := hlt
      have hk1' : (k : Int) < n := by omega
      have hk2' : (k : Int) < 100 := by omega
      have dk : decide ((k : Int) < 100) = true := by simpa using hk2'
      have dn : decide ((k : Int) < n) = true := by simpa using hk1'
      obtain ⟨b, off, rfl, hbl, hcells⟩ := HX.out (by omega)
      obtain ⟨cx, cn, _, _⟩ := hcells k hk1
      have c0 : wr.cell? ⟨b, off + k * 2, none⟩ = some (.int .i64 (X k)) := (World.cell?_of_block (HB.out.block b hbl)).trans cx
      have c1 : wr.cell? ⟨b, off + k * 2 + 1, none⟩ = some (.int .i64 (N k)) := (World.cell?_of_block (HB.out.block b hbl)).trans cn
      obtain ⟨y, hy⟩ : ∃ y, y = N k := ⟨_, rfl⟩
      obtain ⟨x, hx⟩ : ∃ x, x = X k := ⟨_, rfl⟩
      rw [← hy] at c1
      rw [← hx] at c0
      obtain ⟨z, hz, hzl0, hzl'⟩ : ∃ z : Int, wrap64 ((IntKind.u64.wrap y).tmod 60) = z ∧ 0 ≤ z ∧ z < 60 := by
        obtain ⟨z, h1, h2⟩ := mod_u64 y 60 (by decide) (by decide)
        exact ⟨z, h1, by omega, by omega⟩
      clear cx cn hcells hbl hy hx
      by_cases x1 : x = 1 ∨ x = 2
      · rcases x1 with rfl | rfl
        · go_wp2_with fail
          refine (open_any HA.out (HT.out.a (by omega)) (by have := HT.out.cl; have := HT.out.lo; have := HT.out.ok; have := HT.out.m1; show cb ≤ _; omega)).mono ?_
          rintro e w5 ⟨rfl, ha5, hk5⟩
          by_cases hc : (o : Int) < cb
          · obtain ⟨p1, p2, p3⟩ := two_open (l := l) hc
            rw [p3] at ha5
            rw [p1, p2]
            have HA5 := Lib.hid ha5
            have HC := Lib.hid hc
            clear p1 p2 p3 ha5 hc
            obtain ⟨la, lb, lc, ld, le, lf, lg⟩ := HL.out
            have HD5 := Lib.hid (HD.out.keep hk5 (fun e => by omega) (fun e => by omega))
            have HP5 := Lib.hid (HP.out.keep hk5 (fun e => by omega))
            have HQ5 := Lib.hid (HQ.out.keep hk5 (fun e => by omega))
            have HO5 := Lib.hid (HO.out.keep hk5 (fun i hi e => by have := (HO.out.lt i hi).1; omega))
            have HB5 : Hid (Below w.heap.size w w5) := HB.out.trans (hk5.below HB.out.size (fun j hj e => by omega))
            have HBS5 : Hid (B ≤ w5.heap.size) := Nat.le_trans HBS.out hk5.size
            clear hk5 HA HD HP HQ HO HB HBS la lb lc ld le lf lg
            go_wp2_with fail
            refine (come_any (4 * (o : Int)) HD5.out (HT.out.b (by omega))).mono ?_
            rintro e w6 ⟨va, rfl, hoa, hd6, hk6⟩
            obtain ⟨p1, p2, p3⟩ := two_come (M := M) (l := l) HC.out (by have := HT.out.ok; omega)
            rw [p3] at hd6
            rw [p2] at hoa
            rw [p1]
            have HD6 := Lib.hid hd6
            obtain ⟨A6, n6, c6, hn6, rfl⟩ := hoa.form
            simp only [List.length_cons, List.length_nil, Nat.zero_add] at hn6
            subst hn6
            obtain ⟨g6, o6, hA6, hcell⟩ : ∃ g6 o6, A6 = some ⟨g6, o6, none⟩ ∧ w6.cell? ⟨g6, o6, none⟩ = some (.int .i64 (4 * (o : Int))) := by
              obtain ⟨A7, n7, c7, e7, hn7, _, hc7⟩ := hoa.bs
              injection e7 with e71 e72 e73
              subst e71 e72 e73
              obtain ⟨g6, o6, rfl, _, hx⟩ := hc7 (by omega)
              exact ⟨g6, o6, rfl, by have h := hx 0 (by omega); rw [Nat.add_zero] at h; exact h⟩
            subst hA6
            clear p1 p2 p3 hd6 hoa
            obtain ⟨la, lb, lc, ld, le, lf, lg⟩ := HL.out
            have HA6 := Lib.hid (HA5.out.keep hk6 (fun e => by omega) (fun e => by omega))
            have HP6 := Lib.hid (HP5.out.keep hk6 (fun e => by omega))
            have HQ6 := Lib.hid (HQ5.out.keep hk6 (fun e => by omega))
            have HO6 := Lib.hid (HO5.out.keep hk6 (fun i hi e => by have := (HO5.out.lt i hi).1; omega))
            have HB6 : Hid (Below w.heap.size w w6) := HB5.out.trans (hk6.below HB5.out.size (fun j hj e => by omega))
            have HBS6 : Hid (B ≤ w6.heap.size) := Nat.le_trans HBS5.out hk6.size
            clear hk6 HA5 HD5 HP5 HQ5 HO5 HB5 HBS5 la lb lc ld le lf lg
            have HTN : Hid (Two (k + 1) M (o + 1) l cb lim came used) := by
              have h := HT.out.mono
              have h0 := HT.out.ok
              exact ⟨h.m0, h.m1, by have := h.lo; omega, by omega, by have := HC.out; omega, h.cl, h.u0, h.uc, h.cm, h.lm⟩
            have HTL : Hid ((news 0 l (o - l)).length ≤ 100) := by show _ ≤ _; rw [news_length]; have := HT.out.ok; omega
            go_wp2_with (at_builtin; go_loud (refine wpList_append_ints rfl _ _ 26 rfl i0 Try.underlying26 hi0 hz0 hz1 hz2 (by rfl) (by rfl) (HO6.out.keep (S := fun _ => False) ((Keep.refl w6 _).alloc _) (fun _ _ => id)) (bs_one w6 _) (by have := HTL.out; simp; omega) (by have := HBS6.out; simp; omega) ?_; intro v1 w7 own1 keep1 at1; obtain ⟨A7, n7, c7, hn7, rfl⟩ := own1.form; have HN7 := Lib.hid hn7; have HO7 := Lib.hid own1; have HK7 := Lib.hid keep1; clear own1 keep1 at1 hn7))
            go_roundw
            case measure => simp [intOf]; omega
            case rel =>
              have HK8 : Hid (Keep w6 w7 (fun i => (Value.slice A1 q1 cc1).ownBlock = some i)) := ((Keep.refl w6 _).alloc _).trans HK7.out (fun _ _ e => e)
              have hk8 := HK8.out
              have ho6 := HO6.out
              obtain ⟨la, lb, lc, ld, le, lf, lg⟩ := HL.out
              have hO := HO7.out
              rw [news_more l o HT.out.lo] at hO
              exact ⟨k + 1, o + 1, l, cb, lim, came, used, A7, n7, c7, by go_num, rfl, by rw [HT0.out], by omega, by omega, by have := HN7.out; rw [news_more l o HT.out.lo, news_length] at this; exact this, HTN.out, HA6.out.keep hk8 (fun e => by have := (ho6.lt _ e).1; omega) (fun e => by have := (ho6.lt _ e).1; omega), HD6.out.keep hk8 (fun e => by have := (ho6.lt _ e).1; omega) (fun e => by have := (ho6.lt _ e).1; omega), HP6.out.keep hk8 (fun e => by have := (ho6.lt _ e).1; omega), HQ6.out.keep hk8 (fun e => by have := (ho6.lt _ e).1; omega), hO, HB6.out.trans (hk8.below HB6.out.size (fun j hj e => by have := (ho6.lt _ e).1; omega)), Nat.le_trans HBS6.out hk8.size⟩
          · obtain ⟨p1, p2⟩ := two_full (o := o) (l := l) (c := cb) (by omega)
            rw [p2] at ha5
            rw [p1]
            have HA5 := Lib.hid ha5
            obtain ⟨ON, hON⟩ : ∃ u, u = openN (aS o l cb) := ⟨_, rfl⟩
            rw [← hON]
            clear p1 p2 ha5 hc hON
            obtain ⟨la, lb, lc, ld, le, lf, lg⟩ := HL.out
            have HD5 := Lib.hid (HD.out.keep hk5 (fun e => by omega) (fun e => by omega))
            have HP5 := Lib.hid (HP.out.keep hk5 (fun e => by omega))
            have HQ5 := Lib.hid (HQ.out.keep hk5 (fun e => by omega))
            have HO5 := Lib.hid (HO.out.keep hk5 (fun i hi e => by have := (HO.out.lt i hi).1; omega))
            have HB5 : Hid (Below w.heap.size w w5) := HB.out.trans (hk5.below HB.out.size (fun j hj e => by omega))
            have HBS5 : Hid (B ≤ w5.heap.size) := Nat.le_trans HBS.out hk5.size
            clear hk5 HA HD HP HQ HO HB HBS la lb lc ld le lf lg
            go_wp2
            go_roundw
            case rel => exact ⟨k + 1, o, l, cb, lim, came, used, A1, q1, cc1, by go_num, rfl, by rw [HT0.out], by omega, by omega, HQ1.out, HT.out.mono, HA5.out, HD5.out, HP5.out, HQ5.out, HO5.out, HB5.out, HBS5.out⟩
            case measure => simp [intOf]; omega
        · go_wp2_with fail
          refine (open_any HA.out (HT.out.a (by omega)) (by have := HT.out.cl; have := HT.out.lo; have := HT.out.ok; have := HT.out.m1; show cb ≤ _; omega)).mono ?_
          rintro e w5 ⟨rfl, ha5, hk5⟩
          by_cases hc : (o : Int) < cb
          · obtain ⟨p1, p2, p3⟩ := two_open (l := l) hc
            rw [p3] at ha5
            rw [p1, p2]
            have HA5 := Lib.hid ha5
            have HC := Lib.hid hc
            clear p1 p2 p3 ha5 hc
            obtain ⟨la, lb, lc, ld, le, lf, lg⟩ := HL.out
            have HD5 := Lib.hid (HD.out.keep hk5 (fun e => by omega) (fun e => by omega))
            have HP5 := Lib.hid (HP.out.keep hk5 (fun e => by omega))
            have HQ5 := Lib.hid (HQ.out.keep hk5 (fun e => by omega))
            have HO5 := Lib.hid (HO.out.keep hk5 (fun i hi e => by have := (HO.out.lt i hi).1; omega))
            have HB5 : Hid (Below w.heap.size w w5) := HB.out.trans (hk5.below HB.out.size (fun j hj e => by omega))
            have HBS5 : Hid (B ≤ w5.heap.size) := Nat.le_trans HBS.out hk5.size
            clear hk5 HA HD HP HQ HO HB HBS la lb lc ld le lf lg
            go_wp2_with fail
            refine (come_any (4 * (o : Int)) HD5.out (HT.out.b (by omega))).mono ?_
            rintro e w6 ⟨va, rfl, hoa, hd6, hk6⟩
            obtain ⟨p1, p2, p3⟩ := two_come (M := M) (l := l) HC.out (by have := HT.out.ok; omega)
            rw [p3] at hd6
            rw [p2] at hoa
            rw [p1]
            have HD6 := Lib.hid hd6
            obtain ⟨A6, n6, c6, hn6, rfl⟩ := hoa.form
            simp only [List.length_cons, List.length_nil, Nat.zero_add] at hn6
            subst hn6
            obtain ⟨g6, o6, hA6, hcell⟩ : ∃ g6 o6, A6 = some ⟨g6, o6, none⟩ ∧ w6.cell? ⟨g6, o6, none⟩ = some (.int .i64 (4 * (o : Int))) := by
              obtain ⟨A7, n7, c7, e7, hn7, _, hc7⟩ := hoa.bs
              injection e7 with e71 e72 e73
              subst e71 e72 e73
              obtain ⟨g6, o6, rfl, _, hx⟩ := hc7 (by omega)
              exact ⟨g6, o6, rfl, by have h := hx 0 (by omega); rw [Nat.add_zero] at h; exact h⟩
            subst hA6
            clear p1 p2 p3 hd6 hoa
            obtain ⟨la, lb, lc, ld, le, lf, lg⟩ := HL.out
            have HA6 := Lib.hid (HA5.out.keep hk6 (fun e => by omega) (fun e => by omega))
            have HP6 := Lib.hid (HP5.out.keep hk6 (fun e => by omega))
            have HQ6 := Lib.hid (HQ5.out.keep hk6 (fun e => by omega))
            have HO6 := Lib.hid (HO5.out.keep hk6 (fun i hi e => by have := (HO5.out.lt i hi).1; omega))
            have HB6 : Hid (Below w.heap.size w w6) := HB5.out.trans (hk6.below HB5.out.size (fun j hj e => by omega))
            have HBS6 : Hid (B ≤ w6.heap.size) := Nat.le_trans HBS5.out hk6.size
            clear hk6 HA5 HD5 HP5 HQ5 HO5 HB5 HBS5 la lb lc ld le lf lg
            have HTN : Hid (Two (k + 1) M (o + 1) l cb lim came used) := by
              have h := HT.out.mono
              have h0 := HT.out.ok
              exact ⟨h.m0, h.m1, by have := h.lo; omega, by omega, by have := HC.out; omega, h.cl, h.u0, h.uc, h.cm, h.lm⟩
            have HTL : Hid ((news 0 l (o - l)).length ≤ 100) := by show _ ≤ _; rw [news_length]; have := HT.out.ok; omega
            go_wp2_with (at_builtin; go_loud (refine wpList_append_ints rfl _ _ 26 rfl i0 Try.underlying26 hi0 hz0 hz1 hz2 (by rfl) (by rfl) (HO6.out.keep (S := fun _ => False) ((Keep.refl w6 _).alloc _) (fun _ _ => id)) (bs_one w6 _) (by have := HTL.out; simp; omega) (by have := HBS6.out; simp; omega) ?_; intro v1 w7 own1 keep1 at1; obtain ⟨A7, n7, c7, hn7, rfl⟩ := own1.form; have HN7 := Lib.hid hn7; have HO7 := Lib.hid own1; have HK7 := Lib.hid keep1; clear own1 keep1 at1 hn7))
            go_roundw
            case measure => simp [intOf]; omega
            case rel =>
              have HK8 : Hid (Keep w6 w7 (fun i => (Value.slice A1 q1 cc1).ownBlock = some i)) := ((Keep.refl w6 _).alloc _).trans HK7.out (fun _ _ e => e)
              have hk8 := HK8.out
              have ho6 := HO6.out
              obtain ⟨la, lb, lc, ld, le, lf, lg⟩ := HL.out
              have hO := HO7.out
              rw [news_more l o HT.out.lo] at hO
              exact ⟨k + 1, o + 1, l, cb, lim, came, used, A7, n7, c7, by go_num, rfl, by rw [HT0.out], by omega, by omega, by have := HN7.out; rw [news_more l o HT.out.lo, news_length] at this; exact this, HTN.out, HA6.out.keep hk8 (fun e => by have := (ho6.lt _ e).1; omega) (fun e => by have := (ho6.lt _ e).1; omega), HD6.out.keep hk8 (fun e => by have := (ho6.lt _ e).1; omega) (fun e => by have := (ho6.lt _ e).1; omega), HP6.out.keep hk8 (fun e => by have := (ho6.lt _ e).1; omega), HQ6.out.keep hk8 (fun e => by have := (ho6.lt _ e).1; omega), hO, HB6.out.trans (hk8.below HB6.out.size (fun j hj e => by have := (ho6.lt _ e).1; omega)), Nat.le_trans HBS6.out hk8.size⟩
          · obtain ⟨p1, p2⟩ := two_full (o := o) (l := l) (c := cb) (by omega)
            rw [p2] at ha5
            rw [p1]
            have HA5 := Lib.hid ha5
            obtain ⟨ON, hON⟩ : ∃ u, u = openN (aS o l cb) := ⟨_, rfl⟩
            rw [← hON]
            clear p1 p2 ha5 hc hON
            obtain ⟨la, lb, lc, ld, le, lf, lg⟩ := HL.out
            have HD5 := Lib.hid (HD.out.keep hk5 (fun e => by omega) (fun e => by omega))
            have HP5 := Lib.hid (HP.out.keep hk5 (fun e => by omega))
            have HQ5 := Lib.hid (HQ.out.keep hk5 (fun e => by omega))
            have HO5 := Lib.hid (HO.out.keep hk5 (fun i hi e => by have := (HO.out.lt i hi).1; omega))
            have HB5 : Hid (Below w.heap.size w w5) := HB.out.trans (hk5.below HB.out.size (fun j hj e => by omega))
            have HBS5 : Hid (B ≤ w5.heap.size) := Nat.le_trans HBS.out hk5.size
            clear hk5 HA HD HP HQ HO HB HBS la lb lc ld le lf lg
            go_wp2
            go_roundw
            case rel => exact ⟨k + 1, o, l, cb, lim, came, used, A1, q1, cc1, by go_num, rfl, by rw [HT0.out], by omega, by omega, HQ1.out, HT.out.mono, HA5.out, HD5.out, HP5.out, HQ5.out, HO5.out, HB5.out, HBS5.out⟩
            case measure => simp [intOf]; omega
      have e1 : (x == 1) = false := by simp; omega
      have e2 : (x == 2) = false := by simp; omega
      by_cases x3 : x = 3
      · subst x3
        by_cases hq0 : q1 = 0
        · have d0 : decide ((0 : Int) < q1) = false := by simp; omega
          have d0' : decide (0 < q1) = false := by simp; omega
          have HQ0 := Lib.hid hq0
          clear hq0
          go_wp2
          go_roundw
          case rel => exact ⟨k + 1, o, l, cb, lim, came, used, A1, q1, cc1, by go_num, rfl, by rw [HT0.out], by omega, by omega, HQ1.out, HT.out.mono, HA.out, HD.out, HP.out, HQ.out, HO.out, HB.out, HBS.out⟩
          case measure => simp [intOf]; omega
        · have hq0' : (0 : Int) < q1 := by omega
          have d0 : decide ((0 : Int) < q1) = true := by simp; omega
          have d0' : decide (0 < q1) = true := by simp; omega
          have hlo : l < o := by have := HQ1.out; omega
          have HLO := Lib.hid hlo
          clear hlo
          obtain ⟨g6, o6, hA6, hcell⟩ : ∃ g6 o6, A1 = some ⟨g6, o6, none⟩ ∧ wr.cell? ⟨g6, o6, none⟩ = some (.int .i64 (4 * (l : Int))) := by
            obtain ⟨A7, n7, c7, e7, hn7, _, hc7⟩ := HO.out.bs
            injection e7 with e71 e72 e73
            subst e71 e72 e73
            obtain ⟨g6, o6, rfl, _, hx⟩ := hc7 (by omega)
            have h := hx 0 (by omega)
            have e : at_ (news 0 l (o - l)) 0 = 4 * (l : Int) := by
              rw [at_get (by rw [news_length]; have := HLO.out; omega)]
              simp [news]
            rw [Nat.add_zero, e] at h
            exact ⟨g6, o6, rfl, h⟩
          subst hA6
          clear hq0
          go_wp2_with fail
          refine (leave_any (4 * (l : Int)) HA.out (HT.out.a (by omega)) (by have := HT.out.lo; have := HT.out.ok; omega)).mono ?_
          rintro e w5 ⟨rfl, ha5, hk5⟩
          obtain ⟨p1, p2⟩ := two_leaveA (c := cb) HLO.out
          rw [p2] at ha5
          rw [p1]
          have HA5 := Lib.hid ha5
          have hcell5 : w5.cell? ⟨g6, o6, none⟩ = some (.int .i64 (4 * (l : Int))) := (World.cell?_of_block (hk5.block g6 (cell_block hcell) (fun e => by have h1 := (HO.out.lt g6 rfl).1; obtain ⟨la, lb, lc, ld, le, lf, lg⟩ := HL.out; omega))).trans hcell
          clear p1 p2 ha5 hcell
          obtain ⟨la, lb, lc, ld, le, lf, lg⟩ := HL.out
          have HD5 := Lib.hid (HD.out.keep hk5 (fun e => by omega) (fun e => by omega))
          have HP5 := Lib.hid (HP.out.keep hk5 (fun e => by omega))
          have HQ5 := Lib.hid (HQ.out.keep hk5 (fun e => by omega))
          have HO5 := Lib.hid (HO.out.keep hk5 (fun i hi e => by have := (HO.out.lt i hi).1; omega))
          have HB5 : Hid (Below w.heap.size w w5) := HB.out.trans (hk5.below HB.out.size (fun j hj e => by omega))
          have HBS5 : Hid (B ≤ w5.heap.size) := Nat.le_trans HBS.out hk5.size
          clear hk5 HA HD HP HQ HO HB HBS la lb lc ld le lf lg
          go_wp2_with fail
          refine (leave_any (4 * (l : Int)) HD5.out (HT.out.b (by omega)) (by have := HT.out.lo; have := HT.out.ok; omega)).mono ?_
          rintro e w6 ⟨rfl, hd6, hk6⟩
          obtain ⟨p1, p2⟩ := two_leaveB (M := M) (c := cb) HLO.out
          rw [p2] at hd6
          rw [p1]
          have HD6 := Lib.hid hd6
          clear p1 p2 hd6 hcell5
          obtain ⟨la, lb, lc, ld, le, lf, lg⟩ := HL.out
          have HA6 := Lib.hid (HA5.out.keep hk6 (fun e => by omega) (fun e => by omega))
          have HP6 := Lib.hid (HP5.out.keep hk6 (fun e => by omega))
          have HQ6 := Lib.hid (HQ5.out.keep hk6 (fun e => by omega))
          have HO6 := Lib.hid (HO5.out.keep hk6 (fun i hi e => by have := (HO5.out.lt i hi).1; omega))
          have HB6 : Hid (Below w.heap.size w w6) := HB5.out.trans (hk6.below HB5.out.size (fun j hj e => by omega))
          have HBS6 : Hid (B ≤ w6.heap.size) := Nat.le_trans HBS5.out hk6.size
          clear hk6 HA5 HD5 HP5 HQ5 HO5 HB5 HBS5 la lb lc ld le lf lg
          obtain ⟨v7, hcut, ho7, hob7⟩ := run_cut_own (P := Try.prog) 26 i0 Try.underlying26 hi0 hz1 HO6.out 1 (by decide) (by rw [news_length]; have := HLO.out; omega)
          rw [news_drop l o HLO.out] at ho7
          obtain ⟨A7, n7, c7, hn7, rfl⟩ := ho7.form
          rw [news_length] at hn7
          have hcut' : ∀ W : World, (Instr.sliceAt 26 (.slice (some ⟨g6, o6, none⟩) q1 cc1) (some (.int .i64 1)) none none).run Try.prog W = .ok (.slice A7 n7 c7) W := hcut
          have HO7 := Lib.hid ho7
          have HN7 := Lib.hid hn7
          have HTN : Hid (Two (k + 1) M o (l + 1) cb lim came used) := by
            have h := HT.out.mono
            exact ⟨h.m0, h.m1, by have := HLO.out; omega, h.ok, h.oc, by have := h.cl; omega, h.u0, h.uc, h.cm, h.lm⟩
          clear hcut ho7 hob7 hn7
          go_wp2
          go_roundw
          case rel => exact ⟨k + 1, o, l + 1, cb, lim, came, used, A7, n7, c7, by go_num, rfl, by rw [HT0.out], by omega, by omega, HN7.out, HTN.out, HA6.out, HD6.out, HP6.out, HQ6.out, HO7.out, HB6.out, HBS6.out⟩
          case measure => simp [intOf]; omega
      have e3 : (x == 3) = false := by simpa using x3
      by_cases x4 : x = 4
      · subst x4
        go_wp2_with fail
        refine (grant_any HD.out (HT.out.b (by omega)) (by have := HT.out.oc; show 0 ≤ cb; omega) (by show (0 : Int) ≤ M; omega) (by show (M : Int) ≤ _; omega)).mono ?_
        rintro e w5 ⟨rfl, hd5, hk5⟩
        by_cases hl : cb - l < M
        · obtain ⟨p1, p2⟩ := (two_grant (o := o)).1 hl
          rw [p1] at hd5
          rw [p1, p2]
          have HD5 := Lib.hid hd5
          have HL0 := Lib.hid hl
          clear p1 p2 hd5 hl
          obtain ⟨la, lb, lc, ld, le, lf, lg⟩ := HL.out
          have HA5 := Lib.hid (HA.out.keep hk5 (fun e => by omega) (fun e => by omega))
          have HP5 := Lib.hid (HP.out.keep hk5 (fun e => by omega))
          have HQ5 := Lib.hid (HQ.out.keep hk5 (fun e => by omega))
          have HO5 := Lib.hid (HO.out.keep hk5 (fun i hi e => by have := (HO.out.lt i hi).1; omega))
          have HB5 : Hid (Below w.heap.size w w5) := HB.out.trans (hk5.below HB.out.size (fun j hj e => by omega))
          have HBS5 : Hid (B ≤ w5.heap.size) := Nat.le_trans HBS.out hk5.size
          clear hk5 HA HD HP HQ HO HB HBS la lb lc ld le lf lg
          go_wp2_with fail
          refine (allow_any (n := (l : Int) + M) HA5.out).mono ?_
          rintro e w6 ⟨rfl, ha6, hk6⟩
          have ha7 : Door w6 da ga (aS o l ((l : Int) + M)) := by
            have e : max cb (min ((l : Int) + M) 1099511627776) = (l : Int) + M := by have := HT.out.lo; have := HT.out.ok; have := HL0.out; omega
            have h := ha6
            simp only [aS] at h
            rw [e] at h
            exact h
          have HA6 := Lib.hid ha7
          have HT6 : Hid (Two k M o l ((l : Int) + M) lim came used) := by
            have h := HT.out
            exact ⟨h.m0, h.m1, h.lo, h.ok, by have := h.oc; have := HL0.out; omega, by omega, h.u0, h.uc, h.cm, h.lm⟩
          clear ha6 ha7
          obtain ⟨la, lb, lc, ld, le, lf, lg⟩ := HL.out
          have HD6 := Lib.hid (HD5.out.keep hk6 (fun e => by omega) (fun e => by omega))
          have HP6 := Lib.hid (HP5.out.keep hk6 (fun e => by omega))
          have HQ6 := Lib.hid (HQ5.out.keep hk6 (fun e => by omega))
          have HO6 := Lib.hid (HO5.out.keep hk6 (fun i hi e => by have := (HO5.out.lt i hi).1; omega))
          have HB6 : Hid (Below w.heap.size w w6) := HB5.out.trans (hk6.below HB5.out.size (fun j hj e => by omega))
          have HBS6 : Hid (B ≤ w6.heap.size) := Nat.le_trans HBS5.out hk6.size
          clear hk6 HA5 HD5 HP5 HQ5 HO5 HB5 HBS5 la lb lc ld le lf lg
          go_wp2_with fail
          refine (grant_p HQ6.out (HT6.out.r (by omega))).mono ?_
          rintro e w7 ⟨rfl, hq7, hk7⟩
          by_cases hl : lim - used < 50
          · obtain ⟨p1, p2⟩ := (two_pg (came := came)).1 hl
            rw [p1] at hq7
            rw [p1, p2]
            have HQ7 := Lib.hid hq7
            have HL1 := Lib.hid hl
            clear p1 p2 hq7 hl
            obtain ⟨la, lb, lc, ld, le, lf, lg⟩ := HL.out
            have HA7 := Lib.hid (HA6.out.keep hk7 (fun e => by omega) (fun e => by omega))
            have HD7 := Lib.hid (HD6.out.keep hk7 (fun e => by omega) (fun e => by omega))
            have HP7 := Lib.hid (HP6.out.keep hk7 (fun e => by omega))
            have HO7 := Lib.hid (HO6.out.keep hk7 (fun i hi e => by have := (HO6.out.lt i hi).1; omega))
            have HB7 : Hid (Below w.heap.size w w7) := HB6.out.trans (hk7.below HB6.out.size (fun j hj e => by omega))
            have HBS7 : Hid (B ≤ w7.heap.size) := Nat.le_trans HBS6.out hk7.size
            clear hk7 HA6 HD6 HP6 HQ6 HO6 HB6 HBS6 la lb lc ld le lf lg
            go_wp2_with fail
            refine (allow_p (n := used + 100) HP7.out).mono ?_
            rintro e w8 ⟨rfl, hp8, hk8⟩
            have hp9 : Pu 62 w8 p (sP (used + 100) came) := by
              have e : max lim (min (used + 100) 1099511627776) = used + 100 := by have := HT6.out.cm; have := HT6.out.uc; have := HT6.out.lm; have := HL1.out; omega
              have h := hp8
              simp only [sP] at h
              rw [e] at h
              exact h
            have HP8 := Lib.hid hp9
            have HTN : Hid (Two (k + 1) M o l ((l : Int) + M) (used + 100) came used) := by
              have h := HT6.out.mono
              have h2 := HT6.out.lm
              have h3 := HL1.out
              exact ⟨h.m0, h.m1, h.lo, h.ok, h.oc, h.cl, h.u0, h.uc, by have := h.cm; omega, by have := HT6.out.cm; have := h.uc; omega⟩
            clear hp8 hp9
            obtain ⟨la, lb, lc, ld, le, lf, lg⟩ := HL.out
            have HA8 := Lib.hid (HA7.out.keep hk8 (fun e => by omega) (fun e => by omega))
            have HD8 := Lib.hid (HD7.out.keep hk8 (fun e => by omega) (fun e => by omega))
            have HQ8 := Lib.hid (HQ7.out.keep hk8 (fun e => by omega))
            have HO8 := Lib.hid (HO7.out.keep hk8 (fun i hi e => by have := (HO7.out.lt i hi).1; omega))
            have HB8 : Hid (Below w.heap.size w w8) := HB7.out.trans (hk8.below HB7.out.size (fun j hj e => by omega))
            have HBS8 : Hid (B ≤ w8.heap.size) := Nat.le_trans HBS7.out hk8.size
            clear hk8 HA7 HD7 HP7 HQ7 HO7 HB7 HBS7 la lb lc ld le lf lg
            go_wp2
            go_roundw
            case rel => exact ⟨k + 1, o, l, ((l : Int) + M), (used + 100), came, used, A1, q1, cc1, by go_num, rfl, by rw [HT0.out], by omega, by omega, HQ1.out, HTN.out, HA8.out, HD8.out, HP8.out, HQ8.out, HO8.out, HB8.out, HBS8.out⟩
            case measure => simp [intOf]; omega
          · obtain ⟨p1, p2⟩ := (two_pg (came := came)).2 hl
            rw [p1] at hq7
            rw [p1, p2]
            have HQ7 := Lib.hid hq7
            clear p1 p2 hq7 hl
            obtain ⟨la, lb, lc, ld, le, lf, lg⟩ := HL.out
            have HA7 := Lib.hid (HA6.out.keep hk7 (fun e => by omega) (fun e => by omega))
            have HD7 := Lib.hid (HD6.out.keep hk7 (fun e => by omega) (fun e => by omega))
            have HP7 := Lib.hid (HP6.out.keep hk7 (fun e => by omega))
            have HO7 := Lib.hid (HO6.out.keep hk7 (fun i hi e => by have := (HO6.out.lt i hi).1; omega))
            have HB7 : Hid (Below w.heap.size w w7) := HB6.out.trans (hk7.below HB6.out.size (fun j hj e => by omega))
            have HBS7 : Hid (B ≤ w7.heap.size) := Nat.le_trans HBS6.out hk7.size
            clear hk7 HA6 HD6 HP6 HQ6 HO6 HB6 HBS6 la lb lc ld le lf lg
            go_wp2
            go_roundw
            case rel => exact ⟨k + 1, o, l, ((l : Int) + M), lim, came, used, A1, q1, cc1, by go_num, rfl, by rw [HT0.out], by omega, by omega, HQ1.out, HT6.out.mono, HA7.out, HD7.out, HP7.out, HQ7.out, HO7.out, HB7.out, HBS7.out⟩
            case measure => simp [intOf]; omega
        · obtain ⟨p1, p2⟩ := (two_grant (o := o)).2 hl
          rw [p1] at hd5
          rw [p1, p2]
          have HD5 := Lib.hid hd5
          have HT5 := Lib.hid HT.out
          clear p1 p2 hd5 hl
          obtain ⟨la, lb, lc, ld, le, lf, lg⟩ := HL.out
          have HA5 := Lib.hid (HA.out.keep hk5 (fun e => by omega) (fun e => by omega))
          have HP5 := Lib.hid (HP.out.keep hk5 (fun e => by omega))
          have HQ5 := Lib.hid (HQ.out.keep hk5 (fun e => by omega))
          have HO5 := Lib.hid (HO.out.keep hk5 (fun i hi e => by have := (HO.out.lt i hi).1; omega))
          have HB5 : Hid (Below w.heap.size w w5) := HB.out.trans (hk5.below HB.out.size (fun j hj e => by omega))
          have HBS5 : Hid (B ≤ w5.heap.size) := Nat.le_trans HBS.out hk5.size
          clear hk5 HA HD HP HQ HO HB HBS la lb lc ld le lf lg
          go_wp2_with fail
          refine (grant_p HQ5.out (HT5.out.r (by omega))).mono ?_
          rintro e w7 ⟨rfl, hq7, hk7⟩
          by_cases hl : lim - used < 50
          · obtain ⟨p1, p2⟩ := (two_pg (came := came)).1 hl
            rw [p1] at hq7
            rw [p1, p2]
            have HQ7 := Lib.hid hq7
            have HL1 := Lib.hid hl
            clear p1 p2 hq7 hl
            obtain ⟨la, lb, lc, ld, le, lf, lg⟩ := HL.out
            have HA7 := Lib.hid (HA5.out.keep hk7 (fun e => by omega) (fun e => by omega))
            have HD7 := Lib.hid (HD5.out.keep hk7 (fun e => by omega) (fun e => by omega))
            have HP7 := Lib.hid (HP5.out.keep hk7 (fun e => by omega))
            have HO7 := Lib.hid (HO5.out.keep hk7 (fun i hi e => by have := (HO5.out.lt i hi).1; omega))
            have HB7 : Hid (Below w.heap.size w w7) := HB5.out.trans (hk7.below HB5.out.size (fun j hj e => by omega))
            have HBS7 : Hid (B ≤ w7.heap.size) := Nat.le_trans HBS5.out hk7.size
            clear hk7 HA5 HD5 HP5 HQ5 HO5 HB5 HBS5 la lb lc ld le lf lg
            go_wp2_with fail
            refine (allow_p (n := used + 100) HP7.out).mono ?_
            rintro e w8 ⟨rfl, hp8, hk8⟩
            have hp9 : Pu 62 w8 p (sP (used + 100) came) := by
              have e : max lim (min (used + 100) 1099511627776) = used + 100 := by have := HT5.out.cm; have := HT5.out.uc; have := HT5.out.lm; have := HL1.out; omega
              have h := hp8
              simp only [sP] at h
              rw [e] at h
              exact h
            have HP8 := Lib.hid hp9
            have HTN : Hid (Two (k + 1) M o l cb (used + 100) came used) := by
              have h := HT5.out.mono
              have h2 := HT5.out.lm
              have h3 := HL1.out
              exact ⟨h.m0, h.m1, h.lo, h.ok, h.oc, h.cl, h.u0, h.uc, by have := h.cm; omega, by have := HT5.out.cm; have := h.uc; omega⟩
            clear hp8 hp9
            obtain ⟨la, lb, lc, ld, le, lf, lg⟩ := HL.out
            have HA8 := Lib.hid (HA7.out.keep hk8 (fun e => by omega) (fun e => by omega))
            have HD8 := Lib.hid (HD7.out.keep hk8 (fun e => by omega) (fun e => by omega))
            have HQ8 := Lib.hid (HQ7.out.keep hk8 (fun e => by omega))
            have HO8 := Lib.hid (HO7.out.keep hk8 (fun i hi e => by have := (HO7.out.lt i hi).1; omega))
            have HB8 : Hid (Below w.heap.size w w8) := HB7.out.trans (hk8.below HB7.out.size (fun j hj e => by omega))
            have HBS8 : Hid (B ≤ w8.heap.size) := Nat.le_trans HBS7.out hk8.size
            clear hk8 HA7 HD7 HP7 HQ7 HO7 HB7 HBS7 la lb lc ld le lf lg
            go_wp2
            go_roundw
            case rel => exact ⟨k + 1, o, l, cb, (used + 100), came, used, A1, q1, cc1, by go_num, rfl, by rw [HT0.out], by omega, by omega, HQ1.out, HTN.out, HA8.out, HD8.out, HP8.out, HQ8.out, HO8.out, HB8.out, HBS8.out⟩
            case measure => simp [intOf]; omega
          · obtain ⟨p1, p2⟩ := (two_pg (came := came)).2 hl
            rw [p1] at hq7
            rw [p1, p2]
            have HQ7 := Lib.hid hq7
            clear p1 p2 hq7 hl
            obtain ⟨la, lb, lc, ld, le, lf, lg⟩ := HL.out
            have HA7 := Lib.hid (HA5.out.keep hk7 (fun e => by omega) (fun e => by omega))
            have HD7 := Lib.hid (HD5.out.keep hk7 (fun e => by omega) (fun e => by omega))
            have HP7 := Lib.hid (HP5.out.keep hk7 (fun e => by omega))
            have HO7 := Lib.hid (HO5.out.keep hk7 (fun i hi e => by have := (HO5.out.lt i hi).1; omega))
            have HB7 : Hid (Below w.heap.size w w7) := HB5.out.trans (hk7.below HB5.out.size (fun j hj e => by omega))
            have HBS7 : Hid (B ≤ w7.heap.size) := Nat.le_trans HBS5.out hk7.size
            clear hk7 HA5 HD5 HP5 HQ5 HO5 HB5 HBS5 la lb lc ld le lf lg
            go_wp2
            go_roundw
            case rel => exact ⟨k + 1, o, l, cb, lim, came, used, A1, q1, cc1, by go_num, rfl, by rw [HT0.out], by omega, by omega, HQ1.out, HT5.out.mono, HA7.out, HD7.out, HP7.out, HQ7.out, HO7.out, HB7.out, HBS7.out⟩
            case measure => simp [intOf]; omega
      have e4 : (x == 4) = false := by simpa using x4
      clear x4 x3 x1
      go_wp2_with fail
      refine (left_p HP.out (HT.out.s (by omega))).mono ?_
      rintro e w5 ⟨rfl, kk, rfl⟩
      have HA5 : Hid (Door (wr.drewN kk) da ga (aS o l cb)) := HA.out.mem rfl
      have HD5 : Hid (Door (wr.drewN kk) db gb (bS M o l cb)) := HD.out.mem rfl
      have HP5 : Hid (Pu 62 (wr.drewN kk) p (sP lim came)) := HP.out.mem rfl
      have HQ5 : Hid (Pu 62 (wr.drewN kk) q (rP lim came used)) := HQ.out.mem rfl
      have HO5 : Hid (Own (wr.drewN kk) B (.slice A1 q1 cc1) (news 0 l (o - l))) := HO.out.heap rfl
      have HB5 : Hid (Below w.heap.size w (wr.drewN kk)) := below_drewN HB.out kk
      have HBS5 : Hid (B ≤ (wr.drewN kk).heap.size) := HBS.out
      obtain ⟨w5, hw5⟩ : ∃ u, u = wr.drewN kk := ⟨_, rfl⟩
      rw [← hw5] at HA5 HD5 HP5 HQ5 HO5 HB5 HBS5 ⊢
      obtain ⟨LF, hLF⟩ : ∃ u, u = lim - came := ⟨_, rfl⟩
      have eL : (sP lim came).may - (sP lim came).sent = LF := hLF.symm
      rw [eL]
      have hLF0 : 0 ≤ LF := by have := HT.out.cm; omega
      have hLF1 : LF ≤ 1000000000 := by have := HT.out.cm; have := HT.out.lm; have := HT.out.u0; have := HT.out.uc; omega
      have HLF := Lib.hid hLF
      clear hw5 HA HD HP HQ HO HB HBS hLF eL c0 c1
      by_cases hmin : z ≤ LF
      · have HU : Hid (0 ≤ z ∧ z ≤ lim - came) := ⟨hzl0, by have := HLF.out; omega⟩
        have dm : ¬ LF < z := by omega
        go_wp2_with fail
        refine (spend_p z HP5.out (HT.out.s (by omega))).mono ?_
        rintro e w6 ⟨rfl, hp6, hk6⟩
        obtain ⟨p1, p2⟩ := two_spend HU.out.1 HU.out.2
        rw [p2] at hp6
        rw [p1]
        have HP6 := Lib.hid hp6
        clear p1 p2 hp6
        obtain ⟨la, lb, lc, ld, le, lf, lg⟩ := HL.out
        have HA6 := Lib.hid (HA5.out.keep hk6 (fun e => by omega) (fun e => by omega))
        have HD6 := Lib.hid (HD5.out.keep hk6 (fun e => by omega) (fun e => by omega))
        have HQ6 := Lib.hid (HQ5.out.keep hk6 (fun e => by omega))
        have HO6 := Lib.hid (HO5.out.keep hk6 (fun i hi e => by have := (HO5.out.lt i hi).1; omega))
        have HB6 : Hid (Below w.heap.size w w6) := HB5.out.trans (hk6.below HB5.out.size (fun j hj e => by omega))
        have HBS6 : Hid (B ≤ w6.heap.size) := Nat.le_trans HBS5.out hk6.size
        clear hk6 HA5 HD5 HP5 HQ5 HO5 HB5 HBS5 la lb lc ld le lf lg
        go_wp2_with fail
        refine (take_p z HQ6.out (HT.out.r (by omega))).mono ?_
        rintro e w7 ⟨rfl, hq7, hk7⟩
        obtain ⟨p1, p2⟩ := two_take (used := used) HU.out.1 HU.out.2
        rw [p2] at hq7
        rw [p1]
        have HQ7 := Lib.hid hq7
        have HTN : Hid (Two k M o l cb lim (came + z) used) := by
          have h := HT.out
          have h1 := HU.out
          exact ⟨h.m0, h.m1, h.lo, h.ok, h.oc, h.cl, h.u0, by have := h.uc; omega, by omega, h.lm⟩
        clear p1 p2 hq7
        obtain ⟨la, lb, lc, ld, le, lf, lg⟩ := HL.out
        have HA7 := Lib.hid (HA6.out.keep hk7 (fun e => by omega) (fun e => by omega))
        have HD7 := Lib.hid (HD6.out.keep hk7 (fun e => by omega) (fun e => by omega))
        have HP7 := Lib.hid (HP6.out.keep hk7 (fun e => by omega))
        have HO7 := Lib.hid (HO6.out.keep hk7 (fun i hi e => by have := (HO6.out.lt i hi).1; omega))
        have HB7 : Hid (Below w.heap.size w w7) := HB6.out.trans (hk7.below HB6.out.size (fun j hj e => by omega))
        have HBS7 : Hid (B ≤ w7.heap.size) := Nat.le_trans HBS6.out hk7.size
        clear hk7 HA6 HD6 HP6 HQ6 HO6 HB6 HBS6 la lb lc ld le lf lg
        go_wp2_with fail
        refine (use_p ((T0 + z) / 2) HQ7.out (HTN.out.r (by omega))).mono ?_
        rintro e w8 ⟨rfl, hq8, hk8⟩
        obtain ⟨p1, p2⟩ := two_use (lim := lim) (came := came + z) (used := used) (n := (T0 + z) / 2) (by omega) (by have := HT0.out; omega)
        rw [p2] at hq8
        rw [p1]
        have HQ8 := Lib.hid hq8
        have HTM : Hid (Two (k + 1) M o l cb lim (came + z) (used + (T0 + z) / 2)) := by
          have h := HTN.out.mono
          have h1 := HT0.out
          exact ⟨h.m0, h.m1, h.lo, h.ok, h.oc, h.cl, by have := h.u0; omega, by have := h.uc; omega, h.cm, h.lm⟩
        clear p1 p2 hq8
        obtain ⟨la, lb, lc, ld, le, lf, lg⟩ := HL.out
        have HA8 := Lib.hid (HA7.out.keep hk8 (fun e => by omega) (fun e => by omega))
        have HD8 := Lib.hid (HD7.out.keep hk8 (fun e => by omega) (fun e => by omega))
        have HP8 := Lib.hid (HP7.out.keep hk8 (fun e => by omega))
        have HO8 := Lib.hid (HO7.out.keep hk8 (fun i hi e => by have := (HO7.out.lt i hi).1; omega))
        have HB8 : Hid (Below w.heap.size w w8) := HB7.out.trans (hk8.below HB7.out.size (fun j hj e => by omega))
        have HBS8 : Hid (B ≤ w8.heap.size) := Nat.le_trans HBS7.out hk8.size
        clear hk8 HA7 HD7 HP7 HQ7 HO7 HB7 HBS7 la lb lc ld le lf lg
        go_wp2
        go_roundw
        case rel => exact ⟨k + 1, o, l, cb, lim, (came + z), (used + (T0 + z) / 2), A1, q1, cc1, by go_num, rfl, by rw [show came + z - (used + (T0 + z) / 2) = T0 + z - (T0 + z) / 2 by have := HT0.out; omega], by omega, by omega, HQ1.out, HTM.out, HA8.out, HD8.out, HP8.out, HQ8.out, HO8.out, HB8.out, HBS8.out⟩
        case measure => simp [intOf]; omega
      · have HU : Hid (0 ≤ LF ∧ LF ≤ lim - came) := ⟨hLF0, by have := HLF.out; omega⟩
        have dm : LF < z := by omega
        go_wp2_with fail
        refine (spend_p LF HP5.out (HT.out.s (by omega))).mono ?_
        rintro e w6 ⟨rfl, hp6, hk6⟩
        obtain ⟨p1, p2⟩ := two_spend HU.out.1 HU.out.2
        rw [p2] at hp6
        rw [p1]
        have HP6 := Lib.hid hp6
        clear p1 p2 hp6
        obtain ⟨la, lb, lc, ld, le, lf, lg⟩ := HL.out
        have HA6 := Lib.hid (HA5.out.keep hk6 (fun e => by omega) (fun e => by omega))
        have HD6 := Lib.hid (HD5.out.keep hk6 (fun e => by omega) (fun e => by omega))
        have HQ6 := Lib.hid (HQ5.out.keep hk6 (fun e => by omega))
        have HO6 := Lib.hid (HO5.out.keep hk6 (fun i hi e => by have := (HO5.out.lt i hi).1; omega))
        have HB6 : Hid (Below w.heap.size w w6) := HB5.out.trans (hk6.below HB5.out.size (fun j hj e => by omega))
        have HBS6 : Hid (B ≤ w6.heap.size) := Nat.le_trans HBS5.out hk6.size
        clear hk6 HA5 HD5 HP5 HQ5 HO5 HB5 HBS5 la lb lc ld le lf lg
        go_wp2_with fail
        refine (take_p LF HQ6.out (HT.out.r (by omega))).mono ?_
        rintro e w7 ⟨rfl, hq7, hk7⟩
        obtain ⟨p1, p2⟩ := two_take (used := used) HU.out.1 HU.out.2
        rw [p2] at hq7
        rw [p1]
        have HQ7 := Lib.hid hq7
        have HTN : Hid (Two k M o l cb lim (came + LF) used) := by
          have h := HT.out
          have h1 := HU.out
          exact ⟨h.m0, h.m1, h.lo, h.ok, h.oc, h.cl, h.u0, by have := h.uc; omega, by omega, h.lm⟩
        clear p1 p2 hq7
        obtain ⟨la, lb, lc, ld, le, lf, lg⟩ := HL.out
        have HA7 := Lib.hid (HA6.out.keep hk7 (fun e => by omega) (fun e => by omega))
        have HD7 := Lib.hid (HD6.out.keep hk7 (fun e => by omega) (fun e => by omega))
        have HP7 := Lib.hid (HP6.out.keep hk7 (fun e => by omega))
        have HO7 := Lib.hid (HO6.out.keep hk7 (fun i hi e => by have := (HO6.out.lt i hi).1; omega))
        have HB7 : Hid (Below w.heap.size w w7) := HB6.out.trans (hk7.below HB6.out.size (fun j hj e => by omega))
        have HBS7 : Hid (B ≤ w7.heap.size) := Nat.le_trans HBS6.out hk7.size
        clear hk7 HA6 HD6 HP6 HQ6 HO6 HB6 HBS6 la lb lc ld le lf lg
        go_wp2_with fail
        refine (use_p ((T0 + LF) / 2) HQ7.out (HTN.out.r (by omega))).mono ?_
        rintro e w8 ⟨rfl, hq8, hk8⟩
        obtain ⟨p1, p2⟩ := two_use (lim := lim) (came := came + LF) (used := used) (n := (T0 + LF) / 2) (by omega) (by have := HT0.out; omega)
        rw [p2] at hq8
        rw [p1]
        have HQ8 := Lib.hid hq8
        have HTM : Hid (Two (k + 1) M o l cb lim (came + LF) (used + (T0 + LF) / 2)) := by
          have h := HTN.out.mono
          have h1 := HT0.out
          exact ⟨h.m0, h.m1, h.lo, h.ok, h.oc, h.cl, by have := h.u0; omega, by have := h.uc; omega, h.cm, h.lm⟩
        clear p1 p2 hq8
        obtain ⟨la, lb, lc, ld, le, lf, lg⟩ := HL.out
        have HA8 := Lib.hid (HA7.out.keep hk8 (fun e => by omega) (fun e => by omega))
        have HD8 := Lib.hid (HD7.out.keep hk8 (fun e => by omega) (fun e => by omega))
        have HP8 := Lib.hid (HP7.out.keep hk8 (fun e => by omega))
        have HO8 := Lib.hid (HO7.out.keep hk8 (fun i hi e => by have := (HO7.out.lt i hi).1; omega))
        have HB8 : Hid (Below w.heap.size w w8) := HB7.out.trans (hk8.below HB7.out.size (fun j hj e => by omega))
        have HBS8 : Hid (B ≤ w8.heap.size) := Nat.le_trans HBS7.out hk8.size
        clear hk8 HA7 HD7 HP7 HQ7 HO7 HB7 HBS7 la lb lc ld le lf lg
        go_wp2
        go_roundw
        case rel => exact ⟨k + 1, o, l, cb, lim, (came + LF), (used + (T0 + LF) / 2), A1, q1, cc1, by go_num, rfl, by rw [show came + LF - (used + (T0 + LF) / 2) = T0 + LF - (T0 + LF) / 2 by have := HT0.out; omega], by omega, by omega, HQ1.out, HTM.out, HA8.out, HD8.out, HP8.out, HQ8.out, HO8.out, HB8.out, HBS8.out⟩
        case measure => simp [intOf]; omega
    · by_cases h : k < n
      · have dn : decide ((k : Int) < n) = true := by simp; omega
        have dk : decide ((k : Int) < 100) = false := by simp; omega
        clear hlt
        go_wp2
        go_ret
        exact ⟨rfl, HB.out⟩
      · have dn : decide ((k : Int) < n) = false := by simp; omega
        clear hlt
        go_wp2
        go_ret
        exact ⟨rfl, HB.out⟩
end Go.Proofs.Ytpaodflocbfghaa
