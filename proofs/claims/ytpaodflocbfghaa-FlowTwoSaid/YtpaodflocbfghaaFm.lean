/-
  FlowDoors: the walk.
-/
import Derived.Test.YtpaodflocbfghaaFl
namespace Go.Proofs.Ytpaodflocbfghaa
open Go.RowKit Go.Rh Go.Maps

/-- What the numbers keep between, behind so many calls. -/
structure DInv (k : Nat) (S : DS) : Prop where
  k0 : 0 ≤ S.kind
  k1 : S.kind ≤ 1
  o0 : 0 ≤ S.own
  t0 : 0 ≤ S.theirs
  l0 : 0 ≤ S.left
  l1 : S.left ≤ k
  c0 : 0 ≤ S.count
  c1 : S.count ≤ 32 * (k + 1)
  g1 : S.gone.length ≤ k
  m0 : 1 ≤ S.most
  m1 : S.most ≤ 32
  y1 : S.may ≤ 1099511627776
theorem DInv.ok {k : Nat} {S : DS} (h : DInv k S) (hk : k ≤ 100) : S.Ok :=
  ⟨h.k0, h.k1, h.o0, h.t0, h.l0, by have := h.c1; omega, by have := h.l1; omega, by have := h.g1; omega⟩
theorem DInv.mono {k : Nat} {S : DS} (h : DInv k S) : DInv (k + 1) S :=
  ⟨h.k0, h.k1, h.o0, h.t0, h.l0, by have := h.l1; omega, h.c0, by have := h.c1; omega, by have := h.g1; omega, h.m0, h.m1, h.y1⟩
theorem DInv.openS {k : Nat} {S : DS} (h : DInv k S) : DInv (k + 1) (openS S) := by
  unfold Go.Proofs.Ytpaodflocbfghaa.openS
  split
  · exact h.mono
  · have h := h.mono
    exact ⟨h.k0, h.k1, by have := h.o0; show 0 ≤ S.own + 1; omega, h.t0, h.l0, h.l1, h.c0, h.c1, h.g1, h.m0, h.m1, h.y1⟩
theorem DInv.allow {k : Nat} {S : DS} (h : DInv k S) (n : Int) : DInv (k + 1) { S with may := max S.may (min n 1099511627776) } := by
  have h := h.mono
  exact ⟨h.k0, h.k1, h.o0, h.t0, h.l0, h.l1, h.c0, h.c1, h.g1, h.m0, h.m1, by have := h.y1; show max S.may (min n 1099511627776) ≤ _; omega⟩
theorem DInv.comeS {k : Nat} {S : DS} (h : DInv k S) (n : Int) : DInv (k + 1) (comeS S n) := by
  unfold Go.Proofs.Ytpaodflocbfghaa.comeS
  split
  · have h := h.mono
    exact ⟨h.k0, h.k1, h.o0, by have := h.t0; show 0 ≤ max S.theirs (n / 4 + 1); omega, h.l0, h.l1, h.c0, h.c1, h.g1, h.m0, h.m1, h.y1⟩
  · exact h.mono
theorem DInv.leaveT {k : Nat} {S : DS} (h : DInv k S) (n : Int) : DInv (k + 1) (leaveT S n) := by
  unfold Go.Proofs.Ytpaodflocbfghaa.leaveT
  split
  · exact h.mono
  · unfold leaveS
    have g1 := h.g1
    have l0 := h.l0
    have l1 := h.l1
    exact ⟨h.k0, h.k1, h.o0, h.t0, by show 0 ≤ (if n % 4 = S.kind then S.left else S.left + 1); split <;> omega, by show (if n % 4 = S.kind then S.left else S.left + 1) ≤ _; split <;> omega, h.c0, by have := h.c1; show S.count ≤ _; omega, by simp; omega, h.m0, h.m1, h.y1⟩
theorem DInv.grantS {k : Nat} {S : DS} (h : DInv k S) : DInv (k + 1) (grantS S) := by
  unfold Go.Proofs.Ytpaodflocbfghaa.grantS
  split
  · have h2 := h.mono
    exact ⟨h2.k0, h2.k1, h2.o0, h2.t0, h2.l0, h2.l1, by have := h2.l0; have := h2.m0; show 0 ≤ S.left + S.most; omega, by have := h.l1; have := h.m1; show S.left + S.most ≤ _; omega, h2.g1, h2.m0, h2.m1, h2.y1⟩
  · exact h.mono
theorem comeL_length (S : DS) (n : Int) (h : 0 ≤ S.theirs) : (comeL S n).length ≤ 1125899906842624 := by
  unfold comeL
  split
  · next he =>
    rw [news_length]
    have h1 := he.1
    unfold comeE at h1
    have : n ≤ 4398046511104 := by
      by_cases hb : n < 0 ∨ 4398046511104 < n
      · rw [if_pos hb] at h1; omega
      · omega
    omega
  · simp
theorem own_writable {w : World} {B n c : Nat} {A : Option Addr} {l : List Int} (h : Own w B (.slice A n c) l) (hn : n = l.length) : 0 < n → ∃ g off cs fr, A = some ⟨g, off, none⟩ ∧ w.heap[g]? = some (.cells cs 3 fr) ∧ free fr cs.size ∧ off + n ≤ cs.size := by
  intro h0
  rcases h with ⟨e, _⟩ | ⟨g, off, c, cs, fr, e, _, hg, hf, h1, h2, _⟩
  · injection e with e1 e2 e3; omega
  · injection e with e1 e2 e3
    subst e1 e2
    exact ⟨g, off, cs, fr, rfl, hg, hf, by omega⟩
theorem allow_cells (s : Bool) (S : DS) (v : Value) {x y : Int} (hx : x = max S.may (min y 1099511627776)) : (rcells s S v).setIfInBounds 3 (.int .i64 x) = rcells s { S with may := max S.may (min y 1099511627776) } v := by
  subst hx; rfl

set_option maxRecDepth 100000 in
set_option maxHeartbeats 0 in
theorem doors_any {w : World} {A : Option Addr} {n c : Nat} {X N : Nat → Int} {s : Bool} {most : Int} (hx : Deals w A n X N) (hn : (n : Int) ≤ 9223372036854775807) :
    Calls Try.prog 3 #[.bool s, .int .i64 most, .slice A n c] w fun e w' => e = .returned (.bool true) ∧ Below w.heap.size w w' := by
  have HX := Lib.hid hx
  clear hx
  go_enter Try.func3, Try.ntmps3
  go_wp2_with fail
  refine closed_any.mono ?_
  rintro e w' ⟨rfl, rfl⟩
  go_wp2_with fail
  refine nil_allow.mono ?_
  rintro e w ⟨rfl, rfl⟩
  go_wp2_with fail
  refine closed_any.mono ?_
  rintro e w' ⟨rfl, rfl⟩
  go_wp2_with fail
  refine nil_come.mono ?_
  rintro e w ⟨rfl, rfl⟩
  go_wp2_with fail
  refine (counts_any w).mono ?_
  rintro e w1 ⟨rfl, hb1⟩
  have HB1 := Lib.hid hb1
  clear hb1
  go_wp2_with fail
  refine closed_any.mono ?_
  rintro e w' ⟨rfl, rfl⟩
  go_wp2_with fail
  refine nil_leave.mono ?_
  rintro e w1 ⟨rfl, rfl⟩
  by_cases hbad : most < 1 ∨ 32 < most
  · go_wp2_with fail
    refine (doors_bad hbad).mono ?_
    rintro e w' ⟨rfl, rfl⟩
    rcases hbad with h | h
    · go_wp2
      go_ret
      exact ⟨rfl, HB1.out⟩
    · have h' : ¬ most < 1 := by omega
      go_wp2
      go_ret
      exact ⟨rfl, HB1.out⟩
  have h1 : 1 ≤ most := by omega
  have h2 : most ≤ 32 := by omega
  have d1 : decide (most < 1) = false := by simp; omega
  have d2 : decide (32 < most) = false := by simp; omega
  clear hbad
  go_wp2_with fail
  refine (doors_new h1 h2).mono ?_
  rintro e w2 ⟨rfl, hb2, hp2⟩
  have HB2 : Hid (Below w.heap.size w w2) := HB1.out.trans (hb2.mono HB1.out.size)
  have HP2 := Lib.hid hp2
  have HN1 : Hid (w.heap.size ≤ w1.heap.size) := HB1.out.size
  have HN2 : Hid (w1.heap.size + 1 < w2.heap.size) := hp2.lt
  clear hb2 hp2 HB1
  obtain ⟨g, hg⟩ : ∃ g, g = w1.heap.size := ⟨_, rfl⟩
  rw [← hg] at HP2 HN1 HN2 ⊢
  clear hg
  obtain ⟨d, hd⟩ : ∃ d, d = g + 1 := ⟨_, rfl⟩
  have HGD : Hid (g < d) := by show g < d; omega
  rw [← hd] at HP2 HN2 ⊢
  clear hd
  go_wp2
  have HM : Hid (RDoor (w2.alloc (.cells #[.bool s, .int .i64 most, .int .i64 0, .int .i64 0, .int .i64 0, .int .i64 most, .slice none 0 0, .int .i64 0] 36)) w2.heap.size w2.heap.size s ⟨if s then 1 else 0, most, 0, 0, 0, most, 0, []⟩ (.slice none 0 0)) :=
    ⟨rfl, heap_alloc_new w2 _, .inl ⟨rfl, rfl⟩, by simp [Value.ownBlock], Nat.le_refl _⟩
  have HP : Hid (Door (w2.alloc (.cells #[.bool s, .int .i64 most, .int .i64 0, .int .i64 0, .int .i64 0, .int .i64 most, .slice none 0 0, .int .i64 0] 36)) d g ⟨if s then 1 else 0, most, 0, 0, 0, most, 0, []⟩) := HP2.out.keep ((Keep.refl w2 (fun _ => False)).alloc _) id id
  have HB : Hid (Below w.heap.size w (w2.alloc (.cells #[.bool s, .int .i64 most, .int .i64 0, .int .i64 0, .int .i64 0, .int .i64 most, .slice none 0 0, .int .i64 0] 36))) := HB2.out.alloc HB2.out.size _
  have HL : Hid (w.heap.size ≤ g ∧ g < d ∧ d < w2.heap.size) := ⟨HN1.out, HGD.out, HN2.out⟩
  clear HP2 HB2 HN1 HN2 HGD
  obtain ⟨m, hm⟩ : ∃ m, m = w2.heap.size := ⟨_, rfl⟩
  rw [← hm] at HM HL ⊢
  obtain ⟨w3, hw3⟩ : ∃ w3, w3 = w2.alloc (.cells #[.bool s, .int .i64 most, .int .i64 0, .int .i64 0, .int .i64 0, .int .i64 most, .slice none 0 0, .int .i64 0] 36) := ⟨_, rfl⟩
  rw [← hw3] at HM HP HB ⊢
  clear hw3 hm
  go_loopw [11] (fun i wr => ∃ (k : Nat) (S : DS) (v : Value), i = .int .i64 k ∧ k ≤ n ∧ k ≤ 80 ∧ DInv k S ∧ Door wr d g S ∧ RDoor wr m m s S v ∧ Below w.heap.size w wr) (fun i _ => 80 - (intOf i).toNat)
  case atStart =>
    refine ⟨0, ⟨if s then 1 else 0, most, 0, 0, 0, most, 0, []⟩, .slice none 0 0, rfl, Nat.zero_le _, by omega, ⟨?_, ?_, Int.le_refl 0, Int.le_refl 0, Int.le_refl 0, Int.le_refl 0, ?_, ?_, Nat.le_refl 0, h1, h2, ?_⟩, HP.out, HM.out, HB.out⟩
    · show 0 ≤ if s = true then (1 : Int) else 0; cases s <;> decide
    · show (if s = true then (1 : Int) else 0) ≤ 1; cases s <;> decide
    · show 0 ≤ most; omega
    · show most ≤ _; simp; omega
    · show (0 : Int) ≤ 1099511627776; decide
  case round =>
    clear HP HM HB
    obtain ⟨k, S, v, rfl, hkn, hk80, hok, hp, hm, hb⟩ := hrel
    have HI := Lib.hid hok
    have HOK : Hid S.Ok := hok.ok (by omega)
    have HP := Lib.hid hp
    have HM := Lib.hid hm
    have HB := Lib.hid hb
    have HMB : Hid (m < wr.heap.size) := hm.lt
    clear hok hp hm hb
    by_cases hlt : k < n ∧ k < 80
    · obtain ⟨hk1, hk2⟩ := hlt
      have hk1' : (k : Int) < n := by omega
      have hk2' : (k : Int) < 80 := by omega
      have dk : decide ((k : Int) < 80) = true := by simpa using hk2'
      have dn : decide ((k : Int) < n) = true := by simpa using hk1'
      obtain ⟨b, off, rfl, hbl, hcells⟩ := HX.out (by omega)
      obtain ⟨cx, cn, hn0, hn1⟩ := hcells k hk1
      have c0 : wr.cell? ⟨b, off + k * 2, none⟩ = some (.int .i64 (X k)) := (World.cell?_of_block (HB.out.block b hbl)).trans cx
      have c1 : wr.cell? ⟨b, off + k * 2 + 1, none⟩ = some (.int .i64 (N k)) := (World.cell?_of_block (HB.out.block b hbl)).trans cn
      obtain ⟨y, hy⟩ : ∃ y, y = N k := ⟨_, rfl⟩
      obtain ⟨x, hx⟩ : ∃ x, x = X k := ⟨_, rfl⟩
      rw [← hy] at c1 hn0 hn1
      rw [← hx] at c0
      clear cx cn hcells hbl hy hx
      by_cases x1 : x = 1
      · subst x1
        go_wp2_with fail
        refine (open_any HP.out HOK.out HI.out.y1).mono ?_
        rintro e w4 ⟨rfl, hq, hk4⟩
        have HQ4 := Lib.hid hq
        have HM4 : Hid (RDoor w4 m m s S v) := HM.out.keep hk4 (fun e => by have := HL.out; omega) (fun i hi e => by have := (HM.out.own.lt i hi).1; have := HL.out; omega)
        have HB4 : Hid (Below w.heap.size w w4) := HB.out.trans (hk4.below HB.out.size (fun j hj e => by have := HL.out; omega))
        clear hq hk4 HP HM HB
        go_wp2_with fail
        refine (ropen_any HM4.out HOK.out HI.out.y1).mono ?_
        rintro e w5 ⟨rfl, hr, hk5⟩
        have HR := Lib.hid hr
        have HQ := Lib.hid (HQ4.out.keep hk5 (fun e => by have := HL.out; omega) (fun e => by have := HL.out; omega))
        have HC : Hid (Below w.heap.size w w5) := HB4.out.trans (hk5.below HB4.out.size (fun j hj e => by have := HL.out; omega))
        clear hr hk5 HQ4 HM4 HB4
        go_wp2
        go_roundw
        case rel => exact ⟨k + 1, openS S, v, by go_num, by omega, by omega, HI.out.openS, HQ.out, HR.out, HC.out⟩
        case measure => simp [intOf]; omega
      have e1 : (x == 1) = false := by simpa using x1
      clear x1
      by_cases x2 : x = 2
      · subst x2
        go_wp2_with fail
        refine (allow_any (n := y) HP.out).mono ?_
        rintro e w4 ⟨rfl, hq, hk4⟩
        have HQ4 := Lib.hid hq
        have HM4 : Hid (RDoor w4 m m s S v) := HM.out.keep hk4 (fun e => by have := HL.out; omega) (fun i hi e => by have := (HM.out.own.lt i hi).1; have := HL.out; omega)
        have HB4 : Hid (Below w.heap.size w w4) := HB.out.trans (hk4.below HB.out.size (fun j hj e => by have := HL.out; omega))
        clear hq hk4 HP HM HB
        have m3 : w4.cell? ⟨m, 3, none⟩ = some (.int .i64 S.may) := HM4.out.cell 3
        have g3 : w4.frozen? ⟨m, 3, none⟩ = false := HM4.out.free 3
        go_wp2_with fail
        all_goals
          go_roundw
          case measure => simp [intOf]; omega
          case rel =>
            generalize hw5 : World.setCell w4 _ _ = w5
            have hr : RDoor w5 m m s { S with may := max S.may (min y 1099511627776) } v ∧ Keep w4 w5 (fun k => k = m) := by
              rw [← hw5]
              exact HM4.out.put (allow_cells s S v (by omega)) rfl rfl ⟨rfl, rfl, rfl, rfl⟩
            exact ⟨k + 1, { S with may := max S.may (min y 1099511627776) }, v, by go_num, by omega, by omega, HI.out.allow y, HQ4.out.keep hr.2 (fun e => by have := HL.out; omega) (fun e => by have := HL.out; omega), hr.1, HB4.out.trans (hr.2.below HB4.out.size (fun j hj e => by have := HL.out; omega))⟩
      have e2 : (x == 2) = false := by simpa using x2
      clear x2
      by_cases x3 : x = 3
      · subst x3
        go_wp2_with fail
        refine (come_any y HP.out HOK.out).mono ?_
        rintro e w4 ⟨va, rfl, hoa, hq, hk4⟩
        have HOA := Lib.hid hoa
        have HQ4 := Lib.hid hq
        have HM4 : Hid (RDoor w4 m m s S v) := HM.out.keep hk4 (fun e => by have := HL.out; omega) (fun i hi e => by have := (HM.out.own.lt i hi).1; have := HL.out; omega)
        have HB4 : Hid (Below w.heap.size w w4) := HB.out.trans (hk4.below HB.out.size (fun j hj e => by have := HL.out; omega))
        have HV : Hid (∀ i, v.ownBlock = some i → i < wr.heap.size) := fun i hi => (HM.out.own.lt i hi).2
        have HWB : Hid (w.heap.size ≤ wr.heap.size) := HB.out.size
        clear hoa hq hk4 HP HM HB
        go_wp2_with fail
        refine (rcome_any y HM4.out HOK.out).mono ?_
        rintro e w5 ⟨vb, rfl, hob, hr, hk5⟩
        have HOB := Lib.hid hob
        have HR := Lib.hid hr
        have HQ := Lib.hid (HQ4.out.keep hk5 (fun e => by have := HL.out; omega) (fun e => by have := HL.out; omega))
        have HOA5 : Hid (Own w5 wr.heap.size va (comeL S y)) := HOA.out.keep hk5 (fun i hi e => by have := (HOA.out.lt i hi).1; have := HMB.out; omega)
        have HC : Hid (Below w.heap.size w w5) := HB4.out.trans (hk5.below HB4.out.size (fun j hj e => by have := HL.out; omega))
        clear hob hr hk5 HOA HQ4 HM4 HB4
        go_wp2_with fail
        refine (ints_eq HOA5.out.bs HOB.out.bs (comeL_length S y HI.out.t0)).mono ?_
        rintro e w6 ⟨rfl, hs⟩
        obtain ⟨A6, n6, c6, hn6, rfl⟩ := HOA5.out.form
        have HN6 := Lib.hid hn6
        have HNL : Hid (n6 ≤ 1125899906842624) := by show n6 ≤ _; rw [hn6]; exact comeL_length S y HI.out.t0
        have hn6b : (n6 : Int) ≤ 1125899906842624 := by have := HNL.out; omega
        have HOA6 : Hid (Own w6 wr.heap.size (.slice A6 n6 c6) (comeL S y)) := HOA5.out.heap hs.1
        have HR6 : Hid (RDoor w6 m m s (comeS S y) v) := HR.out.mem hs.1
        have HQ6 : Hid (Door w6 d g (comeS S y)) := HQ.out.mem hs.1
        have HC6 : Hid (Below w.heap.size w w6) := HC.out.trans ((hs.keep (fun _ => False)).below HC.out.size (fun _ _ h => h))
        have HW6 : Hid (0 < n6 → ∃ g off cs fr, A6 = some ⟨g, off, none⟩ ∧ w6.heap[g]? = some (.cells cs 3 fr) ∧ free fr cs.size ∧ off + n6 ≤ cs.size) := own_writable HOA6.out HN6.out
        have HOW : Hid (∀ i, (Value.slice A6 n6 c6).ownBlock = some i → wr.heap.size ≤ i) := fun i hi => (HOA6.out.lt i hi).1
        clear hs hn6 HOA5 HOB HR HQ HC HOA6
        go_wp2
        go_loopw [21] (fun s7 wx => ∃ j : Nat, s7 = .int .i64 j ∧ j ≤ n6 ∧ Keep w6 wx (fun i => (Value.slice A6 n6 c6).ownBlock = some i) ∧ (0 < n6 → ∃ g off cs fr, A6 = some ⟨g, off, none⟩ ∧ wx.heap[g]? = some (.cells cs 3 fr) ∧ free fr cs.size ∧ off + n6 ≤ cs.size)) (fun s7 _ => n6 - (intOf s7).toNat)
        case atStart => exact ⟨0, rfl, Nat.zero_le _, Keep.refl _ _, HW6.out⟩
        case round =>
          clear HW6
          rename World => wx
          obtain ⟨j, rfl, hj, hkx, hgx⟩ := hrel
          by_cases hlt : j < n6
          · have hlt' : (j : Int) < n6 := by omega
            obtain ⟨g6, o6, cs, fr, rfl, hg, hf, hof⟩ := hgx (by omega)
            obtain ⟨yv, ccx⟩ : ∃ y, wx.cell? ⟨g6, o6 + j, none⟩ = some y := ⟨_, by rw [cell_of_row wx g6 (o6 + j) cs 3 fr hg]; exact Array.getElem?_eq_getElem (by omega)⟩
            have ffx : wx.frozen? ⟨g6, o6 + j, none⟩ = false := frozen_free hg hf (by omega)
            have HGX := Lib.hid hg
            have HFX : Hid (free fr cs.size ∧ o6 + n6 ≤ cs.size) := ⟨hf, hof⟩
            have HKX := Lib.hid hkx
            clear hg hf hof hkx hgx hlt
            go_wp2
            go_roundw
            case measure => simp [intOf]; omega
            refine ⟨j + 1, by go_num, by omega, HKX.out.setCell (p := ⟨g6, o6 + j, none⟩) (.inr rfl) _, fun _ => ⟨g6, o6, cs.setIfInBounds (o6 + j) (.int .i64 (-1)), fr, rfl, ?_, by rw [Array.size_setIfInBounds]; exact HFX.out.1, by rw [Array.size_setIfInBounds]; exact HFX.out.2⟩⟩
            have hh := HGX.out
            simp [World.setCell, Array.getElem?_modify, hh]
          · obtain rfl : j = n6 := by omega
            have HKX := Lib.hid hkx
            clear hkx hgx hlt
            go_wp2
            go_roundw
            case measure => simp [intOf]; omega
            case rel =>
              have hb6 := HMB.out
              have hl := HL.out
              exact ⟨k + 1, comeS S y, v, by go_num, by omega, by omega, HI.out.comeS y, HQ6.out.keep HKX.out (fun e => by have := HOW.out d e; omega) (fun e => by have := HOW.out g e; omega), HR6.out.keep HKX.out (fun e => by have := HOW.out m e; omega) (fun i hi e => by have := HOW.out i e; have := HV.out i hi; omega),
                HC6.out.trans (HKX.out.below HC6.out.size (fun i hi e => by have := HOW.out i e; have := HWB.out; omega))⟩
      have e3 : (x == 3) = false := by simpa using x3
      clear x3
      by_cases x4 : x = 4
      · subst x4
        go_wp2_with fail
        refine (leave_any y HP.out HOK.out hn1).mono ?_
        rintro e w4 ⟨rfl, hq, hk4⟩
        have HQ4 := Lib.hid hq
        have HM4 : Hid (RDoor w4 m m s S v) := HM.out.keep hk4 (fun e => by have := HL.out; omega) (fun i hi e => by have := (HM.out.own.lt i hi).1; have := HL.out; omega)
        have HB4 : Hid (Below w.heap.size w w4) := HB.out.trans (hk4.below HB.out.size (fun j hj e => by have := HL.out; omega))
        clear hq hk4 HP HM HB
        have HN4 : Hid (m ≤ w4.heap.size) := by have := HM4.out.lt; show _ ≤ _; omega
        go_wp2_with fail
        refine (rleave_any y HM4.out HOK.out hn1 HN4.out).mono ?_
        rintro e w5 ⟨v5, rfl, hr, hk5, ha5⟩
        have HR := Lib.hid hr
        have HQ := Lib.hid (HQ4.out.keep hk5 (fun e => by have := HL.out; rcases e with e | e; omega; (have := (HM4.out.own.lt d e).1; omega)) (fun e => by have := HL.out; rcases e with e | e; omega; (have := (HM4.out.own.lt g e).1; omega)))
        have HC : Hid (Below w.heap.size w w5) := HB4.out.trans (hk5.below HB4.out.size (fun j hj e => by have := HL.out; rcases e with e | e; omega; (have := (HM4.out.own.lt j e).1; omega)))
        clear hr hk5 HQ4 HM4 HB4 ha5
        go_wp2
        go_roundw
        case rel => exact ⟨k + 1, leaveT S y, v5, by go_num, by omega, by omega, HI.out.leaveT y, HQ.out, HR.out, HC.out⟩
        case measure => simp [intOf]; omega
      have e4 : (x == 4) = false := by simpa using x4
      clear x4
      by_cases x5 : x = 5
      · subst x5
        go_wp2_with fail
        refine (grant_any HP.out HOK.out HI.out.c0 (by have := HI.out.m0; omega) (by have := HI.out.m1; omega)).mono ?_
        rintro e w4 ⟨rfl, hq, hk4⟩
        have HQ4 := Lib.hid hq
        have HM4 : Hid (RDoor w4 m m s S v) := HM.out.keep hk4 (fun e => by have := HL.out; omega) (fun i hi e => by have := (HM.out.own.lt i hi).1; have := HL.out; omega)
        have HB4 : Hid (Below w.heap.size w w4) := HB.out.trans (hk4.below HB.out.size (fun j hj e => by have := HL.out; omega))
        clear hq hk4 HP HM HB
        go_wp2_with fail
        refine (rgrant_any HM4.out HOK.out HI.out.c0 (by have := HI.out.m0; omega) (by have := HI.out.m1; omega)).mono ?_
        rintro e w5 ⟨rfl, hr, hk5⟩
        have HR := Lib.hid hr
        have HQ := Lib.hid (HQ4.out.keep hk5 (fun e => by have := HL.out; omega) (fun e => by have := HL.out; omega))
        have HC : Hid (Below w.heap.size w w5) := HB4.out.trans (hk5.below HB4.out.size (fun j hj e => by have := HL.out; omega))
        clear hr hk5 HQ4 HM4 HB4
        go_wp2
        go_roundw
        case rel => exact ⟨k + 1, grantS S, v, by go_num, by omega, by omega, HI.out.grantS, HQ.out, HR.out, HC.out⟩
        case measure => simp [intOf]; omega
      have e5 : (x == 5) = false := by simpa using x5
      clear x5
      go_wp2
      go_roundw
      case rel => exact ⟨k + 1, S, v, by go_num, by omega, by omega, HI.out.mono, HP.out, HM.out, HB.out⟩
      case measure => simp [intOf]; omega
    · by_cases h : k < n
      · have dn : decide ((k : Int) < n) = true := by simp; omega
        have dk : decide ((k : Int) < 80) = false := by simp; omega
        clear hlt
        go_wp2
        go_ret
        exact ⟨rfl, HB.out⟩
      · have dn : decide ((k : Int) < n) = false := by simp; omega
        clear hlt
        go_wp2
        go_ret
        exact ⟨rfl, HB.out⟩
end Go.Proofs.Ytpaodflocbfghaa
