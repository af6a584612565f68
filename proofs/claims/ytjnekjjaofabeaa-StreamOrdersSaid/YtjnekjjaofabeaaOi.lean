/-
  StreamOrders: the walk.
-/
import Derived.Test.YtjnekjjaofabeaaOh
import Derived.Deep.Cut
namespace Go.Proofs.Ytjnekjjaofabeaa
open Go.RowKit Go.Rh Rng

theorem S8_append (a b : List UInt8) : S8 a ++ S8 b = S8 (a ++ b) := by
  apply ByteArray.ext
  simp [S8]

def OInv (w : World) (T : List UInt8) (n : Nat) (X N : Nat → Int) (R k : Nat) (got ended : Value) (wr : World) : Prop :=
  ∃ (r : Rcv) (en : Bool), got = .string (S8 (T.take r.read.toNat)) ∧ ended = .bool en ∧ OrdInv T (knw n X N T.length k) r ∧ RcvAt (fun i => w.heap.size ≤ i) wr R r ∧ Below w.heap.size w wr ∧ (en = true → r.read = (T.length : Int)) ∧
    (¬ (k ≤ n ∧ k ≤ 60) → ∀ j : Int, 0 ≤ j → j < (T.length : Int) → mem j r.came)

set_option maxHeartbeats 4000000 in
set_option maxRecDepth 100000 in
theorem orders_any {w : World} {A : Option Addr} {n c : Nat} {X N : Nat → Int} (hx : Deals w A n X N) (hn : (n : Int) ≤ 9223372036854775807) (s : ByteArray) :
    Calls Try.prog 3 #[.string s, .slice A n c] w fun e w' => e = .returned (.bool true) ∧ Below w.heap.size w w' := by
  obtain ⟨l, rfl⟩ : ∃ l, s = S8 l := ⟨_, S8_of_data⟩
  have hsz := S8_size l
  have HX := Lib.hid hx
  clear hx
  go_enter Try.func3, Try.ntmps3
  go_wp2_with (first
    | (go_at_call 7; refine (flows_any _).mono ?_; rintro e w1 ⟨rfl, hb1⟩; have HB1 := Lib.hid hb1; clear hb1)
    | (go_at_call 8; refine (newrecv_any _ 65536 (by decide) (by decide)).mono ?_; rintro e w2 ⟨R, rfl, h2, hb2⟩; have H2 := Lib.hid h2; have HB2 := Lib.hid hb2; clear h2 hb2))
  all_goals
    rw [S8_extract]
    generalize hT : List.drop 0 (List.take _ l) = T
    have hTl : T.length ≤ 2000 := by subst hT; rw [List.drop_zero, List.length_take]; omega
    have HB : Hid (Below w.heap.size w w2) := HB1.out.trans (HB2.out.mono HB1.out.size)
    have HR : Hid (RcvAt (fun k => w.heap.size ≤ k) w2 R (rnew 65536)) := H2.out.mono (fun i _ e => Nat.le_trans HB1.out.size e)
    have hTz := S8_size T
    have g0 : ¬ (T.length : Int) + 1 = 0 := by omega
    clear hT hsz HB1 HB2 H2
    go_loopw [7, 8, 9] (fun got ended i wr => ∃ k : Nat, i = .int .i64 (k : Int) ∧ k ≤ n + 1 ∧ k ≤ 61 ∧ OInv w T n X N R k got ended wr) (fun _ _ i _ => 62 - (intOf i).toNat)
    case atStart => exact ⟨0, rfl, Nat.zero_le _, by omega, rnew 65536, false, rfl, rfl, OrdInv.new T, HR.out, HB.out, (fun h => by cases h), (fun h => absurd ⟨Nat.zero_le _, Nat.zero_le _⟩ h)⟩
    case round =>
      obtain ⟨k, rfl, hkn, hk, r, en, rfl, rfl, hI, hR, hB, hen, hfull⟩ := hrel
      have HI := Lib.hid hI
      have HR := Lib.hid hR
      have HB := Lib.hid hB
      have HEN := Lib.hid hen
      have HFU := Lib.hid hfull
      clear hI hR hB hen hfull
      by_cases hk1 : k ≤ n ∧ k ≤ 60
      · obtain ⟨hka, hkb⟩ := hk1
        have d1 : decide ((k : Int) ≤ n) = true := by simp; omega
        have d2 : decide ((k : Int) ≤ 60) = true := by simp; omega
        obtain ⟨x, hx⟩ : ∃ x, x = wr.heap.size := ⟨_, rfl⟩
        obtain ⟨wx, hwx⟩ : ∃ wx, wx = wr.alloc (.cells #[.int .i64 0, .int .i64 (T.length : Int)] 29) := ⟨_, rfl⟩
        have kx : Below wr.heap.size wr wx := by rw [hwx]; exact (Below.refl _ wr).alloc (Nat.le_refl _) _
        have mx : wx.heap[x]? = some (.cells #[.int .i64 0, .int .i64 (T.length : Int)] 29 (0, 0)) := by rw [hwx, hx]; exact heap_alloc_new _ _
        have HX0 := Lib.hid hx
        have HKX := Lib.hid kx
        by_cases hk2 : k < n ∧ k < 60
        case' pos =>
          obtain ⟨hkc, hkd⟩ := hk2
          have d3 : decide ((k : Int) < n) = true := by simp; omega
          have d4 : decide ((k : Int) < 60) = true := by simp; omega
          obtain ⟨b, off, rfl, hbl, hcells⟩ := HX.out (by omega)
          obtain ⟨cx, cn⟩ := hcells k hkc
          have hbl2 : b < wr.heap.size := Nat.lt_of_lt_of_le hbl HB.out.size
          have c0 : wx.cell? ⟨b, off + k * 2, none⟩ = some (.int .i64 (X k)) := (World.cell?_of_block ((kx.block b hbl2).trans (HB.out.block b hbl))).trans cx
          have c1 : wx.cell? ⟨b, off + k * 2 + 1, none⟩ = some (.int .i64 (N k)) := (World.cell?_of_block ((kx.block b hbl2).trans (HB.out.block b hbl))).trans cn
          have hbx : ¬ b = x := by omega
          have hxb : ¬ x = b := by omega
          have hco : cOff n X T.length k = rm (X k) T.length := by unfold cOff; rw [if_pos ⟨hkc, hkd⟩]
          have hcl : cLen n X N T.length k = rm (N k) (T.length - rm (X k) T.length) := by unfold cLen; rw [if_pos ⟨hkc, hkd⟩]
          have hrm := rm_le (X k) T.length
          have hrm2 := rm_le (N k) (T.length - rm (X k) T.length)
          have hq := rm_is (X k) T.length (by omega)
          have hq2 := rm_is (N k) (T.length - rm (X k) T.length) (by omega)
          obtain ⟨o, ho⟩ : ∃ o, o = rm (X k) T.length := ⟨_, rfl⟩
          rw [← ho] at hco hcl hrm hrm2 hq hq2
          obtain ⟨m, hm⟩ : ∃ m, m = rm (N k) (T.length - o) := ⟨_, rfl⟩
          rw [← hm] at hcl hrm2 hq2
          have hpe : ((T.length - o : Nat) : Int) = (T.length : Int) - (o : Int) := by omega
          rw [hpe] at hq2
          have g1 : ¬ (T.length : Int) - (o : Int) + 1 = 0 := by omega
          have HCO := Lib.hid hco
          have HCL := Lib.hid hcl
          have hmb : m ≤ 2000 := by omega
          have HMX := Lib.hid mx
          have HOM : Hid (o + m ≤ T.length) := by show o + m ≤ T.length; omega
          have z0 : wx.frozen? ⟨x, 0, none⟩ = false := by simp [World.frozen?, mx]
          have x0 : wx.cell? ⟨x, 0, none⟩ = some (.int .i64 0) := by rw [cell_of_row wx x 0 _ _ _ mx]; rfl
          obtain ⟨wy, hwy⟩ : ∃ wy, wy = wx.setCell ⟨x, 0, none⟩ (.int .i64 (o : Int)) := ⟨_, rfl⟩
          have ky : Below wr.heap.size wr wy := by rw [hwy]; exact kx.setCell (by rw [hx]; exact Nat.le_refl _) _
          have my : wy.heap[x]? = some (.cells #[.int .i64 (o : Int), .int .i64 (T.length : Int)] 29 (0, 0)) := by rw [hwy]; exact set_block mx 0 _
          have c1y : wy.cell? ⟨b, off + k * 2 + 1, none⟩ = some (.int .i64 (N k)) := (World.cell?_of_block ((ky.block b hbl2).trans (HB.out.block b hbl))).trans cn
          have y0 : wy.cell? ⟨x, 0, none⟩ = some (.int .i64 (o : Int)) := by rw [cell_of_row wy x 0 _ _ _ my]; rfl
          have y2 : wy.cell? ⟨x, 1, none⟩ = some (.int .i64 (T.length : Int)) := by rw [cell_of_row wy x 1 _ _ _ my]; rfl
          have y1 : wy.frozen? ⟨x, 1, none⟩ = false := by simp [World.frozen?, my]
          have kz : ∀ nq, Below wr.heap.size wr ((wy.drewN nq).setCell ⟨x, 1, none⟩ (.int .i64 (m : Int))) := fun nq => Below.setCell (below_drewN ky nq) (by rw [hx]; exact Nat.le_refl _) _
          have mz : ∀ nq, ((wy.drewN nq).setCell ⟨x, 1, none⟩ (.int .i64 (m : Int))).heap[x]? = some (.cells #[.int .i64 (o : Int), .int .i64 (m : Int)] 29 (0, 0)) := fun nq => set_block my 1 _
          have HKY := Lib.hid kz
          have HMY := Lib.hid mz
          clear cx cn hcells hco hcl ho hm hpe hrm2 kx mx ky my kz mz HMX
          go_upto_region 13 with fail
          rw [← hwx, ← hx]
          clear hwx hx
          go_upto_region 14 with fail
          rw [← hwy]
          clear hwy
          refine region_tail_drew 16 178 (by kernel_rfl) rfl (by kernel_rfl) (by kernel_rfl) ?_
          simp only [List.take_succ_cons, List.take_zero, List.drop_succ_cons, List.drop_zero]
          (repeat (go_big_quiet_step (fail)))
          refine wpQuiet_nil ?_
          intro _ hwq
          obtain ⟨nq, hwq⟩ := hwq
          subst hwq
          go_upto_region 15 with fail
          have HKZ := Lib.hid (HKY.out nq)
          have HMZ := Lib.hid (HMY.out nq)
          generalize World.setCell _ _ _ = wz at HKZ HMZ ⊢
          clear c0 c1 hbx hxb hq hrm hq2 g1 z0 x0 c1y y0 y1 y2 HKY HMY d3 d4 hkc hkd
        case' neg =>
          obtain ⟨o, ho⟩ : ∃ o, o = 0 := ⟨_, rfl⟩
          obtain ⟨m, hm⟩ : ∃ m, m = T.length := ⟨_, rfl⟩
          have hco : cOff n X T.length k = o := by unfold cOff; rw [if_neg hk2, ho]
          have hcl : cLen n X N T.length k = m := by unfold cLen; rw [if_neg hk2, hm]
          have HCO := Lib.hid hco
          have HCL := Lib.hid hcl
          have hmb : m ≤ 2000 := by omega
          have HOM : Hid (o + m ≤ T.length) := by show o + m ≤ T.length; omega
          have mx' : wx.heap[x]? = some (.cells #[.int .i64 (o : Int), .int .i64 (m : Int)] 29 (0, 0)) := by rw [ho, hm]; exact mx
          have HMZ := Lib.hid mx'
          have HKZ := Lib.hid kx
          have hdd : (¬ k < n) ∨ (k < n ∧ ¬ k < 60) := by omega
          clear hco hcl ho hm mx kx mx' hk2
          rcases hdd with hkc | ⟨hkc, hkd⟩
          all_goals
            go_upto_region 15 with fail
            rw [← hwx, ← hx]
            clear hwx hx
            generalize wx = wz at HKZ HMZ ⊢
            clear hkc
            try clear hkd
        all_goals
          obtain ⟨e, he⟩ : ∃ e, e = o + m := ⟨_, rfl⟩
          have hoe : (o : Int) + (m : Int) = (e : Int) := by omega
          have hoe1 : o ≤ e := by omega
          have hoe2 : e ≤ T.length := by have := HOM.out; omega
          obtain ⟨fin, hfin⟩ : ∃ fin, decide (o + m = T.length) = fin := ⟨_, rfl⟩
          have hfe : ((e : Int) == (T.length : Int)) = fin := by rw [← hfin, Bool.eq_iff_iff, beq_iff_eq, decide_eq_true_eq]; omega
          obtain ⟨d, hd⟩ : ∃ d, d = (T.drop o).take m := ⟨_, rfl⟩
          have hsl : (S8 T).extract o e = S8 d := by rw [S8_extract, List.drop_take, hd, he, Nat.add_sub_cancel_left]
          have hdl : d.length = m := by rw [hd]; exact part_length HOM.out
          obtain ⟨r1, hr1⟩ : ∃ r1, r1 = takeR r o d fin := ⟨_, rfl⟩
          have hI1 : OrdInv T (knw n X N T.length (k + 1)) r1 := by
            have := HI.out.take HOM.out hfin.symm
            rw [← hd, ← hr1] at this
            have e1 : knw n X N T.length (k + 1) = (knw n X N T.length k || fin) := by simp only [knw]; rw [HCO.out, HCL.out, hfin]
            rw [e1]
            exact this
          have hall : ¬ (k + 1 ≤ n ∧ k + 1 ≤ 60) → ∀ j : Int, 0 ≤ j → j < (T.length : Int) → mem j r1.came := by
            intro hh j ja jb
            have hh' : ¬ (k < n ∧ k < 60) := by omega
            have ho0 : o = 0 := by rw [← HCO.out]; unfold cOff; rw [if_neg hh']
            have hm0 : m = T.length := by rw [← HCL.out]; unfold cLen; rw [if_neg hh']
            rw [hr1, hd]
            exact (take_mem HI.out HOM.out).2 (.inr (by omega))
          have HALL := Lib.hid hall
          clear hall
          have hxw : x = wr.heap.size := HX0.out
          have hr0 : RcvAt (fun i => w.heap.size ≤ i ∧ i < x) wz R r := (HR.out.mono (G := fun i => w.heap.size ≤ i ∧ i < x) (fun i h1 h2 => ⟨h2, by rw [hxw]; exact h1⟩)).keep (Keep.of_below HKZ.out (Nat.le_refl _) (fun _ => False)) (fun _ _ => id)
          have htk : ∀ W : World, Keep wz W (fun _ => False) → Calls Try.prog 9 #[.pointer (some ⟨R, 0, none⟩), .agg #[.int .i64 (o : Int), .string (S8 d), .bool fin]] W fun e w' => (∃ q, e = .returned (.tuple #[.int .i64 q, .int .i64 0])) ∧ RcvAt (fun i => w.heap.size ≤ i) w' R r1 ∧ Keep wz w' (fun i => w.heap.size ≤ i ∧ i < x) := by
            intro W hW
            have hI := HI.out
            have hk1 := hI.size
            have htop := hI.top
            have hsz := hI.sizeT
            have hom := HOM.out
            have hlen := hI.len
            have hxz := HKZ.out.size
            have hwz := HB.out.size
            refine (take_any (hr0.keep hW (fun _ _ => id)) (off := o) (d := d) (fin := fin) (by omega) (by omega) hI.inn hI.gone (fun hk => by rw [hI.known] at hk; rw [hk1 hk]; omega) (fun hf => ?_) (by rw [hI.lim]; omega) ⟨hI.top0, by omega⟩ ⟨hI.size0, by omega⟩).mono ?_
            · have hff : o + m = T.length := of_decide_eq_true (hfin.trans hf)
              exact ⟨fun hk => by rw [hI.known] at hk; rw [hk1 hk]; omega, by omega⟩
            · rintro e w' ⟨h1, h2, h3⟩
              rw [← hr1] at h2
              have hWz := hW.size
              exact ⟨⟨_, h1⟩, h2.mono (fun i _ hi => by rcases hi with hi | hi; exact hi.1; exact Nat.le_trans (Nat.le_trans hwz hxz) (Nat.le_trans hWz hi)), (hW.mono (fun _ _ hi => hi.elim)).trans h3 (fun _ _ hi => hi)⟩
          have z0 : wz.cell? ⟨x, 0, none⟩ = some (.int .i64 (o : Int)) := by rw [cell_of_row wz x 0 _ _ _ HMZ.out]; rfl
          have z1 : wz.cell? ⟨x, 1, none⟩ = some (.int .i64 (m : Int)) := by rw [cell_of_row wz x 1 _ _ _ HMZ.out]; rfl
          have HTK := Lib.hid htk
          have HI1 := Lib.hid hI1
          have HRR : Hid (r1.read = r.read) := by rw [hr1]; rfl
          clear htk hI1 hr0 hxw hr1 hd hfin hdl HCO HCL HOM HR HI HKX he
          go_upto_region 16 with fail
          go_region_held3 (fun w' => w'.cell? ⟨x, 0, none⟩ = some (.int .i64 (o : Int))) (first | assumption | (with_reducible refine cellD ?_; assumption) | exact (World.cell?_of_block (HTK2.out.block x (heap_lt HMZ.out) (fun e => Nat.lt_irrefl _ e.2))).trans z0 | (with_reducible refine cellD ?_; exact (World.cell?_of_block (HTK2.out.block x (heap_lt HMZ.out) (fun e => Nat.lt_irrefl _ e.2))).trans z0))
            (first | (go_at_call 9; refine (HTK.out _ (by first | exact Keep.refl wz _ | exact (Keep.refl wz _).drew)).mono ?_; rintro e w3 ⟨⟨q, rfl⟩, h3, k3⟩; have HR3 := Lib.hid h3; have HTK2 := Lib.hid k3; clear h3 k3))
          have kb : Below w.heap.size w w3 := (Keep.of_below (HB.out.trans (HKZ.out.mono HB.out.size)) (Nat.le_refl _) (fun i => w.heap.size ≤ i ∧ i < x)).trans HTK2.out (fun _ _ hi => hi) |>.below (Nat.le_refl _) (fun i hi hj => by omega)
          have HB3 := Lib.hid kb
          obtain ⟨v, hv⟩ : ∃ v : Nat, readEnd r1 (1 + (k : Int) * 7) = (v : Int) := by
            have h := (readEnd_ok (m := 1 + (k : Int) * 7) HI1.out.read0 HI1.out.read (by omega) HI1.out.wf).1
            have := HI1.out.read0
            exact ⟨(readEnd r1 (1 + (k : Int) * 7)).toNat, by omega⟩
          have hI2 := HI1.out.readE (m := 1 + (k : Int) * 7) (by omega)
          rw [hv] at hI2
          have hvT : v ≤ T.length := by have := hI2.read; have := hI2.len; simp only at *; omega
          have hbytes := HI1.out.bytes (m := 1 + (k : Int) * 7) (by omega)
          rw [HRR.out, hv, Int.toNat_natCast] at hbytes
          obtain ⟨f2, hf2⟩ : ∃ f2, f2 = (knw n X N T.length (k + 1) && decide (v = T.length)) := ⟨_, rfl⟩
          obtain ⟨gn, hgn⟩ : ∃ gn, gn = S8 ((r1.b.drop r.read.toNat).take (v - r.read.toNat)) := ⟨_, rfl⟩
          obtain ⟨gc, hgc⟩ : ∃ gc, gc = S8 (T.take v) := ⟨_, rfl⟩
          have hcat : S8 (T.take r.read.toNat) ++ gn = gc := by rw [hgn, hgc, ← hbytes]; exact S8_append _ _
          have hgz : gc.size = v := by rw [hgc, S8_size, List.length_take]; omega
          have hgz1 : gn.size ≤ 2000 := by rw [hgn, S8_size, List.length_take]; omega
          have hgz2 : (S8 (T.take r.read.toNat)).size ≤ 2000 := by rw [S8_size, List.length_take]; omega
          have hex : (S8 T).extract 0 v = gc := by rw [hgc, S8_extract, List.drop_zero]
          have hrd : ∀ W : World, RcvAt (fun i => w.heap.size ≤ i) W R r1 → Calls Try.prog 10 #[.pointer (some ⟨R, 0, none⟩), .int .i64 (1 + (k : Int) * 7)] W fun e w' => e = .returned (.tuple #[.string gn, .bool f2, .int .i64 0]) ∧ RcvAt (More (fun i => w.heap.size ≤ i) W) w' R { r1 with read := (v : Int) } ∧ Keep W w' (fun i => w.heap.size ≤ i) := by
            intro W hW
            have hI := HI1.out
            have hl := hI.len
            refine (read_any hW (m := 1 + (k : Int) * 7) (by omega) (by omega) hI.gone hI.read0 hI.read (by omega) (hI.inn.bd (by omega))).mono ?_
            rintro e w' ⟨h1, h2, h3⟩
            rw [hv] at h1 h2
            refine ⟨?_, h2, h3⟩
            rw [h1, HRR.out, Int.toNat_natCast, ← hgn]
            refine ret3_of ?_
            rw [hf2, hI.known, Bool.eq_iff_iff, Bool.and_eq_true, Bool.and_eq_true, decide_eq_true_eq, decide_eq_true_eq]
            constructor
            · rintro ⟨a, b⟩; have := hI.size a; exact ⟨a, by omega⟩
            · rintro ⟨a, b⟩; have := hI.size a; exact ⟨a, by omega⟩
          have HI2 := Lib.hid hI2
          have HRD := Lib.hid hrd
          have HGC := Lib.hid hgc
          have HF2 := Lib.hid hf2
          clear hv hI2 hbytes hgn hgc hf2 hrd kb z0 z1 HTK HTK2 HI1 hsl hfe hoe hoe1 hoe2 HRR
          generalize S8 (T.take r.read.toNat) = gs at hcat hgz2 ⊢
          have hw7 : wrap64 (1 + (k : Int) * 7) = 1 + (k : Int) * 7 := by unfold wrap64; omega
          go_upto_region 21 with (first | (go_at_call 10; refine (HRD.out _ HR3.out).mono ?_; rintro e w4 ⟨rfl, h4, k4⟩; have HR4 := Lib.hid h4; have HK4 := Lib.hid k4; clear h4 k4))
          have kb4 : Below w.heap.size w w4 := (Keep.of_below HB3.out (Nat.le_refl _) (fun i => w.heap.size ≤ i)).trans HK4.out (fun _ _ hi => hi) |>.below (Nat.le_refl _) (fun i hi hj => by omega)
          have hr5 : RcvAt (fun i => w.heap.size ≤ i) w4 R { r1 with read := (v : Int) } := HR4.out.mono (fun i _ hi => by rcases hi with hi | hi; exact hi; exact Nat.le_trans HB3.out.size hi)
          have HB4 := Lib.hid kb4
          have HR5 := Lib.hid hr5
          obtain ⟨r2, hr2⟩ : ∃ r2 : Rcv, r2 = { r1 with read := (v : Int) } := ⟨_, rfl⟩
          have hrv : r2.read = (v : Int) := by rw [hr2]
          have hcm : Hid (r2.came = r1.came) := by rw [hr2]; exact rfl
          rw [← hr2] at HI2 HR5
          have HRV := Lib.hid hrv
          clear kb4 hr5 HR4 HK4 HR3 HRD hr2 hrv
          have hvl : ¬ (T.length : Int) < (v : Int) := by omega
          obtain ⟨kk, hkk⟩ : ∃ kk, kk = knw n X N T.length (k + 1) := ⟨_, rfl⟩
          have hkw := known_any (HX.out.old HB4.out) (c := c) hn (i := k) (S := T.length) hkb hTl
          rw [← hkk] at hkw
          have HKW := Lib.hid hkw
          have HF3 : Hid (f2 = (kk && decide (v = T.length))) := by show f2 = _; rw [hkk]; exact HF2.out
          try clear hHeld
          clear hkw hkk HF2 hcat hgz1 hgz2
          by_cases hvt : v = T.length
          case' pos =>
            have hvd : ((v : Int) == (T.length : Int)) = true := by rw [beq_iff_eq]; omega
            obtain rfl : f2 = kk := by have := HF3.out; rw [hvt] at this; simpa using this
          case' neg =>
            have hvd : ((v : Int) == (T.length : Int)) = false := by rw [Bool.eq_false_iff]; intro e; rw [beq_iff_eq] at e; omega
            obtain rfl : f2 = false := by have := HF3.out; rw [decide_eq_false hvt] at this; simpa using this
          all_goals
            have HVT := Lib.hid hvt
            clear hvt
            go_wp2_with (first | (go_at_call 11; refine HKW.out.mono ?_; rintro e w5 ⟨rfl, h5⟩; have HB5 := Lib.hid h5; clear h5))
            first
              | (have HR6 : Hid (RcvAt (fun i => w.heap.size ≤ i) w5 R r2) := HR5.out.keep (Keep.of_below HB5.out (Nat.le_refl _) (fun _ => False)) (fun _ _ => id)
                 have HB6 : Hid (Below w.heap.size w w5) := HB4.out.trans (HB5.out.mono HB4.out.size))
              | (have HR6 := HR5
                 have HB6 := HB4)
            refine ⟨⟨k + 1, by go_num, by omega, by omega, r2, _, by rw [HGC.out, HRV.out, Int.toNat_natCast], rfl, HI2.out, HR6.out, HB6.out, fun hh => ?_, fun hh => by rw [hcm.out]; exact HALL.out hh⟩, by simp [intOf]; omega⟩
            have := HF3.out
            rw [hh] at this
            simp at this
            rw [HRV.out]
            omega
      · have hk9 : ¬ (k ≤ n) ∨ (k ≤ n ∧ ¬ k ≤ 60) := by omega
        have hpos : ∃ j, k = j + 1 ∧ ¬ (j < n ∧ j < 60) := ⟨k - 1, by omega, by omega⟩
        have hkw : knw n X N T.length k = true := by obtain ⟨j, rfl, hj⟩ := hpos; exact knw_end hj
        rw [hkw] at HI
        have hv := HI.out.all (HFU.out hk1) (m := 5000) (by omega)
        have hbytes := HI.out.bytes (m := 5000) (by omega)
        rw [hv, Int.toNat_natCast, List.take_length] at hbytes
        obtain ⟨gn, hgn⟩ : ∃ gn, gn = S8 ((r.b.drop r.read.toNat).take (T.length - r.read.toNat)) := ⟨_, rfl⟩
        have hcat : S8 (T.take r.read.toNat) ++ gn = S8 T := by rw [hgn, S8_append, hbytes]
        have hgz1 : gn.size ≤ 2000 := by rw [hgn, S8_size, List.length_take]; omega
        have hgz2 : (S8 (T.take r.read.toNat)).size ≤ 2000 := by rw [S8_size, List.length_take]; omega
        have hrd : Calls Try.prog 10 #[.pointer (some ⟨R, 0, none⟩), .int .i64 5000] wr fun e w' => e = .returned (.tuple #[.string gn, .bool true, .int .i64 0]) ∧ Keep wr w' (fun i => w.heap.size ≤ i) := by
          have hI := HI.out
          have hl := hI.len
          refine (read_any HR.out (m := 5000) (by omega) (by omega) hI.gone hI.read0 hI.read (by omega) (hI.inn.bd (by omega))).mono ?_
          rintro e w' ⟨h1, h2, h3⟩
          rw [hv] at h1
          refine ⟨?_, h3⟩
          rw [h1, Int.toNat_natCast, ← hgn]
          refine ret3_of ?_
          rw [hI.known, hI.size rfl]
          simp
        have HRD := Lib.hid hrd
        have hen : en = false ∨ (en = true ∧ gn = ⟨#[]⟩) := by
          cases en with
          | false => exact .inl rfl
          | true =>
            refine .inr ⟨rfl, ?_⟩
            have := HEN.out rfl
            rw [hgn, this, Int.toNat_natCast, Nat.sub_self, List.take_zero]
            rfl
        clear hpos hkw hv hbytes hgn hrd
        generalize S8 (T.take r.read.toNat) = gs at hcat hgz2 ⊢
        rcases hk9 with hk9 | ⟨hk9, hk10⟩ <;> rcases hen with rfl | ⟨rfl, rfl⟩
        all_goals
          go_wp2_with (first | (go_at_call 10; refine HRD.out.mono ?_; rintro e w4 ⟨rfl, k4⟩; have HK4 := Lib.hid k4; clear k4))
          go_ret
          exact ⟨rfl, (Keep.of_below HB.out (Nat.le_refl _) (fun i => w.heap.size ≤ i)).trans HK4.out (fun _ _ hi => hi) |>.below (Nat.le_refl _) (fun i hi hj => by omega)⟩
end Go.Proofs.Ytjnekjjaofabeaa
