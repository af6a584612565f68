/-
  Bytes that come are put where none came ahead: put (f34).
-/
import Derived.Test.YtjnekjjaofabeaaOb
import Derived.Deep.DeepCutAuto
namespace Go.Proofs.Ytjnekjjaofabeaa
open Go.RowKit Go.Rh Rng

attribute [local go_sem] Oper.semAt_some

/-- The bytes behind a piece. -/
def putB (b : List UInt8) (came : List Sp) (off : Nat) (d : List UInt8) : List UInt8 :=
  ovl (b ++ List.replicate (off + d.length - b.length) 0) off d (gaps (off : Int) ((off : Int) + (d.length : Int) - 1) came)

set_option maxHeartbeats 4000000 in
set_option maxRecDepth 100000 in
theorem rput_any {F : Nat → Prop} {w : World} {R : Nat} {r : Rcv} (h : RcvAt F w R r) {off : Nat} {d : List UInt8} {fin : Bool} (hd : 0 < d.length) (hN : off + d.length ≤ 199998) (hb : r.b.length ≤ 199998) (hin : InN (r.b.length : Int) r.came) :
    Calls Try.prog 34 #[.pointer (some ⟨R, 0, none⟩), .agg #[.int .i64 (off : Int), .string (S8 d), .bool fin]] w fun e w' => (∃ u, e = .returned u) ∧
      RcvAt (More F w) w' R { r with b := putB r.b r.came off d, came := addL (off : Int) ((off : Int) + (d.length : Int) - 1) r.came } ∧ Keep w w' F := by
  obtain ⟨vb, cb, vc, h1, h2, h3, f1, f2, f3, f4⟩ := h
  obtain ⟨A, n, c, hn, rfl⟩ := h2.form
  obtain ⟨w2, hw2⟩ : ∃ w2, w2 = (w.alloc (.cells #[.pointer (some ⟨R, 0, none⟩)] 24)).alloc (.cells #[.int .i64 (off : Int), .string (S8 d), .bool fin] 34) := ⟨_, rfl⟩
  have hR := heap_lt h1
  obtain ⟨x, hx⟩ : ∃ x, x = w.heap.size := ⟨_, rfl⟩
  obtain ⟨y, hy⟩ : ∃ y, y = w.heap.size + 1 := ⟨_, rfl⟩
  have M24 : w2.heap[x]? = some (.cells #[.pointer (some ⟨R, 0, none⟩)] 24 (0, 0)) := by rw [hw2, hx]; exact (heap2 _ _ _).1
  have M34 : w2.heap[y]? = some (.cells #[.int .i64 (off : Int), .string (S8 d), .bool fin] 34 (0, 0)) := by rw [hw2, hy]; exact (heap2 _ _ _).2
  have hK2 : Keep w w2 (fun _ => False) := by rw [hw2]; exact ((Keep.refl w _).alloc _).alloc _
  have MR : w2.heap[R]? = some (.cells (rcells (.slice A n c) cb r) 76 (0, 0)) := (hK2.block R hR id).trans h1
  have SC := h3.keep hK2 id (fun _ _ => id)
  have OB := h2.keep hK2 (fun _ _ => id)
  have K0 : w2.cell? ⟨x, 0, none⟩ = some (.pointer (some ⟨R, 0, none⟩)) := by rw [cell_of_row w2 x 0 _ _ _ M24]; rfl
  have P0 : w2.cell? ⟨y, 0, none⟩ = some (.int .i64 (off : Int)) := by rw [cell_of_row w2 y 0 _ _ _ M34]; rfl
  have P1 : w2.cell? ⟨y, 1, none⟩ = some (.string (S8 d)) := by rw [cell_of_row w2 y 1 _ _ _ M34]; rfl
  have P2 : w2.cell? ⟨y, 2, none⟩ = some (.bool fin) := by rw [cell_of_row w2 y 2 _ _ _ M34]; rfl
  have R0 : w2.cell? ⟨R, 0, none⟩ = some (.slice A n c) := by rw [cell_of_row w2 R 0 _ _ _ MR]; rfl
  have hsz : (S8 d).size = d.length := S8_size d
  have hxy : x < w2.heap.size ∧ y < w2.heap.size ∧ R < w2.heap.size ∧ cb < w2.heap.size := ⟨heap_lt M24, heap_lt M34, heap_lt MR, heap_lt SC.row⟩
  obtain ⟨b1, hb1⟩ : ∃ b1, b1 = r.b ++ List.replicate (off + d.length - r.b.length) 0 := ⟨_, rfl⟩
  have hcase : (n < off + d.length) ∨ (off + d.length ≤ n) := by omega
  have HB1 := Lib.hid hb1
  have HN := Lib.hid hn
  have HSC := Lib.hid SC
  have HOB := Lib.hid OB
  have HMR := Lib.hid MR
  have HM24 := Lib.hid M24
  have HM34 := Lib.hid M34
  have HK2 := Lib.hid hK2
  have HIN := Lib.hid hin
  have HF1 := Lib.hid (show F R ∧ F cb ∧ (∀ k, (Value.slice A n c).ownBlock = some k → F k) ∧ (∀ k, vc.ownBlock = some k → F k) from ⟨f1, f2, f3, f4⟩)
  have HX := Lib.hid hx
  have HXY := Lib.hid hxy
  have hnb : n ≤ 199998 := by omega
  have HSZ : Hid (w2.heap.size = x + 2) := Lib.hid (by rw [hw2, hx]; simp)
  have HY : Hid (y = x + 1) := Lib.hid (by omega)
  clear h1 h2 h3 MR M24 M34 SC OB hK2 hin f1 f2 f3 f4 hb1 hn hxy
  refine (callsIn_wide (n := 9)).1 (callsIn_of_wp_marks Try.func34 rfl trivial (wpIn_wide.2 ?_) rfl)
  simp only [Try.ntmps34, List.size_toArray, List.length_cons, List.length_nil, Nat.reduceAdd, Nat.reduceSub, Array.replicate_succ, Array.replicate_zero, List.push_toArray, List.append_toArray, List.nil_append, List.cons_append]
  go_wp2_with fail
  rw [← hw2, ← hy, ← hx]
  clear hw2 hx hy
  have hw1 : IntKind.i64.wrap ((off : Int) + (d.length : Int) - (n : Int)) = (off : Int) + (d.length : Int) - (n : Int) := by rw [IntKind.wrap_i64]; omega
  go_region_held3 (fun w' => w'.cell? ⟨x, 0, none⟩ = some (.pointer (some ⟨R, 0, none⟩)) ∧ w'.cell? ⟨y, 0, none⟩ = some (.int .i64 (off : Int)) ∧ w'.cell? ⟨y, 1, none⟩ = some (.string (S8 d)) ∧ w'.cell? ⟨y, 2, none⟩ = some (.bool fin) ∧ w'.cell? ⟨R, 0, none⟩ = some (.slice A n c)) (go_keep)
    (first | (go_at_call 33; refine (end_any _ (off : Int) (S8 d) fin (by omega) (by omega) (by rw [S8_size]; omega)).mono ?_; rintro e w' ⟨rfl, rfl⟩))
  obtain ⟨w3, hw3⟩ : ∃ w3, w3 = (w2.alloc (.cells #[.int .i64 (off : Int), .string (S8 d), .bool fin] 34)).drew := ⟨_, rfl⟩
  have k3 : Keep w2 w3 (fun _ => False) := by rw [hw3]; exact ((Keep.refl w2 _).alloc _).drew
  rw [← hw3]
  have HS3 : Hid (w3.heap.size = x + 3) := Lib.hid (by rw [hw3]; have := HSZ.out; simp; omega)
  have HK3 := Lib.hid k3
  have hc3 : ∀ (b o : Nat) (u : Value), b < w2.heap.size → w2.cell? ⟨b, o, none⟩ = some u → w3.cell? ⟨b, o, none⟩ = some u := fun b o u hb hu => (World.cell?_of_block (k3.block b hb id)).trans hu
  have K0' := hc3 _ _ _ HXY.out.1 K0
  have P0' := hc3 _ _ _ HXY.out.2.1 P0
  have P1' := hc3 _ _ _ HXY.out.2.1 P1
  have R0' := hc3 _ _ _ HXY.out.2.2.1 R0
  have FR : w3.frozen? ⟨R, 0, none⟩ = false := by have := (HK3.out.block R HXY.out.2.2.1 id).trans HMR.out; simp [World.frozen?, this]
  have m24' : w3.heap[x]? = _ := (k3.block x HXY.out.1 id).trans HM24.out
  have mr' : w3.heap[R]? = _ := (k3.block R HXY.out.2.2.1 id).trans HMR.out
  have HM24' := Lib.hid m24'
  have HMR' := Lib.hid mr'
  have ob' := HOB.out.keep k3 (fun _ _ => id)
  have HOB' := Lib.hid ob'
  clear hw3 k3 hc3 hw1 m24' mr' ob' K0 P0 P1 P2 R0
  go_upto_if 16 with fail
  go_cut [] from 16 to 25 (fun wx => ∃ A1 n1 c1, Hid (wx.heap[R]? = some (.cells (rcells (.slice A1 n1 c1) cb r) 76 (0, 0))) ∧ Hid (Rh.Own wx 0 (.slice A1 n1 c1) b1) ∧ Hid (Keep w3 wx (fun k => k = R ∨ (Value.slice A n c).ownBlock = some k)) ∧ Hid (∀ k, (Value.slice A1 n1 c1).ownBlock = some k → (Value.slice A n c).ownBlock = some k ∨ w.heap.size ≤ k))
  case first =>
    rcases hcase with hm | hm
    · obtain ⟨mo, hmo⟩ : ∃ mo, mo = off + d.length - n := ⟨_, rfl⟩
      have hmi : (off : Int) + (d.length : Int) - (n : Int) = (mo : Int) := by omega
      have h0mo : 0 < mo := by omega
      have HMO := Lib.hid hmo
      have hmo2 : decide (0 < (off : Int) + (d.length : Int) - (n : Int)) = true := by simp; omega
      have hmo3 : (0 : Int) < (off : Int) + (d.length : Int) - (n : Int) := by omega
      obtain ⟨v1, w4, hr1, hv1, hk1, ho1⟩ := append_zeros (w := w3.drew) (HOB'.out.heap rfl) h0mo (by have := HMO.out; omega)
      obtain ⟨A1, n1, c1, hn1, rfl⟩ := hv1.form
      rw [← hmi] at hr1
      have hx4 : w4.heap[x]? = _ := (hk1.block x (by show x < w3.heap.size; have := HS3.out; omega) (fun e => by obtain ⟨cs, fr, e⟩ := own_row HOB'.out e; exact block_ne e HM24'.out (by decide) rfl)).trans HM24'.out
      have hr4 : w4.heap[R]? = _ := (hk1.block R (by show R < w3.heap.size; have := HS3.out; have := HSZ.out; have := HXY.out.2.2.1; omega) (fun e => by obtain ⟨cs, fr, e⟩ := own_row HOB'.out e; exact block_ne e HMR'.out (by decide) rfl)).trans HMR'.out
      have kx1 : w4.cell? ⟨x, 0, none⟩ = some (.pointer (some ⟨R, 0, none⟩)) := by rw [cell_of_row w4 x 0 _ _ _ hx4]; rfl
      have kr1 : w4.cell? ⟨R, 0, none⟩ = some (.slice A n c) := by rw [cell_of_row w4 R 0 _ _ _ hr4]; rfl
      have fr1 : w4.frozen? ⟨R, 0, none⟩ = false := by simp [World.frozen?, hr4]
      have HV1 := Lib.hid hv1
      have HK4 := Lib.hid hk1
      have HO1 := Lib.hid ho1
      have HM4 := Lib.hid hr4
      have mixed : Try.prog.follows .mixedOrders = true := by kernel_rfl
      clear hv1 hk1 ho1 hn1 hx4 hr4 hmo hm hmi
      go_wp2
      refine wp_region_noPanic ?_
      go_region_law_o (refine step_append_is rfl _ _ 44 3 rfl _ _ (by simp [Act.eval, Act.put]) (by simp [Act.eval, Act.put]) (hr1) ?_)
      all_goals
        refine NoPanic.normal ?_
        go_wp2_with fail
        go_meet
        refine ⟨A1, n1, c1, Lib.hid (set_block HM4.out 0 _), Lib.hid ?_, Lib.hid ?_, Lib.hid ?_⟩
        · rw [HB1.out, ← HN.out, ← HMO.out]
          exact HV1.out.keep (Keep.setCell (S := fun k => k = R) (Keep.refl w4 _) (.inr rfl) _) (fun i hi e => by obtain ⟨cs, fr, e2⟩ := own_row HV1.out hi; exact block_ne e2 HM4.out (by decide) e)
        · exact (HK4.out.mono (fun _ _ e => .inr e)).setCell (.inr (.inl rfl)) _ |> fun k => ⟨k.os, k.tape, k.output, k.size, k.block⟩
        · intro k hk
          rcases HO1.out with e | e
          · exact .inl (by rw [← e]; exact hk)
          · right
            rw [e] at hk
            injection hk with hk
            have h1 : w3.drew.heap.size = w3.heap.size := rfl
            have := HS3.out; have := HX.out; omega
    · have hmo2 : decide (0 < (off : Int) + (d.length : Int) - (n : Int)) = false := by simp; omega
      have hmo3 : ¬ (0 : Int) < (off : Int) + (d.length : Int) - (n : Int) := by omega
      have hbe : b1 = r.b := by rw [HB1.out, show off + d.length - r.b.length = 0 by have := HN.out; omega]; simp
      have HBE := Lib.hid hbe
      clear hbe
      go_wp2_with fail
      go_meet
      exact ⟨A, n, c, HMR', Lib.hid (by rw [HBE.out]; exact HOB'.out), Lib.hid (Keep.refl _ _), Lib.hid (fun k hk => .inl hk)⟩
  case rest =>
    obtain ⟨A1, n1, c1, HMR4, HV1, HK4, HO1⟩ := hcut
    have hn1 : n1 = b1.length := by obtain ⟨_, _, _, e1, e2⟩ := HV1.out.form; cases e2; exact e1
    have hlen1 : off + d.length ≤ b1.length := by rw [HB1.out, List.length_append, List.length_replicate]; omega
    obtain ⟨g, o, -, cs0, fr, hA, -, hg0, hfr0, hnc0, hfit0, hcs0⟩ : ∃ g o c' cs fr, A1 = some ⟨g, o, none⟩ ∧ c' = c1 ∧ wc.heap[g]? = some (.cells cs 5 fr) ∧ free fr cs.size ∧ b1.length ≤ c1 ∧ o + c1 ≤ cs.size ∧ ∀ j, j < b1.length → cs[o + j]? = some (.int .u8 (ub (at_ b1 j))) := by
      rcases HV1.out with ⟨_, e⟩ | ⟨g, o, c', cs, fr, e, _, h1, h2, h3, h4, h5⟩
      · exfalso; rw [e, List.length_nil] at hlen1; omega
      · injection e with e1 e2 e3; subst e3; exact ⟨g, o, _, cs, fr, e1, rfl, h1, h2, h3, h4, h5⟩
    subst hA
    have hRc : R < wc.heap.size := heap_lt HMR4.out
    have hxc : wc.heap[x]? = _ := (HK4.out.block x (by have := HS3.out; omega) (by rintro (e | e); exact block_ne HM24'.out HMR'.out (by decide) e; obtain ⟨cs, fr, e⟩ := own_row HOB'.out e; exact block_ne HM24'.out e (by decide) rfl)).trans HM24'.out
    have m34 : w3.heap[y]? = _ := (HK3.out.block y HXY.out.2.1 id).trans HM34.out
    have hyc : wc.heap[y]? = _ := (HK4.out.block y (heap_lt m34) (by rintro (e | e); exact block_ne m34 HMR'.out (by decide) e; obtain ⟨cs, fr, e⟩ := own_row HOB'.out e; exact block_ne m34 e (by decide) rfl)).trans m34
    have SC3 := HSC.out.keep HK3.out id (fun _ _ => id)
    have SCc := SC3.keep HK4.out (by rintro (e | e); exact block_ne SC3.row HMR'.out (by decide) e; obtain ⟨cs, fr, e⟩ := own_row HOB'.out e; exact block_ne SC3.row e (by decide) rfl) (fun k hk => by obtain ⟨cs', e'⟩ := SC3.2.1.row hk; rintro (e | e); exact block_ne e' HMR'.out (by decide) e; obtain ⟨cs, fr, e⟩ := own_row HOB'.out e; exact block_ne e' e (by decide) rfl)
    have k0 : wc.cell? ⟨x, 0, none⟩ = some (.pointer (some ⟨R, 0, none⟩)) := by rw [cell_of_row wc x 0 _ _ _ hxc]; rfl
    have p0 : wc.cell? ⟨y, 0, none⟩ = some (.int .i64 (off : Int)) := by rw [cell_of_row wc y 0 _ _ _ hyc]; rfl
    have p1 : wc.cell? ⟨y, 1, none⟩ = some (.string (S8 d)) := by rw [cell_of_row wc y 1 _ _ _ hyc]; rfl
    have p2 : wc.cell? ⟨y, 2, none⟩ = some (.bool fin) := by rw [cell_of_row wc y 2 _ _ _ hyc]; rfl
    have r1 : wc.cell? ⟨R, 1, none⟩ = some (.pointer (some ⟨cb, 0, none⟩)) := by rw [cell_of_row wc R 1 _ _ _ HMR4.out]; rfl
    obtain ⟨E, hE⟩ : ∃ E : Int, E = (off : Int) + (d.length : Int) - 1 := ⟨_, rfl⟩
    have hwE : IntKind.i64.wrap ((off : Int) + (d.length : Int) - 1) = E := by rw [IntKind.wrap_i64]; omega
    have HE := Lib.hid hE
    have HXc := Lib.hid hxc
    have HYc := Lib.hid hyc
    have HSCc := Lib.hid SCc
    have HG0 := Lib.hid hg0
    have HFR0 := Lib.hid hfr0
    have HCS0 := Lib.hid hcs0
    have HN1 := Lib.hid hn1
    clear hE hxc m34 hyc SC3 SCc hg0 hfr0 hcs0 hn1 K0' P0' P1' R0' FR
    go_wp2_with fail
    go_region_held3 (fun w' => w'.cell? ⟨x, 0, none⟩ = some (.pointer (some ⟨R, 0, none⟩)) ∧ w'.cell? ⟨y, 0, none⟩ = some (.int .i64 (off : Int)) ∧ w'.cell? ⟨y, 1, none⟩ = some (.string (S8 d)) ∧ w'.cell? ⟨y, 2, none⟩ = some (.bool fin) ∧ w'.cell? ⟨R, 1, none⟩ = some (.pointer (some ⟨cb, 0, none⟩))) ((refine ⟨?_, ?_, ?_, ?_, ?_⟩ <;> (repeat (first | assumption | (with_reducible refine cellD ?_) | (with_reducible refine cellA ?_)))))
      (first
        | (go_at_call 33; refine (end_any _ (off : Int) (S8 d) fin (by omega) (by omega) (by rw [S8_size]; omega)).mono ?_; rintro e w' ⟨rfl, rfl⟩)
        | (go_at_call 35; refine (gaps_any _ cb (off : Int) E).mono ?_; rintro e w' ⟨rfl, rfl⟩))
    obtain ⟨Z, hZ⟩ : ∃ Z, Z = wc.heap.size := ⟨_, rfl⟩
    obtain ⟨w5, hw5⟩ : ∃ w5, w5 = ((((wc.alloc (.cells #[.int .i64 (off : Int), .string (S8 d), .bool fin] 34)).alloc (.cells #[.pointer (some ⟨cb, 0, none⟩)] 73)).alloc (.cells #[.int .i64 (off : Int)] 3)).alloc (.cells #[.int .i64 E] 3)).drew := ⟨_, rfl⟩
    have k5 : Keep wc w5 (fun _ => False) := by rw [hw5]; exact ((((Keep.refl wc _).alloc _).alloc _).alloc _).alloc _ |>.drew
    have z5 : w5.heap.size = Z + 4 := by rw [hw5, hZ]; simp
    have q3 : w5.heap[Z + 1]? = some (.cells #[.pointer (some ⟨cb, 0, none⟩)] 73 (0, 0)) := by rw [hw5, hZ]; exact (heap4 _ _ _ _ _).2.1
    have q1 : w5.heap[Z + 1 + 1]? = some (.cells #[.int .i64 (off : Int)] 3 (0, 0)) := by rw [hw5, hZ]; exact (heap4 _ _ _ _ _).2.2.1
    have q2 : w5.heap[Z + 1 + 2]? = some (.cells #[.int .i64 E] 3 (0, 0)) := by rw [hw5, hZ]; exact (heap4 _ _ _ _ _).2.2.2
    rw [← hw5, ← hZ]
    have HK5 := Lib.hid k5
    have HZ5 := Lib.hid z5
    have HZ := Lib.hid hZ
    have HQ1 := Lib.hid q1
    have HQ2 := Lib.hid q2
    have HQ3 := Lib.hid q3
    have SC5 := HSCc.out.keep k5 id (fun _ _ => id)
    have HSC5 := Lib.hid SC5
    have hg5 : w5.heap[g]? = _ := (k5.block g (heap_lt HG0.out) id).trans HG0.out
    have HG5 := Lib.hid hg5
    have hgz : g < Z := by rw [HZ.out]; exact heap_lt HG0.out
    have hbd : Bd r.came := HIN.out.bd (by omega)
    have HBD := Lib.hid hbd
    have hgp := gaps_all (a := (off : Int)) (b := E) SC5.2.2.1
    have HGP := Lib.hid hgp
    have hcut5 : ∀ (pre rest : List Sp) (t : Sp), gaps (off : Int) E r.came = pre ++ t :: rest → ∃ p q : Nat, t = ((p : Int), (q : Int)) ∧ off ≤ p ∧ p ≤ q ∧ q < off + d.length := by
      intro pre rest t ht
      have h1 := HGP.out.2.1 t (by rw [ht]; simp)
      have := HE.out
      refine ⟨t.1.toNat, t.2.toNat, ?_, by omega, by omega, by omega⟩
      rw [Int.toNat_of_nonneg (by omega), Int.toNat_of_nonneg (by omega)]
    have HCUT5 := Lib.hid hcut5
    clear hw5 k5 z5 q1 q2 q3 hZ SC5 hg5 hbd hgp hcut5 k0 p0 p1 p2 r1 hwE
    go_wp2_with fail
    refine wp_rangeFunc_X (gf := 43) (lb := #[.pointer (some ⟨Z + 1 + 1, 0, none⟩), .pointer (some ⟨Z + 1 + 2, 0, none⟩), .pointer (some ⟨Z + 1, 0, none⟩)]) (encs := encP) (bs := fun k => k = Z + 1 + 2) (M := fun B r => r = B + 1) (xs := gaps (off : Int) E r.came) rfl (enters_of Try.func43 (by kernel_rfl) rfl) (fun k hk => by have := HZ5.out; omega) (gapE (off : Int) E vc r.came (w5.heap.size + 2))
      (fun W1 hs hold => by rw [← hs]; exact gaps_seq ((hold _ (heap_lt HQ1.out)).trans HQ1.out) ((hold _ (heap_lt HQ2.out)).trans HQ2.out) ((hold _ (heap_lt HQ3.out)).trans HQ3.out) (HSC5.out.old hold) (by omega) (by have := HE.out; omega) HBD.out) (fun _ => rfl)
      (fun pre W => (∃ cs, W.heap[g]? = some (.cells cs 5 fr) ∧ cs.size = cs0.size ∧ ∀ j, j < b1.length → cs[o + j]? = some (.int .u8 (ub (at_ (ovl b1 off d pre) j)))) ∧ Keep w5 W (fun k => k = g)) (fun _ _ _ => False) ?hI (fun _ _ _ _ _ h _ _ => h) ⟨⟨cs0, HG5.out, rfl, by rw [ovl_nil]; exact HCS0.out⟩, Keep.refl _ _⟩
      (fun t => { tmps := #[.pointer (some ⟨R, 0, none⟩), .agg #[.int .i64 (off : Int), .string (S8 d), .bool fin], .pointer (some ⟨x, 0, none⟩), .pointer (some ⟨y, 0, none⟩), .int .i64 ((off : Int) + (d.length : Int) - (n : Int)), .int .i64 t.1, .int .i64 t.2, .agg #[.int .i64 (off : Int), .string (S8 d), .bool fin], .int .i64 ((off : Int) + (d.length : Int)), .pointer (some ⟨R, 0, none⟩), .pointer (some ⟨R, 0, none⟩), .pointer (some ⟨R, 0, none⟩), .slice A n c, .int .i64 (n : Int), .int .i64 ((off : Int) + (d.length : Int) - (n : Int)), .int .i64 ((off : Int) + (d.length : Int) - (n : Int)), u16, u17, u18, u19, u20, u21, u22, u23, u24, u25, .pointer (some ⟨R, 0, none⟩), .pointer (some ⟨R, 0, none⟩), .pointer (some ⟨R, 1, none⟩), .pointer (some ⟨cb, 0, none⟩), .pointer (some ⟨y, 0, none⟩), .int .i64 (off : Int), .agg #[.int .i64 (off : Int), .string (S8 d), .bool fin], .int .i64 ((off : Int) + (d.length : Int)), .int .i64 E, .func (.func 43) #[] #[.pointer (some ⟨Z + 1 + 1, 0, none⟩), .pointer (some ⟨Z + 1 + 2, 0, none⟩), .pointer (some ⟨Z + 1, 0, none⟩)], .int .i64 t.1, .int .i64 t.2, undef, undef, undef, undef, undef, undef, undef, undef, undef, undef, undef, undef, undef, undef, undef, undef, undef, undef, undef, undef, undef, undef, undef, undef, undef, undef], defers := [] }) ?assign ?body ?done (fun _ _ _ _ _ _ _ h _ => h.elim)
    case hI =>
      rintro pre X X' row ⟨⟨cs, e1, e2, e3⟩, hk⟩ hg hr
      refine ⟨⟨cs, (hg.block g (heap_lt e1) (fun e => by have := (hr g e.symm).1; have := HZ5.out; omega)).trans e1, e2, e3⟩, ?_⟩
      exact hk.trans (Keep.of_grown (S := fun k => w5.heap.size ≤ k) hg (fun k _ e => (hr k e).1)) (fun i hi e => absurd e (by omega))
    case assign =>
      intro l' t W1 K hK
      simp only [encP]
      gi_wp2
      exact hK
    case body =>
      rintro l' pre t rest W1 hx hE1 ⟨⟨cs, e1, e2, e3⟩, hk⟩
      obtain ⟨p, q, rfl, hp, hpq, hq⟩ := HCUT5.out pre rest t hx
      have hxw : w5.heap[x]? = _ := (HK5.out.block x (heap_lt HXc.out) id).trans HXc.out
      have hyw : w5.heap[y]? = _ := (HK5.out.block y (heap_lt HYc.out) id).trans HYc.out
      have hRw : w5.heap[R]? = _ := (HK5.out.block R hRc id).trans HMR4.out
      have hx1 : W1.heap[x]? = _ := (hk.block x (heap_lt hxw) (block_ne hxw HG5.out (by decide))).trans hxw
      have hy1 : W1.heap[y]? = _ := (hk.block y (heap_lt hyw) (block_ne hyw HG5.out (by decide))).trans hyw
      have hR1 : W1.heap[R]? = _ := (hk.block R (heap_lt hRw) (block_ne hRw HG5.out (by decide))).trans hRw
      have k0 : W1.cell? ⟨x, 0, none⟩ = some (.pointer (some ⟨R, 0, none⟩)) := by rw [cell_of_row W1 x 0 _ _ _ hx1]; rfl
      have p0 : W1.cell? ⟨y, 0, none⟩ = some (.int .i64 (off : Int)) := by rw [cell_of_row W1 y 0 _ _ _ hy1]; rfl
      have p1 : W1.cell? ⟨y, 1, none⟩ = some (.string (S8 d)) := by rw [cell_of_row W1 y 1 _ _ _ hy1]; rfl
      have r0 : W1.cell? ⟨R, 0, none⟩ = some (.slice (some ⟨g, o, none⟩) n1 c1) := by rw [cell_of_row W1 R 0 _ _ _ hR1]; rfl
      have hw1 : IntKind.i64.wrap ((q : Int) + 1) = (q : Int) + 1 := by rw [IntKind.wrap_i64]; omega
      have hw2 : IntKind.i64.wrap ((p : Int) - (off : Int)) = ((p - off : Nat) : Int) := by rw [IntKind.wrap_i64]; omega
      have hn1 := HN1.out
      have hc1 : n1 ≤ c1 := by omega
      have h1 : p ≤ q + 1 := by omega
      have h2 : q + 1 ≤ c1 := by omega
      have h3 : p - off ≤ d.length := by omega
      have h4 : (0 : Int) ≤ (q : Int) + 1 := by omega
      have h5 : ((q : Int) + 1).toNat = q + 1 := by omega
      have h6 : (p : Int) ≤ (q : Int) + 1 := by omega
      have h7 : (q : Int) + 1 ≤ (c1 : Int) := by omega
      have h8 : ¬ (c1 = p) := by omega
      have HP := Lib.hid (show off ≤ p ∧ p ≤ q ∧ q < off + d.length from ⟨hp, hpq, hq⟩)
      have HC1 := Lib.hid (show W1.heap[g]? = some (.cells cs 5 fr) ∧ cs.size = cs0.size ∧ ∀ j, j < b1.length → cs[o + j]? = some (.int .u8 (ub (at_ (ovl b1 off d pre) j))) from ⟨e1, e2, e3⟩)
      have HKb := Lib.hid hk
      have HE1 := Lib.hid hE1
      clear hx hxw hyw hRw hx1 hy1 hR1 e1 e2 e3 hk hn1 hE1
      gi_wp2
      refine region_round (by kernel_rfl) (by kernel_rfl) (fun _ _ h => h.elim) ?_
      refine region_tail_any _ 15 64 (fun w' => ∃ m, w' = W1.drewN m) (by rfl) (by kernel_rfl) (by kernel_rfl) ⟨1, rfl⟩ ?_
      simp only [List.take_succ_cons, List.take_zero, List.drop_succ_cons, List.drop_zero]
      (repeat (go_big_quiet_step (fail)))
      refine wpQuiet_nil ?_
      intro _ hwq
      obtain ⟨nq, hwq⟩ := hwq
      subst hwq
      have hdl : (d.drop (p - off)).length = d.length - (p - off) := List.length_drop
      have hP := HP.out
      have hfit := HC1.out.2.1
      have hnn := HN1.out
      obtain ⟨cs', hcp, f1, f2, f3⟩ := run_copy_str (w := W1.drewN nq) 3 (m := d.drop (p - off)) (g := g) (o := o + p) (n := q + 1 - p) (c := c1 - p) HC1.out.1 (by rw [hfit]; exact HFR0.out) (by rw [hdl]; omega) (by rw [hfit]; omega)
      rw [show S8 (d.drop (p - off)) = (S8 d).extract (p - off) d.length by rw [S8_extract, List.take_length]] at hcp
      refine wpList_copy_is (by rfl) (.tmp 45) (.tmp 52) 44 9 rfl _ _ rfl rfl hcp ?_
      refine ⟨⟨by simp, fun k hk => setRow_other _ g k cs' (by rintro rfl; rcases hk with hk | hk; omega; have := HZ5.out; omega)⟩, ⟨cs', setRow_heap _ g _ cs' 5 fr HC1.out.1, by rw [f1]; exact hfit, fun j hj => ?_⟩, HKb.out.trans (Keep.setRow (S := fun k => k = g) ((Keep.refl W1 _).drewN nq) (.inr rfl) cs') (fun _ _ e => e)⟩
      rw [ovl_at hj, memB_append]
      by_cases hin : p ≤ j ∧ j ≤ q
      · have e1 : memB (j : Int) [((p : Int), (q : Int))] = true := by simp [memB]; omega
        rw [e1, Bool.or_true, if_pos rfl]
        have := f2 (j - p) (by omega)
        rw [show o + p + (j - p) = o + j by omega] at this
        rw [this, at_drop, show p - off + (j - p) = j - off by omega]
      · have e1 : memB (j : Int) [((p : Int), (q : Int))] = false := by simp [memB]; omega
        rw [e1, Bool.or_false, f3 (o + j) (by omega), HC1.out.2.2 j hj, ovl_at hj]
    case done =>
      rintro D W3 hD hE3 ⟨⟨cs, e1, e2, e3⟩, hk⟩ hdef
      have hxw : w5.heap[x]? = _ := (HK5.out.block x (heap_lt HXc.out) id).trans HXc.out
      have hyw : w5.heap[y]? = _ := (HK5.out.block y (heap_lt HYc.out) id).trans HYc.out
      have hRw : w5.heap[R]? = _ := (HK5.out.block R hRc id).trans HMR4.out
      have hx1 : W3.heap[x]? = _ := (hk.block x (heap_lt hxw) (block_ne hxw HG5.out (by decide))).trans hxw
      have hy1 : W3.heap[y]? = _ := (hk.block y (heap_lt hyw) (block_ne hyw HG5.out (by decide))).trans hyw
      have hR1 : W3.heap[R]? = _ := (hk.block R (heap_lt hRw) (block_ne hRw HG5.out (by decide))).trans hRw
      have k0 : W3.cell? ⟨x, 0, none⟩ = some (.pointer (some ⟨R, 0, none⟩)) := by rw [cell_of_row W3 x 0 _ _ _ hx1]; rfl
      have p0 : W3.cell? ⟨y, 0, none⟩ = some (.int .i64 (off : Int)) := by rw [cell_of_row W3 y 0 _ _ _ hy1]; rfl
      have p1 : W3.cell? ⟨y, 1, none⟩ = some (.string (S8 d)) := by rw [cell_of_row W3 y 1 _ _ _ hy1]; rfl
      have p2 : W3.cell? ⟨y, 2, none⟩ = some (.bool fin) := by rw [cell_of_row W3 y 2 _ _ _ hy1]; rfl
      have r1 : W3.cell? ⟨R, 1, none⟩ = some (.pointer (some ⟨cb, 0, none⟩)) := by rw [cell_of_row W3 R 1 _ _ _ hR1]; rfl
      have hwE : IntKind.i64.wrap ((off : Int) + (d.length : Int) - 1) = E := by have := HE.out; rw [IntKind.wrap_i64]; omega
      -- the set, by itself
      obtain ⟨FC, hFC⟩ : ∃ FC : Nat → Prop, FC = fun k => k = cb ∨ vc.ownBlock = some k := ⟨_, rfl⟩
      have kset : SetIn FC W3 cb r.came := ⟨vc, HSC5.out.keep hk (fun e => block_ne HSC5.out.row HG5.out (by decide) e) (fun k hk2 e => by obtain ⟨cs', e'⟩ := HSC5.out.2.1.row hk2; exact block_ne e' HG5.out (by decide) e), by rw [hFC]; exact .inl rfl, fun k hk => by rw [hFC]; exact .inr hk⟩
      have nfx : ¬ FC x ∧ ¬ FC y ∧ ¬ FC R := by
        have hv : ∀ k, vc.ownBlock = some k → ∃ cs', W3.heap[k]? = some (.cells cs' 93 (0, 0)) := fun k hk2 => by
          obtain ⟨cs', e'⟩ := HSC5.out.2.1.row hk2
          exact ⟨cs', (hk.block k (heap_lt e') (fun e => block_ne e' HG5.out (by decide) e)).trans e'⟩
        have hcb : W3.heap[cb]? = _ := (hk.block cb (heap_lt HSC5.out.row) (fun e => block_ne HSC5.out.row HG5.out (by decide) e)).trans HSC5.out.row
        rw [hFC]
        refine ⟨?_, ?_, ?_⟩
        · rintro (e | e); exact block_ne hx1 hcb (by decide) e; obtain ⟨cs', e'⟩ := hv _ e; exact block_ne hx1 e' (by decide) rfl
        · rintro (e | e); exact block_ne hy1 hcb (by decide) e; obtain ⟨cs', e'⟩ := hv _ e; exact block_ne hy1 e' (by decide) rfl
        · rintro (e | e); exact block_ne hR1 hcb (by decide) e; obtain ⟨cs', e'⟩ := hv _ e; exact block_ne hR1 e' (by decide) rfl
      have hkp : ∀ W4 W5 : World, Keep W3 W4 (fun _ => False) → Keep W4 W5 FC → W5.cell? ⟨x, 0, none⟩ = some (.pointer (some ⟨R, 0, none⟩)) ∧ W5.cell? ⟨y, 0, none⟩ = some (.int .i64 (off : Int)) ∧ W5.cell? ⟨y, 1, none⟩ = some (.string (S8 d)) ∧ W5.cell? ⟨y, 2, none⟩ = some (.bool fin) ∧ W5.cell? ⟨R, 1, none⟩ = some (.pointer (some ⟨cb, 0, none⟩)) := fun W4 W5 h4 h5 => by
        have h6 := (h4.mono (T := FC) (fun _ _ e => e.elim)).trans h5 (fun _ _ e => e)
        have ex := h6.block x (heap_lt hx1) nfx.1
        have ey := h6.block y (heap_lt hy1) nfx.2.1
        have eR := h6.block R (heap_lt hR1) nfx.2.2
        exact ⟨(World.cell?_of_block ex).trans k0, (World.cell?_of_block ey).trans p0, (World.cell?_of_block ey).trans p1, (World.cell?_of_block ey).trans p2, (World.cell?_of_block eR).trans r1⟩
      have HKP := Lib.hid hkp
      have HNF := Lib.hid nfx
      clear hkp nfx
      have hadd : ∀ W4 : World, Keep W3 W4 (fun _ => False) → Calls Try.prog 36 #[.pointer (some ⟨cb, 0, none⟩), .int .i64 (off : Int), .int .i64 E] W4 fun e w' => e = .returned (.int .i64 0) ∧ SetIn (More FC W4) w' cb (addL (off : Int) E r.came) ∧ Keep W4 w' FC := fun W4 k4 =>
        addN (N := 199998) (kset.keep k4 (fun _ _ => id)) (HIN.out.mono (by omega)) (by omega) (by omega) (by have := HE.out; omega) (by have := HE.out; omega)
      have HADD := Lib.hid hadd
      have HFC := Lib.hid hFC
      have HKD := Lib.hid hk
      have HR1 := Lib.hid hR1
      have HC3 := Lib.hid (show W3.heap[g]? = some (.cells cs 5 fr) ∧ cs.size = cs0.size ∧ ∀ j, j < b1.length → cs[o + j]? = some (.int .u8 (ub (at_ (ovl b1 off d (gaps (off : Int) E r.came)) j))) from ⟨e1, e2, e3⟩)
      have HDEF := Lib.hid hdef
      have HD := Lib.hid hD
      clear hxw hyw hRw hx1 hy1 hR1 kset hadd hFC hk e1 e2 e3 hdef hD hE3
      go_wp2_with fail
      go_region_held3 (fun w' => w'.cell? ⟨x, 0, none⟩ = some (.pointer (some ⟨R, 0, none⟩)) ∧ w'.cell? ⟨y, 0, none⟩ = some (.int .i64 (off : Int)) ∧ w'.cell? ⟨y, 1, none⟩ = some (.string (S8 d)) ∧ w'.cell? ⟨y, 2, none⟩ = some (.bool fin) ∧ w'.cell? ⟨R, 1, none⟩ = some (.pointer (some ⟨cb, 0, none⟩)))
        ((refine ⟨?_, ?_, ?_, ?_, ?_⟩ <;> (repeat (first | assumption | (with_reducible refine cellD ?_) | (with_reducible refine cellA ?_)))))
        (first
          | (go_at_call 33; refine (end_any _ (off : Int) (S8 d) fin (by omega) (by omega) (by rw [S8_size]; omega)).mono ?_; rintro e w' ⟨rfl, rfl⟩)
          | (go_at_call 36; refine (HADD.out _ (((Keep.refl W3 _).alloc _).drew)).mono ?_; rintro e w' ⟨rfl, hs1, hk1⟩; have hS := HKP.out _ _ (((Keep.refl W3 _).alloc _).drew) hk1; obtain ⟨z0, z1, z2, z3, z4⟩ := hS; have HS1 := Lib.hid hs1; have HK1 := Lib.hid hk1; clear hs1 hk1))
      go_wp2_with fail
      obtain ⟨W4, hW4⟩ : ∃ W4, W4 = (W3.alloc (.cells #[.int .i64 (off : Int), .string (S8 d), .bool fin] 34)).drew := ⟨_, rfl⟩
      have kW4 : Keep W3 W4 (fun _ => False) := by rw [hW4]; exact ((Keep.refl W3 _).alloc _).drew
      have hs1 := HS1.out
      have hk1 := HK1.out
      rw [← hW4] at hs1 hk1
      have hZ5 := HZ5.out
      have hZ := HZ.out
      have hX := HX.out
      have hS3 := HS3.out
      have hD := HD.out
      have z2 : w.heap.size ≤ w2.heap.size := HK2.out.size
      have zc : w3.heap.size ≤ wc.heap.size := HK4.out.size
      have z3 : w5.heap.size ≤ W3.heap.size := HKD.out.size
      have zW4 : W3.heap.size ≤ W4.heap.size := kW4.size
      have hvF : ∀ k, vc.ownBlock = some k → k < w5.heap.size := fun k hk => HSC5.out.2.1.lt k hk
      have nFD : ¬ FC D := by
        rw [HFC.out]
        rintro (e | e)
        · have := heap_lt HSC5.out.row; omega
        · have := hvF D e; omega
      have hDw : w'.heap[D]? = some (.deferred (some [])) := (hk1.block D (by have := heap_lt HDEF.out; omega) nFD).trans ((kW4.block D (heap_lt HDEF.out) id).trans HDEF.out)
      have k36 : Keep W3 w' FC := (kW4.mono (fun _ _ e => e.elim)).trans hk1 (fun _ _ e => e)
      have hRw : w'.heap[R]? = _ := (k36.block R (heap_lt HR1.out) HNF.out.2.2).trans HR1.out
      have hgF : ¬ FC g := by
        rw [HFC.out]
        rintro (e | e)
        · exact block_ne HG5.out HSC5.out.row (by decide) e
        · obtain ⟨cs', e'⟩ := HSC5.out.2.1.row e; exact block_ne HG5.out e' (by decide) rfl
      have hgw : w'.heap[g]? = some (.cells cs 5 fr) := (k36.block g (heap_lt HC3.out.1) hgF).trans HC3.out.1
      have kP : Keep w' (w'.putObj D (.deferred none)) (fun k => k = D) := ⟨rfl, rfl, rfl, by simp, fun k _ hk => World.putObj_heap_other hk⟩
      have hRD : R ≠ D := by omega
      have hgD : g ≠ D := by omega
      have hFF := HF1.out
      have hgM : More F w g := by
        rcases HO1.out g rfl with e | e
        · exact .inl (hFF.2.2.1 g e)
        · exact .inr e
      refine leave_mark hDw (fun _ => results_none rfl _ _ _) ⟨⟨_, rfl⟩, ?_, ?_⟩
      · obtain ⟨v4, sa, fa, fb⟩ := hs1
        have hbl : (putB r.b r.came off d).length = n1 := by
          unfold putB
          rw [ovl_length, HN1.out, HB1.out]
        refine ⟨.slice (some ⟨g, o, none⟩) n1 c1, cb, v4, (kP.block R (heap_lt hRw) hRD).trans hRw, ?_, ?_, .inl hFF.1, .inl hFF.2.1, ?_, ?_⟩
        · refine .inr ⟨g, o, c1, cs, fr, by rw [hbl], Nat.zero_le _, (kP.block g (heap_lt hgw) hgD).trans hgw, by rw [HC3.out.2.1]; exact HFR0.out, by rw [hbl, HN1.out]; exact hnc0, by rw [HC3.out.2.1]; exact hfit0, fun j hj => ?_⟩
          have := HC3.out.2.2 j (by rw [hbl, HN1.out] at hj; exact hj)
          unfold putB
          rw [← HE.out, ← HB1.out]
          exact this
        · rw [← HE.out]
          refine sa.keep kP (fun e => ?_) (fun k hk e => ?_)
          · have := heap_lt HSC5.out.row; omega
          · subst e
            rcases fb _ hk with h | h
            · exact nFD h
            · have := heap_lt HDEF.out; omega
        · intro k hk
          simp [Value.ownBlock] at hk
          subst hk
          exact hgM
        · intro k hk
          rcases fb k hk with h | h
          · rw [HFC.out] at h
            rcases h with rfl | h
            · exact .inl hFF.2.1
            · exact .inl (hFF.2.2.2 k h)
          · exact .inr (by omega)
      · have c1' := ((HK2.out.trans HK3.out (fun _ _ e => e)).mono (T := F) (fun _ _ e => e.elim)).trans HK4.out (fun k hk e => by rcases e with rfl | e; exact hFF.1; exact hFF.2.2.1 k e)
        have c2' := (c1'.trans HK5.out (fun _ _ e => e.elim)).trans HKD.out (fun k hk e => by subst e; rcases hgM with h | h; exact h; omega)
        have c3' := c2'.trans k36 (fun k hk e => by rw [HFC.out] at e; rcases e with rfl | e; exact hFF.2.1; exact hFF.2.2.2 k e)
        exact c3'.trans kP (fun k hk e => by omega)
end Go.Proofs.Ytjnekjjaofabeaa
