/-
  A piece is taken: Take (f9).
-/
import Derived.Test.YtjnekjjaofabeaaOc
namespace Go.Proofs.Ytjnekjjaofabeaa
open Go.RowKit Go.Rh Rng

theorem RcvAt.set {F : Nat → Prop} {w : World} {R : Nat} {r : Rcv} (h : RcvAt F w R r) (i : Nat) (u : Value) (r' : Rcv) (hc : ∀ vb cb, (rcells vb cb r).setIfInBounds i u = rcells vb cb r') (hb : r'.b = r.b) (hcm : r'.came = r.came) : RcvAt F (w.setCell ⟨R, i, none⟩ u) R r' := by
  obtain ⟨vb, cb, vc, h1, h2, h3, f1, f2, f3, f4⟩ := h
  have kp : Keep w (w.setCell ⟨R, i, none⟩ u) (fun k => k = R) := Keep.setCell (S := fun k => k = R) (Keep.refl w _) (.inr rfl) _
  refine ⟨vb, cb, vc, by rw [← hc]; exact set_block h1 i u, by rw [hb]; exact h2.keep kp (fun k hk e => by obtain ⟨cs, fr, e'⟩ := own_row h2 hk; exact block_ne e' h1 (by decide) e), by rw [hcm]; exact h3.keep kp (fun e => block_ne h3.row h1 (by decide) e) (fun k hk e => by obtain ⟨cs, e'⟩ := h3.2.1.row hk; exact block_ne e' h1 (by decide) e), f1, f2, f3, f4⟩
theorem RcvAt.cells {F : Nat → Prop} {w : World} {R : Nat} {r : Rcv} (h : RcvAt F w R r) :
    w.cell? ⟨R, 2, none⟩ = some (.int .i64 r.top) ∧ w.cell? ⟨R, 3, none⟩ = some (.int .i64 r.read) ∧ w.cell? ⟨R, 4, none⟩ = some (.int .i64 r.size) ∧ w.cell? ⟨R, 5, none⟩ = some (.int .i64 r.window) ∧ w.cell? ⟨R, 6, none⟩ = some (.int .i64 r.limit) ∧ w.cell? ⟨R, 7, none⟩ = some (.bool r.known) ∧ w.cell? ⟨R, 8, none⟩ = some (.bool r.gone) ∧
    w.frozen? ⟨R, 0, none⟩ = false ∧ w.frozen? ⟨R, 2, none⟩ = false ∧ w.frozen? ⟨R, 3, none⟩ = false ∧ w.frozen? ⟨R, 4, none⟩ = false ∧ w.frozen? ⟨R, 6, none⟩ = false ∧ w.frozen? ⟨R, 7, none⟩ = false := by
  obtain ⟨vb, cb, vc, h1, _⟩ := h
  refine ⟨?_, ?_, ?_, ?_, ?_, ?_, ?_, ?_, ?_, ?_, ?_, ?_, ?_⟩
  all_goals first
    | (rw [cell_of_row w R _ _ _ _ h1]; rfl)
    | simp [World.frozen?, h1]
theorem RcvAt.lt {F : Nat → Prop} {w : World} {R : Nat} {r : Rcv} (h : RcvAt F w R r) : R < w.heap.size := by obtain ⟨vb, cb, vc, h1, _⟩ := h; exact heap_lt h1
theorem RcvAt.own {F : Nat → Prop} {w : World} {R : Nat} {r : Rcv} (h : RcvAt F w R r) : F R := by obtain ⟨vb, cb, vc, h1, h2, h3, f1, _⟩ := h; exact f1

/-- What a taking end is behind a piece. -/
def takeR (r : Rcv) (off : Nat) (d : List UInt8) (fin : Bool) : Rcv :=
  { r with
    known := r.known || fin, size := if fin then (off : Int) + (d.length : Int) else r.size, top := max r.top ((off : Int) + (d.length : Int)),
    b := if d = [] then r.b else putB r.b r.came off d, came := if d = [] then r.came else addL (off : Int) ((off : Int) + (d.length : Int) - 1) r.came }
/-- Where it was, the piece goes farther by .. -/
def takeN (r : Rcv) (off : Nat) (d : List UInt8) : Int := max ((off : Int) + (d.length : Int) - (if r.known then r.size else r.top)) 0

theorem ret2_of {a b : Int} (h : a = b) : Ending.returned (.tuple #[.int .i64 a, .int .i64 0]) = Ending.returned (.tuple #[.int .i64 b, .int .i64 0]) := by rw [h]
set_option maxHeartbeats 4000000 in
set_option maxRecDepth 100000 in
theorem take_any {F : Nat → Prop} {w : World} {R : Nat} {r : Rcv} (h : RcvAt F w R r) {off : Nat} {d : List UInt8} {fin : Bool} (hN : off + d.length ≤ 199998) (hb : r.b.length ≤ 199998) (hin : InN (r.b.length : Int) r.came)
    (hg : r.gone = false) (hk : r.known = true → (off : Int) + (d.length : Int) ≤ r.size) (hf : fin = true → (r.known = true → (off : Int) + (d.length : Int) = r.size) ∧ r.top ≤ (off : Int) + (d.length : Int)) (hl : (off : Int) + (d.length : Int) ≤ r.limit)
    (ht : 0 ≤ r.top ∧ r.top ≤ 4611686018427387904) (hs : 0 ≤ r.size ∧ r.size ≤ 4611686018427387904) :
    Calls Try.prog 9 #[.pointer (some ⟨R, 0, none⟩), .agg #[.int .i64 (off : Int), .string (S8 d), .bool fin]] w fun e w' =>
      e = .returned (.tuple #[.int .i64 (takeN r off d), .int .i64 0]) ∧ RcvAt (More F w) w' R (takeR r off d fin) ∧ Keep w w' F := by
  have hFR := h.own
  have hR := h.lt
  obtain ⟨w1, hw1⟩ : ∃ w1, w1 = (w.alloc (.cells #[.int .i64 (off : Int), .string (S8 d), .bool fin] 34)).alloc (.cells #[.int .i64 (off : Int), .string (S8 d), .bool fin] 34) := ⟨_, rfl⟩
  obtain ⟨y, hy⟩ : ∃ y, y = w.heap.size := ⟨_, rfl⟩
  have k1 : Keep w w1 (fun _ => False) := by rw [hw1]; exact ((Keep.refl w _).alloc _).alloc _
  have m34 : w1.heap[y]? = some (.cells #[.int .i64 (off : Int), .string (S8 d), .bool fin] 34 (0, 0)) := by rw [hw1, hy]; exact (heap2 _ _ _).1
  have P0 : w1.cell? ⟨y, 0, none⟩ = some (.int .i64 (off : Int)) := by rw [cell_of_row w1 y 0 _ _ _ m34]; rfl
  have P1 : w1.cell? ⟨y, 1, none⟩ = some (.string (S8 d)) := by rw [cell_of_row w1 y 1 _ _ _ m34]; rfl
  have P2 : w1.cell? ⟨y, 2, none⟩ = some (.bool fin) := by rw [cell_of_row w1 y 2 _ _ _ m34]; rfl
  have h1 := h.keep k1 (fun _ _ => id)
  obtain ⟨c2, c3, c4, c5, c6, c7, c8, d0, d2, d3, d4, d6, d7⟩ := h1.cells
  rw [hg] at c8
  obtain ⟨E, hE⟩ : ∃ E : Int, E = (off : Int) + (d.length : Int) := ⟨_, rfl⟩
  rw [← hE] at hk hf hl
  have HE := Lib.hid hE
  have hE2 : 0 ≤ E ∧ E ≤ 199998 := by omega
  have HY := Lib.hid hy
  have HK1 := Lib.hid k1
  have H1 := Lib.hid h1
  have HM34 := Lib.hid m34
  have HW1 := Lib.hid hw1
  have HIN := Lib.hid hin
  have HG := Lib.hid hg
  have hsz : (S8 d).size = d.length := S8_size d
  have hoff : (off : Int) ≤ 1099511627776 := by omega
  have hend : ∀ W : World, Calls Try.prog 33 #[.agg #[.int .i64 (off : Int), .string (S8 d), .bool fin]] W fun e w' => e = .returned (.int .i64 E) ∧ w' = W.alloc (.cells #[.int .i64 (off : Int), .string (S8 d), .bool fin] 34) := fun W => by
    rw [hE]
    have := end_any W (off : Int) (S8 d) fin (by omega) (by omega) (by rw [S8_size]; omega)
    rw [S8_size] at this
    exact this
  have HEND := Lib.hid hend
  have hyR : ¬ y = R := by omega
  have hRy : ¬ R = y := by omega
  clear hE hy k1 h1 m34 hin hg h hend
  go_enter Try.func9, Try.ntmps9
  go_upto_region 4 with (first | (go_at_call 33; refine (HEND.out _).mono ?_; rintro e w' ⟨rfl, rfl⟩))
  rw [← hw1, ← HY.out]
  clear hw1
  obtain ⟨r1, hr1⟩ : ∃ r1 : Rcv, r1 = { r with known := r.known || fin, size := if fin then E else r.size, top := max r.top E } := ⟨_, rfl⟩
  have hput : ∀ W2 : World, RcvAt F W2 R r1 → Keep w W2 F → 0 < d.length → Calls Try.prog 34 #[.pointer (some ⟨R, 0, none⟩), .agg #[.int .i64 (off : Int), .string (S8 d), .bool fin]] W2 fun e w' => (∃ u, e = .returned u) ∧ RcvAt (More F w) w' R (takeR r off d fin) ∧ Keep w w' F := by
    intro W2 h2 k2 hd
    refine (rput_any h2 hd hN (by rw [hr1]; exact hb) (by rw [hr1]; exact HIN.out)).mono ?_
    rintro e w' ⟨hu, h3, h4⟩
    refine ⟨hu, ?_, k2.trans h4 (fun _ _ e => e)⟩
    have hne : d ≠ [] := by intro e; rw [e] at hd; simp at hd
    have e1 : takeR r off d fin = { r1 with b := putB r1.b r1.came off d, came := addL (off : Int) ((off : Int) + (d.length : Int) - 1) r1.came } := by
      rw [hr1]; unfold takeR; rw [if_neg hne, if_neg hne, HE.out]
    rw [e1]
    exact h3.mono (fun k _ e => e.imp id (fun e => Nat.le_trans k2.size e))
  have hnil : ∀ W2 : World, RcvAt F W2 R r1 → d.length = 0 → RcvAt (More F w) W2 R (takeR r off d fin) := by
    intro W2 h2 hd
    have hd' : d = [] := List.eq_nil_of_length_eq_zero hd
    have e1 : takeR r off d fin = r1 := by
      rw [hr1]; unfold takeR; rw [if_pos hd', if_pos hd', HE.out]
    rw [e1]
    exact h2.mono (fun k _ e => .inl e)
  obtain ⟨tp2, htp2⟩ : ∃ tp2, (if r.top < E then E else r.top) = tp2 := ⟨_, rfl⟩
  have htm : max r.top E = tp2 := by rw [max_if]; exact htp2
  have hset0 : fin = false → RcvAt F (w1.setCell ⟨R, 2, none⟩ (.int .i64 tp2)) R r1 := fun hfin => H1.out.set 2 _ r1 (fun vb cb => by rw [hr1, hfin, ← htm]; simp [rcells]) (by rw [hr1]) (by rw [hr1])
  have hset1 : fin = true → RcvAt F (((w1.setCell ⟨R, 7, none⟩ (.bool true)).setCell ⟨R, 4, none⟩ (.int .i64 E)).setCell ⟨R, 2, none⟩ (.int .i64 tp2)) R r1 := fun hfin =>
    ((H1.out.set 7 _ { r with known := true } (fun vb cb => by simp [rcells]) rfl rfl).set 4 _ { r with known := true, size := E } (fun vb cb => by simp [rcells]) rfl rfl).set 2 _ r1 (fun vb cb => by rw [hr1, hfin, ← htm]; simp [rcells]) (by rw [hr1]) (by rw [hr1])
  have kw1 : Keep w w1 F := HK1.out.mono (fun _ _ e => e.elim)
  have ks0 : Keep w (w1.setCell ⟨R, 2, none⟩ (.int .i64 tp2)) F := kw1.setCell (.inr hFR) _
  have ks1 : Keep w (((w1.setCell ⟨R, 7, none⟩ (.bool true)).setCell ⟨R, 4, none⟩ (.int .i64 E)).setCell ⟨R, 2, none⟩ (.int .i64 tp2)) F := ((kw1.setCell (.inr hFR) _).setCell (.inr hFR) _).setCell (.inr hFR) _
  obtain ⟨tp, htp⟩ : ∃ tp, tp = r.top := ⟨_, rfl⟩
  obtain ⟨sz, hsz2⟩ : ∃ sz, sz = r.size := ⟨_, rfl⟩
  obtain ⟨kn, hkn⟩ : ∃ kn, kn = r.known := ⟨_, rfl⟩
  obtain ⟨lm, hlm⟩ : ∃ lm, lm = r.limit := ⟨_, rfl⟩
  have hres : takeN r off d = if (0 : Int) < E - (if kn then sz else tp) then E - (if kn then sz else tp) else 0 := by
    unfold takeN
    rw [HE.out, hkn, hsz2, htp, max_if]
    split <;> split <;> omega
  rw [← htp] at c2 htp2 hf ht
  rw [← hsz2] at c4 hk hf hs
  rw [← hkn] at c7 hk hf
  rw [← hlm] at c6 hl
  have HPUT := Lib.hid hput
  have HNIL := Lib.hid hnil
  have HS0 := Lib.hid hset0
  have HS1 := Lib.hid hset1
  have HKS0 := Lib.hid ks0
  have HKS1 := Lib.hid ks1
  have HRES := Lib.hid hres
  clear hput hnil hset0 hset1 ks0 ks1 kw1 htm hr1 htp hsz2 hkn hlm hres
  have hl' : ¬ lm < E := by omega
  have hdc : d.length = 0 ∨ 0 < d.length := by omega
  have hw1 : IntKind.i64.wrap (E - tp) = E - tp := by rw [IntKind.wrap_i64]; omega
  have hw2 : IntKind.i64.wrap (E - sz) = E - sz := by rw [IntKind.wrap_i64]; omega
  have hfx : fin = false ∨ (fin = true ∧ ¬ E < tp ∧ (kn = true → E = sz)) := by
    cases fin with
    | false => exact .inl rfl
    | true => exact .inr ⟨rfl, by have := (hf rfl).2; omega, (hf rfl).1⟩
  have hkx : kn = false ∨ (kn = true ∧ ¬ sz < E) := by
    cases kn with
    | false => exact .inl rfl
    | true => exact .inr ⟨rfl, by have := hk rfl; omega⟩
  clear hk hf hl
  rcases hfx with rfl | ⟨rfl, hf1, hf2⟩ <;> rcases hkx with rfl | ⟨rfl, hk1⟩ <;> rcases hdc with hd | hd
  all_goals
    first
      | (have hda : ¬ 0 < d.length := by omega)
      | (have hda : 0 < d.length := by omega)
    have HD := Lib.hid hda
    first
      | (have hdb : decide (0 < d.length) = false := by simpa using hda)
      | (have hdb : decide (0 < d.length) = true := by simpa using hda)
    clear hd
  case' inr.inr.inl => obtain rfl := hf2 rfl
  case' inr.inr.inr => obtain rfl := hf2 rfl
  all_goals
    go_wp2_with (first | (go_at_call 34; refine (HPUT.out _ (by first | exact HS0.out (by simp) | exact HS1.out (by simp)) (by first | exact HKS0.out | exact HKS1.out) HD.out).mono ?_; rintro e w2 ⟨⟨u, rfl⟩, h2, h3⟩; have H2 := Lib.hid h2; have H3 := Lib.hid h3; clear h2 h3))
  all_goals
    go_ret2
    refine ⟨ret2_of ?_, ?_, ?_⟩
    · rw [HRES.out]
      simp
      try omega
    · first
        | exact H2.out
        | exact HNIL.out _ (HS0.out (by simp)) (by have := HD.out; omega)
        | exact HNIL.out _ (HS1.out (by simp)) (by have := HD.out; omega)
    · first
        | exact H3.out
        | exact HKS0.out
        | exact HKS1.out
end Go.Proofs.Ytjnekjjaofabeaa
