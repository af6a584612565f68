/-
  The schedule: Mix.
-/
import Derived.Test.YtmifegjmmlipbaaDoorFc
namespace Go.Proofs.YtmifegjmmlipbaaDoor
open Go.RowKit Go.Rh Sha
attribute [local go_sem] S8_append S8_size run_make32

/-- A schedule whose secret lies in blocks of a kind. -/
def SchedIn (ok : Nat → Prop) (w : World) (h : Nat) (sec : List UInt8) : Prop := ∃ v, w.heap[h]? = some (.cells #[v] 84 (0, 0)) ∧ Bs ok w v sec
theorem SchedAt.inn {w : World} {B h : Nat} {sec : List UInt8} (H : SchedAt w B h sec) : SchedIn (fun i => (B ≤ i ∧ i ≠ h) ∧ i < w.heap.size) w h sec := by
  obtain ⟨v, h1, h2, _⟩ := H
  exact ⟨v, h1, h2.mono fun i hi k => ⟨k, hi⟩⟩
theorem SchedIn.att {ok : Nat → Prop} {w : World} {B h : Nat} {sec : List UInt8} (H : SchedIn ok w h sec) (hok : ∀ i, i < w.heap.size → ok i → B ≤ i ∧ i ≠ h) (hB : B ≤ h) : SchedAt w B h sec := by
  obtain ⟨v, h1, h2⟩ := H
  exact ⟨v, h1, h2.mono hok, hB⟩
theorem SchedIn.keep {ok S : Nat → Prop} {w w' : World} {h : Nat} {sec : List UInt8} (H : SchedIn ok w h sec) (k : Keep w w' S) (hh : ¬ S h) (hok : ∀ i, i < w.heap.size → ok i → ¬ S i) : SchedIn ok w' h sec := by
  obtain ⟨v, h1, h2⟩ := H
  exact ⟨v, (k.block h (heap_lt h1) hh).trans h1, ((h2.mono (ok' := fun i => ok i ∧ i < w.heap.size) fun i hi k => ⟨k, hi⟩).keep k (fun i hi => hok i hi.2 hi.1)).mono fun i _ k => k.1⟩

set_option maxRecDepth 100000 in
set_option maxHeartbeats 0 in
theorem mix_any' {w : World} {B h : Nat} {sec m : List UInt8} {ok : Nat → Prop} {x : Value} (hL : Laid w) (H : SchedAt w B h sec) (hx : Bs ok w x m) (hb : sec.length ≤ 70368744177664) (hm : m.length + 64 ≤ 70368744177664) (hB : 1 < B) (hBw : B ≤ w.heap.size) :
    Calls Tryd.prog 32 #[.pointer (some ⟨h, 0, none⟩), x] w fun e w' => e = .returned (.tuple #[]) ∧ SchedAt w' B h (mixed sec m) ∧ SchedIn (fun i => w.heap.size ≤ i ∧ i ≠ h) w' h (mixed sec m) ∧ Keep w w' (fun k => k = h) := by
  have HS := Lib.hid (St.start hL)
  have HX : Hid (Bs (fun k => k < w.heap.size) w x m) := hx.mono (fun i hi _ => hi)
  obtain ⟨m', hm'⟩ : ∃ m', m' = if m = [] then nought32 else m := ⟨_, rfl⟩
  have hmx : mixed sec m = mac (labR sec nDer (sum []) 32) m' := by rw [hm']; rfl
  have hml : m'.length + 64 ≤ 70368744177664 := by
    rw [hm']
    split
    · decide
    · exact hm
  obtain ⟨Z, hZ⟩ : ∃ Z, Z = mixed sec m := ⟨_, rfl⟩
  have hZl : Z.length = 32 := by rw [hZ]; exact mixed_length _ _
  rw [← hZ]
  have HZ : Hid (mac (labR sec nDer (sum []) 32) m' = Z) := by show _ = _; rw [hZ, hmx]
  have HB : Hid (sec.length ≤ 70368744177664 ∧ m'.length + 64 ≤ 70368744177664 ∧ B ≤ w.heap.size ∧ Z.length = 32) := ⟨hb, hml, hBw, hZl⟩
  have HM := Lib.hid hm'
  have HH := Lib.hid H
  obtain ⟨A, n, c, rfl, hn, hc, hbk⟩ := hx
  have HN := Lib.hid hn
  clear hmx hm' hml hb hm hZ hL H hn hc hbk hB hBw hZl
  go_enter Tryd.func32, Tryd.ntmps32
  go_upto_if 10 with fail
  go_cut [1, 10] (fun s1 _ wx => ∃ A1 n1 c1, s1 = .slice A1 n1 c1 ∧ Hid (Bs (fun _ => True) wx (.slice A1 n1 c1) m') ∧ Hid (Below w.heap.size w wx))
  case first =>
    by_cases h0 : m = []
    · have hn0 : n = 0 := by rw [HN.out, h0]; rfl
      subst hn0
      go_wp2
      go_meet
      exact ⟨_, _, _, rfl, by rw [HM.out, if_pos h0]; exact (bs_nought w).mono (fun _ _ _ => trivial), (Below.refl _ _).alloc (Nat.le_refl _) _⟩
    · have hn0 : ((n : Int) == 0) = false := by
        have : n ≠ 0 := fun e => h0 (List.eq_nil_of_length_eq_zero (by rw [← HN.out]; exact e))
        simp; omega
      have hn1 : ¬ (n : Int) = 0 := by simpa using hn0
      go_wp2
      go_meet
      exact ⟨A, n, c, rfl, by rw [HM.out, if_neg h0]; exact HX.out.mono (fun _ _ _ => trivial), Below.refl _ _⟩
  case rest =>
    obtain ⟨A1, n1, c1, rfl, hb1, hbc⟩ := hcut
    have HX1 : Hid (Bs (fun _ => True) wc (.slice A1 n1 c1) m') := hb1
    have HBc : Hid (Below w.heap.size w wc) := hbc
    have HSc := Lib.hid (HS.out.step hbc.out)
    have HHc := Lib.hid (HH.out.below hbc.out)
    clear hb1 hbc
    go_wp2_with fail
    refine (derive_any (lab := nDer) (m := []) HSc.out.laid HHc.out (bs_nil wc) HB.out.1 (Nat.zero_le _)).mono ?_
    rintro e w2 ⟨A2, n2, c2, rfl, -, ho2, hb2⟩
    obtain ⟨X, hX⟩ : ∃ X, X = labR sec nDer (sum []) 32 := ⟨_, rfl⟩
    obtain ⟨E, hE⟩ : ∃ X, X = labE nDer (sum []) 32 := ⟨_, rfl⟩
    rw [← hX] at ho2
    rw [← hE]
    have hXl : X.length = 32 := by rw [hX]; exact lab_len _ _
    have HXl := Lib.hid hXl
    have HXZ : Hid (mac X m' = Z) := by show _ = _; rw [hX]; exact HZ.out
    have HS2 := Lib.hid (HSc.out.step hb2)
    have HH2 := Lib.hid (HHc.out.below hb2)
    have HO2 := Lib.hid ho2.bs
    have HX2 : Hid (Bs (fun _ => True) w2 (.slice A1 n1 c1) m') := HX1.out.keep (S := fun _ => False) (Keep.of_below hb2 (Nat.le_refl _) _) (fun _ _ => id)
    clear hX hE hXl ho2 hb2 HSc HHc HX1
    go_wp2_with fail
    refine (st_extract HS2.out HO2.out HX2.out (by rw [HXl.out]; omega) HB.out.2.1).mono ?_
    rintro e w3 ⟨b, rfl, hbs, hr, hb3, hs⟩
    rw [HXZ.out] at hr
    have HR := Lib.hid hr
    have HS3 := Lib.hid hs
    obtain ⟨v, h1, h2, h3⟩ := HH2.out.below hb3
    have HW : Hid (w.heap.size ≤ b ∧ b ≠ h) := ⟨Nat.le_trans HS2.out.size hbs, fun e => by subst e; rw [hr] at h1; injection h1 with h1; injection h1 with _ e2; exact absurd e2 (by decide)⟩
    have HQ := Lib.hid h1
    have H3 := Lib.hid h3
    have cc : w3.cell? ⟨h, 0, none⟩ = some v := by rw [cell_of_row w3 h 0 _ 84 _ h1]; rfl
    have ff : w3.frozen? ⟨h, 0, none⟩ = false := frozen_of_row _ _ _ _ _ h1
    clear hbs hr hb3 hs h1 h2 h3 HH2 HS2 HO2 HX2
    go_wp2
    go_end0
    have hset : (w3.setCell ⟨h, 0, none⟩ (.slice (some ⟨b, 0, none⟩) 32 32)).heap[h]? = some (.cells #[.slice (some ⟨b, 0, none⟩) 32 32] 84 (0, 0)) := heap_setCell_same _ h 0 _ 84 _ HQ.out
    have hbr : Bs (fun i => w.heap.size ≤ i ∧ i ≠ h) (w3.setCell ⟨h, 0, none⟩ (.slice (some ⟨b, 0, none⟩) 32 32)) (.slice (some ⟨b, 0, none⟩) 32 32) Z :=
      (bs_row (t := 24) (fr := (0, 0)) ((heap_set_other _ h 0 b _ HW.out.2).trans HR.out) HB.out.2.2.2).mono (fun i _ e => by subst e; exact HW.out)
    refine ⟨rfl, ⟨_, hset, hbr.mono (fun i _ e => ⟨Nat.le_trans HB.out.2.2.1 e.1, e.2⟩), H3.out⟩, ⟨_, hset, hbr⟩, Keep.setCell (S := fun k => k = h) (p := ⟨h, 0, none⟩) (Keep.of_below HS3.out.below (Nat.le_refl _) (fun k => k = h)) (.inr rfl) _⟩
end Go.Proofs.YtmifegjmmlipbaaDoor
