/-
  The schedule: Mix and the document's Mixed.
-/
import Derived.Test.YtmifegjmmlipbaaDoorFb
namespace Go.Proofs.YtmifegjmmlipbaaDoor
open Go.RowKit Go.Rh Sha
attribute [local go_sem] S8_append S8_size run_make32

theorem lab_len (sec m : List UInt8) : (labR sec nDer (sum m) 32).length = 32 := by
  unfold labR
  rw [if_pos ⟨by decide, by decide, by rw [sum_length]; decide⟩, expand_length]
  rfl
theorem lab_E (m : List UInt8) : labE nDer (sum m) 32 = 0 := by
  unfold labE
  rw [if_pos (by decide), if_pos ⟨by decide, by rw [sum_length]; decide⟩]
set_option maxRecDepth 100000 in
theorem smixed_any (sec m : List UInt8) (hb : sec.length ≤ 70368744177664) (hm : m.length ≤ 70368744177000) (w : World) :
    Calls Tryd.prog 36 #[.string (S8 sec), .string (S8 m)] w fun e w' => e = .returned (.string (S8 (mixed sec m))) ∧ Below w.heap.size w w' := by
  obtain ⟨m', hm'⟩ : ∃ m', m' = if m = [] then nought32 else m := ⟨_, rfl⟩
  have hmx : mixed sec m = mac (labR sec nDer (sum []) 32) m' := by rw [hm']; rfl
  have hml : m'.length ≤ 70368744177000 := by
    rw [hm']
    split
    · decide
    · exact hm
  obtain ⟨Z, hZ⟩ : ∃ Z, Z = mixed sec m := ⟨_, rfl⟩
  rw [← hZ]
  have HZ : Hid (mac (labR sec nDer (sum []) 32) m' = Z) := by show _ = _; rw [hZ, hmx]
  have HB : Hid (sec.length ≤ 70368744177664 ∧ m'.length ≤ 70368744177000) := ⟨hb, hml⟩
  have HM := Lib.hid hm'
  clear hmx hm' hml hb hm hZ
  have e0 : ({ data := #[] } : ByteArray) = S8 [] := rfl
  go_enter Tryd.func36, Tryd.ntmps36
  go_upto_if 8 with fail
  go_cut [1, 8] (fun s1 _ wx => s1 = .string (S8 m') ∧ Hid (Below w.heap.size w wx))
  case first =>
    by_cases h : m = []
    · rw [show ((S8 m).toList == (S8 []).toList) = true from by rw [h]; exact beq_self_eq_true _]
      have HH := Lib.hid h
      clear h
      go_wp2_with fail
      refine (zeros_any w).mono ?_
      rintro e w1 ⟨rfl, hb1⟩
      have HB1 := Lib.hid hb1
      clear hb1
      go_wp2
      go_meet
      exact ⟨by rw [HM.out, if_pos HH.out], HB1.out⟩
    · rw [show ((S8 m).toList == (S8 []).toList) = false from by
        rw [ByteArray.toList_eq, ByteArray.toList_eq]
        simpa [S8] using h]
      have HH := Lib.hid h
      clear h
      go_wp2
      go_meet
      exact ⟨by rw [HM.out, if_neg HH.out], Below.refl _ _⟩
  case rest =>
    obtain ⟨rfl, hbc⟩ := hcut
    have HBc : Hid (Below w.heap.size w wc) := hbc
    clear hbc
    go_wp2_with fail
    refine (refsum_any [] (Nat.zero_le _) wc).mono ?_
    rintro e w1 ⟨rfl, hb1⟩
    have HB1 : Hid (Below w.heap.size w w1) := HBc.out.trans (hb1.mono HBc.out.size)
    obtain ⟨Y, hY⟩ : ∃ Y, Y = sum [] := ⟨_, rfl⟩
    rw [← hY]
    have HY := Lib.hid hY
    clear hb1 hY
    go_wp2_with fail
    refine (doclabel_g sec nDer Y 32 HB.out.1 w1).mono ?_
    rintro e w2 ⟨rfl, hb2⟩
    have HB2 : Hid (Below w.heap.size w w2) := HB1.out.trans (hb2.mono HB1.out.size)
    obtain ⟨X, hX⟩ : ∃ X, X = labR sec nDer Y 32 := ⟨_, rfl⟩
    obtain ⟨E, hE⟩ : ∃ X, X = labE nDer Y 32 := ⟨_, rfl⟩
    have hXl : X.length = 32 := by rw [hX, HY.out]; exact lab_len _ _
    rw [← hX, ← hE]
    have HX : Hid (mac X m' = Z) := by rw [hX, HY.out]; exact HZ.out
    have HXl := Lib.hid hXl
    clear hb2 hX hE hXl
    go_wp2_with fail
    refine (refmac_any X m' (by rw [HXl.out]; omega) (by have := HB.out; omega) w2).mono ?_
    rintro e w3 ⟨rfl, hb3⟩
    have HB3 : Hid (Below w.heap.size w w3) := HB2.out.trans (hb3.mono HB2.out.size)
    rw [HX.out]
    clear hb3
    go_wp2
    go_ret
    exact ⟨rfl, HB3.out⟩
end Go.Proofs.YtmifegjmmlipbaaDoor
