/-
  StreamOrders: the plain law.
-/
import Derived.Test.YtjnekjjaofabeaaOg
namespace Go.Proofs.Ytjnekjjaofabeaa
open Go.RowKit Go.Rh Rng

theorem at_append_left {a b : List UInt8} {j : Nat} (h : j < a.length) : at_ (a ++ b) j = at_ a j := by
  unfold at_
  rw [List.getD_eq_getElem?_getD, List.getD_eq_getElem?_getD, List.getElem?_append_left h]
theorem at_part {T : List UInt8} {off n j : Nat} (h1 : off ≤ j) (h2 : j < off + n) : at_ ((T.drop off).take n) (j - off) = at_ T j := by
  unfold at_
  rw [List.getD_eq_getElem?_getD, List.getD_eq_getElem?_getD, List.getElem?_take, if_pos (by omega), List.getElem?_drop, show off + (j - off) = j by omega]
theorem part_length {T : List UInt8} {off n : Nat} (h : off + n ≤ T.length) : ((T.drop off).take n).length = n := by rw [List.length_take, List.length_drop]; omega
theorem putB_length (b : List UInt8) (came : List Sp) (off : Nat) (d : List UInt8) : (putB b came off d).length = max b.length (off + d.length) := by
  unfold putB
  rw [ovl_length, List.length_append, List.length_replicate]
  omega
theorem putB_in {b : List UInt8} {came : List Sp} {off : Nat} {d : List UInt8} (hw : WF came) {j : Nat} (hj : j < (putB b came off d).length) (h1 : off ≤ j) (h2 : j < off + d.length) (hm : ¬ mem (j : Int) came) :
    at_ (putB b came off d) j = at_ d (j - off) := by
  unfold putB at hj ⊢
  rw [ovl_length] at hj
  rw [ovl_at hj, if_pos (memB_iff.2 (((gaps_all (a := (off : Int)) (b := (off : Int) + (d.length : Int) - 1) hw).1 (j : Int)).2 ⟨by omega, hm⟩))]
theorem putB_old {b : List UInt8} {came : List Sp} {off : Nat} {d : List UInt8} (hw : WF came) {j : Nat} (hj : j < b.length) (hm : mem (j : Int) came) :
    at_ (putB b came off d) j = at_ b j := by
  unfold putB
  rw [ovl_at (by rw [List.length_append]; omega), if_neg (fun e => (((gaps_all (a := (off : Int)) (b := (off : Int) + (d.length : Int) - 1) hw).1 (j : Int)).1 (memB_iff.1 e)).2 hm), at_append_left hj]

/-- A taking end that has had pieces of `T` alone. -/
structure OrdInv (T : List UInt8) (kn : Bool) (r : Rcv) : Prop where
  len : r.b.length ≤ T.length
  wf : WF r.came
  inn : InN (r.b.length : Int) r.came
  eq : ∀ j : Nat, mem (j : Int) r.came → at_ r.b j = at_ T j
  lim : r.limit = 65536
  gone : r.gone = false
  top0 : 0 ≤ r.top
  top : r.top ≤ (T.length : Int)
  known : r.known = kn
  size : kn = true → r.size = (T.length : Int)
  size0 : 0 ≤ r.size
  sizeT : r.size ≤ (T.length : Int)
  read0 : 0 ≤ r.read
  read : r.read ≤ (r.b.length : Int)
  got : ∀ j : Int, 0 ≤ j → j < r.read → mem j r.came
theorem OrdInv.new (T : List UInt8) : OrdInv T false (rnew 65536) :=
  ⟨Nat.zero_le _, trivial, fun s hs => (by cases hs), fun j hj => absurd hj (mem_nil _), rfl, rfl, Int.le_refl 0, Int.natCast_nonneg _, rfl, fun h => (by cases h), Int.le_refl 0, Int.natCast_nonneg _, Int.le_refl 0, Int.le_refl 0, fun j h1 h2 => absurd (Int.lt_of_le_of_lt h1 h2) (Int.lt_irrefl 0)⟩
theorem OrdInv.take {T : List UInt8} {kn fin : Bool} {r : Rcv} (h : OrdInv T kn r) {off n : Nat} (hn : off + n ≤ T.length) (hf : fin = decide (off + n = T.length)) : OrdInv T (kn || fin) (takeR r off ((T.drop off).take n) fin) := by
  have hd := part_length hn
  have hsz : (kn || fin) = true → (if fin then (off : Int) + (n : Int) else r.size) = (T.length : Int) := by
    intro hk
    cases fin with
    | true => have := of_decide_eq_true hf.symm; simp; omega
    | false => simp at hk; simpa using h.size hk
  have hs2 : 0 ≤ (if fin then (off : Int) + (n : Int) else r.size) ∧ (if fin then (off : Int) + (n : Int) else r.size) ≤ (T.length : Int) := by
    have := h.size0
    have := h.sizeT
    cases fin <;> simp <;> omega
  have htop := h.top0
  have htop2 := h.top
  by_cases hz : (T.drop off).take n = []
  · have hn0 : n = 0 := by rw [hz] at hd; simpa using hd.symm
    subst hn0
    unfold takeR
    simp only [if_pos hz, hd]
    exact ⟨h.len, h.wf, h.inn, h.eq, h.lim, h.gone, by simp only; omega, by simp only; omega, by simp only; rw [h.known], hsz, hs2.1, hs2.2, h.read0, h.read, h.got⟩
  · have hn0 : 0 < n := by
      rcases Nat.eq_zero_or_pos n with e | e
      · subst e; simp at hz
      · exact e
    have hl := putB_length r.b r.came off ((T.drop off).take n)
    rw [hd] at hl
    have hab : (off : Int) ≤ (off : Int) + (n : Int) - 1 := by omega
    have hlen := h.len
    have hread := h.read
    unfold takeR
    simp only [if_neg hz, hd]
    refine ⟨by simp only; omega, WF.addL hab h.wf, ?_, fun j hj => ?_, h.lim, h.gone, by simp only; omega, by simp only; omega, by simp only; rw [h.known], hsz, hs2.1, hs2.2, h.read0, by simp only; omega, fun j h1 h2 => (mem_addL hab h.wf j).2 (.inl (h.got j h1 h2))⟩
    · rw [hl]; exact (h.inn.mono (by omega)).addL h.wf (by omega) hab (by omega)
    · rcases (mem_addL hab h.wf (j : Int)).1 hj with hm | hm
      · have hjb : j < r.b.length := by obtain ⟨s, hs, h1, h2⟩ := hm; have := h.inn s hs; omega
        rw [putB_old h.wf hjb hm, h.eq j hm]
      · by_cases hc : mem (j : Int) r.came
        · have hjb : j < r.b.length := by obtain ⟨s, hs, h1, h2⟩ := hc; have := h.inn s hs; omega
          rw [putB_old h.wf hjb hc, h.eq j hc]
        · rw [putB_in h.wf (by omega) (by omega) (by omega) hc, at_part (by omega) (by omega)]
theorem take_mem {T : List UInt8} {kn fin : Bool} {r : Rcv} (h : OrdInv T kn r) {off n : Nat} (hn : off + n ≤ T.length) {j : Int} : mem j (takeR r off ((T.drop off).take n) fin).came ↔ mem j r.came ∨ ((off : Int) ≤ j ∧ j < (off : Int) + (n : Int)) := by
  have hd := part_length hn
  by_cases hz : (T.drop off).take n = []
  · have hn0 : n = 0 := by rw [hz] at hd; simpa using hd.symm
    subst hn0
    unfold takeR
    simp only [if_pos hz]
    constructor
    · exact .inl
    · rintro (e | e)
      · exact e
      · omega
  · have hn0 : 0 < n := by
      rcases Nat.eq_zero_or_pos n with e | e
      · subst e; simp at hz
      · exact e
    unfold takeR
    simp only [if_neg hz, hd]
    rw [mem_addL (by omega) h.wf]
    constructor
    · rintro (e | e)
      · exact .inl e
      · exact .inr (by omega)
    · rintro (e | e)
      · exact .inl e
      · exact .inr (by omega)
theorem OrdInv.readE {T : List UInt8} {kn : Bool} {r : Rcv} (h : OrdInv T kn r) {m : Int} (hm : 0 ≤ m) : OrdInv T kn { r with read := readEnd r m } := by
  obtain ⟨h1, h2, h3, h4, h5⟩ := readEnd_ok (m := m) h.read0 h.read hm h.wf
  have := h.read0
  exact ⟨h.len, h.wf, h.inn, h.eq, h.lim, h.gone, h.top0, h.top, h.known, h.size, h.size0, h.sizeT, by simp only; omega, by simp only; omega, fun j a b => by
    by_cases hj : j < r.read
    · exact h.got j a hj
    · exact h4 j (by omega) b⟩
/-- What is read are the bytes of `T`. -/
theorem OrdInv.bytes {T : List UInt8} {kn : Bool} {r : Rcv} (h : OrdInv T kn r) {m : Int} (hm : 0 ≤ m) : T.take r.read.toNat ++ (r.b.drop r.read.toNat).take ((readEnd r m).toNat - r.read.toNat) = T.take (readEnd r m).toNat := by
  obtain ⟨h1, h2, h3, h4, h5⟩ := readEnd_ok (m := m) h.read0 h.read hm h.wf
  have h0 := h.read0
  have hlen := h.len
  have hread := h.read
  have hT : (r.b.drop r.read.toNat).take ((readEnd r m).toNat - r.read.toNat) = (T.drop r.read.toNat).take ((readEnd r m).toNat - r.read.toNat) := by
    apply list_at
    · rw [List.length_take, List.length_take, List.length_drop, List.length_drop]; omega
    · intro j hj
      rw [List.length_take, List.length_drop] at hj
      have e1 := at_part (T := r.b) (off := r.read.toNat) (n := (readEnd r m).toNat - r.read.toNat) (j := r.read.toNat + j) (by omega) (by omega)
      have e2 := at_part (T := T) (off := r.read.toNat) (n := (readEnd r m).toNat - r.read.toNat) (j := r.read.toNat + j) (by omega) (by omega)
      rw [Nat.add_sub_cancel_left] at e1 e2
      rw [e1, e2]
      exact h.eq _ (h4 _ (by omega) (by omega))
  rw [hT]
  conv => rhs; rw [show (readEnd r m).toNat = r.read.toNat + ((readEnd r m).toNat - r.read.toNat) by omega, List.take_add]
/-- Where all came, a long reading reads all. -/
theorem OrdInv.all {T : List UInt8} {kn : Bool} {r : Rcv} (h : OrdInv T kn r) (ha : ∀ j : Int, 0 ≤ j → j < (T.length : Int) → mem j r.came) {m : Int} (hm : (T.length : Int) ≤ m) : readEnd r m = (T.length : Int) := by
  obtain ⟨h1, h2, h3, h4, h5⟩ := readEnd_ok (m := m) h.read0 h.read (by omega) h.wf
  have h0 := h.read0
  have hlen := h.len
  have hread := h.read
  have hb : r.b.length = T.length := by
    rcases Nat.eq_zero_or_pos T.length with e | e
    · omega
    · obtain ⟨s, hs, a, b⟩ := ha ((T.length : Int) - 1) (by omega) (by omega)
      have := h.inn s hs
      omega
  have ht : readTo r m = (T.length : Int) := by unfold readTo; omega
  rcases h5 with e | e
  · omega
  · by_cases hx : readEnd r m < (T.length : Int)
    · exact absurd (ha _ (by omega) hx) e
    · omega
end Go.Proofs.Ytjnekjjaofabeaa
