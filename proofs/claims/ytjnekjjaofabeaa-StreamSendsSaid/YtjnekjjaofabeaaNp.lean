/-
  The ranges of a set, rising: now (f47), Up (f37), its iterator (f46).
-/
import Derived.Test.YtjnekjjaofabeaaNo
import Derived.Test.YtjnekjjaofabeaaLa
namespace Go.Proofs.Ytjnekjjaofabeaa
open Go.RowKit Go.Rh Rng Go.Shelf
attribute [local go_sem] Oper.semAt_some

theorem now_any {w : World} {s : Nat} {v : Value} {l : List Sp} (h : SetAt w s v l) : Calls Try.prog 47 #[.pointer (some ⟨s, 0, none⟩)] w fun e w' =>
    ∃ v', e = .returned v' ∧ SetV w' v' l ∧ Below w.heap.size w w' ∧ w'.heap.size = w.heap.size + cloneN v l ∧ ∀ k, v'.ownBlock = some k → w.heap.size ≤ k := by
  have hc := clone_any h.2.1 h.2.2.2
  obtain ⟨A, n, c, hn, rfl⟩ := h.2.1.formN
  have c0 := h.cell0
  clear hn h
  go_enter Try.func47, Try.ntmps47
  go_wp2_with (go_at_call 51; refine hc.mono ?_; rintro e w1 ⟨v', rfl, hv, hb, hsz, ho⟩; obtain ⟨A1, n1, c1, hn1, rfl⟩ := hv.formN; have HN1 := Lib.hid hn1; have HV := Lib.hid hv; have HB := Lib.hid hb; have HSZ := Lib.hid hsz; have HO := Lib.hid ho; clear hv hb ho hn1 hsz)
  go_ret
  exact ⟨_, rfl, HV.out, HB.out, HSZ.out, HO.out⟩

theorem up_any (w : World) (s : Nat) : Calls Try.prog 37 #[.pointer (some ⟨s, 0, none⟩)] w fun e w' =>
    e = .returned (.func (.func 46) #[] #[.pointer (some ⟨w.heap.size, 0, none⟩)]) ∧ w' = w.alloc (.cells #[.pointer (some ⟨s, 0, none⟩)] 73) := by
  go_enter Try.func37, Try.ntmps37
  go_wp2
  go_ret
  exact ⟨rfl, rfl⟩

theorem grown_below {A A' : World} (h : Below A.heap.size A A') : A.grownBy A' none := ⟨h.os, h.tape, h.output, h.size, fun k hk _ => h.block k hk⟩
theorem split_at {l : List Sp} {k : Nat} {t : Sp} (h : l[k]? = some t) : l = l.take k ++ t :: l.drop (k + 1) := by
  obtain ⟨hk, rfl⟩ := List.getElem?_eq_some_iff.1 h
  rw [← List.drop_eq_getElem_cons hk, List.take_append_drop]
def encP (x : Sp) : Array Value := #[.int .i64 x.1, .int .i64 x.2]
set_option maxHeartbeats 1000000 in
set_option maxRecDepth 100000 in
theorem up_seq {W : World} {s bx : Nat} {v : Value} {l : List Sp} (hbx : W.heap[bx]? = some (.cells #[.pointer (some ⟨s, 0, none⟩)] 73 (0, 0))) (h : SetAt W s v l) (bs : Nat → Prop) :
    SeqX Try.prog 46 #[.pointer (some ⟨bx, 0, none⟩)] encP bs (fun _ _ => False) l (W.heap.size + cloneN v l) W := by
  refine ⟨by omega, fun ll J Jx hJ hJx hY h0 => ?_⟩
  have hnow := now_any h
  obtain ⟨E, hE⟩ : ∃ E, E = W.heap.size + cloneN v l := ⟨_, rfl⟩
  rw [← hE] at hnow hY ⊢
  obtain ⟨n, hn⟩ : ∃ n, n = l.length := ⟨_, rfl⟩
  have hnb : n ≤ 100000 := by rw [hn]; exact h.2.2.2
  have c0 : W.cell? ⟨bx, 0, none⟩ = some (.pointer (some ⟨s, 0, none⟩)) := by rw [cell_of_row W bx 0 _ _ _ hbx]; rfl
  have HN := Lib.hid hn
  have HY := Lib.hid hY
  have HJ := Lib.hid hJ
  have H0 := Lib.hid h0
  clear hY hJ h0 hn hE hbx h hJx
  refine (callsIn_wide (n := 9)).1 ?_
  refine callsIn_of_wp Try.func46 rfl trivial ?_ rfl
  simp only [Try.ntmps46, List.size_toArray, List.length_cons, List.length_nil, Nat.reduceAdd, Nat.reduceSub, Array.replicate_succ, Array.replicate_zero, List.push_toArray, List.append_toArray, List.nil_append, List.cons_append]
  gi_wp2_with (refine ⟨trivial, ?_⟩; gi_at_call 47; refine (callsIn_wide.2 hnow).mono ?_; rintro e w1 ⟨v', rfl, hv, hb, hsz, ho⟩; obtain ⟨A1, n1, c1, hn1, rfl⟩ := hv.formN; have HV := Lib.hid hv; have HB := Lib.hid hb; have HSZ := Lib.hid hsz; have HO := Lib.hid ho; have e1 : n1 = n := (by rw [hn1, HN.out]); subst e1; clear hv hb ho hn1 hsz)
  gi_loopw [8] (fun i wr => ∃ k : Nat, k ≤ n1 ∧ i = .int .i64 k ∧ J (l.take k) wr ∧ SetV wr (.slice A1 n1 c1) l ∧ E ≤ wr.heap.size) (fun i _ => n1 - (intOf i).toNat)
  case atStart => exact ⟨0, Nat.zero_le _, rfl, HJ.out _ _ _ none H0.out (grown_below HB.out) (fun r e => by cases e), HV.out, by rw [HSZ.out]; exact Nat.le_refl _⟩
  case round =>
    obtain ⟨k, hk, rfl, hJs, hsv, hEs⟩ := hrel
    have HJS := Lib.hid hJs
    have HSV := Lib.hid hsv
    have HES := Lib.hid hEs
    by_cases hlt : k < n1
    · obtain ⟨⟨x, y⟩, ht⟩ : ∃ t, l[k]? = some t := ⟨l[k]'(by have := HN.out; omega), List.getElem?_eq_getElem _⟩
      obtain ⟨g, rfl, hr⟩ : ∃ g, A1 = some ⟨g, 0, none⟩ ∧ RowAt wr g c1 l := by
        rcases hsv with ⟨e, e2⟩ | ⟨g, c', e, hr⟩
        · rw [e2] at ht; simp at ht
        · injection e with e1 e2 e3; subst e3; exact ⟨g, e1, hr⟩
      obtain ⟨d0, d1⟩ := hr.cells ht
      have hlt' : (k : Int) < (n1 : Int) := by omega
      have hdrop := split_at ht
      have hJ2 := HJ.out _ _ _ none hJs (World.grownBy_alloc wr (.cells #[.int .i64 x, .int .i64 y] 93) none) (fun r e => by cases e)
      obtain ⟨fn, tmps, assign, body, hy, hR⟩ := yield_free 8 (HY.out (l.take k) (x, y) (l.drop (k + 1)) (wr.alloc (.cells #[.int .i64 x, .int .i64 y] 93)) hdrop (by simp; omega) hJ2)
      dsimp only [encP] at hy
      have HT := Lib.hid ht
      clear hJs hsv hEs hr ht hdrop hJ2
      gi_wp2
      refine hR.mono ?_
      rintro e W3 (⟨rfl, hJ3, hk3⟩ | ⟨rfl, hJx3, hk3⟩)
      · gi_wp2
        go_roundw
        case rel =>
          refine ⟨k + 1, by omega, by go_num, ?_, ?_, ?_⟩
          · rw [take_snoc HT.out]; exact hJ3
          · rcases HSV.out.keep ((Keep.refl wr (fun _ => False)).alloc (.cells #[.int .i64 x, .int .i64 y] 93)) (fun _ _ => id) with ⟨e, _⟩ | ⟨g', c', e, hr⟩
            · cases e
            · exact .inr ⟨g', c', e, hr.heap (hk3.block g' (.inr ⟨HO.out g' (by rw [e]; rfl), by have := HV.out.lt g' (by rw [e]; rfl); have := HSZ.out; omega⟩))⟩
          · have := HES.out; have := hk3.size; simp at this; omega
        case measure => simp [intOf]; omega
      · gi_wp2
        refine bodyPost_ret (results_none rfl _ _ _) rfl ?_
        exact ⟨⟨_, rfl⟩, by have := HES.out; have := hk3.size; simp at this; omega, .inr ⟨_, ⟨l.drop (k + 1), by rw [List.append_assoc]; exact (split_at HT.out).symm⟩, hJx3⟩⟩
    · obtain rfl : k = n1 := by omega
      have hall : l.take k = l := by rw [HN.out]; exact List.take_length
      rw [hall] at hJs
      have HJS := Lib.hid hJs
      clear hJs hsv hEs hall hlt
      gi_wp2
      go_end0
      exact ⟨⟨_, rfl⟩, HES.out, .inl HJS.out⟩
end Go.Proofs.Ytjnekjjaofabeaa
