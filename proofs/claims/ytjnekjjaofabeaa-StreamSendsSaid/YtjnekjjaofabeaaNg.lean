/-
  Ranges put into a set: put (f45).
-/
import Derived.Test.YtjnekjjaofabeaaNf
namespace Go.Proofs.Ytjnekjjaofabeaa
open Go.RowKit Go.Rh Rng

theorem SetAt.row {w : World} {s : Nat} {v : Value} {l : List Sp} (h : SetAt w s v l) : w.heap[s]? = some (.cells #[v, .int .i64 100000] 96 (0, 0)) := h.1
theorem SetAt.cell0 {w : World} {s : Nat} {v : Value} {l : List Sp} (h : SetAt w s v l) : w.cell? ⟨s, 0, none⟩ = some v := by rw [cell_of_row w s 0 _ _ _ h.1]; rfl
theorem SetAt.cell1 {w : World} {s : Nat} {v : Value} {l : List Sp} (h : SetAt w s v l) : w.cell? ⟨s, 1, none⟩ = some (.int .i64 100000) := by rw [cell_of_row w s 1 _ _ _ h.1]; rfl
theorem set_block {w : World} {s : Nat} {cs : Array Value} {t : TypeId} (h : w.heap[s]? = some (.cells cs t (0, 0))) (j : Nat) (u : Value) : (w.setCell ⟨s, j, none⟩ u).heap[s]? = some (.cells (cs.setIfInBounds j u) t (0, 0)) := by
  rw [setCell_eq_setRow w s j cs t (0, 0) u h]
  exact setRow_heap w s cs _ t _ h

set_option maxRecDepth 100000 in
theorem put_any {w : World} {s : Nat} {v : Value} {i j g2 mc : Nat} {l ms : List Sp} (h : SetAt w s v l) (h2 : RowAt w g2 mc ms) (hne : v.ownBlock ≠ some g2) (hs2 : g2 ≠ s) (hj : j ≤ l.length) (h0 : 0 < ms.length)
    (hfit : i + ms.length ≤ j ∨ (i = j ∧ mc = 1 ∧ ∃ t, ms = [t] ∧ One w g2 t)) (hw : WF (l.take i ++ (ms ++ l.drop j))) (hl : (l.take i ++ (ms ++ l.drop j)).length ≤ 100000) :
    Calls Try.prog 45 #[.pointer (some ⟨s, 0, none⟩), .int .i64 (i : Int), .int .i64 (j : Int), .slice (some ⟨g2, 0, none⟩) ms.length mc] w fun e w' =>
      (∃ u, e = .returned u) ∧ ∃ v', SetAt w' s v' (l.take i ++ (ms ++ l.drop j)) ∧ Keep w w' (fun k => k = s ∨ v.ownBlock = some k) ∧ (v'.ownBlock = v.ownBlock ∨ ∃ k, v'.ownBlock = some k ∧ w.heap.size ≤ k) := by
  have hr := replaceR h.2.1 h2 hne hj h.2.2.2 h0 hfit
  obtain ⟨R, hR⟩ : ∃ R, R = l.take i ++ (ms ++ l.drop j) := ⟨_, rfl⟩
  rw [← hR] at hr hw hl ⊢
  have HS := Lib.hid h
  have HW := Lib.hid hw
  have HL := Lib.hid hl
  obtain ⟨A, n, c, hn, rfl⟩ := h.2.1.formN
  have c0 := h.cell0
  have hvs : ∀ k, (Value.slice A n c).ownBlock = some k → k ≠ s := fun k e => h.ne e
  have HVS := Lib.hid hvs
  have hsl := heap_lt h.row
  have f0 : w.frozen? ⟨s, 0, none⟩ = false := by simp [World.frozen?, h.row]
  clear h h2 hne hs2 hj h0 hfit hR hw hl hn hvs
  go_enter Try.func45, Try.ntmps45
  go_wp2_with (go_at_call 50; refine hr.mono ?_; rintro e w1 ⟨v', rfl, hv, hk, ho⟩; obtain ⟨A1, n1, c1, hn1, rfl⟩ := hv.formN; have HN1 := Lib.hid hn1; have HV := Lib.hid hv; have HK := Lib.hid hk; have HO := Lib.hid ho; have M1 : w1.heap[s]? = some (.cells #[.slice A n c, .int .i64 100000] 96 (0, 0)) := (hk.block s hsl (fun e => HVS.out s e rfl)).trans HS.out.row; have HM1 := Lib.hid M1; have C1 : w1.cell? ⟨s, 0, none⟩ = some (.slice A n c) := (by rw [cell_of_row w1 s 0 _ _ _ M1]; rfl); have F1 : w1.frozen? ⟨s, 0, none⟩ = false := (by simp [World.frozen?, M1]); clear hv hk ho hn1 M1)
  obtain ⟨w2, hw2⟩ : ∃ w2, w2 = w1.setCell ⟨s, 0, none⟩ (.slice A1 n1 c1) := ⟨_, rfl⟩
  have M2 : w2.heap[s]? = some (.cells #[.slice A1 n1 c1, .int .i64 100000] 96 (0, 0)) := by rw [hw2]; exact set_block HM1.out 0 _
  have K2 : Keep w1 w2 (fun k => k = s) := by rw [hw2]; exact Keep.setCell (S := fun k => k = s) (Keep.refl w1 _) (.inr rfl) _
  rw [← hw2]
  have D0 : w2.cell? ⟨s, 0, none⟩ = some (.slice A1 n1 c1) := by rw [cell_of_row w2 s 0 _ _ _ M2]; rfl
  have D1 : w2.cell? ⟨s, 1, none⟩ = some (.int .i64 100000) := by rw [cell_of_row w2 s 1 _ _ _ M2]; rfl
  have hn1 : (n1 : Int) ≤ 100000 := by have := HN1.out; have := HL.out; omega
  have hn2 : IntKind.i64.wrap ((n1 : Int) - 100000) = (n1 : Int) - 100000 := by rw [IntKind.wrap_i64]; omega
  have hn3 : ¬ ((0 : Int) < (n1 : Int) - 100000) := by omega
  have HM2 := Lib.hid M2
  have HK2 := Lib.hid K2
  clear hw2 M2 K2
  go_quiet (fail)
  go_wp2
  go_end0
  have k1 : ∀ k, (Value.slice A1 n1 c1).ownBlock = some k → k ≠ s := fun k e => by
    rcases HO.out with h | ⟨q, h, hq⟩
    · exact HVS.out k (by rw [← h]; exact e)
    · rw [h] at e; injection e with e; subst e; omega
  refine ⟨⟨_, rfl⟩, _, ⟨HM2.out, ?_, HW.out, HL.out⟩, (HK.out.mono (fun _ _ e => .inr e)).trans HK2.out (fun k _ e => .inl e) |>.drewN _, HO.out⟩
  exact (HV.out.keep HK2.out (fun k e => k1 k e)).keep ((Keep.refl w2 (fun _ => False)).drewN _) (fun _ _ => id)
end Go.Proofs.Ytjnekjjaofabeaa
