/-
  slices.Replace by two ranges at most, all roads; put (f45) of what Cut leaves.
-/
import Derived.Test.YtjnekjjaofabeaaNl
namespace Go.Proofs.Ytjnekjjaofabeaa
open Go.RowKit Go.Rh Rng

/-- What Cut hands on: none, or a row. -/
def Left2 (w : World) (mv : Value) (ms : List Sp) : Prop := (mv = .slice none 0 0 ∧ ms = []) ∨ (0 < ms.length ∧ ∃ g c, mv = .slice (some ⟨g, 0, none⟩) ms.length c ∧ RowAt w g c ms)
theorem replaceG {w : World} {v mv : Value} {i j : Nat} {l ms : List Sp} (h : SetV w v l) (h2 : Left2 w mv ms) (hne : ∀ k, v.ownBlock = some k → mv.ownBlock ≠ some k) (hij : i ≤ j) (hj : j ≤ l.length) (hb : l.length ≤ 100000) (hm : ms.length ≤ 2) (h0 : i = j → ms = []) :
    Calls Try.prog 50 #[v, .int .i64 (i : Int), .int .i64 (j : Int), mv] w fun e w' =>
      ∃ v', e = .returned v' ∧ SetV w' v' (l.take i ++ (ms ++ l.drop j)) ∧ Keep w w' (fun k => v.ownBlock = some k) ∧ (v'.ownBlock = v.ownBlock ∨ ∃ k, v'.ownBlock = some k ∧ w.heap.size ≤ k) := by
  by_cases he : i = j
  · subst he
    have hms := h0 rfl
    subst hms
    obtain ⟨rfl, _⟩ : mv = .slice none 0 0 ∧ True := by
      rcases h2 with ⟨h, _⟩ | ⟨h, _⟩
      · exact ⟨h, trivial⟩
      · simp at h
    obtain ⟨A, n, c, hn, rfl⟩ := h.formN
    have hc : n ≤ c ∧ c ≤ maxLen := by
      rcases h with ⟨e, _⟩ | ⟨g, c', e, cur, _, _, h3, h4, _⟩
      · injection e with _ e1 e2; subst e1 e2; exact ⟨Nat.le_refl _, by decide⟩
      · injection e with _ e1 e2; subst e1 e2; exact ⟨h3, h4⟩
    refine (replace_same (A := A) (by omega) hc.1 hc.2).mono ?_
    rintro e w' ⟨rfl, hk⟩
    refine ⟨_, rfl, ?_, hk.mono (fun _ _ e => e.elim), .inl rfl⟩
    rw [List.nil_append, List.take_append_drop]
    exact h.keep hk (fun _ _ => id)
  · rcases h with ⟨rfl, rfl⟩ | ⟨g, c, rfl, h⟩
    · simp at hj; omega
    have kp : ∀ {w' : World}, Keep w w' (fun k => k = g) → Keep w w' (fun k => (Value.slice (some ⟨g, 0, none⟩) l.length c).ownBlock = some k) := fun hk => hk.mono (fun k _ e => by subst e; rfl)
    rcases h2 with ⟨rfl, rfl⟩ | ⟨hm0, g2, mc, rfl, h2⟩
    · by_cases hl : j = l.length
      · subst hl
        refine (replace_tail0 h (by omega) hb).mono ?_
        rintro e w' ⟨rfl, h3, h4⟩
        have hlen : (l.take i).length = i := by rw [List.length_take]; omega
        exact ⟨_, rfl, by rw [List.drop_length, List.append_nil, List.append_nil]; exact .inr ⟨g, c, by rw [hlen], h3⟩, kp h4, .inl rfl⟩
      · refine (replace_mid0 h (by omega) (by omega) hb).mono ?_
        rintro e w' ⟨rfl, h3, h4⟩
        have hlen : (l.take i ++ ([] ++ l.drop j)).length = i + (l.length - j) := by rw [List.nil_append, List.length_append, List.length_take, List.length_drop]; omega
        exact ⟨_, rfl, .inr ⟨g, c, by rw [hlen], by rw [List.nil_append]; exact h3⟩, kp h4, .inl rfl⟩
    · have hg2 : g2 ≠ g := fun e => hne g rfl (by rw [e]; rfl)
      have hlen : (l.take i ++ (ms ++ l.drop j)).length = i + ms.length + (l.length - j) := by rw [List.length_append, List.length_append, List.length_take, List.length_drop]; omega
      by_cases hl : j = l.length
      · subst hl
        by_cases hfit : i + ms.length ≤ l.length
        · refine (replace_tail h h2 hg2 hm0 hfit hb).mono ?_
          rintro e w' ⟨rfl, h3, h4⟩
          have hlen : (l.take i ++ ms).length = i + ms.length := by rw [List.length_append, List.length_take]; omega
          exact ⟨_, rfl, by rw [List.drop_length, List.append_nil]; exact .inr ⟨g, c, by rw [hlen], h3⟩, kp h4, .inl rfl⟩
        · refine (replace_end h h2 hm0 (by omega) (by omega) hb (by omega)).mono ?_
          rintro e w' ⟨v', rfl, h3, h4, h5⟩
          exact ⟨v', rfl, by rw [List.drop_length, List.append_nil]; exact h3, kp h4, h5⟩
      · by_cases hfit : i + ms.length ≤ j
        · refine (replace_mid h h2 hg2 hm0 hfit (by omega) hb).mono ?_
          rintro e w' ⟨rfl, h3, h4⟩
          exact ⟨_, rfl, .inr ⟨g, c, by rw [hlen], h3⟩, kp h4, .inl rfl⟩
        · by_cases hroom : i + ms.length + (l.length - j) ≤ c
          · refine (replace_room h h2 hg2 (by omega) (by omega) (by omega) hroom hb (by omega)).mono ?_
            rintro e w' ⟨rfl, h3, h4⟩
            exact ⟨_, rfl, .inr ⟨g, c, by rw [hlen], h3⟩, kp h4, .inl rfl⟩
          · refine (replace_grow h h2 (by omega) (by omega) (by omega) hb (by omega)).mono ?_
            rintro e w' ⟨c', k, rfl, hk, h3, h4⟩
            exact ⟨_, rfl, .inr ⟨k, c', by rw [hlen], h3⟩, Keep.of_below h4 (Nat.le_refl _) _, .inr ⟨k, rfl, hk⟩⟩

set_option maxRecDepth 100000 in
theorem put_of {w : World} {s : Nat} {v mv : Value} {i j : Nat} {l R : List Sp} (h : SetAt w s v l)
    (hr : Calls Try.prog 50 #[v, .int .i64 (i : Int), .int .i64 (j : Int), mv] w fun e w' => ∃ v', e = .returned v' ∧ SetV w' v' R ∧ Keep w w' (fun k => v.ownBlock = some k) ∧ (v'.ownBlock = v.ownBlock ∨ ∃ k, v'.ownBlock = some k ∧ w.heap.size ≤ k))
    (hw : WF R) (hl : R.length ≤ 100000) :
    Calls Try.prog 45 #[.pointer (some ⟨s, 0, none⟩), .int .i64 (i : Int), .int .i64 (j : Int), mv] w fun e w' =>
      (∃ u, e = .returned u) ∧ ∃ v', SetAt w' s v' R ∧ Keep w w' (fun k => k = s ∨ v.ownBlock = some k) ∧ (v'.ownBlock = v.ownBlock ∨ ∃ k, v'.ownBlock = some k ∧ w.heap.size ≤ k) := by
  have HS := Lib.hid h
  have HW := Lib.hid hw
  have HL := Lib.hid hl
  obtain ⟨A, n, c, hn, rfl⟩ := h.2.1.formN
  have c0 := h.cell0
  have hvs : ∀ k, (Value.slice A n c).ownBlock = some k → k ≠ s := fun k e => h.ne e
  have HVS := Lib.hid hvs
  have hsl := heap_lt h.row
  have f0 : w.frozen? ⟨s, 0, none⟩ = false := by simp [World.frozen?, h.row]
  clear h hw hl hn hvs
  go_enter Try.func45, Try.ntmps45
  go_wp2_with (go_at_call 50; refine hr.mono ?_; rintro e w1 ⟨v', rfl, hv, hk, ho⟩; obtain ⟨A1, n1, c1, hn1, rfl⟩ := hv.formN; have HN1 := Lib.hid hn1; have HV := Lib.hid hv; have HK := Lib.hid hk; have HO := Lib.hid ho; have M1 : w1.heap[s]? = some (.cells #[.slice A n c, .int .i64 100000] 96 (0, 0)) := (hk.block s hsl (fun e => HVS.out s e rfl)).trans HS.out.row; have HM1 := Lib.hid M1; have C1 : w1.cell? ⟨s, 0, none⟩ = some (.slice A n c) := (by rw [cell_of_row w1 s 0 _ _ _ M1]; rfl); have F1 : w1.frozen? ⟨s, 0, none⟩ = false := (by simp [World.frozen?, M1]); clear hv hk ho hn1 M1)
  obtain ⟨w2, hw2⟩ : ∃ w2, w2 = w1.setCell ⟨s, 0, none⟩ (.slice A1 n1 c1) := ⟨_, rfl⟩
  have M2 : w2.heap[s]? = some (.cells #[.slice A1 n1 c1, .int .i64 100000] 96 (0, 0)) := by rw [hw2]; exact set_block HM1.out 0 _
  have K2 : Keep w1 w2 (fun k => k = s) := by rw [hw2]; exact Keep.setCell (S := fun k => k = s) (Keep.refl w1 _) (.inr rfl) _
  rw [← hw2]
  have D0 : w2.cell? ⟨s, 0, none⟩ = some (.slice A1 n1 c1) := by rw [cell_of_row w2 s 0 _ _ _ M2]; rfl
  have D1 : w2.cell? ⟨s, 1, none⟩ = some (.int .i64 100000) := by rw [cell_of_row w2 s 1 _ _ _ M2]; rfl
  have hn1 : (n1 : Int) ≤ 100000 := by have := HN1.out; have := HL.out; omega
  have hn2 : IntKind.i64.wrap ((n1 : Int) - 100000) = (n1 : Int) - 100000 := by rw [IntKind.wrap_i64]; omega
  have hn3 : ¬ ((0 : Int) < (n1 : Int) - 100000) := by omega
  have HM2 := Lib.hid M2
  have HK2 := Lib.hid K2
  clear hw2 M2 K2 hr
  go_quiet (fail)
  go_wp2
  go_end0
  have k1 : ∀ k, (Value.slice A1 n1 c1).ownBlock = some k → k ≠ s := fun k e => by
    rcases HO.out with h | ⟨q, h, hq⟩
    · exact HVS.out k (by rw [← h]; exact e)
    · rw [h] at e; injection e with e; subst e; omega
  refine ⟨⟨_, rfl⟩, _, ⟨HM2.out, ?_, HW.out, HL.out⟩, (HK.out.mono (fun _ _ e => .inr e)).trans HK2.out (fun k _ e => .inl e) |>.drewN _, HO.out⟩
  exact (HV.out.keep HK2.out (fun k e => k1 k e)).keep ((Keep.refl w2 (fun _ => False)).drewN _) (fun _ _ => id)
end Go.Proofs.Ytjnekjjaofabeaa
