/-
  slices.Replace where no more ranges come than go (f50), at the end of a row; Insert and Replace of one range, all roads.
-/
import Derived.Test.YtjnekjjaofabeaaNe
namespace Go.Proofs.Ytjnekjjaofabeaa
open Go.RowKit Go.Rh Rng

set_option maxRecDepth 100000 in
theorem replace_tail {w : World} {g c i g2 mc : Nat} {l ms : List Sp} (h : RowAt w g c l) (h2 : RowAt w g2 mc ms) (hne : g2 ≠ g) (h0 : 0 < ms.length) (hij : i + ms.length ≤ l.length) (hb : l.length ≤ 100000) :
    Calls Try.prog 50 #[.slice (some ⟨g, 0, none⟩) l.length c, .int .i64 (i : Int), .int .i64 (l.length : Int), .slice (some ⟨g2, 0, none⟩) ms.length mc] w fun e w' =>
      e = .returned (.slice (some ⟨g, 0, none⟩) (i + ms.length) c) ∧ RowAt w' g c (l.take i ++ ms) ∧ Keep w w' (fun k => k = g) := by
  obtain ⟨n, hn⟩ : ∃ n, n = l.length := ⟨_, rfl⟩
  obtain ⟨m, hm⟩ : ∃ m, m = ms.length := ⟨_, rfl⟩
  obtain ⟨i0, hi0, hz0, hzs, hzb⟩ := info_parts info93
  obtain ⟨cur, k1, k2, k3, k4, k5⟩ := h
  rw [← hn] at k3 k5 hij hb ⊢
  rw [← hm] at h0 hij ⊢
  have htl : (l.take i).length = i := by rw [List.length_take, ← hn]; omega
  have hlen : (l.take i ++ ms).length = i + m := by rw [List.length_append, htl, hm]
  have e1 : cur.toList.take (i * 2) = encS (l.take i) := by rw [← encS_take, ← k5, List.take_take, Nat.min_eq_left (by omega)]
  obtain ⟨c1, hc1⟩ : ∃ c1, c1 = cur.toList.take (i * 2) ++ encS ms ++ cur.toList.drop (i * 2 + (encS ms).length) := ⟨_, rfl⟩
  have hr := fun ty => run_append_room (P := Try.prog) w 94 ty 93 i0 Try.underlying94 hi0 g i c cur k1 ⟨g2, 0, none⟩ m mc (encS ms) (by rw [hzs, encS_length, hm]) h2.src (encS_one ms) (by omega) (by rw [hzs, encS_length, k2, ← hm]; omega)
  rw [hzs, ← hc1] at hr
  have hc1l : c1.length = c * 2 := by
    rw [hc1]
    simp only [List.length_append, List.length_take, List.length_drop, Array.length_toList, encS_length, k2, ← hm]
    omega
  have hE : c1.take ((i + m) * 2) = encS (l.take i ++ ms) := by
    rw [hc1, e1, ← encS_append, ← hlen, ← encS_length]
    exact List.take_left
  obtain ⟨W1, hW1⟩ : ∃ W1, W1 = w.setRow g c1.toArray := ⟨_, rfl⟩
  rw [← hW1] at hr
  have P1 := Lib.hid (show W1.heap[g]? = some (.cells c1.toArray 93 (0, 0)) by rw [hW1]; exact setRow_heap w g _ _ 93 _ k1)
  have K1 := Lib.hid (show Keep w W1 (fun k => k = g) by rw [hW1]; exact Keep.setRow (S := fun k => k = g) (Keep.refl w _) (.inr rfl) _)
  have H1l := Lib.hid hc1l
  have HE := Lib.hid hE
  have h4 := Lib.hid k4
  have HN := Lib.hid hn
  have HM := Lib.hid hm
  have hc : n ≤ c := k3
  have hz1 : ¬ ((i : Int) = (n : Int)) := by omega
  have q1 : i ≤ n := by omega
  have q3 : i ≤ c := by omega
  have q7 : ¬ (c = i) := by omega
  by_cases hmj : i + m = n
  · have q8 : ¬ ((i : Int) + (m : Int) < (n : Int)) := by omega
    clear hn hm h2 k1 k2 k4 k5 k3 hW1 hE hc1 hc1l e1 hmj hzs hzb hz0 hi0
    go_enter Try.func50, Try.ntmps50
    go_wp2_with (at_builtin; refine Lib.wpList_append_run _ rfl _ _ _ _ rfl _ _ rfl rfl _ _ (hr _) ?_)
    go_ret
    exact ⟨rfl, ⟨_, P1.out, by simpa using H1l.out, by rw [hlen]; omega, h4.out, by rw [hlen]; simpa using HE.out⟩, K1.out⟩
  · have q8 : (i : Int) + (m : Int) < (n : Int) := by omega
    have q9 : ¬ (c = i + m) := by omega
    have q10 : i + m ≤ n := by omega
    have q16 : ((i : Int) + (m : Int)).toNat = i + m := by omega
    have q17 : (0 : Int) ≤ (i : Int) + (m : Int) := by omega
    have q18 : (i : Int) + (m : Int) ≤ (n : Int) := by omega
    obtain ⟨W4, hW4⟩ : ∃ W4, W4 = W1.setRow g (spl c1 ((i + m) * 2) (encS (List.replicate (n - (i + m)) ((0, 0) : Sp)))).toArray := ⟨_, rfl⟩
    have hcl := fun ty cc => run_clear_row (w := W1) ty (g := g) (f := (i + m) * 2) (k := n - (i + m)) (c := cc) (by omega) P1.out (by have := H1l.out; omega)
    rw [← hW4] at hcl
    have P4 := Lib.hid (show W4.heap[g]? = some (.cells (spl c1 ((i + m) * 2) (encS (List.replicate (n - (i + m)) ((0, 0) : Sp)))).toArray 93 (0, 0)) by rw [hW4]; exact setRow_heap W1 g _ _ 93 _ P1.out)
    have K4 := Lib.hid (show Keep W1 W4 (fun k => k = g) by rw [hW4]; exact Keep.setRow (S := fun k => k = g) (Keep.refl W1 _) (.inr rfl) _)
    clear hW4 hn hm h2 k1 k2 k4 k5 k3 hW1 hE hc1 hc1l e1 hzs hzb hz0 hi0
    go_enter Try.func50, Try.ntmps50
    go_wp2_with (at_builtin; refine Lib.wpList_append_run _ rfl _ _ _ _ rfl _ _ rfl rfl _ _ (hr _) ?_)
    go_ret
    have hfit : (i + m) * 2 + (encS (List.replicate (n - (i + m)) ((0, 0) : Sp))).length ≤ c1.length := by rw [encS_length, List.length_replicate, H1l.out]; omega
    refine ⟨rfl, ⟨_, P4.out, by rw [List.size_toArray, spl_length hfit]; exact H1l.out, by rw [hlen]; omega, h4.out, ?_⟩, K1.out.trans K4.out (fun _ _ => id)⟩
    rw [hlen]
    have e := spl_front (cur := c1) (vs := encS (List.replicate (n - (i + m)) ((0, 0) : Sp))) (f := (i + m) * 2) (by have := H1l.out; omega)
    simp only [List.toList_toArray]
    rw [e]
    exact HE.out

theorem own_some (g n c : Nat) (A : Addr) : (Value.slice (some A) n c).ownBlock = some A.block := rfl
theorem insert_any {w : World} {v : Value} {i g2 : Nat} {l : List Sp} {t : Sp} (h : SetV w v l) (h2 : One w g2 t) (hne : v.ownBlock ≠ some g2) (hi : i ≤ l.length) (hb : l.length ≤ 100000) :
    Calls Try.prog 52 #[v, .int .i64 (i : Int), .slice (some ⟨g2, 0, none⟩) 1 1] w fun e w' =>
      ∃ v', e = .returned v' ∧ SetV w' v' (l.take i ++ t :: l.drop i) ∧ Keep w w' (fun k => v.ownBlock = some k) ∧ (v'.ownBlock = v.ownBlock ∨ ∃ k, v'.ownBlock = some k ∧ w.heap.size ≤ k) := by
  by_cases hl : i = l.length
  · subst hl
    refine (insert_end h h2 hb).mono ?_
    rintro e w' ⟨v', rfl, h3, h4⟩
    exact ⟨v', rfl, by rw [List.take_length, List.drop_length]; exact h3, h4⟩
  · rcases h with ⟨rfl, rfl⟩ | ⟨g, c, rfl, h⟩
    · simp at hi hl; omega
    · have hg2 : g2 ≠ g := fun e => hne (by rw [e]; rfl)
      have hlen : (l.take i ++ t :: l.drop i).length = l.length + 1 := by rw [List.length_append, List.length_cons, List.length_take, List.length_drop]; omega
      by_cases hc : l.length + 1 ≤ c
      · refine (insert_shift h h2 hg2 (by omega) hc hb).mono ?_
        rintro e w' ⟨rfl, h3, h4⟩
        exact ⟨_, rfl, .inr ⟨g, c, by rw [hlen], h3⟩, h4.mono (fun k _ e => by subst e; rfl), .inl rfl⟩
      · refine (insert_grow h h2 (by omega) (by omega) hb).mono ?_
        rintro e w' ⟨c', rfl, h3, h4⟩
        exact ⟨_, rfl, .inr ⟨w.heap.size, c', by rw [hlen], h3⟩, Keep.of_below h4 (Nat.le_refl _) _, .inr ⟨_, rfl, Nat.le_refl _⟩⟩

set_option maxRecDepth 100000 in
theorem replace_ins {w : World} {v : Value} {i g2 : Nat} {l : List Sp} {t : Sp} (h : SetV w v l) (h2 : One w g2 t) (hne : v.ownBlock ≠ some g2) (hi : i ≤ l.length) (hb : l.length ≤ 100000) :
    Calls Try.prog 50 #[v, .int .i64 (i : Int), .int .i64 (i : Int), .slice (some ⟨g2, 0, none⟩) 1 1] w fun e w' =>
      ∃ v', e = .returned v' ∧ SetV w' v' (l.take i ++ t :: l.drop i) ∧ Keep w w' (fun k => v.ownBlock = some k) ∧ (v'.ownBlock = v.ownBlock ∨ ∃ k, v'.ownBlock = some k ∧ w.heap.size ≤ k) := by
  have hin := insert_any h h2 hne hi hb
  obtain ⟨A, n, c, hn, rfl⟩ := h.formN
  have hic : i ≤ c := by
    rcases h with ⟨e, rfl⟩ | ⟨g, c', e, hr⟩
    · simp at hi; omega
    · injection e with _ _ e; subst e; obtain ⟨cur, _, _, h3, _⟩ := hr; omega
  clear h h2 hne hi hb hn
  have key := Classical.em (c = i)
  rcases key with e | hci
  · subst e
    go_enter Try.func50, Try.ntmps50
    go_wp2_with (go_at_call 52; refine hin.mono ?_; rintro e w' ⟨v', rfl, hv, hk, ho⟩; have HV := Lib.hid hv; have HK := Lib.hid hk; have HO := Lib.hid ho; clear hv hk ho)
    go_ret
    exact ⟨_, rfl, HV.out, HK.out, HO.out⟩
  · go_enter Try.func50, Try.ntmps50
    go_wp2_with (go_at_call 52; refine hin.mono ?_; rintro e w' ⟨v', rfl, hv, hk, ho⟩; have HV := Lib.hid hv; have HK := Lib.hid hk; have HO := Lib.hid ho; clear hv hk ho)
    go_ret
    exact ⟨_, rfl, HV.out, HK.out, HO.out⟩

/-- Ranges in the place of others, where no more come than go, or one comes. -/
theorem replaceR {w : World} {v : Value} {i j g2 mc : Nat} {l ms : List Sp} (h : SetV w v l) (h2 : RowAt w g2 mc ms) (hne : v.ownBlock ≠ some g2) (hj : j ≤ l.length) (hb : l.length ≤ 100000) (h0 : 0 < ms.length)
    (hfit : i + ms.length ≤ j ∨ (i = j ∧ mc = 1 ∧ ∃ t, ms = [t] ∧ One w g2 t)) :
    Calls Try.prog 50 #[v, .int .i64 (i : Int), .int .i64 (j : Int), .slice (some ⟨g2, 0, none⟩) ms.length mc] w fun e w' =>
      ∃ v', e = .returned v' ∧ SetV w' v' (l.take i ++ (ms ++ l.drop j)) ∧ Keep w w' (fun k => v.ownBlock = some k) ∧ (v'.ownBlock = v.ownBlock ∨ ∃ k, v'.ownBlock = some k ∧ w.heap.size ≤ k) := by
  rcases hfit with hfit | ⟨rfl, rfl, t, rfl, ht⟩
  · rcases h with ⟨rfl, rfl⟩ | ⟨g, c, rfl, h⟩
    · simp at hj; omega
    · have hg2 : g2 ≠ g := fun e => hne (by rw [e]; rfl)
      by_cases hl : j = l.length
      · subst hl
        refine (replace_tail h h2 hg2 h0 hfit hb).mono ?_
        rintro e w' ⟨rfl, h3, h4⟩
        have hlen : (l.take i ++ ms).length = i + ms.length := by rw [List.length_append, List.length_take]; omega
        exact ⟨_, rfl, by rw [List.drop_length, List.append_nil]; exact .inr ⟨g, c, by rw [hlen], h3⟩, h4.mono (fun k _ e => by subst e; rfl), .inl rfl⟩
      · refine (replace_mid h h2 hg2 h0 hfit (by omega) hb).mono ?_
        rintro e w' ⟨rfl, h3, h4⟩
        have hlen : (l.take i ++ (ms ++ l.drop j)).length = i + ms.length + (l.length - j) := by rw [List.length_append, List.length_append, List.length_take, List.length_drop]; omega
        exact ⟨_, rfl, .inr ⟨g, c, by rw [hlen], h3⟩, h4.mono (fun k _ e => by subst e; rfl), .inl rfl⟩
  · exact replace_ins h ht hne hj hb
end Go.Proofs.Ytjnekjjaofabeaa
