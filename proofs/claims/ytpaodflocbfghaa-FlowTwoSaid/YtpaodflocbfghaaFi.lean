/-
  The document's doors: Leave, a stream that there is; as one contract.
-/
import Derived.Test.YtpaodflocbfghaaFh
namespace Go.Proofs.Ytpaodflocbfghaa
open Go.RowKit Go.Rh Go.Maps

set_option maxRecDepth 100000 in
theorem rleave_yes {w : World} {B m : Nat} {s : Bool} {S : DS} {v : Value} {n : Int} (h : RDoor w B m s S v) (hn : 0 ≤ n) (hn2 : n ≤ 9223372036854775807) (hk2 : n % 4 ≤ 1) (hb : decide (n % 4 = S.kind) = true ∧ S.own > n / 4 ∨ decide (n % 4 = S.kind) = false ∧ S.theirs > n / 4) (hg : n ∉ S.gone) (ok : S.Ok) (hB : B ≤ w.heap.size) :
    Calls Try.prog 18 #[.pointer (some ⟨m, 0, none⟩), .int .i64 n] w fun e w' => ∃ v', e = .returned (.int .i64 0) ∧ RDoor w' B m s (leaveS S n) v' ∧ Keep w w' (fun k => k = m ∨ v.ownBlock = some k) ∧ (v'.ownBlock = v.ownBlock ∨ ∃ k, v'.ownBlock = some k ∧ w.heap.size ≤ k) := by
  obtain ⟨i0, hi0, hz0, hz1, hz2⟩ := info_parts info3
  have c2 : w.cell? ⟨m, 2, none⟩ = some (.int .i64 S.own) := h.cell 2
  have c4 : w.cell? ⟨m, 4, none⟩ = some (.int .i64 S.theirs) := h.cell 4
  have c6 : w.cell? ⟨m, 6, none⟩ = some v := h.cell 6
  have hc : decide (n < 0) = false := by simp; omega
  have hc2 : decide (1 < n % 4) = false := by simp; omega
  have hl := ok.g1
  have hl0 := ok.l0
  have hl1 := ok.l1
  obtain ⟨A, q, c, e1, hq, hqc, hcells⟩ := h.own.bs
  subst e1
  have H := Lib.hid h
  have HG := Lib.hid hg
  have HQ := Lib.hid hq
  have HC := Lib.hid hcells
  have hql : (q : Int) ≤ 1099511627776 := by omega
  clear h hg hq hcells hqc ok
  have HBS := Lib.hid hB
  clear hB
  rcases hb with ⟨hc4, ho⟩ | ⟨hc4, ho⟩
  · have hc3 : decide (S.own ≤ n / 4) = false := by simp; omega
    go_enter Try.func18, Try.ntmps18
    go_wp2_with fail
    refine (own_any H.out hn rfl hk2).mono ?_
    rintro e w' ⟨rfl, rfl⟩
    go_wp2_with fail
    refine (own_any H.out hn rfl hk2).mono ?_
    rintro e w' ⟨rfl, rfl⟩
    go_wp2
    go_loop [5] (fun i => ∃ k : Nat, k ≤ q ∧ i = .int .i64 k ∧ Hid (∀ j, j < k → at_ S.gone j ≠ n)) (fun i => q - (intOf i).toNat)
    case atStart => exact ⟨0, Nat.zero_le _, rfl, fun j hj => absurd hj (by omega)⟩
    case round =>
      obtain ⟨k, hkq, rfl, hne⟩ := hrel
      by_cases hlt : k < q
      · obtain ⟨g, off, rfl, _, hx⟩ := HC.out (by omega)
        have hx := hx k hlt
        have hlt' : (k : Int) < q := by omega
        have he : at_ S.gone k ≠ n := fun e => HG.out (e ▸ mem_at (by have := HQ.out; omega))
        have he' : (at_ S.gone k == n) = false := by simpa using he
        have HE := Lib.hid he
        clear he
        go_wp2
        go_round
        case rel => exact ⟨k + 1, hlt, by go_num, fun j hj => by rcases Nat.lt_succ_iff_lt_or_eq.1 hj with h | h; exact hne.out j h; (subst h; exact HE.out)⟩
        case measure => simp [intOf]; omega
      · obtain rfl : k = q := by omega
        have hge : decide ((k : Int) < k) = false := by simp
        have HO : Hid (Own (w.alloc (.cells #[.int .i64 n] 3)) B (.slice A k c) S.gone) := H.out.own.keep (S := fun _ => False) ((Keep.refl w _).alloc _) (fun _ _ => id)
        go_wp2_with (at_builtin; go_loud (refine wpList_append_ints rfl _ _ 26 rfl i0 Try.underlying26 hi0 hz0 hz1 hz2 (by rfl) (by rfl) HO.out (bs_one w _) (by simp; omega) (by have := HBS.out; simp; omega) ?_; intro v1 w1 own1 keep1 at1; obtain ⟨A1, n1, k1, hn1, rfl⟩ := own1.form; have HN1 := Lib.hid hn1; have HW1 := Lib.hid own1; have HK1 := Lib.hid keep1; have HA1 := Lib.hid at1; have hr1 : w1.heap[m]? = some (.cells (rcells s S (.slice A k c)) 36 (0, 0)) := (keep1.block m (by have := H.out.lt; simp; omega) (fun e => H.out.ne e)).trans ((heap_old w _ m H.out.lt).trans H.out.row); have c61 : w1.cell? ⟨m, 6, none⟩ = some (.slice A k c) := (by rw [cell_of_row w1 m 6 _ 36 _ hr1]; rfl); have f61 : w1.frozen? ⟨m, 6, none⟩ = false := frozen_of_row _ _ _ _ _ hr1; have HR1 := Lib.hid hr1; clear own1 keep1 at1 hn1 hr1))
        have HD2 : Hid (RDoor (w1.setCell ⟨m, 6, none⟩ (.slice A1 n1 k1)) B m s { S with gone := S.gone ++ [n] } (.slice A1 n1 k1)) := by
          have hne1 : (Value.slice A1 n1 k1).ownBlock ≠ some m := by
            rcases HA1.out with e | e
            · rw [e]; exact H.out.ne
            · rw [e]; intro e2; have := H.out.lt; simp at e2; omega
          exact ⟨H.out.kind, by rw [heap_setCell_same w1 m 6 _ 36 _ HR1.out]; rfl, HW1.out.keep (keep_set w1 m 6 _) (fun j hj e => hne1 (by rw [hj, e])), hne1, H.out.base⟩
        have HK2 : Hid (Keep w (w1.setCell ⟨m, 6, none⟩ (.slice A1 n1 k1)) (fun j => j = m ∨ (Value.slice A k c).ownBlock = some j)) :=
          (((Keep.refl w (fun j => j = m ∨ (Value.slice A k c).ownBlock = some j)).alloc _).trans HK1.out (fun _ _ e => .inr e)).trans (keep_set w1 m 6 _) (fun _ _ e => .inl e)
        have HA2 : Hid ((Value.slice A1 n1 k1).ownBlock = (Value.slice A k c).ownBlock ∨ ∃ j, (Value.slice A1 n1 k1).ownBlock = some j ∧ w.heap.size ≤ j) := by
          rcases HA1.out with e | e
          · exact .inl e
          · exact .inr ⟨_, e, by simp⟩
        obtain ⟨w2, hw2⟩ : ∃ w2, w2 = w1.setCell ⟨m, 6, none⟩ (.slice A1 n1 k1) := ⟨_, rfl⟩
        rw [← hw2] at HD2 HK2 ⊢
        clear hw2 c61 f61 HR1 HA1 HK1 HW1 HN1 HO c6 c2 c4
        have c7 : w2.cell? ⟨m, 7, none⟩ = some (.int .i64 S.left) := HD2.out.cell 7
        have f7 : w2.frozen? ⟨m, 7, none⟩ = false := HD2.out.free 7
        have hc5 : decide (n % 4 = ({ S with gone := S.gone ++ [n] } : DS).kind) = true := hc4
        go_wp2_with fail
        refine (own_any HD2.out hn rfl hk2).mono ?_
        rintro e w' ⟨rfl, rfl⟩
        go_wp2
        go_ret
        exact ⟨_, rfl, by have e : leaveS S n = { S with gone := S.gone ++ [n] } := (by unfold leaveS; rw [if_pos (by simpa using hc4)]); rw [e]; exact HD2.out, HK2.out, HA2.out⟩
  · have hc3 : decide (S.theirs ≤ n / 4) = false := by simp; omega
    go_enter Try.func18, Try.ntmps18
    go_wp2_with fail
    refine (own_any H.out hn rfl hk2).mono ?_
    rintro e w' ⟨rfl, rfl⟩
    go_wp2_with fail
    refine (own_any H.out hn rfl hk2).mono ?_
    rintro e w' ⟨rfl, rfl⟩
    go_wp2
    go_loop [5] (fun i => ∃ k : Nat, k ≤ q ∧ i = .int .i64 k ∧ Hid (∀ j, j < k → at_ S.gone j ≠ n)) (fun i => q - (intOf i).toNat)
    case atStart => exact ⟨0, Nat.zero_le _, rfl, fun j hj => absurd hj (by omega)⟩
    case round =>
      obtain ⟨k, hkq, rfl, hne⟩ := hrel
      by_cases hlt : k < q
      · obtain ⟨g, off, rfl, _, hx⟩ := HC.out (by omega)
        have hx := hx k hlt
        have hlt' : (k : Int) < q := by omega
        have he : at_ S.gone k ≠ n := fun e => HG.out (e ▸ mem_at (by have := HQ.out; omega))
        have he' : (at_ S.gone k == n) = false := by simpa using he
        have HE := Lib.hid he
        clear he
        go_wp2
        go_round
        case rel => exact ⟨k + 1, hlt, by go_num, fun j hj => by rcases Nat.lt_succ_iff_lt_or_eq.1 hj with h | h; exact hne.out j h; (subst h; exact HE.out)⟩
        case measure => simp [intOf]; omega
      · obtain rfl : k = q := by omega
        have hge : decide ((k : Int) < k) = false := by simp
        have HO : Hid (Own (w.alloc (.cells #[.int .i64 n] 3)) B (.slice A k c) S.gone) := H.out.own.keep (S := fun _ => False) ((Keep.refl w _).alloc _) (fun _ _ => id)
        go_wp2_with (at_builtin; go_loud (refine wpList_append_ints rfl _ _ 26 rfl i0 Try.underlying26 hi0 hz0 hz1 hz2 (by rfl) (by rfl) HO.out (bs_one w _) (by simp; omega) (by have := HBS.out; simp; omega) ?_; intro v1 w1 own1 keep1 at1; obtain ⟨A1, n1, k1, hn1, rfl⟩ := own1.form; have HN1 := Lib.hid hn1; have HW1 := Lib.hid own1; have HK1 := Lib.hid keep1; have HA1 := Lib.hid at1; have hr1 : w1.heap[m]? = some (.cells (rcells s S (.slice A k c)) 36 (0, 0)) := (keep1.block m (by have := H.out.lt; simp; omega) (fun e => H.out.ne e)).trans ((heap_old w _ m H.out.lt).trans H.out.row); have c61 : w1.cell? ⟨m, 6, none⟩ = some (.slice A k c) := (by rw [cell_of_row w1 m 6 _ 36 _ hr1]; rfl); have f61 : w1.frozen? ⟨m, 6, none⟩ = false := frozen_of_row _ _ _ _ _ hr1; have HR1 := Lib.hid hr1; clear own1 keep1 at1 hn1 hr1))
        have HD2 : Hid (RDoor (w1.setCell ⟨m, 6, none⟩ (.slice A1 n1 k1)) B m s { S with gone := S.gone ++ [n] } (.slice A1 n1 k1)) := by
          have hne1 : (Value.slice A1 n1 k1).ownBlock ≠ some m := by
            rcases HA1.out with e | e
            · rw [e]; exact H.out.ne
            · rw [e]; intro e2; have := H.out.lt; simp at e2; omega
          exact ⟨H.out.kind, by rw [heap_setCell_same w1 m 6 _ 36 _ HR1.out]; rfl, HW1.out.keep (keep_set w1 m 6 _) (fun j hj e => hne1 (by rw [hj, e])), hne1, H.out.base⟩
        have HK2 : Hid (Keep w (w1.setCell ⟨m, 6, none⟩ (.slice A1 n1 k1)) (fun j => j = m ∨ (Value.slice A k c).ownBlock = some j)) :=
          (((Keep.refl w (fun j => j = m ∨ (Value.slice A k c).ownBlock = some j)).alloc _).trans HK1.out (fun _ _ e => .inr e)).trans (keep_set w1 m 6 _) (fun _ _ e => .inl e)
        have HA2 : Hid ((Value.slice A1 n1 k1).ownBlock = (Value.slice A k c).ownBlock ∨ ∃ j, (Value.slice A1 n1 k1).ownBlock = some j ∧ w.heap.size ≤ j) := by
          rcases HA1.out with e | e
          · exact .inl e
          · exact .inr ⟨_, e, by simp⟩
        obtain ⟨w2, hw2⟩ : ∃ w2, w2 = w1.setCell ⟨m, 6, none⟩ (.slice A1 n1 k1) := ⟨_, rfl⟩
        rw [← hw2] at HD2 HK2 ⊢
        clear hw2 c61 f61 HR1 HA1 HK1 HW1 HN1 HO c6 c2 c4
        have c7 : w2.cell? ⟨m, 7, none⟩ = some (.int .i64 S.left) := HD2.out.cell 7
        have f7 : w2.frozen? ⟨m, 7, none⟩ = false := HD2.out.free 7
        have hc5 : decide (n % 4 = ({ S with gone := S.gone ++ [n] } : DS).kind) = false := hc4
        go_wp2_with fail
        refine (own_any HD2.out hn rfl hk2).mono ?_
        rintro e w' ⟨rfl, rfl⟩
        go_wp2
        go_ret
        have e : leaveS S n = { S with gone := S.gone ++ [n], left := S.left + 1 } := by unfold leaveS; rw [if_neg (by simpa using hc4)]
        rw [e]
        obtain ⟨h1, h2⟩ := HD2.out.put (w' := w2.setCell ⟨m, 7, none⟩ (.int .i64 (S.left + 1))) (S' := { S with gone := S.gone ++ [n], left := S.left + 1 }) rfl rfl rfl ⟨rfl, rfl, rfl, rfl⟩
        exact ⟨_, rfl, h1, HK2.out.trans h2 (fun _ _ e => .inl e), HA2.out⟩

theorem rleave_any {w : World} {B m : Nat} {s : Bool} {S : DS} {v : Value} (n : Int) (h : RDoor w B m s S v) (ok : S.Ok) (hn2 : n ≤ 9223372036854775807) (hB : B ≤ w.heap.size) :
    Calls Try.prog 18 #[.pointer (some ⟨m, 0, none⟩), .int .i64 n] w fun e w' => ∃ v', e = .returned (.int .i64 (leaveE S n)) ∧ RDoor w' B m s (leaveT S n) v' ∧ Keep w w' (fun k => k = m ∨ v.ownBlock = some k) ∧ (v'.ownBlock = v.ownBlock ∨ ∃ k, v'.ownBlock = some k ∧ w.heap.size ≤ k) := by
  by_cases hb : leaveBad S n
  · have same : ∀ {e : Ending} {w' : World}, (e = .returned (.int .i64 8) ∧ w' = w) → ∃ v', e = .returned (.int .i64 (leaveE S n)) ∧ RDoor w' B m s (leaveT S n) v' ∧ Keep w w' (fun k => k = m ∨ v.ownBlock = some k) ∧ (v'.ownBlock = v.ownBlock ∨ ∃ k, v'.ownBlock = some k ∧ w.heap.size ≤ k) := by
      rintro e w' ⟨rfl, rfl⟩
      unfold leaveE leaveT
      rw [if_pos hb, if_pos hb]
      exact ⟨v, rfl, h, Keep.refl _ _, .inl rfl⟩
    by_cases h1 : n < 0
    · exact (rleave_neg h1).mono fun _ _ hh => same hh
    by_cases h2 : 1 < n % 4
    · exact (rleave_kind (by omega) hn2 h2).mono fun _ _ hh => same hh
    by_cases h3 : n % 4 = S.kind
    · by_cases h4 : S.own ≤ n / 4
      · exact (rleave_own h (by omega) hn2 h3 ok.k1 h4).mono fun _ _ hh => same hh
      · exact (rleave_gone h (by omega) hn2 (by omega) (.inl ⟨by simpa using h3, by omega⟩) (by unfold leaveBad at hb; rcases hb with e | e | e | e | e <;> first | exact e | omega) ok.g1).mono fun _ _ hh => same hh
    · by_cases h4 : S.theirs ≤ n / 4
      · exact (rleave_theirs h (by omega) hn2 h3 (by omega) h4).mono fun _ _ hh => same hh
      · exact (rleave_gone h (by omega) hn2 (by omega) (.inr ⟨by simpa using h3, by omega⟩) (by unfold leaveBad at hb; rcases hb with e | e | e | e | e <;> first | exact e | omega) ok.g1).mono fun _ _ hh => same hh
  · have hb' := hb
    unfold leaveBad at hb'
    refine (rleave_yes h (by omega) hn2 (by omega) ?_ (fun hg => hb' (.inr (.inr (.inr (.inr hg))))) ok hB).mono ?_
    · by_cases h3 : n % 4 = S.kind
      · exact .inl ⟨by simpa using h3, by omega⟩
      · exact .inr ⟨by simpa using h3, by omega⟩
    · rintro e w' ⟨v', rfl, hd, hk⟩
      unfold leaveE leaveT
      rw [if_neg hb, if_neg hb]
      exact ⟨v', rfl, hd, hk⟩
end Go.Proofs.Ytpaodflocbfghaa
