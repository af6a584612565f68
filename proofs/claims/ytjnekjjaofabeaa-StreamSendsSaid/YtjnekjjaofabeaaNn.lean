/-
  Cutting a range out of a set: Cut (f38).
-/
import Derived.Test.YtjnekjjaofabeaaNm
namespace Go.Proofs.Ytjnekjjaofabeaa
open Go.RowKit Go.Rh Rng

theorem flat_one {a b : Int} : ∀ {m : List Sp}, WF m → (∀ s ∈ m, a ≤ s.1 ∧ s.1 ≤ b) → (m.flatMap (left1 a b)).length ≤ 1
  | [], _, _ => by simp
  | s :: m, h, hm => by
    have h1 := hm s (by simp)
    rw [List.flatMap_cons, List.length_append]
    have e1 : left1 a b s = if s.2 > b then [(b + 1, s.2)] else [] := by unfold left1; rw [if_neg (by omega)]; rfl
    by_cases h2 : s.2 > b
    · have : m = [] := by
        cases m with
        | nil => rfl
        | cons t m => exfalso; have := h.2.1 t (by simp); have := hm t (by simp); omega
      subst this
      rw [e1, if_pos h2]; simp
    · have := flat_one (m := m) h.2.2 (fun t ht => hm t (by simp [ht]))
      rw [e1, if_neg h2]; simpa using this
theorem flat_two {a b : Int} {m : List Sp} (h : WF m) (hm : ∀ s ∈ m, a ≤ s.2 ∧ s.1 ≤ b) : (m.flatMap (left1 a b)).length ≤ 2 := by
  cases m with
  | nil => simp
  | cons s m =>
    have h1 := hm s (by simp)
    rw [List.flatMap_cons, List.length_append]
    have h3 := flat_one (a := a) (b := b) (m := m) h.2.2 (fun t ht => by have := h.2.1 t ht; have := hm t (by simp [ht]); omega)
    by_cases h2 : s.2 > b
    · have : m = [] := by
        cases m with
        | nil => rfl
        | cons t m => exfalso; have := h.2.1 t (by simp); have := hm t (by simp); omega
      subst this
      unfold left1
      rw [if_pos h2]
      split <;> simp
    · have : (left1 a b s).length ≤ 1 := by unfold left1; rw [if_neg h2]; split <;> simp
      omega
theorem Left2.setV {w : World} {mv : Value} {ms : List Sp} (h : Left2 w mv ms) : SetV w mv ms := by
  rcases h with h | ⟨h0, g, c, h1, h2⟩
  · exact .inl h
  · exact .inr ⟨g, c, h1, h2⟩
theorem SetV.left2 {w : World} {mv : Value} {ms : List Sp} (h : SetV w mv ms) (h0 : 0 < ms.length) : Left2 w mv ms := by
  rcases h with ⟨_, rfl⟩ | ⟨g, c, h1, h2⟩
  · simp at h0
  · exact .inr ⟨h0, g, c, h1, h2⟩
theorem Left2.keep {w w' : World} {S : Nat → Prop} {v : Value} {l : List Sp} (h : Left2 w v l) (k : Keep w w' S) (hS : ∀ g, v.ownBlock = some g → ¬ S g) : Left2 w' v l := by
  rcases h with h | ⟨h0, g, c, rfl, h⟩
  · exact .inl h
  · exact .inr ⟨h0, g, c, rfl, h.keep k (hS g rfl)⟩
theorem one_new1 (w : World) (o : Obj) (x y : Int) : One ((w.alloc o).alloc (.cells #[.int .i64 x, .int .i64 y] 93)) (w.heap.size + 1) (x, y) := by
  have := heap_alloc_new (w.alloc o) (.cells #[.int .i64 x, .int .i64 y] 93)
  rw [World.size_alloc] at this
  exact this

theorem one_new2 (w : World) (o o2 : Obj) (x y : Int) : One (((w.alloc o).alloc o2).alloc (.cells #[.int .i64 x, .int .i64 y] 93)) (w.heap.size + 1 + 1) (x, y) := by
  have := one_new1 (w.alloc o) o2 x y
  rw [World.size_alloc] at this
  exact this
theorem own_ge {B B' : Nat} {v v' : Value} (h : ∀ q, v.ownBlock = some q → B ≤ q) (h2 : v'.ownBlock = v.ownBlock ∨ ∃ k, v'.ownBlock = some k ∧ B' ≤ k) (hB : B ≤ B') : ∀ q, v'.ownBlock = some q → B ≤ q := by
  intro q hq
  rcases h2 with h2 | ⟨k, h2, h3⟩
  · exact h q (by rw [← h2]; exact hq)
  · rw [h2] at hq; injection hq with hq; omega

set_option maxHeartbeats 4000000 in
set_option maxRecDepth 100000 in
theorem cut_at {w : World} {s : Nat} {v : Value} {l : List Sp} {a b : Int} (h : SetAt w s v l) (hab : a ≤ b) (hba : -4611686018427387904 ≤ a) (hbb : b ≤ 4611686018427387904) (hl : (cutL a b l).length ≤ 100000) :
    Calls Try.prog 38 #[.pointer (some ⟨s, 0, none⟩), .int .i64 a, .int .i64 b] w fun e w' =>
      e = .returned (.int .i64 0) ∧ ∃ v', SetAt w' s v' (cutL a b l) ∧ Keep w w' (fun k => k = s ∨ v.ownBlock = some k) ∧ (v'.ownBlock = v.ownBlock ∨ ∃ k, v'.ownBlock = some k ∧ w.heap.size ≤ k) := by
  obtain ⟨i, hi⟩ : ∃ i, i = firstN a l := ⟨_, rfl⟩
  have hf := first_any a h
  rw [← hi] at hf
  have hil : i ≤ l.length := by rw [hi]; exact firstN_le a l
  obtain ⟨A, n, c, hn, rfl⟩ := h.2.1.formN
  obtain ⟨mid, hmid⟩ : ∃ mid, mid = midC b (l.drop i) := ⟨_, rfl⟩
  have he : cutL a b l = l.take i ++ (mid.flatMap (left1 a b) ++ l.drop (i + mid.length)) := by rw [hmid, hi, ← List.append_assoc]; exact cutL_eq a b l
  have hdr : l.drop i = resC a l := by rw [hi]; exact (take_takeWhile (f := fun s => decide (s.2 < a)) l).2
  have hmm : ∀ s ∈ mid, a ≤ s.2 ∧ s.1 ≤ b := fun s hs => by
    rw [hmid, hdr] at hs
    have := (cutL_parts (a := a) (b := b) h.2.2.1).2.1 s hs
    omega
  have hmw : WF mid := by
    have h1 := h.2.2.1
    rw [← preC_resC a l, wf_append] at h1
    have h2 := h1.2.1
    rw [← midC_posC b (resC a l), wf_append] at h2
    rw [hmid, hdr]; exact h2.1
  have hm2 := flat_two hmw hmm
  have hmle : i + mid.length ≤ n := by
    have : mid.length ≤ (l.drop i).length := by rw [hmid]; exact (List.takeWhile_prefix _).length_le
    rw [List.length_drop] at this; omega
  have hWF := WF.cutL (a := a) hab h.2.2.1
  have hn1 : n ≤ 100000 := by rw [hn]; exact h.2.2.2
  have hs := heap_lt h.row
  have hin : i ≤ n := by omega
  -- what ends it
  have hend : ∀ (W : World) (lv : Value), Keep w W (fun _ => False) → Left2 W lv (mid.flatMap (left1 a b)) → (∀ q, lv.ownBlock = some q → w.heap.size ≤ q) → ∀ j : Nat, j = i + mid.length →
      Calls Try.prog 45 #[.pointer (some ⟨s, 0, none⟩), .int .i64 (i : Int), .int .i64 (j : Int), lv] W fun e w' =>
        (∃ u, e = .returned u) ∧ ∃ v', SetAt w' s v' (cutL a b l) ∧ Keep w w' (fun k => k = s ∨ (Value.slice A n c).ownBlock = some k) ∧ (v'.ownBlock = (Value.slice A n c).ownBlock ∨ ∃ k, v'.ownBlock = some k ∧ w.heap.size ≤ k) := by
    intro W lv hk hlv hq j hj
    have SA := h.keep hk id (fun _ _ => id)
    have hr := replaceG (i := i) (j := j) SA.2.1 hlv (fun k e1 e2 => by have h1 := h.2.1.lt k e1; have h2 := hq k e2; omega) (by omega) (by omega) h.2.2.2 hm2 (fun e => by have : mid = [] := List.eq_nil_of_length_eq_zero (by omega); rw [this]; rfl)
    rw [hj, ← he] at hr
    rw [hj]
    refine (put_of SA hr hWF hl).mono ?_
    rintro e w' ⟨hu, v', h3, h4, h5⟩
    exact ⟨hu, v', h3, (hk.mono (fun _ _ e => e.elim)).trans h4 (fun _ _ e => e), h5.imp id (fun ⟨k, h6, h7⟩ => ⟨k, h6, Nat.le_trans hk.size h7⟩)⟩
  have hC0 : ∀ W : World, Keep w W (fun _ => False) → W.cell? ⟨s, 0, none⟩ = some (.slice A n c) := fun W hk => (World.cell?_of_block (hk.block s hs id)).trans h.cell0
  have hrow : ∀ j : Nat, j < n → ∃ g x y, A = some ⟨g, 0, none⟩ ∧ g < w.heap.size ∧ n ≤ c ∧ l[j]? = some (x, y) ∧ ∀ W : World, Keep w W (fun _ => False) → W.cell? ⟨g, j * 2, none⟩ = some (.int .i64 x) ∧ W.cell? ⟨g, j * 2 + 1, none⟩ = some (.int .i64 y) := fun j hj => by
    rcases h.2.1 with ⟨e, e2⟩ | ⟨g, c', e, hr⟩
    · rw [e2] at hn; simp at hn; omega
    · injection e with e1 e2 e3
      obtain ⟨⟨x, y⟩, ht⟩ : ∃ t, l[j]? = some t := ⟨l[j]'(by omega), List.getElem?_eq_getElem _⟩
      obtain ⟨d0, d1⟩ := hr.cells ht
      refine ⟨g, x, y, e1, hr.lt, ?_, ht, fun W hk => ⟨(World.cell?_of_block (hk.block g hr.lt id)).trans d0, (World.cell?_of_block (hk.block g hr.lt id)).trans d1⟩⟩
      obtain ⟨cur, _, _, h3, _⟩ := hr; omega
  have HEND := Lib.hid hend
  have HC0 := Lib.hid hC0
  have HROW := Lib.hid hrow
  have HMID := Lib.hid hmid
  have HMM := Lib.hid hmm
  have HMW := Lib.hid hmw
  have hab' : ¬ b < a := by omega
  have hw1 : IntKind.i64.wrap (a - 1) = a - 1 := by rw [IntKind.wrap_i64]; omega
  have hw2 : IntKind.i64.wrap (b + 1) = b + 1 := by rw [IntKind.wrap_i64]; omega
  have c0 := hC0 w (Keep.refl _ _)
  clear hend hC0 hrow hmid hmm hmw hm2 hWF hdr he hi hn hl hil h
  go_enter Try.func38, Try.ntmps38
  go_wp2_with (go_at_call 44; refine hf.mono ?_; rintro e w1 ⟨rfl, hb1⟩; have HB1 := Lib.hid hb1; clear hb1)
  clear c0 hf
  go_loopw [8, 9] (fun x y wr => ∃ j k : Nat, x = .int .i64 (j : Int) ∧ j = i + k ∧ k ≤ mid.length ∧ Left2 wr y ((mid.take k).flatMap (left1 a b)) ∧ Keep w wr (fun _ => False) ∧ (∀ q, y.ownBlock = some q → w.heap.size ≤ q)) (fun x _ _ => n - (intOf x).toNat)
  case atStart => exact ⟨i, 0, rfl, rfl, Nat.zero_le _, .inl ⟨rfl, by simp⟩, Keep.of_below HB1.out (Nat.le_refl _) _, fun q hq => by simp [Value.ownBlock] at hq⟩
  case round =>
    obtain ⟨j, k, rfl, hj, hkm, hlv, hkeep, hq⟩ := hrel
    have C0 := HC0.out wr hkeep
    have HJ := Lib.hid hj
    have HQ := Lib.hid hq
    have HLV := Lib.hid hlv
    have HKEEP := Lib.hid hkeep
    have hout : k = mid.length → Calls Try.prog 45 #[.pointer (some ⟨s, 0, none⟩), .int .i64 (i : Int), .int .i64 (j : Int), u9] wr fun e w' =>
        (∃ u, e = .returned u) ∧ ∃ v', SetAt w' s v' (cutL a b l) ∧ Keep w w' (fun k => k = s ∨ (Value.slice A n c).ownBlock = some k) ∧ (v'.ownBlock = (Value.slice A n c).ownBlock ∨ ∃ k, v'.ownBlock = some k ∧ w.heap.size ≤ k) := by
      intro hk
      rw [hk, List.take_length] at hlv
      exact HEND.out wr u9 hkeep hlv hq j (by omega)
    by_cases hjn : j < n
    · obtain ⟨g, x, y, rfl, hg, hnc, ht, hcell⟩ := HROW.out j hjn
      obtain ⟨D0, D1⟩ := hcell wr hkeep
      have hdr : (l.drop i)[k]? = some (x, y) := by rw [List.getElem?_drop, ← hj]; exact ht
      have hjn' : (j : Int) < (n : Int) := by omega
      by_cases hin2 : x ≤ b
      · have hkK : k < mid.length := by
          rcases Nat.lt_or_eq_of_le hkm with h | h
          · exact h
          · exfalso
            have := tw_eq (f := fun s => decide (s.1 ≤ b)) (l := l.drop i) (t := (x, y)) (by rw [show ((l.drop i).takeWhile fun s => decide (s.1 ≤ b)) = mid from HMID.out.symm, ← h]; exact hdr)
            simp at this; omega
        have hmk : mid[k]? = some (x, y) := by
          have h3 : k < ((l.drop i).takeWhile fun s => decide (s.1 ≤ b)).length := by rw [show ((l.drop i).takeWhile fun s => decide (s.1 ≤ b)) = mid from HMID.out.symm]; exact hkK
          obtain ⟨t', h1, _, h2⟩ := tw_lt h3
          rw [hdr] at h1; cases h1
          rw [HMID.out]; exact h2
        have htk := take_snoc hmk
        have hstep : ∀ W lv', Left2 W lv' ((mid.take k).flatMap (left1 a b) ++ left1 a b (x, y)) → Left2 W lv' ((mid.take (k + 1)).flatMap (left1 a b)) := by
          intro W lv' h
          rw [htk, List.flatMap_append]
          simpa using h
        have hlen1 : ((mid.take k).flatMap (left1 a b)).length ≤ 2 := by
          have h1 := HMW.out
          rw [← List.take_append_drop k mid, wf_append] at h1
          exact flat_two h1.1 (fun s hs => HMM.out s (List.mem_of_mem_take hs))
        obtain ⟨B1, N1, Z1, hN1, rfl⟩ := hlv.setV.formN
        have HSTEP := Lib.hid hstep
        have HLEN := Lib.hid hlen1
        have HCELL := Lib.hid hcell
        have HKK := Lib.hid hkK
        have hbase : ∀ W W' : World, Keep w W (fun _ => False) → Keep W W' (fun k => (Value.slice B1 N1 Z1).ownBlock = some k) → Keep w W' (fun _ => False) := fun W W' h1 h2 => h1.trans h2 (fun k hk e => by have := HQ.out k e; omega)
        have HBASE := Lib.hid hbase
        clear hj hkm hkeep hq hlv hout ht hdr htk hmk hstep hlen1 hcell hkK hN1 hbase
        have lf : left1 a b (x, y) = (if x < a then [(x, a - 1)] else []) ++ (if b < y then [(b + 1, y)] else []) := rfl
        have HLF := Lib.hid lf
        clear lf
        by_cases hx : x < a
        · by_cases hy : b < y
          · go_wp2_with (first
              | (at_builtin; refine wpList_appendR (v := .slice B1 N1 Z1) rfl (.tmp 55) (.tmp 61) rfl rfl (HLV.out.setV.keep (((Keep.refl wr (fun _ => False)).alloc _).alloc _) (fun _ _ => id)) rfl rfl (One.src (t := (x, a - 1)) (one_new1 _ _ _ _)) (by have := HLEN.out; simp only [List.length_singleton]; omega) (by simp) ?_; intro v1 w1 hv1 hk1 ho1; obtain ⟨B2, N2, Z2, hN2, rfl⟩ := hv1.formN; have kw1 := HBASE.out _ w1 ((HKEEP.out.alloc _).alloc _) hk1; have C0' := HC0.out w1 kw1; obtain ⟨D0', D1'⟩ := HCELL.out w1 kw1; have HN2 := Lib.hid hN2; have HV1 := Lib.hid hv1; have HK1 := Lib.hid kw1; have HO1 := Lib.hid (own_ge HQ.out ho1 (by have := HKEEP.out.size; simp; omega)); clear hv1 hk1 ho1 hN2 kw1)
              | (at_builtin; refine wpList_appendR (v := .slice B2 N2 Z2) rfl (.tmp 74) (.tmp 80) rfl rfl (HV1.out.keep (((Keep.refl w1 (fun _ => False)).alloc _).alloc _) (fun _ _ => id)) rfl rfl (One.src (t := (b + 1, y)) (one_new1 _ _ _ _)) (by have := HLEN.out; simp only [List.length_append, List.length_singleton]; omega) (by simp) ?_; intro v3 w3 hv3 hk3 ho3; obtain ⟨B3, N3, Z3, hN3, rfl⟩ := hv3.formN; have HN3 := Lib.hid hN3; have HV3 := Lib.hid hv3; have HK3 := Lib.hid (((HK1.out.alloc _).alloc _).trans hk3 (fun k hk e => by have := HO1.out k e; omega)); have HO3 := Lib.hid (own_ge HO1.out ho3 (by have := HK1.out.size; simp; omega)); clear hv3 hk3 ho3 hN3))
            go_roundw
            case rel => exact ⟨j + 1, k + 1, by go_num, by have := HJ.out; omega, HKK.out, HSTEP.out _ _ (by rw [HLF.out, if_pos hx, if_pos hy, ← List.append_assoc]; exact HV3.out.left2 (by simp)), HK3.out, HO3.out⟩
            case measure => simp [intOf]; omega
          · go_wp2_with (at_builtin; refine wpList_appendR (v := .slice B1 N1 Z1) rfl (.tmp 55) (.tmp 61) rfl rfl (HLV.out.setV.keep (((Keep.refl wr (fun _ => False)).alloc _).alloc _) (fun _ _ => id)) rfl rfl (One.src (t := (x, a - 1)) (one_new1 _ _ _ _)) (by have := HLEN.out; simp only [List.length_singleton]; omega) (by simp) ?_; intro v1 w1 hv1 hk1 ho1; obtain ⟨B2, N2, Z2, hN2, rfl⟩ := hv1.formN; have kw1 := HBASE.out _ w1 ((HKEEP.out.alloc _).alloc _) hk1; have C0' := HC0.out w1 kw1; obtain ⟨D0', D1'⟩ := HCELL.out w1 kw1; have HN2 := Lib.hid hN2; have HV1 := Lib.hid hv1; have HK1 := Lib.hid kw1; have HO1 := Lib.hid (own_ge HQ.out ho1 (by have := HKEEP.out.size; simp; omega)); clear hv1 hk1 ho1 hN2 kw1)
            go_roundw
            case rel => exact ⟨j + 1, k + 1, by go_num, by have := HJ.out; omega, HKK.out, HSTEP.out _ _ (by rw [HLF.out, if_pos hx, if_neg hy, List.append_nil]; exact (HV1.out.left2 (by simp)).keep ((Keep.refl w1 (fun _ => False)).alloc _) (fun _ _ => id)), HK1.out.alloc _, HO1.out⟩
            case measure => simp [intOf]; omega
        · have C0a := HC0.out (wr.alloc (.cells #[.int .i64 x, .int .i64 y] 93)) (HKEEP.out.alloc _)
          obtain ⟨D0a, D1a⟩ := HCELL.out (wr.alloc (.cells #[.int .i64 x, .int .i64 y] 93)) (HKEEP.out.alloc _)
          by_cases hy : b < y
          · go_wp2_with (at_builtin; refine wpList_appendR (v := .slice B1 N1 Z1) rfl (.tmp 74) (.tmp 80) rfl rfl (HLV.out.setV.keep ((((Keep.refl wr (fun _ => False)).alloc _).alloc _).alloc _) (fun _ _ => id)) rfl rfl (One.src (t := (b + 1, y)) (one_new2 _ _ _ _ _)) (by have := HLEN.out; simp only [List.length_singleton]; omega) (by simp) ?_; intro v3 w3 hv3 hk3 ho3; obtain ⟨B3, N3, Z3, hN3, rfl⟩ := hv3.formN; have HN3 := Lib.hid hN3; have HV3 := Lib.hid hv3; have HK3 := Lib.hid (HBASE.out _ w3 (((HKEEP.out.alloc _).alloc _).alloc _) hk3); have HO3 := Lib.hid (own_ge HQ.out ho3 (by have := HKEEP.out.size; simp; omega)); clear hv3 hk3 ho3 hN3)
            go_roundw
            case rel => exact ⟨j + 1, k + 1, by go_num, by have := HJ.out; omega, HKK.out, HSTEP.out _ _ (by rw [HLF.out, if_neg hx, if_pos hy, List.nil_append]; exact HV3.out.left2 (by simp)), HK3.out, HO3.out⟩
            case measure => simp [intOf]; omega
          · go_wp2
            go_roundw
            case rel => exact ⟨j + 1, k + 1, by go_num, by have := HJ.out; omega, HKK.out, HSTEP.out _ _ (by rw [HLF.out, if_neg hx, if_neg hy, List.append_nil, List.append_nil]; exact HLV.out.keep (((Keep.refl wr (fun _ => False)).alloc _).alloc _) (fun _ _ => id)), (HKEEP.out.alloc _).alloc _, HQ.out⟩
            case measure => simp [intOf]; omega
      · have hk : k = mid.length := by
          rcases Nat.lt_or_eq_of_le hkm with h | h
          · exfalso
            have h3 : k < ((l.drop i).takeWhile fun s => decide (s.1 ≤ b)).length := by rw [show ((l.drop i).takeWhile fun s => decide (s.1 ≤ b)) = mid from HMID.out.symm]; exact h
            obtain ⟨t', h1, h4, h2⟩ := tw_lt h3
            rw [hdr] at h1; cases h1
            simp at h4; omega
          · exact h
        have ho := hout hk
        clear hj hkm hkeep hq hlv hout ht hdr hcell hk
        go_wp2_with (go_at_call 45; refine ho.mono ?_; rintro e w2 ⟨⟨u, rfl⟩, v', h3, h4, h5⟩; have H3 := Lib.hid h3; have H4 := Lib.hid h4; have H5 := Lib.hid h5; clear h3 h4 h5)
        go_ret
        exact ⟨rfl, v', H3.out, H4.out, H5.out⟩
    · have hk : k = mid.length := by omega
      have ho := hout hk
      have hjn2 : j = n := by omega
      clear hj hkm hkeep hq hlv hout hk hjn
      subst hjn2
      go_wp2_with (go_at_call 45; refine ho.mono ?_; rintro e w2 ⟨⟨u, rfl⟩, v', h3, h4, h5⟩; have H3 := Lib.hid h3; have H4 := Lib.hid h4; have H5 := Lib.hid h5; clear h3 h4 h5)
      go_ret
      exact ⟨rfl, v', H3.out, H4.out, H5.out⟩
end Go.Proofs.Ytjnekjjaofabeaa
