/-
  curve.Times walked: the ladder; no condition.
-/
import Derived.Test.YtikmghmapmlebaaYl
namespace Go.Proofs.Ytikmghmapmlebaa
open Go.RowKit Go.Rh F255
attribute [local go_sem] box66 box26 alloc66

/-- Between two rounds. -/
def LRel (w : World) (g : Nat → Nat) (u : Fin p) (bt : Nat → Bool) (b2 b4 b5 b6 b7 : Nat) (was i : Value) (wr : World) : Prop :=
  ∃ (j : Nat) (s : Bool) (F1 G1 F2 G2 : Nat → Nat), j ≤ 255 ∧ i = .int .i64 (254 - (j : Int)) ∧ was = .bool s ∧ PQ b6 b7 F1 G1 F2 G2 wr ∧ Four4 (sw s (Ed.lad kF u bt 254 j)) F1 G1 F2 G2 ∧ MT w g u b2 b4 b5 b6 b7 wr

set_option maxRecDepth 100000 in
set_option maxHeartbeats 800000 in
theorem times_any (g h : Nat → Nat) (hg : ∀ j, j < 32 → g j < 256) (hh : ∀ j, j < 32 → h j < 256) (w : World) :
    Calls Try.prog 29 #[.agg (U8 g), .agg (U8 h)] w fun e w' => e = .returned (.agg (U8 (xB (Ed.tim crv.toFld kF (xF h) (cbit g) 254 255)))) ∧ Below w.heap.size w w' := by
  have HOf := Lib.hid (fun w1 => eOf h hh w1)
  have HBit := Lib.hid (fun w1 => cbit_any g hg · · w1)
  clear hg hh
  obtain ⟨u, hu⟩ : ∃ u, u = xF h := ⟨_, rfl⟩
  rw [← hu] at HOf ⊢
  obtain ⟨bt, hbt⟩ : ∃ bt, bt = cbit g := ⟨_, rfl⟩
  rw [← hbt] at HBit ⊢
  have HU := Lib.hid hu
  have HT := Lib.hid hbt
  clear hu hbt
  have l3 := heap_new' (w.alloc (.cells (U8 g) 22)) (.cells (U8 h) 22) (w.heap.size + 1) (by simp)
  have L3 : Hid ((((w.alloc (.cells (U8 g) 22)).alloc (.cells (U8 h) 22)).alloc (.cells (U8 fun _ => 0) 22)).heap[w.heap.size + 1]? = some (.cells (U8 h) 22 (0, 0))) := Lib.hid (by ((simp only [heap_push, World.size_alloc, if_true]; repeat' split); all_goals (first | rfl | (exfalso; omega))))
  clear l3
  go_enter Try.func29, Try.ntmps29
  go_wp2_with (first | (refine wpList_load_row rfl 22 _ rfl (w.heap.size + 1) rfl 22 (U8 h) (0, 0) _ L3.out Try.underlying22 rfl (sz22.trans (by simp [U8])) ?_) | fail)
  have m2 : ((((w.alloc (.cells (U8 g) 22)).alloc (.cells (U8 h) 22)).alloc (.cells (U8 fun _ => 0) 22)).heap[w.heap.size]? = some (.cells (U8 g) 22 (0, 0))) := by ((simp only [heap_push, World.size_alloc, if_true]; repeat' split); all_goals (first | rfl | (exfalso; omega)))
  have m4 : ((((w.alloc (.cells (U8 g) 22)).alloc (.cells (U8 h) 22)).alloc (.cells (U8 fun _ => 0) 22)).heap[w.heap.size + 1 + 1]? = some (.cells (U8 fun _ => 0) 22 (0, 0))) := by ((simp only [heap_push, World.size_alloc, if_true]; repeat' split); all_goals (first | rfl | (exfalso; omega)))
  have hb0 : Below w.heap.size w (((w.alloc (.cells (U8 g) 22)).alloc (.cells (U8 h) 22)).alloc (.cells (U8 fun _ => 0) 22)) := by go_grown
  have MM := Lib.hid (And.intro m2 (And.intro m4 hb0))
  clear m2 m4 hb0
  refine (HOf.out _).mono ?_
  rintro e w1 ⟨⟨f, rfl, hf⟩, hb⟩
  have n2 : w1.heap[w.heap.size]? = some (.cells (U8 g) 22 (0, 0)) := (hb.block _ (heap_lt MM.out.1)).trans MM.out.1
  have n4 : w1.heap[w.heap.size + 1 + 1]? = some (.cells (U8 fun _ => 0) 22 (0, 0)) := (hb.block _ (heap_lt MM.out.2.1)).trans MM.out.2.1
  have nb : Below w.heap.size w w1 := MM.out.2.2.trans (hb.mono MM.out.2.2.size)
  have HF := Lib.hid hf
  have NN := Lib.hid (And.intro n2 (And.intro n4 nb))
  clear hf hb MM n2 n4 nb L3
  have T : Hid ((w1.alloc (.cells Z5 26)).heap[w1.heap.size]? = some (.cells Z5 26 (0, 0))) := Lib.hid (heap_new' _ _ _ rfl)
  go_wp2_with (first | (refine wpList_store_row rfl 26 _ _ rfl w1.heap.size _ rfl rfl 26 _ T.out (sz26.trans (by simp [U64])) (by first | (simp [U64]; done) | (simp [U64]; rfl)) (vals_one _ _ _) ?_) | fail)
  generalize hW : World.setRow _ _ _ = w2
  obtain ⟨b5, e5⟩ : ∃ b, w1.heap.size = b := ⟨_, rfl⟩
  obtain ⟨b2, e2⟩ : ∃ b, w.heap.size = b := ⟨_, rfl⟩
  obtain ⟨b4, e4⟩ : ∃ b, w.heap.size + 1 + 1 = b := ⟨_, rfl⟩
  have l2 : b2 < w1.heap.size := by rw [← e2]; exact heap_lt NN.out.1
  have l4 : b4 < w1.heap.size := by rw [← e4]; exact heap_lt NN.out.2.1
  have lo4 : Hid (w.heap.size ≤ b4) := Lib.hid (by rw [← e4]; omega)
  have lo5 : w.heap.size ≤ b5 := by rw [← e5]; exact NN.out.2.2.size
  have M2 : Hid (w2.heap[b2]? = some (.cells (U8 g) 22 (0, 0))) := Lib.hid (by rw [← hW, setRow_other _ _ _ _ (by omega), ← e2, heap_old _ _ _ (by omega)]; exact NN.out.1)
  have M4 : Hid (w2.heap[b4]? = some (.cells (U8 fun _ => 0) 22 (0, 0))) := Lib.hid (by rw [← hW, setRow_other _ _ _ _ (by omega), ← e4, heap_old _ _ _ (by omega)]; exact NN.out.2.1)
  have M5 : Hid (FeAt w2 b5 u) := Lib.hid ⟨f, by rw [← hW, ← e5]; exact setRow_heap _ _ _ _ _ _ T.out, HF.out⟩
  have MB : Hid (Below w.heap.size w w2) := Lib.hid (by rw [← hW]; exact below_setRow (NN.out.2.2.alloc NN.out.2.2.size _) (by omega) _)
  rw [e5, e4, e2]
  clear hW e5 e2 e4 l2 l4 lo5 T NN HF
  have hok0 : Hid True := Lib.hid trivial
  refine region_kk_late _ 89 [.few 0 1 d1, .fe 1, .fe 0, .pt 1 0, .fe u, .few 0 1 d1, .fe 1, .pt u 1, .new w2.heap.size (.cells (P10 (fun _ => 0) fun _ => 0) 66), .new w2.heap.size (.cells (P10 (fun _ => 0) fun _ => 0) 66)] 10 2 (fun i => i == 4 || i == 7) (fun a x y => ∃ b6 b7 f g f' g', a.tmps[6]? = some (.pointer (some ⟨b6, 0, none⟩)) ∧ a.tmps[7]? = some (.pointer (some ⟨b7, 0, none⟩)) ∧ b6 ≠ b7 ∧ a.tmps[16]? = some (.agg (P10 f g)) ∧ a.tmps[20]? = some (.agg (P10 f' g')) ∧ y = (x.setRow b6 (P10 f g)).setRow b7 (P10 f' g'))
    rfl rfl (by kernel_rfl) (by rfl) (by kernel_rfl) (by kernel_rfl) (fun x1 hw => ?_) (fun Q' listed a x hL hQ => ?_) (fun vs x y hg hv hst => ?_)
  · refine ⟨?_, ?_, ?_, ?_, ?_, ?_, ?_, ?_, ?_, ?_, trivial⟩
    · intro a x2 hg hsp hd K hK
      replace hg := grown_trans hw hg
      exact at_value (wanted_free rfl) (run_bs rfl) (hK _ _ (grown_new (grown_refl _ _) _) ⟨few1 _, Nat.zero_le _⟩ (fun h => Bool.noConfusion (show false = true from h)))
    · intro a x2 hg hsp hd K hK
      replace hg := grown_trans hw hg
      obtain ⟨_, e1, hF, _⟩ := hd 0 _ 13 (by kernel_rfl) rfl rfl
      refine at_call (wanted_free rfl) rfl (args1 e1) Try.func41 (by kernel_rfl) rfl ?_
      refine (eSm1 hF).mono ?_
      rintro e w3 ⟨⟨f, rfl, hf⟩, hb⟩
      exact ⟨_, rfl, hK _ _ (grown_own hb) ⟨_, rfl, hf⟩ (fun h => Bool.noConfusion (show false = true from h))⟩
    · intro a x2 hg hsp hd K hK
      replace hg := grown_trans hw hg
      refine at_call (vs := #[.slice none 0 0]) (wanted_free rfl) rfl (argsC _ _) Try.func41 (by kernel_rfl) rfl ?_
      refine (eSm0 _).mono ?_
      rintro e w3 ⟨⟨f, rfl, hf⟩, hb⟩
      exact ⟨_, rfl, hK _ _ (grown_own hb) ⟨_, rfl, hf⟩ (fun h => Bool.noConfusion (show false = true from h))⟩
    · intro a x2 hg hsp hd K hK
      replace hg := grown_trans hw hg
      obtain ⟨_, e1, f1, rfl, h1⟩ := hd 1 _ 14 (by kernel_rfl) rfl rfl
      obtain ⟨_, e2, f2, rfl, h2⟩ := hd 2 _ 15 (by kernel_rfl) rfl rfl
      exact at_value (wanted_free rfl) (run_op_build rfl (eval_tmp e1) (eval_tmp e2) (build66 _ _ _)) (hK _ _ (grown_refl _ _) ⟨_, _, rfl, h1, h2⟩ (fun h => Bool.noConfusion (show false = true from h)))
    · intro a x2 hg hsp hd K hK
      replace hg := grown_trans hw hg
      have e1 : a.tmps[5]? = some (.pointer (some ⟨b5, 0, none⟩)) := (hsp 5 (by kernel_rfl)).trans rfl
      obtain ⟨f, hb, hf⟩ := M5.out.grown hg
      exact at_row (wanted_free rfl) rfl e1 hb Try.underlying26 rfl (sz26.trans (by simp [U64])) (hK _ _ (grown_refl _ _) ⟨_, rfl, hf⟩ (fun h => Bool.noConfusion (show false = true from h)))
    · intro a x2 hg hsp hd K hK
      replace hg := grown_trans hw hg
      exact at_value (wanted_free rfl) (run_bs rfl) (hK _ _ (grown_new (grown_refl _ _) _) ⟨few1 _, Nat.zero_le _⟩ (fun h => Bool.noConfusion (show false = true from h)))
    · intro a x2 hg hsp hd K hK
      replace hg := grown_trans hw hg
      obtain ⟨_, e1, hF, _⟩ := hd 5 _ 18 (by kernel_rfl) rfl rfl
      refine at_call (wanted_free rfl) rfl (args1 e1) Try.func41 (by kernel_rfl) rfl ?_
      refine (eSm1 hF).mono ?_
      rintro e w3 ⟨⟨f, rfl, hf⟩, hb⟩
      exact ⟨_, rfl, hK _ _ (grown_own hb) ⟨_, rfl, hf⟩ (fun h => Bool.noConfusion (show false = true from h))⟩
    · intro a x2 hg hsp hd K hK
      replace hg := grown_trans hw hg
      obtain ⟨_, e1, f1, rfl, h1⟩ := hd 4 _ 17 (by kernel_rfl) rfl rfl
      obtain ⟨_, e2, f2, rfl, h2⟩ := hd 6 _ 19 (by kernel_rfl) rfl rfl
      exact at_value (wanted_free rfl) (run_op_build rfl (eval_tmp e1) (eval_tmp e2) (build66 _ _ _)) (hK _ _ (grown_refl _ _) ⟨_, _, rfl, h1, h2⟩ (fun h => Bool.noConfusion (show false = true from h)))
    · intro a x2 hg hsp hd K hK
      replace hg := grown_trans hw hg
      exact at_value (wanted_free rfl) (run_alloc rfl alloc66) (hK _ _ (grown_new (grown_refl _ _) _) ⟨_, rfl, heap_new' _ _ _ rfl, hg.size⟩ (fun _ b hb => by cases hb; exact Nat.le_refl _))
    · intro a x2 hg hsp hd K hK
      replace hg := grown_trans hw hg
      exact at_value (wanted_free rfl) (run_alloc rfl alloc66) (hK _ _ (grown_new (grown_refl _ _) _) ⟨_, rfl, heap_new' _ _ _ rfl, hg.size⟩ (fun _ b hb => by cases hb; exact Nat.le_refl _))
  · obtain ⟨_, e6, b6, rfl, m6, z6⟩ := hL.known 8 _ _ 6 (by decide) (hL.all 8 (by decide) rfl) rfl rfl rfl
    obtain ⟨_, e7, b7, rfl, m7, z7⟩ := hL.known 9 _ _ 7 (by decide) (hL.all 9 (by decide) rfl) rfl rfl rfl
    obtain ⟨_, e16, F16, G16, rfl, k16⟩ := hL.known 3 _ _ 16 (by decide) (hL.all 3 (by decide) rfl) rfl rfl rfl
    obtain ⟨_, e19, F19, rfl, k19⟩ := hL.known 6 _ _ 19 (by decide) (hL.all 6 (by decide) rfl) rfl rfl rfl
    have n67 := hL.apart 8 9 _ _ 6 7 b6 b7 (by decide) rfl rfl rfl rfl rfl rfl (hL.all 8 (by decide) rfl) (hL.all 9 (by decide) rfl) e6 e7
    have e5 : a.tmps[5]? = some (.pointer (some ⟨b5, 0, none⟩)) := (hL.spare 5 (by kernel_rfl)).trans rfl
    obtain ⟨F5, m5, k5⟩ := M5.out.grown hL.grown
    have n56 : b5 ≠ b6 := Nat.ne_of_lt (Nat.lt_of_lt_of_le M5.out.lt z6)
    have T7 : ∀ r, (x.setRow b6 r).heap[b7]? = some (.cells (P10 (fun _ => 0) fun _ => 0) 66 (0, 0)) := fun r => by rw [setRow_other _ _ _ _ (Ne.symm n67)]; exact m7
    have tt : ∀ i, i < 10 → ([true, true, true, true, true, true, true, true, true, true, false, false].toArray : Array Bool).getD i false = true := by decide
    have ekn : Kn10 _ _ 10 listed a x := hL.known
    have esz := hL.size
    have edf := hL.defers
    have esp := hL.spare
    cases h4 : listed.getD 4 false <;> cases h7 : listed.getD 7 false
    · have hl := listed_eq (late := fun i => i == 4 || i == 7) [true, true, true, true, false, true, true, false, true, true, false, false] hL.many hL.all hL.none_ (fun i hi hl => by
        simp at hl
        rcases hl with rfl | rfl
        · rw [h4]; rfl
        · rw [h7]; rfl) (by kernel_rfl)
      subst hl
      change wpAny _ _ _ Q' 4 _ _ _
      have qsz : (a.put (some 17) (.agg (U64 F5))).tmps.size = 89 := (put_size _ _ _).trans esz
      have qdf := (put_defers a (some 17) (.agg (U64 F5))).trans edf
      have q6 := (put_other a (some 17) (.agg (U64 F5)) 6 (by simp)).trans e6
      have q7 := (put_other a (some 17) (.agg (U64 F5)) 7 (by simp)).trans e7
      have q16 := (put_other a (some 17) (.agg (U64 F5)) 16 (by simp)).trans e16
      have q19 := (put_other a (some 17) (.agg (U64 F5)) 19 (by simp)).trans e19
      have q17 : (a.put (some 17) (.agg (U64 F5))).tmps[17]? = some (.agg (U64 F5)) := put_same _ _ _ (by rw [esz]; decide)
      have qk17 := k5
      have qkn := Kn10.put (i := 4) (v := .agg (U64 F5)) ((headL_of (N := 89) (late := fun i => i == 4 || i == 7) (by kernel_rfl)).1) ekn rfl rfl rfl (by rw [esz]; decide) ⟨_, rfl, k5⟩
      have qsp := fun k (hk : spares _ k = true) => (put_other a (some 17) (.agg (U64 F5)) k (spares_ne hk _ (List.mem_of_getElem? (i := 4) rfl))).trans (esp k hk)
      refine wpAny_two (i := 4) (j := 10) (by kernel_rfl) rfl rfl (at_row (wanted_free rfl) rfl e5 m5 Try.underlying26 rfl (sz26.trans (by simp [U64])) ?_) (at_store_row (wanted_free rfl) rfl rfl e6 e16 m6 (sz66.trans (by simp [P10_size])) (by simp [P10_size]) (P10_one _ _) ?_)
      ·
        refine late_tailL 7 10 (v := .agg (P10 F5 F19)) (w1 := x.setRow b6 (P10 F16 G16)) (w2 := (x.setRow b6 (P10 F16 G16)).setRow b7 (P10 F5 F19)) rfl rfl rfl (by kernel_rfl) (by kernel_rfl) (by kernel_rfl) (by kernel_rfl) (by kernel_rfl) (by kernel_rfl) (by kernel_rfl) (fun y K hK => ?_) (fun a' ha' K hK => ?_) (fun K hK => ?_) ?_
        · exact at_value (wanted_free rfl) (run_op_build rfl (eval_tmp q17) (eval_tmp q19) (build66 _ _ _)) hK
        · rcases ha' with rfl | rfl
          · exact at_store_row (wanted_free rfl) rfl rfl q6 q16 m6 (sz66.trans (by simp [P10_size])) (by simp [P10_size]) (P10_one _ _) hK
          · exact at_store_row (wanted_free rfl) rfl rfl ((put_other _ _ _ _ (by simp)).trans q6) ((put_other _ _ _ _ (by simp)).trans q16) m6 (sz66.trans (by simp [P10_size])) (by simp [P10_size]) (P10_one _ _) hK
        · exact at_store_row (wanted_free rfl) rfl rfl ((put_other _ _ _ _ (by simp)).trans q7) (put_same _ 20 _ (by rw [qsz]; decide)) (T7 _) (sz66.trans (by simp [P10_size])) (by simp [P10_size]) (P10_one _ _) hK
        · have kq := Kn10.put (i := 7) (v := .agg (P10 F5 F19)) ((headL_of (N := 89) (late := fun i => i == 4 || i == 7) (by kernel_rfl)).1) qkn rfl rfl rfl (by rw [qsz]; decide) ⟨_, _, rfl, qk17, k19⟩
          exact hQ _ x _ hL.grown ((put_size _ _ _).trans qsz) ((put_defers _ _ _).trans qdf) (fun k hk => (put_other _ _ _ _ (spares_ne hk _ (List.mem_of_getElem? (i := 7) rfl))).trans (qsp k hk)) (fun i s o d hs ho hd => kq i s o d (by have := (List.getElem?_eq_some_iff.1 hs).1; exact this) (tt i (by have := (List.getElem?_eq_some_iff.1 hs).1; exact this)) hs ho hd) ⟨b6, b7, F16, G16, F5, F19, (put_other _ _ _ _ (by simp)).trans q6, (put_other _ _ _ _ (by simp)).trans q7, n67, (put_other _ _ _ _ (by simp)).trans q16, put_same _ 20 _ (by rw [qsz]; decide), rfl⟩
      · refine wpAny_one (i := 4) (by kernel_rfl) rfl (at_row (wanted_free rfl) rfl e5 ((setRow_other _ _ _ _ n56).trans m5) Try.underlying26 rfl (sz26.trans (by simp [U64])) ?_)
        refine wpAny_one (i := 7) (by kernel_rfl) rfl (at_value (wanted_free rfl) (run_op_build rfl (eval_tmp q17) (eval_tmp q19) (build66 _ _ _)) ?_)
        refine wpAny_one (i := 11) (by kernel_rfl) rfl (at_store_row (wanted_free rfl) rfl rfl ((put_other _ _ _ _ (by simp)).trans q7) (put_same _ 20 _ (by rw [qsz]; decide)) (T7 _) (sz66.trans (by simp [P10_size])) (by simp [P10_size]) (P10_one _ _) ?_)
        have kq := Kn10.put (i := 7) (v := .agg (P10 F5 F19)) ((headL_of (N := 89) (late := fun i => i == 4 || i == 7) (by kernel_rfl)).1) qkn rfl rfl rfl (by rw [qsz]; decide) ⟨_, _, rfl, qk17, k19⟩
        exact ⟨by kernel_rfl, hQ _ x _ hL.grown ((put_size _ _ _).trans qsz) ((put_defers _ _ _).trans qdf) (fun k hk => (put_other _ _ _ _ (spares_ne hk _ (List.mem_of_getElem? (i := 7) rfl))).trans (qsp k hk)) (fun i s o d hs ho hd => kq i s o d (by have := (List.getElem?_eq_some_iff.1 hs).1; exact this) (tt i (by have := (List.getElem?_eq_some_iff.1 hs).1; exact this)) hs ho hd) ⟨b6, b7, F16, G16, F5, F19, (put_other _ _ _ _ (by simp)).trans q6, (put_other _ _ _ _ (by simp)).trans q7, n67, (put_other _ _ _ _ (by simp)).trans q16, put_same _ 20 _ (by rw [qsz]; decide), rfl⟩⟩
    · have hc := hL.closed 7 _ rfl h7 ⟨4, .data⟩ (by simp) rfl
      rw [h4] at hc
      cases hc
    · have hl := listed_eq (late := fun i => i == 4 || i == 7) [true, true, true, true, true, true, true, false, true, true, false, false] hL.many hL.all hL.none_ (fun i hi hl => by
        simp at hl
        rcases hl with rfl | rfl
        · rw [h4]; rfl
        · rw [h7]; rfl) (by kernel_rfl)
      subst hl
      change wpAny _ _ _ Q' 3 _ _ _
      obtain ⟨_, e17, F17, rfl, ek17⟩ := hL.known 4 _ _ 17 (by decide) h4 rfl rfl rfl
      refine late_tailL 7 10 (v := .agg (P10 F17 F19)) (w1 := x.setRow b6 (P10 F16 G16)) (w2 := (x.setRow b6 (P10 F16 G16)).setRow b7 (P10 F17 F19)) rfl rfl rfl (by kernel_rfl) (by kernel_rfl) (by kernel_rfl) (by kernel_rfl) (by kernel_rfl) (by kernel_rfl) (by kernel_rfl) (fun y K hK => ?_) (fun a' ha' K hK => ?_) (fun K hK => ?_) ?_
      · exact at_value (wanted_free rfl) (run_op_build rfl (eval_tmp e17) (eval_tmp e19) (build66 _ _ _)) hK
      · rcases ha' with rfl | rfl
        · exact at_store_row (wanted_free rfl) rfl rfl e6 e16 m6 (sz66.trans (by simp [P10_size])) (by simp [P10_size]) (P10_one _ _) hK
        · exact at_store_row (wanted_free rfl) rfl rfl ((put_other _ _ _ _ (by simp)).trans e6) ((put_other _ _ _ _ (by simp)).trans e16) m6 (sz66.trans (by simp [P10_size])) (by simp [P10_size]) (P10_one _ _) hK
      · exact at_store_row (wanted_free rfl) rfl rfl ((put_other _ _ _ _ (by simp)).trans e7) (put_same _ 20 _ (by rw [esz]; decide)) (T7 _) (sz66.trans (by simp [P10_size])) (by simp [P10_size]) (P10_one _ _) hK
      · have kq := Kn10.put (i := 7) (v := .agg (P10 F17 F19)) ((headL_of (N := 89) (late := fun i => i == 4 || i == 7) (by kernel_rfl)).1) ekn rfl rfl rfl (by rw [esz]; decide) ⟨_, _, rfl, ek17, k19⟩
        exact hQ _ x _ hL.grown ((put_size _ _ _).trans esz) ((put_defers _ _ _).trans edf) (fun k hk => (put_other _ _ _ _ (spares_ne hk _ (List.mem_of_getElem? (i := 7) rfl))).trans (esp k hk)) (fun i s o d hs ho hd => kq i s o d (by have := (List.getElem?_eq_some_iff.1 hs).1; exact this) (tt i (by have := (List.getElem?_eq_some_iff.1 hs).1; exact this)) hs ho hd) ⟨b6, b7, F16, G16, F17, F19, (put_other _ _ _ _ (by simp)).trans e6, (put_other _ _ _ _ (by simp)).trans e7, n67, (put_other _ _ _ _ (by simp)).trans e16, put_same _ 20 _ (by rw [esz]; decide), rfl⟩
    · have hl := listed_eq (late := fun i => i == 4 || i == 7) [true, true, true, true, true, true, true, true, true, true, false, false] hL.many hL.all hL.none_ (fun i hi hl => by
        simp at hl
        rcases hl with rfl | rfl
        · rw [h4]; rfl
        · rw [h7]; rfl) (by kernel_rfl)
      subst hl
      change wpAny _ _ _ Q' 2 _ _ _
      obtain ⟨_, e20, F20, G20, rfl, k20⟩ := hL.known 7 _ _ 20 (by decide) h7 rfl rfl rfl
      refine wpAny_one (i := 10) (by kernel_rfl) rfl (at_store_row (wanted_free rfl) rfl rfl e6 e16 m6 (sz66.trans (by simp [P10_size])) (by simp [P10_size]) (P10_one _ _) ?_)
      refine wpAny_one (i := 11) (by kernel_rfl) rfl (at_store_row (wanted_free rfl) rfl rfl e7 e20 (T7 _) (sz66.trans (by simp [P10_size])) (by simp [P10_size]) (P10_one _ _) ?_)
      exact ⟨by kernel_rfl, hQ a x _ hL.grown esz edf esp (fun i s o d hs ho hd => ekn i s o d (by have := (List.getElem?_eq_some_iff.1 hs).1; exact this) (tt i (by have := (List.getElem?_eq_some_iff.1 hs).1; exact this)) hs ho hd) ⟨b6, b7, F16, G16, F20, G20, e6, e7, n67, e16, e20, rfl⟩⟩
  · obtain ⟨c6, c7, f6, g6, f7, g7, e6, e7, n67, e16, e20, hy⟩ := hst
    obtain ⟨⟨A0, C0, v0, -⟩, -⟩ := hv 0 _ rfl
    obtain ⟨F14, v1, -⟩ := hv 1 _ rfl
    obtain ⟨F15, v2, -⟩ := hv 2 _ rfl
    obtain ⟨F16, G16, v3, k16⟩ := hv 3 _ rfl
    obtain ⟨F17, v4, -⟩ := hv 4 _ rfl
    obtain ⟨⟨A5, C5, v5, -⟩, -⟩ := hv 5 _ rfl
    obtain ⟨F19, v6, -⟩ := hv 6 _ rfl
    obtain ⟨F20, G20, v7, k20⟩ := hv 7 _ rfl
    obtain ⟨b6, v8, m6, z6⟩ := hv 8 _ rfl
    obtain ⟨b7, v9, m7, z7⟩ := hv 9 _ rfl
    clear hv
    simp [seqA, Act.put, v0, v1, v2, v3, v4, v5, v6, v7, v8, v9] at e6 e7 e16 e20
    simp [seqA, Act.put, v0, v1, v2, v3, v4, v5, v6, v7, v8, v9]
    subst e6
    subst e7
    rw [← e16, ← e20] at hy
    have q6 : Hid (PQ b6 b7 F16 G16 F20 G20 y) := Lib.hid ⟨by rw [hy, setRow_other _ _ _ _ n67]; exact setRow_heap _ _ _ _ _ _ m6, by rw [hy]; exact setRow_heap _ _ _ _ _ _ (by rw [setRow_other _ _ _ _ (Ne.symm n67)]; exact m7)⟩
    have l6 : w.heap.size ≤ b6 := Nat.le_trans MB.out.size z6
    have l7 : w.heap.size ≤ b7 := Nat.le_trans MB.out.size z7
    have ne : ∀ k, k < w2.heap.size → k ≠ b6 ∧ k ≠ b7 := fun k hk => ⟨by omega, by omega⟩
    have same : ∀ k, k < w2.heap.size → y.heap[k]? = w2.heap[k]? := fun k hk => by
      rw [hy, setRow_other _ _ _ _ (ne k hk).2, setRow_other _ _ _ _ (ne k hk).1]
      exact hg.block k hk (by simp)
    have a2 := ne b2 (heap_lt M2.out)
    have a4 := ne b4 (heap_lt M4.out)
    have a5 := ne b5 M5.out.lt
    have qm : Hid (MT w g u b2 b4 b5 b6 b7 y) := Lib.hid ⟨(same _ (heap_lt M2.out)).trans M2.out, (same _ (heap_lt M4.out)).trans M4.out, M5.out.same (same _ M5.out.lt), by
        rw [hy]
        exact below_setRow (below_setRow (MB.out.grown hg MB.out.size (fun j hj => by cases hj)) l6 _) l7 _, lo4.out, l6, l7, n67, a2.1, a2.2, a4.1, a4.2, a5.1, a5.2⟩
    have q4 : Hid (Four4 (1, 0, u, 1) F16 G16 F20 G20) := Lib.hid ⟨k16.1, k16.2, k20.1, k20.2⟩
    clear hy hg m6 m7 z6 z7 l6 l7 ne same a2 a4 a5 n67 e16 e20 k16 k20 M2 M4 M5 MB lo4 v0 v1 v2 v3 v4 v5 v6 v7 v8 v9 vs hok0 x w2 f6 g6 f7 g7
    go_wp2_with fail
    go_loopw [8, 9] (fun was i wr => LRel w g u bt b2 b4 b5 b6 b7 was i wr) (fun _ i _ => (intOf i + 1).toNat)
    case atStart => exact ⟨0, false, _, _, _, _, by omega, rfl, rfl, q6.out, q4.out, qm.out⟩
    case round =>
      clear q6 q4 qm
      obtain ⟨j, s, F1, G1, F2, G2, hj, rfl, rfl, hpq, h4, hmt⟩ := hrel
      obtain ⟨q, hq⟩ : ∃ q, q = Ed.lad kF u bt 254 j := ⟨_, rfl⟩
      rw [← hq] at h4
      have H4 := Lib.hid h4
      have HQ := Lib.hid hq
      have HP := Lib.hid hpq
      have HM := Lib.hid hmt
      clear h4 hq hpq hmt
      by_cases hx : j < 255
      · have hge : (decide ((254 : Int) - (j : Int) ≥ 0)) = true := by simp; omega
        have hnat : (254 : Int) - (j : Int) = ((254 - j : Nat) : Int) := by omega
        obtain ⟨i, hi⟩ : ∃ i, i = 254 - j := ⟨_, rfl⟩
        rw [← hi] at hnat
        have hile : i ≤ 254 := by omega
        have HB := Lib.hid (fun w1 => HBit.out i hile w1)
        obtain ⟨now, hnow⟩ : ∃ now, now = bt i := ⟨_, rfl⟩
        rw [← hnow] at HB
        rw [hnat] at hge ⊢
        have HI := Lib.hid hi
        have HN := Lib.hid hnat
        have HW := Lib.hid hnow
        have N0 := Lib.hid HM.out.num
        clear hi hnat hnow
        go_wp2_with (first | (refine wpList_load_row rfl 22 _ rfl b2 rfl 22 (U8 g) (0, 0) _ N0.out Try.underlying22 rfl (sz22.trans (by simp [U8])) ?_) | fail)
        refine (HB.out _).mono ?_
        rintro e w2 ⟨rfl, hb⟩
        have M2 := Lib.hid (HM.out.own hb)
        have P2 := Lib.hid (HP.out.own hb)
        clear hb HM HP N0
        have Hb60 := Lib.hid (range0 P2.out.1)
        have Hb70 := Lib.hid (range0 P2.out.2)
        go_wp2_with (first | (refine wpList_load_half rfl 26 (.tmp 32) rfl b6 0 rfl (U64 F1) _ Hb60.out Try.underlying26 rfl (sz26.trans (by simp [U64])) ?_) | (refine wpList_load_half rfl 26 (.tmp 34) rfl b7 0 rfl (U64 F2) _ Hb70.out Try.underlying26 rfl (sz26.trans (by simp [U64])) ?_) | fail)
        refine (swap_el _ H4.out.1 H4.out.2.2.1 _).mono ?_
        rintro e w3 ⟨⟨A1, A2, rfl, ka, kb⟩, hb⟩
        have M3 := Lib.hid (M2.out.own hb)
        have P3 := Lib.hid (P2.out.own hb)
        have KA := Lib.hid ka
        have KB := Lib.hid kb
        clear hb M2 P2 Hb60 Hb70 ka kb
        have R1 := Lib.hid (there_U A1 (o := 0) (by decide) P3.out.1)
        obtain ⟨w31, hw⟩ : ∃ w', w' = World.setCells w3 b6 0 (U64 A1).toList := ⟨_, rfl⟩
        have P31 : Hid (PQ b6 b7 A1 G1 F2 G2 w31) := Lib.hid (by rw [hw]; exact P3.out.six0 M3.out.n67 A1)
        have M31 : Hid (MT w g u b2 b4 b5 b6 b7 w31) := Lib.hid (by rw [hw]; exact M3.out.six 0 _)
        have HW31 := Lib.hid hw
        clear hw
        have R2 := Lib.hid (there_U A2 (o := 0) (by decide) P31.out.2)
        obtain ⟨w4, hw⟩ : ∃ w', w' = World.setCells w31 b7 0 (U64 A2).toList := ⟨_, rfl⟩
        have P4 : Hid (PQ b6 b7 A1 G1 A2 G2 w4) := Lib.hid (by rw [hw]; exact P31.out.seven0 M31.out.n67 A2)
        have M4 : Hid (MT w g u b2 b4 b5 b6 b7 w4) := Lib.hid (by rw [hw]; exact M31.out.seven 0 _)
        have HW4 := Lib.hid hw
        clear hw
        have Hb65 := Lib.hid (range5 P4.out.1)
        have Hb75 := Lib.hid (range5 P4.out.2)
        clear M3 P3 M31 P31
        go_wp2_with (first | (refine wpList_store_mid rfl 26 (.tmp 39) (.tmp 37) rfl b6 0 (U64 A1) rfl rfl R1.out (sz26.trans (by simp [U64])) (vals_one _ _ _) ?_; rw [← HW31.out]) | (refine wpList_store_mid rfl 26 (.tmp 40) (.tmp 38) rfl b7 0 (U64 A2) rfl rfl R2.out (sz26.trans (by simp [U64])) (vals_one _ _ _) ?_; rw [← HW4.out]) | (refine wpList_load_half rfl 26 (.tmp 45) rfl b6 5 rfl (U64 G1) _ Hb65.out Try.underlying26 rfl (sz26.trans (by simp [U64])) ?_) | (refine wpList_load_half rfl 26 (.tmp 47) rfl b7 5 rfl (U64 G2) _ Hb75.out Try.underlying26 rfl (sz26.trans (by simp [U64])) ?_) | fail)
        clear R1 R2 Hb65 Hb75
        refine (swap_el _ H4.out.2.1 H4.out.2.2.2 _).mono ?_
        rintro e w5 ⟨⟨B1, B2, rfl, kc, kd⟩, hb⟩
        have M5 := Lib.hid (M4.out.own hb)
        have P5 := Lib.hid (P4.out.own hb)
        have K4 := Lib.hid (four_swap KA.out KB.out kc kd)
        clear hb M4 P4 kc kd KA KB
        have R1 := Lib.hid (there_U B1 (o := 5) (by decide) P5.out.1)
        obtain ⟨w51, hw⟩ : ∃ w', w' = World.setCells w5 b6 5 (U64 B1).toList := ⟨_, rfl⟩
        have P51 : Hid (PQ b6 b7 A1 B1 A2 G2 w51) := Lib.hid (by rw [hw]; exact P5.out.six5 M5.out.n67 B1)
        have M51 : Hid (MT w g u b2 b4 b5 b6 b7 w51) := Lib.hid (by rw [hw]; exact M5.out.six 5 _)
        have HW51 := Lib.hid hw
        clear hw
        have R2 := Lib.hid (there_U B2 (o := 5) (by decide) P51.out.2)
        obtain ⟨w6, hw⟩ : ∃ w', w' = World.setCells w51 b7 5 (U64 B2).toList := ⟨_, rfl⟩
        have P6 : Hid (PQ b6 b7 A1 B1 A2 B2 w6) := Lib.hid (by rw [hw]; exact P51.out.seven5 M51.out.n67 B2)
        have M6 : Hid (MT w g u b2 b4 b5 b6 b7 w6) := Lib.hid (by rw [hw]; exact M51.out.seven 5 _)
        have HW6 := Lib.hid hw
        clear hw
        obtain ⟨fu, m5, k5⟩ := M6.out.fe
        have R5 := Lib.hid m5
        have K5 := Lib.hid k5
        have R6 := Lib.hid P6.out.1
        have R7 := Lib.hid P6.out.2
        clear M5 P5 M51 P51 m5 k5
        go_wp2_with (first | (refine wpList_store_mid rfl 26 (.tmp 52) (.tmp 50) rfl b6 5 (U64 B1) rfl rfl R1.out (sz26.trans (by simp [U64])) (vals_one _ _ _) ?_; rw [← HW51.out]) | (refine wpList_store_mid rfl 26 (.tmp 53) (.tmp 51) rfl b7 5 (U64 B2) rfl rfl R2.out (sz26.trans (by simp [U64])) (vals_one _ _ _) ?_; rw [← HW6.out]) | (refine wpList_load_row rfl 66 (.tmp 6) rfl b6 rfl 66 (P10 A1 B1) (0, 0) _ R6.out Try.underlying66 rfl (sz66.trans (by simp [P10_size])) ?_) | (refine wpList_load_row rfl 66 (.tmp 7) rfl b7 rfl 66 (P10 A2 B2) (0, 0) _ R7.out Try.underlying66 rfl (sz66.trans (by simp [P10_size])) ?_) | (refine wpList_load_row rfl 26 (.tmp 5) rfl b5 rfl 26 (U64 fu) (0, 0) _ R5.out Try.underlying26 rfl (sz26.trans (by simp [U64])) ?_) | fail)
        clear R1 R2 R5 R6 R7
        refine (step_any K4.out.1 K4.out.2.1 K4.out.2.2.1 K4.out.2.2.2 K5.out w6).mono ?_
        rintro e w7 ⟨⟨C1, D1, C2, D2, rfl, kc⟩, hb⟩
        have M7 := Lib.hid (M6.out.own hb)
        have P7 := Lib.hid (P6.out.own hb)
        have K7 := Lib.hid kc
        clear hb M6 P6 kc
        have R6 := Lib.hid P7.out.1
        obtain ⟨w71, hw⟩ : ∃ w', w' = World.setRow w7 b6 (P10 C1 D1) := ⟨_, rfl⟩
        have P71 : Hid (PQ b6 b7 C1 D1 A2 B2 w71) := Lib.hid (by rw [hw]; exact ⟨setRow_heap _ _ _ _ _ _ P7.out.1, (setRow_other _ _ _ _ (Ne.symm M7.out.n67)).trans P7.out.2⟩)
        have M71 : Hid (MT w g u b2 b4 b5 b6 b7 w71) := Lib.hid (by rw [hw]; exact M7.out.six_row _)
        have HW71 := Lib.hid hw
        clear hw
        have R7 := Lib.hid P71.out.2
        obtain ⟨w8, hw⟩ : ∃ w', w' = World.setRow w71 b7 (P10 C2 D2) := ⟨_, rfl⟩
        have P8 : Hid (PQ b6 b7 C1 D1 C2 D2 w8) := Lib.hid (by rw [hw]; exact ⟨(setRow_other _ _ _ _ M71.out.n67).trans P71.out.1, setRow_heap _ _ _ _ _ _ P71.out.2⟩)
        have M8 : Hid (MT w g u b2 b4 b5 b6 b7 w8) := Lib.hid (by rw [hw]; exact M71.out.seven_row _)
        have HW8 := Lib.hid hw
        clear hw
        clear M71 P71
        clear M7 P7
        go_wp2_with (first | (refine wpList_store_row rfl 66 (.tmp 6) (.tmp 59) rfl b6 (P10 C1 D1) rfl rfl 66 _ R6.out (sz66.trans (by simp [P10_size])) (by simp [P10_size]) (P10_one _ _) ?_; rw [← HW71.out]) | (refine wpList_store_row rfl 66 (.tmp 7) (.tmp 60) rfl b7 (P10 C2 D2) rfl rfl 66 _ R7.out (sz66.trans (by simp [P10_size])) (by simp [P10_size]) (P10_one _ _) ?_; rw [← HW8.out]) | fail)
        go_roundw
        case measure => simp [intOf]
        refine ⟨j + 1, now, C1, D1, C2, D2, by omega, ?_, rfl, P8.out, ?_, M8.out⟩
        · have := HN.out
          congr 1
          omega
        · show Four4 (sw now (Ed.lstep kF u (bt (254 - j)) (Ed.lad kF u bt 254 j))) _ _ _ _
          rw [← HQ.out, ← HI.out, ← HW.out, ← lstep_sw]
          exact K7.out
      · obtain rfl : j = 255 := by omega
        have Hb60 := Lib.hid (range0 HP.out.1)
        have Hb70 := Lib.hid (range0 HP.out.2)
        go_wp2_with (first | (refine wpList_load_half rfl 26 (.tmp 64) rfl b6 0 rfl (U64 F1) _ Hb60.out Try.underlying26 rfl (sz26.trans (by simp [U64])) ?_) | (refine wpList_load_half rfl 26 (.tmp 66) rfl b7 0 rfl (U64 F2) _ Hb70.out Try.underlying26 rfl (sz26.trans (by simp [U64])) ?_) | fail)
        refine (swap_el _ H4.out.1 H4.out.2.2.1 _).mono ?_
        rintro e w3 ⟨⟨A1, A2, rfl, ka, kb⟩, hb⟩
        have M3 := Lib.hid (HM.out.own hb)
        have P3 := Lib.hid (HP.out.own hb)
        rw [sw_first] at ka
        have KA := Lib.hid ka
        clear hb HM HP Hb60 Hb70 ka kb
        have R1 := Lib.hid (there_U A1 (o := 0) (by decide) P3.out.1)
        obtain ⟨w4, hw⟩ : ∃ w', w' = World.setCells w3 b6 0 (U64 A1).toList := ⟨_, rfl⟩
        have P4 : Hid (PQ b6 b7 A1 G1 F2 G2 w4) := Lib.hid (by rw [hw]; exact P3.out.six0 M3.out.n67 A1)
        have M4 : Hid (MT w g u b2 b4 b5 b6 b7 w4) := Lib.hid (by rw [hw]; exact M3.out.six 0 _)
        have HW4 := Lib.hid hw
        clear hw
        have Hb65 := Lib.hid (range5 P4.out.1)
        have Hb75 := Lib.hid (range5 P4.out.2)
        clear M3 P3
        go_wp2_with (first | (refine wpList_store_mid rfl 26 (.tmp 71) (.tmp 69) rfl b6 0 (U64 A1) rfl rfl R1.out (sz26.trans (by simp [U64])) (vals_one _ _ _) ?_; rw [← HW4.out]) | (refine wpList_load_half rfl 26 (.tmp 74) rfl b6 5 rfl (U64 G1) _ Hb65.out Try.underlying26 rfl (sz26.trans (by simp [U64])) ?_) | (refine wpList_load_half rfl 26 (.tmp 76) rfl b7 5 rfl (U64 G2) _ Hb75.out Try.underlying26 rfl (sz26.trans (by simp [U64])) ?_) | fail)
        refine (swap_el _ H4.out.2.1 H4.out.2.2.2 _).mono ?_
        rintro e w5 ⟨⟨B1, B2, rfl, kc, kd⟩, hb⟩
        have M5 := Lib.hid (M4.out.own hb)
        have P5 := Lib.hid (P4.out.own hb)
        rw [sw_second] at kc
        have KB := Lib.hid kc
        clear hb M4 P4 kc kd Hb65 Hb75 R1
        have R1 := Lib.hid (there_U B1 (o := 5) (by decide) P5.out.1)
        obtain ⟨w6, hw⟩ : ∃ w', w' = World.setCells w5 b6 5 (U64 B1).toList := ⟨_, rfl⟩
        have P6 : Hid (PQ b6 b7 A1 B1 F2 G2 w6) := Lib.hid (by rw [hw]; exact P5.out.six5 M5.out.n67 B1)
        have M6 : Hid (MT w g u b2 b4 b5 b6 b7 w6) := Lib.hid (by rw [hw]; exact M5.out.six 5 _)
        have HW6 := Lib.hid hw
        clear hw
        clear M5 P5
        go_wp2_with (first | (refine wpList_store_mid rfl 26 (.tmp 81) (.tmp 79) rfl b6 5 (U64 B1) rfl rfl R1.out (sz26.trans (by simp [U64])) (vals_one _ _ _) ?_; rw [← HW6.out]) | fail)
        have Mb6 : Hid (PtAt w6 b6 q.1 q.2.1) := Lib.hid ⟨A1, B1, P6.out.1, KA.out, KB.out⟩
        clear R1 P6 HW4 HW6 H4 KA KB
        refine region_kk _ 89 [.eq (.pointer (some ⟨b6, 0, none⟩)), .fe q.1, .eq (.pointer (some ⟨b6, 5, none⟩)), .fe q.2.1, .fe (inv q.2.1), .fe (q.1 * inv q.2.1), .eq (.agg (U8 (xB (q.1 * inv q.2.1))))] (by kernel_rfl) (by rfl) (by kernel_rfl) (by kernel_rfl) (fun x1 hw => ?_) (fun vs v hg hv hap => ?_)
        · refine ⟨?_, ?_, ?_, ?_, ?_, ?_, ?_, trivial⟩
          · intro a x2 hg hsp hd K hK
            have e1 : a.tmps[6]? = some (.pointer (some ⟨b6, 0, none⟩)) := (hsp 6 (by kernel_rfl)).trans rfl
            exact at_value (wanted_free rfl) (run_op_field rfl (eval_tmp e1) (fld0 _ _)) (hK _ _ (grown_refl _ _) rfl (fun h => Bool.noConfusion (show false = true from h)))
          · intro a x2 hg hsp hd K hK
            replace hg := grown_trans hw hg
            obtain ⟨_, e1, h1⟩ := hd 0 _ 82 (by kernel_rfl) rfl rfl
            have h1 : _ = _ := h1
            subst h1
            obtain ⟨f, g, hb, hf, hg2⟩ := Mb6.out.grown hg
            exact at_mid (wanted_free rfl) rfl e1 (range0 hb) Try.underlying26 rfl (sz26.trans (by simp [U64])) (hK _ _ (grown_refl _ _) ⟨_, rfl, hf⟩ (fun h => Bool.noConfusion (show false = true from h)))
          · intro a x2 hg hsp hd K hK
            have e1 : a.tmps[6]? = some (.pointer (some ⟨b6, 0, none⟩)) := (hsp 6 (by kernel_rfl)).trans rfl
            exact at_value (wanted_free rfl) (run_op_field rfl (eval_tmp e1) (fld1 _ _)) (hK _ _ (grown_refl _ _) rfl (fun h => Bool.noConfusion (show false = true from h)))
          · intro a x2 hg hsp hd K hK
            replace hg := grown_trans hw hg
            obtain ⟨_, e1, h1⟩ := hd 2 _ 84 (by kernel_rfl) rfl rfl
            have h1 : _ = _ := h1
            subst h1
            obtain ⟨f, g, hb, hf, hg2⟩ := Mb6.out.grown hg
            exact at_mid (wanted_free rfl) rfl e1 (range5 hb) Try.underlying26 rfl (sz26.trans (by simp [U64])) (hK _ _ (grown_refl _ _) ⟨_, rfl, hg2⟩ (fun h => Bool.noConfusion (show false = true from h)))
          · intro a x2 hg hsp hd K hK
            obtain ⟨_, e1, f1, rfl, h1⟩ := hd 3 _ 85 (by kernel_rfl) rfl rfl
            refine at_call (wanted_free rfl) rfl (args1 e1) Try.func24 (by kernel_rfl) rfl ?_
            refine (eInv h1 _).mono ?_
            rintro e w3 ⟨⟨f, rfl, hf⟩, hb⟩
            exact ⟨_, rfl, hK _ _ (grown_own hb) ⟨_, rfl, hf⟩ (fun h => Bool.noConfusion (show false = true from h))⟩
          · intro a x2 hg hsp hd K hK
            obtain ⟨_, e1, f1, rfl, h1⟩ := hd 1 _ 83 (by kernel_rfl) rfl rfl
            obtain ⟨_, e2, f2, rfl, h2⟩ := hd 4 _ 86 (by kernel_rfl) rfl rfl
            refine at_call (wanted_free rfl) rfl (args2 e1 e2) Try.func22 (by kernel_rfl) rfl ?_
            refine (eMul h1 h2 _).mono ?_
            rintro e w3 ⟨⟨f, rfl, hf⟩, hb⟩
            exact ⟨_, rfl, hK _ _ (grown_own hb) ⟨_, rfl, hf⟩ (fun h => Bool.noConfusion (show false = true from h))⟩
          · intro a x2 hg hsp hd K hK
            obtain ⟨_, e1, f1, rfl, h1⟩ := hd 5 _ 87 (by kernel_rfl) rfl rfl
            refine at_call (wanted_free rfl) rfl (args1 e1) Try.func36 (by kernel_rfl) rfl ?_
            refine (eBytes h1 _).mono ?_
            rintro e w3 ⟨rfl, hb⟩
            exact ⟨_, rfl, hK _ _ (grown_own hb) rfl (fun h => Bool.noConfusion (show false = true from h))⟩
        have v0 : vs 0 = _ := hv 0 _ rfl
        obtain ⟨F83, v1, -⟩ := hv 1 _ rfl
        have v2 : vs 2 = _ := hv 2 _ rfl
        obtain ⟨F85, v3, -⟩ := hv 3 _ rfl
        obtain ⟨F86, v4, -⟩ := hv 4 _ rfl
        obtain ⟨F87, v5, -⟩ := hv 5 _ rfl
        have v6 : vs 6 = _ := hv 6 _ rfl
        have MV := Lib.hid ((hg.block b4 (heap_lt M6.out.res) (by simp)).trans M6.out.res)
        have VB : Hid (Below w.heap.size w v) := Lib.hid (M6.out.below.grown hg M6.out.below.size (fun j hj => by cases hj))
        have L4 := Lib.hid M6.out.lo4
        simp [seqA, Act.put, v0, v1, v2, v3, v4, v5, v6]
        clear hv hap hg
        refine wpList_store_row rfl 22 _ _ rfl b4 _ rfl rfl 22 _ MV.out (sz22.trans (by simp [U8])) (by first | (simp [U8]; done) | (simp [U8]; rfl)) (vals_one _ _ _) ?_
        have V4 := Lib.hid (setRow_heap _ _ _ (U8 (xB (q.1 * inv q.2.1))) _ _ MV.out)
        have VC := Lib.hid (below_setRow VB.out L4.out (U8 (xB (q.1 * inv q.2.1))))
        generalize World.setRow v b4 _ = w9 at V4 VC ⊢
        go_wp2_with fail
        refine bodyPost_ret (results_cell_row rfl _ _ _ 22 _ (0, 0) _ rfl V4.out Try.underlying22 rfl (sz22.trans (by simp [U8]))) rfl ⟨?_, VC.out⟩
        unfold Ed.tim
        rw [← HQ.out]
        rfl
end Go.Proofs.Ytikmghmapmlebaa
