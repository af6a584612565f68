/-
  FieldLaws, walked: of all bytes the call returns true; no condition.
-/
import Derived.Test.YtikmghmapmlebaaPk
namespace Go.Proofs.Ytikmghmapmlebaa
open Go.RowKit Go.Rh F255

theorem add_off (x y : Nat) : (x + y + (pN - y % pN)) % pN = x % pN := by unfold pN; omega
theorem off_add (x y : Nat) : (x + (pN - y % pN) + y) % pN = x % pN := by unfold pN; omega

set_option maxRecDepth 100000 in
theorem f6_r0 {ga gb gc : Nat → Nat} {Q : Exit → Act → World → Prop} {a0 : Act} {w0 : World} (hga : ∀ j, j < 32 → ga j < 256) (hgb : ∀ j, j < 32 → gb j < 256) (hgc : ∀ j, j < 32 → gc j < 256)  {c : Code} (hc : c = Code.region 0 (opsOf Try.f6 0).toArray false) (hN : a0.tmps.size = 117) (hE : Know [(0, .eq (.agg (U8 ga))), (1, .eq (.agg (U8 gb))), (2, .eq (.agg (U8 gc)))] a0 w0)
    (h : ∀ (a : Act) (w : World), w0.grownBy w none → a.defers = a0.defers → a.tmps.size = 117 → Know [(3, .blk 0 (.cells (U8 ga) 22)), (4, .blk 0 (.cells (U8 gb) 22)), (5, .blk 0 (.cells (U8 gc) 22))] a w → Q .normal a w) :
    c.wp Try.prog Q a0 w0 := by
  subst hc
  refine know_lex (opsOf Try.f6 0) 117 [.blk 0 (.cells (U8 ga) 22), .blk 0 (.cells (U8 gb) 22), .blk 0 (.cells (U8 gc) 22), .eq (.bool false)] _ (by kernel_rfl) (by kernel_rfl) hN hE ?_ ?_
  · clear hE h hN
    refine ⟨?_, ?_, ?_, ?_, trivial⟩
    · intro a w hE hB hd K hK
      obtain ⟨_, e1, rfl⟩ := hE.get (i := 0) rfl
      exact at_value (wanted_free rfl) (run_box rfl (eval_tmp e1) (box22 _)) (hK _ _ (grown_new (grown_refl _ _) _) ⟨_, rfl, heap_new' _ _ _ rfl, Nat.zero_le _⟩ (fun _ b hb => by cases hb; exact Nat.le_refl _))
    · intro a w hE hB hd K hK
      obtain ⟨_, e1, rfl⟩ := hE.get (i := 1) rfl
      exact at_value (wanted_free rfl) (run_box rfl (eval_tmp e1) (box22 _)) (hK _ _ (grown_new (grown_refl _ _) _) ⟨_, rfl, heap_new' _ _ _ rfl, Nat.zero_le _⟩ (fun _ b hb => by cases hb; exact Nat.le_refl _))
    · intro a w hE hB hd K hK
      obtain ⟨_, e1, rfl⟩ := hE.get (i := 2) rfl
      exact at_value (wanted_free rfl) (run_box rfl (eval_tmp e1) (box22 _)) (hK _ _ (grown_new (grown_refl _ _) _) ⟨_, rfl, heap_new' _ _ _ rfl, Nat.zero_le _⟩ (fun _ b hb => by cases hb; exact Nat.le_refl _))
    · intro a w hE hB hd K hK
      exact at_value (wanted_free rfl) (run_move (v := .bool false) (Or.inr rfl) rfl) (hK _ _ (grown_refl _ _) rfl (fun h => Bool.noConfusion (show false = true from h)))
  · intro a w hg hdf hs hE hL hap
    have hk : Know [(3, .blk 0 (.cells (U8 ga) 22)), (4, .blk 0 (.cells (U8 gb) 22)), (5, .blk 0 (.cells (U8 gc) 22))] a w := ⟨hL.get (i := 0) rfl, hL.get (i := 1) rfl, hL.get (i := 2) rfl, trivial⟩
    exact h a w hg hdf hs hk

set_option maxRecDepth 100000 in
theorem f6_r1 {ga gb gc : Nat → Nat} {Q : Exit → Act → World → Prop} {a0 : Act} {w0 : World} (hga : ∀ j, j < 32 → ga j < 256) (hgb : ∀ j, j < 32 → gb j < 256) (hgc : ∀ j, j < 32 → gc j < 256)  {c : Code} (hc : c = Code.region 1 (opsOf Try.f6 1).toArray true) (hN : a0.tmps.size = 117) (hE : Know [(3, .blk 0 (.cells (U8 ga) 22)), (4, .blk 0 (.cells (U8 gb) 22)), (5, .blk 0 (.cells (U8 gc) 22))] a0 w0)
    (h : ∀ (a : Act) (w : World), w0.grownBy w none → a.defers = a0.defers → a.tmps.size = 117 → Know [(7, .elAt 0 (leN ga 32 % P255)), (8, .elAt 0 (leN gb 32 % P255)), (9, .elAt 0 (leN gc 32 % P255))] a w → Q .normal a w) :
    c.wp Try.prog Q a0 w0 := by
  subst hc
  refine know_any (opsOf Try.f6 1) 117 [.eq (.agg (U8 ga)), .el (leN ga 32 % P255), .eq (.agg (U8 gb)), .el (leN gb 32 % P255), .eq (.agg (U8 gc)), .el (leN gc 32 % P255), .blk w0.heap.size (.cells Z5 26), .blk w0.heap.size (.cells Z5 26), .blk w0.heap.size (.cells Z5 26)] _ (by kernel_rfl) (by kernel_rfl) (by kernel_rfl) hN hE ?_ ?_
  · clear hE h hN
    refine ⟨?_, ?_, ?_, ?_, ?_, ?_, ?_, ?_, ?_, trivial⟩
    · intro a w hE hB hd K hK
      obtain ⟨_, e1, b1, rfl, hb1, hB1⟩ := hE.get (i := 0) rfl
      exact at_row (wanted_free rfl) rfl e1 hb1 Try.underlying22 rfl (sz22.trans (by simp [U8])) (hK _ _ (grown_refl _ _) rfl (fun h => Bool.noConfusion (show false = true from h)))
    · intro a w hE hB hd K hK
      obtain ⟨_, e1, rfl⟩ := hd 0 _ _ (by kernel_rfl) rfl rfl
      refine at_call (wanted_free rfl) rfl (args1 e1) Try.func14 (by kernel_rfl) rfl ?_
      refine (of_el ga hga w).mono ?_
      rintro e w1 ⟨⟨f, rfl, hf⟩, hb⟩
      exact ⟨_, rfl, hK _ _ (grown_own hb) ⟨_, rfl, hf⟩ (fun h => Bool.noConfusion (show false = true from h))⟩
    · intro a w hE hB hd K hK
      obtain ⟨_, e1, b1, rfl, hb1, hB1⟩ := hE.get (i := 1) rfl
      exact at_row (wanted_free rfl) rfl e1 hb1 Try.underlying22 rfl (sz22.trans (by simp [U8])) (hK _ _ (grown_refl _ _) rfl (fun h => Bool.noConfusion (show false = true from h)))
    · intro a w hE hB hd K hK
      obtain ⟨_, e1, rfl⟩ := hd 2 _ _ (by kernel_rfl) rfl rfl
      refine at_call (wanted_free rfl) rfl (args1 e1) Try.func14 (by kernel_rfl) rfl ?_
      refine (of_el gb hgb w).mono ?_
      rintro e w1 ⟨⟨f, rfl, hf⟩, hb⟩
      exact ⟨_, rfl, hK _ _ (grown_own hb) ⟨_, rfl, hf⟩ (fun h => Bool.noConfusion (show false = true from h))⟩
    · intro a w hE hB hd K hK
      obtain ⟨_, e1, b1, rfl, hb1, hB1⟩ := hE.get (i := 2) rfl
      exact at_row (wanted_free rfl) rfl e1 hb1 Try.underlying22 rfl (sz22.trans (by simp [U8])) (hK _ _ (grown_refl _ _) rfl (fun h => Bool.noConfusion (show false = true from h)))
    · intro a w hE hB hd K hK
      obtain ⟨_, e1, rfl⟩ := hd 4 _ _ (by kernel_rfl) rfl rfl
      refine at_call (wanted_free rfl) rfl (args1 e1) Try.func14 (by kernel_rfl) rfl ?_
      refine (of_el gc hgc w).mono ?_
      rintro e w1 ⟨⟨f, rfl, hf⟩, hb⟩
      exact ⟨_, rfl, hK _ _ (grown_own hb) ⟨_, rfl, hf⟩ (fun h => Bool.noConfusion (show false = true from h))⟩
    · intro a w hE hB hd K hK
      exact at_value (wanted_free rfl) (run_alloc rfl alloc26) (hK _ _ (grown_new (grown_refl _ _) _) ⟨_, rfl, heap_new' _ _ _ rfl, hB⟩ (fun _ b hb => by cases hb; exact Nat.le_refl _))
    · intro a w hE hB hd K hK
      exact at_value (wanted_free rfl) (run_alloc rfl alloc26) (hK _ _ (grown_new (grown_refl _ _) _) ⟨_, rfl, heap_new' _ _ _ rfl, hB⟩ (fun _ b hb => by cases hb; exact Nat.le_refl _))
    · intro a w hE hB hd K hK
      exact at_value (wanted_free rfl) (run_alloc rfl alloc26) (hK _ _ (grown_new (grown_refl _ _) _) ⟨_, rfl, heap_new' _ _ _ rfl, hB⟩ (fun _ b hb => by cases hb; exact Nat.le_refl _))
  · intro a w hg hdf hs hE hL hap
    obtain ⟨_, ep0, b0, rfl, hb0, hB0⟩ := hL.get (i := 6) rfl
    obtain ⟨_, ev0, f0, rfl, hf0⟩ := hL.get (i := 1) rfl
    obtain ⟨_, ep1, b1, rfl, hb1, hB1⟩ := hL.get (i := 7) rfl
    obtain ⟨_, ev1, f1, rfl, hf1⟩ := hL.get (i := 3) rfl
    obtain ⟨_, ep2, b2, rfl, hb2, hB2⟩ := hL.get (i := 8) rfl
    obtain ⟨_, ev2, f2, rfl, hf2⟩ := hL.get (i := 5) rfl
    have n01 := hap 6 7 _ _ _ _ _ _ (by decide) (by simp) (by simp) rfl rfl rfl rfl rfl rfl ep0 ep1
    have n02 := hap 6 8 _ _ _ _ _ _ (by decide) (by simp) (by simp) rfl rfl rfl rfl rfl rfl ep0 ep2
    have n12 := hap 7 8 _ _ _ _ _ _ (by decide) (by simp) (by simp) rfl rfl rfl rfl rfl rfl ep1 ep2
    have hk : Know [] a w := trivial
    refine at_store (w0 := w0) rfl rfl rfl ep0 ev0 hb0 rfl hB0 hg ?_
    intro w1 hg1 hc0 ho1
    replace hb1 := (ho1 b1 (Ne.symm n01)).trans hb1
    replace hb2 := (ho1 b2 (Ne.symm n02)).trans hb2
    have hb0 := hc0
    refine at_store (w0 := w0) rfl rfl rfl ep1 ev1 hb1 rfl hB1 hg1 ?_
    intro w2 hg2 hc1 ho2
    replace hb0 := (ho2 b0 n01).trans hb0
    replace hb2 := (ho2 b2 (Ne.symm n12)).trans hb2
    have hb1 := hc1
    refine at_store (w0 := w0) rfl rfl rfl ep2 ev2 hb2 rfl hB2 hg2 ?_
    intro w3 hg3 hc2 ho3
    replace hb0 := (ho3 b0 n02).trans hb0
    replace hb1 := (ho3 b1 n12).trans hb1
    have hb2 := hc2
    refine h a w3 hg3 hdf hs ?_
    exact ⟨⟨_, ep0, _, _, rfl, hb0, Nat.zero_le _, hf0⟩, ⟨_, ep1, _, _, rfl, hb1, Nat.zero_le _, hf1⟩, ⟨_, ep2, _, _, rfl, hb2, Nat.zero_le _, hf2⟩, trivial⟩

set_option maxRecDepth 100000 in
theorem f6_r2 {ga gb gc : Nat → Nat} {Q : Exit → Act → World → Prop} {a0 : Act} {w0 : World} (hga : ∀ j, j < 32 → ga j < 256) (hgb : ∀ j, j < 32 → gb j < 256) (hgc : ∀ j, j < 32 → gc j < 256) (q0 : ((leN ga 32 % P255) + (leN gb 32 % P255)) % pN = ((leN gb 32 % P255) + (leN ga 32 % P255)) % pN) (q1 : ((leN ga 32 % P255) * (leN gb 32 % P255)) % pN = ((leN gb 32 % P255) * (leN ga 32 % P255)) % pN) (q2 : (((leN ga 32 % P255) + (leN gb 32 % P255)) + (leN gc 32 % P255)) % pN = ((leN ga 32 % P255) + ((leN gb 32 % P255) + (leN gc 32 % P255))) % pN) (q3 : (((leN ga 32 % P255) * (leN gb 32 % P255)) * (leN gc 32 % P255)) % pN = ((leN ga 32 % P255) * ((leN gb 32 % P255) * (leN gc 32 % P255))) % pN) (q4 : (((leN ga 32 % P255) + (leN gb 32 % P255)) * (leN gc 32 % P255)) % pN = (((leN ga 32 % P255) * (leN gc 32 % P255)) + ((leN gb 32 % P255) * (leN gc 32 % P255))) % pN) (q5 : (((leN ga 32 % P255) + (leN gb 32 % P255)) + (pN - (leN gb 32 % P255) % pN)) % pN = leN ga 32 % P255 % pN) (q6 : (((leN ga 32 % P255) + (pN - (leN gb 32 % P255) % pN)) + (leN gb 32 % P255)) % pN = leN ga 32 % P255 % pN) (q7 : ((leN ga 32 % P255) * (1)) % pN = leN ga 32 % P255 % pN) {c : Code} (hc : c = Code.region 2 (opsOf Try.f6 2).toArray true) (hN : a0.tmps.size = 117) (hE : Know [(7, .elAt 0 (leN ga 32 % P255)), (8, .elAt 0 (leN gb 32 % P255)), (9, .elAt 0 (leN gc 32 % P255))] a0 w0)
    (h : ∀ (a : Act) (w : World), w0.grownBy w none → a.defers = a0.defers → a.tmps.size = 117 → Know [(6, .eq (.bool true))] a w → Q .normal a w) :
    c.wp Try.prog Q a0 w0 := by
  subst hc
  refine know_any (opsOf Try.f6 2) 117 [.eq (.bool true), .eq (.bool true), .el (leN ga 32 % P255), .el (leN gb 32 % P255), .el ((leN ga 32 % P255) + (leN gb 32 % P255)), .eq (.string (le32 (((leN ga 32 % P255) + (leN gb 32 % P255)) % pN))), .el (leN gb 32 % P255), .el (leN ga 32 % P255), .el ((leN gb 32 % P255) + (leN ga 32 % P255)), .eq (.string (le32 (((leN gb 32 % P255) + (leN ga 32 % P255)) % pN))), .eq (.bool true), .eq (.bool true), .eq (.bool true), .el (leN ga 32 % P255), .el (leN gb 32 % P255), .el ((leN ga 32 % P255) * (leN gb 32 % P255)), .eq (.string (le32 (((leN ga 32 % P255) * (leN gb 32 % P255)) % pN))), .el (leN gb 32 % P255), .el (leN ga 32 % P255), .el ((leN gb 32 % P255) * (leN ga 32 % P255)), .eq (.string (le32 (((leN gb 32 % P255) * (leN ga 32 % P255)) % pN))), .eq (.bool true), .eq (.bool true), .eq (.bool true), .el (leN ga 32 % P255), .el (leN gb 32 % P255), .el ((leN ga 32 % P255) + (leN gb 32 % P255)), .el (leN gc 32 % P255), .el (((leN ga 32 % P255) + (leN gb 32 % P255)) + (leN gc 32 % P255)), .eq (.string (le32 ((((leN ga 32 % P255) + (leN gb 32 % P255)) + (leN gc 32 % P255)) % pN))), .el (leN ga 32 % P255), .el (leN gb 32 % P255), .el (leN gc 32 % P255), .el ((leN gb 32 % P255) + (leN gc 32 % P255)), .el ((leN ga 32 % P255) + ((leN gb 32 % P255) + (leN gc 32 % P255))), .eq (.string (le32 (((leN ga 32 % P255) + ((leN gb 32 % P255) + (leN gc 32 % P255))) % pN))), .eq (.bool true), .eq (.bool true), .eq (.bool true), .el (leN ga 32 % P255), .el (leN gb 32 % P255), .el ((leN ga 32 % P255) * (leN gb 32 % P255)), .el (leN gc 32 % P255), .el (((leN ga 32 % P255) * (leN gb 32 % P255)) * (leN gc 32 % P255)), .eq (.string (le32 ((((leN ga 32 % P255) * (leN gb 32 % P255)) * (leN gc 32 % P255)) % pN))), .el (leN ga 32 % P255), .el (leN gb 32 % P255), .el (leN gc 32 % P255), .el ((leN gb 32 % P255) * (leN gc 32 % P255)), .el ((leN ga 32 % P255) * ((leN gb 32 % P255) * (leN gc 32 % P255))), .eq (.string (le32 (((leN ga 32 % P255) * ((leN gb 32 % P255) * (leN gc 32 % P255))) % pN))), .eq (.bool true), .eq (.bool true), .eq (.bool true), .el (leN ga 32 % P255), .el (leN gb 32 % P255), .el ((leN ga 32 % P255) + (leN gb 32 % P255)), .el (leN gc 32 % P255), .el (((leN ga 32 % P255) + (leN gb 32 % P255)) * (leN gc 32 % P255)), .eq (.string (le32 ((((leN ga 32 % P255) + (leN gb 32 % P255)) * (leN gc 32 % P255)) % pN))), .el (leN ga 32 % P255), .el (leN gc 32 % P255), .el ((leN ga 32 % P255) * (leN gc 32 % P255)), .el (leN gb 32 % P255), .el (leN gc 32 % P255), .el ((leN gb 32 % P255) * (leN gc 32 % P255)), .el (((leN ga 32 % P255) * (leN gc 32 % P255)) + ((leN gb 32 % P255) * (leN gc 32 % P255))), .eq (.string (le32 ((((leN ga 32 % P255) * (leN gc 32 % P255)) + ((leN gb 32 % P255) * (leN gc 32 % P255))) % pN))), .eq (.bool true), .eq (.bool true), .eq (.bool true), .el (leN ga 32 % P255), .el (leN gb 32 % P255), .el ((leN ga 32 % P255) + (leN gb 32 % P255)), .el (leN gb 32 % P255), .el (((leN ga 32 % P255) + (leN gb 32 % P255)) + (pN - (leN gb 32 % P255) % pN)), .eq (.string (le32 ((((leN ga 32 % P255) + (leN gb 32 % P255)) + (pN - (leN gb 32 % P255) % pN)) % pN))), .el (leN ga 32 % P255), .eq (.string (le32 (leN ga 32 % P255 % pN))), .eq (.bool true), .eq (.bool true), .eq (.bool true), .el (leN ga 32 % P255), .el (leN gb 32 % P255), .el ((leN ga 32 % P255) + (pN - (leN gb 32 % P255) % pN)), .el (leN gb 32 % P255), .el (((leN ga 32 % P255) + (pN - (leN gb 32 % P255) % pN)) + (leN gb 32 % P255)), .eq (.string (le32 ((((leN ga 32 % P255) + (pN - (leN gb 32 % P255) % pN)) + (leN gb 32 % P255)) % pN))), .el (leN ga 32 % P255), .eq (.string (le32 (leN ga 32 % P255 % pN))), .eq (.bool true), .eq (.bool true), .eq (.bool true), .el (leN ga 32 % P255), .el (1), .el ((leN ga 32 % P255) * (1)), .eq (.string (le32 (((leN ga 32 % P255) * (1)) % pN))), .el (leN ga 32 % P255), .eq (.string (le32 (leN ga 32 % P255 % pN))), .eq (.bool true), .eq (.bool true), .eq (.bool true)] _ (by kernel_rfl) (by kernel_rfl) (by kernel_rfl) hN hE ?_ ?_
  · clear hE h hN
    refine ⟨?_, ?_, ?_, ?_, ?_, ?_, ?_, ?_, ?_, ?_, ?_, ?_, ?_, ?_, ?_, ?_, ?_, ?_, ?_, ?_, ?_, ?_, ?_, ?_, ?_, ?_, ?_, ?_, ?_, ?_, ?_, ?_, ?_, ?_, ?_, ?_, ?_, ?_, ?_, ?_, ?_, ?_, ?_, ?_, ?_, ?_, ?_, ?_, ?_, ?_, ?_, ?_, ?_, ?_, ?_, ?_, ?_, ?_, ?_, ?_, ?_, ?_, ?_, ?_, ?_, ?_, ?_, ?_, ?_, ?_, ?_, ?_, ?_, ?_, ?_, ?_, ?_, ?_, ?_, ?_, ?_, ?_, ?_, ?_, ?_, ?_, ?_, ?_, ?_, ?_, ?_, ?_, ?_, ?_, ?_, ?_, ?_, ?_, ?_, ?_, ?_, ?_, trivial⟩
    · intro a w hE hB hd K hK
      refine at_call (wanted_free rfl) rfl (args0) Try.func16 (by kernel_rfl) rfl ?_
      refine (wraps_any w).mono ?_
      rintro e w1 ⟨rfl, hb⟩
      exact ⟨_, rfl, hK _ _ (grown_own hb) rfl (fun h => Bool.noConfusion (show false = true from h))⟩
    · intro a w hE hB hd K hK
      obtain ⟨_, e1, rfl⟩ := hd 0 _ _ (by kernel_rfl) rfl rfl
      exact at_value (wanted_free rfl) (run_move (Or.inl rfl) (eval_tmp e1)) (hK _ _ (grown_refl _ _) rfl (fun h => Bool.noConfusion (show false = true from h)))
    · intro a w hE hB hd K hK
      obtain ⟨_, eg, rfl⟩ := hd 1 _ _ (by kernel_rfl) rfl rfl
      obtain ⟨_, e1, b1, f1, rfl, hb1, hB1, h1⟩ := hE.get (i := 0) rfl
      exact at_row (wanted_on rfl rfl rfl eg) rfl e1 hb1 Try.underlying26 rfl (sz26.trans (by simp [U64])) (hK _ _ (grown_refl _ _) ⟨_, rfl, h1⟩ (fun h => Bool.noConfusion (show false = true from h)))
    · intro a w hE hB hd K hK
      obtain ⟨_, eg, rfl⟩ := hd 1 _ _ (by kernel_rfl) rfl rfl
      obtain ⟨_, e1, b1, f1, rfl, hb1, hB1, h1⟩ := hE.get (i := 1) rfl
      exact at_row (wanted_on rfl rfl rfl eg) rfl e1 hb1 Try.underlying26 rfl (sz26.trans (by simp [U64])) (hK _ _ (grown_refl _ _) ⟨_, rfl, h1⟩ (fun h => Bool.noConfusion (show false = true from h)))
    · intro a w hE hB hd K hK
      obtain ⟨_, eg, rfl⟩ := hd 1 _ _ (by kernel_rfl) rfl rfl
      obtain ⟨_, e1, f1, rfl, h1⟩ := hd 2 _ _ (by kernel_rfl) rfl rfl
      obtain ⟨_, e2, f2, rfl, h2⟩ := hd 3 _ _ (by kernel_rfl) rfl rfl
      refine at_call (wanted_on rfl rfl rfl eg) rfl (args2 e1 e2) Try.func18 (by kernel_rfl) rfl ?_
      refine (add_el h1 h2 w).mono ?_
      rintro e w1 ⟨⟨f, rfl, hf⟩, hb⟩
      exact ⟨_, rfl, hK _ _ (grown_own hb) ⟨_, rfl, hf⟩ (fun h => Bool.noConfusion (show false = true from h))⟩
    · intro a w hE hB hd K hK
      obtain ⟨_, eg, rfl⟩ := hd 1 _ _ (by kernel_rfl) rfl rfl
      obtain ⟨_, e1, f1, rfl, h1⟩ := hd 4 _ _ (by kernel_rfl) rfl rfl
      refine at_call (wanted_on rfl rfl rfl eg) rfl (args1 e1) Try.func17 (by kernel_rfl) rfl ?_
      refine (text_any _ _ h1 w).mono ?_
      rintro e w1 ⟨rfl, hb⟩
      exact ⟨_, rfl, hK _ _ (grown_own hb) rfl (fun h => Bool.noConfusion (show false = true from h))⟩
    · intro a w hE hB hd K hK
      obtain ⟨_, eg, rfl⟩ := hd 1 _ _ (by kernel_rfl) rfl rfl
      obtain ⟨_, e1, b1, f1, rfl, hb1, hB1, h1⟩ := hE.get (i := 1) rfl
      exact at_row (wanted_on rfl rfl rfl eg) rfl e1 hb1 Try.underlying26 rfl (sz26.trans (by simp [U64])) (hK _ _ (grown_refl _ _) ⟨_, rfl, h1⟩ (fun h => Bool.noConfusion (show false = true from h)))
    · intro a w hE hB hd K hK
      obtain ⟨_, eg, rfl⟩ := hd 1 _ _ (by kernel_rfl) rfl rfl
      obtain ⟨_, e1, b1, f1, rfl, hb1, hB1, h1⟩ := hE.get (i := 0) rfl
      exact at_row (wanted_on rfl rfl rfl eg) rfl e1 hb1 Try.underlying26 rfl (sz26.trans (by simp [U64])) (hK _ _ (grown_refl _ _) ⟨_, rfl, h1⟩ (fun h => Bool.noConfusion (show false = true from h)))
    · intro a w hE hB hd K hK
      obtain ⟨_, eg, rfl⟩ := hd 1 _ _ (by kernel_rfl) rfl rfl
      obtain ⟨_, e1, f1, rfl, h1⟩ := hd 6 _ _ (by kernel_rfl) rfl rfl
      obtain ⟨_, e2, f2, rfl, h2⟩ := hd 7 _ _ (by kernel_rfl) rfl rfl
      refine at_call (wanted_on rfl rfl rfl eg) rfl (args2 e1 e2) Try.func18 (by kernel_rfl) rfl ?_
      refine (add_el h1 h2 w).mono ?_
      rintro e w1 ⟨⟨f, rfl, hf⟩, hb⟩
      exact ⟨_, rfl, hK _ _ (grown_own hb) ⟨_, rfl, hf⟩ (fun h => Bool.noConfusion (show false = true from h))⟩
    · intro a w hE hB hd K hK
      obtain ⟨_, eg, rfl⟩ := hd 1 _ _ (by kernel_rfl) rfl rfl
      obtain ⟨_, e1, f1, rfl, h1⟩ := hd 8 _ _ (by kernel_rfl) rfl rfl
      refine at_call (wanted_on rfl rfl rfl eg) rfl (args1 e1) Try.func17 (by kernel_rfl) rfl ?_
      refine (text_any _ _ h1 w).mono ?_
      rintro e w1 ⟨rfl, hb⟩
      exact ⟨_, rfl, hK _ _ (grown_own hb) rfl (fun h => Bool.noConfusion (show false = true from h))⟩
    · intro a w hE hB hd K hK
      obtain ⟨_, eg, rfl⟩ := hd 1 _ _ (by kernel_rfl) rfl rfl
      obtain ⟨_, e1, rfl⟩ := hd 5 _ _ (by kernel_rfl) rfl rfl
      obtain ⟨_, e2, rfl⟩ := hd 9 _ _ (by kernel_rfl) rfl rfl
      exact at_value (wanted_on rfl rfl rfl eg) (run_eqs rfl (eval_tmp e1) (eval_tmp e2)) (hK _ _ (grown_refl _ _) (show Value.bool _ = Value.bool true from by rw [q0]; simp) (fun h => Bool.noConfusion (show false = true from h)))
    · intro a w hE hB hd K hK
      obtain ⟨_, e1, rfl⟩ := hd 1 _ _ (by kernel_rfl) rfl rfl
      obtain ⟨_, e2, rfl⟩ := hd 10 _ _ (by kernel_rfl) rfl rfl
      exact at_value (wanted_free rfl) (run_pick rfl (eval_tmp e1) ((if_pos rfl).trans (eval_tmp e2))) (hK _ _ (grown_refl _ _) rfl (fun h => Bool.noConfusion (show false = true from h)))
    · intro a w hE hB hd K hK
      obtain ⟨_, e1, rfl⟩ := hd 11 _ _ (by kernel_rfl) rfl rfl
      exact at_value (wanted_free rfl) (run_move (Or.inl rfl) (eval_tmp e1)) (hK _ _ (grown_refl _ _) rfl (fun h => Bool.noConfusion (show false = true from h)))
    · intro a w hE hB hd K hK
      obtain ⟨_, eg, rfl⟩ := hd 12 _ _ (by kernel_rfl) rfl rfl
      obtain ⟨_, e1, b1, f1, rfl, hb1, hB1, h1⟩ := hE.get (i := 0) rfl
      exact at_row (wanted_on rfl rfl rfl eg) rfl e1 hb1 Try.underlying26 rfl (sz26.trans (by simp [U64])) (hK _ _ (grown_refl _ _) ⟨_, rfl, h1⟩ (fun h => Bool.noConfusion (show false = true from h)))
    · intro a w hE hB hd K hK
      obtain ⟨_, eg, rfl⟩ := hd 12 _ _ (by kernel_rfl) rfl rfl
      obtain ⟨_, e1, b1, f1, rfl, hb1, hB1, h1⟩ := hE.get (i := 1) rfl
      exact at_row (wanted_on rfl rfl rfl eg) rfl e1 hb1 Try.underlying26 rfl (sz26.trans (by simp [U64])) (hK _ _ (grown_refl _ _) ⟨_, rfl, h1⟩ (fun h => Bool.noConfusion (show false = true from h)))
    · intro a w hE hB hd K hK
      obtain ⟨_, eg, rfl⟩ := hd 12 _ _ (by kernel_rfl) rfl rfl
      obtain ⟨_, e1, f1, rfl, h1⟩ := hd 13 _ _ (by kernel_rfl) rfl rfl
      obtain ⟨_, e2, f2, rfl, h2⟩ := hd 14 _ _ (by kernel_rfl) rfl rfl
      refine at_call (wanted_on rfl rfl rfl eg) rfl (args2 e1 e2) Try.func22 (by kernel_rfl) rfl ?_
      refine (mul_el h1 h2 w).mono ?_
      rintro e w1 ⟨⟨f, rfl, hf⟩, hb⟩
      exact ⟨_, rfl, hK _ _ (grown_own hb) ⟨_, rfl, hf⟩ (fun h => Bool.noConfusion (show false = true from h))⟩
    · intro a w hE hB hd K hK
      obtain ⟨_, eg, rfl⟩ := hd 12 _ _ (by kernel_rfl) rfl rfl
      obtain ⟨_, e1, f1, rfl, h1⟩ := hd 15 _ _ (by kernel_rfl) rfl rfl
      refine at_call (wanted_on rfl rfl rfl eg) rfl (args1 e1) Try.func17 (by kernel_rfl) rfl ?_
      refine (text_any _ _ h1 w).mono ?_
      rintro e w1 ⟨rfl, hb⟩
      exact ⟨_, rfl, hK _ _ (grown_own hb) rfl (fun h => Bool.noConfusion (show false = true from h))⟩
    · intro a w hE hB hd K hK
      obtain ⟨_, eg, rfl⟩ := hd 12 _ _ (by kernel_rfl) rfl rfl
      obtain ⟨_, e1, b1, f1, rfl, hb1, hB1, h1⟩ := hE.get (i := 1) rfl
      exact at_row (wanted_on rfl rfl rfl eg) rfl e1 hb1 Try.underlying26 rfl (sz26.trans (by simp [U64])) (hK _ _ (grown_refl _ _) ⟨_, rfl, h1⟩ (fun h => Bool.noConfusion (show false = true from h)))
    · intro a w hE hB hd K hK
      obtain ⟨_, eg, rfl⟩ := hd 12 _ _ (by kernel_rfl) rfl rfl
      obtain ⟨_, e1, b1, f1, rfl, hb1, hB1, h1⟩ := hE.get (i := 0) rfl
      exact at_row (wanted_on rfl rfl rfl eg) rfl e1 hb1 Try.underlying26 rfl (sz26.trans (by simp [U64])) (hK _ _ (grown_refl _ _) ⟨_, rfl, h1⟩ (fun h => Bool.noConfusion (show false = true from h)))
    · intro a w hE hB hd K hK
      obtain ⟨_, eg, rfl⟩ := hd 12 _ _ (by kernel_rfl) rfl rfl
      obtain ⟨_, e1, f1, rfl, h1⟩ := hd 17 _ _ (by kernel_rfl) rfl rfl
      obtain ⟨_, e2, f2, rfl, h2⟩ := hd 18 _ _ (by kernel_rfl) rfl rfl
      refine at_call (wanted_on rfl rfl rfl eg) rfl (args2 e1 e2) Try.func22 (by kernel_rfl) rfl ?_
      refine (mul_el h1 h2 w).mono ?_
      rintro e w1 ⟨⟨f, rfl, hf⟩, hb⟩
      exact ⟨_, rfl, hK _ _ (grown_own hb) ⟨_, rfl, hf⟩ (fun h => Bool.noConfusion (show false = true from h))⟩
    · intro a w hE hB hd K hK
      obtain ⟨_, eg, rfl⟩ := hd 12 _ _ (by kernel_rfl) rfl rfl
      obtain ⟨_, e1, f1, rfl, h1⟩ := hd 19 _ _ (by kernel_rfl) rfl rfl
      refine at_call (wanted_on rfl rfl rfl eg) rfl (args1 e1) Try.func17 (by kernel_rfl) rfl ?_
      refine (text_any _ _ h1 w).mono ?_
      rintro e w1 ⟨rfl, hb⟩
      exact ⟨_, rfl, hK _ _ (grown_own hb) rfl (fun h => Bool.noConfusion (show false = true from h))⟩
    · intro a w hE hB hd K hK
      obtain ⟨_, eg, rfl⟩ := hd 12 _ _ (by kernel_rfl) rfl rfl
      obtain ⟨_, e1, rfl⟩ := hd 16 _ _ (by kernel_rfl) rfl rfl
      obtain ⟨_, e2, rfl⟩ := hd 20 _ _ (by kernel_rfl) rfl rfl
      exact at_value (wanted_on rfl rfl rfl eg) (run_eqs rfl (eval_tmp e1) (eval_tmp e2)) (hK _ _ (grown_refl _ _) (show Value.bool _ = Value.bool true from by rw [q1]; simp) (fun h => Bool.noConfusion (show false = true from h)))
    · intro a w hE hB hd K hK
      obtain ⟨_, e1, rfl⟩ := hd 12 _ _ (by kernel_rfl) rfl rfl
      obtain ⟨_, e2, rfl⟩ := hd 21 _ _ (by kernel_rfl) rfl rfl
      exact at_value (wanted_free rfl) (run_pick rfl (eval_tmp e1) ((if_pos rfl).trans (eval_tmp e2))) (hK _ _ (grown_refl _ _) rfl (fun h => Bool.noConfusion (show false = true from h)))
    · intro a w hE hB hd K hK
      obtain ⟨_, e1, rfl⟩ := hd 22 _ _ (by kernel_rfl) rfl rfl
      exact at_value (wanted_free rfl) (run_move (Or.inl rfl) (eval_tmp e1)) (hK _ _ (grown_refl _ _) rfl (fun h => Bool.noConfusion (show false = true from h)))
    · intro a w hE hB hd K hK
      obtain ⟨_, eg, rfl⟩ := hd 23 _ _ (by kernel_rfl) rfl rfl
      obtain ⟨_, e1, b1, f1, rfl, hb1, hB1, h1⟩ := hE.get (i := 0) rfl
      exact at_row (wanted_on rfl rfl rfl eg) rfl e1 hb1 Try.underlying26 rfl (sz26.trans (by simp [U64])) (hK _ _ (grown_refl _ _) ⟨_, rfl, h1⟩ (fun h => Bool.noConfusion (show false = true from h)))
    · intro a w hE hB hd K hK
      obtain ⟨_, eg, rfl⟩ := hd 23 _ _ (by kernel_rfl) rfl rfl
      obtain ⟨_, e1, b1, f1, rfl, hb1, hB1, h1⟩ := hE.get (i := 1) rfl
      exact at_row (wanted_on rfl rfl rfl eg) rfl e1 hb1 Try.underlying26 rfl (sz26.trans (by simp [U64])) (hK _ _ (grown_refl _ _) ⟨_, rfl, h1⟩ (fun h => Bool.noConfusion (show false = true from h)))
    · intro a w hE hB hd K hK
      obtain ⟨_, eg, rfl⟩ := hd 23 _ _ (by kernel_rfl) rfl rfl
      obtain ⟨_, e1, f1, rfl, h1⟩ := hd 24 _ _ (by kernel_rfl) rfl rfl
      obtain ⟨_, e2, f2, rfl, h2⟩ := hd 25 _ _ (by kernel_rfl) rfl rfl
      refine at_call (wanted_on rfl rfl rfl eg) rfl (args2 e1 e2) Try.func18 (by kernel_rfl) rfl ?_
      refine (add_el h1 h2 w).mono ?_
      rintro e w1 ⟨⟨f, rfl, hf⟩, hb⟩
      exact ⟨_, rfl, hK _ _ (grown_own hb) ⟨_, rfl, hf⟩ (fun h => Bool.noConfusion (show false = true from h))⟩
    · intro a w hE hB hd K hK
      obtain ⟨_, eg, rfl⟩ := hd 23 _ _ (by kernel_rfl) rfl rfl
      obtain ⟨_, e1, b1, f1, rfl, hb1, hB1, h1⟩ := hE.get (i := 2) rfl
      exact at_row (wanted_on rfl rfl rfl eg) rfl e1 hb1 Try.underlying26 rfl (sz26.trans (by simp [U64])) (hK _ _ (grown_refl _ _) ⟨_, rfl, h1⟩ (fun h => Bool.noConfusion (show false = true from h)))
    · intro a w hE hB hd K hK
      obtain ⟨_, eg, rfl⟩ := hd 23 _ _ (by kernel_rfl) rfl rfl
      obtain ⟨_, e1, f1, rfl, h1⟩ := hd 26 _ _ (by kernel_rfl) rfl rfl
      obtain ⟨_, e2, f2, rfl, h2⟩ := hd 27 _ _ (by kernel_rfl) rfl rfl
      refine at_call (wanted_on rfl rfl rfl eg) rfl (args2 e1 e2) Try.func18 (by kernel_rfl) rfl ?_
      refine (add_el h1 h2 w).mono ?_
      rintro e w1 ⟨⟨f, rfl, hf⟩, hb⟩
      exact ⟨_, rfl, hK _ _ (grown_own hb) ⟨_, rfl, hf⟩ (fun h => Bool.noConfusion (show false = true from h))⟩
    · intro a w hE hB hd K hK
      obtain ⟨_, eg, rfl⟩ := hd 23 _ _ (by kernel_rfl) rfl rfl
      obtain ⟨_, e1, f1, rfl, h1⟩ := hd 28 _ _ (by kernel_rfl) rfl rfl
      refine at_call (wanted_on rfl rfl rfl eg) rfl (args1 e1) Try.func17 (by kernel_rfl) rfl ?_
      refine (text_any _ _ h1 w).mono ?_
      rintro e w1 ⟨rfl, hb⟩
      exact ⟨_, rfl, hK _ _ (grown_own hb) rfl (fun h => Bool.noConfusion (show false = true from h))⟩
    · intro a w hE hB hd K hK
      obtain ⟨_, eg, rfl⟩ := hd 23 _ _ (by kernel_rfl) rfl rfl
      obtain ⟨_, e1, b1, f1, rfl, hb1, hB1, h1⟩ := hE.get (i := 0) rfl
      exact at_row (wanted_on rfl rfl rfl eg) rfl e1 hb1 Try.underlying26 rfl (sz26.trans (by simp [U64])) (hK _ _ (grown_refl _ _) ⟨_, rfl, h1⟩ (fun h => Bool.noConfusion (show false = true from h)))
    · intro a w hE hB hd K hK
      obtain ⟨_, eg, rfl⟩ := hd 23 _ _ (by kernel_rfl) rfl rfl
      obtain ⟨_, e1, b1, f1, rfl, hb1, hB1, h1⟩ := hE.get (i := 1) rfl
      exact at_row (wanted_on rfl rfl rfl eg) rfl e1 hb1 Try.underlying26 rfl (sz26.trans (by simp [U64])) (hK _ _ (grown_refl _ _) ⟨_, rfl, h1⟩ (fun h => Bool.noConfusion (show false = true from h)))
    · intro a w hE hB hd K hK
      obtain ⟨_, eg, rfl⟩ := hd 23 _ _ (by kernel_rfl) rfl rfl
      obtain ⟨_, e1, b1, f1, rfl, hb1, hB1, h1⟩ := hE.get (i := 2) rfl
      exact at_row (wanted_on rfl rfl rfl eg) rfl e1 hb1 Try.underlying26 rfl (sz26.trans (by simp [U64])) (hK _ _ (grown_refl _ _) ⟨_, rfl, h1⟩ (fun h => Bool.noConfusion (show false = true from h)))
    · intro a w hE hB hd K hK
      obtain ⟨_, eg, rfl⟩ := hd 23 _ _ (by kernel_rfl) rfl rfl
      obtain ⟨_, e1, f1, rfl, h1⟩ := hd 31 _ _ (by kernel_rfl) rfl rfl
      obtain ⟨_, e2, f2, rfl, h2⟩ := hd 32 _ _ (by kernel_rfl) rfl rfl
      refine at_call (wanted_on rfl rfl rfl eg) rfl (args2 e1 e2) Try.func18 (by kernel_rfl) rfl ?_
      refine (add_el h1 h2 w).mono ?_
      rintro e w1 ⟨⟨f, rfl, hf⟩, hb⟩
      exact ⟨_, rfl, hK _ _ (grown_own hb) ⟨_, rfl, hf⟩ (fun h => Bool.noConfusion (show false = true from h))⟩
    · intro a w hE hB hd K hK
      obtain ⟨_, eg, rfl⟩ := hd 23 _ _ (by kernel_rfl) rfl rfl
      obtain ⟨_, e1, f1, rfl, h1⟩ := hd 30 _ _ (by kernel_rfl) rfl rfl
      obtain ⟨_, e2, f2, rfl, h2⟩ := hd 33 _ _ (by kernel_rfl) rfl rfl
      refine at_call (wanted_on rfl rfl rfl eg) rfl (args2 e1 e2) Try.func18 (by kernel_rfl) rfl ?_
      refine (add_el h1 h2 w).mono ?_
      rintro e w1 ⟨⟨f, rfl, hf⟩, hb⟩
      exact ⟨_, rfl, hK _ _ (grown_own hb) ⟨_, rfl, hf⟩ (fun h => Bool.noConfusion (show false = true from h))⟩
    · intro a w hE hB hd K hK
      obtain ⟨_, eg, rfl⟩ := hd 23 _ _ (by kernel_rfl) rfl rfl
      obtain ⟨_, e1, f1, rfl, h1⟩ := hd 34 _ _ (by kernel_rfl) rfl rfl
      refine at_call (wanted_on rfl rfl rfl eg) rfl (args1 e1) Try.func17 (by kernel_rfl) rfl ?_
      refine (text_any _ _ h1 w).mono ?_
      rintro e w1 ⟨rfl, hb⟩
      exact ⟨_, rfl, hK _ _ (grown_own hb) rfl (fun h => Bool.noConfusion (show false = true from h))⟩
    · intro a w hE hB hd K hK
      obtain ⟨_, eg, rfl⟩ := hd 23 _ _ (by kernel_rfl) rfl rfl
      obtain ⟨_, e1, rfl⟩ := hd 29 _ _ (by kernel_rfl) rfl rfl
      obtain ⟨_, e2, rfl⟩ := hd 35 _ _ (by kernel_rfl) rfl rfl
      exact at_value (wanted_on rfl rfl rfl eg) (run_eqs rfl (eval_tmp e1) (eval_tmp e2)) (hK _ _ (grown_refl _ _) (show Value.bool _ = Value.bool true from by rw [q2]; simp) (fun h => Bool.noConfusion (show false = true from h)))
    · intro a w hE hB hd K hK
      obtain ⟨_, e1, rfl⟩ := hd 23 _ _ (by kernel_rfl) rfl rfl
      obtain ⟨_, e2, rfl⟩ := hd 36 _ _ (by kernel_rfl) rfl rfl
      exact at_value (wanted_free rfl) (run_pick rfl (eval_tmp e1) ((if_pos rfl).trans (eval_tmp e2))) (hK _ _ (grown_refl _ _) rfl (fun h => Bool.noConfusion (show false = true from h)))
    · intro a w hE hB hd K hK
      obtain ⟨_, e1, rfl⟩ := hd 37 _ _ (by kernel_rfl) rfl rfl
      exact at_value (wanted_free rfl) (run_move (Or.inl rfl) (eval_tmp e1)) (hK _ _ (grown_refl _ _) rfl (fun h => Bool.noConfusion (show false = true from h)))
    · intro a w hE hB hd K hK
      obtain ⟨_, eg, rfl⟩ := hd 38 _ _ (by kernel_rfl) rfl rfl
      obtain ⟨_, e1, b1, f1, rfl, hb1, hB1, h1⟩ := hE.get (i := 0) rfl
      exact at_row (wanted_on rfl rfl rfl eg) rfl e1 hb1 Try.underlying26 rfl (sz26.trans (by simp [U64])) (hK _ _ (grown_refl _ _) ⟨_, rfl, h1⟩ (fun h => Bool.noConfusion (show false = true from h)))
    · intro a w hE hB hd K hK
      obtain ⟨_, eg, rfl⟩ := hd 38 _ _ (by kernel_rfl) rfl rfl
      obtain ⟨_, e1, b1, f1, rfl, hb1, hB1, h1⟩ := hE.get (i := 1) rfl
      exact at_row (wanted_on rfl rfl rfl eg) rfl e1 hb1 Try.underlying26 rfl (sz26.trans (by simp [U64])) (hK _ _ (grown_refl _ _) ⟨_, rfl, h1⟩ (fun h => Bool.noConfusion (show false = true from h)))
    · intro a w hE hB hd K hK
      obtain ⟨_, eg, rfl⟩ := hd 38 _ _ (by kernel_rfl) rfl rfl
      obtain ⟨_, e1, f1, rfl, h1⟩ := hd 39 _ _ (by kernel_rfl) rfl rfl
      obtain ⟨_, e2, f2, rfl, h2⟩ := hd 40 _ _ (by kernel_rfl) rfl rfl
      refine at_call (wanted_on rfl rfl rfl eg) rfl (args2 e1 e2) Try.func22 (by kernel_rfl) rfl ?_
      refine (mul_el h1 h2 w).mono ?_
      rintro e w1 ⟨⟨f, rfl, hf⟩, hb⟩
      exact ⟨_, rfl, hK _ _ (grown_own hb) ⟨_, rfl, hf⟩ (fun h => Bool.noConfusion (show false = true from h))⟩
    · intro a w hE hB hd K hK
      obtain ⟨_, eg, rfl⟩ := hd 38 _ _ (by kernel_rfl) rfl rfl
      obtain ⟨_, e1, b1, f1, rfl, hb1, hB1, h1⟩ := hE.get (i := 2) rfl
      exact at_row (wanted_on rfl rfl rfl eg) rfl e1 hb1 Try.underlying26 rfl (sz26.trans (by simp [U64])) (hK _ _ (grown_refl _ _) ⟨_, rfl, h1⟩ (fun h => Bool.noConfusion (show false = true from h)))
    · intro a w hE hB hd K hK
      obtain ⟨_, eg, rfl⟩ := hd 38 _ _ (by kernel_rfl) rfl rfl
      obtain ⟨_, e1, f1, rfl, h1⟩ := hd 41 _ _ (by kernel_rfl) rfl rfl
      obtain ⟨_, e2, f2, rfl, h2⟩ := hd 42 _ _ (by kernel_rfl) rfl rfl
      refine at_call (wanted_on rfl rfl rfl eg) rfl (args2 e1 e2) Try.func22 (by kernel_rfl) rfl ?_
      refine (mul_el h1 h2 w).mono ?_
      rintro e w1 ⟨⟨f, rfl, hf⟩, hb⟩
      exact ⟨_, rfl, hK _ _ (grown_own hb) ⟨_, rfl, hf⟩ (fun h => Bool.noConfusion (show false = true from h))⟩
    · intro a w hE hB hd K hK
      obtain ⟨_, eg, rfl⟩ := hd 38 _ _ (by kernel_rfl) rfl rfl
      obtain ⟨_, e1, f1, rfl, h1⟩ := hd 43 _ _ (by kernel_rfl) rfl rfl
      refine at_call (wanted_on rfl rfl rfl eg) rfl (args1 e1) Try.func17 (by kernel_rfl) rfl ?_
      refine (text_any _ _ h1 w).mono ?_
      rintro e w1 ⟨rfl, hb⟩
      exact ⟨_, rfl, hK _ _ (grown_own hb) rfl (fun h => Bool.noConfusion (show false = true from h))⟩
    · intro a w hE hB hd K hK
      obtain ⟨_, eg, rfl⟩ := hd 38 _ _ (by kernel_rfl) rfl rfl
      obtain ⟨_, e1, b1, f1, rfl, hb1, hB1, h1⟩ := hE.get (i := 0) rfl
      exact at_row (wanted_on rfl rfl rfl eg) rfl e1 hb1 Try.underlying26 rfl (sz26.trans (by simp [U64])) (hK _ _ (grown_refl _ _) ⟨_, rfl, h1⟩ (fun h => Bool.noConfusion (show false = true from h)))
    · intro a w hE hB hd K hK
      obtain ⟨_, eg, rfl⟩ := hd 38 _ _ (by kernel_rfl) rfl rfl
      obtain ⟨_, e1, b1, f1, rfl, hb1, hB1, h1⟩ := hE.get (i := 1) rfl
      exact at_row (wanted_on rfl rfl rfl eg) rfl e1 hb1 Try.underlying26 rfl (sz26.trans (by simp [U64])) (hK _ _ (grown_refl _ _) ⟨_, rfl, h1⟩ (fun h => Bool.noConfusion (show false = true from h)))
    · intro a w hE hB hd K hK
      obtain ⟨_, eg, rfl⟩ := hd 38 _ _ (by kernel_rfl) rfl rfl
      obtain ⟨_, e1, b1, f1, rfl, hb1, hB1, h1⟩ := hE.get (i := 2) rfl
      exact at_row (wanted_on rfl rfl rfl eg) rfl e1 hb1 Try.underlying26 rfl (sz26.trans (by simp [U64])) (hK _ _ (grown_refl _ _) ⟨_, rfl, h1⟩ (fun h => Bool.noConfusion (show false = true from h)))
    · intro a w hE hB hd K hK
      obtain ⟨_, eg, rfl⟩ := hd 38 _ _ (by kernel_rfl) rfl rfl
      obtain ⟨_, e1, f1, rfl, h1⟩ := hd 46 _ _ (by kernel_rfl) rfl rfl
      obtain ⟨_, e2, f2, rfl, h2⟩ := hd 47 _ _ (by kernel_rfl) rfl rfl
      refine at_call (wanted_on rfl rfl rfl eg) rfl (args2 e1 e2) Try.func22 (by kernel_rfl) rfl ?_
      refine (mul_el h1 h2 w).mono ?_
      rintro e w1 ⟨⟨f, rfl, hf⟩, hb⟩
      exact ⟨_, rfl, hK _ _ (grown_own hb) ⟨_, rfl, hf⟩ (fun h => Bool.noConfusion (show false = true from h))⟩
    · intro a w hE hB hd K hK
      obtain ⟨_, eg, rfl⟩ := hd 38 _ _ (by kernel_rfl) rfl rfl
      obtain ⟨_, e1, f1, rfl, h1⟩ := hd 45 _ _ (by kernel_rfl) rfl rfl
      obtain ⟨_, e2, f2, rfl, h2⟩ := hd 48 _ _ (by kernel_rfl) rfl rfl
      refine at_call (wanted_on rfl rfl rfl eg) rfl (args2 e1 e2) Try.func22 (by kernel_rfl) rfl ?_
      refine (mul_el h1 h2 w).mono ?_
      rintro e w1 ⟨⟨f, rfl, hf⟩, hb⟩
      exact ⟨_, rfl, hK _ _ (grown_own hb) ⟨_, rfl, hf⟩ (fun h => Bool.noConfusion (show false = true from h))⟩
    · intro a w hE hB hd K hK
      obtain ⟨_, eg, rfl⟩ := hd 38 _ _ (by kernel_rfl) rfl rfl
      obtain ⟨_, e1, f1, rfl, h1⟩ := hd 49 _ _ (by kernel_rfl) rfl rfl
      refine at_call (wanted_on rfl rfl rfl eg) rfl (args1 e1) Try.func17 (by kernel_rfl) rfl ?_
      refine (text_any _ _ h1 w).mono ?_
      rintro e w1 ⟨rfl, hb⟩
      exact ⟨_, rfl, hK _ _ (grown_own hb) rfl (fun h => Bool.noConfusion (show false = true from h))⟩
    · intro a w hE hB hd K hK
      obtain ⟨_, eg, rfl⟩ := hd 38 _ _ (by kernel_rfl) rfl rfl
      obtain ⟨_, e1, rfl⟩ := hd 44 _ _ (by kernel_rfl) rfl rfl
      obtain ⟨_, e2, rfl⟩ := hd 50 _ _ (by kernel_rfl) rfl rfl
      exact at_value (wanted_on rfl rfl rfl eg) (run_eqs rfl (eval_tmp e1) (eval_tmp e2)) (hK _ _ (grown_refl _ _) (show Value.bool _ = Value.bool true from by rw [q3]; simp) (fun h => Bool.noConfusion (show false = true from h)))
    · intro a w hE hB hd K hK
      obtain ⟨_, e1, rfl⟩ := hd 38 _ _ (by kernel_rfl) rfl rfl
      obtain ⟨_, e2, rfl⟩ := hd 51 _ _ (by kernel_rfl) rfl rfl
      exact at_value (wanted_free rfl) (run_pick rfl (eval_tmp e1) ((if_pos rfl).trans (eval_tmp e2))) (hK _ _ (grown_refl _ _) rfl (fun h => Bool.noConfusion (show false = true from h)))
    · intro a w hE hB hd K hK
      obtain ⟨_, e1, rfl⟩ := hd 52 _ _ (by kernel_rfl) rfl rfl
      exact at_value (wanted_free rfl) (run_move (Or.inl rfl) (eval_tmp e1)) (hK _ _ (grown_refl _ _) rfl (fun h => Bool.noConfusion (show false = true from h)))
    · intro a w hE hB hd K hK
      obtain ⟨_, eg, rfl⟩ := hd 53 _ _ (by kernel_rfl) rfl rfl
      obtain ⟨_, e1, b1, f1, rfl, hb1, hB1, h1⟩ := hE.get (i := 0) rfl
      exact at_row (wanted_on rfl rfl rfl eg) rfl e1 hb1 Try.underlying26 rfl (sz26.trans (by simp [U64])) (hK _ _ (grown_refl _ _) ⟨_, rfl, h1⟩ (fun h => Bool.noConfusion (show false = true from h)))
    · intro a w hE hB hd K hK
      obtain ⟨_, eg, rfl⟩ := hd 53 _ _ (by kernel_rfl) rfl rfl
      obtain ⟨_, e1, b1, f1, rfl, hb1, hB1, h1⟩ := hE.get (i := 1) rfl
      exact at_row (wanted_on rfl rfl rfl eg) rfl e1 hb1 Try.underlying26 rfl (sz26.trans (by simp [U64])) (hK _ _ (grown_refl _ _) ⟨_, rfl, h1⟩ (fun h => Bool.noConfusion (show false = true from h)))
    · intro a w hE hB hd K hK
      obtain ⟨_, eg, rfl⟩ := hd 53 _ _ (by kernel_rfl) rfl rfl
      obtain ⟨_, e1, f1, rfl, h1⟩ := hd 54 _ _ (by kernel_rfl) rfl rfl
      obtain ⟨_, e2, f2, rfl, h2⟩ := hd 55 _ _ (by kernel_rfl) rfl rfl
      refine at_call (wanted_on rfl rfl rfl eg) rfl (args2 e1 e2) Try.func18 (by kernel_rfl) rfl ?_
      refine (add_el h1 h2 w).mono ?_
      rintro e w1 ⟨⟨f, rfl, hf⟩, hb⟩
      exact ⟨_, rfl, hK _ _ (grown_own hb) ⟨_, rfl, hf⟩ (fun h => Bool.noConfusion (show false = true from h))⟩
    · intro a w hE hB hd K hK
      obtain ⟨_, eg, rfl⟩ := hd 53 _ _ (by kernel_rfl) rfl rfl
      obtain ⟨_, e1, b1, f1, rfl, hb1, hB1, h1⟩ := hE.get (i := 2) rfl
      exact at_row (wanted_on rfl rfl rfl eg) rfl e1 hb1 Try.underlying26 rfl (sz26.trans (by simp [U64])) (hK _ _ (grown_refl _ _) ⟨_, rfl, h1⟩ (fun h => Bool.noConfusion (show false = true from h)))
    · intro a w hE hB hd K hK
      obtain ⟨_, eg, rfl⟩ := hd 53 _ _ (by kernel_rfl) rfl rfl
      obtain ⟨_, e1, f1, rfl, h1⟩ := hd 56 _ _ (by kernel_rfl) rfl rfl
      obtain ⟨_, e2, f2, rfl, h2⟩ := hd 57 _ _ (by kernel_rfl) rfl rfl
      refine at_call (wanted_on rfl rfl rfl eg) rfl (args2 e1 e2) Try.func22 (by kernel_rfl) rfl ?_
      refine (mul_el h1 h2 w).mono ?_
      rintro e w1 ⟨⟨f, rfl, hf⟩, hb⟩
      exact ⟨_, rfl, hK _ _ (grown_own hb) ⟨_, rfl, hf⟩ (fun h => Bool.noConfusion (show false = true from h))⟩
    · intro a w hE hB hd K hK
      obtain ⟨_, eg, rfl⟩ := hd 53 _ _ (by kernel_rfl) rfl rfl
      obtain ⟨_, e1, f1, rfl, h1⟩ := hd 58 _ _ (by kernel_rfl) rfl rfl
      refine at_call (wanted_on rfl rfl rfl eg) rfl (args1 e1) Try.func17 (by kernel_rfl) rfl ?_
      refine (text_any _ _ h1 w).mono ?_
      rintro e w1 ⟨rfl, hb⟩
      exact ⟨_, rfl, hK _ _ (grown_own hb) rfl (fun h => Bool.noConfusion (show false = true from h))⟩
    · intro a w hE hB hd K hK
      obtain ⟨_, eg, rfl⟩ := hd 53 _ _ (by kernel_rfl) rfl rfl
      obtain ⟨_, e1, b1, f1, rfl, hb1, hB1, h1⟩ := hE.get (i := 0) rfl
      exact at_row (wanted_on rfl rfl rfl eg) rfl e1 hb1 Try.underlying26 rfl (sz26.trans (by simp [U64])) (hK _ _ (grown_refl _ _) ⟨_, rfl, h1⟩ (fun h => Bool.noConfusion (show false = true from h)))
    · intro a w hE hB hd K hK
      obtain ⟨_, eg, rfl⟩ := hd 53 _ _ (by kernel_rfl) rfl rfl
      obtain ⟨_, e1, b1, f1, rfl, hb1, hB1, h1⟩ := hE.get (i := 2) rfl
      exact at_row (wanted_on rfl rfl rfl eg) rfl e1 hb1 Try.underlying26 rfl (sz26.trans (by simp [U64])) (hK _ _ (grown_refl _ _) ⟨_, rfl, h1⟩ (fun h => Bool.noConfusion (show false = true from h)))
    · intro a w hE hB hd K hK
      obtain ⟨_, eg, rfl⟩ := hd 53 _ _ (by kernel_rfl) rfl rfl
      obtain ⟨_, e1, f1, rfl, h1⟩ := hd 60 _ _ (by kernel_rfl) rfl rfl
      obtain ⟨_, e2, f2, rfl, h2⟩ := hd 61 _ _ (by kernel_rfl) rfl rfl
      refine at_call (wanted_on rfl rfl rfl eg) rfl (args2 e1 e2) Try.func22 (by kernel_rfl) rfl ?_
      refine (mul_el h1 h2 w).mono ?_
      rintro e w1 ⟨⟨f, rfl, hf⟩, hb⟩
      exact ⟨_, rfl, hK _ _ (grown_own hb) ⟨_, rfl, hf⟩ (fun h => Bool.noConfusion (show false = true from h))⟩
    · intro a w hE hB hd K hK
      obtain ⟨_, eg, rfl⟩ := hd 53 _ _ (by kernel_rfl) rfl rfl
      obtain ⟨_, e1, b1, f1, rfl, hb1, hB1, h1⟩ := hE.get (i := 1) rfl
      exact at_row (wanted_on rfl rfl rfl eg) rfl e1 hb1 Try.underlying26 rfl (sz26.trans (by simp [U64])) (hK _ _ (grown_refl _ _) ⟨_, rfl, h1⟩ (fun h => Bool.noConfusion (show false = true from h)))
    · intro a w hE hB hd K hK
      obtain ⟨_, eg, rfl⟩ := hd 53 _ _ (by kernel_rfl) rfl rfl
      obtain ⟨_, e1, b1, f1, rfl, hb1, hB1, h1⟩ := hE.get (i := 2) rfl
      exact at_row (wanted_on rfl rfl rfl eg) rfl e1 hb1 Try.underlying26 rfl (sz26.trans (by simp [U64])) (hK _ _ (grown_refl _ _) ⟨_, rfl, h1⟩ (fun h => Bool.noConfusion (show false = true from h)))
    · intro a w hE hB hd K hK
      obtain ⟨_, eg, rfl⟩ := hd 53 _ _ (by kernel_rfl) rfl rfl
      obtain ⟨_, e1, f1, rfl, h1⟩ := hd 63 _ _ (by kernel_rfl) rfl rfl
      obtain ⟨_, e2, f2, rfl, h2⟩ := hd 64 _ _ (by kernel_rfl) rfl rfl
      refine at_call (wanted_on rfl rfl rfl eg) rfl (args2 e1 e2) Try.func22 (by kernel_rfl) rfl ?_
      refine (mul_el h1 h2 w).mono ?_
      rintro e w1 ⟨⟨f, rfl, hf⟩, hb⟩
      exact ⟨_, rfl, hK _ _ (grown_own hb) ⟨_, rfl, hf⟩ (fun h => Bool.noConfusion (show false = true from h))⟩
    · intro a w hE hB hd K hK
      obtain ⟨_, eg, rfl⟩ := hd 53 _ _ (by kernel_rfl) rfl rfl
      obtain ⟨_, e1, f1, rfl, h1⟩ := hd 62 _ _ (by kernel_rfl) rfl rfl
      obtain ⟨_, e2, f2, rfl, h2⟩ := hd 65 _ _ (by kernel_rfl) rfl rfl
      refine at_call (wanted_on rfl rfl rfl eg) rfl (args2 e1 e2) Try.func18 (by kernel_rfl) rfl ?_
      refine (add_el h1 h2 w).mono ?_
      rintro e w1 ⟨⟨f, rfl, hf⟩, hb⟩
      exact ⟨_, rfl, hK _ _ (grown_own hb) ⟨_, rfl, hf⟩ (fun h => Bool.noConfusion (show false = true from h))⟩
    · intro a w hE hB hd K hK
      obtain ⟨_, eg, rfl⟩ := hd 53 _ _ (by kernel_rfl) rfl rfl
      obtain ⟨_, e1, f1, rfl, h1⟩ := hd 66 _ _ (by kernel_rfl) rfl rfl
      refine at_call (wanted_on rfl rfl rfl eg) rfl (args1 e1) Try.func17 (by kernel_rfl) rfl ?_
      refine (text_any _ _ h1 w).mono ?_
      rintro e w1 ⟨rfl, hb⟩
      exact ⟨_, rfl, hK _ _ (grown_own hb) rfl (fun h => Bool.noConfusion (show false = true from h))⟩
    · intro a w hE hB hd K hK
      obtain ⟨_, eg, rfl⟩ := hd 53 _ _ (by kernel_rfl) rfl rfl
      obtain ⟨_, e1, rfl⟩ := hd 59 _ _ (by kernel_rfl) rfl rfl
      obtain ⟨_, e2, rfl⟩ := hd 67 _ _ (by kernel_rfl) rfl rfl
      exact at_value (wanted_on rfl rfl rfl eg) (run_eqs rfl (eval_tmp e1) (eval_tmp e2)) (hK _ _ (grown_refl _ _) (show Value.bool _ = Value.bool true from by rw [q4]; simp) (fun h => Bool.noConfusion (show false = true from h)))
    · intro a w hE hB hd K hK
      obtain ⟨_, e1, rfl⟩ := hd 53 _ _ (by kernel_rfl) rfl rfl
      obtain ⟨_, e2, rfl⟩ := hd 68 _ _ (by kernel_rfl) rfl rfl
      exact at_value (wanted_free rfl) (run_pick rfl (eval_tmp e1) ((if_pos rfl).trans (eval_tmp e2))) (hK _ _ (grown_refl _ _) rfl (fun h => Bool.noConfusion (show false = true from h)))
    · intro a w hE hB hd K hK
      obtain ⟨_, e1, rfl⟩ := hd 69 _ _ (by kernel_rfl) rfl rfl
      exact at_value (wanted_free rfl) (run_move (Or.inl rfl) (eval_tmp e1)) (hK _ _ (grown_refl _ _) rfl (fun h => Bool.noConfusion (show false = true from h)))
    · intro a w hE hB hd K hK
      obtain ⟨_, eg, rfl⟩ := hd 70 _ _ (by kernel_rfl) rfl rfl
      obtain ⟨_, e1, b1, f1, rfl, hb1, hB1, h1⟩ := hE.get (i := 0) rfl
      exact at_row (wanted_on rfl rfl rfl eg) rfl e1 hb1 Try.underlying26 rfl (sz26.trans (by simp [U64])) (hK _ _ (grown_refl _ _) ⟨_, rfl, h1⟩ (fun h => Bool.noConfusion (show false = true from h)))
    · intro a w hE hB hd K hK
      obtain ⟨_, eg, rfl⟩ := hd 70 _ _ (by kernel_rfl) rfl rfl
      obtain ⟨_, e1, b1, f1, rfl, hb1, hB1, h1⟩ := hE.get (i := 1) rfl
      exact at_row (wanted_on rfl rfl rfl eg) rfl e1 hb1 Try.underlying26 rfl (sz26.trans (by simp [U64])) (hK _ _ (grown_refl _ _) ⟨_, rfl, h1⟩ (fun h => Bool.noConfusion (show false = true from h)))
    · intro a w hE hB hd K hK
      obtain ⟨_, eg, rfl⟩ := hd 70 _ _ (by kernel_rfl) rfl rfl
      obtain ⟨_, e1, f1, rfl, h1⟩ := hd 71 _ _ (by kernel_rfl) rfl rfl
      obtain ⟨_, e2, f2, rfl, h2⟩ := hd 72 _ _ (by kernel_rfl) rfl rfl
      refine at_call (wanted_on rfl rfl rfl eg) rfl (args2 e1 e2) Try.func18 (by kernel_rfl) rfl ?_
      refine (add_el h1 h2 w).mono ?_
      rintro e w1 ⟨⟨f, rfl, hf⟩, hb⟩
      exact ⟨_, rfl, hK _ _ (grown_own hb) ⟨_, rfl, hf⟩ (fun h => Bool.noConfusion (show false = true from h))⟩
    · intro a w hE hB hd K hK
      obtain ⟨_, eg, rfl⟩ := hd 70 _ _ (by kernel_rfl) rfl rfl
      obtain ⟨_, e1, b1, f1, rfl, hb1, hB1, h1⟩ := hE.get (i := 1) rfl
      exact at_row (wanted_on rfl rfl rfl eg) rfl e1 hb1 Try.underlying26 rfl (sz26.trans (by simp [U64])) (hK _ _ (grown_refl _ _) ⟨_, rfl, h1⟩ (fun h => Bool.noConfusion (show false = true from h)))
    · intro a w hE hB hd K hK
      obtain ⟨_, eg, rfl⟩ := hd 70 _ _ (by kernel_rfl) rfl rfl
      obtain ⟨_, e1, f1, rfl, h1⟩ := hd 73 _ _ (by kernel_rfl) rfl rfl
      obtain ⟨_, e2, f2, rfl, h2⟩ := hd 74 _ _ (by kernel_rfl) rfl rfl
      refine at_call (wanted_on rfl rfl rfl eg) rfl (args2 e1 e2) Try.func20 (by kernel_rfl) rfl ?_
      refine (sub_mod h1 h2 w).mono ?_
      rintro e w1 ⟨⟨f, rfl, hf⟩, hb⟩
      exact ⟨_, rfl, hK _ _ (grown_own hb) ⟨_, rfl, hf⟩ (fun h => Bool.noConfusion (show false = true from h))⟩
    · intro a w hE hB hd K hK
      obtain ⟨_, eg, rfl⟩ := hd 70 _ _ (by kernel_rfl) rfl rfl
      obtain ⟨_, e1, f1, rfl, h1⟩ := hd 75 _ _ (by kernel_rfl) rfl rfl
      refine at_call (wanted_on rfl rfl rfl eg) rfl (args1 e1) Try.func17 (by kernel_rfl) rfl ?_
      refine (text_any _ _ h1 w).mono ?_
      rintro e w1 ⟨rfl, hb⟩
      exact ⟨_, rfl, hK _ _ (grown_own hb) rfl (fun h => Bool.noConfusion (show false = true from h))⟩
    · intro a w hE hB hd K hK
      obtain ⟨_, eg, rfl⟩ := hd 70 _ _ (by kernel_rfl) rfl rfl
      obtain ⟨_, e1, b1, f1, rfl, hb1, hB1, h1⟩ := hE.get (i := 0) rfl
      exact at_row (wanted_on rfl rfl rfl eg) rfl e1 hb1 Try.underlying26 rfl (sz26.trans (by simp [U64])) (hK _ _ (grown_refl _ _) ⟨_, rfl, h1⟩ (fun h => Bool.noConfusion (show false = true from h)))
    · intro a w hE hB hd K hK
      obtain ⟨_, eg, rfl⟩ := hd 70 _ _ (by kernel_rfl) rfl rfl
      obtain ⟨_, e1, f1, rfl, h1⟩ := hd 77 _ _ (by kernel_rfl) rfl rfl
      refine at_call (wanted_on rfl rfl rfl eg) rfl (args1 e1) Try.func17 (by kernel_rfl) rfl ?_
      refine (text_any _ _ h1 w).mono ?_
      rintro e w1 ⟨rfl, hb⟩
      exact ⟨_, rfl, hK _ _ (grown_own hb) rfl (fun h => Bool.noConfusion (show false = true from h))⟩
    · intro a w hE hB hd K hK
      obtain ⟨_, eg, rfl⟩ := hd 70 _ _ (by kernel_rfl) rfl rfl
      obtain ⟨_, e1, rfl⟩ := hd 76 _ _ (by kernel_rfl) rfl rfl
      obtain ⟨_, e2, rfl⟩ := hd 78 _ _ (by kernel_rfl) rfl rfl
      exact at_value (wanted_on rfl rfl rfl eg) (run_eqs rfl (eval_tmp e1) (eval_tmp e2)) (hK _ _ (grown_refl _ _) (show Value.bool _ = Value.bool true from by rw [q5]; simp) (fun h => Bool.noConfusion (show false = true from h)))
    · intro a w hE hB hd K hK
      obtain ⟨_, e1, rfl⟩ := hd 70 _ _ (by kernel_rfl) rfl rfl
      obtain ⟨_, e2, rfl⟩ := hd 79 _ _ (by kernel_rfl) rfl rfl
      exact at_value (wanted_free rfl) (run_pick rfl (eval_tmp e1) ((if_pos rfl).trans (eval_tmp e2))) (hK _ _ (grown_refl _ _) rfl (fun h => Bool.noConfusion (show false = true from h)))
    · intro a w hE hB hd K hK
      obtain ⟨_, e1, rfl⟩ := hd 80 _ _ (by kernel_rfl) rfl rfl
      exact at_value (wanted_free rfl) (run_move (Or.inl rfl) (eval_tmp e1)) (hK _ _ (grown_refl _ _) rfl (fun h => Bool.noConfusion (show false = true from h)))
    · intro a w hE hB hd K hK
      obtain ⟨_, eg, rfl⟩ := hd 81 _ _ (by kernel_rfl) rfl rfl
      obtain ⟨_, e1, b1, f1, rfl, hb1, hB1, h1⟩ := hE.get (i := 0) rfl
      exact at_row (wanted_on rfl rfl rfl eg) rfl e1 hb1 Try.underlying26 rfl (sz26.trans (by simp [U64])) (hK _ _ (grown_refl _ _) ⟨_, rfl, h1⟩ (fun h => Bool.noConfusion (show false = true from h)))
    · intro a w hE hB hd K hK
      obtain ⟨_, eg, rfl⟩ := hd 81 _ _ (by kernel_rfl) rfl rfl
      obtain ⟨_, e1, b1, f1, rfl, hb1, hB1, h1⟩ := hE.get (i := 1) rfl
      exact at_row (wanted_on rfl rfl rfl eg) rfl e1 hb1 Try.underlying26 rfl (sz26.trans (by simp [U64])) (hK _ _ (grown_refl _ _) ⟨_, rfl, h1⟩ (fun h => Bool.noConfusion (show false = true from h)))
    · intro a w hE hB hd K hK
      obtain ⟨_, eg, rfl⟩ := hd 81 _ _ (by kernel_rfl) rfl rfl
      obtain ⟨_, e1, f1, rfl, h1⟩ := hd 82 _ _ (by kernel_rfl) rfl rfl
      obtain ⟨_, e2, f2, rfl, h2⟩ := hd 83 _ _ (by kernel_rfl) rfl rfl
      refine at_call (wanted_on rfl rfl rfl eg) rfl (args2 e1 e2) Try.func20 (by kernel_rfl) rfl ?_
      refine (sub_mod h1 h2 w).mono ?_
      rintro e w1 ⟨⟨f, rfl, hf⟩, hb⟩
      exact ⟨_, rfl, hK _ _ (grown_own hb) ⟨_, rfl, hf⟩ (fun h => Bool.noConfusion (show false = true from h))⟩
    · intro a w hE hB hd K hK
      obtain ⟨_, eg, rfl⟩ := hd 81 _ _ (by kernel_rfl) rfl rfl
      obtain ⟨_, e1, b1, f1, rfl, hb1, hB1, h1⟩ := hE.get (i := 1) rfl
      exact at_row (wanted_on rfl rfl rfl eg) rfl e1 hb1 Try.underlying26 rfl (sz26.trans (by simp [U64])) (hK _ _ (grown_refl _ _) ⟨_, rfl, h1⟩ (fun h => Bool.noConfusion (show false = true from h)))
    · intro a w hE hB hd K hK
      obtain ⟨_, eg, rfl⟩ := hd 81 _ _ (by kernel_rfl) rfl rfl
      obtain ⟨_, e1, f1, rfl, h1⟩ := hd 84 _ _ (by kernel_rfl) rfl rfl
      obtain ⟨_, e2, f2, rfl, h2⟩ := hd 85 _ _ (by kernel_rfl) rfl rfl
      refine at_call (wanted_on rfl rfl rfl eg) rfl (args2 e1 e2) Try.func18 (by kernel_rfl) rfl ?_
      refine (add_el h1 h2 w).mono ?_
      rintro e w1 ⟨⟨f, rfl, hf⟩, hb⟩
      exact ⟨_, rfl, hK _ _ (grown_own hb) ⟨_, rfl, hf⟩ (fun h => Bool.noConfusion (show false = true from h))⟩
    · intro a w hE hB hd K hK
      obtain ⟨_, eg, rfl⟩ := hd 81 _ _ (by kernel_rfl) rfl rfl
      obtain ⟨_, e1, f1, rfl, h1⟩ := hd 86 _ _ (by kernel_rfl) rfl rfl
      refine at_call (wanted_on rfl rfl rfl eg) rfl (args1 e1) Try.func17 (by kernel_rfl) rfl ?_
      refine (text_any _ _ h1 w).mono ?_
      rintro e w1 ⟨rfl, hb⟩
      exact ⟨_, rfl, hK _ _ (grown_own hb) rfl (fun h => Bool.noConfusion (show false = true from h))⟩
    · intro a w hE hB hd K hK
      obtain ⟨_, eg, rfl⟩ := hd 81 _ _ (by kernel_rfl) rfl rfl
      obtain ⟨_, e1, b1, f1, rfl, hb1, hB1, h1⟩ := hE.get (i := 0) rfl
      exact at_row (wanted_on rfl rfl rfl eg) rfl e1 hb1 Try.underlying26 rfl (sz26.trans (by simp [U64])) (hK _ _ (grown_refl _ _) ⟨_, rfl, h1⟩ (fun h => Bool.noConfusion (show false = true from h)))
    · intro a w hE hB hd K hK
      obtain ⟨_, eg, rfl⟩ := hd 81 _ _ (by kernel_rfl) rfl rfl
      obtain ⟨_, e1, f1, rfl, h1⟩ := hd 88 _ _ (by kernel_rfl) rfl rfl
      refine at_call (wanted_on rfl rfl rfl eg) rfl (args1 e1) Try.func17 (by kernel_rfl) rfl ?_
      refine (text_any _ _ h1 w).mono ?_
      rintro e w1 ⟨rfl, hb⟩
      exact ⟨_, rfl, hK _ _ (grown_own hb) rfl (fun h => Bool.noConfusion (show false = true from h))⟩
    · intro a w hE hB hd K hK
      obtain ⟨_, eg, rfl⟩ := hd 81 _ _ (by kernel_rfl) rfl rfl
      obtain ⟨_, e1, rfl⟩ := hd 87 _ _ (by kernel_rfl) rfl rfl
      obtain ⟨_, e2, rfl⟩ := hd 89 _ _ (by kernel_rfl) rfl rfl
      exact at_value (wanted_on rfl rfl rfl eg) (run_eqs rfl (eval_tmp e1) (eval_tmp e2)) (hK _ _ (grown_refl _ _) (show Value.bool _ = Value.bool true from by rw [q6]; simp) (fun h => Bool.noConfusion (show false = true from h)))
    · intro a w hE hB hd K hK
      obtain ⟨_, e1, rfl⟩ := hd 81 _ _ (by kernel_rfl) rfl rfl
      obtain ⟨_, e2, rfl⟩ := hd 90 _ _ (by kernel_rfl) rfl rfl
      exact at_value (wanted_free rfl) (run_pick rfl (eval_tmp e1) ((if_pos rfl).trans (eval_tmp e2))) (hK _ _ (grown_refl _ _) rfl (fun h => Bool.noConfusion (show false = true from h)))
    · intro a w hE hB hd K hK
      obtain ⟨_, e1, rfl⟩ := hd 91 _ _ (by kernel_rfl) rfl rfl
      exact at_value (wanted_free rfl) (run_move (Or.inl rfl) (eval_tmp e1)) (hK _ _ (grown_refl _ _) rfl (fun h => Bool.noConfusion (show false = true from h)))
    · intro a w hE hB hd K hK
      obtain ⟨_, eg, rfl⟩ := hd 92 _ _ (by kernel_rfl) rfl rfl
      obtain ⟨_, e1, b1, f1, rfl, hb1, hB1, h1⟩ := hE.get (i := 0) rfl
      exact at_row (wanted_on rfl rfl rfl eg) rfl e1 hb1 Try.underlying26 rfl (sz26.trans (by simp [U64])) (hK _ _ (grown_refl _ _) ⟨_, rfl, h1⟩ (fun h => Bool.noConfusion (show false = true from h)))
    · intro a w hE hB hd K hK
      obtain ⟨_, eg, rfl⟩ := hd 92 _ _ (by kernel_rfl) rfl rfl
      refine at_call (wanted_on rfl rfl rfl eg) rfl (args0) Try.func27 (by kernel_rfl) rfl ?_
      refine (one_any w).mono ?_
      rintro e w1 ⟨⟨f, rfl, hf⟩, hb⟩
      exact ⟨_, rfl, hK _ _ (grown_own hb) ⟨_, rfl, hf⟩ (fun h => Bool.noConfusion (show false = true from h))⟩
    · intro a w hE hB hd K hK
      obtain ⟨_, eg, rfl⟩ := hd 92 _ _ (by kernel_rfl) rfl rfl
      obtain ⟨_, e1, f1, rfl, h1⟩ := hd 93 _ _ (by kernel_rfl) rfl rfl
      obtain ⟨_, e2, f2, rfl, h2⟩ := hd 94 _ _ (by kernel_rfl) rfl rfl
      refine at_call (wanted_on rfl rfl rfl eg) rfl (args2 e1 e2) Try.func22 (by kernel_rfl) rfl ?_
      refine (mul_el h1 h2 w).mono ?_
      rintro e w1 ⟨⟨f, rfl, hf⟩, hb⟩
      exact ⟨_, rfl, hK _ _ (grown_own hb) ⟨_, rfl, hf⟩ (fun h => Bool.noConfusion (show false = true from h))⟩
    · intro a w hE hB hd K hK
      obtain ⟨_, eg, rfl⟩ := hd 92 _ _ (by kernel_rfl) rfl rfl
      obtain ⟨_, e1, f1, rfl, h1⟩ := hd 95 _ _ (by kernel_rfl) rfl rfl
      refine at_call (wanted_on rfl rfl rfl eg) rfl (args1 e1) Try.func17 (by kernel_rfl) rfl ?_
      refine (text_any _ _ h1 w).mono ?_
      rintro e w1 ⟨rfl, hb⟩
      exact ⟨_, rfl, hK _ _ (grown_own hb) rfl (fun h => Bool.noConfusion (show false = true from h))⟩
    · intro a w hE hB hd K hK
      obtain ⟨_, eg, rfl⟩ := hd 92 _ _ (by kernel_rfl) rfl rfl
      obtain ⟨_, e1, b1, f1, rfl, hb1, hB1, h1⟩ := hE.get (i := 0) rfl
      exact at_row (wanted_on rfl rfl rfl eg) rfl e1 hb1 Try.underlying26 rfl (sz26.trans (by simp [U64])) (hK _ _ (grown_refl _ _) ⟨_, rfl, h1⟩ (fun h => Bool.noConfusion (show false = true from h)))
    · intro a w hE hB hd K hK
      obtain ⟨_, eg, rfl⟩ := hd 92 _ _ (by kernel_rfl) rfl rfl
      obtain ⟨_, e1, f1, rfl, h1⟩ := hd 97 _ _ (by kernel_rfl) rfl rfl
      refine at_call (wanted_on rfl rfl rfl eg) rfl (args1 e1) Try.func17 (by kernel_rfl) rfl ?_
      refine (text_any _ _ h1 w).mono ?_
      rintro e w1 ⟨rfl, hb⟩
      exact ⟨_, rfl, hK _ _ (grown_own hb) rfl (fun h => Bool.noConfusion (show false = true from h))⟩
    · intro a w hE hB hd K hK
      obtain ⟨_, eg, rfl⟩ := hd 92 _ _ (by kernel_rfl) rfl rfl
      obtain ⟨_, e1, rfl⟩ := hd 96 _ _ (by kernel_rfl) rfl rfl
      obtain ⟨_, e2, rfl⟩ := hd 98 _ _ (by kernel_rfl) rfl rfl
      exact at_value (wanted_on rfl rfl rfl eg) (run_eqs rfl (eval_tmp e1) (eval_tmp e2)) (hK _ _ (grown_refl _ _) (show Value.bool _ = Value.bool true from by rw [q7]; simp) (fun h => Bool.noConfusion (show false = true from h)))
    · intro a w hE hB hd K hK
      obtain ⟨_, e1, rfl⟩ := hd 92 _ _ (by kernel_rfl) rfl rfl
      obtain ⟨_, e2, rfl⟩ := hd 99 _ _ (by kernel_rfl) rfl rfl
      exact at_value (wanted_free rfl) (run_pick rfl (eval_tmp e1) ((if_pos rfl).trans (eval_tmp e2))) (hK _ _ (grown_refl _ _) rfl (fun h => Bool.noConfusion (show false = true from h)))
    · intro a w hE hB hd K hK
      obtain ⟨_, e1, rfl⟩ := hd 100 _ _ (by kernel_rfl) rfl rfl
      exact at_value (wanted_free rfl) (run_move (Or.inr rfl) (eval_tmp e1)) (hK _ _ (grown_refl _ _) rfl (fun h => Bool.noConfusion (show false = true from h)))
  · intro a w hg hdf hs hE hL hap
    have hk : Know [(6, .eq (.bool true))] a w := ⟨hL.get (i := 101) rfl, trivial⟩
    exact h a w hg hdf hs hk

set_option maxRecDepth 100000 in
/-- FieldLaws -/
theorem laws_any (ga gb gc : Nat → Nat) (hga : ∀ j, j < 32 → ga j < 256) (hgb : ∀ j, j < 32 → gb j < 256) (hgc : ∀ j, j < 32 → gc j < 256) (w : World) :
    Calls Try.prog 6 #[.agg (U8 ga), .agg (U8 gb), .agg (U8 gc)] w fun e w' => e = .returned (.bool true) ∧ Below w.heap.size w w' := by
  refine calls_of_wp Try.func6 rfl ?_
  refine wp_seq (f6_r0 hga hgb hgc  (by kernel_rfl) (start_size (by kernel_rfl) (by simp)) start3 ?_)
  intro t0 w0 g0 d0 s0 K0
  show Code.wp _ _ _ _ _
  refine wp_seq (f6_r1 hga hgb hgc  (by kernel_rfl) s0 K0 ?_)
  intro t1 w1 g1 d1 s1 K1
  show Code.wp _ _ _ _ _
  refine wp_seq (f6_r2 hga hgb hgc (congrArg (· % pN) (Nat.add_comm _ _)) (congrArg (· % pN) (Nat.mul_comm _ _)) (congrArg (· % pN) (Nat.add_assoc _ _ _)) (congrArg (· % pN) (Nat.mul_assoc _ _ _)) (congrArg (· % pN) (Nat.add_mul _ _ _)) (add_off _ _) (off_add _ _) (congrArg (· % pN) (Nat.mul_one _)) (by kernel_rfl) s1 K1 ?_)
  intro t2 w2 g2 d2 s2 K2
  show Code.wp _ _ _ _ _
  obtain ⟨_, e, rfl⟩ := K2.get (i := 0) rfl
  exact wp_ret ⟨d2.trans (d1.trans (d0)), _, results_tmp rfl e, rfl, below_grown (grown_trans (grown_trans (g0) g1) g2)⟩
end Go.Proofs.Ytikmghmapmlebaa
