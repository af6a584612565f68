/-
  FieldInverse, walked: of all bytes the call returns true; no condition.
-/
import Derived.Test.YtikmghmapmlebaaPl
import Derived.Test.YtikmghmapmlebaaQf
namespace Go.Proofs.Ytikmghmapmlebaa
open Go.RowKit Go.Rh F255

set_option maxRecDepth 100000 in
theorem f5_r0 {ga : Nat → Nat} {Q : Exit → Act → World → Prop} {a0 : Act} {w0 : World} (hga : ∀ j, j < 32 → ga j < 256)  {c : Code} (hc : c = Code.region 0 (opsOf Try.f5 0).toArray false) (hN : a0.tmps.size = 42) (hE : Know [(0, .eq (.agg (U8 ga)))] a0 w0)
    (h : ∀ (a : Act) (w : World), w0.grownBy w none → a.defers = a0.defers → a.tmps.size = 42 → Know [(1, .blk 0 (.cells (U8 ga) 22))] a w → Q .normal a w) :
    c.wp Try.prog Q a0 w0 := by
  subst hc
  refine know_lex (opsOf Try.f5 0) 42 [.blk 0 (.cells (U8 ga) 22), .eq (.bool false)] _ (by kernel_rfl) (by kernel_rfl) hN hE ?_ ?_
  · clear hE h hN
    refine ⟨?_, ?_, trivial⟩
    · intro a w hE hB hd K hK
      obtain ⟨_, e1, rfl⟩ := hE.get (i := 0) rfl
      exact at_value (wanted_free rfl) (run_box rfl (eval_tmp e1) (box22 _)) (hK _ _ (grown_new (grown_refl _ _) _) ⟨_, rfl, heap_new' _ _ _ rfl, Nat.zero_le _⟩ (fun _ b hb => by cases hb; exact Nat.le_refl _))
    · intro a w hE hB hd K hK
      exact at_value (wanted_free rfl) (run_move (v := .bool false) (Or.inr rfl) rfl) (hK _ _ (grown_refl _ _) rfl (fun h => Bool.noConfusion (show false = true from h)))
  · intro a w hg hdf hs hE hL hap
    have hk : Know [(1, .blk 0 (.cells (U8 ga) 22))] a w := ⟨hL.get (i := 0) rfl, trivial⟩
    exact h a w hg hdf hs hk

set_option maxRecDepth 100000 in
theorem f5_r1 {ga : Nat → Nat} {Q : Exit → Act → World → Prop} {a0 : Act} {w0 : World} (hga : ∀ j, j < 32 → ga j < 256)  {c : Code} (hc : c = Code.region 1 (opsOf Try.f5 1).toArray false) (hN : a0.tmps.size = 42) (hE : Know [(1, .blk 0 (.cells (U8 ga) 22))] a0 w0)
    (h : ∀ (a : Act) (w : World), w0.grownBy w none → a.defers = a0.defers → a.tmps.size = 42 → Know [(1, .blk 0 (.cells (U8 ga) 22)), (3, .elAt 0 (leN ga 32 % P255))] a w → Q .normal a w) :
    c.wp Try.prog Q a0 w0 := by
  subst hc
  refine know_lex (opsOf Try.f5 1) 42 [.eq (.agg (U8 ga)), .el (leN ga 32 % P255), .blk w0.heap.size (.cells Z5 26)] _ (by kernel_rfl) (by kernel_rfl) hN hE ?_ ?_
  · clear hE h hN
    refine ⟨?_, ?_, ?_, trivial⟩
    · intro a w hE hB hd K hK
      obtain ⟨_, e1, b1, rfl, hb1, hB1⟩ := hE.get (i := 0) rfl
      exact at_row (wanted_free rfl) rfl e1 hb1 Try.underlying22 rfl (sz22.trans (by simp [U8])) (hK _ _ (grown_refl _ _) rfl (fun h => Bool.noConfusion (show false = true from h)))
    · intro a w hE hB hd K hK
      obtain ⟨_, e1, rfl⟩ := hd 0 _ _ (by kernel_rfl) rfl rfl
      refine at_call (wanted_free rfl) rfl (args1 e1) Try.func14 (by kernel_rfl) rfl ?_
      refine (of_el ga hga w).mono ?_
      rintro e w1 ⟨⟨f, rfl, hf⟩, hb⟩
      exact ⟨_, rfl, hK _ _ (grown_own hb) ⟨_, rfl, hf⟩ (fun h => Bool.noConfusion (show false = true from h))⟩
    · intro a w hE hB hd K hK
      exact at_value (wanted_free rfl) (run_alloc rfl alloc26) (hK _ _ (grown_new (grown_refl _ _) _) ⟨_, rfl, heap_new' _ _ _ rfl, hB⟩ (fun _ b hb => by cases hb; exact Nat.le_refl _))
  · intro a w hg hdf hs hE hL hap
    obtain ⟨_, ep0, b0, rfl, hb0, hB0⟩ := hL.get (i := 2) rfl
    obtain ⟨_, ev0, f0, rfl, hf0⟩ := hL.get (i := 1) rfl
    have hk : Know [(1, .blk 0 (.cells (U8 ga) 22))] a w := ⟨(hE _ hg).get (i := 0) rfl, trivial⟩
    refine at_store (w0 := w0) rfl rfl rfl ep0 ev0 hb0 rfl hB0 hg ?_
    intro w1 hg1 hc0 ho1
    have hb0 := hc0
    refine h a w1 hg1 hdf hs ?_
    exact ⟨(hE _ hg1).get (i := 0) rfl, ⟨_, ep0, _, _, rfl, hb0, Nat.zero_le _, hf0⟩, trivial⟩

set_option maxRecDepth 100000 in
theorem f5_r2 {ga : Nat → Nat} {Q : Exit → Act → World → Prop} {a0 : Act} {w0 : World} (hga : ∀ j, j < 32 → ga j < 256)  {c : Code} (hc : c = Code.region 2 (opsOf Try.f5 2).toArray false) (hN : a0.tmps.size = 42) (hE : Know [(1, .blk 0 (.cells (U8 ga) 22)), (3, .elAt 0 (leN ga 32 % P255))] a0 w0)
    (h : ∀ (a : Act) (w : World), w0.grownBy w none → a.defers = a0.defers → a.tmps.size = 42 → Know [(1, .blk 0 (.cells (U8 ga) 22)), (3, .elAt 0 (leN ga 32 % P255)), (4, .elAt 0 ((leN ga 32 % P255) ^ (pN - 2)))] a w → Q .normal a w) :
    c.wp Try.prog Q a0 w0 := by
  subst hc
  refine know_lex (opsOf Try.f5 2) 42 [.el (leN ga 32 % P255), .el ((leN ga 32 % P255) ^ (pN - 2)), .blk w0.heap.size (.cells Z5 26)] _ (by kernel_rfl) (by kernel_rfl) hN hE ?_ ?_
  · clear hE h hN
    refine ⟨?_, ?_, ?_, trivial⟩
    · intro a w hE hB hd K hK
      obtain ⟨_, e1, b1, f1, rfl, hb1, hB1, h1⟩ := hE.get (i := 1) rfl
      exact at_row (wanted_free rfl) rfl e1 hb1 Try.underlying26 rfl (sz26.trans (by simp [U64])) (hK _ _ (grown_refl _ _) ⟨_, rfl, h1⟩ (fun h => Bool.noConfusion (show false = true from h)))
    · intro a w hE hB hd K hK
      obtain ⟨_, e1, f1, rfl, h1⟩ := hd 0 _ _ (by kernel_rfl) rfl rfl
      refine at_call (wanted_free rfl) rfl (args1 e1) Try.func24 (by kernel_rfl) rfl ?_
      refine (inv_any _ _ h1 w).mono ?_
      rintro e w1 ⟨⟨f, rfl, hf⟩, hb⟩
      exact ⟨_, rfl, hK _ _ (grown_own hb) ⟨_, rfl, hf⟩ (fun h => Bool.noConfusion (show false = true from h))⟩
    · intro a w hE hB hd K hK
      exact at_value (wanted_free rfl) (run_alloc rfl alloc26) (hK _ _ (grown_new (grown_refl _ _) _) ⟨_, rfl, heap_new' _ _ _ rfl, hB⟩ (fun _ b hb => by cases hb; exact Nat.le_refl _))
  · intro a w hg hdf hs hE hL hap
    obtain ⟨_, ep0, b0, rfl, hb0, hB0⟩ := hL.get (i := 2) rfl
    obtain ⟨_, ev0, f0, rfl, hf0⟩ := hL.get (i := 1) rfl
    have hk : Know [(1, .blk 0 (.cells (U8 ga) 22)), (3, .elAt 0 (leN ga 32 % P255))] a w := ⟨(hE _ hg).get (i := 0) rfl, (hE _ hg).get (i := 1) rfl, trivial⟩
    refine at_store (w0 := w0) rfl rfl rfl ep0 ev0 hb0 rfl hB0 hg ?_
    intro w1 hg1 hc0 ho1
    have hb0 := hc0
    refine h a w1 hg1 hdf hs ?_
    exact ⟨(hE _ hg1).get (i := 0) rfl, (hE _ hg1).get (i := 1) rfl, ⟨_, ep0, _, _, rfl, hb0, Nat.zero_le _, hf0⟩, trivial⟩

set_option maxRecDepth 100000 in
theorem f5_r3 {ga : Nat → Nat} {Q : Exit → Act → World → Prop} {a0 : Act} {w0 : World} (hga : ∀ j, j < 32 → ga j < 256)  {c : Code} (hc : c = Code.region 3 (opsOf Try.f5 3).toArray false) (hN : a0.tmps.size = 42) (hE : Know [(1, .blk 0 (.cells (U8 ga) 22)), (3, .elAt 0 (leN ga 32 % P255)), (4, .elAt 0 ((leN ga 32 % P255) ^ (pN - 2)))] a0 w0)
    (h : ∀ (a : Act) (w : World), w0.grownBy w none → a.defers = a0.defers → a.tmps.size = 42 → Know [(3, .elAt 0 (leN ga 32 % P255)), (4, .elAt 0 ((leN ga 32 % P255) ^ (pN - 2))), (5, .eq (.string (le32 (leN ga 32 % P255 % pN))))] a w → Q .normal a w) :
    c.wp Try.prog Q a0 w0 := by
  subst hc
  refine know_lex (opsOf Try.f5 3) 42 [.sl ga, .eq (.string (bstr ga 32)), .eq (.string (le32 (leN ga 32 % P255 % pN))), .eq (.string (le32 (leN ga 32 % P255 % pN)))] _ (by kernel_rfl) (by kernel_rfl) hN hE ?_ ?_
  · clear hE h hN
    refine ⟨?_, ?_, ?_, ?_, trivial⟩
    · intro a w hE hB hd K hK
      obtain ⟨_, e1, b1, rfl, hb1, hB1⟩ := hE.get (i := 0) rfl
      exact at_value (wanted_free rfl) (run_op_slice rfl (eval_tmp e1) (slice22 _ _ _ hb1)) (hK _ _ (grown_refl _ _) ⟨_, rfl, hb1⟩ (fun h => Bool.noConfusion (show false = true from h)))
    · intro a w hE hB hd K hK
      obtain ⟨_, e1, b1, rfl, hb1⟩ := hd 0 _ _ (by kernel_rfl) rfl rfl
      exact at_value (wanted_free rfl) (run_op_convert rfl (eval_tmp e1) (conv22 hb1)) (hK _ _ (grown_refl _ _) rfl (fun h => Bool.noConfusion (show false = true from h)))
    · intro a w hE hB hd K hK
      obtain ⟨_, e1, rfl⟩ := hd 1 _ _ (by kernel_rfl) rfl rfl
      refine at_call (wanted_free rfl) rfl (args1 e1) Try.func15 (by kernel_rfl) rfl ?_
      refine (refOf_any ga hga w).mono ?_
      rintro e w1 ⟨rfl, hb⟩
      exact ⟨_, rfl, hK _ _ (grown_own hb) rfl (fun h => Bool.noConfusion (show false = true from h))⟩
    · intro a w hE hB hd K hK
      obtain ⟨_, e1, rfl⟩ := hd 2 _ _ (by kernel_rfl) rfl rfl
      exact at_value (wanted_free rfl) (run_move (Or.inr rfl) (eval_tmp e1)) (hK _ _ (grown_refl _ _) rfl (fun h => Bool.noConfusion (show false = true from h)))
  · intro a w hg hdf hs hE hL hap
    have hk : Know [(3, .elAt 0 (leN ga 32 % P255)), (4, .elAt 0 ((leN ga 32 % P255) ^ (pN - 2))), (5, .eq (.string (le32 (leN ga 32 % P255 % pN))))] a w := ⟨(hE _ hg).get (i := 1) rfl, (hE _ hg).get (i := 2) rfl, hL.get (i := 3) rfl, trivial⟩
    exact h a w hg hdf hs hk

set_option maxRecDepth 100000 in
theorem f5_r4 {ga : Nat → Nat} {Q : Exit → Act → World → Prop} {a0 : Act} {w0 : World} (hga : ∀ j, j < 32 → ga j < 256) (q0 : ((leN ga 32 % P255) ^ (pN - 2)) % pN = (leN ga 32 % P255 % pN) ^ (pN - 2) % pN) {c : Code} (hc : c = Code.region 4 (opsOf Try.f5 4).toArray false) (hN : a0.tmps.size = 42) (hE : Know [(3, .elAt 0 (leN ga 32 % P255)), (4, .elAt 0 ((leN ga 32 % P255) ^ (pN - 2))), (5, .eq (.string (le32 (leN ga 32 % P255 % pN))))] a0 w0)
    (h : ∀ (a : Act) (w : World), w0.grownBy w none → a.defers = a0.defers → a.tmps.size = 42 → Know [(3, .elAt 0 (leN ga 32 % P255)), (4, .elAt 0 ((leN ga 32 % P255) ^ (pN - 2))), (5, .eq (.string (le32 (leN ga 32 % P255 % pN)))), (21, .eq (.bool false))] a w → Q .normal a w) :
    c.wp Try.prog Q a0 w0 := by
  subst hc
  refine know_lex (opsOf Try.f5 4) 42 [.eq (.bool true), .eq (.bool false), .eq (.bool false), .el ((leN ga 32 % P255) ^ (pN - 2)), .eq (.string (le32 (((leN ga 32 % P255) ^ (pN - 2)) % pN))), .eq (.string (le32 (leN ga 32 % P255 % pN))), .eq (.string (le32 ((leN ga 32 % P255 % pN) ^ (pN - 2) % pN))), .eq (.bool false), .eq (.bool false)] _ (by kernel_rfl) (by kernel_rfl) hN hE ?_ ?_
  · clear hE h hN
    refine ⟨?_, ?_, ?_, ?_, ?_, ?_, ?_, ?_, ?_, trivial⟩
    · intro a w hE hB hd K hK
      refine at_call (wanted_free rfl) rfl (args0) Try.func16 (by kernel_rfl) rfl ?_
      refine (wraps_any w).mono ?_
      rintro e w1 ⟨rfl, hb⟩
      exact ⟨_, rfl, hK _ _ (grown_own hb) rfl (fun h => Bool.noConfusion (show false = true from h))⟩
    · intro a w hE hB hd K hK
      obtain ⟨_, e1, rfl⟩ := hd 0 _ _ (by kernel_rfl) rfl rfl
      exact at_value (wanted_free rfl) (run_not rfl (eval_tmp e1)) (hK _ _ (grown_refl _ _) rfl (fun h => Bool.noConfusion (show false = true from h)))
    · intro a w hE hB hd K hK
      obtain ⟨_, e1, rfl⟩ := hd 1 _ _ (by kernel_rfl) rfl rfl
      exact at_value (wanted_free rfl) (run_move (Or.inl rfl) (eval_tmp e1)) (hK _ _ (grown_refl _ _) rfl (fun h => Bool.noConfusion (show false = true from h)))
    · intro a w hE hB hd K hK
      obtain ⟨_, eg, rfl⟩ := hd 2 _ _ (by kernel_rfl) rfl rfl
      obtain ⟨_, e1, b1, f1, rfl, hb1, hB1, h1⟩ := hE.get (i := 1) rfl
      exact at_row (wanted_on rfl rfl rfl eg) rfl e1 hb1 Try.underlying26 rfl (sz26.trans (by simp [U64])) (hK _ _ (grown_refl _ _) ⟨_, rfl, h1⟩ (fun h => Bool.noConfusion (show false = true from h)))
    · intro a w hE hB hd K hK
      obtain ⟨_, eg, rfl⟩ := hd 2 _ _ (by kernel_rfl) rfl rfl
      obtain ⟨_, e1, f1, rfl, h1⟩ := hd 3 _ _ (by kernel_rfl) rfl rfl
      refine at_call (wanted_on rfl rfl rfl eg) rfl (args1 e1) Try.func17 (by kernel_rfl) rfl ?_
      refine (text_any _ _ h1 w).mono ?_
      rintro e w1 ⟨rfl, hb⟩
      exact ⟨_, rfl, hK _ _ (grown_own hb) rfl (fun h => Bool.noConfusion (show false = true from h))⟩
    · intro a w hE hB hd K hK
      obtain ⟨_, eg, rfl⟩ := hd 2 _ _ (by kernel_rfl) rfl rfl
      obtain ⟨_, e1, rfl⟩ := hE.get (i := 2) rfl
      exact at_value (wanted_on rfl rfl rfl eg) (run_move (Or.inl rfl) (eval_tmp e1)) (hK _ _ (grown_refl _ _) rfl (fun h => Bool.noConfusion (show false = true from h)))
    · intro a w hE hB hd K hK
      obtain ⟨_, eg, rfl⟩ := hd 2 _ _ (by kernel_rfl) rfl rfl
      obtain ⟨_, e1, rfl⟩ := hd 5 _ _ (by kernel_rfl) rfl rfl
      refine at_call (wanted_on rfl rfl rfl eg) rfl (args1 e1) Try.func25 (by kernel_rfl) rfl ?_
      refine (refInv_any _ (mod_lt256 _) w).mono ?_
      rintro e w1 ⟨rfl, hb⟩
      exact ⟨_, rfl, hK _ _ (grown_own hb) rfl (fun h => Bool.noConfusion (show false = true from h))⟩
    · intro a w hE hB hd K hK
      obtain ⟨_, eg, rfl⟩ := hd 2 _ _ (by kernel_rfl) rfl rfl
      obtain ⟨_, e1, rfl⟩ := hd 4 _ _ (by kernel_rfl) rfl rfl
      obtain ⟨_, e2, rfl⟩ := hd 6 _ _ (by kernel_rfl) rfl rfl
      exact at_value (wanted_on rfl rfl rfl eg) (run_neqs rfl (eval_tmp e1) (eval_tmp e2)) (hK _ _ (grown_refl _ _) (show Value.bool _ = Value.bool false from by rw [q0]; simp) (fun h => Bool.noConfusion (show false = true from h)))
    · intro a w hE hB hd K hK
      obtain ⟨_, e1, rfl⟩ := hd 2 _ _ (by kernel_rfl) rfl rfl
      obtain ⟨_, e2, rfl⟩ := hd 7 _ _ (by kernel_rfl) rfl rfl
      exact at_value (wanted_free rfl) (run_pick rfl (eval_tmp e1) ((if_neg (by decide)).trans (eval_tmp e2))) (hK _ _ (grown_refl _ _) rfl (fun h => Bool.noConfusion (show false = true from h)))
  · intro a w hg hdf hs hE hL hap
    have hk : Know [(3, .elAt 0 (leN ga 32 % P255)), (4, .elAt 0 ((leN ga 32 % P255) ^ (pN - 2))), (5, .eq (.string (le32 (leN ga 32 % P255 % pN)))), (21, .eq (.bool false))] a w := ⟨(hE _ hg).get (i := 0) rfl, (hE _ hg).get (i := 1) rfl, (hE _ hg).get (i := 2) rfl, hL.get (i := 8) rfl, trivial⟩
    exact h a w hg hdf hs hk

set_option maxRecDepth 100000 in
theorem f5_r6a {ga : Nat → Nat} {Q : Exit → Act → World → Prop} {a0 : Act} {w0 : World} (hga : ∀ j, j < 32 → ga j < 256) (q0 : leN ga 32 % P255 % pN = 0) {c : Code} (hc : c = Code.region 6 (opsOf Try.f5 6).toArray false) (hN : a0.tmps.size = 42) (hE : Know [(3, .elAt 0 (leN ga 32 % P255)), (4, .elAt 0 ((leN ga 32 % P255) ^ (pN - 2))), (5, .eq (.string (le32 (leN ga 32 % P255 % pN))))] a0 w0)
    (h : ∀ (a : Act) (w : World), w0.grownBy w none → a.defers = a0.defers → a.tmps.size = 42 → Know [(3, .elAt 0 (leN ga 32 % P255)), (4, .elAt 0 ((leN ga 32 % P255) ^ (pN - 2))), (5, .eq (.string (le32 (leN ga 32 % P255 % pN)))), (24, .eq (.bool true))] a w → Q .normal a w) :
    c.wp Try.prog Q a0 w0 := by
  subst hc
  refine know_lex (opsOf Try.f5 6) 42 [.eq (.string (le32 (leN ga 32 % P255 % pN))), .eq (.string (le32 (0))), .eq (.bool true)] _ (by kernel_rfl) (by kernel_rfl) hN hE ?_ ?_
  · clear hE h hN
    refine ⟨?_, ?_, ?_, trivial⟩
    · intro a w hE hB hd K hK
      obtain ⟨_, e1, rfl⟩ := hE.get (i := 2) rfl
      exact at_value (wanted_free rfl) (run_move (Or.inl rfl) (eval_tmp e1)) (hK _ _ (grown_refl _ _) rfl (fun h => Bool.noConfusion (show false = true from h)))
    · intro a w hE hB hd K hK
      refine at_call (wanted_free rfl) rfl (argsC) Try.func26 (by kernel_rfl) rfl ?_
      refine (small_any 0 (by decide) w).mono ?_
      rintro e w1 ⟨rfl, hb⟩
      exact ⟨_, rfl, hK _ _ (grown_own hb) rfl (fun h => Bool.noConfusion (show false = true from h))⟩
    · intro a w hE hB hd K hK
      obtain ⟨_, e1, rfl⟩ := hd 0 _ _ (by kernel_rfl) rfl rfl
      obtain ⟨_, e2, rfl⟩ := hd 1 _ _ (by kernel_rfl) rfl rfl
      exact at_value (wanted_free rfl) (run_eqs rfl (eval_tmp e1) (eval_tmp e2)) (hK _ _ (grown_refl _ _) (show Value.bool _ = Value.bool true from by rw [q0]; simp) (fun h => Bool.noConfusion (show false = true from h)))
  · intro a w hg hdf hs hE hL hap
    have hk : Know [(3, .elAt 0 (leN ga 32 % P255)), (4, .elAt 0 ((leN ga 32 % P255) ^ (pN - 2))), (5, .eq (.string (le32 (leN ga 32 % P255 % pN)))), (24, .eq (.bool true))] a w := ⟨(hE _ hg).get (i := 0) rfl, (hE _ hg).get (i := 1) rfl, (hE _ hg).get (i := 2) rfl, hL.get (i := 2) rfl, trivial⟩
    exact h a w hg hdf hs hk

set_option maxRecDepth 100000 in
theorem f5_r6b {ga : Nat → Nat} {Q : Exit → Act → World → Prop} {a0 : Act} {w0 : World} (hga : ∀ j, j < 32 → ga j < 256) (q0 : le32 (leN ga 32 % P255 % pN) ≠ le32 (0)) {c : Code} (hc : c = Code.region 6 (opsOf Try.f5 6).toArray false) (hN : a0.tmps.size = 42) (hE : Know [(3, .elAt 0 (leN ga 32 % P255)), (4, .elAt 0 ((leN ga 32 % P255) ^ (pN - 2))), (5, .eq (.string (le32 (leN ga 32 % P255 % pN))))] a0 w0)
    (h : ∀ (a : Act) (w : World), w0.grownBy w none → a.defers = a0.defers → a.tmps.size = 42 → Know [(3, .elAt 0 (leN ga 32 % P255)), (4, .elAt 0 ((leN ga 32 % P255) ^ (pN - 2))), (5, .eq (.string (le32 (leN ga 32 % P255 % pN)))), (24, .eq (.bool false))] a w → Q .normal a w) :
    c.wp Try.prog Q a0 w0 := by
  subst hc
  refine know_lex (opsOf Try.f5 6) 42 [.eq (.string (le32 (leN ga 32 % P255 % pN))), .eq (.string (le32 (0))), .eq (.bool false)] _ (by kernel_rfl) (by kernel_rfl) hN hE ?_ ?_
  · clear hE h hN
    refine ⟨?_, ?_, ?_, trivial⟩
    · intro a w hE hB hd K hK
      obtain ⟨_, e1, rfl⟩ := hE.get (i := 2) rfl
      exact at_value (wanted_free rfl) (run_move (Or.inl rfl) (eval_tmp e1)) (hK _ _ (grown_refl _ _) rfl (fun h => Bool.noConfusion (show false = true from h)))
    · intro a w hE hB hd K hK
      refine at_call (wanted_free rfl) rfl (argsC) Try.func26 (by kernel_rfl) rfl ?_
      refine (small_any 0 (by decide) w).mono ?_
      rintro e w1 ⟨rfl, hb⟩
      exact ⟨_, rfl, hK _ _ (grown_own hb) rfl (fun h => Bool.noConfusion (show false = true from h))⟩
    · intro a w hE hB hd K hK
      obtain ⟨_, e1, rfl⟩ := hd 0 _ _ (by kernel_rfl) rfl rfl
      obtain ⟨_, e2, rfl⟩ := hd 1 _ _ (by kernel_rfl) rfl rfl
      exact at_value (wanted_free rfl) (run_eqs rfl (eval_tmp e1) (eval_tmp e2)) (hK _ _ (grown_refl _ _) (show Value.bool _ = Value.bool false from unlike q0) (fun h => Bool.noConfusion (show false = true from h)))
  · intro a w hg hdf hs hE hL hap
    have hk : Know [(3, .elAt 0 (leN ga 32 % P255)), (4, .elAt 0 ((leN ga 32 % P255) ^ (pN - 2))), (5, .eq (.string (le32 (leN ga 32 % P255 % pN)))), (24, .eq (.bool false))] a w := ⟨(hE _ hg).get (i := 0) rfl, (hE _ hg).get (i := 1) rfl, (hE _ hg).get (i := 2) rfl, hL.get (i := 2) rfl, trivial⟩
    exact h a w hg hdf hs hk

set_option maxRecDepth 100000 in
theorem f5_r7 {ga : Nat → Nat} {Q : Exit → Act → World → Prop} {a0 : Act} {w0 : World} (hga : ∀ j, j < 32 → ga j < 256) (q0 : ((leN ga 32 % P255) ^ (pN - 2)) % pN = 0) {c : Code} (hc : c = Code.region 7 (opsOf Try.f5 7).toArray false) (hN : a0.tmps.size = 42) (hE : Know [(3, .elAt 0 (leN ga 32 % P255)), (4, .elAt 0 ((leN ga 32 % P255) ^ (pN - 2))), (5, .eq (.string (le32 (leN ga 32 % P255 % pN))))] a0 w0)
    (h : ∀ (a : Act) (w : World), w0.grownBy w none → a.defers = a0.defers → a.tmps.size = 42 → Know [(2, .eq (.bool true))] a w → Q .normal a w) :
    c.wp Try.prog Q a0 w0 := by
  subst hc
  refine know_lex (opsOf Try.f5 7) 42 [.el ((leN ga 32 % P255) ^ (pN - 2)), .eq (.string (le32 (((leN ga 32 % P255) ^ (pN - 2)) % pN))), .eq (.string (le32 (0))), .eq (.bool true), .eq (.bool true)] _ (by kernel_rfl) (by kernel_rfl) hN hE ?_ ?_
  · clear hE h hN
    refine ⟨?_, ?_, ?_, ?_, ?_, trivial⟩
    · intro a w hE hB hd K hK
      obtain ⟨_, e1, b1, f1, rfl, hb1, hB1, h1⟩ := hE.get (i := 1) rfl
      exact at_row (wanted_free rfl) rfl e1 hb1 Try.underlying26 rfl (sz26.trans (by simp [U64])) (hK _ _ (grown_refl _ _) ⟨_, rfl, h1⟩ (fun h => Bool.noConfusion (show false = true from h)))
    · intro a w hE hB hd K hK
      obtain ⟨_, e1, f1, rfl, h1⟩ := hd 0 _ _ (by kernel_rfl) rfl rfl
      refine at_call (wanted_free rfl) rfl (args1 e1) Try.func17 (by kernel_rfl) rfl ?_
      refine (text_any _ _ h1 w).mono ?_
      rintro e w1 ⟨rfl, hb⟩
      exact ⟨_, rfl, hK _ _ (grown_own hb) rfl (fun h => Bool.noConfusion (show false = true from h))⟩
    · intro a w hE hB hd K hK
      refine at_call (wanted_free rfl) rfl (argsC) Try.func26 (by kernel_rfl) rfl ?_
      refine (small_any 0 (by decide) w).mono ?_
      rintro e w1 ⟨rfl, hb⟩
      exact ⟨_, rfl, hK _ _ (grown_own hb) rfl (fun h => Bool.noConfusion (show false = true from h))⟩
    · intro a w hE hB hd K hK
      obtain ⟨_, e1, rfl⟩ := hd 1 _ _ (by kernel_rfl) rfl rfl
      obtain ⟨_, e2, rfl⟩ := hd 2 _ _ (by kernel_rfl) rfl rfl
      exact at_value (wanted_free rfl) (run_eqs rfl (eval_tmp e1) (eval_tmp e2)) (hK _ _ (grown_refl _ _) (show Value.bool _ = Value.bool true from by rw [q0]; simp) (fun h => Bool.noConfusion (show false = true from h)))
    · intro a w hE hB hd K hK
      obtain ⟨_, e1, rfl⟩ := hd 3 _ _ (by kernel_rfl) rfl rfl
      exact at_value (wanted_free rfl) (run_move (Or.inr rfl) (eval_tmp e1)) (hK _ _ (grown_refl _ _) rfl (fun h => Bool.noConfusion (show false = true from h)))
  · intro a w hg hdf hs hE hL hap
    have hk : Know [(2, .eq (.bool true))] a w := ⟨hL.get (i := 4) rfl, trivial⟩
    exact h a w hg hdf hs hk

set_option maxRecDepth 100000 in
theorem f5_r8 {ga : Nat → Nat} {Q : Exit → Act → World → Prop} {a0 : Act} {w0 : World} (hga : ∀ j, j < 32 → ga j < 256) (q0 : ((leN ga 32 % P255) * ((leN ga 32 % P255) ^ (pN - 2))) % pN = 1) (q1 : (((leN ga 32 % P255) ^ (pN - 2)) ^ (pN - 2)) % pN = leN ga 32 % P255 % pN) {c : Code} (hc : c = Code.region 8 (opsOf Try.f5 8).toArray false) (hN : a0.tmps.size = 42) (hE : Know [(3, .elAt 0 (leN ga 32 % P255)), (4, .elAt 0 ((leN ga 32 % P255) ^ (pN - 2))), (5, .eq (.string (le32 (leN ga 32 % P255 % pN))))] a0 w0)
    (h : ∀ (a : Act) (w : World), w0.grownBy w none → a.defers = a0.defers → a.tmps.size = 42 → Know [(2, .eq (.bool true))] a w → Q .normal a w) :
    c.wp Try.prog Q a0 w0 := by
  subst hc
  refine know_lex (opsOf Try.f5 8) 42 [.el (leN ga 32 % P255), .el ((leN ga 32 % P255) ^ (pN - 2)), .el ((leN ga 32 % P255) * ((leN ga 32 % P255) ^ (pN - 2))), .eq (.string (le32 (((leN ga 32 % P255) * ((leN ga 32 % P255) ^ (pN - 2))) % pN))), .eq (.string (le32 (1))), .eq (.bool true), .eq (.bool true), .el ((leN ga 32 % P255) ^ (pN - 2)), .el (((leN ga 32 % P255) ^ (pN - 2)) ^ (pN - 2)), .eq (.string (le32 ((((leN ga 32 % P255) ^ (pN - 2)) ^ (pN - 2)) % pN))), .eq (.string (le32 (leN ga 32 % P255 % pN))), .eq (.bool true), .eq (.bool true), .eq (.bool true)] _ (by kernel_rfl) (by kernel_rfl) hN hE ?_ ?_
  · clear hE h hN
    refine ⟨?_, ?_, ?_, ?_, ?_, ?_, ?_, ?_, ?_, ?_, ?_, ?_, ?_, ?_, trivial⟩
    · intro a w hE hB hd K hK
      obtain ⟨_, e1, b1, f1, rfl, hb1, hB1, h1⟩ := hE.get (i := 0) rfl
      exact at_row (wanted_free rfl) rfl e1 hb1 Try.underlying26 rfl (sz26.trans (by simp [U64])) (hK _ _ (grown_refl _ _) ⟨_, rfl, h1⟩ (fun h => Bool.noConfusion (show false = true from h)))
    · intro a w hE hB hd K hK
      obtain ⟨_, e1, b1, f1, rfl, hb1, hB1, h1⟩ := hE.get (i := 1) rfl
      exact at_row (wanted_free rfl) rfl e1 hb1 Try.underlying26 rfl (sz26.trans (by simp [U64])) (hK _ _ (grown_refl _ _) ⟨_, rfl, h1⟩ (fun h => Bool.noConfusion (show false = true from h)))
    · intro a w hE hB hd K hK
      obtain ⟨_, e1, f1, rfl, h1⟩ := hd 0 _ _ (by kernel_rfl) rfl rfl
      obtain ⟨_, e2, f2, rfl, h2⟩ := hd 1 _ _ (by kernel_rfl) rfl rfl
      refine at_call (wanted_free rfl) rfl (args2 e1 e2) Try.func22 (by kernel_rfl) rfl ?_
      refine (mul_el h1 h2 w).mono ?_
      rintro e w1 ⟨⟨f, rfl, hf⟩, hb⟩
      exact ⟨_, rfl, hK _ _ (grown_own hb) ⟨_, rfl, hf⟩ (fun h => Bool.noConfusion (show false = true from h))⟩
    · intro a w hE hB hd K hK
      obtain ⟨_, e1, f1, rfl, h1⟩ := hd 2 _ _ (by kernel_rfl) rfl rfl
      refine at_call (wanted_free rfl) rfl (args1 e1) Try.func17 (by kernel_rfl) rfl ?_
      refine (text_any _ _ h1 w).mono ?_
      rintro e w1 ⟨rfl, hb⟩
      exact ⟨_, rfl, hK _ _ (grown_own hb) rfl (fun h => Bool.noConfusion (show false = true from h))⟩
    · intro a w hE hB hd K hK
      refine at_call (wanted_free rfl) rfl (argsC) Try.func26 (by kernel_rfl) rfl ?_
      refine (small_any 1 (by decide) w).mono ?_
      rintro e w1 ⟨rfl, hb⟩
      exact ⟨_, rfl, hK _ _ (grown_own hb) rfl (fun h => Bool.noConfusion (show false = true from h))⟩
    · intro a w hE hB hd K hK
      obtain ⟨_, e1, rfl⟩ := hd 3 _ _ (by kernel_rfl) rfl rfl
      obtain ⟨_, e2, rfl⟩ := hd 4 _ _ (by kernel_rfl) rfl rfl
      exact at_value (wanted_free rfl) (run_eqs rfl (eval_tmp e1) (eval_tmp e2)) (hK _ _ (grown_refl _ _) (show Value.bool _ = Value.bool true from by rw [q0]; simp) (fun h => Bool.noConfusion (show false = true from h)))
    · intro a w hE hB hd K hK
      obtain ⟨_, e1, rfl⟩ := hd 5 _ _ (by kernel_rfl) rfl rfl
      exact at_value (wanted_free rfl) (run_move (Or.inl rfl) (eval_tmp e1)) (hK _ _ (grown_refl _ _) rfl (fun h => Bool.noConfusion (show false = true from h)))
    · intro a w hE hB hd K hK
      obtain ⟨_, eg, rfl⟩ := hd 6 _ _ (by kernel_rfl) rfl rfl
      obtain ⟨_, e1, b1, f1, rfl, hb1, hB1, h1⟩ := hE.get (i := 1) rfl
      exact at_row (wanted_on rfl rfl rfl eg) rfl e1 hb1 Try.underlying26 rfl (sz26.trans (by simp [U64])) (hK _ _ (grown_refl _ _) ⟨_, rfl, h1⟩ (fun h => Bool.noConfusion (show false = true from h)))
    · intro a w hE hB hd K hK
      obtain ⟨_, eg, rfl⟩ := hd 6 _ _ (by kernel_rfl) rfl rfl
      obtain ⟨_, e1, f1, rfl, h1⟩ := hd 7 _ _ (by kernel_rfl) rfl rfl
      refine at_call (wanted_on rfl rfl rfl eg) rfl (args1 e1) Try.func24 (by kernel_rfl) rfl ?_
      refine (inv_any _ _ h1 w).mono ?_
      rintro e w1 ⟨⟨f, rfl, hf⟩, hb⟩
      exact ⟨_, rfl, hK _ _ (grown_own hb) ⟨_, rfl, hf⟩ (fun h => Bool.noConfusion (show false = true from h))⟩
    · intro a w hE hB hd K hK
      obtain ⟨_, eg, rfl⟩ := hd 6 _ _ (by kernel_rfl) rfl rfl
      obtain ⟨_, e1, f1, rfl, h1⟩ := hd 8 _ _ (by kernel_rfl) rfl rfl
      refine at_call (wanted_on rfl rfl rfl eg) rfl (args1 e1) Try.func17 (by kernel_rfl) rfl ?_
      refine (text_any _ _ h1 w).mono ?_
      rintro e w1 ⟨rfl, hb⟩
      exact ⟨_, rfl, hK _ _ (grown_own hb) rfl (fun h => Bool.noConfusion (show false = true from h))⟩
    · intro a w hE hB hd K hK
      obtain ⟨_, eg, rfl⟩ := hd 6 _ _ (by kernel_rfl) rfl rfl
      obtain ⟨_, e1, rfl⟩ := hE.get (i := 2) rfl
      exact at_value (wanted_on rfl rfl rfl eg) (run_move (Or.inl rfl) (eval_tmp e1)) (hK _ _ (grown_refl _ _) rfl (fun h => Bool.noConfusion (show false = true from h)))
    · intro a w hE hB hd K hK
      obtain ⟨_, eg, rfl⟩ := hd 6 _ _ (by kernel_rfl) rfl rfl
      obtain ⟨_, e1, rfl⟩ := hd 9 _ _ (by kernel_rfl) rfl rfl
      obtain ⟨_, e2, rfl⟩ := hd 10 _ _ (by kernel_rfl) rfl rfl
      exact at_value (wanted_on rfl rfl rfl eg) (run_eqs rfl (eval_tmp e1) (eval_tmp e2)) (hK _ _ (grown_refl _ _) (show Value.bool _ = Value.bool true from by rw [q1]; simp) (fun h => Bool.noConfusion (show false = true from h)))
    · intro a w hE hB hd K hK
      obtain ⟨_, e1, rfl⟩ := hd 6 _ _ (by kernel_rfl) rfl rfl
      obtain ⟨_, e2, rfl⟩ := hd 11 _ _ (by kernel_rfl) rfl rfl
      exact at_value (wanted_free rfl) (run_pick rfl (eval_tmp e1) ((if_pos rfl).trans (eval_tmp e2))) (hK _ _ (grown_refl _ _) rfl (fun h => Bool.noConfusion (show false = true from h)))
    · intro a w hE hB hd K hK
      obtain ⟨_, e1, rfl⟩ := hd 12 _ _ (by kernel_rfl) rfl rfl
      exact at_value (wanted_free rfl) (run_move (Or.inr rfl) (eval_tmp e1)) (hK _ _ (grown_refl _ _) rfl (fun h => Bool.noConfusion (show false = true from h)))
  · intro a w hg hdf hs hE hL hap
    have hk : Know [(2, .eq (.bool true))] a w := ⟨hL.get (i := 13) rfl, trivial⟩
    exact h a w hg hdf hs hk
set_option maxRecDepth 100000 in
/-- FieldInverse. -/
theorem inverse_any (ga : Nat → Nat) (hga : ∀ j, j < 32 → ga j < 256) (w : World) :
    Calls Try.prog 5 #[.agg (U8 ga)] w fun e w' => e = .returned (.bool true) ∧ Below w.heap.size w w' := by
  refine calls_of_wp Try.func5 rfl ?_
  refine wp_seq (f5_r0 hga (by kernel_rfl) (start_size (by kernel_rfl) (by simp)) start1 ?_)
  intro t0 w0 g0 d0 s0 K0
  show Code.wp _ _ _ _ _
  refine wp_seq (f5_r1 hga (by kernel_rfl) s0 K0 ?_)
  intro t1 w1 g1 d1 s1 K1
  show Code.wp _ _ _ _ _
  refine wp_seq (f5_r2 hga (by kernel_rfl) s1 K1 ?_)
  intro t2 w2 g2 d2 s2 K2
  show Code.wp _ _ _ _ _
  refine wp_seq (f5_r3 hga (by kernel_rfl) s2 K2 ?_)
  intro t3 w3 g3 d3 s3 K3
  show Code.wp _ _ _ _ _
  refine wp_seq (wp_seq (f5_r4 hga (Nat.pow_mod _ _ _) (by kernel_rfl) s3 K3 ?_))
  intro t4 w4 g4 d4 s4 K4
  show Code.wp _ _ _ _ _
  obtain ⟨_, e21, rfl⟩ := K4.get (i := 3) rfl
  refine wp_cond_false (eval_tmp e21) (wp_skip ?_)
  show Code.wp _ _ _ _ _
  have K5 : Know [(3, .elAt 0 (leN ga 32 % P255)), (4, .elAt 0 ((leN ga 32 % P255) ^ (pN - 2))), (5, .eq (.string (le32 (leN ga 32 % P255 % pN))))] t4 w4 := ⟨K4.get (i := 0) rfl, K4.get (i := 1) rfl, K4.get (i := 2) rfl, trivial⟩
  have G4 := grown_trans (grown_trans (grown_trans (grown_trans g0 g1) g2) g3) g4
  have D4 := d4.trans (d3.trans (d2.trans (d1.trans d0)))
  by_cases hx : leN ga 32 % P255 % pN = 0
  · refine wp_seq (wp_seq (f5_r6a hga hx (by kernel_rfl) s4 K5 ?_))
    intro t6 w6 g6 d6 s6 K6
    show Code.wp _ _ _ _ _
    obtain ⟨_, e24, rfl⟩ := K6.get (i := 3) rfl
    have K7 : Know [(3, .elAt 0 (leN ga 32 % P255)), (4, .elAt 0 ((leN ga 32 % P255) ^ (pN - 2))), (5, .eq (.string (le32 (leN ga 32 % P255 % pN))))] t6 w6 := ⟨K6.get (i := 0) rfl, K6.get (i := 1) rfl, K6.get (i := 2) rfl, trivial⟩
    refine wp_cond_true (eval_tmp e24) (wp_seq (f5_r7 hga (inv_nought hx) (by kernel_rfl) s6 K7 ?_))
    intro t7 w7 g7 d7 s7 K8
    show Code.wp _ _ _ _ _
    obtain ⟨_, e, rfl⟩ := K8.get (i := 0) rfl
    exact wp_ret ⟨d7.trans (d6.trans D4), _, results_tmp rfl e, rfl, below_grown (grown_trans (grown_trans G4 g6) g7)⟩
  · refine wp_seq (wp_seq (f5_r6b hga (fun h => hx (le32_inj (mod_lt256 _) (by decide) h)) (by kernel_rfl) s4 K5 ?_))
    intro t6 w6 g6 d6 s6 K6
    show Code.wp _ _ _ _ _
    obtain ⟨_, e24, rfl⟩ := K6.get (i := 3) rfl
    have K7 : Know [(3, .elAt 0 (leN ga 32 % P255)), (4, .elAt 0 ((leN ga 32 % P255) ^ (pN - 2))), (5, .eq (.string (le32 (leN ga 32 % P255 % pN))))] t6 w6 := ⟨K6.get (i := 0) rfl, K6.get (i := 1) rfl, K6.get (i := 2) rfl, trivial⟩
    refine wp_cond_false (eval_tmp e24) (wp_skip ?_)
    show Code.wp _ _ _ _ _
    refine wp_seq (f5_r8 hga (inv_mul hx) (inv_inv hx) (by kernel_rfl) s6 K7 ?_)
    intro t7 w7 g7 d7 s7 K8
    show Code.wp _ _ _ _ _
    obtain ⟨_, e, rfl⟩ := K8.get (i := 0) rfl
    exact wp_ret ⟨d7.trans (d6.trans D4), _, results_tmp rfl e, rfl, below_grown (grown_trans (grown_trans G4 g6) g7)⟩
end Go.Proofs.Ytikmghmapmlebaa
