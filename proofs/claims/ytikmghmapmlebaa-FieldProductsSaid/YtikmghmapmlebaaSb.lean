/-
  FieldProducts, walked: of all bytes the call returns true; no condition.
-/
import Derived.Test.YtikmghmapmlebaaPk
namespace Go.Proofs.Ytikmghmapmlebaa
open Go.RowKit Go.Rh F255

set_option maxRecDepth 100000 in
theorem f4_r0 {ga gb : Nat → Nat} {Q : Exit → Act → World → Prop} {a0 : Act} {w0 : World} (hga : ∀ j, j < 32 → ga j < 256) (hgb : ∀ j, j < 32 → gb j < 256)  {c : Code} (hc : c = Code.region 0 (opsOf Try.f4 0).toArray false) (hN : a0.tmps.size = 26) (hE : Know [(0, .eq (.agg (U8 ga))), (1, .eq (.agg (U8 gb)))] a0 w0)
    (h : ∀ (a : Act) (w : World), w0.grownBy w none → a.defers = a0.defers → a.tmps.size = 26 → Know [(2, .blk 0 (.cells (U8 ga) 22)), (3, .blk 0 (.cells (U8 gb) 22))] a w → Q .normal a w) :
    c.wp Try.prog Q a0 w0 := by
  subst hc
  refine know_lex (opsOf Try.f4 0) 26 [.blk 0 (.cells (U8 ga) 22), .blk 0 (.cells (U8 gb) 22), .eq (.bool false)] _ (by kernel_rfl) (by kernel_rfl) hN hE ?_ ?_
  · clear hE h hN
    refine ⟨?_, ?_, ?_, trivial⟩
    · intro a w hE hB hd K hK
      obtain ⟨_, e1, rfl⟩ := hE.get (i := 0) rfl
      exact at_value (wanted_free rfl) (run_box rfl (eval_tmp e1) (box22 _)) (hK _ _ (grown_new (grown_refl _ _) _) ⟨_, rfl, heap_new' _ _ _ rfl, Nat.zero_le _⟩ (fun _ b hb => by cases hb; exact Nat.le_refl _))
    · intro a w hE hB hd K hK
      obtain ⟨_, e1, rfl⟩ := hE.get (i := 1) rfl
      exact at_value (wanted_free rfl) (run_box rfl (eval_tmp e1) (box22 _)) (hK _ _ (grown_new (grown_refl _ _) _) ⟨_, rfl, heap_new' _ _ _ rfl, Nat.zero_le _⟩ (fun _ b hb => by cases hb; exact Nat.le_refl _))
    · intro a w hE hB hd K hK
      exact at_value (wanted_free rfl) (run_move (v := .bool false) (Or.inr rfl) rfl) (hK _ _ (grown_refl _ _) rfl (fun h => Bool.noConfusion (show false = true from h)))
  · intro a w hg hdf hs hE hL hap
    have hk : Know [(2, .blk 0 (.cells (U8 ga) 22)), (3, .blk 0 (.cells (U8 gb) 22))] a w := ⟨hL.get (i := 0) rfl, hL.get (i := 1) rfl, trivial⟩
    exact h a w hg hdf hs hk

set_option maxRecDepth 100000 in
theorem f4_r1 {ga gb : Nat → Nat} {Q : Exit → Act → World → Prop} {a0 : Act} {w0 : World} (hga : ∀ j, j < 32 → ga j < 256) (hgb : ∀ j, j < 32 → gb j < 256)  {c : Code} (hc : c = Code.region 1 (opsOf Try.f4 1).toArray true) (hN : a0.tmps.size = 26) (hE : Know [(2, .blk 0 (.cells (U8 ga) 22)), (3, .blk 0 (.cells (U8 gb) 22))] a0 w0)
    (h : ∀ (a : Act) (w : World), w0.grownBy w none → a.defers = a0.defers → a.tmps.size = 26 → Know [(2, .blk 0 (.cells (U8 ga) 22)), (3, .blk 0 (.cells (U8 gb) 22)), (5, .elAt 0 (leN ga 32 % P255)), (6, .elAt 0 (leN gb 32 % P255))] a w → Q .normal a w) :
    c.wp Try.prog Q a0 w0 := by
  subst hc
  refine know_any (opsOf Try.f4 1) 26 [.eq (.agg (U8 ga)), .el (leN ga 32 % P255), .eq (.agg (U8 gb)), .el (leN gb 32 % P255), .blk w0.heap.size (.cells Z5 26), .blk w0.heap.size (.cells Z5 26)] _ (by kernel_rfl) (by kernel_rfl) (by kernel_rfl) hN hE ?_ ?_
  · clear hE h hN
    refine ⟨?_, ?_, ?_, ?_, ?_, ?_, trivial⟩
    · intro a w hE hB hd K hK
      obtain ⟨_, e1, b1, rfl, hb1, hB1⟩ := hE.get (i := 0) rfl
      exact at_row (wanted_free rfl) rfl e1 hb1 Try.underlying22 rfl (sz22.trans (by simp [U8])) (hK _ _ (grown_refl _ _) rfl (fun h => Bool.noConfusion (show false = true from h)))
    · intro a w hE hB hd K hK
      obtain ⟨_, e1, rfl⟩ := hd 0 _ _ (by kernel_rfl) rfl rfl
      refine at_call (wanted_free rfl) rfl (args1 e1) Try.func14 (by kernel_rfl) rfl ?_
      refine (of_el ga hga w).mono ?_
      rintro e w1 ⟨⟨f, rfl, hf⟩, hb⟩
      exact ⟨_, rfl, hK _ _ (grown_own hb) ⟨_, rfl, hf⟩ (fun h => Bool.noConfusion (show false = true from h))⟩
    · intro a w hE hB hd K hK
      obtain ⟨_, e1, b1, rfl, hb1, hB1⟩ := hE.get (i := 1) rfl
      exact at_row (wanted_free rfl) rfl e1 hb1 Try.underlying22 rfl (sz22.trans (by simp [U8])) (hK _ _ (grown_refl _ _) rfl (fun h => Bool.noConfusion (show false = true from h)))
    · intro a w hE hB hd K hK
      obtain ⟨_, e1, rfl⟩ := hd 2 _ _ (by kernel_rfl) rfl rfl
      refine at_call (wanted_free rfl) rfl (args1 e1) Try.func14 (by kernel_rfl) rfl ?_
      refine (of_el gb hgb w).mono ?_
      rintro e w1 ⟨⟨f, rfl, hf⟩, hb⟩
      exact ⟨_, rfl, hK _ _ (grown_own hb) ⟨_, rfl, hf⟩ (fun h => Bool.noConfusion (show false = true from h))⟩
    · intro a w hE hB hd K hK
      exact at_value (wanted_free rfl) (run_alloc rfl alloc26) (hK _ _ (grown_new (grown_refl _ _) _) ⟨_, rfl, heap_new' _ _ _ rfl, hB⟩ (fun _ b hb => by cases hb; exact Nat.le_refl _))
    · intro a w hE hB hd K hK
      exact at_value (wanted_free rfl) (run_alloc rfl alloc26) (hK _ _ (grown_new (grown_refl _ _) _) ⟨_, rfl, heap_new' _ _ _ rfl, hB⟩ (fun _ b hb => by cases hb; exact Nat.le_refl _))
  · intro a w hg hdf hs hE hL hap
    obtain ⟨_, ep0, b0, rfl, hb0, hB0⟩ := hL.get (i := 4) rfl
    obtain ⟨_, ev0, f0, rfl, hf0⟩ := hL.get (i := 1) rfl
    obtain ⟨_, ep1, b1, rfl, hb1, hB1⟩ := hL.get (i := 5) rfl
    obtain ⟨_, ev1, f1, rfl, hf1⟩ := hL.get (i := 3) rfl
    have n01 := hap 4 5 _ _ _ _ _ _ (by decide) (by simp) (by simp) rfl rfl rfl rfl rfl rfl ep0 ep1
    have hk : Know [(2, .blk 0 (.cells (U8 ga) 22)), (3, .blk 0 (.cells (U8 gb) 22))] a w := ⟨(hE _ hg).get (i := 0) rfl, (hE _ hg).get (i := 1) rfl, trivial⟩
    refine at_store (w0 := w0) rfl rfl rfl ep0 ev0 hb0 rfl hB0 hg ?_
    intro w1 hg1 hc0 ho1
    replace hb1 := (ho1 b1 (Ne.symm n01)).trans hb1
    have hb0 := hc0
    refine at_store (w0 := w0) rfl rfl rfl ep1 ev1 hb1 rfl hB1 hg1 ?_
    intro w2 hg2 hc1 ho2
    replace hb0 := (ho2 b0 n01).trans hb0
    have hb1 := hc1
    refine h a w2 hg2 hdf hs ?_
    exact ⟨(hE _ hg2).get (i := 0) rfl, (hE _ hg2).get (i := 1) rfl, ⟨_, ep0, _, _, rfl, hb0, Nat.zero_le _, hf0⟩, ⟨_, ep1, _, _, rfl, hb1, Nat.zero_le _, hf1⟩, trivial⟩

set_option maxRecDepth 100000 in
theorem f4_r2 {ga gb : Nat → Nat} {Q : Exit → Act → World → Prop} {a0 : Act} {w0 : World} (hga : ∀ j, j < 32 → ga j < 256) (hgb : ∀ j, j < 32 → gb j < 256) (q0 : ((leN ga 32 % P255) * (leN gb 32 % P255)) % pN = ((leN ga 32 % P255 % pN) * (leN gb 32 % P255 % pN)) % pN) {c : Code} (hc : c = Code.region 2 (opsOf Try.f4 2).toArray true) (hN : a0.tmps.size = 26) (hE : Know [(2, .blk 0 (.cells (U8 ga) 22)), (3, .blk 0 (.cells (U8 gb) 22)), (5, .elAt 0 (leN ga 32 % P255)), (6, .elAt 0 (leN gb 32 % P255))] a0 w0)
    (h : ∀ (a : Act) (w : World), w0.grownBy w none → a.defers = a0.defers → a.tmps.size = 26 → Know [(4, .eq (.bool true))] a w → Q .normal a w) :
    c.wp Try.prog Q a0 w0 := by
  subst hc
  refine know_any (opsOf Try.f4 2) 26 [.eq (.bool true), .eq (.bool true), .el (leN ga 32 % P255), .el (leN gb 32 % P255), .el ((leN ga 32 % P255) * (leN gb 32 % P255)), .eq (.string (le32 (((leN ga 32 % P255) * (leN gb 32 % P255)) % pN))), .sl ga, .eq (.string (bstr ga 32)), .eq (.string (le32 (leN ga 32 % P255 % pN))), .sl gb, .eq (.string (bstr gb 32)), .eq (.string (le32 (leN gb 32 % P255 % pN))), .eq (.string (le32 (((leN ga 32 % P255 % pN) * (leN gb 32 % P255 % pN)) % pN))), .eq (.bool true), .eq (.bool true), .eq (.bool true)] _ (by kernel_rfl) (by kernel_rfl) (by kernel_rfl) hN hE ?_ ?_
  · clear hE h hN
    refine ⟨?_, ?_, ?_, ?_, ?_, ?_, ?_, ?_, ?_, ?_, ?_, ?_, ?_, ?_, ?_, ?_, trivial⟩
    · intro a w hE hB hd K hK
      refine at_call (wanted_free rfl) rfl (args0) Try.func16 (by kernel_rfl) rfl ?_
      refine (wraps_any w).mono ?_
      rintro e w1 ⟨rfl, hb⟩
      exact ⟨_, rfl, hK _ _ (grown_own hb) rfl (fun h => Bool.noConfusion (show false = true from h))⟩
    · intro a w hE hB hd K hK
      obtain ⟨_, e1, rfl⟩ := hd 0 _ _ (by kernel_rfl) rfl rfl
      exact at_value (wanted_free rfl) (run_move (Or.inl rfl) (eval_tmp e1)) (hK _ _ (grown_refl _ _) rfl (fun h => Bool.noConfusion (show false = true from h)))
    · intro a w hE hB hd K hK
      obtain ⟨_, eg, rfl⟩ := hd 1 _ _ (by kernel_rfl) rfl rfl
      obtain ⟨_, e1, b1, f1, rfl, hb1, hB1, h1⟩ := hE.get (i := 2) rfl
      exact at_row (wanted_on rfl rfl rfl eg) rfl e1 hb1 Try.underlying26 rfl (sz26.trans (by simp [U64])) (hK _ _ (grown_refl _ _) ⟨_, rfl, h1⟩ (fun h => Bool.noConfusion (show false = true from h)))
    · intro a w hE hB hd K hK
      obtain ⟨_, eg, rfl⟩ := hd 1 _ _ (by kernel_rfl) rfl rfl
      obtain ⟨_, e1, b1, f1, rfl, hb1, hB1, h1⟩ := hE.get (i := 3) rfl
      exact at_row (wanted_on rfl rfl rfl eg) rfl e1 hb1 Try.underlying26 rfl (sz26.trans (by simp [U64])) (hK _ _ (grown_refl _ _) ⟨_, rfl, h1⟩ (fun h => Bool.noConfusion (show false = true from h)))
    · intro a w hE hB hd K hK
      obtain ⟨_, eg, rfl⟩ := hd 1 _ _ (by kernel_rfl) rfl rfl
      obtain ⟨_, e1, f1, rfl, h1⟩ := hd 2 _ _ (by kernel_rfl) rfl rfl
      obtain ⟨_, e2, f2, rfl, h2⟩ := hd 3 _ _ (by kernel_rfl) rfl rfl
      refine at_call (wanted_on rfl rfl rfl eg) rfl (args2 e1 e2) Try.func22 (by kernel_rfl) rfl ?_
      refine (mul_el h1 h2 w).mono ?_
      rintro e w1 ⟨⟨f, rfl, hf⟩, hb⟩
      exact ⟨_, rfl, hK _ _ (grown_own hb) ⟨_, rfl, hf⟩ (fun h => Bool.noConfusion (show false = true from h))⟩
    · intro a w hE hB hd K hK
      obtain ⟨_, eg, rfl⟩ := hd 1 _ _ (by kernel_rfl) rfl rfl
      obtain ⟨_, e1, f1, rfl, h1⟩ := hd 4 _ _ (by kernel_rfl) rfl rfl
      refine at_call (wanted_on rfl rfl rfl eg) rfl (args1 e1) Try.func17 (by kernel_rfl) rfl ?_
      refine (text_any _ _ h1 w).mono ?_
      rintro e w1 ⟨rfl, hb⟩
      exact ⟨_, rfl, hK _ _ (grown_own hb) rfl (fun h => Bool.noConfusion (show false = true from h))⟩
    · intro a w hE hB hd K hK
      obtain ⟨_, eg, rfl⟩ := hd 1 _ _ (by kernel_rfl) rfl rfl
      obtain ⟨_, e1, b1, rfl, hb1, hB1⟩ := hE.get (i := 0) rfl
      exact at_value (wanted_on rfl rfl rfl eg) (run_op_slice rfl (eval_tmp e1) (slice22 _ _ _ hb1)) (hK _ _ (grown_refl _ _) ⟨_, rfl, hb1⟩ (fun h => Bool.noConfusion (show false = true from h)))
    · intro a w hE hB hd K hK
      obtain ⟨_, eg, rfl⟩ := hd 1 _ _ (by kernel_rfl) rfl rfl
      obtain ⟨_, e1, b1, rfl, hb1⟩ := hd 6 _ _ (by kernel_rfl) rfl rfl
      exact at_value (wanted_on rfl rfl rfl eg) (run_op_convert rfl (eval_tmp e1) (conv22 hb1)) (hK _ _ (grown_refl _ _) rfl (fun h => Bool.noConfusion (show false = true from h)))
    · intro a w hE hB hd K hK
      obtain ⟨_, eg, rfl⟩ := hd 1 _ _ (by kernel_rfl) rfl rfl
      obtain ⟨_, e1, rfl⟩ := hd 7 _ _ (by kernel_rfl) rfl rfl
      refine at_call (wanted_on rfl rfl rfl eg) rfl (args1 e1) Try.func15 (by kernel_rfl) rfl ?_
      refine (refOf_any ga hga w).mono ?_
      rintro e w1 ⟨rfl, hb⟩
      exact ⟨_, rfl, hK _ _ (grown_own hb) rfl (fun h => Bool.noConfusion (show false = true from h))⟩
    · intro a w hE hB hd K hK
      obtain ⟨_, eg, rfl⟩ := hd 1 _ _ (by kernel_rfl) rfl rfl
      obtain ⟨_, e1, b1, rfl, hb1, hB1⟩ := hE.get (i := 1) rfl
      exact at_value (wanted_on rfl rfl rfl eg) (run_op_slice rfl (eval_tmp e1) (slice22 _ _ _ hb1)) (hK _ _ (grown_refl _ _) ⟨_, rfl, hb1⟩ (fun h => Bool.noConfusion (show false = true from h)))
    · intro a w hE hB hd K hK
      obtain ⟨_, eg, rfl⟩ := hd 1 _ _ (by kernel_rfl) rfl rfl
      obtain ⟨_, e1, b1, rfl, hb1⟩ := hd 9 _ _ (by kernel_rfl) rfl rfl
      exact at_value (wanted_on rfl rfl rfl eg) (run_op_convert rfl (eval_tmp e1) (conv22 hb1)) (hK _ _ (grown_refl _ _) rfl (fun h => Bool.noConfusion (show false = true from h)))
    · intro a w hE hB hd K hK
      obtain ⟨_, eg, rfl⟩ := hd 1 _ _ (by kernel_rfl) rfl rfl
      obtain ⟨_, e1, rfl⟩ := hd 10 _ _ (by kernel_rfl) rfl rfl
      refine at_call (wanted_on rfl rfl rfl eg) rfl (args1 e1) Try.func15 (by kernel_rfl) rfl ?_
      refine (refOf_any gb hgb w).mono ?_
      rintro e w1 ⟨rfl, hb⟩
      exact ⟨_, rfl, hK _ _ (grown_own hb) rfl (fun h => Bool.noConfusion (show false = true from h))⟩
    · intro a w hE hB hd K hK
      obtain ⟨_, eg, rfl⟩ := hd 1 _ _ (by kernel_rfl) rfl rfl
      obtain ⟨_, e1, rfl⟩ := hd 8 _ _ (by kernel_rfl) rfl rfl
      obtain ⟨_, e2, rfl⟩ := hd 11 _ _ (by kernel_rfl) rfl rfl
      refine at_call (wanted_on rfl rfl rfl eg) rfl (args2 e1 e2) Try.func23 (by kernel_rfl) rfl ?_
      refine (refMul_any _ _ (mod_lt256 _) (mod_lt256 _) w).mono ?_
      rintro e w1 ⟨rfl, hb⟩
      exact ⟨_, rfl, hK _ _ (grown_own hb) rfl (fun h => Bool.noConfusion (show false = true from h))⟩
    · intro a w hE hB hd K hK
      obtain ⟨_, eg, rfl⟩ := hd 1 _ _ (by kernel_rfl) rfl rfl
      obtain ⟨_, e1, rfl⟩ := hd 5 _ _ (by kernel_rfl) rfl rfl
      obtain ⟨_, e2, rfl⟩ := hd 12 _ _ (by kernel_rfl) rfl rfl
      exact at_value (wanted_on rfl rfl rfl eg) (run_eqs rfl (eval_tmp e1) (eval_tmp e2)) (hK _ _ (grown_refl _ _) (show Value.bool _ = Value.bool true from by rw [q0]; simp) (fun h => Bool.noConfusion (show false = true from h)))
    · intro a w hE hB hd K hK
      obtain ⟨_, e1, rfl⟩ := hd 1 _ _ (by kernel_rfl) rfl rfl
      obtain ⟨_, e2, rfl⟩ := hd 13 _ _ (by kernel_rfl) rfl rfl
      exact at_value (wanted_free rfl) (run_pick rfl (eval_tmp e1) ((if_pos rfl).trans (eval_tmp e2))) (hK _ _ (grown_refl _ _) rfl (fun h => Bool.noConfusion (show false = true from h)))
    · intro a w hE hB hd K hK
      obtain ⟨_, e1, rfl⟩ := hd 14 _ _ (by kernel_rfl) rfl rfl
      exact at_value (wanted_free rfl) (run_move (Or.inr rfl) (eval_tmp e1)) (hK _ _ (grown_refl _ _) rfl (fun h => Bool.noConfusion (show false = true from h)))
  · intro a w hg hdf hs hE hL hap
    have hk : Know [(4, .eq (.bool true))] a w := ⟨hL.get (i := 15) rfl, trivial⟩
    exact h a w hg hdf hs hk

set_option maxRecDepth 100000 in
/-- FieldProducts -/
theorem products_any (ga gb : Nat → Nat) (hga : ∀ j, j < 32 → ga j < 256) (hgb : ∀ j, j < 32 → gb j < 256) (w : World) :
    Calls Try.prog 4 #[.agg (U8 ga), .agg (U8 gb)] w fun e w' => e = .returned (.bool true) ∧ Below w.heap.size w w' := by
  refine calls_of_wp Try.func4 rfl ?_
  refine wp_seq (f4_r0 hga hgb  (by kernel_rfl) (start_size (by kernel_rfl) (by simp)) start2 ?_)
  intro t0 w0 g0 d0 s0 K0
  show Code.wp _ _ _ _ _
  refine wp_seq (f4_r1 hga hgb  (by kernel_rfl) s0 K0 ?_)
  intro t1 w1 g1 d1 s1 K1
  show Code.wp _ _ _ _ _
  refine wp_seq (f4_r2 hga hgb (by simp [Nat.mul_mod]) (by kernel_rfl) s1 K1 ?_)
  intro t2 w2 g2 d2 s2 K2
  show Code.wp _ _ _ _ _
  obtain ⟨_, e, rfl⟩ := K2.get (i := 0) rfl
  exact wp_ret ⟨d2.trans (d1.trans (d0)), _, results_tmp rfl e, rfl, below_grown (grown_trans (grown_trans (g0) g1) g2)⟩
end Go.Proofs.Ytikmghmapmlebaa
