/-
  The schedule: Derive, New, and the document's.
-/
import Derived.Test.YtmifegjmmlipbaaDoorDg
import Derived.Test.YtmifegjmmlipbaaDoorDd
import Derived.Test.YtmifegjmmlipbaaDoorJd
namespace Go.Proofs.YtmifegjmmlipbaaDoor
open Go.RowKit Go.Rh Sha
attribute [local go_sem] S8_append S8_size

/-- A schedule's secret. -/
def SchedAt (w : World) (B h : Nat) (sec : List UInt8) : Prop :=
  ∃ v, w.heap[h]? = some (.cells #[v] 84 (0, 0)) ∧ Bs (fun k => B ≤ k ∧ k ≠ h) w v sec ∧ B ≤ h
theorem SchedAt.below {w w' : World} {B h : Nat} {sec : List UInt8} (H : SchedAt w B h sec) (k : Below w.heap.size w w') : SchedAt w' B h sec := by
  obtain ⟨v, h1, h2, h3⟩ := H
  exact ⟨v, (k.block _ (heap_lt h1)).trans h1, h2.keep (S := fun _ => False) (Keep.of_below k (Nat.le_refl _) _) (fun _ _ => id), h3⟩
theorem snone_any (w : World) : Calls Tryd.prog 31 #[] w fun e w' => e = .returned (.pointer none) ∧ w' = w := by
  go_enter Tryd.func31, Tryd.ntmps31
  go_wp2
  go_ret
  exact ⟨rfl, rfl⟩
set_option maxRecDepth 100000 in
theorem derive_nil (w : World) (x y : Value) : Calls Tryd.prog 33 #[.pointer none, x, y] w fun e w' => e = .returned (.tuple #[.slice none 0 0, .int .i64 1]) ∧ w' = w := by
  go_enter Tryd.func33, Tryd.ntmps33
  go_wp2
  go_ret2
  exact ⟨rfl, rfl⟩
set_option maxRecDepth 100000 in
theorem mix_nil (w : World) (x : Value) : Calls Tryd.prog 32 #[.pointer none, x] w fun e w' => e = .returned (.tuple #[]) ∧ w' = w := by
  go_enter Tryd.func32, Tryd.ntmps32
  go_wp2
  refine bodyPost_ret (results_none rfl _ _ _) rfl ?_
  exact ⟨rfl, rfl⟩
set_option maxRecDepth 100000 in
theorem docderive_any (sec lab m : List UInt8) (hb : sec.length ≤ 70368744177664) (hm : m.length ≤ 70368744177664) (w : World) :
    Calls Tryd.prog 37 #[.string (S8 sec), .string (S8 lab), .string (S8 m)] w fun e w' => e = .returned (.tuple #[.string (S8 (labR sec lab (sum m) 32)), .int .i64 (labE lab (sum m) 32)]) ∧ Below w.heap.size w w' := by
  have HB : Hid (sec.length ≤ 70368744177664 ∧ m.length ≤ 70368744177664) := ⟨hb, hm⟩
  clear hb hm
  go_enter Tryd.func37, Tryd.ntmps37
  go_wp2_with fail
  refine (refsum_any m HB.out.2 w).mono ?_
  rintro e w1 ⟨rfl, hb1⟩
  have HB1 := Lib.hid hb1
  clear hb1
  go_wp2_with fail
  refine (doclabel_g sec lab (sum m) 32 HB.out.1 w1).mono ?_
  rintro e w2 ⟨rfl, hb2⟩
  have HB2 : Hid (Below w.heap.size w w2) := HB1.out.trans (hb2.mono HB1.out.size)
  clear hb2
  go_wp2
  go_ret2
  exact ⟨rfl, HB2.out⟩
set_option maxRecDepth 100000 in
set_option maxHeartbeats 0 in
theorem derive_any {w : World} {B h : Nat} {sec lab m : List UInt8} {ok : Nat → Prop} {x : Value} (hL : Laid w) (H : SchedAt w B h sec) (hx : Bs ok w x m) (hb : sec.length ≤ 70368744177664) (hm : m.length ≤ 70368744177664) :
    Calls Tryd.prog 33 #[.pointer (some ⟨h, 0, none⟩), .string (S8 lab), x] w fun e w' => ∃ A n c, e = .returned (.tuple #[.slice A n c, .int .i64 (labE lab (sum m) 32)]) ∧ n = (labR sec lab (sum m) 32).length ∧ Own w' w.heap.size (.slice A n c) (labR sec lab (sum m) 32) ∧ Below w.heap.size w w' := by
  obtain ⟨R, hR⟩ : ∃ R, R = labR sec lab (sum m) 32 := ⟨_, rfl⟩
  obtain ⟨E, hE⟩ : ∃ E, E = labE lab (sum m) 32 := ⟨_, rfl⟩
  rw [← hR, ← hE]
  have HR := Lib.hid hR
  have HE := Lib.hid hE
  clear hR hE
  have HS := Lib.hid (St.start hL)
  have HX := Lib.hid hx
  have HB : Hid (sec.length ≤ 70368744177664 ∧ m.length ≤ 70368744177664) := ⟨hb, hm⟩
  have HH := Lib.hid H
  obtain ⟨A, n, c, rfl, hn, hc, hbk⟩ := hx
  clear hn hc hbk hL H hb hm
  go_enter Tryd.func33, Tryd.ntmps33
  go_wp2_with fail
  refine (st_sum16 HS.out HX.out HB.out.2).mono ?_
  rintro e w1 ⟨rfl, hb1, hs⟩
  obtain ⟨b, hsb⟩ : ∃ b, w1.heap.size = b := ⟨_, rfl⟩
  have HS1 := Lib.hid hs
  have HH1 := Lib.hid (HH.out.below hb1)
  clear hs hb1
  go_wp2_with (refine wpList_keep_sum hsb (by rfl) _ _ (by rfl) (by rfl) (by rfl) ?_; intro w2 h2 hs2; have H2 := Lib.hid h2; have HS2 := Lib.hid (HS1.out.step hs2); have HH2 := Lib.hid (HH1.out.below hs2); clear h2 hs2)
  clear hsb HS1 HH1
  obtain ⟨v, h1, h3, _⟩ := HH2.out
  have c0 : w2.cell? ⟨h, 0, none⟩ = some v := by rw [cell_of_row w2 h 0 _ 84 _ h1]; rfl
  have HV := Lib.hid h3
  clear h1 h3
  have HG : Hid (∀ {u w' : World}, World.grownBy { w2 with drawn := w2.drawn + 1 } u none → u.grownBy w' none → w2.grownBy w' none) := fun hu hw => grown_trans (grown_trans (show World.grownBy w2 { w2 with drawn := w2.drawn + 1 } none from ⟨rfl, rfl, rfl, Nat.le_refl _, fun _ _ _ => rfl⟩) hu) hw
  obtain ⟨V, hV⟩ : ∃ V : Nat → Value, V = fun i => ([.pointer (some ⟨h, 0, none⟩), .pointer (some ⟨h, 0, none⟩), .pointer (some ⟨h, 0, none⟩), v, .string (S8 lab), .slice (some ⟨b, 0, none⟩) 32 32, undef, undef, .int .i64 E, undef, .int .i64 E] : List Value).getD i undef := ⟨_, rfl⟩
  refine region_varyY 22 (fun i => i == 6 || i == 7 || i == 9) (fun i => i == 6 || i == 7 || i == 8 || i == 9) V (fun i x u => ∃ A n c, (x = if i = 6 then .tuple #[.slice A n c, .int .i64 E] else .slice A n c) ∧ n = R.length ∧ Own u w.heap.size (.slice A n c) R) (by kernel_rfl) (by rfl) (by kernel_rfl) (by kernel_rfl) (fun i hi => by simp at hi ⊢; omega) (by kernel_rfl) ?_ ?_ ?_ ?_
  · rintro i x u u' hg ⟨A, n, c, h1, h2, h3⟩
    exact ⟨A, n, c, h1, h2, h3.keep (S := fun _ => False) (Keep.of_grown hg (by simp)) (fun _ _ => id)⟩
  · subst hV
    show walkV _ _ _ _ _ _ _ ⟨_, _⟩
    refine ⟨.inr ⟨by rfl, fun u hu w' hw' => ?_⟩, ?_⟩
    · exact qv_run (v := .pointer (some ⟨h, 0, none⟩)) (by unfold execOp; simp only [Act.eval]; go_simp)
    go_simp
    refine ⟨.inr ⟨by rfl, fun u hu w' hw' => ?_⟩, ?_⟩
    · exact qv_run (v := .pointer (some ⟨h, 0, none⟩)) (by unfold execOp; simp only [Act.eval]; go_simp)
    go_simp
    refine ⟨.inr ⟨by rfl, fun u hu w' hw' => ?_⟩, ?_⟩
    · exact qv_run (v := .pointer (some ⟨h, 0, none⟩)) (by unfold execOp; simp only [Act.eval]; go_simp)
    go_simp
    refine ⟨.inr ⟨by rfl, fun u hu w' hw' => ?_⟩, ?_⟩
    · have c0' := (HG.out hu hw').cell c0 (by simp)
      exact qv_run (v := v) (by unfold execOp; simp only [Act.eval]; go_simp)
    go_simp
    refine ⟨.inr ⟨by rfl, fun u hu w' hw' => ?_⟩, ?_⟩
    · exact qv_run (v := .string (S8 lab)) (by unfold execOp; simp only [Act.eval]; go_simp)
    go_simp
    refine ⟨.inr ⟨by rfl, fun u hu w' hw' => ?_⟩, ?_⟩
    · exact qv_run (v := .slice (some ⟨b, 0, none⟩) 32 32) (by unfold execOp; simp only [Act.eval]; go_simp)
    go_simp
    refine ⟨.inl rfl, ?_⟩
    go_simp
    refine ⟨.inl rfl, ?_⟩
    go_simp
    refine ⟨.inl rfl, ?_⟩
    go_simp
    refine ⟨.inl rfl, ?_⟩
    go_simp
    refine ⟨.inr ⟨by rfl, fun u hu w' hw' => ?_⟩, ?_⟩
    · exact qv_run (v := .int .i64 E) (by unfold execOp; simp only [Act.eval]; go_simp)
    trivial
  · intro i o hi hs
    have hi2 : i = 6 ∨ i = 7 ∨ i = 8 ∨ i = 9 := by simp at hs; omega
    rcases hi2 with rfl | rfl | rfl | rfl
    · simp at hi
      subst hi
      intro a w' hg hsp hdeps K hK
      have h16 : a.tmps[16]? = some (v) := by
        obtain ⟨v0, h1, h2⟩ := hdeps 3 _ 16 (by kernel_rfl) rfl rfl
        rw [h1, show v0 = v from by simpa [DY, hV] using h2]
      have h17 : a.tmps[17]? = some (.string (S8 lab)) := by
        obtain ⟨v0, h1, h2⟩ := hdeps 4 _ 17 (by kernel_rfl) rfl rfl
        rw [h1, show v0 = .string (S8 lab) from by simpa [DY, hV] using h2]
      have h18 : a.tmps[18]? = some (.slice (some ⟨b, 0, none⟩) 32 32) := by
        obtain ⟨v0, h1, h2⟩ := hdeps 5 _ 18 (by kernel_rfl) rfl rfl
        rw [h1, show v0 = .slice (some ⟨b, 0, none⟩) 32 32 from by simpa [DY, hV] using h2]
      rw [if_pos (by simp [Region.wanted])]
      left
      unfold Oper.wp
      rw [enter_run (P := Tryd.prog) (vs := #[v, .string (S8 lab), .slice (some ⟨b, 0, none⟩) 32 32, .int .i64 32]) rfl (by simp [Act.eval, h16, h17, h18]) Tryd.func30 (by kernel_rfl) (by rfl)]
      have hgw := HG.out (⟨rfl, rfl, rfl, Nat.le_refl _, fun _ _ _ => rfl⟩) hg
      have hSw := HS2.out.grown hgw
      show Calls Tryd.prog 30 _ w' _
      refine (label_g hSw (HV.out.keep (S := fun _ => False) (Keep.of_grown hgw (by simp)) (fun _ _ => id)) (bs_row ((hgw.block _ (heap_lt H2.out) (by simp)).trans H2.out) (sum_length m)) HB.out.1).mono ?_
      rintro e w'' ⟨A1, n1, c1, rfl, hn1, ho1, hbel, _⟩
      exact hK _ _ (grown_below none hbel (Nat.le_refl _)) (by simp only [DY]; exact ⟨A1, n1, c1, by rw [HE.out]; rfl, by rw [HR.out]; exact hn1, by rw [HR.out]; exact ho1.mono (fun k hk => Nat.le_trans hSw.size (ho1.lt k hk).1)⟩) (fun h => by cases h)
    · simp at hi
      subst hi
      intro a w' hg hsp hdeps K hK
      obtain ⟨x, h19, h2⟩ := hdeps 6 _ 19 (by kernel_rfl) rfl rfl
      obtain ⟨A1, n1, c1, rfl, hn1, ho1⟩ : ∃ A n c, x = .tuple #[.slice A n c, .int .i64 E] ∧ n = R.length ∧ Own w' w.heap.size (.slice A n c) R := by simpa [DY] using h2
      rw [if_pos (by simp [Region.wanted])]
      left
      refine wp_of_run (v := .slice A1 n1 c1) (w' := w') (by unfold execOp; simp [Act.eval, h19, Result.andThen, Instr.extract]) ?_
      exact hK (.slice A1 n1 c1) w' ⟨rfl, rfl, rfl, Nat.le_refl _, fun _ _ _ => rfl⟩ (by simp only [DY]; exact ⟨A1, n1, c1, rfl, hn1, ho1⟩) (fun h => by cases h)
    · simp at hi
      subst hi
      intro a w' hg hsp hdeps K hK
      obtain ⟨x, h19, h2⟩ := hdeps 6 _ 19 (by kernel_rfl) rfl rfl
      obtain ⟨A1, n1, c1, rfl, hn1, ho1⟩ : ∃ A n c, x = .tuple #[.slice A n c, .int .i64 E] ∧ n = R.length ∧ Own w' w.heap.size (.slice A n c) R := by simpa [DY] using h2
      rw [if_pos (by simp [Region.wanted])]
      left
      refine wp_of_run (v := .int .i64 E) (w' := w') (by unfold execOp; simp [Act.eval, h19, Result.andThen, Instr.extract]) ?_
      exact hK (.int .i64 E) w' ⟨rfl, rfl, rfl, Nat.le_refl _, fun _ _ _ => rfl⟩ (by simp [DY, hV]) (fun h => by cases h)
    · simp at hi
      subst hi
      intro a w' hg hsp hdeps K hK
      obtain ⟨x, h20, h2⟩ := hdeps 7 _ 20 (by kernel_rfl) rfl rfl
      obtain ⟨A1, n1, c1, rfl, hn1, ho1⟩ : ∃ A n c, x = .slice A n c ∧ n = R.length ∧ Own w' w.heap.size (.slice A n c) R := by simpa [DY] using h2
      rw [if_pos (by simp [Region.wanted])]
      left
      refine wp_of_run (v := .slice A1 n1 c1) (w' := w') (by unfold execOp; simp [Act.eval, h20, Result.andThen]) ?_
      exact hK (.slice A1 n1 c1) w' ⟨rfl, rfl, rfl, Nat.le_refl _, fun _ _ _ => rfl⟩ (by simp only [DY]; exact ⟨A1, n1, c1, rfl, hn1, ho1⟩) (fun h => by cases h)
  · intro vs w' hg hv
    obtain ⟨A1, n1, c1, h9, hn1, ho1⟩ := hv 9 (by decide) rfl
    have e9 : vs 9 = .slice A1 n1 c1 := by simpa using h9
    have HSf := Lib.hid (HS2.out.grown (HG.out (⟨rfl, rfl, rfl, Nat.le_refl _, fun _ _ _ => rfl⟩) hg))
    have HN1 := Lib.hid hn1
    have HO1 := Lib.hid ho1
    subst hV
    clear hv hg h9 hn1 ho1
    simp [seqA, Act.put, e9]
    go_wp2
    go_ret2
    exact ⟨A1, n1, c1, rfl, HN1.out, HO1.out, HSf.out.below⟩
end Go.Proofs.YtmifegjmmlipbaaDoor
