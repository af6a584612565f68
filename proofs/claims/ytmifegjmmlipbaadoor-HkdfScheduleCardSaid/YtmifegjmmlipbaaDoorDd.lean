/-
  HkdfExpand: the walk.
-/
import Derived.Test.YtmifegjmmlipbaaDoorDc
import Derived.Test.YtmifegjmmlipbaaDoorCj
import Derived.Test.YtmifegjmmlipbaaDoorJc
namespace Go.Proofs.YtmifegjmmlipbaaDoor
open Go.RowKit Go.Rh Sha

theorem wp_of_run {P : Program} {o : Oper} {a : Act} {w w' : World} {v : Value} {K : Act → World → Prop} {Q : Exit → Act → World → Prop} (hr : (execOp a.eval o).run P w = .ok (.value v) w') (h : K (a.put o.dst v) w') : o.wp P a w K Q := by
  unfold Oper.wp; rw [hr]; exact h
set_option maxRecDepth 100000 in
theorem hkdfExpand_big {w : World} {v x : Value} {l m : List UInt8} {k : Int} {ok ok' : Nat → Prop} (hL : Laid w) (hv : Bs ok w v l) (hx : Bs ok' w x m) (hb : 3000 < l.length) (hb2 : l.length ≤ 140737488355328) : Calls Tryd.prog 11 #[v, x, .int .i64 k] w fun e w' => e = .returned (.bool true) ∧ Below w.heap.size w w' := by
  have HS := Lib.hid (St.start hL)
  obtain ⟨A, n, c, rfl, hn, hc, hbk⟩ := hv
  obtain ⟨A', n', c', rfl, hn', hc', hbk'⟩ := hx
  have hn5 : (3000 : Int) < n := by omega
  clear hc hbk hL hc' hbk' hn hn' hb hb2
  go_enter Tryd.func11, Tryd.ntmps11
  go_wp2_with fail
  refine (st_expands HS.out).mono ?_
  rintro e w1 ⟨rfl, hs⟩
  have HS1 := Lib.hid hs
  clear hs
  go_wp2_with fail
  refine (st_expands HS1.out).mono ?_
  rintro e w2 ⟨rfl, hs⟩
  have HS2 := Lib.hid hs
  clear hs
  go_wp2
  go_ret
  exact ⟨rfl, HS2.out.below⟩
set_option maxRecDepth 100000 in
theorem hkdfExpand_big2 {w : World} {v x : Value} {l m : List UInt8} {k : Int} {ok ok' : Nat → Prop} (hL : Laid w) (hv : Bs ok w v l) (hx : Bs ok' w x m) (hb : l.length ≤ 3000) (hm : 300 < m.length) (hb2 : m.length ≤ 140737488355328) : Calls Tryd.prog 11 #[v, x, .int .i64 k] w fun e w' => e = .returned (.bool true) ∧ Below w.heap.size w w' := by
  have HS := Lib.hid (St.start hL)
  obtain ⟨A, n, c, rfl, hn, hc, hbk⟩ := hv
  obtain ⟨A', n', c', rfl, hn', hc', hbk'⟩ := hx
  have hn5 : (n : Int) ≤ 3000 := by omega
  have hn6 : (300 : Int) < n' := by omega
  clear hc hbk hL hc' hbk' hn hn' hb hb2 hm
  go_enter Tryd.func11, Tryd.ntmps11
  go_wp2_with fail
  refine (st_expands HS.out).mono ?_
  rintro e w1 ⟨rfl, hs⟩
  have HS1 := Lib.hid hs
  clear hs
  go_wp2_with fail
  refine (st_expands HS1.out).mono ?_
  rintro e w2 ⟨rfl, hs⟩
  have HS2 := Lib.hid hs
  clear hs
  go_wp2
  go_ret
  exact ⟨rfl, HS2.out.below⟩
set_option maxRecDepth 100000 in
set_option maxHeartbeats 0 in
theorem hkdfExpand_small {w : World} {v x : Value} {l m : List UInt8} {k : Int} (hL : Laid w) (hv : Bs (fun k => k < w.heap.size) w v l) (hx : Bs (fun k => k < w.heap.size) w x m) (hb : l.length ≤ 3000) (hb2 : m.length ≤ 300) : Calls Tryd.prog 11 #[v, x, .int .i64 k] w fun e w' => e = .returned (.bool true) ∧ Below w.heap.size w w' := by
  have HS := Lib.hid (St.start hL)
  have HV := Lib.hid hv
  have HX := Lib.hid hx
  obtain ⟨A, n, c, rfl, hn, hc, hbk⟩ := hv
  obtain ⟨A', n', c', rfl, hn', hc', hbk'⟩ := hx
  have hn5 : (n : Int) ≤ 3000 := by omega
  have hn6 : (n' : Int) ≤ 300 := by omega
  have HL2 : Hid (l.length ≤ 3000 ∧ m.length ≤ 300) := ⟨hb, hb2⟩
  clear hc hbk hL hc' hbk' hn hn' hb hb2
  go_enter Tryd.func11, Tryd.ntmps11
  go_wp2_with fail
  refine (st_expands HS.out).mono ?_
  rintro e w1 ⟨rfl, hs⟩
  have HS1 := Lib.hid hs
  have hcv1 : (convert 22 9 (.slice A n c)).run Tryd.prog w1 = .ok (.string (S8 l)) w1 := run_string_bs Tryd.underlying22 Tryd.underlying5 Tryd.underlying9 (hs.old HV.out)
  have hcv2 : (convert 22 9 (.slice A' n' c')).run Tryd.prog w1 = .ok (.string (S8 m)) w1 := run_string_bs Tryd.underlying22 Tryd.underlying5 Tryd.underlying9 (hs.old HX.out)
  clear hs
  go_wp2_with fail
  refine (docexpand_g l m k (by have := HL2.out; omega) (by have := HL2.out; omega) w1).mono ?_
  rintro e w2 ⟨rfl, hb2⟩
  have HS2 := Lib.hid (HS1.out.step hb2)
  clear hb2 hcv1 hcv2 HS1
  go_wp2_with fail
  refine (expand_g HS2.out (HS2.out.old HV.out) (HS2.out.old HX.out) (by have := HL2.out; omega) (by have := HL2.out; omega)).mono ?_
  rintro e w3 ⟨A3, n3, c3, rfl, hn3, ho3, hb3, hs⟩
  obtain ⟨R, hR⟩ : ∃ R, R = expR l m k := ⟨_, rfl⟩
  obtain ⟨E, hE⟩ : ∃ E, E = expE k := ⟨_, rfl⟩
  rw [← hR] at ho3 ⊢
  rw [← hE]
  have HS3 := Lib.hid hs
  have HO3 := Lib.hid ho3.bs
  clear hn3 ho3 hb3 hs HS2 hR hE
  go_wp2_with fail
  obtain ⟨Mc, hMc⟩ : ∃ X, X = mac l m := ⟨_, rfl⟩
  have HMc := Lib.hid hMc
  clear hMc
  have HG : Hid (∀ {u w' : World}, World.grownBy { w3 with drawn := w3.drawn + 1 } u none → u.grownBy w' none → w3.grownBy w' none) := fun hu hw => grown_trans (grown_trans (show World.grownBy w3 { w3 with drawn := w3.drawn + 1 } none from ⟨rfl, rfl, rfl, Nat.le_refl _, fun _ _ _ => rfl⟩) hu) hw
  obtain ⟨V, hV⟩ : ∃ V : Nat → Value, V = fun i => ([.string (S8 R), .slice A3 n3 c3, .string (S8 R), .bool true, .bool true, .int .i64 E, .int .i64 E, .bool true, .bool true, .bool true, .slice A n c, .slice A' n' c', undef, .string (S8 Mc), .slice A n c, .string (S8 l), .slice A' n' c', .string (S8 m), .string (S8 Mc), .bool true, .bool true, .bool true] : List Value).getD i undef := ⟨_, rfl⟩
  refine region_vary 61 12 (fun i => i == 12 || i == 13) V (fun v w => ∃ b, v = .slice (some ⟨b, 0, none⟩) 32 32 ∧ w.heap[b]? = some (.cells (B8 32 Mc) 24 (0, 0))) (by kernel_rfl) (by rfl) (by kernel_rfl) (by kernel_rfl) rfl (by kernel_rfl) ?_ ?_ ?_ (by decide) ?_
  · rintro v w w' hg ⟨b, rfl, hb⟩
    exact ⟨b, rfl, (hg.block _ (heap_lt hb) (by simp)).trans hb⟩
  · subst hV
    show walkV _ _ _ _ _ _ _ ⟨_, _⟩
    refine ⟨.inr ⟨by rfl, fun u hu w' hw' => ?_⟩, ?_⟩
    · exact qv_run (v := .string (S8 R)) (by unfold execOp; simp only [Act.eval]; go_simp)
    go_simp
    refine ⟨.inr ⟨by rfl, fun u hu w' hw' => ?_⟩, ?_⟩
    · exact qv_run (v := .slice A3 n3 c3) (by unfold execOp; simp only [Act.eval]; go_simp)
    go_simp
    refine ⟨.inr ⟨by rfl, fun u hu w' hw' => ?_⟩, ?_⟩
    · exact qv_convert (u := .slice A3 n3 c3) 22 9 (.tmp 41) (by rfl) (by rfl) (run_string_bs Tryd.underlying22 Tryd.underlying5 Tryd.underlying9 (HO3.out.keep (S := fun _ => False) (Keep.of_grown (HG.out hu hw') (by simp)) (fun _ _ => id)))
    go_simp
    refine ⟨.inr ⟨by rfl, fun u hu w' hw' => ?_⟩, ?_⟩
    · exact qv_run (v := .bool true) (by unfold execOp; simp only [Act.eval]; go_simp)
    go_simp
    refine ⟨.inr ⟨by rfl, fun u hu w' hw' => ?_⟩, ?_⟩
    · exact qv_run (v := .bool true) (by unfold execOp; simp only [Act.eval]; go_simp)
    go_simp
    refine ⟨.inr ⟨by rfl, fun u hu w' hw' => ?_⟩, ?_⟩
    · exact qv_run (v := .int .i64 E) (by unfold execOp; simp only [Act.eval]; go_simp)
    go_simp
    refine ⟨.inr ⟨by rfl, fun u hu w' hw' => ?_⟩, ?_⟩
    · exact qv_run (v := .int .i64 E) (by unfold execOp; simp only [Act.eval]; go_simp)
    go_simp
    refine ⟨.inr ⟨by rfl, fun u hu w' hw' => ?_⟩, ?_⟩
    · exact qv_run (v := .bool true) (by unfold execOp; simp only [Act.eval]; go_simp)
    go_simp
    refine ⟨.inr ⟨by rfl, fun u hu w' hw' => ?_⟩, ?_⟩
    · exact qv_run (v := .bool true) (by unfold execOp; simp only [Act.eval]; go_simp)
    go_simp
    refine ⟨.inr ⟨by rfl, fun u hu w' hw' => ?_⟩, ?_⟩
    · exact qv_run (v := .bool true) (by unfold execOp; simp only [Act.eval]; go_simp)
    go_simp
    refine ⟨.inr ⟨by rfl, fun u hu w' hw' => ?_⟩, ?_⟩
    · exact qv_run (v := .slice A n c) (by unfold execOp; simp only [Act.eval]; go_simp)
    go_simp
    refine ⟨.inr ⟨by rfl, fun u hu w' hw' => ?_⟩, ?_⟩
    · exact qv_run (v := .slice A' n' c') (by unfold execOp; simp only [Act.eval]; go_simp)
    go_simp
    refine ⟨.inl rfl, ?_⟩
    go_simp
    refine ⟨.inl rfl, ?_⟩
    go_simp
    refine ⟨.inr ⟨by rfl, fun u hu w' hw' => ?_⟩, ?_⟩
    · exact qv_run (v := .slice A n c) (by unfold execOp; simp only [Act.eval]; go_simp)
    go_simp
    refine ⟨.inr ⟨by rfl, fun u hu w' hw' => ?_⟩, ?_⟩
    · exact qv_convert (u := .slice A n c) 22 9 (.tmp 54) (by rfl) (by rfl) (run_string_bs Tryd.underlying22 Tryd.underlying5 Tryd.underlying9 ((HS3.out.old HV.out).keep (S := fun _ => False) (Keep.of_grown (HG.out hu hw') (by simp)) (fun _ _ => id)))
    go_simp
    refine ⟨.inr ⟨by rfl, fun u hu w' hw' => ?_⟩, ?_⟩
    · exact qv_run (v := .slice A' n' c') (by unfold execOp; simp only [Act.eval]; go_simp)
    go_simp
    refine ⟨.inr ⟨by rfl, fun u hu w' hw' => ?_⟩, ?_⟩
    · exact qv_convert (u := .slice A' n' c') 22 9 (.tmp 56) (by rfl) (by rfl) (run_string_bs Tryd.underlying22 Tryd.underlying5 Tryd.underlying9 ((HS3.out.old HX.out).keep (S := fun _ => False) (Keep.of_grown (HG.out hu hw') (by simp)) (fun _ _ => id)))
    go_simp
    refine ⟨.inr ⟨by rfl, fun u hu w' hw' => ?_⟩, ?_⟩
    · refine qv_call (vs := #[.string (S8 l), .string (S8 m)]) (by rfl) (by simp [Act.eval]) Tryd.func24 (by kernel_rfl) (by rfl) ?_
      refine (refmac_any l m (by have := HL2.out; omega) (by have := HL2.out; omega) w').mono ?_
      rintro e w'' ⟨rfl, hb'⟩
      exact ⟨by rw [← HMc.out]; rfl, grown_trans hw' (grown_below none hb' (Nat.le_refl _))⟩
    go_simp
    refine ⟨.inr ⟨by rfl, fun u hu w' hw' => ?_⟩, ?_⟩
    · exact qv_run (v := .bool true) (by unfold execOp; simp only [Act.eval]; go_simp)
    go_simp
    refine ⟨.inr ⟨by rfl, fun u hu w' hw' => ?_⟩, ?_⟩
    · exact qv_run (v := .bool true) (by unfold execOp; simp only [Act.eval]; go_simp)
    go_simp
    refine ⟨.inr ⟨by rfl, fun u hu w' hw' => ?_⟩, ?_⟩
    · exact qv_run (v := .bool true) (by unfold execOp; simp only [Act.eval]; go_simp)
    trivial
  · intro i o hi hs
    have hi2 : i = 12 ∨ i = 13 := by simpa using hs
    rcases hi2 with rfl | rfl
    · simp at hi
      subst hi
      intro a w' hg hsp hdeps K hK
      have h49 : a.tmps[49]? = some (.bool true) := by
        obtain ⟨v, h1, h2⟩ := hdeps 9 _ 49 (by kernel_rfl) rfl rfl
        rw [h1, show v = .bool true from by simpa [DX, hV] using h2]
      have h50 : a.tmps[50]? = some (.slice A n c) := by
        obtain ⟨v, h1, h2⟩ := hdeps 10 _ 50 (by kernel_rfl) rfl rfl
        rw [h1, show v = .slice A n c from by simpa [DX, hV] using h2]
      have h51 : a.tmps[51]? = some (.slice A' n' c') := by
        obtain ⟨v, h1, h2⟩ := hdeps 11 _ 51 (by kernel_rfl) rfl rfl
        rw [h1, show v = .slice A' n' c' from by simpa [DX, hV] using h2]
      rw [if_pos (by simp [Region.wanted, yielded, h49])]
      left
      unfold Oper.wp
      rw [enter_run (P := Tryd.prog) (vs := #[.slice A n c, .slice A' n' c']) rfl (by simp [Act.eval, h50, h51]) Tryd.func28 (by kernel_rfl) (by rfl)]
      have hSw := HS3.out.grown (HG.out (⟨rfl, rfl, rfl, Nat.le_refl _, fun _ _ _ => rfl⟩) hg)
      show Calls Tryd.prog 28 _ w' _
      refine (st_extract hSw (hSw.old HV.out) (hSw.old HX.out) (by have := HL2.out; omega) (by have := HL2.out; omega)).mono ?_
      rintro e w'' ⟨b, rfl, _, hb, hbel, _⟩
      exact hK _ _ (grown_below none hbel (Nat.le_refl _)) (by simp only [DX, if_true]; exact ⟨b, rfl, by rw [HMc.out]; exact hb⟩) (fun h => by cases h)
    · simp at hi
      subst hi
      intro a w' hg hsp hdeps K hK
      have h49 : a.tmps[49]? = some (.bool true) := by
        obtain ⟨v, h1, h2⟩ := hdeps 9 _ 49 (by kernel_rfl) rfl rfl
        rw [h1, show v = .bool true from by simpa [DX, hV] using h2]
      obtain ⟨v, h52, h2⟩ := hdeps 12 _ 52 (by kernel_rfl) rfl rfl
      obtain ⟨b, rfl, hb⟩ : ∃ b, v = .slice (some ⟨b, 0, none⟩) 32 32 ∧ w'.heap[b]? = some (.cells (B8 32 Mc) 24 (0, 0)) := by simpa [DX] using h2
      rw [if_pos (by simp [Region.wanted, yielded, h49])]
      left
      have hcv : (convert 22 9 (.slice (some ⟨b, 0, none⟩) 32 32)).run Tryd.prog w' = .ok (.string (S8 Mc)) w' := run_string_bs Tryd.underlying22 Tryd.underlying5 Tryd.underlying9 (bs_row hb (by rw [HMc.out]; exact mac_length l m))
      refine wp_of_run (v := .string (S8 Mc)) (w' := w') (by unfold execOp; simp [Act.eval, h52, hcv, Result.andThen]) ?_
      exact hK (.string (S8 Mc)) w' ⟨rfl, rfl, rfl, Nat.le_refl _, fun _ _ _ => rfl⟩ (by simp [DX, hV]) (fun h => by cases h)
  · intro v w' hg hv
    have HSf := Lib.hid (HS3.out.grown (HG.out (⟨rfl, rfl, rfl, Nat.le_refl _, fun _ _ _ => rfl⟩) hg))
    subst hV
    clear hv hg
    simp [seqA, Act.put]
    go_wp2
    go_ret
    exact ⟨rfl, HSf.out.below⟩
end Go.Proofs.YtmifegjmmlipbaaDoor
