/-
  GuardKeys: the walk.
-/
import Derived.Test.YtmifegjmmlipbaaDoorEe
import Derived.Test.YtmifegjmmlipbaaDoorCj
namespace Go.Proofs.YtmifegjmmlipbaaDoor
open Go.RowKit Go.Rh Sha
set_option maxRecDepth 100000 in
theorem guardKeys_big1 {w : World} {l0 : List UInt8} {l1 : List UInt8} (hL : Laid w)   (hb0 : 2000 < l0.length) (hc0 : l0.length ≤ 140737488355328) : Calls Tryd.prog 14 #[.string (S8 l0), .string (S8 l1)] w fun e w' => e = .returned (.bool true) ∧ Below w.heap.size w w' := by
  have HS := Lib.hid (St.start hL)
  have hs0 : (S8 l0).size = l0.length := S8_size l0
  have hs1 : (S8 l1).size = l1.length := S8_size l1
  have hi0 : (2000 : Int) < l0.length := by omega
  clear hL  hb0 hc0
  go_enter Tryd.func14, Tryd.ntmps14
  go_wp2_with fail
  refine (st_guards HS.out).mono ?_
  rintro e w1 ⟨rfl, hs⟩
  have HS1 := Lib.hid hs
  clear hs
  go_wp2_with fail
  refine (st_guards HS1.out).mono ?_
  rintro e w2 ⟨rfl, hs⟩
  have HS2 := Lib.hid hs
  clear hs
  go_wp2
  go_ret
  exact ⟨rfl, HS2.out.below⟩
set_option maxRecDepth 100000 in
theorem guardKeys_big2 {w : World} {l0 : List UInt8} {l1 : List UInt8} (hL : Laid w)  (hb0 : l0.length ≤ 2000) (hb1 : 2000 < l1.length) (hc1 : l1.length ≤ 140737488355328) : Calls Tryd.prog 14 #[.string (S8 l0), .string (S8 l1)] w fun e w' => e = .returned (.bool true) ∧ Below w.heap.size w w' := by
  have HS := Lib.hid (St.start hL)
  have hs0 : (S8 l0).size = l0.length := S8_size l0
  have hs1 : (S8 l1).size = l1.length := S8_size l1
  have hi0 : (l0.length : Int) ≤ 2000 := by omega
  have hi1 : (2000 : Int) < l1.length := by omega
  clear hL  hb0 hb1 hc1
  go_enter Tryd.func14, Tryd.ntmps14
  go_wp2_with fail
  refine (st_guards HS.out).mono ?_
  rintro e w1 ⟨rfl, hs⟩
  have HS1 := Lib.hid hs
  clear hs
  go_wp2_with fail
  refine (st_guards HS1.out).mono ?_
  rintro e w2 ⟨rfl, hs⟩
  have HS2 := Lib.hid hs
  clear hs
  go_wp2
  go_ret
  exact ⟨rfl, HS2.out.below⟩
theorem wpList_store_keys {w : World} {b : Nat} {T : TypeId} {ops : Array Oper} {rest : List Oper} {o : Oper} {a : Act} {Q : Exit → Act → World → Prop} {cs : Array Value} (hT : (Tryd.prog.info? T).map (·.size) = some 3) (hs : w.heap.size = b) (hgd : o.guard = none) (p x : Operand) (ho : o.op = .store T p x) (hp : a.eval p = .pointer (some ⟨b, 0, none⟩)) (hx : a.eval x = .agg cs) (hc : cs.size = 3) (h1 : (cs.all fun x => x.oneCell') = true)
    (h : ∀ w', w'.heap[b]? = some (.cells cs T (0, 0)) → Below w.heap.size w w' → wpList Tryd.prog ops Q rest (a.put o.dst undef) w') : wpList Tryd.prog ops Q (o :: rest) a (w.alloc (.cells #[.string { data := #[] }, .string { data := #[] }, .string { data := #[] }] T)) := by
  subst hs
  have HX : (w.alloc (.cells #[.string { data := #[] }, .string { data := #[] }, .string { data := #[] }] T)).heap[w.heap.size]? = some (.cells #[.string { data := #[] }, .string { data := #[] }, .string { data := #[] }] T (0, 0)) := heap_alloc_new w _
  refine wpList_store_row hgd T p x ho _ _ hp hx T _ HX (by rw [hT, hc]) (by rw [hc]; rfl) h1 ?_
  exact h _ (setRow_heap _ _ _ _ _ _ HX) (below_setRow ((Below.refl _ _).alloc (Nat.le_refl _) _) (Nat.le_refl _) _)
theorem run_load64 {w : World} {b : Nat} {cs : Array Value} (hc : cs.size = 3) (hg : w.heap[b]? = some (.cells cs 64 (0, 0))) : (Instr.loadAt 64 (.pointer (some ⟨b, 0, none⟩))).run Tryd.prog w = .ok (.agg cs) w := by
  simp only [Instr.loadAt, Instr.sureAddr, Sem.run_bind, Sem.run_pure, Result.andThen_ok, run_loadVar_row w b 64 64 cs _ _ hg Tryd.underlying64 rfl (by rw [sz64, hc])]
theorem run_load67 {w : World} {b : Nat} {cs : Array Value} (hc : cs.size = 3) (hg : w.heap[b]? = some (.cells cs 67 (0, 0))) : (Instr.loadAt 67 (.pointer (some ⟨b, 0, none⟩))).run Tryd.prog w = .ok (.agg cs) w := by
  simp only [Instr.loadAt, Instr.sureAddr, Sem.run_bind, Sem.run_pure, Result.andThen_ok, run_loadVar_row w b 67 67 cs _ _ hg Tryd.underlying67 rfl (by rw [sz67, hc])]
set_option maxRecDepth 100000 in
set_option maxHeartbeats 0 in
theorem guardKeys_small {w : World} {s d : List UInt8} (hL : Laid w) (hb : s.length ≤ 2000) (hb2 : d.length ≤ 2000) : Calls Tryd.prog 14 #[.string (S8 s), .string (S8 d)] w fun e w' => e = .returned (.bool true) ∧ Below w.heap.size w w' := by
  have HS := Lib.hid (St.start hL)
  have hs8 : (S8 s).size = s.length := S8_size s
  have hd8 : (S8 d).size = d.length := S8_size d
  have hsI : (s.length : Int) ≤ 2000 := by omega
  have hdI : (d.length : Int) ≤ 2000 := by omega
  have HL2 : Hid (s.length ≤ 2000 ∧ d.length ≤ 2000) := ⟨hb, hb2⟩
  clear hL hb hb2
  go_enter Tryd.func14, Tryd.ntmps14
  go_wp2_with fail
  refine (st_guards HS.out).mono ?_
  rintro e w1 ⟨rfl, hs⟩
  have HS1 := Lib.hid hs
  clear hs HS
  go_wp2_with fail
  refine (docof_any HS1.out s (by have := HL2.out; omega)).mono ?_
  rintro e w2 ⟨rfl, -, hs⟩
  obtain ⟨a, b, c, hkv⟩ := keysV_form s
  have HKV := Lib.hid hkv
  obtain ⟨E, hE⟩ : ∃ E, E = argE (s.length = 32) := ⟨_, rfl⟩
  rw [hkv, ← hE]
  have HE := Lib.hid hE
  obtain ⟨b1, hb1⟩ : ∃ b, w2.heap.size = b := ⟨_, rfl⟩
  have HS2 := Lib.hid hs
  clear hs HS1 hkv hE
  go_wp2_with (refine wpList_store_keys sz64 hb1 (by rfl) _ _ (by rfl) (by rfl) (by rfl) rfl (str3_one _ _ _) ?_; intro w3 h3 hs3; have H3 := Lib.hid h3; have HS3 := Lib.hid (HS2.out.step hs3); clear h3 hs3)
  clear hb1 HS2
  refine (of_any HS3.out s (by have := HL2.out; omega)).mono ?_
  rintro e w4 ⟨rfl, hb4, hs⟩
  rw [HKV.out, ← HE.out]
  obtain ⟨b2, hb2⟩ : ∃ b, w4.heap.size = b := ⟨_, rfl⟩
  have H4 : Hid (w4.heap[b1]? = some (.cells #[.string (S8 a), .string (S8 b), .string (S8 c)] 64 (0, 0))) := (hb4.block _ (heap_lt H3.out)).trans H3.out
  have HS4 := Lib.hid hs
  clear hs hb4 HS3 H3
  go_wp2_with (refine wpList_store_keys sz67 hb2 (by rfl) _ _ (by rfl) (by rfl) (by rfl) rfl (str3_one _ _ _) ?_; intro w5 h5 hs5; have K5 := Lib.hid h5; have HS5 := Lib.hid (HS4.out.step hs5); have H5 : Hid (w5.heap[b1]? = some (.cells #[.string (S8 a), .string (S8 b), .string (S8 c)] 64 (0, 0))) := (hs5.block _ (heap_lt H4.out)).trans H4.out; clear h5 hs5)
  clear hb2 HS4 H4
  have HB5 := Lib.hid HS5.out.below
  have HT5 := Lib.hid (St.start HS5.out.laid)
  refine (docnext_any HT5.out s (by have := HL2.out; omega)).mono ?_
  rintro e w6 ⟨rfl, hs⟩
  rw [← HE.out]
  obtain ⟨R, hR⟩ : ∃ R, R = nextR s := ⟨_, rfl⟩
  rw [← hR]
  have HR := Lib.hid hR
  have HT6 := Lib.hid hs
  clear hs hR HT5 HS5
  go_wp2_with fail
  refine (next_any HT6.out s (by have := HL2.out; omega)).mono ?_
  rintro e w7 ⟨rfl, hs⟩
  rw [← HE.out, ← HR.out]
  have HT7 := Lib.hid hs
  clear hs HT6
  go_wp2_with fail
  refine (docfirst_any HT7.out d (by have := HL2.out; omega)).mono ?_
  rintro e w8 ⟨rfl, hs⟩
  obtain ⟨F, hF⟩ : ∃ R, R = firstC d := ⟨_, rfl⟩
  obtain ⟨F2, hF2⟩ : ∃ R, R = firstS d := ⟨_, rfl⟩
  obtain ⟨G, hG⟩ : ∃ E, E = argE (d.length ≤ 20) := ⟨_, rfl⟩
  rw [← hF, ← hF2, ← hG]
  have HF := Lib.hid hF
  have HF2 := Lib.hid hF2
  have HG := Lib.hid hG
  have HT8 := Lib.hid hs
  clear hs HT7 hF hF2 hG
  go_wp2_with fail
  refine (first_any HT8.out d (by have := HL2.out; omega)).mono ?_
  rintro e w9 ⟨rfl, hs⟩
  rw [← HF.out, ← HF2.out, ← HG.out]
  have HT9 := Lib.hid hs
  have H9 : Hid (w9.heap[b1]? = some (.cells #[.string (S8 a), .string (S8 b), .string (S8 c)] 64 (0, 0))) := (hs.below.block _ (heap_lt H5.out)).trans H5.out
  have K9 : Hid (w9.heap[b2]? = some (.cells #[.string (S8 a), .string (S8 b), .string (S8 c)] 67 (0, 0))) := (hs.below.block _ (heap_lt K5.out)).trans K5.out
  clear hs HT8
  go_wp2_with fail
  refine region_quiet_grown (by kernel_rfl) (by kernel_rfl) ?_
  show wpQuiet _ _ _ _ _ ⟨_, _⟩
  refine wg_load (by rfl) 64 (.tmp 5) (by rfl) (.pointer (some ⟨b1, 0, none⟩)) (by rfl) (fun w' hw' => run_load64 rfl ((hw'.block _ (heap_lt H9.out) (by simp)).trans H9.out)) ?_
  go_simp
  refine wg_call (vs := #[.agg #[.string (S8 a), .string (S8 b), .string (S8 c)]]) (by rfl) (by rfl) (by simp [Act.eval]) Tryd.func45 (by kernel_rfl) (by rfl) (v := .agg #[.string (S8 a), .string (S8 b), .string (S8 c)]) (fun w' hw' => ?_) ?_
  · refine (to_any _ _ _ w').mono ?_
    rintro e w'' ⟨rfl, hb'⟩
    exact ⟨rfl, grown_trans hw' (grown_below none hb' (Nat.le_refl _))⟩
  go_simp
  refine wg_load (by rfl) 67 (.tmp 7) (by rfl) (.pointer (some ⟨b2, 0, none⟩)) (by rfl) (fun w' hw' => run_load67 rfl ((hw'.block _ (heap_lt K9.out) (by simp)).trans K9.out)) ?_
  go_simp
  refine wg_run (v := .bool true) (by rfl) (fun w' _ => by unfold execOp; simp only [Act.eval]; go_simp) ?_
  go_simp
  go_big_quiet_step (fail)
  go_big_quiet_step (fail)
  go_big_quiet_step (fail)
  refine wg_run (v := .bool true) (by rfl) (fun w' _ => by unfold execOp; simp only [Act.eval]; go_simp) ?_
  go_simp
  refine wg_run (v := .bool true) (by rfl) (fun w' _ => by unfold execOp; simp only [Act.eval]; go_simp) ?_
  go_simp
  go_big_quiet_step (fail)
  go_big_quiet_step (fail)
  go_big_quiet_step (fail)
  refine wg_run (v := .bool true) (by rfl) (fun w' _ => by unfold execOp; simp only [Act.eval]; go_simp) ?_
  go_simp
  refine wg_run (v := .bool true) (by rfl) (fun w' _ => by unfold execOp; simp only [Act.eval]; go_simp) ?_
  go_simp
  go_big_quiet_step (fail)
  go_big_quiet_step (fail)
  go_big_quiet_step (fail)
  refine wg_run (v := .bool true) (by rfl) (fun w' _ => by unfold execOp; simp only [Act.eval]; go_simp) ?_
  go_simp
  refine wg_run (v := .bool true) (by rfl) (fun w' _ => by unfold execOp; simp only [Act.eval]; go_simp) ?_
  go_simp
  go_big_quiet_step (fail)
  go_big_quiet_step (fail)
  go_big_quiet_step (fail)
  refine wg_run (v := .bool true) (by rfl) (fun w' _ => by unfold execOp; simp only [Act.eval]; go_simp) ?_
  go_simp
  refine wg_run (v := .bool true) (by rfl) (fun w' _ => by unfold execOp; simp only [Act.eval]; go_simp) ?_
  go_simp
  go_big_quiet_step (fail)
  go_big_quiet_step (fail)
  go_big_quiet_step (fail)
  refine wg_run (v := .bool true) (by rfl) (fun w' _ => by unfold execOp; simp only [Act.eval]; go_simp) ?_
  go_simp
  refine wg_run (v := .bool true) (by rfl) (fun w' _ => by unfold execOp; simp only [Act.eval]; go_simp) ?_
  go_simp
  go_big_quiet_step (fail)
  go_big_quiet_step (fail)
  go_big_quiet_step (fail)
  refine wg_run (v := .bool true) (by rfl) (fun w' _ => by unfold execOp; simp only [Act.eval]; go_simp) ?_
  go_simp
  refine wg_run (v := .bool true) (by rfl) (fun w' _ => by unfold execOp; simp only [Act.eval]; go_simp) ?_
  go_simp
  go_big_quiet_step (fail)
  go_big_quiet_step (fail)
  go_big_quiet_step (fail)
  obtain ⟨M, hM⟩ : ∃ M, M = (mac s d).take 16 := ⟨_, rfl⟩
  have HM := Lib.hid hM
  clear hM
  refine wg_call (vs := #[.string (S8 s), .string (S8 d)]) (by rfl) (by rfl) (by simp [Act.eval]) Tryd.func46 (by kernel_rfl) (by rfl) (v := .string (S8 M)) (fun w' hw' => ?_) ?_
  · refine (reset_any (HT9.out.grown hw').laid s d (by have := HL2.out; omega) (by have := HL2.out; omega)).mono ?_
    rintro e w'' ⟨rfl, hb'⟩
    exact ⟨by rw [HM.out], grown_trans hw' (grown_below none hb' (Nat.le_refl _))⟩
  go_simp
  go_big_quiet_step (fail)
  go_big_quiet_step (fail)
  refine wg_call (vs := #[.string (S8 s), .string (S8 d)]) (by rfl) (by rfl) (by simp [Act.eval]) Tryd.func47 (by kernel_rfl) (by rfl) (v := .string (S8 M)) (fun w' hw' => ?_) ?_
  · refine (docreset_any s d (by have := HL2.out; omega) (by have := HL2.out; omega) w').mono ?_
    rintro e w'' ⟨rfl, hb'⟩
    exact ⟨by rw [HM.out], grown_trans hw' (grown_below none hb' (Nat.le_refl _))⟩
  go_simp
  refine wg_run (v := .bool true) (by rfl) (fun w' _ => by unfold execOp; simp only [Act.eval]; go_simp) ?_
  go_simp
  refine wg_run (v := .bool true) (by rfl) (fun w' _ => by unfold execOp; simp only [Act.eval]; go_simp) ?_
  go_simp
  go_big_quiet_step (fail)
  refine wpQuiet_nil ?_
  intro w10 hw10
  have HT10 := Lib.hid (HT9.out.grown hw10)
  clear hw10
  go_wp2
  go_ret
  exact ⟨rfl, HB5.out.trans (HT10.out.below.mono HB5.out.size)⟩
end Go.Proofs.YtmifegjmmlipbaaDoor
