/-
  The program's Write: what is written goes behind what was; its condition: not more than 2^46 bytes.
-/
import Derived.Test.YtmifegjmmlipbaaDoorXb
import Derived.Deep.LoopGhost
namespace Go.Proofs.YtmifegjmmlipbaaDoor
open Go.RowKit Go.Rh Sha

theorem hcells_n (r : Nat → W) (v : Value) (n m : Nat) : (hcells r v n).setIfInBounds 9 (.int .i64 (m : Int)) = hcells r v m := rfl
theorem hcells_v (r : Nat → W) (v v' : Value) (n : Nat) : (hcells r v n).setIfInBounds 8 v' = hcells r v' n := rfl
theorem info5 : (Tryd.prog.info? 5).map (fun i => (i.zero, i.size, i.bytes)) = some (some (.int .u8 0), 1, 1) := by kernel_rfl
def setAll (cs : Array Value) : Nat → List Value → Array Value
  | _, [] => cs
  | o, v :: vs => setAll (cs.setIfInBounds o v) (o + 1) vs
theorem heap_setCells {h : Nat} {t : TypeId} : ∀ (vs : List Value) (o : Nat) (w : World) (cs : Array Value), w.heap[h]? = some (.cells cs t (0, 0)) → (w.setCells h o vs).heap[h]? = some (.cells (setAll cs o vs) t (0, 0))
  | [], _, _, _, hg => hg
  | v :: vs, o, w, cs, hg => heap_setCells vs (o + 1) _ _ (heap_setCell_same w h o cs t v hg)
theorem regs_set {w : World} {h : Nat} {r r' : Nat → W} {v : Value} {n : Nat} (hg : w.heap[h]? = some (.cells (hcells r v n) 80 (0, 0))) :
    (w.setCells h 0 (U32 8 r').toList).heap[h]? = some (.cells (hcells r' v n) 80 (0, 0)) := by
  refine (heap_setCells _ 0 w _ hg).trans (congrArg (fun c => some (Obj.cells c 80 (0, 0))) ?_)
  have e : (U32 8 r').toList = [.int .u32 (u (r' 0)), .int .u32 (u (r' 1)), .int .u32 (u (r' 2)), .int .u32 (u (r' 3)), .int .u32 (u (r' 4)), .int .u32 (u (r' 5)), .int .u32 (u (r' 6)), .int .u32 (u (r' 7))] := rfl
  rw [e]
  simp [setAll, hcells]
theorem keep_cells {w : World} {S : Nat → Prop} {h : Nat} (hS : S h) : ∀ (vs : List Value) (o : Nat) (w1 : World), Keep w w1 S → Keep w (w1.setCells h o vs) S
  | [], _, _, k => k
  | v :: vs, o, w1, k => keep_cells hS vs (o + 1) (w1.setCell ⟨h, o, none⟩ v) (k.setCell (p := ⟨h, o, none⟩) (.inr hS) v)
theorem regs_range {w : World} {h : Nat} {r : Nat → W} {v : Value} {n : Nat} (hg : w.heap[h]? = some (.cells (hcells r v n) 80 (0, 0))) : w.rangeAt h 0 (U32 8 r).toList := by
  intro j x hj
  rw [cell_of_row w h (0 + j) _ 80 _ hg, Nat.zero_add]
  have e : (U32 8 r).toList = [.int .u32 (u (r 0)), .int .u32 (u (r 1)), .int .u32 (u (r 2)), .int .u32 (u (r 3)), .int .u32 (u (r 4)), .int .u32 (u (r 5)), .int .u32 (u (r 6)), .int .u32 (u (r 7))] := rfl
  rw [e] at hj
  match j, hj with
  | 0, hj => exact hj
  | 1, hj => exact hj
  | 2, hj => exact hj
  | 3, hj => exact hj
  | 4, hj => exact hj
  | 5, hj => exact hj
  | 6, hj => exact hj
  | 7, hj => exact hj
  | j + 8, hj => simp at hj
theorem at_rows (k : IntKind) (n : Nat) (f : Nat → Int) : (vals k n f).all (·.oneCell') = true := vals_one _ _ _
theorem run_regs {w : World} {h : Nat} {r : Nat → W} (hr : w.rangeAt h 0 (U32 8 r).toList) : (Instr.loadAt 76 (.pointer (some ⟨h, 0, none⟩))).run Tryd.prog w = .ok (.agg (U32 8 r)) w := by
  have := run_loadAt_mid w h 0 76 _ _ hr Tryd.underlying76 rfl (sz76.trans rfl)
  rwa [Array.toArray_toList] at this
theorem regs_there {w : World} {h : Nat} {r : Nat → W} {v : Value} {n : Nat} (hg : w.heap[h]? = some (.cells (hcells r v n) 80 (0, 0))) : w.there h 0 8 := fun j hj =>
  ⟨by rw [(regs_range hg) j _ (List.getElem?_eq_getElem (by simp [U32]; exact hj))]; rfl, frozen_of_row _ _ _ _ _ hg⟩

set_option maxRecDepth 100000 in
set_option maxHeartbeats 0 in
theorem write_any {w : World} {B h : Nat} {q : Option Nat} {l m : List UInt8} {x : Value} {ok : Nat → Prop} (hL : Laid w) (H : HashAt w B h q l) (hx : Bs ok w x m) (hok : ∀ i, ok i → i ≠ h ∧ q ≠ some i) (hb : l.length + m.length ≤ 70368744177664) (hB : B ≤ w.heap.size) :
    Calls Tryd.prog 19 #[.pointer (some ⟨h, 0, none⟩), x] w fun e w' => e = .returned (.tuple #[]) ∧ ∃ q', HashAt w' B h q' (l ++ m) ∧ Keep w w' (fun k => k = h ∨ q = some k) ∧ (q' = q ∨ ∃ k, q' = some k ∧ w.heap.size ≤ k) := by
  obtain ⟨i0, hi0, hz0, hz1, hz2⟩ := info_parts info5
  obtain ⟨v, h1, hown, hq, hBh⟩ := H
  have hqh : v.ownBlock ≠ some h := fun e => by obtain ⟨cs, fr, hc⟩ := own_ty hown e; exact ne_ty hc h1 (by decide) rfl
  have hx0 := hx
  obtain ⟨A, n, c, rfl, hn, hc, hbk⟩ := hx
  have hnl : (n : Int) ≤ 70368744177664 := by omega
  have hll : (l.length : Int) + n ≤ 70368744177664 := by omega
  have c9 : w.cell? ⟨h, 9, none⟩ = some (.int .i64 (l.length : Int)) := by rw [cell_of_row w h 9 _ 80 _ h1]; rfl
  have f9 : w.frozen? ⟨h, 9, none⟩ = false := frozen_of_row _ _ _ _ _ h1
  have hlen := restOf_length l
  have HX := Lib.hid hx0
  have HO := Lib.hid hown
  have HH := Lib.hid h1
  have HQ := Lib.hid hq
  have HL := Lib.hid hL
  have HQH := Lib.hid hqh
  have HN := Lib.hid hn
  have HK := Lib.hid hok
  have c8 : w.cell? ⟨h, 8, none⟩ = some v := by rw [cell_of_row w h 8 _ 80 _ h1]; rfl
  have HLEN := Lib.hid hlen
  have H0 : Hid (¬ (0 = h ∨ q = some 0)) := fun e => e.elim (fun e => by omega) (fun e => by have := (hown.lt 0 (by rw [← hq]; exact e)).1; omega)
  have H1 : Hid (¬ (1 = h ∨ q = some 1)) := fun e => e.elim (fun e => by omega) (fun e => by have := (hown.lt 1 (by rw [← hq]; exact e)).1; omega)
  clear hx0 hown h1 hq hL hqh hn hok hbk hlen
  go_enter Tryd.func19, Tryd.ntmps19
  have O0 : ∀ y, Own (w.setCell ⟨h, 9, none⟩ y) B v (restOf l) := fun y => HO.out.keep (S := fun k => k = h) (Keep.setCell (p := ⟨h, 9, none⟩) (S := fun k => k = h) (Keep.refl w _) (.inr rfl) y) (fun i hi e => HQH.out (by rw [hi, e]))
  have X0 : ∀ y, Bs ok (w.setCell ⟨h, 9, none⟩ y) (.slice A n c) m := fun y => HX.out.keep (S := fun k => k = h) (Keep.setCell (p := ⟨h, 9, none⟩) (S := fun k => k = h) (Keep.refl w _) (.inr rfl) y) (fun i hi => (HK.out i hi).1)
  have HO0 := Lib.hid O0
  have HX0 := Lib.hid X0
  clear O0 X0
  go_wp2_with (at_builtin; refine wpList_append_bytes rfl _ _ 22 rfl i0 Tryd.underlying22 hi0 hz0 hz1 hz2 (by rfl) (by rfl) (HO0.out _) (HX0.out _) (by rw [HLEN.out]; omega) (by simpa using hB) ?_; intro v1 w1 own1 keep1 at1; obtain ⟨A1, n1, k1, hn1, rfl⟩ := own1.form; have HN1 := Lib.hid hn1; have HW1 := Lib.hid own1; have HK1 := Lib.hid keep1; have HA1 := Lib.hid at1; have hh1 : w1.heap[h]? = some (.cells (hcells (reg l) v (l.length + n)) 80 (0, 0)) := (keep1.block h (by simpa using heap_lt HH.out) HQH.out).trans (heap_setCell_same _ h 9 _ 80 _ HH.out); have c81 : w1.cell? ⟨h, 8, none⟩ = some v := (by rw [cell_of_row w1 h 8 _ 80 _ hh1]; rfl); have f81 : w1.frozen? ⟨h, 8, none⟩ = false := frozen_of_row _ _ _ _ _ hh1; have HH1 := Lib.hid hh1; clear own1 keep1 at1 hh1 hn1)
  have HK2 : Hid (Keep w (w1.setCell ⟨h, 8, none⟩ (.slice A1 n1 k1)) (fun k => k = h ∨ q = some k)) :=
    ((Keep.setCell (p := ⟨h, 9, none⟩) (S := fun k => k = h ∨ q = some k) (Keep.refl w _) (.inr (.inl rfl)) _).trans HK1.out (fun i _ hi => .inr (by rw [HQ.out]; exact hi))).setCell (p := ⟨h, 8, none⟩) (.inr (.inl rfl)) _
  have HW2 : Hid (Own (w1.setCell ⟨h, 8, none⟩ (.slice A1 n1 k1)) B (.slice A1 n1 k1) (restOf l ++ m)) := HW1.out.keep (S := fun k => k = h) (Keep.setCell (p := ⟨h, 8, none⟩) (S := fun k => k = h) (Keep.refl _ _) (.inr rfl) _) (fun i hi e => by
    subst e
    obtain ⟨cs, fr, hc⟩ := own_ty HW1.out hi
    exact ne_ty hc HH1.out (by decide) rfl)
  have HH2 : Hid ((w1.setCell ⟨h, 8, none⟩ (.slice A1 n1 k1)).heap[h]? = some (.cells (hcells (reg l) (.slice A1 n1 k1) (l.length + n)) 80 (0, 0))) := heap_setCell_same _ h 8 _ 80 _ HH1.out
  obtain ⟨w2, hw2⟩ : ∃ w2, w2 = w1.setCell ⟨h, 8, none⟩ (.slice A1 n1 k1) := ⟨_, rfl⟩
  rw [← hw2] at HK2 HW2 HH2 ⊢
  have HQ2 : Hid ((Value.slice A1 n1 k1).ownBlock = q ∨ ∃ k, (Value.slice A1 n1 k1).ownBlock = some k ∧ w.heap.size ≤ k) := by
    rcases HA1.out with e | e
    · exact .inl (by rw [e, HQ.out])
    · exact .inr ⟨_, e, by simp⟩
  clear hw2 c81 f81 c9 f9 c8 HH1 HW1 HK1 HA1 w1 HX0 HO0
  go_loopg [24] ((restOf l ++ m).length / 64) (fun k s wr => ∃ j A' n' c', j + k = (restOf l ++ m).length / 64 ∧ n' = ((restOf l ++ m).drop (64 * j)).length ∧ wr.heap[h]? = some (.cells (hcells (foldN (reg l) (restOf l ++ m) j) (.slice A' n' c') (l.length + n)) 80 (0, 0)) ∧ Own wr B (.slice A' n' c') ((restOf l ++ m).drop (64 * j)) ∧ (Value.slice A' n' c').ownBlock = (Value.slice A1 n1 k1).ownBlock ∧ Keep w wr (fun k => k = h ∨ q = some k))
  case atStart => exact ⟨0, A1, n1, k1, Nat.zero_add _, by rw [Nat.mul_zero, List.drop_zero, HN1.out], by exact HH2.out, by rw [Nat.mul_zero, List.drop_zero]; exact HW2.out, rfl, HK2.out⟩
  case round =>
    clear HH2 HW2 HK2 w2
    obtain ⟨j, A', n', c', hj, hn', hh, hown, hob, hkp⟩ := hrel
    have c8 : wr.cell? ⟨h, 8, none⟩ = some (.slice A' n' c') := by rw [cell_of_row wr h 8 _ 80 _ hh]; rfl
    have f8 : wr.frozen? ⟨h, 8, none⟩ = false := frozen_of_row _ _ _ _ _ hh
    have hnn : n' ≤ 140737488355328 := by rw [hn', List.length_drop, List.length_append, HLEN.out]; omega
    have HJ := Lib.hid hj
    have HN' := Lib.hid hn'
    have HOB := Lib.hid hob
    by_cases hge : 64 ≤ n'
    · have hge' : (64 : Int) ≤ n' := by omega
      have HS := hown.bs
      obtain ⟨A2, n2, c2, e2, hn2, hc2, hbk⟩ := HS
      injection e2 with e2 e3 e4
      subst e2 e3 e4
      obtain ⟨g, off, rfl, hg, hbytes⟩ := hbk (by omega)
      have hgl : g < wr.heap.size := cell_block (hbytes 0 (by omega))
      have hlies : Lies wr g off 64 ((restOf l ++ m).drop (64 * j)) := fun i hi => hbytes i (by omega)
      have hrange := regs_range hh
      have hLr : Laid wr := HL.out.keep hkp H0.out H1.out
      have hgk : 1 ≤ gk := by rw [hn', List.length_drop] at hge; omega
      have HLI := Lib.hid hlies
      have HRA := Lib.hid hrange
      have HLr := Lib.hid hLr.k
      have HHr := Lib.hid hh
      have HOW := Lib.hid hown
      have HKP := Lib.hid hkp
      clear hj hn' hob hh hown hkp hn2 hc2 hbk hg hbytes hlies hrange hLr
      go_wp2
      refine region_tail_grown 12 50 (by kernel_rfl) (by rfl) (by kernel_rfl) (by kernel_rfl) ?_
      simp only [List.take_succ_cons, List.take_zero, List.drop_succ_cons, List.drop_zero]
      (repeat (go_big_quiet_step (fail)))
      refine wq_nil (p := ⟨h, 0, none⟩) (.tmp 31) (by rfl) (by rfl) (by rfl) ?_
      go_simp
      refine wq_S (Instr.fieldAt 80 (.pointer (some ⟨h, 0, none⟩)) 0) (by rfl) (by rfl) (v := .pointer (some ⟨h, 0, none⟩)) (fun w' _ => by go_simp) ?_
      go_simp
      refine wq_load (by rfl) 76 (.tmp 33) (by rfl) (.pointer (some ⟨h, 0, none⟩)) (by rfl) (fun w' hw' => run_regs (fun i y hy => hw'.cell (HRA.out i y hy) (by simp))) ?_
      go_simp
      go_big_quiet_step (fail)
      refine wq_nil (p := ⟨h, 0, none⟩) (.tmp 35) (by rfl) (by rfl) (by rfl) ?_
      go_simp
      refine wq_S (Instr.fieldAt 80 (.pointer (some ⟨h, 0, none⟩)) 1) (by rfl) (by rfl) (v := .pointer (some ⟨h, 8, none⟩)) (fun w' _ => by go_simp) ?_
      go_simp
      refine wq_load (by rfl) 22 (.tmp 37) (by rfl) (.pointer (some ⟨h, 8, none⟩)) (by rfl) (v := .slice (some ⟨g, off, none⟩) n' c') (fun w' hw' => by have c8' := hw'.cell c8 (by simp); go_simp) ?_
      go_simp
      refine wq_call (vs := #[.agg (U32 8 (foldN (reg l) (restOf l ++ m) j)), .slice (some ⟨g, off, none⟩) n' c']) (by rfl) (by rfl) (by simp [Act.eval]) Tryd.func49 (by kernel_rfl) (by rfl) (v := .agg (U32 8 (block (foldN (reg l) (restOf l ++ m) j) (at_ ((restOf l ++ m).drop (64 * j)))))) (fun w' hw' => ?_) ?_
      · obtain ⟨tk, hkr⟩ := HLr.out
        refine (mix_any _ ((restOf l ++ m).drop (64 * j)) g off n' c' hge hnn w' (Nat.lt_of_lt_of_le hgl hw'.size) (fun i hi => hw'.cell (HLI.out i hi) (by simp)) ((hw'.block 1 (heap_lt hkr) (by simp)).trans hkr)).mono ?_
        rintro e w'' ⟨rfl, hb'⟩
        exact ⟨rfl, grown_trans hw' (grown_below none hb' (Nat.le_refl _))⟩
      go_simp
      refine wq_nil (p := ⟨h, 0, none⟩) (.tmp 30) (by rfl) (by rfl) (by rfl) ?_
      go_simp
      refine wq_S (Instr.fieldAt 80 (.pointer (some ⟨h, 0, none⟩)) 0) (by rfl) (by rfl) (v := .pointer (some ⟨h, 0, none⟩)) (fun w' _ => by go_simp) ?_
      go_simp
      refine wpQuiet_nil ?_
      intro wb hwb
      have HB0 : Hid (wb.heap[h]? = some (.cells (hcells (foldN (reg l) (restOf l ++ m) j) (.slice (some ⟨g, off, none⟩) n' c') (l.length + n)) 80 (0, 0))) := (hwb.block h (heap_lt HHr.out) (by simp)).trans HHr.out
      have hth : wb.there h 0 (U32 8 (block (foldN (reg l) (restOf l ++ m) j) (at_ ((restOf l ++ m).drop (64 * j))))).size := by rw [U32_size]; exact regs_there HB0.out
      refine wpList_store_mid (by rfl) 76 (.tmp 41) (.tmp 39) (by rfl) h 0 (U32 8 (block (foldN (reg l) (restOf l ++ m) j) (at_ ((restOf l ++ m).drop (64 * j))))) (by rfl) (by rfl) hth (by rw [U32_size]; exact sz76) (at_rows _ _ _) ?_
      clear hth
      have HB1 : Hid ((wb.setCells h 0 (U32 8 (block (foldN (reg l) (restOf l ++ m) j) (at_ ((restOf l ++ m).drop (64 * j))))).toList).heap[h]? = some (.cells (hcells (foldN (reg l) (restOf l ++ m) (j + 1)) (.slice (some ⟨g, off, none⟩) n' c') (l.length + n)) 80 (0, 0))) := by
        refine (regs_set HB0.out).trans (congrArg (fun r => some (Obj.cells (hcells r _ _) 80 (0, 0))) (block_congr _ fun i _ => ?_))
        rw [at_drop]
      have HO1 : Hid (Own (wb.setCells h 0 (U32 8 (block (foldN (reg l) (restOf l ++ m) j) (at_ ((restOf l ++ m).drop (64 * j))))).toList) B (.slice (some ⟨g, off, none⟩) n' c') ((restOf l ++ m).drop (64 * j))) :=
        HOW.out.keep (S := fun k => k = h) (keep_cells (S := fun k => k = h) rfl _ _ _ (Keep.of_grown hwb (by simp))) (fun i hi e => by
          subst e
          obtain ⟨cs, fr, hc⟩ := own_ty HOW.out hi
          exact ne_ty hc HHr.out (by decide) rfl)
      have HK1 : Hid (Keep w (wb.setCells h 0 (U32 8 (block (foldN (reg l) (restOf l ++ m) j) (at_ ((restOf l ++ m).drop (64 * j))))).toList) (fun k => k = h ∨ q = some k)) :=
        keep_cells (S := fun k => k = h ∨ q = some k) (.inl rfl) _ _ _ (HKP.out.trans (Keep.of_grown (S := fun _ => False) hwb (by simp)) (fun _ _ hf => hf.elim))
      obtain ⟨wc, hwc⟩ : ∃ wc, wc = wb.setCells h 0 (U32 8 (block (foldN (reg l) (restOf l ++ m) j) (at_ ((restOf l ++ m).drop (64 * j))))).toList := ⟨_, rfl⟩
      rw [← hwc] at HB1 HO1 HK1 ⊢
      clear hwc HB0 hwb wb
      obtain ⟨v3, hcut, hown3, hob3⟩ := run_cut_own (P := Tryd.prog) 22 i0 Tryd.underlying22 hi0 hz1 HO1.out 64 (by decide) (by rw [← HN'.out]; exact hge)
      obtain ⟨A3, n3, c3, hn3, rfl⟩ := hown3.form
      have c83 : wc.cell? ⟨h, 8, none⟩ = some (.slice (some ⟨g, off, none⟩) n' c') := by rw [cell_of_row wc h 8 _ 80 _ HB1.out]; rfl
      have f83 : wc.frozen? ⟨h, 8, none⟩ = false := frozen_of_row _ _ _ _ _ HB1.out
      have hcut' : ∀ W : World, (Instr.sliceAt 22 (.slice (some ⟨g, off, none⟩) n' c') (some (.int .i64 64)) none none).run Tryd.prog W = .ok (.slice A3 n3 c3) W := hcut
      have HO3 := Lib.hid hown3
      have HB3 := Lib.hid hob3
      have HN3 := Lib.hid hn3
      clear hcut hown3 hob3 hn3 c8 f8
      go_wp2
      go_roundg (gk - 1)
      case measure => omega
      case rel =>
        have ed : ((restOf l ++ m).drop (64 * j)).drop 64 = (restOf l ++ m).drop (64 * (j + 1)) := by rw [List.drop_drop]; congr 1
        refine ⟨j + 1, A3, n3, c3, by have := HJ.out; omega, by rw [HN3.out, ed], heap_setCell_same _ h 8 _ 80 _ HB1.out, ?_, by rw [HB3.out, HOB.out], HK1.out.setCell (p := ⟨h, 8, none⟩) (.inr (.inl rfl)) _⟩
        rw [← ed]
        exact HO3.out.keep (S := fun k => k = h) (Keep.setCell (p := ⟨h, 8, none⟩) (S := fun k => k = h) (Keep.refl _ _) (.inr rfl) _) (fun i hi e => by
          subst e
          obtain ⟨cs, fr, hc⟩ := own_ty HO3.out hi
          exact ne_ty hc HB1.out (by decide) rfl)
    · have HHr := Lib.hid hh
      have HOW := Lib.hid hown
      have HKP := Lib.hid hkp
      clear hj hn' hob hh hown hkp
      go_wp2
      go_end0
      have ej : j = (restOf l ++ m).length / 64 := by have := HJ.out; have := HN'.out; rw [List.length_drop] at this; omega
      refine ⟨rfl, (Value.slice A' n' c').ownBlock, ⟨.slice A' n' c', ?_, ?_, rfl, hBh⟩, HKP.out, ?_⟩
      · rw [reg_append, ← ej, List.length_append, ← HN.out]; exact HHr.out
      · rw [restOf_append, ← ej]; exact HOW.out
      · rw [HOB.out]; exact HQ2.out
end Go.Proofs.YtmifegjmmlipbaaDoor
