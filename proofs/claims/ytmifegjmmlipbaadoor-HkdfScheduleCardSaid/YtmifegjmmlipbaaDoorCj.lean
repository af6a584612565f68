/-
  ShaParts: no hash: Write, Len, Sum of it; the walk.
-/
import Derived.Test.YtmifegjmmlipbaaDoorCg
import Derived.Test.YtmifegjmmlipbaaDoorYe
import Derived.Deep.RegionLaw
import Derived.Deep.DeepCutAuto
import Derived.BigRegion
namespace Go.Proofs.YtmifegjmmlipbaaDoor
open Go.RowKit Go.Rh Sha

set_option maxRecDepth 100000 in
theorem write_nil (w : World) (x : Value) : Calls Tryd.prog 19 #[.pointer none, x] w fun e w' => e = .returned (.tuple #[]) ∧ w' = w := by
  go_enter Tryd.func19, Tryd.ntmps19
  go_wp2
  refine bodyPost_ret (results_none rfl _ _ _) rfl ?_
  exact ⟨rfl, rfl⟩
set_option maxRecDepth 100000 in
theorem hsum_nil {B : Nat} {w0 w : World} {xs : List (Nat × Option Nat × List UInt8)} (H : St B w0 w xs) : Calls Tryd.prog 21 #[.pointer none] w fun e w' => e = .returned (.agg (B8 32 (sum []))) ∧ St B w0 w' xs := by
  have HS := Lib.hid H
  clear H
  go_enter Tryd.func21, Tryd.ntmps21
  go_wp2_with fail
  refine (st_new (HS.out.alloc _)).mono ?_
  rintro e w1 ⟨a, rfl, -, hb1, hs⟩
  have HS1 := Lib.hid hs
  have HZ1 : Hid (w1.heap[w.heap.size]? = some (.cells #[.int .u8 0, .int .u8 0, .int .u8 0, .int .u8 0, .int .u8 0, .int .u8 0, .int .u8 0, .int .u8 0, .int .u8 0, .int .u8 0, .int .u8 0, .int .u8 0, .int .u8 0, .int .u8 0, .int .u8 0, .int .u8 0, .int .u8 0, .int .u8 0, .int .u8 0, .int .u8 0, .int .u8 0, .int .u8 0, .int .u8 0, .int .u8 0, .int .u8 0, .int .u8 0, .int .u8 0, .int .u8 0, .int .u8 0, .int .u8 0, .int .u8 0, .int .u8 0] 24 (0, 0))) := (hb1.block _ (by simp)).trans (heap_alloc_new w _)
  clear hs hb1
  go_wp2_with fail
  refine (st_sum HS1.out (Nat.zero_le _)).mono ?_
  rintro e w2 ⟨rfl, hb2, hs⟩
  have HS2 := Lib.hid hs.drop
  have hz : w2.heap[w.heap.size]? = some (.cells #[.int .u8 0, .int .u8 0, .int .u8 0, .int .u8 0, .int .u8 0, .int .u8 0, .int .u8 0, .int .u8 0, .int .u8 0, .int .u8 0, .int .u8 0, .int .u8 0, .int .u8 0, .int .u8 0, .int .u8 0, .int .u8 0, .int .u8 0, .int .u8 0, .int .u8 0, .int .u8 0, .int .u8 0, .int .u8 0, .int .u8 0, .int .u8 0, .int .u8 0, .int .u8 0, .int .u8 0, .int .u8 0, .int .u8 0, .int .u8 0, .int .u8 0, .int .u8 0] 24 (0, 0)) := (hb2.block _ (heap_lt HZ1.out)).trans HZ1.out
  clear hs hb2 HS1 HZ1
  have HW := Lib.hid HS.out.size
  have HK : Hid (St B w0 (w2.setRow w.heap.size (B8 32 (sum []))) xs) := HS2.out.keep5 (S := fun k => k = w.heap.size) (Keep.setRow (S := fun k => k = w.heap.size) (Keep.refl _ _) (.inr rfl) _) (fun i hi => by subst hi; exact HW.out) (fun x hx e => by have := (HS.out.hash x hx).places.1.2; omega) (fun x hx i hi e => by have := ((HS.out.hash x hx).places.2.1 i hi).2; omega)
  go_wp2_with (refine wpList_store_row (by rfl) 24 _ _ (by rfl) w.heap.size _ (by rfl) (by rfl) 24 _ hz (sz24.trans (by simp [B8])) (by simp [B8]) (vals_one _ _ _) ?_)
  refine bodyPost_ret (results_cell_row rfl _ _ _ 24 (B8 32 (sum [])) (0, 0) _ rfl (setRow_heap _ _ _ _ _ _ hz) Tryd.underlying24 rfl (sz24.trans (by simp [B8]))) rfl ⟨rfl, HK.out⟩
theorem none_any (w : World) : Calls Tryd.prog 18 #[] w fun e w' => e = .returned (.pointer none) ∧ w' = w := by
  go_enter Tryd.func18, Tryd.ntmps18
  go_wp2
  go_ret
  exact ⟨rfl, rfl⟩

section
variable {P : Program} {ops : Array Oper} {C : World → Prop} {Q : Act → Prop} {a : Act} {o : Oper} {rest : List Oper}
/-- Steps whose guard says yes. -/
theorem wg_run {v : Value} (hg : Region.wanted o (yielded ops a.tmps) = true) (hr : ∀ w, C w → (execOp a.eval o).run P w = .ok (.value v) w) (h : wpQuiet P ops C Q rest (a.put o.dst v)) : wpQuiet P ops C Q (o :: rest) a :=
  BigFrame.wpQuiet_want hg fun K hK => ⟨v, fun w hw => by unfold Oper.quietAt; rw [hr w hw]; exact ⟨rfl, rfl⟩, hK _ h⟩
theorem wg_load {v : Value} (hg : Region.wanted o (yielded ops a.tmps) = true) (ty : TypeId) (x : Operand) (ho : o.op = .load ty x) (p : Value) (hx : a.eval x = p) (hr : ∀ w, C w → (Instr.loadAt ty p).run P w = .ok v w) (h : wpQuiet P ops C Q rest (a.put o.dst v)) : wpQuiet P ops C Q (o :: rest) a :=
  wg_run hg (fun w hw => by unfold execOp; simp only [ho, hx, Sem.run_bind, Sem.run_pure, hr w hw, Result.andThen_ok]) h
theorem wg_convert {u v : Value} (hg : Region.wanted o (yielded ops a.tmps) = true) (s d : TypeId) (x : Operand) (ho : o.op = .convert s d x) (hx : a.eval x = u) (hr : ∀ w, C w → (convert s d u).run P w = .ok v w) (h : wpQuiet P ops C Q rest (a.put o.dst v)) : wpQuiet P ops C Q (o :: rest) a :=
  wg_run hg (fun w hw => by unfold execOp; simp only [ho, hx, Sem.run_bind, Sem.run_pure, hr w hw, Result.andThen_ok]) h
theorem wg_call {f : Nat} {fn : Func} {c : Code} {args : Array Operand} {tys : Array TypeId} {vs : Array Value} {v : Value} (hg : Region.wanted o (yielded ops a.tmps) = true) (ho : o.op = .call ⟨.value (.func f), args, tys⟩) (hv : args.map a.eval = vs) (hf : P.funcs[f]? = some fn) (hn : (fn.name == "runtime.NumGoroutine") = false) (hb : fn.body = some c)
    (hr : ∀ w, C w → Calls P f vs w fun e w' => e = .returned v ∧ C w') (h : wpQuiet P ops C Q rest (a.put o.dst v)) : wpQuiet P ops C Q (o :: rest) a := by
  refine BigFrame.wpQuiet_want hg fun K hK => ⟨v, fun w hw => ?_, hK _ h⟩
  have hrun : (execOp a.eval o).run P w = .ok (.enter f vs) w := by
    unfold execOp
    simp only [ho, resolve, hv, Deferred.ofValue, Act.eval, invoke, callFunc, Sem.run_bind, Sem.run_pure, Result.andThen_ok]
    have hn' : ¬ fn.name = "runtime.NumGoroutine" := by simpa using hn
    simp [hf, hn', hb]
  unfold Oper.quietAt
  rw [hrun]
  exact ⟨rfl, hr w hw⟩
/-- A region that draws its order and only reads, calls that make new memory among it, guards decided. -/
theorem region_quiet_grown {Q : Exit → Act → World → Prop} {id : Nat} {w0 : World} {a0 : Act} {l : List Oper} (hm : P.follows .mixedOrders = true) (hB : Region.lexB .any l.toArray = true)
    (h : wpQuiet P l.toArray (fun w' => w0.grownBy w' none) (fun a => ∀ w, w0.grownBy w none → Q .normal a w) l a0) : (Code.region id l.toArray true).wp P Q a0 w0 :=
  wp_region_quiet (C := fun w' => w0.grownBy w' none) hm hB ⟨rfl, rfl, rfl, Nat.le_refl _, fun _ _ _ => rfl⟩ (by simpa using h)
end

theorem run_load_B8 {w : World} {b : Nat} {l : List UInt8} {fr : Nat × Nat} (hg : w.heap[b]? = some (.cells (B8 32 l) 24 fr)) : (Instr.loadAt 24 (.pointer (some ⟨b, 0, none⟩))).run Tryd.prog w = .ok (.agg (B8 32 l)) w := by
  have hr : w.rangeAt b 0 (B8 32 l).toList := fun i y hy => by rw [cell_of_row w b (0 + i) _ 24 _ hg, Nat.zero_add]; simpa using hy
  have := run_loadAt_mid w b 0 24 _ _ hr Tryd.underlying24 rfl (sz24.trans (by simp [B8]))
  rwa [Array.toArray_toList] at this
/-- The parts' first bytes, put together. -/
def accOf (L : Nat → List UInt8) : Nat → List UInt8
  | 0 => []
  | k + 1 => accOf L k ++ (L k).take 300
theorem accOf_length (L : Nat → List UInt8) : ∀ k, (accOf L k).length ≤ 300 * k
  | 0 => Nat.le_refl _
  | k + 1 => by have := accOf_length L k; simp only [accOf, List.length_append, List.length_take]; omega

set_option maxRecDepth 100000 in
set_option maxHeartbeats 0 in
theorem shaParts_any {w : World} {A : Option Addr} {n c : Nat} {X : Nat → Value} {L : Nat → List UInt8} (hL : Laid w) (hx : Bss w A n X L) (hn : (n : Int) ≤ 9223372036854775807) : Calls Tryd.prog 5 #[.slice A n c] w fun e w' => e = .returned (.bool true) ∧ Below w.heap.size w w' := by
  have HS := Lib.hid (St.start hL)
  have HX := Lib.hid hx
  clear hx hL
  obtain ⟨i0, hi0, hz0, hz1, hz2⟩ := info_parts info5
  go_enter Tryd.func5, Tryd.ntmps5
  go_wp2_with fail
  refine (none_any w).mono ?_
  rintro e w' ⟨rfl, rfl⟩
  go_wp2_with fail
  refine (write_nil w' _).mono ?_
  rintro e w ⟨rfl, rfl⟩
  go_wp2_with fail
  refine (st_digests HS.out).mono ?_
  rintro e w1 ⟨rfl, hs⟩
  have HS1 := Lib.hid hs
  clear hs
  go_wp2_with fail
  refine (none_any w1).mono ?_
  rintro e w' ⟨rfl, rfl⟩
  go_wp2_with fail
  refine (len_nil w').mono ?_
  rintro e w'' ⟨rfl, rfl⟩
  go_wp2_with fail
  refine (none_any w').mono ?_
  rintro e w'' ⟨rfl, rfl⟩
  go_wp2_with fail
  refine (hsum_nil HS1.out).mono ?_
  rintro e w2 ⟨rfl, hs⟩
  have HS2 := Lib.hid hs
  clear hs HS1
  go_wp2_with fail
  refine (st_sum16 (ok := fun _ => False) (m := []) HS2.out ⟨_, _, _, rfl, rfl, Nat.le_refl _, fun h => absurd h (Nat.lt_irrefl _)⟩ (Nat.zero_le _)).mono ?_
  rintro e w3 ⟨rfl, -, hs⟩
  obtain ⟨Z, hZ⟩ : ∃ Z, Z = sum [] := ⟨_, rfl⟩
  have hZl : Z.length = 32 := by rw [hZ]; exact sum_length []
  rw [← hZ]
  have heq := run_equalIn_B8 Z Z hZl hZl
  rw [beq_self_eq_true] at heq
  have HS3 := Lib.hid hs
  clear hs HS2 hZ
  go_wp2_with fail
  refine (st_new HS3.out).mono ?_
  rintro e w4 ⟨h, rfl, -, -, hs⟩
  have HS4 := Lib.hid hs
  clear hs HS3 heq hZl
  go_wp2_with fail
  go_loopg [4, 5] 30 (fun g s4 s5 wr => ∃ (k : Nat) (A4 : Option Addr) (n4 c4 : Nat) (q : Option Nat), k + g = 30 ∧ s5 = .int .i64 k ∧ s4 = .slice A4 n4 c4 ∧ n4 = (accOf L k).length ∧ St w.heap.size w wr [(h, q, accOf L k)] ∧ Own wr w.heap.size (.slice A4 n4 c4) (accOf L k) ∧ (∀ i, q = some i → (Value.slice A4 n4 c4).ownBlock ≠ some i))
  case atStart => exact ⟨0, none, 0, 0, none, rfl, rfl, rfl, rfl, HS4.out, .inl ⟨rfl, rfl⟩, fun i hi => by cases hi⟩
  case round =>
    clear HS4
    obtain ⟨k, A4, n4, c4, q, hk, rfl, rfl, hn4, hs, ho, hq⟩ := hrel
    have HSr := Lib.hid hs
    have HO := Lib.hid ho
    have HQ := Lib.hid hq
    have HN4 := Lib.hid hn4
    have HAL := Lib.hid (accOf_length L k)
    clear hs ho hq hn4
    by_cases hk1 : (k : Int) < n
    · by_cases hk2 : (k : Int) < 30
      · have hgk : 1 ≤ gk := by omega
        obtain ⟨b, off, rfl, hbl, hcell⟩ := HX.out (by omega)
        obtain ⟨hc0, hB0⟩ := hcell k (by omega)
        have c0 : wr.cell? ⟨b, off + k, none⟩ = some (X k) := (World.cell?_of_block (HSr.out.below.block b hbl)).trans hc0
        have HB := Lib.hid (HSr.out.old hB0)
        clear hcell hc0 hB0 hbl
        obtain ⟨x, hx⟩ : ∃ x, X k = x := ⟨_, rfl⟩
        rw [hx] at c0 HB
        clear hx
        obtain ⟨P9, hP⟩ : ∃ P9, P9 = (L k).take 300 := ⟨_, rfl⟩
        go_upto_region 9 with fail
        go_cut [6] (fun s6 wx => ∃ (A6 : Option Addr) (n6 c6 : Nat), s6 = .slice A6 n6 c6 ∧ Hid (n6 = P9.length) ∧ Hid (Own wx wr.heap.size (.slice A6 n6 c6) P9) ∧ Hid (Below wr.heap.size wr wx))
        case first =>
          have HBa : Hid (Bs (fun k => k < w.heap.size) (wr.alloc (.cells #[] 5)) x (L k)) := HB.out.keep (S := fun _ => False) ((Keep.refl _ _).alloc _) (fun _ _ => id)
          have HC := Lib.hid (Ch.lit wr)
          have c1 : (wr.alloc (.cells #[] 5)).cell? ⟨b, off + k, none⟩ = some x := (World.cell?_of_block (heap_old wr _ b (cell_block c0))).trans c0
          have hlen := HB.out
          obtain ⟨Ax, nx, cx, rfl, hnx, hcx, hbx⟩ := hlen
          obtain ⟨N, hif, hN1, hN2⟩ : ∃ N : Nat, (if (300 : Int) < (nx : Int) then (300 : Int) else (nx : Int)) = (N : Int) ∧ N ≤ (L k).length ∧ N = min 300 (L k).length := by
            by_cases h : nx ≤ 300
            · exact ⟨nx, if_neg (by omega), by omega, by omega⟩
            · exact ⟨300, if_pos (by omega), by omega, by omega⟩
          obtain ⟨y, hcut, hy⟩ := run_first (P := Tryd.prog) 22 i0 Tryd.underlying22 hi0 hz1 HBa.out N hN1
          have eP : (L k).take N = P9 := by
            rw [hP, hN2, Nat.min_def]
            split
            · rfl
            · rw [List.take_of_length_le (by omega), List.take_of_length_le (by omega)]
          rw [eP] at hy
          have HY := Lib.hid hy
          have HPL : Hid (P9.length ≤ 300) := by show _ ≤ _; rw [hP, List.length_take]; omega
          clear hbx hcx hnx hy hP hN1 hN2 eP
          go_region_law (first | (refine step_append_bytes (by rfl) (.tmp 35) (.tmp 46) 22 (by rfl) i0 Tryd.underlying22 hi0 hz0 hz1 hz2 (by rfl) (by rfl) (HC.out.own.heap (by rfl)) (HY.out.heap (by rfl)) (by have := HPL.out; simp; omega) (by simp) ?_; intro v6 w6 own6 keep6 at6; have HO6 := Lib.hid own6; have HK6 := Lib.hid keep6; clear own6 keep6 at6) | fail)
          all_goals (
            have HC6 : Hid (Ch wr w6 v6 P9) := HC.out.next HO6.out ⟨HK6.out.os, HK6.out.tape, HK6.out.output, HK6.out.size, HK6.out.block⟩
            obtain ⟨A6, n6, c6, hn6, rfl⟩ := HC6.out.own.form
            have HN6 := Lib.hid hn6
            clear hn6
            go_wp2
            go_meet
            exact ⟨A6, n6, c6, rfl, HN6.out, HC6.out.own, HC6.out.below⟩)
        case rest =>
          obtain ⟨A6, n6, c6, rfl, hn6, ho6, hb6⟩ := hcut
          have HP9 : Hid (P9.length ≤ 300 ∧ accOf L k ++ P9 = accOf L (k + 1)) := ⟨by rw [hP, List.length_take]; omega, by rw [hP]; rfl⟩
          have HN6 : Hid (n6 = P9.length) := hn6
          have HB6 : Hid (∀ i, (Value.slice A6 n6 c6).ownBlock = some i → w.heap.size ≤ i) := fun i hi => Nat.le_trans HSr.out.size (ho6.out.lt i hi).1
          have HO6 : Hid (Own wc wr.heap.size (.slice A6 n6 c6) P9) := ho6
          have HS6 : Hid (St w.heap.size w wc [(h, q, accOf L k)]) := HSr.out.step hb6.out
          have HBW : Hid (Below wr.heap.size wr wc) := hb6
          have HO4 : Hid (Own wc w.heap.size (.slice A4 n4 c4) (accOf L k)) := HO.out.keep (S := fun _ => False) (Keep.of_below hb6.out (Nat.le_refl _) _) (fun _ _ => id)
          have HP0 : Hid ((∀ i, (Value.slice A6 n6 c6).ownBlock = some i → i ≠ h ∧ q ≠ some i ∧ (Value.slice A4 n4 c4).ownBlock ≠ some i)) := by
            intro i hi
            have h1 := (HO6.out.lt i hi).1
            have h2 := (HSr.out.hash _ (List.mem_cons_self ..)).places
            refine ⟨?_, ?_, ?_⟩
            · have := h2.1.2; simp only at this; omega
            · intro e; have := (h2.2.1 i e).2; omega
            · intro e; have := (HO.out.lt i e).2; omega
          clear hn6 ho6 hb6 hP HSr HO
          go_wp2_with fail
          refine (st_write HS6.out HO6.out.bs (fun i hi => ⟨(HP0.out i hi).1, (HP0.out i hi).2.1⟩) (by have := HP9.out.1; have := HAL.out; omega)).mono ?_
          rintro e w7 ⟨rfl, q7, hs, hk7, hq7⟩
          have HS7 := Lib.hid hs
          have hP7 := (HS6.out.hash _ (List.mem_cons_self ..)).places
          have h4h : ∀ i, (Value.slice A4 n4 c4).ownBlock = some i → i ≠ h := fun i hi e => by
            obtain ⟨cs, fr, hc⟩ := own_ty HO4.out hi
            obtain ⟨ds, hd⟩ := hP7.2.2.2
            exact ne_ty hc hd (by decide) e
          have HO47 : Hid (Own w7 w.heap.size (.slice A4 n4 c4) (accOf L k)) := HO4.out.keep hk7 (fun i hi => fun e => e.elim (h4h i hi) (fun e => HQ.out i e hi))
          have HO67 : Hid (Own w7 wr.heap.size (.slice A6 n6 c6) P9) := HO6.out.keep hk7 (fun i hi => fun e => e.elim (HP0.out i hi).1 (HP0.out i hi).2.1)
          have HQ7 : Hid (∀ i, q7 = some i → (Value.slice A4 n4 c4).ownBlock ≠ some i ∧ (Value.slice A6 n6 c6).ownBlock ≠ some i) := by
            intro i hi
            rcases hq7 with e | ⟨i', e, hi'⟩
            · rw [e] at hi; exact ⟨HQ.out i hi, fun e6 => (HP0.out i e6).2.1 hi⟩
            · rw [e] at hi; injection hi with hi; subst hi
              exact ⟨fun e4 => by have := (HO4.out.lt _ e4).2; omega, fun e6 => by have := (HO6.out.lt _ e6).2; omega⟩
          have H4H := Lib.hid h4h
          clear hs hk7 hq7 hP7 h4h HS6 HO4 HO6 HBW HQ
          go_wp2_with (at_builtin; refine wpList_append_bytes (o := ⟨some 53, _, _, _, _, _⟩) (by rfl) (.tmp 51) (.tmp 52) 22 (by rfl) i0 Tryd.underlying22 hi0 hz0 hz1 hz2 (by rfl) (by rfl) HO47.out HO67.out.bs (by have := HP9.out.1; have := HAL.out; omega) HS7.out.size ?_; intro v8 w8 own8 keep8 at8; have HO8 := Lib.hid own8; have HK8 := Lib.hid keep8; have HA8 := Lib.hid at8; obtain ⟨A8, n8, c8, hn8, rfl⟩ := own8.form; have HN8 := Lib.hid hn8; clear own8 keep8 at8 hn8)
          have HS8 : Hid (St w.heap.size w w8 [(h, q7, accOf L k ++ P9)]) := HS7.out.keep5 HK8.out (fun i hi => (HO47.out.lt i hi).1) (fun x hx => by
              simp only [List.mem_singleton] at hx; subst hx
              exact fun e => H4H.out _ e rfl) (fun x hx i hi => by
              simp only [List.mem_singleton] at hx; subst hx
              exact fun e => (HQ7.out i hi).1 e)
          have HO68 : Hid (Own w8 wr.heap.size (.slice A6 n6 c6) P9) := HO67.out.keep HK8.out (fun i hi e => (HP0.out i hi).2.2 e)
          have HQ8 : Hid (∀ i, q7 = some i → (Value.slice A8 n8 c8).ownBlock ≠ some i) := by
            intro i hi e
            rcases HA8.out with e8 | e8
            · rw [e8] at e; exact (HQ7.out i hi).1 e
            · rw [e8] at e; injection e with e; subst e
              have := ((HS7.out.hash _ (List.mem_cons_self ..)).places.2.1 _ hi).2
              omega
          have HP8 : Hid (∀ i, (Value.slice A6 n6 c6).ownBlock = some i → (Value.slice A8 n8 c8).ownBlock ≠ some i ∧ i ≠ h ∧ q7 ≠ some i) := by
            intro i hi
            refine ⟨fun e => ?_, (HP0.out i hi).1, fun e => (HQ7.out i e).2 hi⟩
            rcases HA8.out with e8 | e8
            · rw [e8] at e; exact (HP0.out i hi).2.2 e
            · rw [e8] at e; injection e with e; subst e
              have := (HO67.out.lt _ hi).2
              omega
          have HW8 : Hid (0 < n6 → ∃ g off cs fr, A6 = some ⟨g, off, none⟩ ∧ w8.heap[g]? = some (.cells cs 5 fr) ∧ free fr cs.size ∧ off + n6 ≤ cs.size) := by
            intro h0
            rcases HO68.out with ⟨e, _⟩ | ⟨g, off, c, cs, fr, e, _, hg, hf, h1, h2, _⟩
            · injection e with e1 e2 e3; omega
            · injection e with e1 e2 e3
              subst e1 e2
              exact ⟨g, off, cs, fr, rfl, hg, hf, by have := HN6.out; omega⟩
          have HPB : Hid (P9.length ≤ 300 ∧ accOf L k ++ P9 = accOf L (k + 1)) := HP9.out
          rw [HPB.out.2] at HS8 HO8 HN8
          have hn6 : (n6 : Int) ≤ 300 := by have := HN6.out; have := HPB.out.1; omega
          clear HS7 HO47 HO67 HQ7 H4H HK8 HA8 HO68 HP0 HN6 HP9 HAL
          go_loopw [7] (fun s7 wx => ∃ j : Nat, s7 = .int .i64 j ∧ j ≤ n6 ∧ Keep w8 wx (fun i => (Value.slice A6 n6 c6).ownBlock = some i) ∧ (0 < n6 → ∃ g off cs fr, A6 = some ⟨g, off, none⟩ ∧ wx.heap[g]? = some (.cells cs 5 fr) ∧ free fr cs.size ∧ off + n6 ≤ cs.size)) (fun s7 _ => n6 - (intOf s7).toNat)
          case atStart => exact ⟨0, rfl, Nat.zero_le _, Keep.refl _ _, HW8.out⟩
          case round =>
            clear HW8
            obtain ⟨j, rfl, hj, hkx, hgx⟩ := hrel
            by_cases hlt : j < n6
            · have hlt' : (j : Int) < n6 := by omega
              obtain ⟨g, o6, cs, fr, rfl, hg, hf, hof⟩ := hgx (by omega)
              obtain ⟨yv, ccx⟩ : ∃ y, wr.cell? ⟨g, o6 + j, none⟩ = some y := ⟨_, by rw [cell_of_row wr g (o6 + j) cs 5 fr hg]; exact Array.getElem?_eq_getElem (by omega)⟩
              have ffx : wr.frozen? ⟨g, o6 + j, none⟩ = false := frozen_free hg hf (by omega)
              have HGX := Lib.hid hg
              have HFX : Hid (free fr cs.size ∧ o6 + n6 ≤ cs.size) := ⟨hf, hof⟩
              have HKX := Lib.hid hkx
              clear hg hf hof hkx hgx hlt
              go_wp2
              go_roundw
              case measure => simp [intOf]; omega
              refine ⟨j + 1, by go_num, by omega, HKX.out.setCell (p := ⟨g, o6 + j, none⟩) (.inr rfl) _, fun _ => ⟨g, o6, cs.setIfInBounds (o6 + j) (.int .u8 95), fr, rfl, ?_, by rw [Array.size_setIfInBounds]; exact HFX.out.1, by rw [Array.size_setIfInBounds]; exact HFX.out.2⟩⟩
              have hh := HGX.out
              simp [World.setCell, Array.getElem?_modify, hh]
            · obtain rfl : j = n6 := by omega
              have HSx : Hid (St w.heap.size w wr [(h, q7, accOf L (k + 1))]) := HS8.out.keep5 hkx (fun i hi => by
                have h1 := (HP8.out i hi)
                by_cases hB : w.heap.size ≤ i
                · exact hB
                · exact absurd hi (fun e => by have := HB6.out i e; omega)) (fun x hx => by
                simp only [List.mem_singleton] at hx; subst hx
                exact fun e => (HP8.out _ e).2.1 rfl) (fun x hx i hi => by
                simp only [List.mem_singleton] at hx; subst hx
                exact fun e => (HP8.out _ e).2.2 hi)
              have HOx : Hid (Own wr w.heap.size (.slice A8 n8 c8) (accOf L (k + 1))) := HO8.out.keep hkx (fun i hi e => (HP8.out _ e).1 hi)
              clear hkx hgx HS8 HO8 hlt
              have HALn := Lib.hid (accOf_length L (k + 1))
              have hacc : (accOf L (k + 1)).length ≤ 70368744177664 := by have := HALn.out; omega
              have HAC := Lib.hid hacc
              clear hacc
              go_wp2_with fail
              refine (st_sum HSx.out HAC.out).mono ?_
              rintro e w9 ⟨rfl, hb9, hs⟩
              obtain ⟨b9, hb9'⟩ : ∃ b, w9.heap.size = b := ⟨_, rfl⟩
              have HS9 := Lib.hid hs
              have HO9 : Hid (Own w9 w.heap.size (.slice A8 n8 c8) (accOf L (k + 1))) := HOx.out.keep (S := fun _ => False) (Keep.of_below hb9 (Nat.le_refl _) _) (fun _ _ => id)
              clear hs hb9 HSx HOx
              go_wp2_with (refine wpList_keep_sum hb9' (by rfl) _ _ (by rfl) (by rfl) (by rfl) ?_; intro w10 h10 hs10; have H10 := Lib.hid h10; have HS10 := Lib.hid (HS9.out.step hs10); have HO10 : Hid (Own w10 w.heap.size (.slice A8 n8 c8) (accOf L (k + 1))) := HO9.out.keep (S := fun _ => False) (Keep.of_below hs10 (Nat.le_refl _) _) (fun _ _ => id); clear h10 hs10)
              clear hb9' HS9 HO9
              obtain ⟨Y, hY⟩ : ∃ Y, Y = sum (accOf L (k + 1)) := ⟨_, rfl⟩
              have hYl : Y.length = 32 := by rw [hY]; exact sum_length _
              rw [← hY] at H10 ⊢
              have heqY := run_equalIn_B8 Y Y hYl hYl
              rw [beq_self_eq_true] at heqY
              have HY := Lib.hid hY
              clear hY hYl
              refine region_quiet_grown (by kernel_rfl) (by kernel_rfl) ?_
              show wpQuiet _ _ _ _ _ ⟨_, _⟩
              refine wg_load (by rfl) 24 (.tmp 8) (by rfl) (.pointer (some ⟨b9, 0, none⟩)) (by rfl) (fun w' hw' => run_load_B8 ((hw'.block _ (heap_lt H10.out) (by simp)).trans H10.out)) ?_
              go_simp
              go_big_quiet_step (fail)
              refine wg_call (vs := #[.slice A8 n8 c8]) (by rfl) (by rfl) (by simp [Act.eval]) Tryd.func16 (by kernel_rfl) (by rfl) (v := .agg (B8 32 Y)) (fun w' hw' => ?_) ?_
              · refine (st_sum16 (HS10.out.grown hw') (HO10.out.keep (S := fun _ => False) (Keep.of_grown hw' (by simp)) (fun _ _ => id)).bs HAC.out).mono ?_
                rintro e w'' ⟨rfl, hb', _⟩
                exact ⟨by rw [HY.out], grown_trans hw' (grown_below none hb' (Nat.le_refl _))⟩
              go_simp
              refine wg_run (v := .bool false) (by rfl) (fun w' _ => by unfold execOp; simp only [Act.eval]; go_simp) ?_
              go_simp
              go_big_quiet_step (fail)
              go_big_quiet_step (fail)
              refine wg_call (vs := #[.pointer (some ⟨h, 0, none⟩)]) (by rfl) (by rfl) (by simp [Act.eval]) Tryd.func20 (by kernel_rfl) (by rfl) (v := .int .i64 (n8 : Int)) (fun w' hw' => ?_) ?_
              · refine (st_len (HS10.out.grown hw')).mono ?_
                rintro e w'' ⟨rfl, rfl⟩
                exact ⟨by rw [HN8.out], hw'⟩
              go_simp
              go_big_quiet_step (fail)
              refine wg_run (v := .int .i64 (n8 : Int)) (by rfl) (fun w' _ => by unfold execOp; simp only [Act.eval]; go_simp) ?_
              go_simp
              refine wg_run (v := .bool false) (by rfl) (fun w' _ => by unfold execOp; simp only [Act.eval]; go_simp) ?_
              go_simp
              refine wg_run (v := .bool false) (by rfl) (fun w' _ => by unfold execOp; simp only [Act.eval]; go_simp) ?_
              go_simp
              go_big_quiet_step (fail)
              go_big_quiet_step (fail)
              refine wg_call (vs := #[.pointer (some ⟨h, 0, none⟩)]) (by rfl) (by rfl) (by simp [Act.eval]) Tryd.func21 (by kernel_rfl) (by rfl) (v := .agg (B8 32 Y)) (fun w' hw' => ?_) ?_
              · refine (st_sum (HS10.out.grown hw') HAC.out).mono ?_
                rintro e w'' ⟨rfl, hb', _⟩
                exact ⟨by rw [HY.out], grown_trans hw' (grown_below none hb' (Nat.le_refl _))⟩
              go_simp
              refine wg_load (by rfl) 24 (.tmp 8) (by rfl) (.pointer (some ⟨b9, 0, none⟩)) (by rfl) (fun w' hw' => run_load_B8 ((hw'.block _ (heap_lt H10.out) (by simp)).trans H10.out)) ?_
              go_simp
              refine wg_run (v := .bool false) (by rfl) (fun w' _ => by unfold execOp; simp only [Act.eval]; go_simp) ?_
              go_simp
              refine wg_run (v := .bool false) (by rfl) (fun w' _ => by unfold execOp; simp only [Act.eval]; go_simp) ?_
              go_simp
              refine wpQuiet_nil ?_
              intro w11 hw11
              have HS11 := Lib.hid (HS10.out.grown hw11)
              have HO11 : Hid (Own w11 w.heap.size (.slice A8 n8 c8) (accOf L (k + 1))) := HO10.out.keep (S := fun _ => False) (Keep.of_grown hw11 (by simp)) (fun _ _ => id)
              clear hw11 HS10 HO10 H10
              go_wp2
              go_roundg (gk - 1)
              case measure => omega
              case rel => exact ⟨k + 1, A8, n8, c8, q7, by omega, by go_num, rfl, HN8.out, HS11.out, HO11.out, HQ8.out⟩
      · have hd2 : decide ((k : Int) < 30) = false := by simp; omega
        have hk3 : (30 : Int) ≤ k := by omega
        clear hk2
        go_wp2
        go_ret
        exact ⟨rfl, HSr.out.below⟩
    · have hd1 : decide ((k : Int) < n) = false := by simp; omega
      have hk3 : (n : Int) ≤ k := by omega
      clear hk1
      go_wp2
      go_ret
      exact ⟨rfl, HSr.out.below⟩
end Go.Proofs.YtmifegjmmlipbaaDoor
