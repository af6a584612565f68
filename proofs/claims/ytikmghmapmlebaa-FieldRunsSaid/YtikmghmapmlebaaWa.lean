/-
  The program's Swap: both elements, the other way round if it is told so; condition: digits below 2^64.
-/
import Derived.Test.YtikmghmapmlebaaFc
import Derived.Laws.BitsAllLaws
import Derived.BigQuiet
import Derived.Deep.QuietTactic
import Derived.Deep.DeepCutAuto
import Derived.Deep.RegionHeldLaw
namespace Go.Proofs.Ytikmghmapmlebaa
open Go.RowKit Go.Rh F255

/-- Digits, the first ones changed. -/
def mixK (a b : Nat → Nat) (k : Nat) : Nat → Nat := fun j => if j < k then b j else a j
theorem mixK_upd (a b : Nat → Nat) (k j : Nat) : upd (fun j => ((mixK a b k j : Nat) : Int)) k ((b k : Nat) : Int) j = ((mixK a b (k + 1) j : Nat) : Int) := by
  unfold upd mixK
  by_cases e : j = k
  · subst e; rw [if_pos rfl, if_pos (by omega)]
  · rw [if_neg e]
    by_cases e2 : j < k
    · simp only []; rw [if_pos e2, if_pos (by omega)]
    · simp only []; rw [if_neg e2, if_neg (by omega)]
theorem below_drewN {B : Nat} {a w : World} (h : Below B a w) (n : Nat) : Below B a (w.drewN n) := ⟨h.os, h.tape, h.output, h.size, h.block⟩
theorem heap_drewN_set (w : World) (n : Nat) (p : Addr) (v : Value) : ((w.drewN n).setCell p v).heap = (w.setCell p v).heap := rfl
theorem u64_five (f : Nat → Nat) : U64 f = #[.int .u64 (f 0 : Nat), .int .u64 (f 1 : Nat), .int .u64 (f 2 : Nat), .int .u64 (f 3 : Nat), .int .u64 (f 4 : Nat)] := rfl
theorem mixK_five (a b : Nat → Nat) : U64 (mixK a b 5) = U64 b := vals_congr _ _ fun j hj => by simp [mixK, hj]
theorem mixK_same (a : Nat → Nat) (k : Nat) : mixK a a k = a := funext fun j => by simp [mixK]
theorem results_two_rows {P : Program} {fn : Func} {p q : Tmp} {ty : TypeId} (h : fn.results = #[.cell p ty, .cell q ty]) (tmps : Array Value) (w : World) (g g' : Nat) (t : TypeId) (cs cs' : Array Value) (fr fr' : Nat × Nat) (d : TypeDesc)
    (hp : tmps.getD p undef = .pointer (some ⟨g, 0, none⟩)) (hq : tmps.getD q undef = .pointer (some ⟨g', 0, none⟩)) (hg : w.heap[g]? = some (.cells cs t fr)) (hg' : w.heap[g']? = some (.cells cs' t fr'))
    (hu : P.underlying ty = some d) (hd : (match d with | .struct _ | .array _ _ => true | _ => false) = true) (hi : (P.info? ty).map (·.size) = some cs.size) (hi' : (P.info? ty).map (·.size) = some cs'.size) :
    (results fn tmps).run P w = .ok (.tuple #[.agg cs, .agg cs']) w := by
  have hp' : tmps[p]?.getD undef = .pointer (some ⟨g, 0, none⟩) := by simpa using hp
  have hq' : tmps[q]?.getD undef = .pointer (some ⟨g', 0, none⟩) := by simpa using hq
  simp [results, h, hp', hq', asAddr, run_loadVar_row w g t ty cs fr d hg hu hd hi, run_loadVar_row w g' t ty cs' fr' d hg' hu hd hi']
theorem and_ones (x : Nat) (h : x < 18446744073709551616) : x &&& 18446744073709551615 = x := by
  rw [show 18446744073709551615 = 2 ^ 64 - 1 from rfl, Nat.and_two_pow_sub_one_eq_mod, Nat.mod_eq_of_lt h]
theorem xor_lt64 {a b : Nat} (ha : a < 18446744073709551616) (hb : b < 18446744073709551616) : a ^^^ b < 18446744073709551616 := Nat.xor_lt_two_pow (n := 64) ha hb

theorem step_load_row {P : Program} {ops : Array Oper} {o : Oper} {a : Act} {w : World} {K : Act → World → Prop} {Q : Exit → Act → World → Prop} {E : Prop} (hgd : o.guard = none) (ty : TypeId) (x : Operand) (ho : o.op = .load ty x)
    (g : Nat) (hx : a.eval x = .pointer (some ⟨g, 0, none⟩)) (t : TypeId) (cs : Array Value) (fr : Nat × Nat) (d : TypeDesc) (hg : w.heap[g]? = some (.cells cs t fr))
    (hu : P.underlying ty = some d) (hd : (match d with | .struct _ | .array _ _ => true | _ => false) = true) (hi : (P.info? ty).map (·.size) = some cs.size)
    (h : K (a.put o.dst (.agg cs)) w) : if Region.wanted o (yielded ops a.tmps) = true then Oper.wp P o a w K Q else E := by
  have hw : Region.wanted o (yielded ops a.tmps) = true := by simp [Region.wanted, hgd]
  rw [if_pos hw]
  exact wp_load_row ty x ho g hx t cs fr d hg hu hd hi h
theorem step_store_row {P : Program} {ops : Array Oper} {o : Oper} {a : Act} {w : World} {K : Act → World → Prop} {Q : Exit → Act → World → Prop} {E : Prop} (hgd : o.guard = none) (ty : TypeId) (x y : Operand) (ho : o.op = .store ty x y)
    (g : Nat) (cells : Array Value) (hx : a.eval x = .pointer (some ⟨g, 0, none⟩)) (hy : a.eval y = .agg cells)
    (t : TypeId) (old : Array Value) (hg : w.heap[g]? = some (.cells old t (0, 0))) (hi : (P.info? ty).map (·.size) = some cells.size)
    (hold : old.size = cells.size) (h1 : cells.all (·.oneCell') = true)
    (h : K (a.put o.dst undef) (w.setRow g cells)) : if Region.wanted o (yielded ops a.tmps) = true then Oper.wp P o a w K Q else E := by
  have hw : Region.wanted o (yielded ops a.tmps) = true := by simp [Region.wanted, hgd]
  rw [if_pos hw]
  exact wp_store_row ty x y ho g cells hx hy t old hg hi hold h1 h

set_option maxRecDepth 100000 in
set_option maxHeartbeats 400000 in
theorem swap_any (s : Bool) (a b : Nat → Nat) (ha : ∀ j, j < 5 → a j < 18446744073709551616) (hb : ∀ j, j < 5 → b j < 18446744073709551616) (w : World) :
    Calls Try.prog 28 #[.bool s, .agg (U64 a), .agg (U64 b)] w fun e w' => e = .returned (.tuple #[.agg (U64 (if s then b else a)), .agg (U64 (if s then a else b))]) ∧ Below w.heap.size w w' := by
  have HA := Lib.hid ha
  have HB := Lib.hid hb
  clear ha hb
  obtain ⟨c, hc⟩ : ∃ c, c = if s = true then b else a := ⟨_, rfl⟩
  obtain ⟨d, hd⟩ : ∃ d, d = if s = true then a else b := ⟨_, rfl⟩
  rw [← hc, ← hd]
  obtain ⟨m, hm⟩ : ∃ m : Int, m = if s = true then 18446744073709551615 else 0 := ⟨_, rfl⟩
  have HX : Hid (∀ k, k < 5 → ∃ x : Nat, bits .and .u64 (bits .xor .u64 ((a k : Nat) : Int) ((b k : Nat) : Int)) m = (x : Int) ∧ bits .xor .u64 ((a k : Nat) : Int) (x : Int) = ((c k : Nat) : Int) ∧ bits .xor .u64 ((b k : Nat) : Int) (x : Int) = ((d k : Nat) : Int)) := by
    intro k hk
    have h1 := HA.out k hk
    have h2 := HB.out k hk
    have h3 := xor_lt64 h1 h2
    rw [u64_xor_nat _ _ h1 h2]
    cases s
    · refine ⟨0, ?_, ?_, ?_⟩
      · rw [hm]; exact (u64_and_nat _ 0 h3 (by decide)).trans (by simp)
      · rw [hc]; exact (u64_xor_nat _ 0 h1 (by decide)).trans (by simp)
      · rw [hd]; exact (u64_xor_nat _ 0 h2 (by decide)).trans (by simp)
    · refine ⟨a k ^^^ b k, ?_, ?_, ?_⟩
      · rw [hm]; exact (u64_and_nat _ 18446744073709551615 h3 (by decide)).trans (by rw [and_ones _ h3])
      · rw [hc, u64_xor_nat _ _ h1 h3, ← Nat.xor_assoc, Nat.xor_self, Nat.zero_xor]; rfl
      · rw [hd, u64_xor_nat _ _ h2 h3, Nat.xor_comm (a k), ← Nat.xor_assoc, Nat.xor_self, Nat.zero_xor]; rfl
  have HM := Lib.hid hm
  clear hm hc hd
  go_enter Try.func28, Try.ntmps28
  go_upto_if 11 with fail
  go_cut [8] (fun s8 wx => s8 = .int .u64 m ∧ wx = ((((w.alloc (.cells (U64 a) 26)).alloc (.cells (U64 b) 26)).alloc (.cells Z5 26)).alloc (.cells Z5 26)))
  case first =>
    cases s
    · go_wp2
      go_meet
      exact ⟨by rw [HM.out]; rfl, rfl⟩
    · go_wp2
      go_meet
      exact ⟨by rw [HM.out]; rfl, rfl⟩
  case rest =>
    obtain ⟨rfl, rfl⟩ := hcut
    go_wp2
    go_loopw [14] (fun i wr => ∃ k : Nat, k ≤ 5 ∧ i = .int .i64 k ∧ wr.heap[w.heap.size]? = some (.cells (U64 (mixK a c k)) 26 (0, 0)) ∧ wr.heap[w.heap.size + 1]? = some (.cells (U64 (mixK b d k)) 26 (0, 0)) ∧ wr.heap[w.heap.size + 2]? = some (.cells Z5 26 (0, 0)) ∧ wr.heap[w.heap.size + 3]? = some (.cells Z5 26 (0, 0)) ∧ Below w.heap.size w wr) (fun i _ => 5 - (intOf i).toNat)
    case atStart =>
      refine ⟨0, by omega, rfl, ?_, ?_, by ((simp only [heap_push, World.size_alloc, if_true]; repeat' split); all_goals (first | rfl | (exfalso; omega))), by ((simp only [heap_push, World.size_alloc, if_true]; repeat' split); all_goals (first | rfl | (exfalso; omega))), by go_grown⟩
      · rw [show mixK a c 0 = a from funext fun q => by simp [mixK]]
        ((simp only [heap_push, World.size_alloc, if_true]; repeat' split); all_goals (first | rfl | (exfalso; omega)))
      · rw [show mixK b d 0 = b from funext fun q => by simp [mixK]]
        ((simp only [heap_push, World.size_alloc, if_true]; repeat' split); all_goals (first | rfl | (exfalso; omega)))
    case round =>
      obtain ⟨k, hk, rfl, h1, h2, h3, h4, hbl⟩ := hrel
      by_cases hlt : k < 5
      · obtain ⟨x, hx1, hx2, hx3⟩ := HX.out k hlt
        have c1 : wr.cell? ⟨w.heap.size, k, none⟩ = some (.int .u64 (a k)) := by rw [cell_vals h1 hlt]; simp [mixK]
        have c2 : wr.cell? ⟨w.heap.size + 1, k, none⟩ = some (.int .u64 (b k)) := by rw [cell_vals h2 hlt]; simp [mixK]
        have f1 : wr.frozen? ⟨w.heap.size, k, none⟩ = false := frozen_of_row _ _ _ _ _ h1
        have f2 : wr.frozen? ⟨w.heap.size + 1, k, none⟩ = false := frozen_of_row _ _ _ _ _ h2
        have H1 := Lib.hid h1
        have H2 := Lib.hid h2
        have H3 := Lib.hid h3
        have H4 := Lib.hid h4
        have HB' := Lib.hid hbl
        clear h1 h2 h3 h4 hbl
        go_wp2
        go_quiet (fail)
        go_wp2
        refine ⟨⟨k + 1, by omega, by go_num, ?_, ?_, ?_, ?_, ?_⟩, by simp [intOf]; omega⟩
        · rw [heap_set_other _ _ _ _ _ (by omega), heap_drewN_set, heap_set_vals _ H1.out (by omega)]
          congr 2
          exact vals_congr _ _ fun j _ => mixK_upd a c k j
        · rw [heap_set_vals (n := 5) (f := fun j => ((mixK b d k j : Nat) : Int)) _ (by rw [heap_set_other _ _ _ _ _ (by omega)]; exact H2.out) (by omega)]
          congr 2
          exact vals_congr _ _ fun j _ => mixK_upd b d k j
        · rw [heap_set_other _ _ _ _ _ (by omega), heap_set_other _ _ _ _ _ (by omega)]; exact H3.out
        · rw [heap_set_other _ _ _ _ _ (by omega), heap_set_other _ _ _ _ _ (by omega)]; exact H4.out
        · exact ((below_drewN HB'.out nq).setCell (Nat.le_refl _) _).setCell (by simp) _
      · obtain rfl : k = 5 := by omega
        rw [mixK_five] at h1 h2
        have p0 : wr.cell? ⟨w.heap.size, 0, none⟩ = some (.int .u64 (c 0)) := cell_vals h1 (by decide)
        have q0 : wr.cell? ⟨w.heap.size + 1, 0, none⟩ = some (.int .u64 (d 0)) := cell_vals h2 (by decide)
        have p1 : wr.cell? ⟨w.heap.size, 1, none⟩ = some (.int .u64 (c 1)) := cell_vals h1 (by decide)
        have q1 : wr.cell? ⟨w.heap.size + 1, 1, none⟩ = some (.int .u64 (d 1)) := cell_vals h2 (by decide)
        have p2 : wr.cell? ⟨w.heap.size, 2, none⟩ = some (.int .u64 (c 2)) := cell_vals h1 (by decide)
        have q2 : wr.cell? ⟨w.heap.size + 1, 2, none⟩ = some (.int .u64 (d 2)) := cell_vals h2 (by decide)
        have p3 : wr.cell? ⟨w.heap.size, 3, none⟩ = some (.int .u64 (c 3)) := cell_vals h1 (by decide)
        have q3 : wr.cell? ⟨w.heap.size + 1, 3, none⟩ = some (.int .u64 (d 3)) := cell_vals h2 (by decide)
        have p4 : wr.cell? ⟨w.heap.size, 4, none⟩ = some (.int .u64 (c 4)) := cell_vals h1 (by decide)
        have q4 : wr.cell? ⟨w.heap.size + 1, 4, none⟩ = some (.int .u64 (d 4)) := cell_vals h2 (by decide)
        have r0 : wr.cell? ⟨w.heap.size + 1 + 1, 0, none⟩ = some (.int .u64 0) := (cell_of_row wr (w.heap.size + 1 + 1) 0 Z5 26 _ h3).trans (by rfl)
        have s0 : wr.cell? ⟨w.heap.size + 1 + 1 + 1, 0, none⟩ = some (.int .u64 0) := (cell_of_row wr (w.heap.size + 1 + 1 + 1) 0 Z5 26 _ h4).trans (by rfl)
        have f0 : wr.frozen? ⟨w.heap.size + 1 + 1, 0, none⟩ = false := frozen_of_row _ _ _ _ _ h3
        have g0 : wr.frozen? ⟨w.heap.size + 1 + 1 + 1, 0, none⟩ = false := frozen_of_row _ _ _ _ _ h4
        have r1 : wr.cell? ⟨w.heap.size + 1 + 1, 1, none⟩ = some (.int .u64 0) := (cell_of_row wr (w.heap.size + 1 + 1) 1 Z5 26 _ h3).trans (by rfl)
        have s1 : wr.cell? ⟨w.heap.size + 1 + 1 + 1, 1, none⟩ = some (.int .u64 0) := (cell_of_row wr (w.heap.size + 1 + 1 + 1) 1 Z5 26 _ h4).trans (by rfl)
        have f1 : wr.frozen? ⟨w.heap.size + 1 + 1, 1, none⟩ = false := frozen_of_row _ _ _ _ _ h3
        have g1 : wr.frozen? ⟨w.heap.size + 1 + 1 + 1, 1, none⟩ = false := frozen_of_row _ _ _ _ _ h4
        have r2 : wr.cell? ⟨w.heap.size + 1 + 1, 2, none⟩ = some (.int .u64 0) := (cell_of_row wr (w.heap.size + 1 + 1) 2 Z5 26 _ h3).trans (by rfl)
        have s2 : wr.cell? ⟨w.heap.size + 1 + 1 + 1, 2, none⟩ = some (.int .u64 0) := (cell_of_row wr (w.heap.size + 1 + 1 + 1) 2 Z5 26 _ h4).trans (by rfl)
        have f2 : wr.frozen? ⟨w.heap.size + 1 + 1, 2, none⟩ = false := frozen_of_row _ _ _ _ _ h3
        have g2 : wr.frozen? ⟨w.heap.size + 1 + 1 + 1, 2, none⟩ = false := frozen_of_row _ _ _ _ _ h4
        have r3 : wr.cell? ⟨w.heap.size + 1 + 1, 3, none⟩ = some (.int .u64 0) := (cell_of_row wr (w.heap.size + 1 + 1) 3 Z5 26 _ h3).trans (by rfl)
        have s3 : wr.cell? ⟨w.heap.size + 1 + 1 + 1, 3, none⟩ = some (.int .u64 0) := (cell_of_row wr (w.heap.size + 1 + 1 + 1) 3 Z5 26 _ h4).trans (by rfl)
        have f3 : wr.frozen? ⟨w.heap.size + 1 + 1, 3, none⟩ = false := frozen_of_row _ _ _ _ _ h3
        have g3 : wr.frozen? ⟨w.heap.size + 1 + 1 + 1, 3, none⟩ = false := frozen_of_row _ _ _ _ _ h4
        have r4 : wr.cell? ⟨w.heap.size + 1 + 1, 4, none⟩ = some (.int .u64 0) := (cell_of_row wr (w.heap.size + 1 + 1) 4 Z5 26 _ h3).trans (by rfl)
        have s4 : wr.cell? ⟨w.heap.size + 1 + 1 + 1, 4, none⟩ = some (.int .u64 0) := (cell_of_row wr (w.heap.size + 1 + 1 + 1) 4 Z5 26 _ h4).trans (by rfl)
        have f4 : wr.frozen? ⟨w.heap.size + 1 + 1, 4, none⟩ = false := frozen_of_row _ _ _ _ _ h3
        have g4 : wr.frozen? ⟨w.heap.size + 1 + 1 + 1, 4, none⟩ = false := frozen_of_row _ _ _ _ _ h4
        have H1 := Lib.hid h1
        have H2 := Lib.hid h2
        have H3 := Lib.hid h3
        have H4 := Lib.hid h4
        have HB' := Lib.hid hbl
        clear h1 h2 h3 h4 hbl
        go_wp2
        go_region_law (fail)
        all_goals
          go_wp2
          refine bodyPost_ret (v := .tuple #[.agg (U64 c), .agg (U64 d)]) ?_ rfl ⟨rfl, ?_⟩
          · rw [u64_five c, u64_five d]
            simp [results, Try.results28, go_sem, r0, r1, r2, r3, r4, s0, s1, s2, s3, s4]
          · refine Below.drew ?_
            repeat (refine Below.setCell ?_ (by simp; omega) _)
            exact HB'.out
end Go.Proofs.Ytikmghmapmlebaa
