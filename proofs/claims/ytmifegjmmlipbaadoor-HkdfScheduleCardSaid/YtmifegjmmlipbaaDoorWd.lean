/-
  The reference's Block: a register behind a block of a text; its condition: 64 bytes.
-/
import Derived.Test.YtmifegjmmlipbaaDoorWc
import Derived.StillTailTactics
namespace Go.Proofs.YtmifegjmmlipbaaDoor
open Go.RowKit Go.Rh Sha

/-- Block's own memory: the register, the result, the rounds' keys, the words. -/
structure BlkW (w wr : World) (r f : Nat → W) : Prop where
  r : wr.heap[w.heap.size]? = some (.cells (U32 8 r) 76 (0, 0))
  o : wr.heap[w.heap.size + 1]? = some (.cells (vals .u32 8 fun _ => 0) 76 (0, 0))
  k : wr.heap[w.heap.size + 2]? = some (.cells (U32 64 K) 75 (0, 0))
  f : wr.heap[w.heap.size + 3]? = some (.cells (U32 64 f) 89 (0, 0))
  b : Below w.heap.size w wr
  s : wr.heap.size = w.heap.size + 4
theorem BlkW.drewN {w wr : World} {r f : Nat → W} (h : BlkW w wr r f) (n : Nat) : BlkW w (wr.drewN n) r f := ⟨h.r, h.o, h.k, h.f, below_drewN h.b n, h.s⟩
theorem BlkW.drew {w wr : World} {r f : Nat → W} (h : BlkW w wr r f) : BlkW w wr.drew r f := ⟨h.r, h.o, h.k, h.f, h.b.drew, h.s⟩
theorem BlkW.store {w wr : World} {r f g : Nat → W} (h : BlkW w wr r f) {j : Nat} (hj : j < 64) {v : W} (hg : ∀ q, q < 64 → g q = if q = j then v else f q) : BlkW w (wr.setCell ⟨w.heap.size + 1 + 1 + 1, j, none⟩ (.int .u32 (u v))) r g := by
  refine ⟨?_, ?_, ?_, ?_, h.b.setCell (by show w.heap.size ≤ w.heap.size + 1 + 1 + 1; omega) _, by simp; exact h.s⟩
  · rw [heap_set_other _ _ _ _ _ (by omega)]; exact h.r
  · rw [heap_set_other _ _ _ _ _ (by omega)]; exact h.o
  · rw [heap_set_other _ _ _ _ _ (by omega)]; exact h.k
  · rw [show w.heap.size + 1 + 1 + 1 = w.heap.size + 3 by omega, heap_set_vals _ h.f hj]
    refine congrArg (fun x => some (Obj.cells x 89 (0, 0))) (vals_congr _ _ fun q hq => ?_)
    rw [hg q hq]
    unfold upd
    split <;> rfl
/-- .. and the words that turn. -/
structure BlkV (w wr : World) (r v : Nat → W) (p : Nat → UInt8) : Prop where
  r : wr.heap[w.heap.size]? = some (.cells (U32 8 r) 76 (0, 0))
  o : wr.heap[w.heap.size + 1]? = some (.cells (vals .u32 8 fun _ => 0) 76 (0, 0))
  k : wr.heap[w.heap.size + 2]? = some (.cells (U32 64 K) 75 (0, 0))
  f : wr.heap[w.heap.size + 3]? = some (.cells (U32 64 (sched p)) 89 (0, 0))
  v : wr.heap[w.heap.size + 4]? = some (.cells (U32 8 v) 76 (0, 0))
  b : Below w.heap.size w wr
theorem BlkV.drewN {w wr : World} {r v : Nat → W} {p : Nat → UInt8} (h : BlkV w wr r v p) (n : Nat) : BlkV w (wr.drewN n) r v p := ⟨h.r, h.o, h.k, h.f, h.v, below_drewN h.b n⟩
theorem BlkV.row {w wr : World} {r v v' : Nat → W} {p : Nat → UInt8} (h : BlkV w wr r v p) : BlkV w (wr.setRow (w.heap.size + 4) (U32 8 v')) r v' p := by
  refine ⟨?_, ?_, ?_, ?_, setRow_heap _ _ _ _ _ _ h.v, below_setRow h.b (by omega) _⟩
  · rw [setRow_other _ _ _ _ (by omega)]; exact h.r
  · rw [setRow_other _ _ _ _ (by omega)]; exact h.o
  · rw [setRow_other _ _ _ _ (by omega)]; exact h.k
  · rw [setRow_other _ _ _ _ (by omega)]; exact h.f
theorem all8 (k : IntKind) (a b c d e f g h : Int) : (#[Value.int k a, .int k b, .int k c, .int k d, .int k e, .int k f, .int k g, .int k h]).all (·.oneCell') = true := by
  simp [Value.oneCell']
theorem BlkV.round {w wr : World} {r : Nat → W} {x : Nat → W} {p : Nat → UInt8} {k : Nat} (h : BlkV w wr r (st r x k) p) {x0 x4 : W} (h0 : x0 = st r x (k + 1) 0) (h4 : x4 = st r x (k + 1) 4) :
    BlkV w (wr.setRow (w.heap.size + 4) #[.int .u32 (u x0), .int .u32 (u (st r x k 0)), .int .u32 (u (st r x k 1)), .int .u32 (u (st r x k 2)), .int .u32 (u x4), .int .u32 (u (st r x k 4)), .int .u32 (u (st r x k 5)), .int .u32 (u (st r x k 6))]) r (st r x (k + 1)) p := by
  subst h0 h4
  exact h.row (v' := st r x (k + 1))
theorem BlkW.begin {w wr : World} {r : Nat → W} {p : Nat → UInt8} (h : BlkW w wr r (wds p 64)) (z : Array Value) (hz : z = vals .u32 8 fun _ => 0) : BlkV w ((wr.alloc (.cells z 76)).setRow (w.heap.size + 4) (U32 8 r)) r r p := by
  subst hz
  have hs := h.s
  refine ⟨?_, ?_, ?_, ?_, setRow_heap _ _ _ _ _ _ (heap_new' _ _ _ (by omega)), below_setRow ((h.b).alloc (by omega) _) (by omega) _⟩
  · rw [setRow_other _ _ _ _ (by omega), heap_old _ _ _ (by omega)]; exact h.r
  · rw [setRow_other _ _ _ _ (by omega), heap_old _ _ _ (by omega)]; exact h.o
  · rw [setRow_other _ _ _ _ (by omega), heap_old _ _ _ (by omega)]; exact h.k
  · rw [setRow_other _ _ _ _ (by omega), heap_old _ _ _ (by omega)]
    exact h.f.trans (congrArg (fun x => some (Obj.cells x 89 (0, 0))) (U32_congr fun j hj => if_pos hj))
theorem quiet_add {P : Program} {f : FuncId} {args : Array Value} {w : World} {a n : Nat} {v : Value}
    (h : Calls P f args (w.drewN (a + n)) fun e w' => e = .returned v ∧ ∃ m, w' = (w.drewN (a + n)).drewN m) :
    Calls P f args (w.drewN (a + n)) fun e w'' => e = .returned v ∧ ∃ m, w'' = w.drewN (a + m) :=
  h.mono fun _ _ ⟨he, m, hm⟩ => ⟨he, n + m, by rw [hm, World.drewN_drewN, Nat.add_assoc]⟩
theorem wds_next (p : Nat → UInt8) (k q : Nat) : wds p (k + 1) q = if q = k then sched p k else wds p k q := by
  unfold wds
  by_cases h : q = k
  · subst h; rw [if_pos rfl, if_pos (by omega)]
  · rw [if_neg h]
    by_cases h2 : q < k
    · rw [if_pos h2, if_pos (by omega)]
    · rw [if_neg h2, if_neg (by omega)]
theorem word_sched (p : Nat → UInt8) (k : Nat) (h : k < 16) :
    (BitVec.ofNat 32 (p (4 * k)).toNat <<< 24) + (BitVec.ofNat 32 (p (4 * k + 1)).toNat <<< 16) + (BitVec.ofNat 32 (p (4 * k + 2)).toNat <<< 8) + BitVec.ofNat 32 (p (4 * k + 3)).toNat = sched p k := by
  rw [word_add, sched_low p h]

attribute [local go_sem] u_add u_add' u_xor u_and u_or ub_u32 ub_word u_shl8 u_shl16 u_shl24 u_shr3 u_shr10 u_not' u_notIf

set_option maxRecDepth 100000 in
set_option maxHeartbeats 0 in
theorem block_any (r : Nat → W) (l : List UInt8) (hn : 64 ≤ l.length) (w : World) :
    Calls Tryd.prog 48 #[.agg (U32 8 r), .string (S8 l)] w fun e w' => e = .returned (.agg (U32 8 (block r (at_ l)))) ∧ Below w.heap.size w w' := by
  go_enter Tryd.func48, Tryd.ntmps48
  go_wp2_with (go_at_call 53; refine (keys_any _).mono ?_; rintro e w' ⟨rfl, rfl⟩)
  go_loopw [7] (fun i wr => ∃ k : Nat, k ≤ 16 ∧ i = .int .i64 k ∧ BlkW w wr r (wds (at_ l) k)) (fun i _ => 16 - (intOf i).toNat)
  case atStart =>
    refine ⟨0, by omega, rfl, by ((simp only [heap_push, World.size_alloc, if_true]; repeat' split); all_goals (first | rfl | (exfalso; omega))), by ((simp only [heap_push, World.size_alloc, if_true]; repeat' split); all_goals (first | rfl | (exfalso; omega))), by ((simp only [heap_push, World.size_alloc, if_true]; repeat' split); all_goals (first | rfl | (exfalso; omega))), ?_, by go_grown, by simp⟩
    rw [wds_zero]
    ((simp only [heap_push, World.size_alloc, if_true]; repeat' split); all_goals (first | rfl | (exfalso; omega)))
  case round =>
    obtain ⟨k, hk, rfl, hB⟩ := hrel
    by_cases hlt : k < 16
    · skip
      have ix : ∀ (i : Int), 0 ≤ i → i < l.length → ∀ w, (Instr.index 9 (.string (S8 l)) (.int .i64 i)).run Tryd.prog w = .ok (.int .u8 (ub (at_ l i.toNat))) w := fun i h0 h1 w => run_index_S8 Tryd.underlying9 l .i64 i h0 h1 w
      have i0 := ix (4 * (k : Int)) (by omega) (by omega)
      have i1 := ix (4 * (k : Int) + 1) (by omega) (by omega)
      have i2 := ix (4 * (k : Int) + 2) (by omega) (by omega)
      have i3 := ix (4 * (k : Int) + 3) (by omega) (by omega)
      rw [show (4 * (k : Int)).toNat = 4 * k by omega] at i0
      rw [show (4 * (k : Int) + 1).toNat = 4 * k + 1 by omega] at i1
      rw [show (4 * (k : Int) + 2).toNat = 4 * k + 2 by omega] at i2
      rw [show (4 * (k : Int) + 3).toNat = 4 * k + 3 by omega] at i3
      have e0 : IntKind.i64.wrap (4 * (k : Int)) = 4 * (k : Int) := IntWalk.i64_in _ (by omega)
      have e1 : IntKind.i64.wrap (4 * (k : Int) + 1) = 4 * (k : Int) + 1 := IntWalk.i64_in _ (by omega)
      have e2 : IntKind.i64.wrap (4 * (k : Int) + 2) = 4 * (k : Int) + 2 := IntWalk.i64_in _ (by omega)
      have e3 : IntKind.i64.wrap (4 * (k : Int) + 3) = 4 * (k : Int) + 3 := IntWalk.i64_in _ (by omega)
      have kk : (k : Int) < 64 := by omega
      have cw : wr.cell? ⟨w.heap.size + 1 + 1 + 1, k, none⟩ = some (.int .u32 (u (wds (at_ l) k k))) := cell_vals hB.f (by omega)
      have fw : wr.frozen? ⟨w.heap.size + 1 + 1 + 1, k, none⟩ = false := frozen_of_row _ _ _ _ _ hB.f
      have HS := Lib.hid (word_sched (at_ l) k hlt)
      have HB := Lib.hid hB
      clear hB ix
      go_wp2
      go_still_tail 31, (by kernel_rfl)
      change wpList _ _ _ _ _ wr.drew
      go_wp2
      go_roundw
      case measure => simp [intOf]; omega
      case rel =>
        refine ⟨k + 1, by omega, by go_num, ?_⟩
        rw [HS.out]
        exact (HB.out.store (by omega) fun q _ => wds_next _ _ _).drew
    · obtain rfl : k = 16 := by omega
      obtain ⟨wo, ho⟩ : ∃ wo, wo = wr := ⟨_, rfl⟩
      rw [← ho] at hB ⊢
      clear ho wr hlt hk
      go_wp2
      go_loopw [8] (fun i wr => ∃ k : Nat, 16 ≤ k ∧ k ≤ 64 ∧ i = .int .i64 k ∧ BlkW w wr r (wds (at_ l) k)) (fun i _ => 64 - (intOf i).toNat)
      case atStart => exact ⟨16, by omega, by omega, rfl, hB⟩
      case round =>
        clear hB wo
        obtain ⟨k, hlo, hk, rfl, hB⟩ := hrel
        by_cases hlt : k < 64
        · skip
          obtain ⟨p2, hp2⟩ : ∃ q, q + 2 = k := ⟨k - 2, by omega⟩
          obtain ⟨p7, hp7⟩ : ∃ q, q + 7 = k := ⟨k - 7, by omega⟩
          obtain ⟨p15, hp15⟩ : ∃ q, q + 15 = k := ⟨k - 15, by omega⟩
          obtain ⟨p16, hp16⟩ : ∃ q, q + 16 = k := ⟨k - 16, by omega⟩
          have HV := Lib.hid (sched_high (at_ l) (i := k) (by omega))
          rw [show k - 2 = p2 by omega, show k - 7 = p7 by omega, show k - 15 = p15 by omega, show k - 16 = p16 by omega] at HV
          have e2 : IntKind.i64.wrap ((k : Int) - 2) = (p2 : Int) := by rw [IntWalk.i64_in _ (by omega)]; omega
          have e7 : IntKind.i64.wrap ((k : Int) - 7) = (p7 : Int) := by rw [IntWalk.i64_in _ (by omega)]; omega
          have e15 : IntKind.i64.wrap ((k : Int) - 15) = (p15 : Int) := by rw [IntWalk.i64_in _ (by omega)]; omega
          have e16 : IntKind.i64.wrap ((k : Int) - 16) = (p16 : Int) := by rw [IntWalk.i64_in _ (by omega)]; omega
          have b2 : (p2 : Int) < 64 := by omega
          have b7 : (p7 : Int) < 64 := by omega
          have b15 : (p15 : Int) < 64 := by omega
          have b16 : (p16 : Int) < 64 := by omega
          have bk : (k : Int) < 64 := by omega
          have g : ∀ q, q < k → wr.cell? ⟨w.heap.size + 1 + 1 + 1, q, none⟩ = some (.int .u32 (u (sched (at_ l) q))) := fun q hq =>
            (cell_vals hB.f (by omega)).trans (congrArg (fun z => some (Value.int .u32 (u z))) (if_pos hq))
          have c2 := g p2 (by omega)
          have c7 := g p7 (by omega)
          have c15 := g p15 (by omega)
          have c16 := g p16 (by omega)
          have cw : wr.cell? ⟨w.heap.size + 1 + 1 + 1, k, none⟩ = some (.int .u32 (u (wds (at_ l) k k))) := cell_vals hB.f (by omega)
          have fw : wr.frozen? ⟨w.heap.size + 1 + 1 + 1, k, none⟩ = false := frozen_of_row _ _ _ _ _ hB.f
          have HB := Lib.hid hB
          clear hB g hp2 hp7 hp15 hp16
          go_wp2
          go_quiet (fail)
          obtain ⟨wq, hq⟩ : ∃ wq, wq = wr.drewN nq := ⟨_, rfl⟩
          rw [← hq]
          have q7 : wq.cell? ⟨w.heap.size + 1 + 1 + 1, p7, none⟩ = some (.int .u32 (u (sched (at_ l) p7))) := by rw [hq]; exact c7
          have q16 : wq.cell? ⟨w.heap.size + 1 + 1 + 1, p16, none⟩ = some (.int .u32 (u (sched (at_ l) p16))) := by rw [hq]; exact c16
          have qw : wq.cell? ⟨w.heap.size + 1 + 1 + 1, k, none⟩ = some (.int .u32 (u (wds (at_ l) k k))) := by rw [hq]; exact cw
          have qf : wq.frozen? ⟨w.heap.size + 1 + 1 + 1, k, none⟩ = false := by rw [hq]; exact fw
          have HB2 : Hid (BlkW w wq r (wds (at_ l) k)) := by rw [hq]; exact HB.out.drewN nq
          clear c2 c7 c15 c16 cw fw HB hq
          clear wr nq
          go_wp2
          (refine region_tail_drew 29 193 (by kernel_rfl) (by rfl) (by kernel_rfl) (by kernel_rfl) ?_; simp only [List.take_succ_cons, List.take_zero, List.drop_succ_cons, List.drop_zero]; (repeat (go_big_quiet_step (exact Calls.quiet_of (turnI _ _ (by decide) _)))); refine wpQuiet_nil ?_; intro _ hw2; obtain ⟨nq, hw2⟩ := hw2; subst hw2)
          go_wp2
          go_roundw
          case measure => simp [intOf]; omega
          case rel =>
            refine ⟨k + 1, by omega, by omega, by go_num, ?_⟩
            exact (HB2.out.drewN nq).store (by omega) fun q _ => by rw [wds_next, HV.out]; rfl
        · skip
          obtain rfl : k = 64 := by omega
          obtain ⟨wo, ho⟩ : ∃ wo, wo = wr := ⟨_, rfl⟩
          rw [← ho] at hB ⊢
          clear ho wr hlt hk hlo
          have HRo := hB.r
          have HSo : wo.heap.size = w.heap.size + 4 := hB.s
          have HB := Lib.hid hB
          clear hB
          have HX : (wo.alloc (.cells #[.int .u32 0, .int .u32 0, .int .u32 0, .int .u32 0, .int .u32 0, .int .u32 0, .int .u32 0, .int .u32 0] 76)).heap[w.heap.size + 4]? = some (.cells #[.int .u32 0, .int .u32 0, .int .u32 0, .int .u32 0, .int .u32 0, .int .u32 0, .int .u32 0, .int .u32 0] 76 (0, 0)) := heap_new' _ _ _ HSo.symm
          go_wp2_with (first | (refine wpList_load_row rfl 76 _ rfl w.heap.size rfl 76 _ (0, 0) _ HRo Tryd.underlying76 rfl (sz76.trans (by simp [U32])) ?_) | (refine wpList_store_row rfl 76 _ _ rfl (w.heap.size + 4) _ rfl rfl 76 _ HX (sz76.trans (by simp [U32])) (by simp [U32]) (vals_one _ _ _) ?_))
          have HV := Lib.hid (HB.out.begin (p := at_ l) _ (rfl : #[Value.int .u32 0, .int .u32 0, .int .u32 0, .int .u32 0, .int .u32 0, .int .u32 0, .int .u32 0, .int .u32 0] = vals .u32 8 fun _ => 0))
          clear HB HX HRo HSo
          go_loopw [12] (fun i wr => ∃ k : Nat, k ≤ 64 ∧ i = .int .i64 k ∧ BlkV w wr r (st r (sched (at_ l)) k) (at_ l)) (fun i _ => 64 - (intOf i).toNat)
          case atStart => exact ⟨0, by omega, rfl, HV.out⟩
          case round =>
            clear HV wo
            obtain ⟨k, hk, rfl, hB⟩ := hrel
            by_cases hlt : k < 64
            · have g : ∀ q, q < 8 → wr.cell? ⟨w.heap.size + 4, q, none⟩ = some (.int .u32 (u (st r (sched (at_ l)) k q))) := fun q hq => cell_vals hB.v hq
              have g0 := g 0 (by decide)
              have g1 := g 1 (by decide)
              have g2 := g 2 (by decide)
              have g3 := g 3 (by decide)
              have g4 := g 4 (by decide)
              have g5 := g 5 (by decide)
              have g6 := g 6 (by decide)
              have g7 := g 7 (by decide)
              have ck : wr.cell? ⟨w.heap.size + 1 + 1, k, none⟩ = some (.int .u32 (u (K k))) := cell_vals hB.k hlt
              have cf : wr.cell? ⟨w.heap.size + 1 + 1 + 1, k, none⟩ = some (.int .u32 (u (sched (at_ l) k))) := cell_vals hB.f hlt
              have kk : (k : Int) < 64 := by omega
              have hv : ∀ n, (wr.drewN n).heap[w.heap.size + 4]? = some (.cells (U32 8 (st r (sched (at_ l)) k)) 76 (0, 0)) := fun n => hB.v
              have HB := Lib.hid hB
              have HV := Lib.hid hv
              clear hB g hv
              go_wp2
              go_quiet (fail)
              go_wp2
              refine wp_region_quiet_lit (by kernel_rfl) (by kernel_rfl) ?_
              (repeat (go_big_quiet_step (exact quiet_add (turnI _ _ (by decide) _))))
              refine wpQuiet_nil ?_
              intro _ hw'
              obtain ⟨nq2, hw'⟩ := hw'
              subst hw'
              go_wp2
              refine wp_region_quiet_lit (by kernel_rfl) (by kernel_rfl) ?_
              (repeat (go_big_quiet_step (exact quiet_add (turnI _ _ (by decide) _))))
              refine wpQuiet_nil ?_
              intro _ hw'
              obtain ⟨nq3, hw'⟩ := hw'
              subst hw'
              go_wp2_with (refine wpList_store_row rfl 76 _ _ rfl (w.heap.size + 4) _ rfl rfl 76 _ (HV.out _) (sz76.trans rfl) (by simp [U32]) (all8 _ _ _ _ _ _ _ _ _) ?_)
              go_roundw
              case measure => simp [intOf]; omega
              case rel => exact ⟨k + 1, by omega, by go_num, (HB.out.drewN _).round rfl rfl⟩
            · have hk64 : k = 64 := by omega
              have hB2 : BlkV w wr r (st r (sched (at_ l)) 64) (at_ l) := by rw [← hk64]; exact hB
              obtain ⟨wp, hp⟩ : ∃ wp, wp = wr := ⟨_, rfl⟩
              rw [← hp] at hB2 ⊢
              have HB := Lib.hid hB2
              clear hp hB2 hB wr hk64
              go_wp2
              go_loopw [17] (fun i wr => ∃ k : Nat, k ≤ 8 ∧ i = .int .i64 k ∧ wr.heap[w.heap.size]? = some (.cells (U32 8 fun j => if j < k then block r (at_ l) j else r j) 76 (0, 0)) ∧ wr.heap[w.heap.size + 1]? = some (.cells (vals .u32 8 fun _ => 0) 76 (0, 0)) ∧ wr.heap[w.heap.size + 4]? = some (.cells (U32 8 (st r (sched (at_ l)) 64)) 76 (0, 0)) ∧ Below w.heap.size w wr) (fun i _ => 8 - (intOf i).toNat)
              case atStart => exact ⟨0, by omega, rfl, HB.out.r.trans (congrArg (fun x => some (Obj.cells x 76 (0, 0))) (U32_congr fun j _ => by simp)), HB.out.o, HB.out.v, HB.out.b⟩
              case round =>
                clear HB wp hlt hk
                obtain ⟨k, hk, rfl, hR, hO, hV, hbl⟩ := hrel
                by_cases hlt : k < 8
                · have kk : (k : Int) < 8 := by omega
                  have cr : wr.cell? ⟨w.heap.size, k, none⟩ = some (.int .u32 (u (r k))) := (cell_vals hR hlt).trans (congrArg (fun z => some (Value.int .u32 (u z))) (if_neg (Nat.lt_irrefl k)))
                  have cv : wr.cell? ⟨w.heap.size + 4, k, none⟩ = some (.int .u32 (u (st r (sched (at_ l)) 64 k))) := cell_vals hV hlt
                  have fr : wr.frozen? ⟨w.heap.size, k, none⟩ = false := frozen_of_row _ _ _ _ _ hR
                  have HR := Lib.hid hR
                  have HO := Lib.hid hO
                  have HV := Lib.hid hV
                  clear hR hO hV
                  go_wp2
                  go_still_tail 9, (by kernel_rfl)
                  change wpList _ _ _ _ _ wr.drew
                  go_wp2
                  go_roundw
                  case measure => simp [intOf]; omega
                  case rel =>
                    refine ⟨k + 1, by omega, by go_num, ?_, ?_, ?_, (hbl.setCell (by show w.heap.size ≤ w.heap.size; omega) _).drew⟩
                    · rw [heap_drew, heap_set_vals _ HR.out (by omega)]
                      exact congrArg (fun x => some (Obj.cells x 76 (0, 0))) (sum_step _ _ _ _)
                    · rw [heap_drew, heap_set_other _ _ _ _ _ (by omega)]; exact HO.out
                    · rw [heap_drew, heap_set_other _ _ _ _ _ (by omega)]; exact HV.out
                · obtain rfl : k = 8 := by omega
                  have HR : wr.heap[w.heap.size]? = some (.cells (U32 8 (block r (at_ l))) 76 (0, 0)) :=
                    hR.trans (congrArg (fun x => some (Obj.cells x 76 (0, 0))) (U32_congr fun j hj => if_pos hj))
                  clear hR hV
                  go_wp2_with (first | (refine wpList_load_row rfl 76 _ rfl w.heap.size rfl 76 _ (0, 0) _ HR Tryd.underlying76 rfl (sz76.trans (by simp [U32])) ?_) | (refine wpList_store_row rfl 76 _ _ rfl (w.heap.size + 1) _ rfl rfl 76 _ hO (sz76.trans (by simp [U32])) (by simp [U32]) (vals_one _ _ _) ?_))
                  refine bodyPost_ret (results_cell_row rfl _ _ _ 76 (U32 8 (block r (at_ l))) (0, 0) _ rfl (setRow_heap _ _ _ _ _ _ hO) Tryd.underlying76 rfl (sz76.trans (by simp [U32]))) rfl ⟨rfl, below_setRow hbl (by omega) _⟩
end Go.Proofs.YtmifegjmmlipbaaDoor
