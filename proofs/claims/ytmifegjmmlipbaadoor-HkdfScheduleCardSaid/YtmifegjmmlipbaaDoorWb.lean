/-
  The program's mix: a register behind a block; its conditions: 64 bytes that lie in memory, and the table of the rounds' words.
-/
import Derived.Test.YtmifegjmmlipbaaDoorWa
import Derived.StillTailTactics
import Derived.Deep.QuietTactic
import Derived.BigQuiet
namespace Go.Proofs.YtmifegjmmlipbaaDoor
open Go.RowKit Go.Rh Sha

/-- Bytes that lie in memory from a place on. -/
def Lies (w : World) (b off n : Nat) (l : List UInt8) : Prop := ∀ j, j < n → w.cell? ⟨b, off + j, none⟩ = some (.int .u8 (ub (at_ l j)))
theorem Lies.below {w w' : World} {b off n B : Nat} {l : List UInt8} (h : Lies w b off n l) (hb : Below B w w') (hB : b < B) : Lies w' b off n l :=
  fun j hj => (hb.cell (p := ⟨b, off + j, none⟩) hB).trans (h j hj)
theorem sz89 : (Tryd.prog.info? 89).map (·.size) = some 64 := by kernel_rfl
theorem sz76 : (Tryd.prog.info? 76).map (·.size) = some 8 := by kernel_rfl

/-- The words behind so many rounds of the first loop. -/
def wds (p : Nat → UInt8) (k : Nat) : Nat → W := fun j => if j < k then sched p j else 0
theorem wds_zero (p : Nat → UInt8) : U32 64 (wds p 0) = vals .u32 64 fun _ => 0 := vals_congr _ _ fun j _ => by simp [wds, u]
theorem wds_step (p : Nat → UInt8) (k : Nat) : vals .u32 64 (upd (fun j => u (wds p k j)) k (u (sched p k))) = U32 64 (wds p (k + 1)) := by
  refine vals_congr _ _ fun j _ => ?_
  unfold upd wds
  by_cases h : j = k
  · subst h; rw [if_pos rfl, if_pos (by omega)]
  · rw [if_neg h]
    show u (if j < k then sched p j else 0) = u (if j < k + 1 then sched p j else 0)
    by_cases h2 : j < k
    · rw [if_pos h2, if_pos (by omega)]
    · rw [if_neg h2, if_neg (by omega)]

theorem word_store (p : Nat → UInt8) (k : Nat) (h : k < 16) :
    (BitVec.ofNat 32 (p (4 * k)).toNat <<< 24) ||| (BitVec.ofNat 32 (p (4 * k + 1)).toNat <<< 16) ||| (BitVec.ofNat 32 (p (4 * k + 2)).toNat <<< 8) ||| BitVec.ofNat 32 (p (4 * k + 3)).toNat = sched p k :=
  (sched_low p h).symm

theorem t1_other (s : Nat → W) (k x : W) : s 7 + (rotr (s 4) 6 ^^^ rotr (s 4) 11 ^^^ rotr (s 4) 25) + (s 6 ^^^ s 4 &&& (s 5 ^^^ s 6)) + k + x = t1 s k x := by rw [ch_other]; rfl
theorem t2_other (s : Nat → W) : (rotr (s 0) 2 ^^^ rotr (s 0) 13 ^^^ rotr (s 0) 22) + (s 0 &&& s 1 ||| s 2 &&& (s 0 ||| s 1)) = t2 s := by rw [maj_other]; rfl
theorem below_drewN {w w' : World} {B : Nat} (h : Below B w w') (n : Nat) : Below B w (w'.drewN n) := ⟨h.os, h.tape, h.output, h.size, h.block⟩

theorem sum_step (r v : Nat → W) (k n : Nat) : vals .u32 n (upd (fun j => u (if j < k then r j + v j else r j)) k (u (r k + v k))) = U32 n (fun j => if j < k + 1 then r j + v j else r j) := by
  refine vals_congr _ _ fun j _ => ?_
  unfold upd
  by_cases h : j = k
  · subst h
    rw [if_pos rfl]
    show u (r j + v j) = u (if j < j + 1 then r j + v j else r j)
    rw [if_pos (by omega)]
  · rw [if_neg h]
    show u (if j < k then r j + v j else r j) = u (if j < k + 1 then r j + v j else r j)
    by_cases h2 : j < k
    · rw [if_pos h2, if_pos (by omega)]
    · rw [if_neg h2, if_neg (by omega)]

attribute [local go_sem] u_add u_add' u_xor u_and u_or ub_word u_shl8 u_shl16 u_shl24 u_shr3 u_shr10 u_not'

set_option maxRecDepth 100000 in
set_option maxHeartbeats 0 in
theorem mix_any (r : Nat → W) (l : List UInt8) (b off n c : Nat) (hn : 64 ≤ n) (hn2 : n ≤ 140737488355328) (w : World) (hb : b < w.heap.size) (hl : Lies w b off 64 l) {tk : TypeId} (hK : w.heap[1]? = some (.cells (U32 64 K) tk (0, 0))) :
    Calls Tryd.prog 49 #[.agg (U32 8 r), .slice (some ⟨b, off, none⟩) n c] w fun e w' => e = .returned (.agg (U32 8 (block r (at_ l)))) ∧ Below w.heap.size w w' := by
  have h1 := heap_lt hK
  have HL := Lib.hid hl
  have HK := Lib.hid hK
  clear hl hK
  go_enter Tryd.func49, Tryd.ntmps49
  go_wp2
  go_loopw [23] (fun i wr => ∃ k : Nat, k ≤ 64 ∧ i = .int .i64 k ∧ wr.heap[w.heap.size]? = some (.cells (U32 8 r) 76 (0, 0)) ∧ wr.heap[w.heap.size + 1]? = some (.cells (vals .u32 8 fun _ => 0) 76 (0, 0)) ∧ wr.heap[w.heap.size + 2]? = some (.cells (U32 64 (wds (at_ l) k)) 89 (0, 0)) ∧ Below w.heap.size w wr ∧ w.heap.size + 3 ≤ wr.heap.size) (fun i _ => 64 - (intOf i).toNat)
  case atStart =>
    refine ⟨0, by omega, rfl, by ((simp only [heap_push, World.size_alloc, if_true]; repeat' split); all_goals (first | rfl | (exfalso; omega))), by ((simp only [heap_push, World.size_alloc, if_true]; repeat' split); all_goals (first | rfl | (exfalso; omega))), ?_, by go_grown, by simp⟩
    rw [wds_zero]
    ((simp only [heap_push, World.size_alloc, if_true]; repeat' split); all_goals (first | rfl | (exfalso; omega)))
  case round =>
    obtain ⟨k, hk, rfl, hR, hO, hW, hbl, hsz⟩ := hrel
    by_cases hlt : k < 64
    · by_cases hlo : k < 16
      · skip
        have hl' := HL.out.below hbl hb
        have c0 : wr.cell? ⟨b, off + 4 * k, none⟩ = some (.int .u8 (ub (at_ l (4 * k)))) := hl' _ (by omega)
        have c1 : wr.cell? ⟨b, off + (4 * k + 1), none⟩ = some (.int .u8 (ub (at_ l (4 * k + 1)))) := hl' _ (by omega)
        have c2 : wr.cell? ⟨b, off + (4 * k + 2), none⟩ = some (.int .u8 (ub (at_ l (4 * k + 2)))) := hl' _ (by omega)
        have c3 : wr.cell? ⟨b, off + (4 * k + 3), none⟩ = some (.int .u8 (ub (at_ l (4 * k + 3)))) := hl' _ (by omega)
        have e0 : IntKind.i64.wrap (4 * (k : Int)) = 4 * (k : Int) := IntWalk.i64_in _ (by omega)
        have e1 : IntKind.i64.wrap (4 * (k : Int) + 1) = 4 * (k : Int) + 1 := IntWalk.i64_in _ (by omega)
        have e2 : IntKind.i64.wrap (4 * (k : Int) + 2) = 4 * (k : Int) + 2 := IntWalk.i64_in _ (by omega)
        have e3 : IntKind.i64.wrap (4 * (k : Int) + 3) = 4 * (k : Int) + 3 := IntWalk.i64_in _ (by omega)
        have t0 : (4 * (k : Int)).toNat = 4 * k := by omega
        have t1 : (4 * (k : Int) + 1).toNat = 4 * k + 1 := by omega
        have t2 : (4 * (k : Int) + 2).toNat = 4 * k + 2 := by omega
        have t3 : (4 * (k : Int) + 3).toNat = 4 * k + 3 := by omega
        have b0 : (0 : Int) ≤ 4 * (k : Int) := by omega
        have b1 : (0 : Int) ≤ 4 * (k : Int) + 1 := by omega
        have b2 : (0 : Int) ≤ 4 * (k : Int) + 2 := by omega
        have b3 : (0 : Int) ≤ 4 * (k : Int) + 3 := by omega
        have d0 : 4 * (k : Int) < (n : Int) := by omega
        have d1 : 4 * (k : Int) + 1 < (n : Int) := by omega
        have d2 : 4 * (k : Int) + 2 < (n : Int) := by omega
        have d3 : 4 * (k : Int) + 3 < (n : Int) := by omega
        have cw : wr.cell? ⟨w.heap.size + 1 + 1, k, none⟩ = some (.int .u32 (u (wds (at_ l) k k))) := cell_vals hW (by omega)
        have fw : wr.frozen? ⟨w.heap.size + 1 + 1, k, none⟩ = false := frozen_of_row _ _ _ _ _ hW
        have HW := Lib.hid hW
        have HR := Lib.hid hR
        have HO := Lib.hid hO
        clear hW hR hO hl'
        go_wp2
        have HS := Lib.hid (word_store (at_ l) k hlo)
        go_still_tail 35, (by kernel_rfl)
        change wpList _ _ _ _ _ wr.drew
        go_wp2
        rw [HS.out]
        refine ⟨⟨k + 1, by omega, by go_num, ?_, ?_, ?_, ?_, ?_⟩, by simp [intOf]; omega⟩
        · rw [heap_drew, heap_set_other _ _ _ _ _ (by omega)]; exact HR.out
        · rw [heap_drew, heap_set_other _ _ _ _ _ (by omega)]; exact HO.out
        · rw [heap_drew, show w.heap.size + 1 + 1 = w.heap.size + 2 by omega]
          rw [heap_set_vals _ HW.out (by omega)]
          exact congrArg (fun x => some (Obj.cells x 89 (0, 0))) (wds_step _ _)
        · exact (hbl.setCell (by show w.heap.size ≤ w.heap.size + 1 + 1; omega) _).drew
        · simp; exact hsz
      · skip
        obtain ⟨p2, hp2⟩ : ∃ q, q + 2 = k := ⟨k - 2, by omega⟩
        obtain ⟨p7, hp7⟩ : ∃ q, q + 7 = k := ⟨k - 7, by omega⟩
        obtain ⟨p15, hp15⟩ : ∃ q, q + 15 = k := ⟨k - 15, by omega⟩
        obtain ⟨p16, hp16⟩ : ∃ q, q + 16 = k := ⟨k - 16, by omega⟩
        have HV := Lib.hid (sched_high (at_ l) hlo)
        rw [show k - 2 = p2 by omega, show k - 7 = p7 by omega, show k - 15 = p15 by omega, show k - 16 = p16 by omega] at HV
        have e2 : IntKind.i64.wrap ((k : Int) - 2) = (p2 : Int) := by rw [IntWalk.i64_in _ (by omega)]; omega
        have e7 : IntKind.i64.wrap ((k : Int) - 7) = (p7 : Int) := by rw [IntWalk.i64_in _ (by omega)]; omega
        have e15 : IntKind.i64.wrap ((k : Int) - 15) = (p15 : Int) := by rw [IntWalk.i64_in _ (by omega)]; omega
        have e16 : IntKind.i64.wrap ((k : Int) - 16) = (p16 : Int) := by rw [IntWalk.i64_in _ (by omega)]; omega
        have i7 : (p7 : Int) < 64 := by omega
        have i16 : (p16 : Int) < 64 := by omega
        have w7 : IntKind.i64.wrap (p7 : Int) = (p7 : Int) := IntWalk.i64_in _ (by omega)
        have w16 : IntKind.i64.wrap (p16 : Int) = (p16 : Int) := IntWalk.i64_in _ (by omega)
        have f7 : (k : Int) - 7 = (p7 : Int) := by omega
        have f16 : (k : Int) - 16 = (p16 : Int) := by omega
        have b2 : p2 < 64 := by omega
        have b7 : p7 < 64 := by omega
        have b15 : p15 < 64 := by omega
        have b16 : p16 < 64 := by omega
        have g : ∀ q, q < k → wds (at_ l) k q = sched (at_ l) q := fun q hq => by unfold wds; rw [if_pos hq]
        have c2 : wr.cell? ⟨w.heap.size + 1 + 1, p2, none⟩ = some (.int .u32 (u (sched (at_ l) p2))) := by rw [← g p2 (by omega)]; exact cell_vals hW (by omega)
        have c7 : wr.cell? ⟨w.heap.size + 1 + 1, p7, none⟩ = some (.int .u32 (u (sched (at_ l) p7))) := by rw [← g p7 (by omega)]; exact cell_vals hW (by omega)
        have c15 : wr.cell? ⟨w.heap.size + 1 + 1, p15, none⟩ = some (.int .u32 (u (sched (at_ l) p15))) := by rw [← g p15 (by omega)]; exact cell_vals hW (by omega)
        have c16 : wr.cell? ⟨w.heap.size + 1 + 1, p16, none⟩ = some (.int .u32 (u (sched (at_ l) p16))) := by rw [← g p16 (by omega)]; exact cell_vals hW (by omega)
        have cw : wr.cell? ⟨w.heap.size + 1 + 1, k, none⟩ = some (.int .u32 (u (wds (at_ l) k k))) := cell_vals hW (by omega)
        have fw : wr.frozen? ⟨w.heap.size + 1 + 1, k, none⟩ = false := frozen_of_row _ _ _ _ _ hW
        have HW := Lib.hid hW
        have HR := Lib.hid hR
        have HO := Lib.hid hO
        clear hW hR hO g hp2 hp7 hp15 hp16
        go_wp2
        go_quiet (fail)
        go_wp2_with (go_at_call 55; refine (rotI _ _ (by decide) _).mono ?_; rintro e w' ⟨rfl, rfl⟩)
        have HSg : Hid (sched (at_ l) p16 + (rotr (sched (at_ l) p15) 7 ^^^ rotr (sched (at_ l) p15) 18 ^^^ sched (at_ l) p15 >>> 3) + sched (at_ l) p7 + (rotr (sched (at_ l) p2) 17 ^^^ rotr (sched (at_ l) p2) 19 ^^^ sched (at_ l) p2 >>> 10) = sched (at_ l) k) := HV.out.symm
        obtain ⟨wq, hq⟩ : ∃ wq, wq = wr.drewN nq := ⟨_, rfl⟩
        rw [← hq]
        have q7 : wq.cell? ⟨w.heap.size + 1 + 1, p7, none⟩ = some (.int .u32 (u (sched (at_ l) p7))) := by rw [hq]; exact c7
        have q16 : wq.cell? ⟨w.heap.size + 1 + 1, p16, none⟩ = some (.int .u32 (u (sched (at_ l) p16))) := by rw [hq]; exact c16
        have qw : wq.cell? ⟨w.heap.size + 1 + 1, k, none⟩ = some (.int .u32 (u (wds (at_ l) k k))) := by rw [hq]; exact cw
        have qf : wq.frozen? ⟨w.heap.size + 1 + 1, k, none⟩ = false := by rw [hq]; exact fw
        have HR2 : Hid (wq.heap[w.heap.size]? = some (.cells (U32 8 r) 76 (0, 0))) := by rw [hq]; exact HR.out
        have HO2 : Hid (wq.heap[w.heap.size + 1]? = some (.cells (vals .u32 8 fun _ => 0) 76 (0, 0))) := by rw [hq]; exact HO.out
        have HW2 : Hid (wq.heap[w.heap.size + 2]? = some (.cells (U32 64 (wds (at_ l) k)) 89 (0, 0))) := by rw [hq]; exact HW.out
        have hbq : Below w.heap.size w wq := by rw [hq]; exact ⟨hbl.os, hbl.tape, hbl.output, hbl.size, hbl.block⟩
        have hsq : w.heap.size + 3 ≤ wq.heap.size := by rw [hq]; exact hsz
        clear c2 c7 c15 c16 cw fw HR HO HW hbl hsz hq
        go_still_tail 15, (by kernel_rfl)
        change wpList _ _ _ _ _ wq.drew
        go_wp2
        try simp only [u_add']
        rw [HSg.out]
        refine ⟨⟨k + 1, by omega, by go_num, ?_, ?_, ?_, ?_, ?_⟩, by simp [intOf]; omega⟩
        · rw [heap_drew, heap_set_other _ _ _ _ _ (by omega)]; exact HR2.out
        · rw [heap_drew, heap_set_other _ _ _ _ _ (by omega)]; exact HO2.out
        · rw [heap_drew, show w.heap.size + 1 + 1 = w.heap.size + 2 by omega]
          rw [heap_set_vals _ HW2.out (by omega)]
          exact congrArg (fun x => some (Obj.cells x 89 (0, 0))) (wds_step _ _)
        · exact (hbq.setCell (by show w.heap.size ≤ w.heap.size + 1 + 1; omega) _).drew
        · simp; exact hsq
    · obtain rfl : k = 64 := by omega
      have HW : wr.heap[w.heap.size + 1 + 1]? = some (.cells (U32 64 (sched (at_ l))) 89 (0, 0)) := by
        rw [hW]; exact congrArg (fun x => some (Obj.cells x 89 (0, 0))) (U32_congr fun j hj => by unfold wds; rw [if_pos hj])
      have cr : ∀ j, j < 8 → wr.cell? ⟨w.heap.size, j, none⟩ = some (.int .u32 (u (r j))) := fun j hj => cell_vals hR hj
      have r0 := cr 0 (by decide)
      have r1 := cr 1 (by decide)
      have r2 := cr 2 (by decide)
      have r3 := cr 3 (by decide)
      have r4 := cr 4 (by decide)
      have r5 := cr 5 (by decide)
      have r6 := cr 6 (by decide)
      have r7 := cr 7 (by decide)
      have HR := Lib.hid hR
      have HO := Lib.hid hO
      clear hW hR hO cr
      go_wp2
      go_quiet (fail)
      go_wp2_with (refine wpList_load_row rfl 89 _ rfl (w.heap.size + 1 + 1) rfl 89 _ (0, 0) _ HW Tryd.underlying89 rfl (sz89.trans (by simp [U32])) ?_)
      obtain ⟨wo, ho⟩ : ∃ wo, wo = wr.drewN nq := ⟨_, rfl⟩
      rw [← ho]
      have HR2 : Hid (wo.heap[w.heap.size]? = some (.cells (U32 8 r) 76 (0, 0))) := by rw [ho]; exact HR.out
      have HO2 : Hid (wo.heap[w.heap.size + 1]? = some (.cells (vals .u32 8 fun _ => 0) 76 (0, 0))) := by rw [ho]; exact HO.out
      have hbo : Below w.heap.size w wo := by rw [ho]; exact below_drewN hbl nq
      have hso : w.heap.size + 3 ≤ wo.heap.size := by rw [ho]; exact hsz
      have HK2 : Hid (wo.heap[1]? = some (.cells (U32 64 K) tk (0, 0))) := (hbo.block 1 h1).trans HK.out
      clear ho HW r0 r1 r2 r3 r4 r5 r6 r7 HR HO hbl hsz hk hlt
      go_wp2
      go_loopw [9, 10, 11, 12, 13, 14, 15, 16, 120] (fun a b c d e f g h i wr => ∃ k : Nat, k ≤ 64 ∧ i = .int .i64 k ∧ a = .int .u32 (u (st r (sched (at_ l)) k 0)) ∧ b = .int .u32 (u (st r (sched (at_ l)) k 1)) ∧ c = .int .u32 (u (st r (sched (at_ l)) k 2)) ∧ d = .int .u32 (u (st r (sched (at_ l)) k 3)) ∧ e = .int .u32 (u (st r (sched (at_ l)) k 4)) ∧ f = .int .u32 (u (st r (sched (at_ l)) k 5)) ∧ g = .int .u32 (u (st r (sched (at_ l)) k 6)) ∧ h = .int .u32 (u (st r (sched (at_ l)) k 7)) ∧ ∃ m, wr = wo.drewN m) (fun _ _ _ _ _ _ _ _ i _ => 64 - (intOf i).toNat)
      case atStart => exact ⟨0, by omega, rfl, rfl, rfl, rfl, rfl, rfl, rfl, rfl, rfl, 0, rfl⟩
      case round =>
        obtain ⟨k, hk, rfl, rfl, rfl, rfl, rfl, rfl, rfl, rfl, rfl, m, hm⟩ := hrel
        by_cases hlt : k < 64
        · have cK : wr.cell? ⟨1, k, none⟩ = some (.int .u32 (u (K k))) := by rw [hm]; exact cell_vals (w := wo) HK2.out hlt
          have ix : ∀ w, (Instr.index 89 (.agg (U32 64 (sched (at_ l)))) (.int .i64 (k : Int))).run Tryd.prog w = .ok (.int .u32 (u (sched (at_ l) k))) w :=
            fun w => run_index_arr (n := 64) (q := .u32) Tryd.underlying89 Tryd.underlying75 (by kernel_rfl) _ _ _ _ (by omega) (by omega) (by rw [Int.toNat_natCast]; exact U32_get _ hlt) w
          have kk : (k : Int) < 64 := by omega
          have H1 := Lib.hid (t1_other (st r (sched (at_ l)) k) (K k) (sched (at_ l) k))
          have H2 := Lib.hid (t2_other (st r (sched (at_ l)) k))
          have HM := Lib.hid hm
          clear hm
          go_wp2
          go_quiet (exact quiet_left (rotI _ _ (by decide) _))
          go_wp2_with (go_at_call 55; refine (rotI _ _ (by decide) _).mono ?_; rintro e w' ⟨rfl, rfl⟩)
          go_roundw
          case measure => simp [intOf]; omega
          case rel =>
            exact ⟨k + 1, by omega, by go_num, congrArg (fun z => Value.int .u32 (u z)) (by rw [H1.out, H2.out]; rfl), rfl, rfl, rfl, congrArg (fun z => Value.int .u32 (u z)) (by rw [H1.out]; rfl), rfl, rfl, rfl, m + nq, by rw [HM.out, World.drewN_drewN]⟩
        · obtain rfl : k = 64 := by omega
          obtain ⟨wp, hp⟩ : ∃ wp, wp = wr := ⟨_, rfl⟩
          rw [← hp]
          have HP : wp.heap = wo.heap := by rw [hp, hm]; rfl
          have HR3 : Hid (wp.heap[w.heap.size]? = some (.cells (U32 8 r) 76 (0, 0))) := by rw [HP]; exact HR2.out
          have HO3 : Hid (wp.heap[w.heap.size + 1]? = some (.cells (vals .u32 8 fun _ => 0) 76 (0, 0))) := by rw [HP]; exact HO2.out
          have hbp : Below w.heap.size w wp := by rw [hp, hm]; exact below_drewN hbo m
          have hsp : w.heap.size + 3 ≤ wp.heap.size := by rw [HP]; exact hso
          clear HP hp hm HR2 HO2 HK2 hbo hso hk hlt
          clear wr
          go_wp2
          go_loopw [188] (fun i wr => ∃ k : Nat, k ≤ 8 ∧ i = .int .i64 k ∧ wr.heap[w.heap.size]? = some (.cells (U32 8 fun j => if j < k then block r (at_ l) j else r j) 76 (0, 0)) ∧ wr.heap[w.heap.size + 1]? = some (.cells (vals .u32 8 fun _ => 0) 76 (0, 0)) ∧ Below w.heap.size w wr) (fun i _ => 8 - (intOf i).toNat)
          case atStart => exact ⟨0, by omega, rfl, HR3.out.trans (congrArg (fun x => some (Obj.cells x 76 (0, 0))) (U32_congr fun j _ => by simp)), HO3.out, hbp⟩
          case round =>
            clear HR3 HO3 hbp hsp
            obtain ⟨k, hk, rfl, hR, hO, hbl⟩ := hrel
            by_cases hlt : k < 8
            · have ix : ∀ w, (Instr.index 76 (.agg #[.int .u32 (u (st r (sched (at_ l)) 64 0)), .int .u32 (u (st r (sched (at_ l)) 64 1)), .int .u32 (u (st r (sched (at_ l)) 64 2)), .int .u32 (u (st r (sched (at_ l)) 64 3)), .int .u32 (u (st r (sched (at_ l)) 64 4)), .int .u32 (u (st r (sched (at_ l)) 64 5)), .int .u32 (u (st r (sched (at_ l)) 64 6)), .int .u32 (u (st r (sched (at_ l)) 64 7))]) (.int .i64 (k : Int))).run Tryd.prog w = .ok (.int .u32 (u (st r (sched (at_ l)) 64 k))) w :=
                fun w => run_index_arr (n := 8) (q := .u32) Tryd.underlying76 Tryd.underlying75 (by kernel_rfl) _ _ _ _ (by omega) (by omega) (by rw [Int.toNat_natCast]; exact U32_get (st r (sched (at_ l)) 64) hlt) w
              have kk : (k : Int) < 8 := by omega
              have cr : wr.cell? ⟨w.heap.size, k, none⟩ = some (.int .u32 (u (r k))) := (cell_vals hR hlt).trans (congrArg (fun z => some (Value.int .u32 (u z))) (if_neg (Nat.lt_irrefl k)))
              have fr : wr.frozen? ⟨w.heap.size, k, none⟩ = false := frozen_of_row _ _ _ _ _ hR
              have HR := Lib.hid hR
              have HO := Lib.hid hO
              clear hR hO
              go_wp2
              go_roundw
              case measure => simp [intOf]; omega
              case rel =>
                refine ⟨k + 1, by omega, by go_num, ?_, ?_, hbl.setCell (by show w.heap.size ≤ w.heap.size; omega) _⟩
                · rw [heap_set_vals _ HR.out (by omega)]
                  exact congrArg (fun x => some (Obj.cells x 76 (0, 0))) (sum_step _ _ _ _)
                · rw [heap_set_other _ _ _ _ _ (by omega)]; exact HO.out
            · obtain rfl : k = 8 := by omega
              have HR : wr.heap[w.heap.size]? = some (.cells (U32 8 (block r (at_ l))) 76 (0, 0)) :=
                hR.trans (congrArg (fun x => some (Obj.cells x 76 (0, 0))) (U32_congr fun j hj => if_pos hj))
              clear hR
              go_wp2_with (first | (refine wpList_load_row rfl 76 _ rfl w.heap.size rfl 76 _ (0, 0) _ HR Tryd.underlying76 rfl (sz76.trans (by simp [U32])) ?_) | (refine wpList_store_row rfl 76 _ _ rfl (w.heap.size + 1) _ rfl rfl 76 _ hO (sz76.trans (by simp [U32])) (by simp [U32]) (vals_one _ _ _) ?_))
              refine bodyPost_ret (results_cell_row rfl _ _ _ 76 (U32 8 (block r (at_ l))) (0, 0) _ rfl (setRow_heap _ _ _ _ _ _ hO) Tryd.underlying76 rfl (sz76.trans (by simp [U32]))) rfl ⟨rfl, below_setRow hbl (by omega) _⟩
end Go.Proofs.YtmifegjmmlipbaaDoor
