/-
  The sending end: was a piece sent so (f40), Lost (f20), Came (f28), Done (f19); and the walk of a region that only reads.
-/
import Derived.Test.YtjnekjjaofabeaaJb
import Derived.Deep.MidRow
import Derived.Test.YtjnekjjaofabeaaOn
import Derived.BigQuiet
import Derived.Deep.DeepCutAuto
namespace Go.Rh
open Go.RowKit
section
variable {P : Program} {ops : Array Oper} {C : World → Prop} {Q : Act → Prop} {a : Act} {o : Oper} {rest : List Oper}
/-- Steps whose guard says yes. -/
theorem wg_run {v : Value} (hg : Region.wanted o (yielded ops a.tmps) = true) (hr : ∀ w, C w → (execOp a.eval o).run P w = .ok (.value v) w) (h : wpQuiet P ops C Q rest (a.put o.dst v)) : wpQuiet P ops C Q (o :: rest) a :=
  BigFrame.wpQuiet_want hg fun K hK => ⟨v, fun w hw => by unfold Oper.quietAt; rw [hr w hw]; exact ⟨rfl, rfl⟩, hK _ h⟩
theorem wg_load {v : Value} (hg : Region.wanted o (yielded ops a.tmps) = true) (ty : TypeId) (x : Operand) (ho : o.op = .load ty x) (p : Value) (hx : a.eval x = p) (hr : ∀ w, C w → (Instr.loadAt ty p).run P w = .ok v w) (h : wpQuiet P ops C Q rest (a.put o.dst v)) : wpQuiet P ops C Q (o :: rest) a :=
  wg_run hg (fun w hw => by unfold execOp; simp only [ho, hx, Sem.run_bind, Sem.run_pure, hr w hw, Result.andThen_ok]) h
theorem wg_convert {u v : Value} (hg : Region.wanted o (yielded ops a.tmps) = true) (s d : TypeId) (x : Operand) (ho : o.op = .convert s d x) (hx : a.eval x = u) (hr : ∀ w, C w → (convert s d u).run P w = .ok v w) (h : wpQuiet P ops C Q rest (a.put o.dst v)) : wpQuiet P ops C Q (o :: rest) a :=
  wg_run hg (fun w hw => by unfold execOp; simp only [ho, hx, Sem.run_bind, Sem.run_pure, hr w hw, Result.andThen_ok]) h
theorem wg_call {f : Nat} {fn : Func} {c : Code} {args : Array Operand} {tys : Array TypeId} {vs : Array Value} {v : Value} (hg : Region.wanted o (yielded ops a.tmps) = true) (ho : o.op = .call ⟨.value (.func f), args, tys⟩) (hv : args.map a.eval = vs) (hf : P.funcs[f]? = some fn) (hn : (fn.name == "runtime.NumGoroutine") = false) (hb : fn.body = some c)
    (hr : ∀ w, C w → Calls P f vs w fun e w' => e = .returned v ∧ C w') (h : wpQuiet P ops C Q rest (a.put o.dst v)) : wpQuiet P ops C Q (o :: rest) a := by
  refine BigFrame.wpQuiet_want hg fun K hK => ⟨v, fun w hw => ?_, hK _ h⟩
  have hrun : (execOp a.eval o).run P w = .ok (.enter f vs) w := by
    unfold execOp
    simp only [ho, resolve, hv, Deferred.ofValue, Act.eval, invoke, callFunc, Sem.run_bind, Sem.run_pure, Result.andThen_ok]
    have hn' : ¬ fn.name = "runtime.NumGoroutine" := by simpa using hn
    simp [hf, hn', hb]
  unfold Oper.quietAt
  rw [hrun]
  exact ⟨rfl, hr w hw⟩
/-- A region that draws its order and only reads, calls that make new memory among it, guards decided. -/
theorem region_quiet_grown {Q : Exit → Act → World → Prop} {id : Nat} {w0 : World} {a0 : Act} {l : List Oper} (hm : P.follows .mixedOrders = true) (hB : Region.lexB .any l.toArray = true)
    (h : wpQuiet P l.toArray (fun w' => w0.grownBy w' none) (fun a => ∀ w, w0.grownBy w none → Q .normal a w) l a0) : (Code.region id l.toArray true).wp P Q a0 w0 :=
  wp_region_quiet (C := fun w' => w0.grownBy w' none) hm hB ⟨rfl, rfl, rfl, Nat.le_refl _, fun _ _ _ => rfl⟩ (by simpa using h)
end
end Go.Rh
namespace Go.Proofs.Ytjnekjjaofabeaa
open Go.RowKit Go.Rh Rng
attribute [local go_sem] Oper.semAt_some

def sentB (s : Snd) (off : Int) (d : List UInt8) (fin : Bool) : Bool :=
  decide (0 ≤ off ∧ off ≤ s.top ∧ (d.length : Int) ≤ s.top - off ∧ (s.b.drop off.toNat).take d.length = d ∧ (fin = true → s.endSent = true ∧ off + (d.length : Int) = (s.b.length : Int)))
theorem keep_grown {w w' : World} (k : Keep w w' (fun _ => False)) : w.grownBy w' none := ⟨k.os, k.tape, k.output, k.size, fun i hi _ => k.block i hi id⟩
theorem grown_keep {w w' : World} (k : w.grownBy w' none) : Keep w w' (fun _ => False) := Keep.of_grown k (fun _ _ e => by cases e)
theorem sent_nil (w : World) (off : Int) (d : ByteArray) (fin : Bool) : Calls Try.prog 40 #[.pointer none, .agg #[.int .i64 off, .string d, .bool fin]] w fun e w' => e = .returned (.bool false) ∧ Keep w w' (fun _ => False) := by
  go_enter Try.func40, Try.ntmps40
  go_upto_region 1 with fail
  go_quiet (fail)
  go_wp2_with fail
  go_ret
  exact ⟨rfl, ((Keep.refl w _).alloc _).drewN _⟩
set_option maxHeartbeats 1000000 in
set_option maxRecDepth 100000 in
theorem sent_any {F : Nat → Prop} {w : World} {S : Nat} {s : Snd} (h : SndAt F w S s) (hb : s.b.length ≤ 199998) (ht : 0 ≤ s.top ∧ s.top ≤ (s.b.length : Int)) (off : Int) (d : List UInt8) (fin : Bool) :
    Calls Try.prog 40 #[.pointer (some ⟨S, 0, none⟩), .agg #[.int .i64 off, .string (S8 d), .bool fin]] w fun e w' =>
      e = .returned (.bool (sentB s off d fin)) ∧ Keep w w' (fun _ => False) := by
  obtain ⟨c3, c4, c5, c6, c7, c8, -⟩ := h.cells
  obtain ⟨vb, c0, hob, -, -⟩ := h.bytes
  obtain ⟨B, q, cb, hq, rfl⟩ := hob.form
  have hlt := h.lt
  obtain ⟨x, hx⟩ : ∃ x, x = w.heap.size := ⟨_, rfl⟩
  obtain ⟨wx, hwx⟩ : ∃ wx, wx = w.alloc (.cells #[.int .i64 off, .string (S8 d), .bool fin] 34) := ⟨_, rfl⟩
  have kx : Keep w wx (fun _ => False) := by rw [hwx]; exact (Keep.refl w _).alloc _
  have m1 : wx.heap[x]? = some (.cells #[.int .i64 off, .string (S8 d), .bool fin] 34 (0, 0)) := by rw [hwx, hx]; exact heap_alloc_new _ _
  have eS := kx.block S hlt id
  have e0 : wx.cell? ⟨S, 0, none⟩ = some (.slice B q cb) := (World.cell?_of_block eS).trans c0
  have e4 : wx.cell? ⟨S, 4, none⟩ = some (.int .i64 s.top) := (World.cell?_of_block eS).trans c4
  have e7 : wx.cell? ⟨S, 7, none⟩ = some (.bool s.endSent) := (World.cell?_of_block eS).trans c7
  have x0 : wx.cell? ⟨x, 0, none⟩ = some (.int .i64 off) := by rw [cell_of_row wx x 0 _ _ _ m1]; rfl
  have x1 : wx.cell? ⟨x, 1, none⟩ = some (.string (S8 d)) := by rw [cell_of_row wx x 1 _ _ _ m1]; rfl
  have x2 : wx.cell? ⟨x, 2, none⟩ = some (.bool fin) := by rw [cell_of_row wx x 2 _ _ _ m1]; rfl
  have hsz : (S8 d).size = d.length := S8_size d
  obtain ⟨tp, htp⟩ : ∃ tp, tp = s.top := ⟨_, rfl⟩
  rw [← htp] at e4 ht
  have hbx := hob.bs.keep kx (fun _ _ => id)
  have HTP := Lib.hid htp
  have HM1 := Lib.hid m1
  have HKX := Lib.hid kx
  have HQ := Lib.hid hq
  have HBX := Lib.hid hbx
  clear h hob hq kx m1 eS hlt htp hbx c0 c3 c4 c5 c6 c7 c8
  have hno : (0 ≤ off ∧ off ≤ tp ∧ (d.length : Int) ≤ tp - off → ¬ (s.b.drop off.toNat).take d.length = d) → sentB s off d fin = false := by
    intro hh
    unfold sentB
    rw [decide_eq_false_iff_not]
    rintro ⟨g1, g2, g3, g4, g5⟩
    rw [← HTP.out] at g2 g3
    exact hh ⟨g1, g2, g3⟩ g4
  by_cases h1 : off < 0
  · have hr := Lib.hid (hno (fun e => by omega))
    clear hno
    go_enter Try.func40, Try.ntmps40
    go_upto_region 1 with fail
    rw [← hwx, ← hx]
    clear hwx hx
    go_quiet (fail)
    go_wp2_with fail
    go_ret
    exact ⟨by rw [hr.out]; rfl, HKX.out.drewN _⟩
  by_cases h2 : tp < off
  · have hr := Lib.hid (hno (fun e => by omega))
    clear hno
    go_enter Try.func40, Try.ntmps40
    go_upto_region 1 with fail
    rw [← hwx, ← hx]
    clear hwx hx
    go_quiet (fail)
    go_wp2_with fail
    go_ret
    exact ⟨by rw [hr.out]; rfl, HKX.out.drewN _⟩
  have hw1 : IntKind.i64.wrap (tp - off) = tp - off := by rw [IntKind.wrap_i64]; omega
  by_cases h3 : tp - off < (d.length : Int)
  · have hr := Lib.hid (hno (fun e => by omega))
    clear hno
    go_enter Try.func40, Try.ntmps40
    go_upto_region 1 with fail
    rw [← hwx, ← hx]
    clear hwx hx
    go_quiet (fail)
    go_wp2_with fail
    go_ret
    exact ⟨by rw [hr.out]; rfl, HKX.out.drewN _⟩
  obtain ⟨i0, hi, hz, hsz1, hby⟩ := info_parts info5
  obtain ⟨g, hg⟩ : ∃ g, g = (s.b.drop off.toNat).take d.length := ⟨_, rfl⟩
  have hq := HQ.out
  have ho0 : (off.toNat : Int) = off := Int.toNat_of_nonneg (by omega)
  obtain ⟨v2, hsl, hbs⟩ := run_part (P := Try.prog) 44 i0 Try.underlying44 hi hsz1 HBX.out off.toNat (off.toNat + d.length) (by omega) (by omega)
  rw [show ((off.toNat + d.length : Nat) : Int) = off + (d.length : Int) by omega, ho0] at hsl
  rw [show off.toNat + d.length - off.toNat = d.length by omega, ← hg] at hbs
  obtain ⟨A2, n2, c2, hn2⟩ : ∃ A2 n2 c2, v2 = .slice A2 n2 c2 := by obtain ⟨A2, n2, c2, e, _⟩ := hbs; exact ⟨A2, n2, c2, e⟩
  subst hn2
  obtain ⟨ne, hne⟩ : ∃ ne, ne = !((S8 g).toList == (S8 d).toList) := ⟨_, rfl⟩
  have HBS := Lib.hid hbs
  have HG := Lib.hid hg
  have HNE2 := Lib.hid hne
  clear hne
  have HNO := Lib.hid hno
  clear hbs hg hi hz hsz1 hby hno hq ho0
  go_enter Try.func40, Try.ntmps40
  go_upto_region 1 with fail
  rw [← hwx, ← hx]
  clear hwx hx
  refine region_quiet_grown (by kernel_rfl) (by kernel_rfl) ?_
  show wpQuiet _ _ _ _ _ ⟨_, _⟩
  refine wg_run (v := .pointer (some ⟨S, 0, none⟩)) (by rfl) (fun w' _ => by unfold execOp; simp only [Act.eval]; go_simp) ?_
  go_simp
  refine wg_run (v := .bool false) (by rfl) (fun w' _ => by unfold execOp; simp only [Act.eval]; go_simp) ?_
  go_simp
  refine wg_run (v := .bool false) (by rfl) (fun w' _ => by unfold execOp; simp only [Act.eval]; go_simp) ?_
  go_simp
  refine wg_run (v := .pointer (some ⟨x, 0, none⟩)) (by rfl) (fun w' _ => by unfold execOp; simp only [Act.eval]; go_simp) ?_
  go_simp
  refine wg_load (v := .int .i64 off) (by rfl) 3 (.tmp 8) (by rfl) (.pointer (some ⟨x, 0, none⟩)) (by rfl) (fun w' hw' => by have hc := (World.cell?_of_block (hw'.block _ (cell_block x0) (by simp))).trans x0; go_simp) ?_
  go_simp
  refine wg_run (v := .bool false) (by rfl) (fun w' _ => by unfold execOp; simp only [Act.eval]; go_simp) ?_
  go_simp
  refine wg_run (v := .bool false) (by rfl) (fun w' _ => by unfold execOp; simp only [Act.eval]; go_simp) ?_
  go_simp
  refine wg_run (v := .bool false) (by rfl) (fun w' _ => by unfold execOp; simp only [Act.eval]; go_simp) ?_
  go_simp
  refine wg_run (v := .pointer (some ⟨x, 0, none⟩)) (by rfl) (fun w' _ => by unfold execOp; simp only [Act.eval]; go_simp) ?_
  go_simp
  refine wg_load (v := .int .i64 off) (by rfl) 3 (.tmp 13) (by rfl) (.pointer (some ⟨x, 0, none⟩)) (by rfl) (fun w' hw' => by have hc := (World.cell?_of_block (hw'.block _ (cell_block x0) (by simp))).trans x0; go_simp) ?_
  go_simp
  refine wg_run (v := .pointer (some ⟨S, 0, none⟩)) (by rfl) (fun w' _ => by unfold execOp; simp only [Act.eval]; go_simp) ?_
  go_simp
  refine wg_run (v := .pointer (some ⟨S, 0, none⟩)) (by rfl) (fun w' _ => by unfold execOp; simp only [Act.eval]; go_simp) ?_
  go_simp
  refine wg_run (v := .pointer (some ⟨S, 4, none⟩)) (by rfl) (fun w' _ => by unfold execOp; simp only [Act.eval]; go_simp) ?_
  go_simp
  refine wg_load (v := .int .i64 tp) (by rfl) 3 (.tmp 17) (by rfl) (.pointer (some ⟨S, 4, none⟩)) (by rfl) (fun w' hw' => by have hc := (World.cell?_of_block (hw'.block _ (cell_block e4) (by simp))).trans e4; go_simp) ?_
  go_simp
  refine wg_run (v := .bool false) (by rfl) (fun w' _ => by unfold execOp; simp only [Act.eval]; go_simp) ?_
  go_simp
  refine wg_run (v := .bool false) (by rfl) (fun w' _ => by unfold execOp; simp only [Act.eval]; go_simp) ?_
  go_simp
  refine wg_run (v := .bool false) (by rfl) (fun w' _ => by unfold execOp; simp only [Act.eval]; go_simp) ?_
  go_simp
  refine wg_run (v := .pointer (some ⟨x, 1, none⟩)) (by rfl) (fun w' _ => by unfold execOp; simp only [Act.eval]; go_simp) ?_
  go_simp
  refine wg_load (v := .string (S8 d)) (by rfl) 9 (.tmp 22) (by rfl) (.pointer (some ⟨x, 1, none⟩)) (by rfl) (fun w' hw' => by have hc := (World.cell?_of_block (hw'.block _ (cell_block x1) (by simp))).trans x1; go_simp) ?_
  go_simp
  refine wg_run (v := .int .i64 (d.length : Int)) (by rfl) (fun w' _ => by unfold execOp; simp only [Act.eval]; go_simp) ?_
  go_simp
  refine wg_run (v := .pointer (some ⟨S, 0, none⟩)) (by rfl) (fun w' _ => by unfold execOp; simp only [Act.eval]; go_simp) ?_
  go_simp
  refine wg_run (v := .pointer (some ⟨S, 0, none⟩)) (by rfl) (fun w' _ => by unfold execOp; simp only [Act.eval]; go_simp) ?_
  go_simp
  refine wg_run (v := .pointer (some ⟨S, 4, none⟩)) (by rfl) (fun w' _ => by unfold execOp; simp only [Act.eval]; go_simp) ?_
  go_simp
  refine wg_load (v := .int .i64 tp) (by rfl) 3 (.tmp 27) (by rfl) (.pointer (some ⟨S, 4, none⟩)) (by rfl) (fun w' hw' => by have hc := (World.cell?_of_block (hw'.block _ (cell_block e4) (by simp))).trans e4; go_simp) ?_
  go_simp
  refine wg_run (v := .pointer (some ⟨x, 0, none⟩)) (by rfl) (fun w' _ => by unfold execOp; simp only [Act.eval]; go_simp) ?_
  go_simp
  refine wg_load (v := .int .i64 off) (by rfl) 3 (.tmp 29) (by rfl) (.pointer (some ⟨x, 0, none⟩)) (by rfl) (fun w' hw' => by have hc := (World.cell?_of_block (hw'.block _ (cell_block x0) (by simp))).trans x0; go_simp) ?_
  go_simp
  refine wg_run (v := .int .i64 (tp - off)) (by rfl) (fun w' _ => by unfold execOp; simp only [Act.eval]; go_simp) ?_
  go_simp
  refine wg_run (v := .bool false) (by rfl) (fun w' _ => by unfold execOp; simp only [Act.eval]; go_simp) ?_
  go_simp
  refine wg_run (v := .bool false) (by rfl) (fun w' _ => by unfold execOp; simp only [Act.eval]; go_simp) ?_
  go_simp
  refine wg_run (v := .bool false) (by rfl) (fun w' _ => by unfold execOp; simp only [Act.eval]; go_simp) ?_
  go_simp
  refine wg_run (v := .pointer (some ⟨S, 0, none⟩)) (by rfl) (fun w' _ => by unfold execOp; simp only [Act.eval]; go_simp) ?_
  go_simp
  refine wg_run (v := .pointer (some ⟨S, 0, none⟩)) (by rfl) (fun w' _ => by unfold execOp; simp only [Act.eval]; go_simp) ?_
  go_simp
  refine wg_run (v := .pointer (some ⟨S, 0, none⟩)) (by rfl) (fun w' _ => by unfold execOp; simp only [Act.eval]; go_simp) ?_
  go_simp
  refine wg_load (v := .slice B q cb) (by rfl) 44 (.tmp 37) (by rfl) (.pointer (some ⟨S, 0, none⟩)) (by rfl) (fun w' hw' => by have hc := (World.cell?_of_block (hw'.block _ (cell_block e0) (by simp))).trans e0; go_simp) ?_
  go_simp
  refine wg_run (v := .pointer (some ⟨x, 0, none⟩)) (by rfl) (fun w' _ => by unfold execOp; simp only [Act.eval]; go_simp) ?_
  go_simp
  refine wg_load (v := .int .i64 off) (by rfl) 3 (.tmp 39) (by rfl) (.pointer (some ⟨x, 0, none⟩)) (by rfl) (fun w' hw' => by have hc := (World.cell?_of_block (hw'.block _ (cell_block x0) (by simp))).trans x0; go_simp) ?_
  go_simp
  refine wg_load (by rfl) 34 (.tmp 3) (by rfl) (.pointer (some ⟨x, 0, none⟩)) (by rfl) (fun w' hw' => run_load34 ((hw'.block _ (heap_lt HM1.out) (by simp)).trans HM1.out)) ?_
  go_simp
  refine wg_call (vs := #[.agg #[.int .i64 off, .string (S8 d), .bool fin]]) (by rfl) (by rfl) (by simp [Act.eval]) Try.func33 (by kernel_rfl) (by rfl) (v := .int .i64 (off + (d.length : Int))) (fun w' hw' => ?_) ?_
  · refine (end_any _ off (S8 d) fin (by omega) (by omega) (by omega)).mono ?_
    rintro e w'' ⟨rfl, rfl⟩
    exact ⟨by rw [hsz], grown_trans hw' (World.grownBy_alloc _ _ none)⟩
  go_simp
  refine wg_run (v := .slice A2 n2 c2) (by rfl) (fun w' _ => by unfold execOp; simp only [Act.eval]; go_simp) ?_
  go_simp
  refine wg_convert (v := .string (S8 g)) (by rfl) 44 9 (.tmp 43) (by rfl) (by rfl) (fun w' hw' => run_string_bs Try.underlying44 Try.underlying5 Try.underlying9 (HBS.out.keep (grown_keep hw') (fun _ _ => id))) ?_
  go_simp
  refine wg_run (v := .pointer (some ⟨x, 1, none⟩)) (by rfl) (fun w' _ => by unfold execOp; simp only [Act.eval]; go_simp) ?_
  go_simp
  refine wg_load (v := .string (S8 d)) (by rfl) 9 (.tmp 45) (by rfl) (.pointer (some ⟨x, 1, none⟩)) (by rfl) (fun w' hw' => by have hc := (World.cell?_of_block (hw'.block _ (cell_block x1) (by simp))).trans x1; go_simp) ?_
  go_simp
  refine wg_run (v := .bool ne) (by rfl) (fun w' _ => by unfold execOp; simp only [Act.eval]; go_simp; rw [HNE2.out]; simp) ?_
  go_simp
  refine wg_run (v := .bool ne) (by rfl) (fun w' _ => by unfold execOp; simp only [Act.eval]; go_simp) ?_
  go_simp
  intro w3 hg3
  have k3 := grown_keep hg3
  have bS := k3.block S (cell_block e0) id
  have bx := k3.block x (cell_block x0) id
  have f0 : w3.cell? ⟨S, 0, none⟩ = some (.slice B q cb) := (World.cell?_of_block bS).trans e0
  have f7 : w3.cell? ⟨S, 7, none⟩ = some (.bool s.endSent) := (World.cell?_of_block bS).trans e7
  have y0 : w3.cell? ⟨x, 0, none⟩ = some (.int .i64 off) := (World.cell?_of_block bx).trans x0
  have y1 : w3.cell? ⟨x, 1, none⟩ = some (.string (S8 d)) := (World.cell?_of_block bx).trans x1
  have y2 : w3.cell? ⟨x, 2, none⟩ = some (.bool fin) := (World.cell?_of_block bx).trans x2
  have HK3 : Hid (Keep w w3 (fun _ => False)) := HKX.out.trans k3 (fun _ _ e => e)
  clear hg3 k3 bS bx e0 e4 e7 x0 x1 x2
  cases ne with
  | true =>
    have hr : sentB s off d fin = false := by
      refine HNO.out fun _ e => ?_
      have h := HNE2.out
      rw [HG.out, e] at h
      simp at h
    have HR := Lib.hid hr
    clear hr
    go_wp2_with fail
    go_ret
    exact ⟨by rw [HR.out]; rfl, HK3.out⟩
  | false =>
    have hgd : g = d := by
      have h := HNE2.out
      simp at h
      rw [ByteArray.toList_eq, ByteArray.toList_eq] at h
      simpa [S8] using h
    have hyes : ∀ r, (r = true ↔ (fin = true → s.endSent = true ∧ off + (d.length : Int) = (s.b.length : Int))) → sentB s off d fin = r := by
      intro r hr
      unfold sentB
      have h3' := h3
      rw [HTP.out] at h2 h3'
      cases r with
      | true => exact decide_eq_true ⟨by omega, by omega, by omega, HG.out.symm.trans hgd, hr.1 rfl⟩
      | false => exact decide_eq_false (fun e => by have := hr.2 e.2.2.2.2; cases this)
    have HY := Lib.hid hyes
    clear hyes hgd
    cases fin with
    | false =>
      have hr := Lib.hid (HY.out true (by simp))
      go_wp2_with fail
      go_quiet (fail)
      go_wp2_with fail
      go_ret
      exact ⟨by rw [hr.out]; rfl, HK3.out.drewN _⟩
    | true =>
      cases hes : s.endSent with
      | false =>
        have hr := Lib.hid (HY.out false (by simp [hes]))
        rw [hes] at f7
        clear hes
        go_wp2_with fail
        go_quiet (fail)
        go_wp2_with fail
        go_ret
        exact ⟨by rw [hr.out]; rfl, HK3.out.drewN _⟩
      | true =>
        obtain ⟨r, hr0⟩ : ∃ r, r = (off + (d.length : Int) == (q : Int)) := ⟨_, rfl⟩
        have hr := Lib.hid (HY.out r (by rw [hr0, HQ.out]; simp [hes]))
        rw [hes] at f7
        have HR0 := Lib.hid hr0
        clear hes hr0
        go_wp2_with fail
        go_region_held3 (fun w' => w'.cell? ⟨S, 7, none⟩ = some (.bool true) ∧ w'.cell? ⟨S, 0, none⟩ = some (.slice B q cb) ∧ w'.cell? ⟨x, 0, none⟩ = some (.int .i64 off) ∧ w'.cell? ⟨x, 1, none⟩ = some (.string (S8 d)) ∧ w'.cell? ⟨x, 2, none⟩ = some (.bool true)) (go_keep)
          (first | (go_at_call 33; refine (end_any _ off (S8 d) true (by omega) (by omega) (by omega)).mono ?_; rintro e w' ⟨rfl, rfl⟩))
        go_wp2_with fail
        go_ret
        refine ⟨?_, ?_⟩
        · rw [hr.out, HR0.out, ← hsz]; rfl
        · exact (HK3.out.alloc _).drew
end Go.Proofs.Ytjnekjjaofabeaa
namespace Go.Proofs.Ytjnekjjaofabeaa
open Go.RowKit Go.Rh Rng
attribute [local go_sem] Oper.semAt_some

def addAll (gs l : List Sp) : List Sp := gs.foldl (fun l g => addL g.1 g.2 l) l
theorem addAll_snoc (gs l : List Sp) (t : Sp) : addAll (gs ++ [t]) l = addL t.1 t.2 (addAll gs l) := by unfold addAll; rw [List.foldl_append]; rfl
def lostS (s : Snd) (off : Int) (d : List UInt8) (fin : Bool) : Snd :=
  { s with todo := addAll (gaps off (off + (d.length : Int) - 1) s.came) s.todo, endTodo := s.endTodo || (fin && !s.ends) }
theorem results_tmp {P : Program} {fn : Func} {t : Tmp} (h : fn.results = #[.tmp t]) (tmps : Array Value) (w : World) : (results fn tmps).run P w = .ok (tmps.getD t undef) w := by simp [results, h]

set_option maxHeartbeats 1000000 in
set_option maxRecDepth 100000 in
theorem lost_any {F : Nat → Prop} {w : World} {S : Nat} {s : Snd} (h : SndAt F w S s) (hb : s.b.length ≤ 199998) (ht : 0 ≤ s.top ∧ s.top ≤ (s.b.length : Int)) (hin : InN (s.b.length : Int) s.todo) (hic : InN (s.b.length : Int) s.came) (off : Int) (d : List UInt8) (fin : Bool) (hs : sentB s off d fin = true) :
    Calls Try.prog 20 #[.pointer (some ⟨S, 0, none⟩), .agg #[.int .i64 off, .string (S8 d), .bool fin]] w fun e w' =>
      e = .returned (.int .i64 0) ∧ SndAt (More F w) w' S (lostS s off d fin) ∧ Keep w w' F := by
  have hok := hs
  unfold sentB at hok
  rw [decide_eq_true_eq] at hok
  obtain ⟨ho0, ho1, ho2, -, -⟩ := hok
  have hlt := h.lt
  have hF := h.own
  obtain ⟨cc, FC, c2, hsc, hFC, -⟩ := h.cameT
  obtain ⟨vc, hsv, fcc, fvc⟩ := hsc
  obtain ⟨p, hp⟩ : ∃ p, p = w.heap.size := ⟨_, rfl⟩
  obtain ⟨p1, hp1⟩ : ∃ p1, p1 = w.heap.size + 1 := ⟨_, rfl⟩
  obtain ⟨wx, hwx⟩ : ∃ wx, wx = (w.alloc (.cells #[.pointer (some ⟨S, 0, none⟩)] 40)).alloc (.cells #[.int .i64 off, .string (S8 d), .bool fin] 34) := ⟨_, rfl⟩
  have kx : Keep w wx (fun _ => False) := by rw [hwx]; exact ((Keep.refl w _).alloc _).alloc _
  have zx : wx.heap.size = p + 2 := by rw [hwx, hp]; simp
  have m0 : wx.heap[p]? = some (.cells #[.pointer (some ⟨S, 0, none⟩)] 40 (0, 0)) := by rw [hwx, hp]; exact (heap2 _ _ _).1
  have m1 : wx.heap[p1]? = some (.cells #[.int .i64 off, .string (S8 d), .bool fin] 34 (0, 0)) := by rw [hwx, hp1]; exact (heap2 _ _ _).2
  have P0 : wx.cell? ⟨p, 0, none⟩ = some (.pointer (some ⟨S, 0, none⟩)) := by rw [cell_of_row wx p 0 _ _ _ m0]; rfl
  have x0 : wx.cell? ⟨p1, 0, none⟩ = some (.int .i64 off) := by rw [cell_of_row wx p1 0 _ _ _ m1]; rfl
  have x1 : wx.cell? ⟨p1, 1, none⟩ = some (.string (S8 d)) := by rw [cell_of_row wx p1 1 _ _ _ m1]; rfl
  have x2 : wx.cell? ⟨p1, 2, none⟩ = some (.bool fin) := by rw [cell_of_row wx p1 2 _ _ _ m1]; rfl
  have hsent := sent_any (h.keep kx (fun _ _ => id)) hb ht off d fin
  rw [hs] at hsent
  have hsz : (S8 d).size = d.length := S8_size d
  have HSZ := Lib.hid hsz
  have HSENT := Lib.hid hsent
  have HH := Lib.hid h
  have HP := Lib.hid (show p = w.heap.size ∧ p1 = p + 1 ∧ wx.heap.size = p + 2 from ⟨hp, by omega, zx⟩)
  have HM := Lib.hid (show wx.heap[p]? = some (.cells #[.pointer (some ⟨S, 0, none⟩)] 40 (0, 0)) ∧ wx.heap[p1]? = some (.cells #[.int .i64 off, .string (S8 d), .bool fin] 34 (0, 0)) from ⟨m0, m1⟩)
  have HKX := Lib.hid kx
  have HSV := Lib.hid hsv
  have HC2 := Lib.hid c2
  have HLT := Lib.hid hlt
  have HIN := Lib.hid hin
  have HIC := Lib.hid hic
  have HFC := Lib.hid (show (FC cc ∧ (∀ q, vc.ownBlock = some q → FC q)) ∧ ∀ i, FC i → F i from ⟨⟨fcc, fvc⟩, hFC⟩)
  obtain ⟨E, hE⟩ : ∃ E : Int, E = off + (d.length : Int) - 1 := ⟨_, rfl⟩
  have hwE : IntKind.i64.wrap (off + (d.length : Int) - 1) = E := by rw [IntKind.wrap_i64]; omega
  have HE := Lib.hid hE
  clear h kx zx m0 m1 hsent hsv c2 hlt hin hic fcc fvc hFC hs hsz hE
  refine (callsIn_wide (n := 9)).1 (callsIn_of_wp_marks Try.func20 rfl trivial (wpIn_wide.2 ?_) rfl)
  simp only [Try.ntmps20, List.size_toArray, List.length_cons, List.length_nil, Nat.reduceAdd, Nat.reduceSub, Array.replicate_succ, Array.replicate_zero, List.push_toArray, List.append_toArray, List.nil_append, List.cons_append]
  go_upto_region 1 with fail
  rw [← hwx, ← hp1, ← hp]
  clear hwx hp hp1
  go_upto_region 3 with (first | (go_at_call 40; refine HSENT.out.mono ?_; rintro e w1 ⟨rfl, k1⟩; have q0 : w1.cell? ⟨p, 0, none⟩ = some (.pointer (some ⟨S, 0, none⟩)) := (World.cell?_of_block (k1.block p (heap_lt HM.out.1) id)).trans P0; have y0 : w1.cell? ⟨p1, 0, none⟩ = some (.int .i64 off) := (World.cell?_of_block (k1.block p1 (heap_lt HM.out.2) id)).trans x0; have y1 : w1.cell? ⟨p1, 1, none⟩ = some (.string (S8 d)) := (World.cell?_of_block (k1.block p1 (heap_lt HM.out.2) id)).trans x1; have y2 : w1.cell? ⟨p1, 2, none⟩ = some (.bool fin) := (World.cell?_of_block (k1.block p1 (heap_lt HM.out.2) id)).trans x2; have s2 : w1.cell? ⟨S, 2, none⟩ = some (.pointer (some ⟨cc, 0, none⟩)) := (World.cell?_of_block ((HKX.out.trans k1 (fun _ _ e => e)).block S HLT.out id)).trans HC2.out; have HK1 := Lib.hid k1; clear k1 P0 x0 x1 x2))
  go_region_held3 (fun w' => w'.cell? ⟨p, 0, none⟩ = some (.pointer (some ⟨S, 0, none⟩)) ∧ w'.cell? ⟨p1, 0, none⟩ = some (.int .i64 off) ∧ w'.cell? ⟨p1, 1, none⟩ = some (.string (S8 d)) ∧ w'.cell? ⟨p1, 2, none⟩ = some (.bool fin) ∧ w'.cell? ⟨S, 2, none⟩ = some (.pointer (some ⟨cc, 0, none⟩))) ((refine ⟨?_, ?_, ?_, ?_, ?_⟩ <;> (repeat (first | assumption | (with_reducible refine cellD ?_) | (with_reducible refine cellA ?_)))))
    (first
      | (go_at_call 33; refine (end_any _ off (S8 d) fin (by omega) (by omega) (by have := HSZ.out; omega)).mono ?_; rintro e w' ⟨rfl, rfl⟩; rw [HSZ.out])
      | (go_at_call 35; refine (gaps_any _ cc off E).mono ?_; rintro e w' ⟨rfl, rfl⟩))
  obtain ⟨Z, hZ⟩ : ∃ Z, Z = w1.heap.size := ⟨_, rfl⟩
  obtain ⟨w5, hw5⟩ : ∃ w5, w5 = ((((w1.alloc (.cells #[.int .i64 off, .string (S8 d), .bool fin] 34)).alloc (.cells #[.pointer (some ⟨cc, 0, none⟩)] 73)).alloc (.cells #[.int .i64 off] 3)).alloc (.cells #[.int .i64 E] 3)).drew := ⟨_, rfl⟩
  have k5 : Keep w1 w5 (fun _ => False) := by rw [hw5]; exact ((((Keep.refl w1 _).alloc _).alloc _).alloc _).alloc _ |>.drew
  have z5 : w5.heap.size = Z + 4 := by rw [hw5, hZ]; simp
  have g3 : w5.heap[Z + 1]? = some (.cells #[.pointer (some ⟨cc, 0, none⟩)] 73 (0, 0)) := by rw [hw5, hZ]; exact (heap4 _ _ _ _ _).2.1
  have g1 : w5.heap[Z + 1 + 1]? = some (.cells #[.int .i64 off] 3 (0, 0)) := by rw [hw5, hZ]; exact (heap4 _ _ _ _ _).2.2.1
  have g2 : w5.heap[Z + 1 + 2]? = some (.cells #[.int .i64 E] 3 (0, 0)) := by rw [hw5, hZ]; exact (heap4 _ _ _ _ _).2.2.2
  rw [← hw5, ← hZ]
  have kx1 : Keep w w1 (fun _ => False) := HKX.out.trans HK1.out (fun _ _ e => e)
  have kx5 : Keep w w5 (fun _ => False) := kx1.trans k5 (fun _ _ e => e)
  have HKX5 := Lib.hid kx5
  have hkp5 := HK1.out.trans k5 (fun _ _ e => e)
  have HM5 : Hid (w5.heap[p]? = some (.cells #[.pointer (some ⟨S, 0, none⟩)] 40 (0, 0)) ∧ w5.heap[p1]? = some (.cells #[.int .i64 off, .string (S8 d), .bool fin] 34 (0, 0))) := ⟨(hkp5.block p (heap_lt HM.out.1) id).trans HM.out.1, (hkp5.block p1 (heap_lt HM.out.2) id).trans HM.out.2⟩
  have HZ5 : Hid (w5.heap.size = Z + 4 ∧ p + 2 ≤ Z) := ⟨z5, by rw [hZ]; have := HK1.out.size; have := HP.out; omega⟩
  have HQ1 := Lib.hid g1
  have HQ2 := Lib.hid g2
  have HQ3 := Lib.hid g3
  have HSC5 := Lib.hid (HSV.out.keep kx5 id (fun _ _ => id))
  have hbd : Bd s.came := HIC.out.bd (by omega)
  have HBD := Lib.hid hbd
  have hgp := gaps_all (a := off) (b := E) HSV.out.2.2.1
  have HGP := Lib.hid hgp
  clear hw5 k5 z5 g1 g2 g3 hZ hbd hgp kx1 kx5 hkp5 q0 y0 y1 y2 s2 hwE
  go_wp2_with fail
  refine wp_rangeFunc_X (gf := 43) (lb := #[.pointer (some ⟨Z + 1 + 1, 0, none⟩), .pointer (some ⟨Z + 1 + 2, 0, none⟩), .pointer (some ⟨Z + 1, 0, none⟩)]) (encs := encP) (bs := fun k => k = Z + 1 + 2) (M := fun B r => r = B + 1) (xs := gaps off E s.came) rfl (enters_of Try.func43 (by kernel_rfl) rfl) (fun k hk => by have := HZ5.out; omega) (gapE off E vc s.came (w5.heap.size + 2))
    (fun W1 hs hold => by rw [← hs]; exact gaps_seq ((hold _ (heap_lt HQ1.out)).trans HQ1.out) ((hold _ (heap_lt HQ2.out)).trans HQ2.out) ((hold _ (heap_lt HQ3.out)).trans HQ3.out) (HSC5.out.old hold) (by omega) (by have := HE.out; omega) HBD.out) (fun _ => rfl)
    (fun pre W => SndAt (fun i => (F i ∧ i < w.heap.size) ∨ (gapE off E vc s.came (w5.heap.size + 2) ≤ i ∧ w5.heap.size + 7 ≤ i)) W S { s with todo := addAll pre s.todo } ∧ InN (s.b.length : Int) (addAll pre s.todo) ∧ Keep w5 W (fun i => F i ∧ i < w.heap.size)) (fun _ _ _ => False) ?hI (fun _ _ _ _ _ h _ _ => h) ⟨((HH.out.mono (fun i hi hf => ⟨hf, hi⟩)).keep HKX5.out (fun _ _ => id)).mono (fun i _ hi => .inl hi), HIN.out, Keep.refl _ _⟩
    (fun t => { tmps := #[.pointer (some ⟨S, 0, none⟩), .agg #[.int .i64 off, .string (S8 d), .bool fin], .pointer (some ⟨p, 0, none⟩), .pointer (some ⟨p1, 0, none⟩), .int .i64 0, .int .i64 t.1, .int .i64 t.2, .pointer (some ⟨S, 0, none⟩), .agg #[.int .i64 off, .string (S8 d), .bool fin], .bool true, .bool false, .pointer (some ⟨S, 0, none⟩), .pointer (some ⟨S, 0, none⟩), .pointer (some ⟨S, 2, none⟩), .pointer (some ⟨cc, 0, none⟩), .pointer (some ⟨p1, 0, none⟩), .int .i64 off, .agg #[.int .i64 off, .string (S8 d), .bool fin], .int .i64 (off + (d.length : Int)), .int .i64 E, .func (.func 43) #[] #[.pointer (some ⟨Z + 1 + 1, 0, none⟩), .pointer (some ⟨Z + 1 + 2, 0, none⟩), .pointer (some ⟨Z + 1, 0, none⟩)], .int .i64 t.1, .int .i64 t.2, undef, undef, undef, undef, undef, undef, undef, undef, undef, undef, undef, undef, undef, undef, undef, undef, undef, undef, undef, undef, undef, undef, undef, undef, undef], defers := [] }) ?assign ?body ?done (fun _ _ _ _ _ _ _ h _ => h.elim)
  case hI =>
    rintro pre X' X2 row ⟨hs, hn, hk⟩ hg hr
    refine ⟨?_, hn, hk.trans (Keep.of_grown (S := fun k => w5.heap.size ≤ k) hg (fun k _ e => by have := (hr k e).1; omega)) (fun i hi e => absurd e (by omega))⟩
    have ko : Keep X' X2 (fun k => row = some k) := Keep.of_grown (S := fun k => row = some k) hg (fun k _ e => e)
    have hz5 := HKX5.out.size
    rcases row with _ | r
    · exact hs.keep ko (fun i hi e => by cases e)
    · obtain ⟨r1, r2⟩ := hr r rfl
      rcases r2 with r2 | r2
      · have r3 : r = w5.heap.size + 2 + 1 := r2
        exact hs.keep ko (fun i hi e => by injection e with e; rcases hi with hi | hi <;> (have := hi.2; omega))
      · exact hs.other ko (fun i e => by injection e with e; subst e; exact r2)
  case assign =>
    intro l' t W1 K hK
    simp only [encP]
    gi_wp2
    exact hK
  case body =>
    rintro l' pre t rest W1 hx hE1 ⟨hs, hn, hk⟩
    have htg := HGP.out.2.1 t (by rw [hx]; simp)
    have hbt : -- the gap lies in it
      off ≤ t.1 ∧ t.1 ≤ t.2 ∧ t.2 ≤ E := by omega
    have hge : gapE off E vc s.came (w5.heap.size + 2) = w5.heap.size + 2 + 5 + cloneN vc s.came := by unfold gapE; rw [if_neg (by omega)]
    have hz := HKX5.out.size
    have hz5 := HZ5.out
    have hp := HP.out
    have n0 := (hk.block p (heap_lt HM5.out.1) (fun e => by have := e.2; omega)).trans HM5.out.1
    have q0 : W1.cell? ⟨p, 0, none⟩ = some (.pointer (some ⟨S, 0, none⟩)) := by rw [cell_of_row W1 p 0 _ _ _ n0]; rfl
    obtain ⟨ct, F1, c1, hsi, hF1, htodo⟩ := hs.todo
    obtain ⟨a, b⟩ := t
    have hwf : WF (addAll pre s.todo) := by obtain ⟨v, hv, _⟩ := hsi; exact hv.2.2.1
    have hEo := HE.out
    have hadd := addN (N := (s.b.length : Int)) hsi hn (by omega) (by have := hbt.1; simp only at this; omega) hbt.2.1 (by have := hbt.2.2; simp only at this; omega)
    have HADD := Lib.hid hadd
    have HTODO := Lib.hid htodo
    have HF1 := Lib.hid hF1
    have HN := Lib.hid hn
    have HWF := Lib.hid hwf
    have HK := Lib.hid hk
    have HBT := Lib.hid hbt
    have HGE := Lib.hid hge
    have HE1 := Lib.hid hE1
    clear hx hE1 hs hn hk htg hbt hge hz hz5 hp n0 hsi hF1 htodo hwf hEo hadd
    gi_wp2
    refine ⟨trivial, ?_⟩
    gi_at_call 36
    refine (CallsIn.inRound l' (callsIn_wide.2 HADD.out)).mono ?_
    rintro e w2 ⟨rfl, h2, k2⟩
    gi_wp2
    have hz := HKX5.out.size
    have hz5 := HZ5.out
    have hE1 := HE1.out
    have hp := HP.out
    have hge := HGE.out
    have hsn := HTODO.out w2 _ h2 k2
    refine ⟨⟨k2.size, fun k hk => ?_⟩, ?_, ?_, ?_⟩
    · have hkW : k < W1.heap.size := by rcases hk with hk | hk <;> omega
      refine k2.block k hkW (fun e => ?_)
      rcases HF1.out k e with e | e <;> have h0 := e.1 <;> have h1 := e.2 <;> rcases hk with hk | hk <;> omega
    · rw [addAll_snoc]
      exact hsn.mono (fun i _ hi => by rcases hi with hi | hi; exact hi; exact .inr ⟨by omega, by omega⟩)
    · rw [addAll_snoc]
      exact HN.out.addL HWF.out (by have := HBT.out.1; simp only at this ⊢; omega) HBT.out.2.1 (by have := HBT.out.2.2; have := HE.out; simp only at *; omega)
    · exact HK.out.trans k2 (fun i hi e => by rcases HF1.out i e with e | e; exact e; omega)
  case done =>
    rintro D W6 hD hE3 ⟨hs, hn, hk⟩ hdef
    have hz := HKX5.out.size
    have hz5 := HZ5.out
    have hp := HP.out
    have n0 := (hk.block p (heap_lt HM5.out.1) (fun e => by have := e.2; omega)).trans HM5.out.1
    have n1 := (hk.block p1 (heap_lt HM5.out.2) (fun e => by have := e.2; omega)).trans HM5.out.2
    have q0 : W6.cell? ⟨p, 0, none⟩ = some (.pointer (some ⟨S, 0, none⟩)) := by rw [cell_of_row W6 p 0 _ _ _ n0]; rfl
    have y2 : W6.cell? ⟨p1, 2, none⟩ = some (.bool fin) := by rw [cell_of_row W6 p1 2 _ _ _ n1]; rfl
    obtain ⟨-, -, -, d6, -, d8, cf⟩ := hs.cells
    have c6 : W6.cell? ⟨S, 6, none⟩ = some (.bool s.endTodo) := d6
    have c8 : W6.cell? ⟨S, 8, none⟩ = some (.bool s.ends) := d8
    clear d6 d8
    have f6 := cf 6
    have HS := Lib.hid hs
    have HK := Lib.hid hk
    have HDEF := Lib.hid hdef
    have HD := Lib.hid hD
    have hend : ∀ (v : Bool), v = (s.endTodo || (fin && !s.ends)) → ∃ W : World, W = (W6.setCell ⟨S, 6, none⟩ (.bool v)).drew ∧ W.heap[D]? = some (.deferred (some [])) ∧ SndAt (More F w) (W.putObj D (.deferred none)) S (lostS s off d fin) ∧ Keep w (W.putObj D (.deferred none)) F := by
      intro v hv
      have hd : (W6.setCell ⟨S, 6, none⟩ (.bool v)).drew.heap[D]? = some (.deferred (some [])) := by
        show (W6.setCell ⟨S, 6, none⟩ (.bool v)).heap[D]? = _
        rw [Below.heap_setCell _ _ _ D (by have := HLT.out; have := HD.out; have := HKX5.out.size; simp; omega)]
        exact HDEF.out
      have kP : Keep (W6.setCell ⟨S, 6, none⟩ (.bool v)).drew ((W6.setCell ⟨S, 6, none⟩ (.bool v)).drew.putObj D (.deferred none)) (fun k => k = D) := ⟨rfl, rfl, rfl, by simp, fun k _ hk => World.putObj_heap_other hk⟩
      refine ⟨_, rfl, hd, ?_, ?_⟩
      · have h2 := HS.out.set 6 (.bool v) (lostS s off d fin) (fun _ _ _ => by rw [hv]; rfl) rfl (by unfold lostS; simp only; rw [← HE.out]) rfl
        have h3 := h2.keep ((Keep.refl _ (fun _ => False)).drew) (fun _ _ => id)
        refine SndAt.mono (h3.other (S' := fun i => i = D) kP (fun i hi => ?_)) (fun i _ hi => ?_)
        · subst hi
          exact ⟨.deferred (some []), hd, rfl⟩
        · rcases hi with hi | hi
          · exact .inl hi.1
          · exact .inr (by have := HKX5.out.size; omega)
      · refine (((HKX5.out.mono (T := F) (fun _ _ e => e.elim)).trans HK.out (fun i _ e => e.1)).setCell (.inr hF) _).drew.trans kP (fun i hi e => ?_)
        have := HD.out; have := HKX5.out.size; omega
    have HEND := Lib.hid hend
    clear hz hz5 hp n0 n1 hs hk hdef hD cf hend hn hE3
    have hcase : s.endTodo = true ∨ (s.endTodo = false ∧ fin = false) ∨ (s.endTodo = false ∧ fin = true ∧ s.ends = true) ∨ (s.endTodo = false ∧ fin = true ∧ s.ends = false) := by
      cases s.endTodo <;> cases fin <;> cases s.ends <;> simp
    rcases hcase with h1 | ⟨h1, h2⟩ | ⟨h1, h2, h3⟩ | ⟨h1, h2, h3⟩
    all_goals
      rw [h1] at c6 HEND
      try rw [h2] at y2
      try rw [h3] at c8 HEND
      have HH1 := Lib.hid h1
      try have HH2 := Lib.hid h2
      try have HH3 := Lib.hid h3
      clear h1
      try clear h2
      try clear h3
      go_upto_region 7 with fail
      go_region
      all_goals
        go_wp2_with fail
        first
          | (obtain ⟨W, hW, hd, h5, h6⟩ := HEND.out true (by first | rfl | (rw [HH2.out]; rfl)); rw [← hW]; exact leave_markW (D := D) hd (results_tmp rfl _ _) ⟨rfl, h5, h6⟩)
          | (obtain ⟨W, hW, hd, h5, h6⟩ := HEND.out false (by first | rfl | (rw [HH2.out]; rfl)); rw [← hW]; exact leave_markW (D := D) hd (results_tmp rfl _ _) ⟨rfl, h5, h6⟩)

theorem lost_no {F : Nat → Prop} {w : World} {S : Nat} {s : Snd} (h : SndAt F w S s) (hb : s.b.length ≤ 199998) (ht : 0 ≤ s.top ∧ s.top ≤ (s.b.length : Int)) (off : Int) (d : List UInt8) (fin : Bool) (hs : sentB s off d fin = false) :
    Calls Try.prog 20 #[.pointer (some ⟨S, 0, none⟩), .agg #[.int .i64 off, .string (S8 d), .bool fin]] w fun e w' =>
      e = .returned (.int .i64 1) ∧ Keep w w' (fun _ => False) := by
  obtain ⟨wx, hwx⟩ : ∃ wx, wx = (w.alloc (.cells #[.pointer (some ⟨S, 0, none⟩)] 40)).alloc (.cells #[.int .i64 off, .string (S8 d), .bool fin] 34) := ⟨_, rfl⟩
  obtain ⟨p, hp⟩ : ∃ p, p = w.heap.size := ⟨_, rfl⟩
  obtain ⟨p1, hp1⟩ : ∃ p1, p1 = w.heap.size + 1 := ⟨_, rfl⟩
  have kx : Keep w wx (fun _ => False) := by rw [hwx]; exact ((Keep.refl w _).alloc _).alloc _
  have m0 : wx.heap[p]? = some (.cells #[.pointer (some ⟨S, 0, none⟩)] 40 (0, 0)) := by rw [hwx, hp]; exact (heap2 _ _ _).1
  have m1 : wx.heap[p1]? = some (.cells #[.int .i64 off, .string (S8 d), .bool fin] 34 (0, 0)) := by rw [hwx, hp1]; exact (heap2 _ _ _).2
  have P0 : wx.cell? ⟨p, 0, none⟩ = some (.pointer (some ⟨S, 0, none⟩)) := by rw [cell_of_row wx p 0 _ _ _ m0]; rfl
  have x0 : wx.cell? ⟨p1, 0, none⟩ = some (.int .i64 off) := by rw [cell_of_row wx p1 0 _ _ _ m1]; rfl
  have x1 : wx.cell? ⟨p1, 1, none⟩ = some (.string (S8 d)) := by rw [cell_of_row wx p1 1 _ _ _ m1]; rfl
  have x2 : wx.cell? ⟨p1, 2, none⟩ = some (.bool fin) := by rw [cell_of_row wx p1 2 _ _ _ m1]; rfl
  have hsent := sent_any (h.keep kx (fun _ _ => id)) hb ht off d fin
  rw [hs] at hsent
  have HSENT := Lib.hid hsent
  have HKX := Lib.hid kx
  clear hsent kx h m0 m1
  refine (callsIn_wide (n := 9)).1 (callsIn_of_wp_marks Try.func20 rfl trivial (wpIn_wide.2 ?_) rfl)
  simp only [Try.ntmps20, List.size_toArray, List.length_cons, List.length_nil, Nat.reduceAdd, Nat.reduceSub, Array.replicate_succ, Array.replicate_zero, List.push_toArray, List.append_toArray, List.nil_append, List.cons_append]
  go_upto_region 1 with fail
  rw [← hwx, ← hp1, ← hp]
  clear hwx hp hp1
  go_wp2_with (first | (go_at_call 40; refine HSENT.out.mono ?_; rintro e w1 ⟨rfl, k1⟩; have HK1 := Lib.hid k1; clear k1))
  exact leave_noneW (results_tmp rfl _ _) ⟨rfl, HKX.out.trans HK1.out (fun _ _ e => e)⟩
theorem lost_nil (w : World) (off : Int) (d : ByteArray) (fin : Bool) :
    Calls Try.prog 20 #[.pointer none, .agg #[.int .i64 off, .string d, .bool fin]] w fun e w' => e = .returned (.int .i64 1) ∧ Keep w w' (fun _ => False) := by
  obtain ⟨wx, hwx⟩ : ∃ wx, wx = (w.alloc (.cells #[.pointer none] 40)).alloc (.cells #[.int .i64 off, .string d, .bool fin] 34) := ⟨_, rfl⟩
  obtain ⟨p, hp⟩ : ∃ p, p = w.heap.size := ⟨_, rfl⟩
  obtain ⟨p1, hp1⟩ : ∃ p1, p1 = w.heap.size + 1 := ⟨_, rfl⟩
  have kx : Keep w wx (fun _ => False) := by rw [hwx]; exact ((Keep.refl w _).alloc _).alloc _
  have m0 : wx.heap[p]? = some (.cells #[.pointer none] 40 (0, 0)) := by rw [hwx, hp]; exact (heap2 _ _ _).1
  have m1 : wx.heap[p1]? = some (.cells #[.int .i64 off, .string d, .bool fin] 34 (0, 0)) := by rw [hwx, hp1]; exact (heap2 _ _ _).2
  have P0 : wx.cell? ⟨p, 0, none⟩ = some (.pointer none) := by rw [cell_of_row wx p 0 _ _ _ m0]; rfl
  have x0 : wx.cell? ⟨p1, 0, none⟩ = some (.int .i64 off) := by rw [cell_of_row wx p1 0 _ _ _ m1]; rfl
  have x1 : wx.cell? ⟨p1, 1, none⟩ = some (.string d) := by rw [cell_of_row wx p1 1 _ _ _ m1]; rfl
  have x2 : wx.cell? ⟨p1, 2, none⟩ = some (.bool fin) := by rw [cell_of_row wx p1 2 _ _ _ m1]; rfl
  have HKX := Lib.hid kx
  clear kx m0 m1
  refine (callsIn_wide (n := 9)).1 (callsIn_of_wp_marks Try.func20 rfl trivial (wpIn_wide.2 ?_) rfl)
  simp only [Try.ntmps20, List.size_toArray, List.length_cons, List.length_nil, Nat.reduceAdd, Nat.reduceSub, Array.replicate_succ, Array.replicate_zero, List.push_toArray, List.append_toArray, List.nil_append, List.cons_append]
  go_upto_region 1 with fail
  rw [← hwx, ← hp1, ← hp]
  clear hwx hp hp1
  go_wp2_with (first | (go_at_call 40; refine (sent_nil _ off d fin).mono ?_; rintro e w1 ⟨rfl, k1⟩; have HK1 := Lib.hid k1; clear k1))
  exact leave_noneW (results_tmp rfl _ _) ⟨rfl, HKX.out.trans HK1.out (fun _ _ e => e)⟩
end Go.Proofs.Ytjnekjjaofabeaa
namespace Go.Proofs.Ytjnekjjaofabeaa
open Go.RowKit Go.Rh Rng
attribute [local go_sem] Oper.semAt_some

def cameD (s : Snd) (off : Int) (d : List UInt8) : Snd := if d = [] then s else { s with came := addL off (off + (d.length : Int) - 1) s.came, todo := cutL off (off + (d.length : Int) - 1) s.todo }
def cameS (s : Snd) (off : Int) (d : List UInt8) (fin : Bool) : Snd := if fin = true then { cameD s off d with ends := true, endTodo := false } else cameD s off d

set_option maxHeartbeats 1000000 in
set_option maxRecDepth 100000 in
theorem came_any {F : Nat → Prop} {w : World} {S : Nat} {s : Snd} (h : SndAt F w S s) (hb : s.b.length ≤ 199998) (ht : 0 ≤ s.top ∧ s.top ≤ (s.b.length : Int)) (hin : InN (s.b.length : Int) s.todo) (hic : InN (s.b.length : Int) s.came) (off : Int) (d : List UInt8) (fin : Bool) (hs : sentB s off d fin = true) :
    Calls Try.prog 28 #[.pointer (some ⟨S, 0, none⟩), .agg #[.int .i64 off, .string (S8 d), .bool fin]] w fun e w' =>
      e = .returned (.int .i64 0) ∧ SndAt (More F w) w' S (cameS s off d fin) ∧ Keep w w' F := by
  have hok := hs
  unfold sentB at hok
  rw [decide_eq_true_eq] at hok
  obtain ⟨ho0, ho1, ho2, -, -⟩ := hok
  have hlt := h.lt
  have hF := h.own
  obtain ⟨p, hp⟩ : ∃ p, p = w.heap.size := ⟨_, rfl⟩
  obtain ⟨wx, hwx⟩ : ∃ wx, wx = w.alloc (.cells #[.int .i64 off, .string (S8 d), .bool fin] 34) := ⟨_, rfl⟩
  have kx : Keep w wx (fun _ => False) := by rw [hwx]; exact (Keep.refl w _).alloc _
  have m1 : wx.heap[p]? = some (.cells #[.int .i64 off, .string (S8 d), .bool fin] 34 (0, 0)) := by rw [hwx, hp]; exact heap_alloc_new _ _
  have y0 : wx.cell? ⟨p, 0, none⟩ = some (.int .i64 off) := by rw [cell_of_row wx p 0 _ _ _ m1]; rfl
  have y1 : wx.cell? ⟨p, 1, none⟩ = some (.string (S8 d)) := by rw [cell_of_row wx p 1 _ _ _ m1]; rfl
  have y2 : wx.cell? ⟨p, 2, none⟩ = some (.bool fin) := by rw [cell_of_row wx p 2 _ _ _ m1]; rfl
  have hsent := sent_any (h.keep kx (fun _ _ => id)) hb ht off d fin
  rw [hs] at hsent
  have hsz : (S8 d).size = d.length := S8_size d
  have HSZ := Lib.hid hsz
  have HSENT := Lib.hid hsent
  have HH := Lib.hid h
  have HP := Lib.hid hp
  have HKX := Lib.hid kx
  have HLT := Lib.hid hlt
  have HIN := Lib.hid hin
  have HIC := Lib.hid hic
  have HM0 := Lib.hid m1
  obtain ⟨E, hE⟩ : ∃ E : Int, E = off + (d.length : Int) - 1 := ⟨_, rfl⟩
  have hwE : IntKind.i64.wrap (off + (d.length : Int) - 1) = E := by rw [IntKind.wrap_i64]; omega
  have HE := Lib.hid hE
  clear h kx hsent hlt hin hic hs hsz hE m1
  have hlast : ∀ (W : World) (s2 : Snd), SndAt (fun i => (F i ∧ i < w.heap.size) ∨ p < i) W S s2 → Keep w W F → s2 = cameD s off d → W.cell? ⟨p, 2, none⟩ = some (.bool fin) →
      (fin = true → SndAt (More F w) ((W.setCell ⟨S, 8, none⟩ (.bool true)).setCell ⟨S, 6, none⟩ (.bool false)) S (cameS s off d fin) ∧ Keep w ((W.setCell ⟨S, 8, none⟩ (.bool true)).setCell ⟨S, 6, none⟩ (.bool false)) F) ∧
      (fin = false → SndAt (More F w) W S (cameS s off d fin) ∧ Keep w W F) := by
    intro W s2 h2 k2 e2 y2
    constructor
    · intro hf
      subst hf
      refine ⟨?_, (k2.setCell (.inr hF) _).setCell (.inr hF) _⟩
      have h3 := (h2.set 8 (.bool true) { s2 with ends := true } (fun _ _ _ => rfl) rfl rfl rfl).set 6 (.bool false) { s2 with ends := true, endTodo := false } (fun _ _ _ => rfl) rfl rfl rfl
      rw [e2] at h3
      exact h3.mono (fun i _ hi => by rcases hi with hi | hi; exact .inl hi.1; exact .inr (by have := HP.out; omega))
    · intro hf
      subst hf
      subst e2
      exact ⟨h2.mono (fun i _ hi => by rcases hi with hi | hi; exact .inl hi.1; exact .inr (by have := HP.out; omega)), k2⟩
  have HLAST := Lib.hid hlast
  clear hlast
  by_cases hd : d = []
  · subst hd
    go_enter Try.func28, Try.ntmps28
    go_upto_region 1 with fail
    rw [← hwx, ← hp]
    clear hwx hp
    have hcD : s = cameD s off [] := by unfold cameD; rw [if_pos rfl]
    have HCD := Lib.hid hcD
    clear hcD
    cases fin
    all_goals
      go_wp2_with (first | (go_at_call 40; refine HSENT.out.mono ?_; rintro e w1 ⟨rfl, k1⟩; have b0 := k1.block p (heap_lt HM0.out) id; have m1 := b0.trans HM0.out; have z1 : w1.cell? ⟨p, 1, none⟩ = some (.string (S8 [])) := (World.cell?_of_block b0).trans y1; have z2 := (World.cell?_of_block b0).trans y2; have hs1 := (HH.out.mono (fun i hi hf => ⟨hf, hi⟩) : SndAt (fun i => F i ∧ i < w.heap.size) w S s).keep (HKX.out.trans k1 (fun _ _ e => e)) (fun _ _ => id); have g8 := hs1.cells.2.2.2.2.2.2 8; have g6 := hs1.cells.2.2.2.2.2.2 6; have a6 := hs1.cells.2.2.2.1; have a8 := hs1.cells.2.2.2.2.2.1; have HS1 := Lib.hid hs1; have HK1 := Lib.hid k1; clear k1 b0 m1 hs1 y0 y1 y2))
      go_ret
      obtain ⟨l1, l2⟩ := HLAST.out w1 s (HS1.out.mono (fun i _ hi => .inl hi)) ((HKX.out.trans HK1.out (fun _ _ e => e)).mono (fun _ _ e => e.elim)) HCD.out z2
      first
        | exact ⟨rfl, (l1 (by first | rfl | trivial)).1, (l1 (by first | rfl | trivial)).2⟩
        | exact ⟨rfl, (l2 (by first | rfl | trivial)).1, (l2 (by first | rfl | trivial)).2⟩
  · have hd0 : 0 < d.length := List.length_pos_iff.2 hd
    have hdi : (0 : Int) < (d.length : Int) := by omega
    have hE0 : off ≤ E := by have := HE.out; omega
    have hEb : E < (s.b.length : Int) := by have := HE.out; omega
    have hcD : ∀ s2 : Snd, s2 = { s with came := addL off E s.came, todo := cutL off E s.todo } → s2 = cameD s off d := by intro s2 e; rw [e]; unfold cameD; rw [if_neg hd, HE.out]
    have HCD := Lib.hid hcD
    have HD := Lib.hid hd
    clear hcD hd
    go_enter Try.func28, Try.ntmps28
    go_upto_region 1 with fail
    rw [← hwx, ← hp]
    clear hwx hp
    go_upto_region 4 with (first | (go_at_call 40; refine HSENT.out.mono ?_; rintro e w1 ⟨rfl, k1⟩; have b0 := k1.block p (heap_lt HM0.out) id; have m1 := b0.trans HM0.out; have z0 := (World.cell?_of_block b0).trans y0; have z1 := (World.cell?_of_block b0).trans y1; have z2 := (World.cell?_of_block b0).trans y2; have hs1 := (HH.out.mono (fun i hi hf => ⟨hf, hi⟩) : SndAt (fun i => F i ∧ i < w.heap.size) w S s).keep (HKX.out.trans k1 (fun _ _ e => e)) (fun _ _ => id); have HS1 := Lib.hid hs1; have HK1 := Lib.hid k1; clear k1 b0 hs1 y0 y1 y2))
    have y0 : w1.cell? ⟨p, 0, none⟩ = some (.int .i64 off) := z0
    have y1 : w1.cell? ⟨p, 1, none⟩ = some (.string (S8 d)) := z1
    have y2 : w1.cell? ⟨p, 2, none⟩ = some (.bool fin) := z2
    clear z0 z1 z2
    obtain ⟨cc, F1, c2, -, -, -⟩ := HS1.out.cameT
    have hadd : ∀ W4, w1.grownBy W4 none → Calls Try.prog 36 #[.pointer (some ⟨cc, 0, none⟩), .int .i64 off, .int .i64 E] W4 fun e w' => e = .returned (.int .i64 0) ∧ SndAt (fun i => (F i ∧ i < w.heap.size) ∨ p < i) w' S { s with came := addL off E s.came } ∧ Keep w1 w' (fun i => F i ∧ i < w.heap.size) := by
      intro W4 hg
      have k4 := grown_keep hg
      obtain ⟨cc2, F2, g1, gs, gf, gt⟩ := (HS1.out.keep k4 (fun _ _ => id)).cameT
      have g2 : W4.cell? ⟨S, 2, none⟩ = some (.pointer (some ⟨cc, 0, none⟩)) := (World.cell?_of_block (k4.block S HS1.out.lt id)).trans c2
      rw [g2] at g1
      injection g1 with g1; injection g1 with g1; injection g1 with g1; injection g1 with g1
      subst g1
      refine (addN (N := (s.b.length : Int)) gs HIC.out (by omega) ho0 hE0 hEb).mono ?_
      rintro e w' ⟨rfl, h1, h2⟩
      have hz := HKX.out.size
      have hz1 := HK1.out.size
      have hz4 := k4.size
      exact ⟨rfl, (gt w' _ h1 h2).mono (fun i _ hi => by rcases hi with hi | hi; exact .inl hi; exact .inr (by have := heap_lt HM0.out; omega)), (k4.mono (fun _ _ e => e.elim)).trans h2 (fun i _ e => gf i e)⟩
    have HADD := Lib.hid hadd
    have HC2 := Lib.hid c2
    clear hadd
    refine region_tail_grown 9 41 (by kernel_rfl) rfl (by kernel_rfl) (by kernel_rfl) ?_
    simp only [List.take_succ_cons, List.take_zero, List.drop_succ_cons, List.drop_zero]
    show wpQuiet _ _ _ _ _ ⟨_, _⟩
    refine wg_run (v := .pointer (some ⟨S, 0, none⟩)) (by rfl) (fun w' _ => by unfold execOp; simp only [Act.eval]; go_simp) ?_
    go_simp
    refine wg_run (v := .pointer (some ⟨S, 0, none⟩)) (by rfl) (fun w' _ => by unfold execOp; simp only [Act.eval]; go_simp) ?_
    go_simp
    refine wg_run (v := .pointer (some ⟨S, 2, none⟩)) (by rfl) (fun w' _ => by unfold execOp; simp only [Act.eval]; go_simp) ?_
    go_simp
    refine wg_load (v := .pointer (some ⟨cc, 0, none⟩)) (by rfl) 73 (.tmp 15) (by rfl) (.pointer (some ⟨S, 2, none⟩)) (by rfl) (fun w' hw' => by have hc := (World.cell?_of_block (hw'.block _ (cell_block c2) (by simp))).trans c2; go_simp) ?_
    go_simp
    refine wg_run (v := .pointer (some ⟨p, 0, none⟩)) (by rfl) (fun w' _ => by unfold execOp; simp only [Act.eval]; go_simp) ?_
    go_simp
    refine wg_load (v := .int .i64 off) (by rfl) 3 (.tmp 17) (by rfl) (.pointer (some ⟨p, 0, none⟩)) (by rfl) (fun w' hw' => by have hc := (World.cell?_of_block (hw'.block _ (cell_block y0) (by simp))).trans y0; go_simp) ?_
    go_simp
    refine wg_load (by rfl) 34 (.tmp 3) (by rfl) (.pointer (some ⟨p, 0, none⟩)) (by rfl) (fun w' hw' => run_load34 ((hw'.block _ (heap_lt m1) (by simp)).trans m1)) ?_
    go_simp
    refine wg_call (vs := #[.agg #[.int .i64 off, .string (S8 d), .bool fin]]) (by rfl) (by rfl) (by simp [Act.eval]) Try.func33 (by kernel_rfl) (by rfl) (v := .int .i64 (off + (d.length : Int))) (fun w' hw' => ?_) ?_
    · refine (end_any _ off (S8 d) fin (by omega) (by omega) (by have := HSZ.out; omega)).mono ?_
      rintro e w'' ⟨rfl, rfl⟩
      exact ⟨by rw [HSZ.out], grown_trans hw' (World.grownBy_alloc _ _ none)⟩
    go_simp
    refine wg_run (v := .int .i64 E) (by rfl) (fun w' _ => by unfold execOp; simp only [Act.eval]; go_simp) ?_
    go_simp
    refine wpQuiet_nil ?_
    intro W4 hg4
    have HG4 := Lib.hid hg4
    clear hg4 m1 y0 y1 c2
    go_upto_region 5 with (first | (go_at_call 36; refine (HADD.out _ HG4.out).mono ?_; rintro e w2 ⟨rfl, h2, k2⟩; have b0 := k2.block p (by have := HK1.out.size; have := heap_lt HM0.out; omega) (fun e => by have := e.2; have := HP.out; omega); have m1 := b0.trans ((HK1.out.block p (heap_lt HM0.out) id).trans HM0.out); have H2 := Lib.hid h2; have K2 := Lib.hid k2; clear h2 k2 b0))
    have y0 : w2.cell? ⟨p, 0, none⟩ = some (.int .i64 off) := by rw [cell_of_row w2 p 0 _ _ _ m1]; rfl
    have y2 : w2.cell? ⟨p, 2, none⟩ = some (.bool fin) := by rw [cell_of_row w2 p 2 _ _ _ m1]; rfl
    have HM2 := Lib.hid m1
    obtain ⟨ct, F1, c1, -, -, -⟩ := H2.out.todo
    have hcut : ∀ W4, w2.grownBy W4 none → Calls Try.prog 38 #[.pointer (some ⟨ct, 0, none⟩), .int .i64 off, .int .i64 E] W4 fun e w' => e = .returned (.int .i64 0) ∧ SndAt (fun i => (F i ∧ i < w.heap.size) ∨ p < i) w' S { s with came := addL off E s.came, todo := cutL off E s.todo } ∧ Keep w2 w' (fun i => (F i ∧ i < w.heap.size) ∨ p < i) := by
      intro W4 hg
      have k4 := grown_keep hg
      obtain ⟨ct2, F2, g1, gs, gf, gt⟩ := (H2.out.keep k4 (fun _ _ => id)).todo
      have g2 : W4.cell? ⟨S, 1, none⟩ = some (.pointer (some ⟨ct, 0, none⟩)) := (World.cell?_of_block (k4.block S H2.out.lt id)).trans c1
      rw [g2] at g1
      injection g1 with g1; injection g1 with g1; injection g1 with g1; injection g1 with g1
      subst g1
      refine (cutN (N := (s.b.length : Int)) gs HIN.out (by omega) ho0 hE0 (by omega) (by omega)).mono ?_
      rintro e w' ⟨rfl, h1, h2⟩
      have hz := HKX.out.size
      have hz1 := HK1.out.size
      have hz2 := K2.out.size
      have hz4 := k4.size
      exact ⟨rfl, (gt w' _ h1 h2).mono (fun i _ hi => by rcases hi with hi | hi; exact hi; exact .inr (by have := heap_lt HM0.out; omega)), (k4.mono (fun _ _ e => e.elim)).trans h2 (fun i _ e => gf i e)⟩
    have HCUT := Lib.hid hcut
    clear hcut
    refine region_tail_grown 9 41 (by kernel_rfl) rfl (by kernel_rfl) (by kernel_rfl) ?_
    simp only [List.take_succ_cons, List.take_zero, List.drop_succ_cons, List.drop_zero]
    show wpQuiet _ _ _ _ _ ⟨_, _⟩
    refine wg_run (v := .pointer (some ⟨S, 0, none⟩)) (by rfl) (fun w' _ => by unfold execOp; simp only [Act.eval]; go_simp) ?_
    go_simp
    refine wg_run (v := .pointer (some ⟨S, 0, none⟩)) (by rfl) (fun w' _ => by unfold execOp; simp only [Act.eval]; go_simp) ?_
    go_simp
    refine wg_run (v := .pointer (some ⟨S, 1, none⟩)) (by rfl) (fun w' _ => by unfold execOp; simp only [Act.eval]; go_simp) ?_
    go_simp
    refine wg_load (v := .pointer (some ⟨ct, 0, none⟩)) (by rfl) 73 (.tmp 25) (by rfl) (.pointer (some ⟨S, 1, none⟩)) (by rfl) (fun w' hw' => by have hc := (World.cell?_of_block (hw'.block _ (cell_block c1) (by simp))).trans c1; go_simp) ?_
    go_simp
    refine wg_run (v := .pointer (some ⟨p, 0, none⟩)) (by rfl) (fun w' _ => by unfold execOp; simp only [Act.eval]; go_simp) ?_
    go_simp
    refine wg_load (v := .int .i64 off) (by rfl) 3 (.tmp 27) (by rfl) (.pointer (some ⟨p, 0, none⟩)) (by rfl) (fun w' hw' => by have hc := (World.cell?_of_block (hw'.block _ (cell_block y0) (by simp))).trans y0; go_simp) ?_
    go_simp
    refine wg_load (by rfl) 34 (.tmp 3) (by rfl) (.pointer (some ⟨p, 0, none⟩)) (by rfl) (fun w' hw' => run_load34 ((hw'.block _ (heap_lt m1) (by simp)).trans m1)) ?_
    go_simp
    refine wg_call (vs := #[.agg #[.int .i64 off, .string (S8 d), .bool fin]]) (by rfl) (by rfl) (by simp [Act.eval]) Try.func33 (by kernel_rfl) (by rfl) (v := .int .i64 (off + (d.length : Int))) (fun w' hw' => ?_) ?_
    · refine (end_any _ off (S8 d) fin (by omega) (by omega) (by have := HSZ.out; omega)).mono ?_
      rintro e w'' ⟨rfl, rfl⟩
      exact ⟨by rw [HSZ.out], grown_trans hw' (World.grownBy_alloc _ _ none)⟩
    go_simp
    refine wg_run (v := .int .i64 E) (by rfl) (fun w' _ => by unfold execOp; simp only [Act.eval]; go_simp) ?_
    go_simp
    refine wpQuiet_nil ?_
    intro W5 hg5
    have HG5 := Lib.hid hg5
    clear hg5 m1 y0 y2 c1
    cases fin
    all_goals
      go_wp2_with (first | (go_at_call 38; refine (HCUT.out _ HG5.out).mono ?_; rintro e w3 ⟨rfl, h3, k3⟩; have z2 := (World.cell?_of_block (k3.block p (heap_lt HM2.out) (fun e => by have := HP.out; rcases e with e | e; have := e.2; omega; omega))).trans (show w2.cell? ⟨p, 2, none⟩ = some (.bool _) by rw [cell_of_row w2 p 2 _ _ _ HM2.out]; rfl); have g8 := h3.cells.2.2.2.2.2.2 8; have g6 := h3.cells.2.2.2.2.2.2 6; have a6 := h3.cells.2.2.2.1; have a8 := h3.cells.2.2.2.2.2.1; have H3 := Lib.hid h3; have K3 := Lib.hid k3; clear h3 k3))
      go_ret
      have kall : Keep w w3 F := (((HKX.out.trans HK1.out (fun _ _ e => e)).mono (T := F) (fun _ _ e => e.elim)).trans K2.out (fun i _ e => e.1)).trans K3.out (fun i hi e => by rcases e with e | e; exact e.1; have := HP.out; omega)
      obtain ⟨l1, l2⟩ := HLAST.out w3 _ H3.out kall (HCD.out _ rfl) z2
      first
        | exact ⟨rfl, (l1 (by first | rfl | trivial)).1, (l1 (by first | rfl | trivial)).2⟩
        | exact ⟨rfl, (l2 (by first | rfl | trivial)).1, (l2 (by first | rfl | trivial)).2⟩

theorem came_no {F : Nat → Prop} {w : World} {S : Nat} {s : Snd} (h : SndAt F w S s) (hb : s.b.length ≤ 199998) (ht : 0 ≤ s.top ∧ s.top ≤ (s.b.length : Int)) (off : Int) (d : List UInt8) (fin : Bool) (hs : sentB s off d fin = false) :
    Calls Try.prog 28 #[.pointer (some ⟨S, 0, none⟩), .agg #[.int .i64 off, .string (S8 d), .bool fin]] w fun e w' =>
      e = .returned (.int .i64 1) ∧ Keep w w' (fun _ => False) := by
  obtain ⟨p, hp⟩ : ∃ p, p = w.heap.size := ⟨_, rfl⟩
  obtain ⟨wx, hwx⟩ : ∃ wx, wx = w.alloc (.cells #[.int .i64 off, .string (S8 d), .bool fin] 34) := ⟨_, rfl⟩
  have kx : Keep w wx (fun _ => False) := by rw [hwx]; exact (Keep.refl w _).alloc _
  have m1 : wx.heap[p]? = some (.cells #[.int .i64 off, .string (S8 d), .bool fin] 34 (0, 0)) := by rw [hwx, hp]; exact heap_alloc_new _ _
  have y0 : wx.cell? ⟨p, 0, none⟩ = some (.int .i64 off) := by rw [cell_of_row wx p 0 _ _ _ m1]; rfl
  have y1 : wx.cell? ⟨p, 1, none⟩ = some (.string (S8 d)) := by rw [cell_of_row wx p 1 _ _ _ m1]; rfl
  have y2 : wx.cell? ⟨p, 2, none⟩ = some (.bool fin) := by rw [cell_of_row wx p 2 _ _ _ m1]; rfl
  have hsent := sent_any (h.keep kx (fun _ _ => id)) hb ht off d fin
  rw [hs] at hsent
  have HSENT := Lib.hid hsent
  have HKX := Lib.hid kx
  clear hsent kx h m1
  go_enter Try.func28, Try.ntmps28
  go_upto_region 1 with fail
  rw [← hwx, ← hp]
  clear hwx hp
  go_wp2_with (first | (go_at_call 40; refine HSENT.out.mono ?_; rintro e w1 ⟨rfl, k1⟩; have HK1 := Lib.hid k1; clear k1))
  go_ret
  exact ⟨rfl, HKX.out.trans HK1.out (fun _ _ e => e)⟩
end Go.Proofs.Ytjnekjjaofabeaa
namespace Go.Proofs.Ytjnekjjaofabeaa
open Go.RowKit Go.Rh Rng
attribute [local go_sem] Oper.semAt_some

def doneB (s : Snd) : Bool := s.ends && (gaps 0 ((s.b.length : Int) - 1) s.came).isEmpty
theorem done_nil (w : World) : Calls Try.prog 19 #[.pointer none] w fun e w' => e = .returned (.bool false) ∧ Keep w w' (fun _ => False) := by
  obtain ⟨p, hp⟩ : ∃ p, p = w.heap.size := ⟨_, rfl⟩
  obtain ⟨wx, hwx⟩ : ∃ wx, wx = w.alloc (.cells #[.bool false] 4) := ⟨_, rfl⟩
  have kx : Keep w wx (fun _ => False) := by rw [hwx]; exact (Keep.refl w _).alloc _
  have m1 : wx.heap[p]? = some (.cells #[.bool false] 4 (0, 0)) := by rw [hwx, hp]; exact heap_alloc_new _ _
  have y0 : wx.cell? ⟨p, 0, none⟩ = some (.bool false) := by rw [cell_of_row wx p 0 _ _ _ m1]; rfl
  have z0 : wx.frozen? ⟨p, 0, none⟩ = false := by simp [World.frozen?, m1]
  have HM := Lib.hid m1
  have HKX := Lib.hid kx
  have HP := Lib.hid hp
  clear kx m1
  refine (callsIn_wide (n := 9)).1 (callsIn_of_wp_marks Try.func19 rfl trivial (wpIn_wide.2 ?_) rfl)
  simp only [Try.ntmps19, List.size_toArray, List.length_cons, List.length_nil, Nat.reduceAdd, Nat.reduceSub, Array.replicate_succ, Array.replicate_zero, List.push_toArray, List.append_toArray, List.nil_append, List.cons_append]
  go_upto_region 1 with fail
  rw [← hwx, ← hp]
  clear hwx hp
  go_wp2_with fail
  exact leave_noneW (results_cell rfl _ rfl (run_loadV4 (set_block HM.out 0 (.bool false)))) ⟨rfl, HKX.out.setCell (.inl (by rw [HP.out]; exact Nat.le_refl _)) _⟩
set_option maxHeartbeats 1000000 in
set_option maxRecDepth 100000 in
theorem done_any {F : Nat → Prop} {w : World} {S : Nat} {s : Snd} (h : SndAt F w S s) (hb : s.b.length ≤ 199998) (hic : InN (s.b.length : Int) s.came) :
    Calls Try.prog 19 #[.pointer (some ⟨S, 0, none⟩)] w fun e w' => e = .returned (.bool (doneB s)) ∧ Keep w w' (fun _ => False) := by
  obtain ⟨p, hp⟩ : ∃ p, p = w.heap.size := ⟨_, rfl⟩
  obtain ⟨wx, hwx⟩ : ∃ wx, wx = w.alloc (.cells #[.bool false] 4) := ⟨_, rfl⟩
  have kx : Keep w wx (fun _ => False) := by rw [hwx]; exact (Keep.refl w _).alloc _
  have m1 : wx.heap[p]? = some (.cells #[.bool false] 4 (0, 0)) := by rw [hwx, hp]; exact heap_alloc_new _ _
  have zx : wx.heap.size = p + 1 := by rw [hwx, hp]; simp
  have y0 : wx.cell? ⟨p, 0, none⟩ = some (.bool false) := by rw [cell_of_row wx p 0 _ _ _ m1]; rfl
  have z0 : wx.frozen? ⟨p, 0, none⟩ = false := by simp [World.frozen?, m1]
  have hx := h.keep kx (fun _ _ => id)
  obtain ⟨-, -, -, -, -, c8, -⟩ := hx.cells
  obtain ⟨vb, c0, hob, -, -⟩ := hx.bytes
  obtain ⟨B, q, cb, hq, rfl⟩ := hob.form
  obtain ⟨cc, FC, c2, hsc, hFC, -⟩ := hx.cameT
  obtain ⟨vc, hsv, fcc, fvc⟩ := hsc
  have hbd : Bd s.came := hic.bd (by omega)
  have hq' : q = s.b.length := hq
  obtain ⟨E, hE⟩ : ∃ E : Int, E = (q : Int) - 1 := ⟨_, rfl⟩
  have hwE : IntKind.i64.wrap ((q : Int) - 1) = E := by rw [IntKind.wrap_i64]; omega
  have hdo : ∀ b, b = (gaps 0 E s.came).isEmpty → doneB s = (s.ends && b) := by intro b e; rw [e, hE, hq']; rfl
  have HDO := Lib.hid hdo
  have HQ := Lib.hid (show E = (q : Int) - 1 ∧ (q : Int) ≤ 199998 from ⟨hE, by omega⟩)
  have HM := Lib.hid m1
  have HKX := Lib.hid kx
  have HP := Lib.hid (show p = w.heap.size ∧ wx.heap.size = p + 1 from ⟨hp, zx⟩)
  have HSV := Lib.hid hsv
  have HBD := Lib.hid hbd
  clear h hx hob hFC hsv fcc fvc hbd hq hq' hE kx m1 hdo zx hic
  refine (callsIn_wide (n := 9)).1 (callsIn_of_wp_marks Try.func19 rfl trivial (wpIn_wide.2 ?_) rfl)
  simp only [Try.ntmps19, List.size_toArray, List.length_cons, List.length_nil, Nat.reduceAdd, Nat.reduceSub, Array.replicate_succ, Array.replicate_zero, List.push_toArray, List.append_toArray, List.nil_append, List.cons_append]
  go_upto_region 1 with fail
  rw [← hwx, ← hp]
  clear hwx hp
  cases he : s.ends with
  | false =>
    rw [he] at c8
    have HE := Lib.hid he
    clear he
    go_wp2_with fail
    exact leave_noneW (results_cell rfl _ rfl (run_loadV4 (set_block HM.out 0 (.bool false)))) ⟨by rw [HDO.out _ rfl, HE.out]; rfl, HKX.out.setCell (.inl (by have := HP.out; show w.heap.size ≤ p; omega)) _⟩
  | true =>
    rw [he] at c8
    have HE := Lib.hid he
    clear he
    go_upto_region 3 with fail
    go_region_held3 (fun w' => w'.cell? ⟨S, 2, none⟩ = some (.pointer (some ⟨cc, 0, none⟩)) ∧ w'.cell? ⟨S, 0, none⟩ = some (.slice B q cb) ∧ w'.cell? ⟨p, 0, none⟩ = some (.bool false))
      ((refine ⟨?_, ?_, ?_⟩ <;> (repeat (first | assumption | (with_reducible refine cellD ?_) | (with_reducible refine cellA ?_)))))
      (first | (go_at_call 35; refine (gaps_any _ cc 0 E).mono ?_; rintro e w' ⟨rfl, rfl⟩))
    obtain ⟨Z, hZ⟩ : ∃ Z, Z = wx.heap.size := ⟨_, rfl⟩
    obtain ⟨w5, hw5⟩ : ∃ w5, w5 = (((wx.alloc (.cells #[.pointer (some ⟨cc, 0, none⟩)] 73)).alloc (.cells #[.int .i64 0] 3)).alloc (.cells #[.int .i64 E] 3)).drew := ⟨_, rfl⟩
    have k5 : Keep wx w5 (fun _ => False) := by rw [hw5]; exact (((Keep.refl wx _).alloc _).alloc _).alloc _ |>.drew
    have z5 : w5.heap.size = Z + 3 := by rw [hw5, hZ]; simp
    have g3 : w5.heap[Z]? = some (.cells #[.pointer (some ⟨cc, 0, none⟩)] 73 (0, 0)) := by rw [hw5, hZ]; exact (heap3 _ _ _ _).1
    have g1 : w5.heap[Z + 1]? = some (.cells #[.int .i64 0] 3 (0, 0)) := by rw [hw5, hZ]; exact (heap3 _ _ _ _).2.1
    have g2 : w5.heap[Z + 2]? = some (.cells #[.int .i64 E] 3 (0, 0)) := by rw [hw5, hZ]; exact (heap3 _ _ _ _).2.2
    rw [← hw5, ← hZ]
    have HZ5 : Hid (w5.heap.size = Z + 3 ∧ Z = p + 1) := ⟨z5, by rw [hZ]; exact HP.out.2⟩
    have HKW5 : Hid (Keep w w5 (fun _ => False)) := HKX.out.trans k5 (fun _ _ e => e)
    have HM5 : Hid (w5.heap[p]? = some (.cells #[.bool false] 4 (0, 0))) := (k5.block p (heap_lt HM.out) id).trans HM.out
    have HQ1 := Lib.hid g1
    have HQ2 := Lib.hid g2
    have HQ3 := Lib.hid g3
    have HSC5 := Lib.hid (HSV.out.keep k5 id (fun _ _ => id))
    clear hw5 k5 z5 g1 g2 g3 hZ y0 z0 c0 c2 c8 hwE
    go_wp2_with fail
    refine wp_rangeFunc_X (gf := 43) (lb := #[.pointer (some ⟨Z + 1, 0, none⟩), .pointer (some ⟨Z + 2, 0, none⟩), .pointer (some ⟨Z, 0, none⟩)]) (encs := encP) (bs := fun k => k = Z + 2) (M := fun B r => r = B + 1) (xs := gaps 0 E s.came) rfl (enters_of Try.func43 (by kernel_rfl) rfl) (fun k hk => by have := HZ5.out; omega) (gapE 0 E vc s.came (w5.heap.size + 2))
      (fun W1 hs hold => by rw [← hs]; exact gaps_seq ((hold _ (heap_lt HQ1.out)).trans HQ1.out) ((hold _ (heap_lt HQ2.out)).trans HQ2.out) ((hold _ (heap_lt HQ3.out)).trans HQ3.out) (HSC5.out.old hold) (by omega) (by have := HQ.out; omega) HBD.out) (fun _ => rfl)
      (fun pre W => pre = [] ∧ Keep w5 W (fun _ => False)) (fun c pre W => c = .ret ∧ pre ≠ [] ∧ W.heap[p]? = some (.cells #[.bool false] 4 (0, 0)) ∧ Keep w5 W (fun k => k = p)) ?hI ?hIx ⟨rfl, Keep.refl _ _⟩
      (fun t => { tmps := #[.pointer (some ⟨S, 0, none⟩), undef, .pointer (some ⟨p, 0, none⟩), .pointer (some ⟨S, 0, none⟩), .bool false, .bool false, .pointer (some ⟨S, 0, none⟩), .pointer (some ⟨S, 0, none⟩), .pointer (some ⟨S, 8, none⟩), .bool true, .bool false, .bool false, .pointer (some ⟨S, 0, none⟩), .pointer (some ⟨S, 0, none⟩), .pointer (some ⟨S, 2, none⟩), .pointer (some ⟨cc, 0, none⟩), .pointer (some ⟨S, 0, none⟩), .pointer (some ⟨S, 0, none⟩), .pointer (some ⟨S, 0, none⟩), .slice B q cb, .int .i64 (q : Int), .int .i64 E, .func (.func 43) #[] #[.pointer (some ⟨Z + 1, 0, none⟩), .pointer (some ⟨Z + 2, 0, none⟩), .pointer (some ⟨Z, 0, none⟩)], .int .i64 t.1, .int .i64 t.2], defers := [] }) ?assign ?body ?done ?stop
    case hI =>
      rintro pre X' X2 row ⟨e, hk⟩ hg hr
      exact ⟨e, hk.trans (Keep.of_grown (S := fun k => w5.heap.size ≤ k) hg (fun k _ e => (hr k e).1)) (fun i hi e => absurd e (by omega))⟩
    case hIx =>
      rintro c pre X' X2 row ⟨e, e2, e3, hk⟩ hg hr
      exact ⟨e, e2, (hg.block p (heap_lt e3) (fun e => by have := (hr p e.symm).1; have := HZ5.out; omega)).trans e3, hk.trans (Keep.of_grown (S := fun k => w5.heap.size ≤ k) hg (fun k _ e => (hr k e).1)) (fun i hi e => absurd e (by omega))⟩
    case assign =>
      intro l' t W1 K hK
      simp only [encP]
      gi_wp2
      simp
      exact hK
    case body =>
      rintro l' pre t rest W1 hx hE1 ⟨rfl, hk⟩
      have tw : W1.heap[p]? = _ := (hk.block p (heap_lt HM5.out) id).trans HM5.out
      have cw : W1.cell? ⟨p, 0, none⟩ = some (.bool false) := by rw [cell_of_row W1 p 0 _ _ _ tw]; rfl
      have fw : W1.frozen? ⟨p, 0, none⟩ = false := by simp [World.frozen?, tw]
      have HTW := Lib.hid tw
      have HKB := Lib.hid hk
      clear tw hk hx hE1
      gi_wp2
      exact ⟨⟨by simp, fun k hk => Below.heap_setCell W1 _ _ k (by have := hk.resolve_left id; have := HZ5.out; simp; omega)⟩, by first | rfl | trivial, by simp, set_block HTW.out 0 _, Keep.setCell (S := fun k => k = p) (HKB.out.mono (fun _ _ e => e.elim)) (.inr rfl) _⟩
    case done =>
      rintro D W6 hD hE3 ⟨hx, hk⟩ hdef
      have tw : W6.heap[p]? = _ := (hk.block p (heap_lt HM5.out) id).trans HM5.out
      have cw : W6.cell? ⟨p, 0, none⟩ = some (.bool false) := by rw [cell_of_row W6 p 0 _ _ _ tw]; rfl
      have fw : W6.frozen? ⟨p, 0, none⟩ = false := by simp [World.frozen?, tw]
      have hdo : doneB s = true := by rw [HDO.out _ rfl, HE.out, hx]; rfl
      have HDO2 := Lib.hid hdo
      have HTW := Lib.hid tw
      have HK := Lib.hid hk
      have HDEF := Lib.hid hdef
      have HD := Lib.hid hD
      clear hdo tw hk hdef hD hE3 hx
      go_wp2_with fail
      have hD := HD.out
      have hz := HZ5.out
      have hp := HP.out
      have hpD : p ≠ D := by omega
      have hd : (W6.setCell ⟨p, 0, none⟩ (.bool true)).heap[D]? = some (.deferred (some [])) := by rw [Below.heap_setCell _ _ _ D (by simp; omega)]; exact HDEF.out
      have kP : Keep (W6.setCell ⟨p, 0, none⟩ (.bool true)) ((W6.setCell ⟨p, 0, none⟩ (.bool true)).putObj D (.deferred none)) (fun k => k = D) := ⟨rfl, rfl, rfl, by simp, fun k _ hk => World.putObj_heap_other hk⟩
      refine leave_markW (D := D) hd (results_cell rfl _ rfl (run_loadV4 ((World.putObj_heap_other hpD).trans (set_block HTW.out 0 (.bool true))))) ⟨by rw [HDO2.out], ?_⟩
      exact ((HKW5.out.trans HK.out (fun _ _ e => e)).setCell (.inl (by show w.heap.size ≤ p; omega)) _).trans kP (fun i hi e => by have := HKW5.out.size; omega)
    case stop =>
      rintro D c pre W6 hD hE3 hpre ⟨rfl, hne, tw, hk⟩ hdef
      have hdo : doneB s = false := by
        rw [HDO.out _ rfl, HE.out]
        obtain ⟨rest, hr⟩ := hpre
        cases pre with
        | nil => exact absurd rfl hne
        | cons a pre => rw [← hr]; rfl
      have hp := HP.out
      have hz := HZ5.out
      have hpD : p ≠ D := by omega
      have kP : Keep W6 (W6.putObj D (.deferred none)) (fun k => k = D) := ⟨rfl, rfl, rfl, by simp, fun k _ hk => World.putObj_heap_other hk⟩
      have hl := run_loadV4 ((World.putObj_heap_other (w := W6) (o := .deferred none) hpD).trans tw)
      have hkk : Keep w (W6.putObj D (.deferred none)) (fun _ => False) := (HKW5.out.trans hk (fun i hi e => by omega)).trans kP (fun i hi e => by have := HKW5.out.size; omega)
      have HL := Lib.hid hl
      have HKK := Lib.hid hkk
      have HDEF := Lib.hid hdef
      have HDO2 := Lib.hid hdo
      clear hl hkk hdef hdo hp hz hpD kP hne tw hk hpre hE3 hD
      go_wp2_with fail
      exact leave_markW (D := D) HDEF.out (results_cell rfl _ rfl HL.out) ⟨by rw [HDO2.out], HKK.out⟩
end Go.Proofs.Ytjnekjjaofabeaa
