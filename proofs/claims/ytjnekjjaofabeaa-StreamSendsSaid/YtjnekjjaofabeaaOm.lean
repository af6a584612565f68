/-
  The sending end: a piece with the end (fin, f39).
-/
import Derived.Test.YtjnekjjaofabeaaOl
import Derived.BigQuiet
namespace Go.Proofs.Ytjnekjjaofabeaa
open Go.RowKit Go.Rh Rng
attribute [local go_sem] Oper.semAt_some

theorem results_cell {P : Program} {fn : Func} {t : Tmp} {ty : TypeId} (h : fn.results = #[.cell t ty]) (tmps : Array Value) {w : World} {v : Value} {p : Addr} (hp : tmps.getD t undef = .pointer (some p)) (hl : (loadVar ty p).run P w = .ok v w) : (results fn tmps).run P w = .ok v w := by
  simp at hp
  simp [results, h, hp, asAddr, hl]
theorem results_cell2 {P : Program} {fn : Func} {t u : Tmp} {ty uy : TypeId} (h : fn.results = #[.cell t ty, .cell u uy]) (tmps : Array Value) {w : World} {v x : Value} {p q : Addr} (hp : tmps.getD t undef = .pointer (some p)) (hq : tmps.getD u undef = .pointer (some q)) (hl : (loadVar ty p).run P w = .ok v w) (hl2 : (loadVar uy q).run P w = .ok x w) : (results fn tmps).run P w = .ok (.tuple #[v, x]) w := by
  simp at hp hq
  simp [results, h, hp, hq, asAddr, hl, hl2]
theorem run_load34 {w : World} {y : Nat} {off : Int} {d : ByteArray} {f : Bool} (h : w.heap[y]? = some (.cells #[.int .i64 off, .string d, .bool f] 34 (0, 0))) : (Instr.loadAt 34 (.pointer (some ⟨y, 0, none⟩))).run Try.prog w = .ok (.agg #[.int .i64 off, .string d, .bool f]) w := by
  have c0 : w.cell? ⟨y, 0, none⟩ = some (.int .i64 off) := by rw [cell_of_row w y 0 _ _ _ h]; rfl
  have c1 : w.cell? ⟨y, 1, none⟩ = some (.string d) := by rw [cell_of_row w y 1 _ _ _ h]; rfl
  have c2 : w.cell? ⟨y, 2, none⟩ = some (.bool f) := by rw [cell_of_row w y 2 _ _ _ h]; rfl
  go_simp
theorem run_loadV34 {w : World} {y : Nat} {off : Int} {d : ByteArray} {f : Bool} (h : w.heap[y]? = some (.cells #[.int .i64 off, .string d, .bool f] 34 (0, 0))) : (loadVar 34 ⟨y, 0, none⟩).run Try.prog w = .ok (.agg #[.int .i64 off, .string d, .bool f]) w := by
  have c0 : w.cell? ⟨y, 0, none⟩ = some (.int .i64 off) := by rw [cell_of_row w y 0 _ _ _ h]; rfl
  have c1 : w.cell? ⟨y, 1, none⟩ = some (.string d) := by rw [cell_of_row w y 1 _ _ _ h]; rfl
  have c2 : w.cell? ⟨y, 2, none⟩ = some (.bool f) := by rw [cell_of_row w y 2 _ _ _ h]; rfl
  go_simp
theorem run_loadV4 {w : World} {y : Nat} {f : Bool} (h : w.heap[y]? = some (.cells #[.bool f] 4 (0, 0))) : (loadVar 4 ⟨y, 0, none⟩).run Try.prog w = .ok (.bool f) w := by
  have c0 : w.cell? ⟨y, 0, none⟩ = some (.bool f) := by rw [cell_of_row w y 0 _ _ _ h]; rfl
  go_simp

def finF (s : Snd) (off : Int) (n : Nat) : Bool := s.endTodo && decide (off + (n : Int) = (s.b.length : Int))
def finS (s : Snd) (off : Int) (n : Nat) : Snd := if finF s off n = true then { s with endTodo := false, endSent := true } else s
set_option maxHeartbeats 1000000 in
set_option maxRecDepth 100000 in
theorem fin_any {F : Nat → Prop} {w : World} {S : Nat} {s : Snd} (h : SndAt F w S s) (hb : s.b.length ≤ 1000000) (off : Int) (d : ByteArray) (h0 : -4611686018427387904 ≤ off) (h1 : off ≤ 4611686018427387904) (h2 : d.size ≤ 1000000) :
    Calls Try.prog 39 #[.pointer (some ⟨S, 0, none⟩), .agg #[.int .i64 off, .string d, .bool false]] w fun e w' =>
      e = .returned (.agg #[.int .i64 off, .string d, .bool (finF s off d.size)]) ∧ SndAt F w' S (finS s off d.size) ∧ Keep w w' F := by
  obtain ⟨c3, c4, c5, c6, c7, c8, cf⟩ := h.cells
  obtain ⟨vb, c0, hob, hfb, -⟩ := h.bytes
  obtain ⟨B, q, cb, hq, rfl⟩ := hob.form
  have hF := h.own
  have hlt := h.lt
  have g6 := cf 6
  have g7 := cf 7
  obtain ⟨x, hx⟩ : ∃ x, x = w.heap.size := ⟨_, rfl⟩
  obtain ⟨y, hy⟩ : ∃ y, y = w.heap.size + 1 := ⟨_, rfl⟩
  obtain ⟨wx, hwx⟩ : ∃ wx, wx = (w.alloc (.cells #[.int .i64 off, .string d, .bool false] 34)).alloc (.cells #[.int .i64 0, .string ⟨#[]⟩, .bool false] 34) := ⟨_, rfl⟩
  have kx : Keep w wx (fun _ => False) := by rw [hwx]; exact ((Keep.refl w _).alloc _).alloc _
  have m1 : wx.heap[x]? = some (.cells #[.int .i64 off, .string d, .bool false] 34 (0, 0)) := by rw [hwx, hx]; exact (heap2 _ _ _).1
  have m2 : wx.heap[y]? = some (.cells #[.int .i64 0, .string ⟨#[]⟩, .bool false] 34 (0, 0)) := by rw [hwx, hy]; exact (heap2 _ _ _).2
  have e0 : wx.cell? ⟨S, 0, none⟩ = some (.slice B q cb) := (World.cell?_of_block (kx.block S hlt id)).trans c0
  have e6 : wx.cell? ⟨S, 6, none⟩ = some (.bool s.endTodo) := (World.cell?_of_block (kx.block S hlt id)).trans c6
  have x0 : wx.cell? ⟨x, 0, none⟩ = some (.int .i64 off) := by rw [cell_of_row wx x 0 _ _ _ m1]; rfl
  have x1 : wx.cell? ⟨x, 1, none⟩ = some (.string d) := by rw [cell_of_row wx x 1 _ _ _ m1]; rfl
  have x2 : wx.cell? ⟨x, 2, none⟩ = some (.bool false) := by rw [cell_of_row wx x 2 _ _ _ m1]; rfl
  have y0 : wx.cell? ⟨y, 0, none⟩ = some (.int .i64 0) := by rw [cell_of_row wx y 0 _ _ _ m2]; rfl
  have y1 : wx.cell? ⟨y, 1, none⟩ = some (.string ⟨#[]⟩) := by rw [cell_of_row wx y 1 _ _ _ m2]; rfl
  have y2 : wx.cell? ⟨y, 2, none⟩ = some (.bool false) := by rw [cell_of_row wx y 2 _ _ _ m2]; rfl
  have z0 : wx.frozen? ⟨y, 0, none⟩ = false := by simp [World.frozen?, m2]
  have z1 : wx.frozen? ⟨y, 1, none⟩ = false := by simp [World.frozen?, m2]
  have z2 : wx.frozen? ⟨y, 2, none⟩ = false := by simp [World.frozen?, m2]
  have z3 : wx.frozen? ⟨x, 2, none⟩ = false := by simp [World.frozen?, m1]
  have eS := kx.block S hlt id
  have e7 : wx.cell? ⟨S, 7, none⟩ = some (.bool s.endSent) := (World.cell?_of_block eS).trans c7
  have z6 : wx.frozen? ⟨S, 6, none⟩ = false := by rw [← g6]; simp [World.frozen?, eS]
  have z7 : wx.frozen? ⟨S, 7, none⟩ = false := by rw [← g7]; simp [World.frozen?, eS]
  have hxy : ¬ x = y := by omega
  have hyx : ¬ y = x := by omega
  have hSx : ¬ S = x := by omega
  have hSy : ¬ S = y := by omega
  have hxS : ¬ x = S := by omega
  have hyS : ¬ y = S := by omega
  have HM1 := Lib.hid m1
  have HM2 := Lib.hid m2
  have HKX := Lib.hid kx
  have HLT := Lib.hid hlt
  clear eS kx m1 m2 hlt
  have HH := Lib.hid h
  have HQ := Lib.hid hq
  have HX := Lib.hid hx
  have HY := Lib.hid hy
  clear h hob hfb hq cf
  cases het : s.endTodo with
  | false =>
    rw [het] at c6 e6
    have HET := Lib.hid het
    clear het
    go_enter Try.func39, Try.ntmps39
    go_upto_region 1 with fail
    rw [← hwx, ← hy, ← hx]
    clear hwx hx hy
    go_quiet (fail)
    all_goals
      go_wp2_with fail
      have hff : finF s off d.size = false := by unfold finF; rw [HET.out]; rfl
      have m3 : ((((wx.drewN nq).setCell ⟨y, 0, none⟩ (.int .i64 off)).setCell ⟨y, 1, none⟩ (.string d)).setCell ⟨y, 2, none⟩ (.bool false)).heap[y]? = some (.cells #[.int .i64 off, .string d, .bool false] 34 (0, 0)) := set_block (set_block (set_block HM2.out 0 _) 1 _) 2 _
      have hyw : w.heap.size ≤ y := by rw [HY.out]; omega
      refine bodyPost_ret (results_cell rfl _ rfl (run_loadV34 m3)) rfl ?_
      have kf := (((HKX.out.drewN nq).setCell (p := ⟨y, 0, none⟩) (.inl hyw) (.int .i64 off)).setCell (p := ⟨y, 1, none⟩) (.inl hyw) (.string d)).setCell (p := ⟨y, 2, none⟩) (.inl hyw) (.bool false)
      refine ⟨by rw [hff], ?_, kf.mono (fun _ _ e => e.elim)⟩
      unfold finS
      rw [if_neg (by rw [hff]; decide)]
      exact HH.out.keep kf (fun _ _ => id)
  | true =>
    rw [het] at c6 e6
    have HET := Lib.hid het
    clear het
    go_enter Try.func39, Try.ntmps39
    go_upto_region 1 with fail
    rw [← hwx, ← hy, ← hx]
    clear hwx hx hy
    obtain ⟨v, hv⟩ : ∃ v, (off + (d.size : Int) == (q : Int)) = v := ⟨_, rfl⟩
    go_region_held3 (fun w' => w'.cell? ⟨S, 6, none⟩ = some (.bool true) ∧ w'.cell? ⟨S, 0, none⟩ = some (.slice B q cb) ∧ w'.cell? ⟨x, 0, none⟩ = some (.int .i64 off) ∧ w'.cell? ⟨x, 1, none⟩ = some (.string d) ∧ w'.cell? ⟨x, 2, none⟩ = some (.bool false)) (go_keep)
      (first | (go_at_call 33; refine (end_any _ off d false (by omega) (by omega) (by omega)).mono ?_; rintro e w' ⟨rfl, rfl⟩))
    obtain ⟨w3, hw3⟩ : ∃ w3, w3 = (wx.alloc (.cells #[.int .i64 off, .string d, .bool false] 34)).drew := ⟨_, rfl⟩
    have k3 : Keep wx w3 (fun _ => False) := by rw [hw3]; exact ((Keep.refl wx _).alloc _).drew
    rw [← hw3]
    have bS := k3.block S (by have := HKX.out.size; have := HLT.out; omega) id
    have bx := k3.block x (heap_lt HM1.out) id
    have by' := k3.block y (heap_lt HM2.out) id
    have HK3 := Lib.hid k3
    have t6 : w3.cell? ⟨S, 6, none⟩ = some (.bool true) := (World.cell?_of_block bS).trans e6
    have t7 : w3.cell? ⟨S, 7, none⟩ = some (.bool s.endSent) := (World.cell?_of_block bS).trans e7
    have u6 : w3.frozen? ⟨S, 6, none⟩ = false := by rw [← z6]; simp [World.frozen?, bS]
    have u7 : w3.frozen? ⟨S, 7, none⟩ = false := by rw [← z7]; simp [World.frozen?, bS]
    have tx0 : w3.cell? ⟨x, 0, none⟩ = some (.int .i64 off) := (World.cell?_of_block bx).trans x0
    have tx1 : w3.cell? ⟨x, 1, none⟩ = some (.string d) := (World.cell?_of_block bx).trans x1
    have tx2 : w3.cell? ⟨x, 2, none⟩ = some (.bool false) := (World.cell?_of_block bx).trans x2
    have ux2 : w3.frozen? ⟨x, 2, none⟩ = false := by rw [← z3]; simp [World.frozen?, bx]
    have ty0 : w3.cell? ⟨y, 0, none⟩ = some (.int .i64 0) := (World.cell?_of_block by').trans y0
    have ty1 : w3.cell? ⟨y, 1, none⟩ = some (.string ⟨#[]⟩) := (World.cell?_of_block by').trans y1
    have ty2 : w3.cell? ⟨y, 2, none⟩ = some (.bool false) := (World.cell?_of_block by').trans y2
    have uy0 : w3.frozen? ⟨y, 0, none⟩ = false := by rw [← z0]; simp [World.frozen?, by']
    have uy1 : w3.frozen? ⟨y, 1, none⟩ = false := by rw [← z1]; simp [World.frozen?, by']
    have uy2 : w3.frozen? ⟨y, 2, none⟩ = false := by rw [← z2]; simp [World.frozen?, by']
    have HMY : Hid (w3.heap[y]? = some (.cells #[.int .i64 0, .string ⟨#[]⟩, .bool false] 34 (0, 0))) := by'.trans HM2.out
    have HMX : Hid (w3.heap[x]? = some (.cells #[.int .i64 off, .string d, .bool false] 34 (0, 0))) := bx.trans HM1.out
    clear hw3 k3 bS bx by' e0 e6 e7 x0 x1 x2 y0 y1 y2 z0 z1 z2 z3 z6 z7
    have hxw : w.heap.size ≤ x := by rw [HX.out]; exact Nat.le_refl _
    have hyw : w.heap.size ≤ y := by rw [HY.out]; omega
    have HK : Hid (Keep w w3 (fun _ => False)) := HKX.out.trans HK3.out (fun _ _ e => e)
    have HXW := Lib.hid hxw
    have HYW := Lib.hid hyw
    have HV := Lib.hid hv
    clear hxw hyw
    cases v with
    | false =>
      have hff : finF s off d.size = false := by
        unfold finF
        rw [HET.out, ← HQ.out]
        have := HV.out
        rw [Bool.eq_false_iff, Ne, beq_iff_eq] at this
        simpa using this
      have HFF := Lib.hid hff
      clear hff
      go_wp2_with fail
      have m3 : (((w3.setCell ⟨y, 0, none⟩ (.int .i64 off)).setCell ⟨y, 1, none⟩ (.string d)).setCell ⟨y, 2, none⟩ (.bool false)).heap[y]? = some (.cells #[.int .i64 off, .string d, .bool false] 34 (0, 0)) := set_block (set_block (set_block HMY.out 0 _) 1 _) 2 _
      refine bodyPost_ret (results_cell rfl _ rfl (run_loadV34 m3)) rfl ?_
      have kf := ((HK.out.setCell (p := ⟨y, 0, none⟩) (.inl HYW.out) (.int .i64 off)).setCell (p := ⟨y, 1, none⟩) (.inl HYW.out) (.string d)).setCell (p := ⟨y, 2, none⟩) (.inl HYW.out) (.bool false)
      refine ⟨by rw [HFF.out], ?_, kf.mono (fun _ _ e => e.elim)⟩
      unfold finS
      rw [if_neg (by rw [HFF.out]; decide)]
      exact HH.out.keep kf (fun _ _ => id)
    | true =>
      have hff : finF s off d.size = true := by
        unfold finF
        rw [HET.out, ← HQ.out]
        have := HV.out
        rw [beq_iff_eq] at this
        simpa using this
      have HFF := Lib.hid hff
      clear hff
      go_wp2_with fail
      have my : (((w3.setCell ⟨x, 2, none⟩ (.bool true)).setCell ⟨S, 6, none⟩ (.bool false)).setCell ⟨S, 7, none⟩ (.bool true)).heap[y]? = some (.cells #[.int .i64 0, .string ⟨#[]⟩, .bool false] 34 (0, 0)) := by
        rw [Below.heap_setCell _ _ _ y (by first | exact hSy | exact hyS), Below.heap_setCell _ _ _ y (by first | exact hSy | exact hyS), Below.heap_setCell _ _ _ y (by first | exact hxy | exact hyx)]
        exact HMY.out
      have m3 := set_block (set_block (set_block my 0 (.int .i64 off)) 1 (.string d)) 2 (.bool true)
      refine bodyPost_ret (results_cell rfl _ rfl (run_loadV34 (off := off) (d := d) (f := true) m3)) rfl ?_
      have kf := (((((HK.out.mono (T := F) (fun _ _ e => e.elim)).setCell (p := ⟨x, 2, none⟩) (.inl HXW.out) (.bool true)).setCell (p := ⟨S, 6, none⟩) (.inr hF) (.bool false)).setCell (p := ⟨S, 7, none⟩) (.inr hF) (.bool true)).setCell (p := ⟨y, 0, none⟩) (.inl HYW.out) (.int .i64 off)).setCell (p := ⟨y, 1, none⟩) (.inl HYW.out) (.string d) |>.setCell (p := ⟨y, 2, none⟩) (.inl HYW.out) (.bool true)
      refine ⟨by rw [HFF.out], ?_, kf⟩
      unfold finS
      rw [if_pos HFF.out]
      have s0 := (HH.out.mono (G := fun i => F i ∧ i < w.heap.size) (fun i hi hf => ⟨hf, hi⟩)).keep HK.out (fun _ _ => id)
      have hxw := HXW.out
      have hyw := HYW.out
      have s1 := s0.keep (Keep.setCell (S := fun k => k = x) (Keep.refl w3 _) (p := ⟨x, 2, none⟩) (.inr rfl) (.bool true)) (fun i hi e => by have := hi.2; omega)
      have s2 := (s1.set 6 (.bool false) { s with endTodo := false } (fun _ _ _ => rfl) rfl rfl rfl).set 7 (.bool true) { s with endTodo := false, endSent := true } (fun _ _ _ => rfl) rfl rfl rfl
      exact (s2.keep (((Keep.setCell (S := fun k => k = y) (Keep.refl _ _) (p := ⟨y, 0, none⟩) (.inr rfl) (.int .i64 off)).setCell (p := ⟨y, 1, none⟩) (.inr rfl) (.string d)).setCell (p := ⟨y, 2, none⟩) (.inr rfl) (.bool true)) (fun i hi e => by have := hi.2; omega)).mono (fun i _ hi => hi.1)
end Go.Proofs.Ytjnekjjaofabeaa
