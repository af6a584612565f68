/-
  The sending end: what is to be sent next: Next (f15). The plain part; a function that held a loop returns by its boxed results.
-/
import Derived.Test.YtjnekjjaofabeaaOm
import Derived.Deep.DeepCutAuto
namespace Go.Rh
open Go.RowKit
variable {P : Program}
/-- As leave_mark, where the results are read in that world alone. -/
theorem leave_markW {F : Fence} {n : Nat} {fn : Func} {tmps : Array Value} {R : Ending → World → Prop} {D : Nat} {w : World} {v : Value} (hK : w.heap[D]? = some (.deferred (some []))) (hv : (results fn tmps).run P (w.putObj D (.deferred none)) = .ok v (w.putObj D (.deferred none)))
    (hR : R (.returned v) (w.putObj D (.deferred none))) : LeavesInM F n P fn tmps R [{ target := .collected D, args := #[] }] .returning w :=
  ⟨by simp, .inl ⟨_, _, rfl, run_takeDeferred hK, _, hv, hR⟩⟩
theorem leave_noneW {F : Fence} {n : Nat} {fn : Func} {tmps : Array Value} {R : Ending → World → Prop} {w : World} {v : Value} (hv : (results fn tmps).run P w = .ok v w) (hR : R (.returned v) w) : LeavesInM F n P fn tmps R [] .returning w :=
  ⟨_, hv, hR⟩
end Go.Rh
namespace Go.Proofs.Ytjnekjjaofabeaa
open Go.RowKit Go.Rh Rng
attribute [local go_sem] Oper.semAt_some

/-- A turn of blocks that hold no cells leaves it as it is. -/
theorem SndAt.other {F S' : Nat → Prop} {w w' : World} {S : Nat} {s : Snd} (h : SndAt F w S s) (k : Keep w w' S') (hS : ∀ i, S' i → ∃ o : Obj, w.heap[i]? = some o ∧ o.isCells = false) : SndAt F w' S s := by
  have no : ∀ {i : Nat} {cs : Array Value} {t : TypeId} {fr : Nat × Nat}, w.heap[i]? = some (.cells cs t fr) → ¬ S' i := by
    intro i cs t fr e hi
    obtain ⟨o, e1, e2⟩ := hS i hi
    rw [e] at e1; injection e1 with e1; subst e1
    cases e2
  obtain ⟨vb, ct, vt, cc, vc, h1, h2, h3, h4, f1, f2, f3, f4, f5, f6, n1, n2⟩ := h
  exact ⟨vb, ct, vt, cc, vc, (k.block S (heap_lt h1) (no h1)).trans h1, h2.keep k (fun i hi => by obtain ⟨cs, fr, e⟩ := own_row h2 hi; exact no e), h3.keep k (no h3.row) (fun i hi => by obtain ⟨cs, e⟩ := h3.2.1.row hi; exact no e), h4.keep k (no h4.row) (fun i hi => by obtain ⟨cs, e⟩ := h4.2.1.row hi; exact no e), f1, f2, f3, f4, f5, f6, n1, n2⟩

/-- How far the first range goes that is sent. -/
def nextE (s : Snd) (x : Sp) (most : Int) : Int := min (min (x.2 + 1) (x.1 + min most (s.b.length : Int))) s.limit
/-- Behind it: what is left to be sent, and up to where one was. -/
def nextS (s : Snd) (x : Sp) (most : Int) : Snd := { s with todo := cutL x.1 (nextE s x most - 1) s.todo, top := max s.top (nextE s x most) }
def nextD (s : Snd) (x : Sp) (most : Int) : List UInt8 := (s.b.drop x.1.toNat).take (nextE s x most - x.1).toNat
def nextEnd (s : Snd) : Value × Snd :=
  if s.endTodo = false ∨ s.limit < (s.b.length : Int) then (.tuple #[.agg #[.int .i64 0, .string ⟨#[]⟩, .bool false], .bool false], s)
  else (.tuple #[.agg #[.int .i64 (s.b.length : Int), .string ⟨#[]⟩, .bool (finF s (s.b.length : Int) 0)], .bool true], finS s (s.b.length : Int) 0)
/-- The next piece, and what is left. -/
def nextR (s : Snd) (most : Int) : Value × Snd :=
  match s.todo with
  | [] => nextEnd s
  | x :: _ => if nextE s x most ≤ x.1 then nextEnd s
    else (.tuple #[.agg #[.int .i64 x.1, .string (S8 (nextD s x most)), .bool (finF (nextS s x most) x.1 (nextD s x most).length)], .bool true], finS (nextS s x most) x.1 (nextD s x most).length)

set_option maxHeartbeats 4000000 in
set_option maxRecDepth 100000 in
theorem next_any {F : Nat → Prop} {w : World} {S : Nat} {s : Snd} (h : SndAt F w S s) {most : Int} (hm : 1 ≤ most) (hm2 : most ≤ 9223372036854775807) (hb : s.b.length ≤ 199998) (hin : InN (s.b.length : Int) s.todo) (hl : 0 ≤ s.limit ∧ s.limit ≤ 1099511627776) (ht : 0 ≤ s.top ∧ s.top ≤ 1099511627776) :
    Calls Try.prog 15 #[.pointer (some ⟨S, 0, none⟩), .int .i64 most] w fun e w' => e = .returned (nextR s most).1 ∧ SndAt (More F w) w' S (nextR s most).2 ∧ Keep w w' F := by
  obtain ⟨c3, c4, c5, c6, c7, c8, cf⟩ := h.cells
  obtain ⟨vb, c0, hob, hfb, -⟩ := h.bytes
  obtain ⟨B, q, cb, hq, rfl⟩ := hob.form
  have hF := h.own
  have hlt := h.lt
  obtain ⟨p, hp⟩ : ∃ p, p = w.heap.size := ⟨_, rfl⟩
  obtain ⟨wx, hwx⟩ : ∃ wx, wx = (((w.alloc (.cells #[.pointer (some ⟨S, 0, none⟩)] 40)).alloc (.cells #[.int .i64 most] 3)).alloc (.cells #[.int .i64 0, .string ⟨#[]⟩, .bool false] 34)).alloc (.cells #[.bool false] 4) := ⟨_, rfl⟩
  have hm' : ¬ most < 1 := by omega
  obtain ⟨p1, hp1⟩ : ∃ p1, p1 = w.heap.size + 1 := ⟨_, rfl⟩
  obtain ⟨p2, hp2⟩ : ∃ p2, p2 = w.heap.size + 1 + 1 := ⟨_, rfl⟩
  obtain ⟨p3, hp3⟩ : ∃ p3, p3 = w.heap.size + 1 + 1 + 1 := ⟨_, rfl⟩
  have kx : Keep w wx (fun _ => False) := by rw [hwx]; exact ((((Keep.refl w _).alloc _).alloc _).alloc _).alloc _
  have zx : wx.heap.size = p + 4 := by rw [hwx, hp]; simp
  have m3 : wx.heap[p3]? = some (.cells #[.bool false] 4 (0, 0)) := by
    rw [hwx, hp3]
    have := heap_alloc_new (((w.alloc (.cells #[.pointer (some ⟨S, 0, none⟩)] 40)).alloc (.cells #[.int .i64 most] 3)).alloc (.cells #[.int .i64 0, .string ⟨#[]⟩, .bool false] 34)) (.cells #[.bool false] 4)
    simpa using this
  have old : ∀ i u, i < p + 3 → (((w.alloc (.cells #[.pointer (some ⟨S, 0, none⟩)] 40)).alloc (.cells #[.int .i64 most] 3)).alloc (.cells #[.int .i64 0, .string ⟨#[]⟩, .bool false] 34)).heap[i]? = some u → wx.heap[i]? = some u := fun i u hi hu => by
    rw [hwx]
    exact (heap_old _ _ i (by simp; omega)).trans hu
  have m0 : wx.heap[p]? = some (.cells #[.pointer (some ⟨S, 0, none⟩)] 40 (0, 0)) := old _ _ (by omega) (by rw [hp]; exact (heap3 _ _ _ _).1)
  have m1 : wx.heap[p1]? = some (.cells #[.int .i64 most] 3 (0, 0)) := old _ _ (by omega) (by rw [hp1]; exact (heap3 _ _ _ _).2.1)
  have m2 : wx.heap[p2]? = some (.cells #[.int .i64 0, .string ⟨#[]⟩, .bool false] 34 (0, 0)) := old _ _ (by omega) (by rw [hp2]; exact (heap3 _ _ _ _).2.2)
  obtain ⟨ct, F1, d1, hsi, hF1, htodo⟩ := (h.keep kx (fun _ _ => id)).todo
  have d0 : wx.cell? ⟨S, 0, none⟩ = some (.slice B q cb) := (World.cell?_of_block (kx.block S hlt id)).trans c0
  have P0 : wx.cell? ⟨p, 0, none⟩ = some (.pointer (some ⟨S, 0, none⟩)) := by rw [cell_of_row wx p 0 _ _ _ m0]; rfl
  have P1 : wx.cell? ⟨p1, 0, none⟩ = some (.int .i64 most) := by rw [cell_of_row wx p1 0 _ _ _ m1]; rfl
  obtain ⟨vt, hst, fct, fvt⟩ := hsi
  have HH := Lib.hid h
  have HP := Lib.hid (show p = w.heap.size ∧ p1 = p + 1 ∧ p2 = p + 2 ∧ p3 = p + 3 ∧ wx.heap.size = p + 4 from ⟨hp, by omega, by omega, by omega, zx⟩)
  have HM := Lib.hid (show wx.heap[p]? = some (.cells #[.pointer (some ⟨S, 0, none⟩)] 40 (0, 0)) ∧ wx.heap[p1]? = some (.cells #[.int .i64 most] 3 (0, 0)) ∧ wx.heap[p2]? = some (.cells #[.int .i64 0, .string ⟨#[]⟩, .bool false] 34 (0, 0)) ∧ wx.heap[p3]? = some (.cells #[.bool false] 4 (0, 0)) from ⟨m0, m1, m2, m3⟩)
  have HKX := Lib.hid kx
  have HST := Lib.hid hst
  have HC0 := Lib.hid c0
  have HC1 : Hid (w.cell? ⟨S, 1, none⟩ = some (.pointer (some ⟨ct, 0, none⟩))) := (World.cell?_of_block (kx.block S hlt id)).symm.trans d1
  have HQ := Lib.hid hq
  have HLT := Lib.hid hlt
  have HIN := Lib.hid hin
  clear h hob hfb cf old kx zx m0 m1 m2 m3 htodo hq hlt hin hst c0 c3 c4 c5 c6 c7 c8
  refine (callsIn_wide (n := 9)).1 (callsIn_of_wp_marks Try.func15 rfl trivial (wpIn_wide.2 ?_) rfl)
  simp only [Try.ntmps15, List.size_toArray, List.length_cons, List.length_nil, Nat.reduceAdd, Nat.reduceSub, Array.replicate_succ, Array.replicate_zero, List.push_toArray, List.append_toArray, List.nil_append, List.cons_append]
  go_upto_region 1 with fail
  rw [← hwx, ← hp3, ← hp2, ← hp1, ← hp]
  clear hwx hp hp1 hp2 hp3
  go_wp2_with (first | (go_at_call 37; refine (up_any _ ct).mono ?_; rintro e w' ⟨rfl, rfl⟩))
  obtain ⟨Z, hZ⟩ : ∃ Z, Z = wx.heap.size := ⟨_, rfl⟩
  obtain ⟨w4, hw4⟩ : ∃ w4, w4 = wx.alloc (.cells #[.pointer (some ⟨ct, 0, none⟩)] 73) := ⟨_, rfl⟩
  have k4 : Keep wx w4 (fun _ => False) := by rw [hw4]; exact (Keep.refl wx _).alloc _
  have z4 : w4.heap.size = Z + 1 := by rw [hw4, hZ]; simp
  have mZ : w4.heap[Z]? = some (.cells #[.pointer (some ⟨ct, 0, none⟩)] 73 (0, 0)) := by rw [hw4, hZ]; exact heap_alloc_new _ _
  rw [← hw4, ← hZ]
  have HK4 : Hid (Keep w w4 (fun _ => False)) := HKX.out.trans k4 (fun _ _ e => e)
  have HZ4 : Hid (Z = p + 4 ∧ w4.heap.size = Z + 1) := ⟨by have := HP.out; omega, z4⟩
  have HMZ := Lib.hid mZ
  have HST4 := Lib.hid (HST.out.keep k4 id (fun _ _ => id))
  have HM4 : Hid (w4.heap[p]? = some (.cells #[.pointer (some ⟨S, 0, none⟩)] 40 (0, 0)) ∧ w4.heap[p1]? = some (.cells #[.int .i64 most] 3 (0, 0)) ∧ w4.heap[p2]? = some (.cells #[.int .i64 0, .string ⟨#[]⟩, .bool false] 34 (0, 0)) ∧ w4.heap[p3]? = some (.cells #[.bool false] 4 (0, 0))) :=
    ⟨(k4.block p (heap_lt HM.out.1) id).trans HM.out.1, (k4.block p1 (heap_lt HM.out.2.1) id).trans HM.out.2.1, (k4.block p2 (heap_lt HM.out.2.2.1) id).trans HM.out.2.2.1, (k4.block p3 (heap_lt HM.out.2.2.2) id).trans HM.out.2.2.2⟩
  clear hw4 hZ k4 z4 mZ d0 d1 P0 P1 HM HST
  refine wp_rangeFunc_X (gf := 46) (lb := #[.pointer (some ⟨Z, 0, none⟩)]) (encs := encP) (bs := fun _ => False) (M := fun _ _ => False) (xs := s.todo) rfl (enters_of Try.func46 (by kernel_rfl) rfl) (fun k hk => hk.elim) (w4.heap.size + 2 + cloneN vt s.todo)
    (fun W1 hs hold => by rw [← hs]; exact up_seq ((hold _ (heap_lt HMZ.out)).trans HMZ.out) (HST4.out.old hold) _) (fun _ => rfl)
    (fun pre W => pre = [] ∧ Keep w4 W (fun _ => False))
    (fun c pre W => ∃ x, pre = [x] ∧ ((c = .exit 0 ∧ nextE s x most ≤ x.1 ∧ Keep w4 W (fun _ => False)) ∨
      (c = .ret ∧ x.1 < nextE s x most ∧ SndAt (More F w) W S (finS (nextS s x most) x.1 (nextD s x most).length) ∧ Keep w W F ∧
        W.heap[p2]? = some (.cells #[.int .i64 x.1, .string (S8 (nextD s x most)), .bool (finF (nextS s x most) x.1 (nextD s x most).length)] 34 (0, 0)) ∧ W.heap[p3]? = some (.cells #[.bool true] 4 (0, 0))))) ?hI ?hIx ⟨rfl, Keep.refl _ _⟩
    (fun t => { tmps := #[.pointer (some ⟨S, 0, none⟩), .int .i64 most, .pointer (some ⟨p, 0, none⟩), .pointer (some ⟨p1, 0, none⟩), .pointer (some ⟨p2, 0, none⟩), .pointer (some ⟨p3, 0, none⟩), .int .i64 t.1, .int .i64 t.2, undef, .pointer (some ⟨S, 0, none⟩), .bool false, .bool false, .int .i64 most, .bool false, .bool false, undef, .pointer (some ⟨S, 0, none⟩), .pointer (some ⟨S, 0, none⟩), .pointer (some ⟨S, 1, none⟩), .pointer (some ⟨ct, 0, none⟩), .func (.func 46) #[] #[.pointer (some ⟨Z, 0, none⟩)], .int .i64 t.1, .int .i64 t.2, undef, undef, undef, undef, undef, undef, undef, undef, undef, undef, undef, undef, undef, undef, undef, undef, undef, undef, undef, undef, undef, undef, undef, undef, undef, undef, undef, undef, undef, undef, undef, undef, undef, undef, undef, undef, undef, undef, undef, undef, undef, undef, undef, undef, undef, undef, undef, undef, undef, undef, undef, undef, undef, undef, undef, undef, undef, undef, undef, undef, undef, undef, undef, undef, undef, undef, undef, undef, undef, undef, undef, undef, undef, undef], defers := [] }) ?assign ?body ?done ?stop
  case hI =>
    rintro pre X' X2 row ⟨e, hk⟩ hg hr
    exact ⟨e, hk.trans (Keep.of_grown (S := fun k => w4.heap.size ≤ k) hg (fun k _ e => (hr k e).1)) (fun i hi e => absurd e (by omega))⟩
  case hIx =>
    rintro c pre X' X2 row ⟨x, e, h⟩ hg hr
    have ko : Keep X' X2 (fun k => row = some k) := Keep.of_grown (S := fun k => row = some k) hg (fun k _ e => e)
    have hno : ∀ i, row = some i → ∃ o : Obj, X'.heap[i]? = some o ∧ o.isCells = false := fun i hi => (hr i hi).2.resolve_left id
    have hrow : ∀ {i : Nat} {cs : Array Value} {t : TypeId} {fr : Nat × Nat}, X'.heap[i]? = some (.cells cs t fr) → X2.heap[i]? = some (.cells cs t fr) := fun {i cs t fr} hi => (ko.block i (heap_lt hi) (fun e => by obtain ⟨o, e1, e2⟩ := hno i e; rw [hi] at e1; injection e1 with e1; subst e1; cases e2)).trans hi
    refine ⟨x, e, h.imp (fun ⟨h1, h2, hk⟩ => ⟨h1, h2, hk.trans (Keep.of_grown (S := fun k => w4.heap.size ≤ k) hg (fun k _ e => (hr k e).1)) (fun i hi e => absurd e (by omega))⟩) (fun ⟨h1, h2, h3, h4, h5, h6⟩ => ⟨h1, h2, h3.other ko hno, h4.trans (Keep.of_grown (S := fun k => w4.heap.size ≤ k) hg (fun k _ e => (hr k e).1)) (fun i hi e => ?_), hrow h5, hrow h6⟩)⟩
    have := HK4.out.size
    omega
  case assign =>
    intro l' t W1 K hK
    simp only [encP]
    gi_wp2
    exact hK
  case body =>
    rintro l' pre t rest W1 hx hE1 ⟨rfl, hk⟩
    have htd : s.todo = t :: rest := by simpa using hx
    have hsw := (HH.out.keep (HK4.out.trans hk (fun _ _ e => e)) (fun _ _ => id))
    have hwf : WF s.todo := HST4.out.2.2.1
    have hlo := hwf.le t (by rw [htd]; exact List.mem_cons_self)
    have hib := HIN.out t (by rw [htd]; exact List.mem_cons_self)
    obtain ⟨c3, c4, c5, c6, c7, c8, cf⟩ := hsw.cells
    have kw4 : Keep w W1 (fun _ => False) := HK4.out.trans hk (fun _ _ e => e)
    have e0 : W1.cell? ⟨S, 0, none⟩ = some (.slice B q cb) := (World.cell?_of_block (kw4.block S HLT.out id)).trans HC0.out
    have e1 : W1.cell? ⟨S, 1, none⟩ = some (.pointer (some ⟨ct, 0, none⟩)) := (World.cell?_of_block (kw4.block S HLT.out id)).trans HC1.out
    have m0 := (hk.block p (heap_lt HM4.out.1) id).trans HM4.out.1
    have m1 := (hk.block p1 (heap_lt HM4.out.2.1) id).trans HM4.out.2.1
    have m2 := (hk.block p2 (heap_lt HM4.out.2.2.1) id).trans HM4.out.2.2.1
    have m3 := (hk.block p3 (heap_lt HM4.out.2.2.2) id).trans HM4.out.2.2.2
    have P0 : W1.cell? ⟨p, 0, none⟩ = some (.pointer (some ⟨S, 0, none⟩)) := by rw [cell_of_row W1 p 0 _ _ _ m0]; rfl
    have P1 : W1.cell? ⟨p1, 0, none⟩ = some (.int .i64 most) := by rw [cell_of_row W1 p1 0 _ _ _ m1]; rfl
    obtain ⟨lm, hlm⟩ : ∃ lm, lm = s.limit := ⟨_, rfl⟩
    obtain ⟨tp, htp⟩ : ∃ tp, tp = s.top := ⟨_, rfl⟩
    have hqb : (q : Int) ≤ 199998 := by have := HQ.out; omega
    have hq2 : t.2 < (q : Int) := by have := HQ.out; omega
    obtain ⟨hib1, -⟩ := hib
    obtain ⟨en, hen⟩ : ∃ en, en = nextE s t most := ⟨_, rfl⟩
    obtain ⟨mq, hmq⟩ : ∃ mq, (if (q : Int) < most then (q : Int) else most) = mq := ⟨_, rfl⟩
    obtain ⟨me, hme⟩ : ∃ me, (if t.1 + mq < t.2 + 1 then t.1 + mq else t.2 + 1) = me := ⟨_, rfl⟩
    have hmq0 : 0 ≤ mq ∧ mq ≤ 1000000 := by rw [← hmq]; split <;> omega
    have hme0 : 0 ≤ me ∧ me ≤ t.2 + 1 := by rw [← hme]; split <;> omega
    have hee : (if lm < me then lm else me) = en := by
      rw [hen, hlm, ← hme, ← hmq]
      unfold nextE
      have hQ := HQ.out
      rw [← hQ, min_if, min_if, min_if]
      repeat' split
      all_goals omega
    have hen0 : 0 ≤ en ∧ en ≤ t.2 + 1 := by rw [← hee]; split <;> omega
    have hsq : SndAt (fun i => F i ∧ i < w.heap.size) W1 S s := (HH.out.mono (fun i hi hf => ⟨hf, hi⟩)).keep kw4 (fun _ _ => id)
    have hcut : t.1 < en → ∀ nq, Calls Try.prog 38 #[.pointer (some ⟨ct, 0, none⟩), .int .i64 t.1, .int .i64 (en - 1)] (W1.drewN nq) fun e w' => e = .returned (.int .i64 0) ∧ SndAt (More (fun i => F i ∧ i < w.heap.size) W1) w' S { s with todo := cutL t.1 (en - 1) s.todo } ∧ Keep W1 w' (fun i => F i ∧ i < w.heap.size) := by
      intro hlt nq
      obtain ⟨ct2, F2, g1, gs, gf, gt⟩ := hsq.todo
      rw [e1] at g1
      injection g1 with g1; injection g1 with g1; injection g1 with g1; injection g1 with g1
      subst g1
      have kq : Keep W1 (W1.drewN nq) (fun _ => False) := (Keep.refl W1 _).drewN nq
      have hQ := HQ.out
      refine (cutN (N := (s.b.length : Int)) (gs.keep kq (fun _ _ => id)) HIN.out (by omega) (by omega) (by omega) (by omega) (by omega)).mono ?_
      rintro e w' ⟨rfl, h1, h2⟩
      have k1 : Keep W1 w' F2 := (kq.mono (fun _ _ e => e.elim)).trans h2 (fun _ _ e => e)
      exact ⟨rfl, gt w' _ h1 k1, k1.mono (fun i _ e => gf i e)⟩
    rw [← hlm] at c3 hl
    rw [← htp] at c4 ht
    have HTD := Lib.hid htd
    have HSW := Lib.hid hsw
    have HSQ := Lib.hid hsq
    have HLM := Lib.hid hlm
    have HTP := Lib.hid htp
    have HEN := Lib.hid hen
    have HCUT := Lib.hid hcut
    have HK1 := Lib.hid hk
    have HM1 := Lib.hid (show _ ∧ _ ∧ _ ∧ _ from ⟨m0, m1, m2, m3⟩)
    have HE1 := Lib.hid hE1
    clear hx htd hsw hsq hwf hlm htp hen hcut hk kw4 m0 m1 m2 m3 hE1 c5 c6 c7 c8 cf
    gi_wp2
    refine region_round (by kernel_rfl) (by kernel_rfl) (fun _ _ h => h.elim) ?_
    refine region_tail_any _ 16 97 (fun w' => ∃ m, w' = W1.drewN m) (by rfl) (by kernel_rfl) (by kernel_rfl) ⟨1, rfl⟩ ?_
    simp only [List.take_succ_cons, List.take_zero, List.drop_succ_cons, List.drop_zero]
    (repeat (go_big_quiet_step (fail)))
    refine wpQuiet_nil ?_
    intro _ hwq
    obtain ⟨nq, hwq⟩ := hwq
    subst hwq
    by_cases hge : en ≤ t.1
    · go_wp2_with fail
      gi_wp2
      exact ⟨⟨by simp, fun k hk => rfl⟩, t, by first | rfl | trivial, .inl ⟨by first | rfl | trivial, by rw [← HEN.out]; exact hge, HK1.out.drewN nq⟩⟩
    · have hge' : t.1 < en := by omega
      go_wp2_with fail
      obtain ⟨mx, hmx⟩ : ∃ mx, (if tp < en then en else tp) = mx := ⟨_, rfl⟩
      have HMX : Hid (mx = max s.top (nextE s t most)) := by show mx = _; rw [← HTP.out, ← HEN.out, max_if]; exact hmx.symm
      gi_wp2
      refine ⟨trivial, ?_⟩
      gi_at_call 38
      refine (CallsIn.inRound l' (callsIn_wide.2 (HCUT.out hge' nq))).mono ?_
      rintro e w2 ⟨rfl, h2, k2⟩
      obtain ⟨f3, f4, f5, f6, f7, f8, ff⟩ := h2.cells
      have f4' : w2.cell? ⟨S, 4, none⟩ = some (.int .i64 tp) := by rw [HTP.out]; exact f4
      have g4 := ff 4
      have b0 := (k2.block p (heap_lt HM1.out.1) (fun e => by have := HP.out; omega)).trans HM1.out.1
      have b1 := (k2.block p1 (heap_lt HM1.out.2.1) (fun e => by have := HP.out; omega)).trans HM1.out.2.1
      have b2 := (k2.block p2 (heap_lt HM1.out.2.2.1) (fun e => by have := HP.out; omega)).trans HM1.out.2.2.1
      have b3 := (k2.block p3 (heap_lt HM1.out.2.2.2) (fun e => by have := HP.out; omega)).trans HM1.out.2.2.2
      have Q0 : w2.cell? ⟨p, 0, none⟩ = some (.pointer (some ⟨S, 0, none⟩)) := by rw [cell_of_row w2 p 0 _ _ _ b0]; rfl
      have H2 := Lib.hid h2
      have K2 := Lib.hid k2
      have HB2 := Lib.hid (show _ ∧ _ ∧ _ ∧ _ from ⟨b0, b1, b2, b3⟩)
      have hSp : ¬ S = p := by have := HP.out; have := HLT.out; omega
      have hpS : ¬ p = S := fun e => hSp e.symm
      clear h2 k2 f3 f4 f5 f6 f7 f8 ff b0 b1 b2 b3 e0 e1 P0 P1 c3 c4
      gi_wp2
      refine region_round (by kernel_rfl) (by kernel_rfl) (fun _ _ h => h.elim) ?_
      refine region_tail_any _ 7 97 (fun w' => ∃ m, w' = w2.drewN m) (by rfl) (by kernel_rfl) (by kernel_rfl) ⟨1, rfl⟩ ?_
      simp only [List.take_succ_cons, List.take_zero, List.drop_succ_cons, List.drop_zero]
      (repeat (go_big_quiet_step (fail)))
      refine wpQuiet_nil ?_
      intro _ hwq
      obtain ⟨nq2, hwq⟩ := hwq
      subst hwq
      go_wp2_with fail
      obtain ⟨i0, hi, hz, hsz, hby⟩ := info_parts info5
      have h3 : SndAt (More (fun i => F i ∧ i < w.heap.size) W1) ((w2.drewN nq2).setCell ⟨S, 4, none⟩ (.int .i64 mx)) S (nextS s t most) := (H2.out.keep ((Keep.refl w2 (fun _ => False)).drewN nq2) (fun _ _ => id)).set 4 _ (nextS s t most) (fun vb a b => by rw [HMX.out]; simp [scells, nextS]) rfl (by unfold nextS; rw [HEN.out]) rfl
      have k3 : Keep W1 ((w2.drewN nq2).setCell ⟨S, 4, none⟩ (.int .i64 mx)) (fun i => F i ∧ i < w.heap.size) := (K2.out.drewN nq2).setCell (.inr ⟨hF, HLT.out⟩) _
      obtain ⟨w3, hw3⟩ : ∃ w3, w3 = (w2.drewN nq2).setCell ⟨S, 4, none⟩ (.int .i64 mx) := ⟨_, rfl⟩
      rw [← hw3] at h3 k3 ⊢
      have hp := HP.out
      have b0 := (k3.block p (heap_lt HM1.out.1) (fun e => by omega)).trans HM1.out.1
      have b2 := (k3.block p2 (heap_lt HM1.out.2.2.1) (fun e => by omega)).trans HM1.out.2.2.1
      have b3 := (k3.block p3 (heap_lt HM1.out.2.2.2) (fun e => by omega)).trans HM1.out.2.2.2
      have R0 : w3.cell? ⟨p, 0, none⟩ = some (.pointer (some ⟨S, 0, none⟩)) := by rw [cell_of_row w3 p 0 _ _ _ b0]; rfl
      obtain ⟨vb3, v0, hob3, hfb3, -⟩ := h3.bytes
      obtain ⟨B3, q3, cb3, hq3, rfl⟩ := hob3.form
      have hQ := HQ.out
      have hq3' : q3 = s.b.length := hq3
      obtain ⟨v2, hsl, hbs⟩ := run_part (P := Try.prog) 44 i0 Try.underlying44 hi hsz hob3.bs t.1.toNat en.toNat (by omega) (by show en.toNat ≤ s.b.length; omega)
      rw [Int.toNat_of_nonneg (by omega), Int.toNat_of_nonneg (by omega)] at hsl
      obtain ⟨A2, n2, c2, hn2⟩ : ∃ A2 n2 c2, v2 = .slice A2 n2 c2 := by obtain ⟨A2, n2, c2, e, _⟩ := hbs; exact ⟨A2, n2, c2, e⟩
      subst hn2
      obtain ⟨X, hX⟩ : ∃ X, X = S8 (nextD s t most) := ⟨_, rfl⟩
      have hXd : nextD s t most = ((nextS s t most).b.drop t.1.toNat).take (en.toNat - t.1.toNat) := by
        unfold nextD
        rw [← HEN.out, show (en - t.1).toNat = en.toNat - t.1.toNat by omega]
        rfl
      have hXs : X.size = (nextD s t most).length := by rw [hX, S8_size]
      have hXl : (nextD s t most).length ≤ 199998 := by rw [hXd, List.length_take]; omega
      have hfin : ∀ nq, Calls Try.prog 39 #[.pointer (some ⟨S, 0, none⟩), .agg #[.int .i64 t.1, .string X, .bool false]] (w3.drewN nq) fun e w' => e = .returned (.agg #[.int .i64 t.1, .string X, .bool (finF (nextS s t most) t.1 (nextD s t most).length)]) ∧ SndAt (More (fun i => F i ∧ i < w.heap.size) W1) w' S (finS (nextS s t most) t.1 (nextD s t most).length) ∧ Keep W1 w' (More (fun i => F i ∧ i < w.heap.size) W1) := by
        intro nq
        have kq : Keep w3 (w3.drewN nq) (fun _ => False) := (Keep.refl w3 _).drewN nq
        refine (fin_any (h3.keep kq (fun _ _ => id)) (by show s.b.length ≤ _; omega) t.1 X (by omega) (by omega) (by omega)).mono ?_
        rintro e w' ⟨h1, h2, h4⟩
        rw [hXs] at h1 h2
        exact ⟨h1, h2, (k3.mono (fun _ _ e => .inl e)).trans ((kq.mono (fun _ _ e => e.elim)).trans h4 (fun _ _ e => e)) (fun _ _ e => e)⟩
      have HFIN := Lib.hid hfin
      have HX := Lib.hid hX
      have HBS3 : Hid (Bs (fun k => (Value.slice B3 q3 cb3).ownBlock = some k) w3 (.slice A2 n2 c2) (nextD s t most)) := by rw [hXd]; exact hbs
      have HB3 := Lib.hid (show _ ∧ _ from ⟨b2, b3⟩)
      clear hi hz hsz hby h3 k3 hw3 hp b0 b2 b3 hob3 hfb3 hQ hq3 hq3' hbs hX hXd hXs hXl hfin f4' g4 Q0
      gi_wp2
      refine region_round (by kernel_rfl) (by kernel_rfl) (fun _ _ h => h.elim) ?_
      refine region_tail_any _ 11 97 (fun w' => ∃ m, w' = w3.drewN m) (by rfl) (by kernel_rfl) (by kernel_rfl) ⟨1, rfl⟩ ?_
      simp only [List.take_succ_cons, List.take_zero, List.drop_succ_cons, List.drop_zero]
      (repeat (go_big_quiet_step (fail)))
      refine wq_convert (by rfl) 44 9 (.tmp 67) (by rfl) (by rfl) (v := .string X) (fun w' hw' => by obtain ⟨q, rfl⟩ := hw'; rw [HX.out]; exact run_string_bs Try.underlying44 Try.underlying5 Try.underlying9 (HBS3.out.heap rfl)) ?_
      simp only [Act.put, List.setIfInBounds_toArray, List.set_cons_zero, List.set_cons_succ]
      (repeat (go_big_quiet_step (fail)))
      refine wpQuiet_nil ?_
      intro _ hwq
      obtain ⟨nq3, hwq⟩ := hwq
      subst hwq
      go_wp2_with (first | (go_at_call 39; refine (HFIN.out nq3).mono ?_; rintro e w5 ⟨rfl, h5, k5⟩; have q2 : w5.heap[p2]? = _ := (k5.block p2 (heap_lt HM1.out.2.2.1) (fun e => by have := HP.out; have := heap_lt HM1.out.2.2.1; rcases e with e | e <;> omega)).trans HM1.out.2.2.1; have q3 : w5.heap[p3]? = _ := (k5.block p3 (heap_lt HM1.out.2.2.2) (fun e => by have := HP.out; have := heap_lt HM1.out.2.2.2; rcases e with e | e <;> omega)).trans HM1.out.2.2.2; have y0 : w5.cell? ⟨p2, 0, none⟩ = some (.int .i64 0) := (by rw [cell_of_row w5 p2 0 _ _ _ q2]; rfl); have y1 : w5.cell? ⟨p2, 1, none⟩ = some (.string ⟨#[]⟩) := (by rw [cell_of_row w5 p2 1 _ _ _ q2]; rfl); have y2 : w5.cell? ⟨p2, 2, none⟩ = some (.bool false) := (by rw [cell_of_row w5 p2 2 _ _ _ q2]; rfl); have y3 : w5.cell? ⟨p3, 0, none⟩ = some (.bool false) := (by rw [cell_of_row w5 p3 0 _ _ _ q3]; rfl); have z0 : w5.frozen? ⟨p2, 0, none⟩ = false := (by simp [World.frozen?, q2]); have z1 : w5.frozen? ⟨p2, 1, none⟩ = false := (by simp [World.frozen?, q2]); have z2 : w5.frozen? ⟨p2, 2, none⟩ = false := (by simp [World.frozen?, q2]); have z3 : w5.frozen? ⟨p3, 0, none⟩ = false := (by simp [World.frozen?, q3]); have h23 : ¬ p2 = p3 := (by have := HP.out; omega); have h32 : ¬ p3 = p2 := (by have := HP.out; omega); have HQ2 := Lib.hid q2; have HQ3 := Lib.hid q3; have H5 := Lib.hid h5; have K5 := Lib.hid k5; clear h5 k5 q2 q3))
      gi_wp2
      have hp := HP.out
      have n2 := heap_lt HM1.out.2.2.1
      have n3 := heap_lt HM1.out.2.2.2
      have hsz := HK4.out.size
      have hz4 := HZ4.out
      have hE := HE1.out
      have kS := (((Keep.setCell (S := fun k => k = p2 ∨ k = p3) (Keep.refl w5 _) (p := ⟨p2, 0, none⟩) (.inr (.inl rfl)) (.int .i64 t.1)).setCell (p := ⟨p2, 1, none⟩) (.inr (.inl rfl)) (.string X)).setCell (p := ⟨p2, 2, none⟩) (.inr (.inl rfl)) (.bool (finF (nextS s t most) t.1 (nextD s t most).length))).setCell (p := ⟨p3, 0, none⟩) (.inr (.inr rfl)) (.bool true)
      have kw : Keep W1 ((((w5.setCell ⟨p2, 0, none⟩ (.int .i64 t.1)).setCell ⟨p2, 1, none⟩ (.string X)).setCell ⟨p2, 2, none⟩ (.bool (finF (nextS s t most) t.1 (nextD s t most).length))).setCell ⟨p3, 0, none⟩ (.bool true)) (fun k => More (fun i => F i ∧ i < w.heap.size) W1 k ∨ k = p2 ∨ k = p3) := (K5.out.mono (fun _ _ e => .inl e)).trans kS (fun _ _ e => .inr e)
      have kall : Keep w ((((w5.setCell ⟨p2, 0, none⟩ (.int .i64 t.1)).setCell ⟨p2, 1, none⟩ (.string X)).setCell ⟨p2, 2, none⟩ (.bool (finF (nextS s t most) t.1 (nextD s t most).length))).setCell ⟨p3, 0, none⟩ (.bool true)) F := ((HK4.out.trans HK1.out (fun _ _ e => e)).mono (T := F) (fun _ _ e => e.elim)).trans kw (fun i hi e => by rcases e with (e | e) | e | e; exact e.1; omega; omega; omega)
      refine ⟨⟨kw.size, fun k hk => kw.block k (by have := hk.resolve_left id; omega) (fun e => by have := hk.resolve_left id; rcases e with (e | e) | e | e <;> omega)⟩, t, by first | rfl | trivial, .inr ⟨by first | rfl | trivial, by rw [← HEN.out]; exact hge', ?_, kall, ?_, ?_⟩⟩
      · exact (H5.out.keep kS (fun i hi e => by rcases hi with hi | hi <;> rcases e with e | e <;> omega)).mono (fun i _ hi => by rcases hi with hi | hi; exact .inl hi.1; exact .inr (by have := (HK4.out.trans HK1.out (fun _ _ e => e)).size; omega))
      · rw [Below.heap_setCell _ _ _ p2 (by first | exact h23 | exact h32), ← HX.out]
        exact set_block (set_block (set_block HQ2.out 0 _) 1 _) 2 _
      · refine set_block (cs := #[.bool false]) ?_ 0 (.bool true)
        rw [Below.heap_setCell _ _ _ p3 (by first | exact h23 | exact h32), Below.heap_setCell _ _ _ p3 (by first | exact h23 | exact h32), Below.heap_setCell _ _ _ p3 (by first | exact h23 | exact h32)]
        exact HQ3.out
  case done =>
    rintro D W6 hD hE3 ⟨hx, hk0⟩ hdef
    have hne : nextR s most = nextEnd s := by unfold nextR; rw [hx]
    have hs6 : SndAt (fun i => F i ∧ i < w.heap.size) W6 S s := (HH.out.mono (fun i hi hf => ⟨hf, hi⟩)).keep (HK4.out.trans hk0 (fun _ _ e => e)) (fun _ _ => id)
    have kw6 : Keep w W6 (fun _ => False) := HK4.out.trans hk0 (fun _ _ e => e)
    obtain ⟨c3, -, -, c6, -, -, -⟩ := hs6.cells
    have e0 : W6.cell? ⟨S, 0, none⟩ = some (.slice B q cb) := (World.cell?_of_block (kw6.block S HLT.out id)).trans HC0.out
    have m0 := (hk0.block p (heap_lt HM4.out.1) id).trans HM4.out.1
    have m2 := (hk0.block p2 (heap_lt HM4.out.2.2.1) id).trans HM4.out.2.2.1
    have m3 := (hk0.block p3 (heap_lt HM4.out.2.2.2) id).trans HM4.out.2.2.2
    have P0 : W6.cell? ⟨p, 0, none⟩ = some (.pointer (some ⟨S, 0, none⟩)) := by rw [cell_of_row W6 p 0 _ _ _ m0]; rfl
    have y0 : W6.cell? ⟨p2, 0, none⟩ = some (.int .i64 0) := by rw [cell_of_row W6 p2 0 _ _ _ m2]; rfl
    have y1 : W6.cell? ⟨p2, 1, none⟩ = some (.string ⟨#[]⟩) := by rw [cell_of_row W6 p2 1 _ _ _ m2]; rfl
    have y2 : W6.cell? ⟨p2, 2, none⟩ = some (.bool false) := by rw [cell_of_row W6 p2 2 _ _ _ m2]; rfl
    have y3 : W6.cell? ⟨p3, 0, none⟩ = some (.bool false) := by rw [cell_of_row W6 p3 0 _ _ _ m3]; rfl
    have z0 : W6.frozen? ⟨p2, 0, none⟩ = false := by simp [World.frozen?, m2]
    have z1 : W6.frozen? ⟨p2, 1, none⟩ = false := by simp [World.frozen?, m2]
    have z2 : W6.frozen? ⟨p2, 2, none⟩ = false := by simp [World.frozen?, m2]
    have z3 : W6.frozen? ⟨p3, 0, none⟩ = false := by simp [World.frozen?, m3]
    have h23 : ¬ p2 = p3 := by have := HP.out; omega
    have h32 : ¬ p3 = p2 := by have := HP.out; omega
    have hqb : (q : Int) ≤ 199998 := by have := HQ.out; omega
    have hlv : ∀ (W : World) (off : Int) (d : ByteArray) (f ok : Bool) (s' : Snd), W.heap[p2]? = some (.cells #[.int .i64 off, .string d, .bool f] 34 (0, 0)) → W.heap[p3]? = some (.cells #[.bool ok] 4 (0, 0)) → W.heap[D]? = some (.deferred (some [])) →
        SndAt (fun i => F i ∧ i < w.heap.size) W S s' → Keep w W F → (nextR s most) = (.tuple #[.agg #[.int .i64 off, .string d, .bool f], .bool ok], s') →
        (loadVar 34 ⟨p2, 0, none⟩).run Try.prog (W.putObj D (.deferred none)) = .ok (.agg #[.int .i64 off, .string d, .bool f]) (W.putObj D (.deferred none)) ∧ (loadVar 4 ⟨p3, 0, none⟩).run Try.prog (W.putObj D (.deferred none)) = .ok (.bool ok) (W.putObj D (.deferred none)) ∧
        (Ending.returned (.tuple #[.agg #[.int .i64 off, .string d, .bool f], .bool ok]) = Ending.returned (nextR s most).1 ∧ SndAt (More F w) (W.putObj D (.deferred none)) S (nextR s most).2 ∧ Keep w (W.putObj D (.deferred none)) F) := by
      intro W off d f ok s' r2 r3 hd hs hk he
      have hp := HP.out
      have hz4 := HZ4.out
      have kP : Keep W (W.putObj D (.deferred none)) (fun k => k = D) := ⟨rfl, rfl, rfl, by simp, fun k _ hk => World.putObj_heap_other hk⟩
      have d2 : p2 ≠ D := by omega
      have d3 : p3 ≠ D := by omega
      refine ⟨run_loadV34 ((World.putObj_heap_other d2).trans r2), run_loadV4 ((World.putObj_heap_other d3).trans r3), by rw [he], ?_, hk.trans kP (fun i hi e => by omega)⟩
      rw [he]
      exact (hs.keep kP (fun i hi e => by have := hi.2; omega)).mono (fun i _ hi => .inl hi.1)
    have HS6 := Lib.hid hs6
    have KW6 := Lib.hid kw6
    have HR := Lib.hid (show _ ∧ _ from ⟨m2, m3⟩)
    have HDEF := Lib.hid hdef
    have HD := Lib.hid hD
    have HLV := Lib.hid hlv
    have HNE := Lib.hid hne
    clear hs6 kw6 m0 m2 m3 hdef hD hlv hne hk0 hE3 hl ht
    obtain ⟨lm, hlm⟩ : ∃ lm, lm = s.limit := ⟨_, rfl⟩
    rw [← hlm] at c3
    have HLM := Lib.hid hlm
    clear hlm
    have hcase : s.endTodo = false ∨ (s.endTodo = true ∧ lm < (q : Int)) ∨ (s.endTodo = true ∧ ¬ lm < (q : Int)) := by
      cases s.endTodo
      · exact .inl rfl
      · by_cases h : lm < (q : Int)
        · exact .inr (.inl ⟨rfl, h⟩)
        · exact .inr (.inr ⟨rfl, h⟩)
    have hl0 : ∀ nq, s.endTodo = false ∨ lm < (q : Int) → ∀ W, W = ((((W6.drewN nq).setCell ⟨p2, 0, none⟩ (.int .i64 0)).setCell ⟨p2, 1, none⟩ (.string ⟨#[]⟩)).setCell ⟨p2, 2, none⟩ (.bool false)).setCell ⟨p3, 0, none⟩ (.bool false) →
        W.heap[D]? = some (.deferred (some [])) ∧ (loadVar 34 ⟨p2, 0, none⟩).run Try.prog (W.putObj D (.deferred none)) = .ok (.agg #[.int .i64 0, .string ⟨#[]⟩, .bool false]) (W.putObj D (.deferred none)) ∧ (loadVar 4 ⟨p3, 0, none⟩).run Try.prog (W.putObj D (.deferred none)) = .ok (.bool false) (W.putObj D (.deferred none)) ∧
        (Ending.returned (.tuple #[.agg #[.int .i64 0, .string ⟨#[]⟩, .bool false], .bool false]) = Ending.returned (nextR s most).1 ∧ SndAt (More F w) (W.putObj D (.deferred none)) S (nextR s most).2 ∧ Keep w (W.putObj D (.deferred none)) F) := by
      intro nq hc W hW
      have hp := HP.out
      have hz4 := HZ4.out
      have hD := HD.out
      have d2 : ¬ p2 = D := by omega
      have d3 : ¬ p3 = D := by omega
      have d2' : ¬ D = p2 := by omega
      have d3' : ¬ D = p3 := by omega
      have hwp2 : w.heap.size ≤ p2 := by omega
      have hwp3 : w.heap.size ≤ p3 := by omega
      have kS := ((((Keep.refl W6 (fun k => k = p2 ∨ k = p3)).drewN nq).setCell (p := ⟨p2, 0, none⟩) (.inr (.inl rfl)) (.int .i64 0)).setCell (p := ⟨p2, 1, none⟩) (.inr (.inl rfl)) (.string ⟨#[]⟩)).setCell (p := ⟨p2, 2, none⟩) (.inr (.inl rfl)) (.bool false) |>.setCell (p := ⟨p3, 0, none⟩) (.inr (.inr rfl)) (.bool false)
      rw [← hW] at kS
      have hd : W.heap[D]? = some (.deferred (some [])) := (kS.block D (by have := (Array.getElem?_eq_some_iff.1 HDEF.out).1; exact this) (fun e => by omega)).trans HDEF.out
      obtain ⟨l1, l2, l3⟩ := HLV.out W 0 ⟨#[]⟩ false false s
        (by rw [hW, Below.heap_setCell _ _ _ p2 (by first | exact h23 | exact h32)]; exact set_block (set_block (set_block HR.out.1 0 _) 1 _) 2 _)
        (by rw [hW]; refine set_block (cs := #[.bool false]) ?_ 0 (.bool false); rw [Below.heap_setCell _ _ _ p3 (by first | exact h23 | exact h32), Below.heap_setCell _ _ _ p3 (by first | exact h23 | exact h32), Below.heap_setCell _ _ _ p3 (by first | exact h23 | exact h32)]; exact HR.out.2)
        hd (HS6.out.keep kS (fun i hi e => by have := hi.2; omega)) ((KW6.out.mono (T := F) (fun _ _ e => e.elim)).trans kS (fun i hi e => by omega))
        (by rw [HNE.out]; unfold nextEnd; rw [if_pos (by rw [← HLM.out, ← HQ.out]; exact hc)])
      exact ⟨hd, l1, l2, l3⟩
    have HL0 := Lib.hid hl0
    clear hl0
    rcases hcase with het | ⟨het, hll⟩ | ⟨het, hll⟩
    · have HC : Hid (s.endTodo = false ∨ lm < (q : Int)) := .inl het
      rw [het] at c6
      clear het
      go_wp2_with fail
      go_quiet (fail)
      go_wp2_with fail
      obtain ⟨l0, l1, l2, l3⟩ := HL0.out _ HC.out _ rfl
      exact leave_markW (D := D) l0 (results_cell2 rfl _ rfl rfl l1 l2) l3
    · have HC : Hid (s.endTodo = false ∨ lm < (q : Int)) := .inr hll
      rw [het] at c6
      clear het
      go_wp2_with fail
      go_quiet (fail)
      go_wp2_with fail
      obtain ⟨l0, l1, l2, l3⟩ := HL0.out _ HC.out _ rfl
      exact leave_markW (D := D) l0 (results_cell2 rfl _ rfl rfl l1 l2) l3
    · rw [het] at c6
      have HC : Hid (¬ (s.endTodo = false ∨ s.limit < (s.b.length : Int))) := by
        rintro (e | e)
        · rw [het] at e; cases e
        · rw [← HLM.out, ← HQ.out] at e; exact hll e
      clear het
      have hfin : ∀ nq, Calls Try.prog 39 #[.pointer (some ⟨S, 0, none⟩), .agg #[.int .i64 (q : Int), .string ⟨#[]⟩, .bool false]] (W6.drewN nq) fun e w' => e = .returned (.agg #[.int .i64 (q : Int), .string ⟨#[]⟩, .bool (finF s (s.b.length : Int) 0)]) ∧ SndAt (fun i => F i ∧ i < w.heap.size) w' S (finS s (s.b.length : Int) 0) ∧ Keep W6 w' (fun i => F i ∧ i < w.heap.size) := by
        intro nq
        have kq : Keep W6 (W6.drewN nq) (fun _ => False) := (Keep.refl W6 _).drewN nq
        have hQ := HQ.out
        refine (fin_any (HS6.out.keep kq (fun _ _ => id)) (by omega) (q : Int) ⟨#[]⟩ (by omega) (by omega) (by decide)).mono ?_
        rintro e w' ⟨h1, h2, h4⟩
        rw [show ((⟨#[]⟩ : ByteArray).size) = 0 from rfl, hQ] at h1 h2
        rw [hQ]
        exact ⟨h1, h2, (kq.mono (fun _ _ e => e.elim)).trans h4 (fun _ _ e => e)⟩
      have HFIN := Lib.hid hfin
      clear hfin
      go_wp2_with fail
      go_quiet (fail)
      go_upto_region 13 with fail
      rename_i nq0
      refine region_tail_drew 7 97 (by kernel_rfl) rfl (by kernel_rfl) (by kernel_rfl) ?_
      simp only [List.take_succ_cons, List.take_zero, List.drop_succ_cons, List.drop_zero]
      (repeat (go_big_quiet_step (fail)))
      refine wpQuiet_nil ?_
      intro _ hwq
      obtain ⟨nq3, hwq⟩ := hwq
      subst hwq
      go_wp2_with fail
      go_at_call 39
      refine (HFIN.out _).mono ?_
      rintro e w8 ⟨rfl, h8, k8⟩
      have hp := HP.out
      have q2 : w8.heap[p2]? = _ := (k8.block p2 (heap_lt HR.out.1) (fun e => by have := e.2; omega)).trans HR.out.1
      have q3 : w8.heap[p3]? = _ := (k8.block p3 (heap_lt HR.out.2) (fun e => by have := e.2; omega)).trans HR.out.2
      have qd : w8.heap[D]? = _ := (k8.block D (Array.getElem?_eq_some_iff.1 HDEF.out).1 (fun e => by have := e.2; have := HD.out; have := HK4.out.size; omega)).trans HDEF.out
      have u0 : w8.cell? ⟨p2, 0, none⟩ = some (.int .i64 0) := (by rw [cell_of_row w8 p2 0 _ _ _ q2]; rfl)
      have u1 : w8.cell? ⟨p2, 1, none⟩ = some (.string ⟨#[]⟩) := (by rw [cell_of_row w8 p2 1 _ _ _ q2]; rfl)
      have u2 : w8.cell? ⟨p2, 2, none⟩ = some (.bool false) := (by rw [cell_of_row w8 p2 2 _ _ _ q2]; rfl)
      have u3 : w8.cell? ⟨p3, 0, none⟩ = some (.bool false) := (by rw [cell_of_row w8 p3 0 _ _ _ q3]; rfl)
      have v0 : w8.frozen? ⟨p2, 0, none⟩ = false := (by simp [World.frozen?, q2])
      have v1 : w8.frozen? ⟨p2, 1, none⟩ = false := (by simp [World.frozen?, q2])
      have v2 : w8.frozen? ⟨p2, 2, none⟩ = false := (by simp [World.frozen?, q2])
      have v3 : w8.frozen? ⟨p3, 0, none⟩ = false := (by simp [World.frozen?, q3])
      have HQ2 := Lib.hid q2
      have HQ3 := Lib.hid q3
      have HQD := Lib.hid qd
      have H8 := Lib.hid h8
      have K8 := Lib.hid k8
      clear h8 k8 q2 q3 qd hp
      go_wp2_with fail
      have hp := HP.out
      have hz4 := HZ4.out
      have hD := HD.out
      obtain ⟨W, hW⟩ : ∃ W, W = (((w8.setCell ⟨p2, 0, none⟩ (.int .i64 (q : Int))).setCell ⟨p2, 1, none⟩ (.string ⟨#[]⟩)).setCell ⟨p2, 2, none⟩ (.bool (finF s (s.b.length : Int) 0))).setCell ⟨p3, 0, none⟩ (.bool true) := ⟨_, rfl⟩
      have kS := (((Keep.setCell (S := fun k => k = p2 ∨ k = p3) (Keep.refl w8 _) (p := ⟨p2, 0, none⟩) (.inr (.inl rfl)) (.int .i64 (q : Int))).setCell (p := ⟨p2, 1, none⟩) (.inr (.inl rfl)) (.string ⟨#[]⟩)).setCell (p := ⟨p2, 2, none⟩) (.inr (.inl rfl)) (.bool (finF s (s.b.length : Int) 0))).setCell (p := ⟨p3, 0, none⟩) (.inr (.inr rfl)) (.bool true)
      rw [← hW] at kS ⊢
      have hd : W.heap[D]? = some (.deferred (some [])) := (kS.block D (Array.getElem?_eq_some_iff.1 HQD.out).1 (fun e => by omega)).trans HQD.out
      obtain ⟨l1, l2, l3⟩ := HLV.out W (q : Int) ⟨#[]⟩ (finF s (s.b.length : Int) 0) true (finS s (s.b.length : Int) 0)
        (by rw [hW, Below.heap_setCell _ _ _ p2 (by first | exact h23 | exact h32)]; exact set_block (set_block (set_block HQ2.out 0 _) 1 _) 2 _)
        (by rw [hW]; refine set_block (cs := #[.bool false]) ?_ 0 (.bool true); rw [Below.heap_setCell _ _ _ p3 (by first | exact h23 | exact h32), Below.heap_setCell _ _ _ p3 (by first | exact h23 | exact h32), Below.heap_setCell _ _ _ p3 (by first | exact h23 | exact h32)]; exact HQ3.out)
        hd (H8.out.keep kS (fun i hi e => by have := hi.2; omega)) (((KW6.out.mono (T := F) (fun _ _ e => e.elim)).trans K8.out (fun i hi e => e.1)).trans kS (fun i hi e => by omega))
        (by rw [HNE.out]; unfold nextEnd; rw [if_neg HC.out, HQ.out])
      exact leave_markW (D := D) hd (results_cell2 rfl _ rfl rfl l1 l2) l3
  case stop =>
    rintro D c6 pre W6 hD hE3 hpre ⟨x, rfl, h⟩ hdef
    obtain ⟨rest, hpre⟩ := hpre
    have htd : s.todo = x :: rest := hpre.symm
    rcases h with ⟨rfl, hle, hk0⟩ | ⟨rfl, hlt, hsn, hkw, r2, r3⟩
    · have hne : nextR s most = nextEnd s := by unfold nextR; rw [htd]; exact if_pos hle
      clear htd hpre hle
      have hs6 : SndAt (fun i => F i ∧ i < w.heap.size) W6 S s := (HH.out.mono (fun i hi hf => ⟨hf, hi⟩)).keep (HK4.out.trans hk0 (fun _ _ e => e)) (fun _ _ => id)
      have kw6 : Keep w W6 (fun _ => False) := HK4.out.trans hk0 (fun _ _ e => e)
      obtain ⟨c3, -, -, c6, -, -, -⟩ := hs6.cells
      have e0 : W6.cell? ⟨S, 0, none⟩ = some (.slice B q cb) := (World.cell?_of_block (kw6.block S HLT.out id)).trans HC0.out
      have m0 := (hk0.block p (heap_lt HM4.out.1) id).trans HM4.out.1
      have m2 := (hk0.block p2 (heap_lt HM4.out.2.2.1) id).trans HM4.out.2.2.1
      have m3 := (hk0.block p3 (heap_lt HM4.out.2.2.2) id).trans HM4.out.2.2.2
      have P0 : W6.cell? ⟨p, 0, none⟩ = some (.pointer (some ⟨S, 0, none⟩)) := by rw [cell_of_row W6 p 0 _ _ _ m0]; rfl
      have y0 : W6.cell? ⟨p2, 0, none⟩ = some (.int .i64 0) := by rw [cell_of_row W6 p2 0 _ _ _ m2]; rfl
      have y1 : W6.cell? ⟨p2, 1, none⟩ = some (.string ⟨#[]⟩) := by rw [cell_of_row W6 p2 1 _ _ _ m2]; rfl
      have y2 : W6.cell? ⟨p2, 2, none⟩ = some (.bool false) := by rw [cell_of_row W6 p2 2 _ _ _ m2]; rfl
      have y3 : W6.cell? ⟨p3, 0, none⟩ = some (.bool false) := by rw [cell_of_row W6 p3 0 _ _ _ m3]; rfl
      have z0 : W6.frozen? ⟨p2, 0, none⟩ = false := by simp [World.frozen?, m2]
      have z1 : W6.frozen? ⟨p2, 1, none⟩ = false := by simp [World.frozen?, m2]
      have z2 : W6.frozen? ⟨p2, 2, none⟩ = false := by simp [World.frozen?, m2]
      have z3 : W6.frozen? ⟨p3, 0, none⟩ = false := by simp [World.frozen?, m3]
      have h23 : ¬ p2 = p3 := by have := HP.out; omega
      have h32 : ¬ p3 = p2 := by have := HP.out; omega
      have hqb : (q : Int) ≤ 199998 := by have := HQ.out; omega
      have hlv : ∀ (W : World) (off : Int) (d : ByteArray) (f ok : Bool) (s' : Snd), W.heap[p2]? = some (.cells #[.int .i64 off, .string d, .bool f] 34 (0, 0)) → W.heap[p3]? = some (.cells #[.bool ok] 4 (0, 0)) → W.heap[D]? = some (.deferred (some [])) →
          SndAt (fun i => F i ∧ i < w.heap.size) W S s' → Keep w W F → (nextR s most) = (.tuple #[.agg #[.int .i64 off, .string d, .bool f], .bool ok], s') →
          (loadVar 34 ⟨p2, 0, none⟩).run Try.prog (W.putObj D (.deferred none)) = .ok (.agg #[.int .i64 off, .string d, .bool f]) (W.putObj D (.deferred none)) ∧ (loadVar 4 ⟨p3, 0, none⟩).run Try.prog (W.putObj D (.deferred none)) = .ok (.bool ok) (W.putObj D (.deferred none)) ∧
          (Ending.returned (.tuple #[.agg #[.int .i64 off, .string d, .bool f], .bool ok]) = Ending.returned (nextR s most).1 ∧ SndAt (More F w) (W.putObj D (.deferred none)) S (nextR s most).2 ∧ Keep w (W.putObj D (.deferred none)) F) := by
        intro W off d f ok s' r2 r3 hd hs hk he
        have hp := HP.out
        have hz4 := HZ4.out
        have kP : Keep W (W.putObj D (.deferred none)) (fun k => k = D) := ⟨rfl, rfl, rfl, by simp, fun k _ hk => World.putObj_heap_other hk⟩
        have d2 : p2 ≠ D := by omega
        have d3 : p3 ≠ D := by omega
        refine ⟨run_loadV34 ((World.putObj_heap_other d2).trans r2), run_loadV4 ((World.putObj_heap_other d3).trans r3), by rw [he], ?_, hk.trans kP (fun i hi e => by omega)⟩
        rw [he]
        exact (hs.keep kP (fun i hi e => by have := hi.2; omega)).mono (fun i _ hi => .inl hi.1)
      have HS6 := Lib.hid hs6
      have KW6 := Lib.hid kw6
      have HR := Lib.hid (show _ ∧ _ from ⟨m2, m3⟩)
      have HDEF := Lib.hid hdef
      have HD := Lib.hid hD
      have HLV := Lib.hid hlv
      have HNE := Lib.hid hne
      clear hs6 kw6 m0 m2 m3 hdef hD hlv hne hk0 hE3 hl ht
      obtain ⟨lm, hlm⟩ : ∃ lm, lm = s.limit := ⟨_, rfl⟩
      rw [← hlm] at c3
      have HLM := Lib.hid hlm
      clear hlm
      have hcase : s.endTodo = false ∨ (s.endTodo = true ∧ lm < (q : Int)) ∨ (s.endTodo = true ∧ ¬ lm < (q : Int)) := by
        cases s.endTodo
        · exact .inl rfl
        · by_cases h : lm < (q : Int)
          · exact .inr (.inl ⟨rfl, h⟩)
          · exact .inr (.inr ⟨rfl, h⟩)
      have hl0 : ∀ nq, s.endTodo = false ∨ lm < (q : Int) → ∀ W, W = ((((W6.drewN nq).setCell ⟨p2, 0, none⟩ (.int .i64 0)).setCell ⟨p2, 1, none⟩ (.string ⟨#[]⟩)).setCell ⟨p2, 2, none⟩ (.bool false)).setCell ⟨p3, 0, none⟩ (.bool false) →
          W.heap[D]? = some (.deferred (some [])) ∧ (loadVar 34 ⟨p2, 0, none⟩).run Try.prog (W.putObj D (.deferred none)) = .ok (.agg #[.int .i64 0, .string ⟨#[]⟩, .bool false]) (W.putObj D (.deferred none)) ∧ (loadVar 4 ⟨p3, 0, none⟩).run Try.prog (W.putObj D (.deferred none)) = .ok (.bool false) (W.putObj D (.deferred none)) ∧
          (Ending.returned (.tuple #[.agg #[.int .i64 0, .string ⟨#[]⟩, .bool false], .bool false]) = Ending.returned (nextR s most).1 ∧ SndAt (More F w) (W.putObj D (.deferred none)) S (nextR s most).2 ∧ Keep w (W.putObj D (.deferred none)) F) := by
        intro nq hc W hW
        have hp := HP.out
        have hz4 := HZ4.out
        have hD := HD.out
        have d2 : ¬ p2 = D := by omega
        have d3 : ¬ p3 = D := by omega
        have d2' : ¬ D = p2 := by omega
        have d3' : ¬ D = p3 := by omega
        have hwp2 : w.heap.size ≤ p2 := by omega
        have hwp3 : w.heap.size ≤ p3 := by omega
        have kS := ((((Keep.refl W6 (fun k => k = p2 ∨ k = p3)).drewN nq).setCell (p := ⟨p2, 0, none⟩) (.inr (.inl rfl)) (.int .i64 0)).setCell (p := ⟨p2, 1, none⟩) (.inr (.inl rfl)) (.string ⟨#[]⟩)).setCell (p := ⟨p2, 2, none⟩) (.inr (.inl rfl)) (.bool false) |>.setCell (p := ⟨p3, 0, none⟩) (.inr (.inr rfl)) (.bool false)
        rw [← hW] at kS
        have hd : W.heap[D]? = some (.deferred (some [])) := (kS.block D (by have := (Array.getElem?_eq_some_iff.1 HDEF.out).1; exact this) (fun e => by omega)).trans HDEF.out
        obtain ⟨l1, l2, l3⟩ := HLV.out W 0 ⟨#[]⟩ false false s
          (by rw [hW, Below.heap_setCell _ _ _ p2 (by first | exact h23 | exact h32)]; exact set_block (set_block (set_block HR.out.1 0 _) 1 _) 2 _)
          (by rw [hW]; refine set_block (cs := #[.bool false]) ?_ 0 (.bool false); rw [Below.heap_setCell _ _ _ p3 (by first | exact h23 | exact h32), Below.heap_setCell _ _ _ p3 (by first | exact h23 | exact h32), Below.heap_setCell _ _ _ p3 (by first | exact h23 | exact h32)]; exact HR.out.2)
          hd (HS6.out.keep kS (fun i hi e => by have := hi.2; omega)) ((KW6.out.mono (T := F) (fun _ _ e => e.elim)).trans kS (fun i hi e => by omega))
          (by rw [HNE.out]; unfold nextEnd; rw [if_pos (by rw [← HLM.out, ← HQ.out]; exact hc)])
        exact ⟨hd, l1, l2, l3⟩
      have HL0 := Lib.hid hl0
      clear hl0
      rcases hcase with het | ⟨het, hll⟩ | ⟨het, hll⟩
      · have HC : Hid (s.endTodo = false ∨ lm < (q : Int)) := .inl het
        rw [het] at c6
        clear het
        go_wp2_with fail
        go_quiet (fail)
        go_wp2_with fail
        obtain ⟨l0, l1, l2, l3⟩ := HL0.out _ HC.out _ rfl
        exact leave_markW (D := D) l0 (results_cell2 rfl _ rfl rfl l1 l2) l3
      · have HC : Hid (s.endTodo = false ∨ lm < (q : Int)) := .inr hll
        rw [het] at c6
        clear het
        go_wp2_with fail
        go_quiet (fail)
        go_wp2_with fail
        obtain ⟨l0, l1, l2, l3⟩ := HL0.out _ HC.out _ rfl
        exact leave_markW (D := D) l0 (results_cell2 rfl _ rfl rfl l1 l2) l3
      · rw [het] at c6
        have HC : Hid (¬ (s.endTodo = false ∨ s.limit < (s.b.length : Int))) := by
          rintro (e | e)
          · rw [het] at e; cases e
          · rw [← HLM.out, ← HQ.out] at e; exact hll e
        clear het
        have hfin : ∀ nq, Calls Try.prog 39 #[.pointer (some ⟨S, 0, none⟩), .agg #[.int .i64 (q : Int), .string ⟨#[]⟩, .bool false]] (W6.drewN nq) fun e w' => e = .returned (.agg #[.int .i64 (q : Int), .string ⟨#[]⟩, .bool (finF s (s.b.length : Int) 0)]) ∧ SndAt (fun i => F i ∧ i < w.heap.size) w' S (finS s (s.b.length : Int) 0) ∧ Keep W6 w' (fun i => F i ∧ i < w.heap.size) := by
          intro nq
          have kq : Keep W6 (W6.drewN nq) (fun _ => False) := (Keep.refl W6 _).drewN nq
          have hQ := HQ.out
          refine (fin_any (HS6.out.keep kq (fun _ _ => id)) (by omega) (q : Int) ⟨#[]⟩ (by omega) (by omega) (by decide)).mono ?_
          rintro e w' ⟨h1, h2, h4⟩
          rw [show ((⟨#[]⟩ : ByteArray).size) = 0 from rfl, hQ] at h1 h2
          rw [hQ]
          exact ⟨h1, h2, (kq.mono (fun _ _ e => e.elim)).trans h4 (fun _ _ e => e)⟩
        have HFIN := Lib.hid hfin
        clear hfin
        go_wp2_with fail
        go_quiet (fail)
        go_upto_region 13 with fail
        rename_i nq0
        refine region_tail_drew 7 97 (by kernel_rfl) rfl (by kernel_rfl) (by kernel_rfl) ?_
        simp only [List.take_succ_cons, List.take_zero, List.drop_succ_cons, List.drop_zero]
        (repeat (go_big_quiet_step (fail)))
        refine wpQuiet_nil ?_
        intro _ hwq
        obtain ⟨nq3, hwq⟩ := hwq
        subst hwq
        go_wp2_with fail
        go_at_call 39
        refine (HFIN.out _).mono ?_
        rintro e w8 ⟨rfl, h8, k8⟩
        have hp := HP.out
        have q2 : w8.heap[p2]? = _ := (k8.block p2 (heap_lt HR.out.1) (fun e => by have := e.2; omega)).trans HR.out.1
        have q3 : w8.heap[p3]? = _ := (k8.block p3 (heap_lt HR.out.2) (fun e => by have := e.2; omega)).trans HR.out.2
        have qd : w8.heap[D]? = _ := (k8.block D (Array.getElem?_eq_some_iff.1 HDEF.out).1 (fun e => by have := e.2; have := HD.out; have := HK4.out.size; omega)).trans HDEF.out
        have u0 : w8.cell? ⟨p2, 0, none⟩ = some (.int .i64 0) := (by rw [cell_of_row w8 p2 0 _ _ _ q2]; rfl)
        have u1 : w8.cell? ⟨p2, 1, none⟩ = some (.string ⟨#[]⟩) := (by rw [cell_of_row w8 p2 1 _ _ _ q2]; rfl)
        have u2 : w8.cell? ⟨p2, 2, none⟩ = some (.bool false) := (by rw [cell_of_row w8 p2 2 _ _ _ q2]; rfl)
        have u3 : w8.cell? ⟨p3, 0, none⟩ = some (.bool false) := (by rw [cell_of_row w8 p3 0 _ _ _ q3]; rfl)
        have v0 : w8.frozen? ⟨p2, 0, none⟩ = false := (by simp [World.frozen?, q2])
        have v1 : w8.frozen? ⟨p2, 1, none⟩ = false := (by simp [World.frozen?, q2])
        have v2 : w8.frozen? ⟨p2, 2, none⟩ = false := (by simp [World.frozen?, q2])
        have v3 : w8.frozen? ⟨p3, 0, none⟩ = false := (by simp [World.frozen?, q3])
        have HQ2 := Lib.hid q2
        have HQ3 := Lib.hid q3
        have HQD := Lib.hid qd
        have H8 := Lib.hid h8
        have K8 := Lib.hid k8
        clear h8 k8 q2 q3 qd hp
        go_wp2_with fail
        have hp := HP.out
        have hz4 := HZ4.out
        have hD := HD.out
        obtain ⟨W, hW⟩ : ∃ W, W = (((w8.setCell ⟨p2, 0, none⟩ (.int .i64 (q : Int))).setCell ⟨p2, 1, none⟩ (.string ⟨#[]⟩)).setCell ⟨p2, 2, none⟩ (.bool (finF s (s.b.length : Int) 0))).setCell ⟨p3, 0, none⟩ (.bool true) := ⟨_, rfl⟩
        have kS := (((Keep.setCell (S := fun k => k = p2 ∨ k = p3) (Keep.refl w8 _) (p := ⟨p2, 0, none⟩) (.inr (.inl rfl)) (.int .i64 (q : Int))).setCell (p := ⟨p2, 1, none⟩) (.inr (.inl rfl)) (.string ⟨#[]⟩)).setCell (p := ⟨p2, 2, none⟩) (.inr (.inl rfl)) (.bool (finF s (s.b.length : Int) 0))).setCell (p := ⟨p3, 0, none⟩) (.inr (.inr rfl)) (.bool true)
        rw [← hW] at kS ⊢
        have hd : W.heap[D]? = some (.deferred (some [])) := (kS.block D (Array.getElem?_eq_some_iff.1 HQD.out).1 (fun e => by omega)).trans HQD.out
        obtain ⟨l1, l2, l3⟩ := HLV.out W (q : Int) ⟨#[]⟩ (finF s (s.b.length : Int) 0) true (finS s (s.b.length : Int) 0)
          (by rw [hW, Below.heap_setCell _ _ _ p2 (by first | exact h23 | exact h32)]; exact set_block (set_block (set_block HQ2.out 0 _) 1 _) 2 _)
          (by rw [hW]; refine set_block (cs := #[.bool false]) ?_ 0 (.bool true); rw [Below.heap_setCell _ _ _ p3 (by first | exact h23 | exact h32), Below.heap_setCell _ _ _ p3 (by first | exact h23 | exact h32), Below.heap_setCell _ _ _ p3 (by first | exact h23 | exact h32)]; exact HQ3.out)
          hd (H8.out.keep kS (fun i hi e => by have := hi.2; omega)) (((KW6.out.mono (T := F) (fun _ _ e => e.elim)).trans K8.out (fun i hi e => e.1)).trans kS (fun i hi e => by omega))
          (by rw [HNE.out]; unfold nextEnd; rw [if_neg HC.out, HQ.out])
        exact leave_markW (D := D) hd (results_cell2 rfl _ rfl rfl l1 l2) l3
    · have hne : nextR s most = (.tuple #[.agg #[.int .i64 x.1, .string (S8 (nextD s x most)), .bool (finF (nextS s x most) x.1 (nextD s x most).length)], .bool true], finS (nextS s x most) x.1 (nextD s x most).length) := by
        unfold nextR; rw [htd]; exact if_neg (by omega)
      have hp := HP.out
      have hz4 := HZ4.out
      have kP : Keep W6 (W6.putObj D (.deferred none)) (fun k => k = D) := ⟨rfl, rfl, rfl, by simp, fun k _ hk => World.putObj_heap_other hk⟩
      have d2 : p2 ≠ D := by omega
      have d3 : p3 ≠ D := by omega
      have l1 := run_loadV34 ((World.putObj_heap_other (w := W6) (o := .deferred none) d2).trans r2)
      have l2 := run_loadV4 ((World.putObj_heap_other (w := W6) (o := .deferred none) d3).trans r3)
      have l3 : Ending.returned (.tuple #[.agg #[.int .i64 x.1, .string (S8 (nextD s x most)), .bool (finF (nextS s x most) x.1 (nextD s x most).length)], .bool true]) = Ending.returned (nextR s most).1 ∧ SndAt (More F w) (W6.putObj D (.deferred none)) S (nextR s most).2 ∧ Keep w (W6.putObj D (.deferred none)) F := by
        rw [hne]
        exact ⟨rfl, hsn.other kP (fun i hi => by subst hi; exact ⟨_, hdef, rfl⟩), hkw.trans kP (fun i hi e => by omega)⟩
      have L1 := Lib.hid l1
      have L2 := Lib.hid l2
      have L3 := Lib.hid l3
      have HDEF := Lib.hid hdef
      clear l1 l2 l3 hne hsn hkw r2 r3 kP d2 d3 hp hz4 htd hpre hlt hl ht hdef hD hE3
      go_wp2_with fail
      exact leave_markW (D := D) HDEF.out (results_cell2 rfl _ rfl rfl L1.out L2.out) L3.out
end Go.Proofs.Ytjnekjjaofabeaa
