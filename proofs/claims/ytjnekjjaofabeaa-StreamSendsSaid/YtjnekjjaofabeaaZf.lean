/-
  The document's sending end: Next (f24).
-/
import Derived.Test.YtjnekjjaofabeaaZy
namespace Go.Proofs.Ytjnekjjaofabeaa
open Go.RowKit Go.Rh Rng
attribute [local go_sem] Oper.semAt_some

theorem results_ct {P : Program} {fn : Func} {t u : Tmp} {ty : TypeId} (h : fn.results = #[.cell t ty, .tmp u]) (tmps : Array Value) {w : World} {v : Value} {p : Addr} (hp : tmps.getD t undef = .pointer (some p)) (hl : (loadVar ty p).run P w = .ok v w) : (results fn tmps).run P w = .ok (.tuple #[v, tmps.getD u undef]) w := by
  simp at hp
  simp [results, h, hp, asAddr, hl]

set_option maxHeartbeats 2000000 in
set_option maxRecDepth 100000 in
theorem refnext_any {F : Nat → Prop} {w : World} {R : Nat} {r : Rs} (h : RefAt F w R r) (hb : r.data.length ≤ 199998) (hst : r.st.length = r.data.length) (hl : 0 ≤ r.limit) (most : Int) :
    Calls Try.prog 24 #[.pointer (some ⟨R, 0, none⟩), .int .i64 most] w fun e w' =>
      ∃ out r', e = .returned out ∧ RNext r most out r' ∧ RefAt F w' R r' ∧ Keep w w' F := by
  have hF := h.own
  have hlt := h.lt
  obtain ⟨x, hx⟩ : ∃ x, x = w.heap.size := ⟨_, rfl⟩
  obtain ⟨wx, hwx⟩ : ∃ wx, wx = w.alloc (.cells #[.int .i64 0, .string ⟨#[]⟩, .bool false] 57) := ⟨_, rfl⟩
  have kx : Keep w wx (fun _ => False) := by rw [hwx]; exact (Keep.refl w _).alloc _
  have m1 : wx.heap[x]? = some (.cells #[.int .i64 0, .string ⟨#[]⟩, .bool false] 57 (0, 0)) := by rw [hwx, hx]; exact heap_alloc_new _ _
  have zx : wx.heap.size = x + 1 := by rw [hwx, hx]; simp
  have x0 : wx.cell? ⟨x, 0, none⟩ = some (.int .i64 0) := by rw [cell_of_row wx x 0 _ _ _ m1]; rfl
  have x1 : wx.cell? ⟨x, 1, none⟩ = some (.string ⟨#[]⟩) := by rw [cell_of_row wx x 1 _ _ _ m1]; rfl
  have x2 : wx.cell? ⟨x, 2, none⟩ = some (.bool false) := by rw [cell_of_row wx x 2 _ _ _ m1]; rfl
  have z0 : wx.frozen? ⟨x, 0, none⟩ = false := by simp [World.frozen?, m1]
  have z1 : wx.frozen? ⟨x, 1, none⟩ = false := by simp [World.frozen?, m1]
  have z2 : wx.frozen? ⟨x, 2, none⟩ = false := by simp [World.frozen?, m1]
  have h1 : RefAt (fun i => F i ∧ i < w.heap.size) wx R r := (h.mono (fun i hi e => ⟨e, hi⟩)).keep kx (fun _ _ => id)
  obtain ⟨c0, c2, c3, c4, c5, c6, cf⟩ := h1.cells
  have f2 := cf 2
  have f3 := cf 3
  have HH := Lib.hid h
  have H1 := Lib.hid h1
  have HKX := Lib.hid kx
  have HM := Lib.hid m1
  have HX := Lib.hid (show x = w.heap.size ∧ wx.heap.size = x + 1 ∧ R < w.heap.size from ⟨hx, zx, hlt⟩)
  have hRx : ¬ R = x := by omega
  have hxR : ¬ x = R := by omega
  by_cases hm : most < 1
  · clear h h1 kx m1 cf hlt zx hst hb
    go_enter Try.func24, Try.ntmps24
    go_upto_region 1 with fail
    rw [← hwx, ← hx]
    clear hwx hx
    go_wp2_with fail
    have m3 := set_block (set_block (set_block HM.out 0 (.int .i64 0)) 1 (.string ⟨#[]⟩)) 2 (.bool false)
    refine bodyPost_ret (results_ct rfl _ rfl (run_loadV57 m3)) rfl ⟨_, _, rfl, .inl ⟨hm, rfl, rfl⟩, ?_, ?_⟩
    · have hX := HX.out
      exact (H1.out.keep (((Keep.setCell (S := fun k => k = x) (Keep.refl wx _) (p := ⟨x, 0, none⟩) (.inr rfl) (.int .i64 0)).setCell (p := ⟨x, 1, none⟩) (.inr rfl) (.string ⟨#[]⟩)).setCell (p := ⟨x, 2, none⟩) (.inr rfl) (.bool false)) (fun i hi e => by have := hi.2; omega)).mono (fun i _ e => e.1)
    · have hX := HX.out
      exact (((HKX.out.setCell (p := ⟨x, 0, none⟩) (.inl (by show w.heap.size ≤ x; omega)) (.int .i64 0)).setCell (p := ⟨x, 1, none⟩) (.inl (by show w.heap.size ≤ x; omega)) (.string ⟨#[]⟩)).setCell (p := ⟨x, 2, none⟩) (.inl (by show w.heap.size ≤ x; omega)) (.bool false)).mono (fun _ _ e => e.elim)
  · obtain ⟨n, hn⟩ : ∃ n, n = r.st.length := ⟨_, rfl⟩
    obtain ⟨lm, hlm⟩ : ∃ lm, lm = r.limit := ⟨_, rfl⟩
    obtain ⟨en, hen⟩ : ∃ en, en = r.en := ⟨_, rfl⟩
    obtain ⟨tp, htp⟩ : ∃ tp, tp = r.top := ⟨_, rfl⟩
    obtain ⟨A, c, d1, ho, hfo, hat, -⟩ := h1.row
    have hsz2 : (S8 r.data).size = n := by rw [S8_size, hn, hst]
    rw [← hlm] at c5 hl
    rw [← hen] at c2
    rw [← htp] at c6
    rw [← hn] at d1 hat
    have hnb : n ≤ 199998 := by omega
    have HN := Lib.hid (show n = r.st.length ∧ n = r.data.length ∧ lm = r.limit ∧ en = r.en ∧ tp = r.top from ⟨hn, by omega, hlm, hen, htp⟩)
    have HAT := Lib.hid hat
    clear h h1 kx m1 cf hlt zx hst hb ho hfo hat hn hlm hen htp
    go_enter Try.func24, Try.ntmps24
    go_upto_region 1 with fail
    rw [← hwx, ← hx]
    clear hwx hx
    go_wp2_with fail
    go_loopw [6] (fun i wr => ∃ k : Nat, i = .int .i64 (k : Int) ∧ k ≤ n ∧ (∀ j, j < k → r.st.getD j 0 ≠ 0) ∧ (k = 0 ∨ (k : Int) ≤ lm) ∧ wr = wx) (fun i _ => n - (intOf i).toNat)
    case atStart => exact ⟨0, rfl, Nat.zero_le _, fun j hj => absurd hj (by omega), .inl rfl, rfl⟩
    case round =>
      obtain ⟨i, rfl, hi, hall, hli, rfl⟩ := hrel
      have HALL := Lib.hid hall
      have HLI := Lib.hid hli
      clear hall hli
      by_cases hin : i < n
      · have hin1 : (i : Int) < (n : Int) := by omega
        by_cases hil : (i : Int) < lm
        · obtain ⟨g, rfl, hFg, cg, fg, hset⟩ := HAT.out i hin
          obtain ⟨v, hv⟩ : ∃ v, v = r.st.getD i 0 := ⟨_, rfl⟩
          rw [← hv] at cg
          have HV := Lib.hid hv
          clear hv hset
          by_cases hv0 : v = 0
          · subst hv0
            go_wp2_with fail
            clear d1 cg fg hFg
            go_loopw [7] (fun k wr2 => ∃ kk : Nat, k = .int .i64 (kk : Int) ∧ i ≤ kk ∧ kk ≤ n ∧ (i < kk → (kk : Int) ≤ lm ∧ (kk : Int) - (i : Int) ≤ most) ∧ (∀ j, i ≤ j → j < kk → r.st.getD j 0 = 0) ∧ RefAt (fun i => F i ∧ i < w.heap.size) wr2 R { r with st := markL r.st i kk } ∧ Keep wr wr2 (fun i => F i ∧ i < w.heap.size)) (fun k _ => n - (intOf k).toNat)
            case atStart => exact ⟨i, rfl, Nat.le_refl _, hi, fun e => absurd e (by omega), fun j h1 h2 => absurd h1 (by omega), by rw [markL_zero]; exact H1.out, Keep.refl _ _⟩
            case round =>
              obtain ⟨kk, rfl, hik, hkn, hkb, hz, hr2, hk2⟩ := hrel
              clear x0 x1 x2 z0 z1 z2 c0 c2 c3 c4 c5 c6 f2 f3
              have hX := HX.out
              have mx := (hk2.block x (heap_lt HM.out) (fun e => by have := e.2; omega)).trans HM.out
              have x0 : wr.cell? ⟨x, 0, none⟩ = some (.int .i64 0) := by rw [cell_of_row wr x 0 _ _ _ mx]; rfl
              have x1 : wr.cell? ⟨x, 1, none⟩ = some (.string ⟨#[]⟩) := by rw [cell_of_row wr x 1 _ _ _ mx]; rfl
              have x2 : wr.cell? ⟨x, 2, none⟩ = some (.bool false) := by rw [cell_of_row wr x 2 _ _ _ mx]; rfl
              have z0 : wr.frozen? ⟨x, 0, none⟩ = false := by simp [World.frozen?, mx]
              have z1 : wr.frozen? ⟨x, 1, none⟩ = false := by simp [World.frozen?, mx]
              have z2 : wr.frozen? ⟨x, 2, none⟩ = false := by simp [World.frozen?, mx]
              obtain ⟨c0', c2', c3', -, c5', c6', cf⟩ := hr2.cells
              have c0 : wr.cell? ⟨R, 0, none⟩ = some (.string (S8 r.data)) := c0'
              have c2 : wr.cell? ⟨R, 2, none⟩ = some (.int .i64 en) := by rw [HN.out.2.2.2.1]; exact c2'
              have c3 : wr.cell? ⟨R, 3, none⟩ = some (.bool r.told) := c3'
              have c5 : wr.cell? ⟨R, 5, none⟩ = some (.int .i64 lm) := by rw [HN.out.2.2.1]; exact c5'
              have c6 : wr.cell? ⟨R, 6, none⟩ = some (.int .i64 tp) := by rw [HN.out.2.2.2.2]; exact c6'
              have f2 := cf 2
              have f3 := cf 3
              have f6 := cf 6
              obtain ⟨A, c, d1, -, -, hat, -⟩ := hr2.row
              simp only [markL_length, ← HN.out.1] at d1 hat
              have hR2 := hr2.lt
              have HR2 := Lib.hid hr2
              have HK2 := Lib.hid hk2
              have HMX := Lib.hid mx
              have HKB := Lib.hid hkb
              have HZ := Lib.hid hz
              have HAT2 := Lib.hid hat
              clear hX hr2 hk2 mx hkb hz cf c0' c2' c3' c5' c6' hat
              have hxlt : x < wr.heap.size := heap_lt HMX.out
              have tail : ∀ (kk : Nat), True := fun _ => trivial
              obtain ⟨mx, hmx⟩ : ∃ mx, (if tp < (kk : Int) then (kk : Int) else tp) = mx := ⟨_, rfl⟩
              have HMAX : Hid (mx = max r.top (kk : Int)) := by show mx = _; rw [← hmx, HN.out.2.2.2.2, max_if]
              obtain ⟨G, hG⟩ : ∃ G, G = (r.data.drop i).take (kk - i) := ⟨_, rfl⟩
              have hex : (S8 r.data).extract i kk = S8 G := by rw [S8_extract, hG, List.drop_take]
              have HG := Lib.hid hG
              clear hG
              have hb1 : (0 : Int) ≤ (i : Int) := by omega
              have hb2 : (i : Int) ≤ (kk : Int) := by omega
              have hb3 : (kk : Int) ≤ (n : Int) := by omega
              have hb5 : (i : Int).toNat = i := by omega
              have hb6 : (kk : Int).toNat = kk := by omega
              have hwk : IntKind.i64.wrap ((kk : Int) - (i : Int)) = (kk : Int) - (i : Int) := by rw [IntKind.wrap_i64]; omega
              have hspec : ∀ (out : Value) (r' : Rs), i < kk → (kk = n ∨ lm ≤ (kk : Int) ∨ most ≤ (kk : Int) - (i : Int) ∨ r.st.getD kk 0 ≠ 0) → out = .tuple #[.agg #[.int .i64 (i : Int), .string (S8 G), .bool (decide (kk = r.st.length ∧ r.en = 0))], .bool true] → r' = rmark r i kk → RNext r most out r' := by
                intro out r' h1 h2 h3 h4
                refine .inr ⟨by omega, i, by rw [← HN.out.1]; exact hi, HALL.out, by rw [← HN.out.2.2.1]; exact HLI.out, .inl ⟨by rw [← HN.out.1]; exact hin, by rw [← HN.out.2.2.1]; exact hil, HV.out.symm, kk, h1, by rw [← HN.out.1]; exact hkn, by rw [← HN.out.2.2.1]; exact (HKB.out h1).1, (HKB.out h1).2, HZ.out, by rw [← HN.out.1, ← HN.out.2.2.1]; exact h2, ?_, h4⟩⟩
                rw [h3, HG.out]
              have HSPEC := Lib.hid hspec
              clear hspec
              obtain ⟨y, hy⟩ : ∃ y, y = wr.heap.size := ⟨_, rfl⟩
              obtain ⟨W4, hW4⟩ : ∃ W4, W4 = (wr.setCell ⟨R, 6, none⟩ (.int .i64 mx)).alloc (.cells #[.int .i64 (i : Int), .string (S8 G), .bool false] 57) := ⟨_, rfl⟩
              have hRw : R < w.heap.size := HX.out.2.2
              have k4 : Keep wr W4 (fun i => F i ∧ i < w.heap.size) := by rw [hW4]; exact ((Keep.refl wr _).setCell (p := ⟨R, 6, none⟩) (.inr ⟨hF, hRw⟩) _).alloc _
              have r4 : RefAt (fun i => F i ∧ i < w.heap.size) W4 R { r with st := markL r.st i kk, top := mx } := by
                rw [hW4]
                exact (HR2.out.set 6 (.int .i64 mx) { r with st := markL r.st i kk, top := mx } (fun _ => rfl) rfl).keep ((Keep.refl _ (fun _ => False)).alloc _) (fun _ _ => id)
              have my : W4.heap[y]? = some (.cells #[.int .i64 (i : Int), .string (S8 G), .bool false] 57 (0, 0)) := by
                have := heap_alloc_new (wr.setCell ⟨R, 6, none⟩ (.int .i64 mx)) (.cells #[.int .i64 (i : Int), .string (S8 G), .bool false] 57)
                rw [← hW4] at this
                rw [hy]
                simpa using this
              have hxw : w.heap.size ≤ x := by have := HX.out; omega
              have mx4 := (k4.block x (heap_lt HMX.out) (fun e => by have := e.2; omega)).trans HMX.out
              have hRy : ¬ R = y := by omega
              have hyR : ¬ y = R := by omega
              have hxy : ¬ x = y := by omega
              have hyx : ¬ y = x := by omega
              obtain ⟨-, q2', q3', -, -, -, qf⟩ := r4.cells
              have q2 : W4.cell? ⟨R, 2, none⟩ = some (.int .i64 en) := by rw [HN.out.2.2.2.1]; exact q2'
              have q3 : W4.cell? ⟨R, 3, none⟩ = some (.bool r.told) := q3'
              obtain ⟨A4, c4, q1', -, -, -, -⟩ := r4.row
              have q1 : W4.cell? ⟨R, 1, none⟩ = some (.slice A4 n c4) := by simp only [markL_length, ← HN.out.1] at q1'; exact q1'
              have g2 := qf 2
              have g3 := qf 3
              have p0 : W4.cell? ⟨x, 0, none⟩ = some (.int .i64 0) := by rw [cell_of_row W4 x 0 _ _ _ mx4]; rfl
              have p1 : W4.cell? ⟨x, 1, none⟩ = some (.string ⟨#[]⟩) := by rw [cell_of_row W4 x 1 _ _ _ mx4]; rfl
              have p2 : W4.cell? ⟨x, 2, none⟩ = some (.bool false) := by rw [cell_of_row W4 x 2 _ _ _ mx4]; rfl
              have s0 : W4.frozen? ⟨x, 0, none⟩ = false := by simp [World.frozen?, mx4]
              have s1 : W4.frozen? ⟨x, 1, none⟩ = false := by simp [World.frozen?, mx4]
              have s2 : W4.frozen? ⟨x, 2, none⟩ = false := by simp [World.frozen?, mx4]
              have y0 : W4.cell? ⟨y, 0, none⟩ = some (.int .i64 (i : Int)) := by rw [cell_of_row W4 y 0 _ _ _ my]; rfl
              have y1 : W4.cell? ⟨y, 1, none⟩ = some (.string (S8 G)) := by rw [cell_of_row W4 y 1 _ _ _ my]; rfl
              have y2 : W4.cell? ⟨y, 2, none⟩ = some (.bool false) := by rw [cell_of_row W4 y 2 _ _ _ my]; rfl
              have t2 : W4.frozen? ⟨y, 2, none⟩ = false := by simp [World.frozen?, my]
              have kw4 : Keep w W4 F := ((HKX.out.mono (T := F) (fun _ _ e => e.elim)).trans HK2.out (fun i _ e => e.1)).trans k4 (fun i _ e => e.1)
              have hyw : w.heap.size ≤ y := by omega
              have hendB : ¬ (kk = r.st.length ∧ r.en = 0) → ∀ W : World, W = ((W4.setCell ⟨x, 0, none⟩ (.int .i64 (i : Int))).setCell ⟨x, 1, none⟩ (.string (S8 G))).setCell ⟨x, 2, none⟩ (.bool false) →
                  W.heap[x]? = some (.cells #[.int .i64 (i : Int), .string (S8 G), .bool (decide (kk = r.st.length ∧ r.en = 0))] 57 (0, 0)) ∧ RefAt F W R (rmark r i kk) ∧ Keep w W F := by
                intro hne W hW
                subst hW
                refine ⟨by rw [decide_eq_false hne]; exact set_block (set_block (set_block mx4 0 (.int .i64 (i : Int))) 1 (.string (S8 G))) 2 (.bool false), ?_, ((kw4.setCell (p := ⟨x, 0, none⟩) (.inl hxw) _).setCell (p := ⟨x, 1, none⟩) (.inl hxw) _).setCell (p := ⟨x, 2, none⟩) (.inl hxw) _⟩
                have e : rmark r i kk = { r with st := markL r.st i kk, top := mx } := by unfold rmark; rw [if_neg hne, if_neg hne, HMAX.out]
                rw [e]
                exact (r4.keep (((Keep.setCell (S := fun k => k = x) (Keep.refl _ _) (p := ⟨x, 0, none⟩) (.inr rfl) (.int .i64 (i : Int))).setCell (p := ⟨x, 1, none⟩) (.inr rfl) (.string (S8 G))).setCell (p := ⟨x, 2, none⟩) (.inr rfl) (.bool false)) (fun i hi e => by have := hi.2; omega)).mono (fun i _ e => e.1)
              have hendA : (kk = r.st.length ∧ r.en = 0) → ∀ W : World, W = (((((W4.setCell ⟨R, 2, none⟩ (.int .i64 1)).setCell ⟨R, 3, none⟩ (.bool true)).setCell ⟨y, 2, none⟩ (.bool true)).setCell ⟨x, 0, none⟩ (.int .i64 (i : Int))).setCell ⟨x, 1, none⟩ (.string (S8 G))).setCell ⟨x, 2, none⟩ (.bool true) →
                  W.heap[x]? = some (.cells #[.int .i64 (i : Int), .string (S8 G), .bool (decide (kk = r.st.length ∧ r.en = 0))] 57 (0, 0)) ∧ RefAt F W R (rmark r i kk) ∧ Keep w W F := by
                intro hne W hW
                subst hW
                have mm : (((W4.setCell ⟨R, 2, none⟩ (.int .i64 1)).setCell ⟨R, 3, none⟩ (.bool true)).setCell ⟨y, 2, none⟩ (.bool true)).heap[x]? = some (.cells #[.int .i64 0, .string ⟨#[]⟩, .bool false] 57 (0, 0)) := by
                  rw [Below.heap_setCell _ _ _ x (by first | exact hxy | exact hyx), Below.heap_setCell _ _ _ x (by first | exact hRx | exact hxR), Below.heap_setCell _ _ _ x (by first | exact hRx | exact hxR)]
                  exact mx4
                refine ⟨by rw [decide_eq_true hne]; exact set_block (set_block (set_block mm 0 (.int .i64 (i : Int))) 1 (.string (S8 G))) 2 (.bool true), ?_, (((((kw4.setCell (p := ⟨R, 2, none⟩) (.inr hF) _).setCell (p := ⟨R, 3, none⟩) (.inr hF) _).setCell (p := ⟨y, 2, none⟩) (.inl hyw) _).setCell (p := ⟨x, 0, none⟩) (.inl hxw) _).setCell (p := ⟨x, 1, none⟩) (.inl hxw) _).setCell (p := ⟨x, 2, none⟩) (.inl hxw) _⟩
                have e : rmark r i kk = { r with st := markL r.st i kk, top := mx, en := 1, told := true } := by unfold rmark; rw [if_pos hne, if_pos hne, HMAX.out]
                rw [e]
                have r5 := (r4.set 2 (.int .i64 1) { r with st := markL r.st i kk, top := mx, en := 1 } (fun _ => rfl) rfl).set 3 (.bool true) { r with st := markL r.st i kk, top := mx, en := 1, told := true } (fun _ => rfl) rfl
                exact (r5.keep ((((Keep.setCell (S := fun k => k = x ∨ k = y) (Keep.refl _ _) (p := ⟨y, 2, none⟩) (.inr (.inr rfl)) (.bool true)).setCell (p := ⟨x, 0, none⟩) (.inr (.inl rfl)) (.int .i64 (i : Int))).setCell (p := ⟨x, 1, none⟩) (.inr (.inl rfl)) (.string (S8 G))).setCell (p := ⟨x, 2, none⟩) (.inr (.inl rfl)) (.bool true)) (fun i hi e => by have := hi.2; rcases e with e | e <;> omega)).mono (fun i _ e => e.1)
              have HEA := Lib.hid hendA
              have HEB := Lib.hid hendB
              have HW4 := Lib.hid (show _ ∧ _ ∧ _ ∧ _ ∧ _ ∧ _ ∧ _ ∧ _ ∧ _ ∧ _ ∧ _ ∧ _ ∧ _ ∧ _ ∧ _ from ⟨q1, q2, q3, g2, g3, p0, p1, p2, s0, s1, s2, y0, y1, y2, t2⟩)
              clear hendA hendB k4 r4 my mx4 q2' q3' q1' qf kw4 q1 q2 q3 g2 g3 p0 p1 p2 s0 s1 s2 y0 y1 y2 t2
              by_cases hk1 : (kk : Int) < (n : Int)
              · by_cases hk3 : (kk : Int) < lm
                · by_cases hk4 : (kk : Int) - (i : Int) < most
                  · obtain ⟨g, rfl, hFg, cg, fg, hset⟩ := HAT2.out kk (by omega)
                    have hL : kk < r.st.length := by rw [← HN.out.1]; omega
                    rw [markL_getD hL, if_neg (by omega)] at cg
                    obtain ⟨v2, hv2⟩ : ∃ v2, v2 = r.st.getD kk 0 := ⟨_, rfl⟩
                    rw [← hv2] at cg
                    have HV2 := Lib.hid hv2
                    have HSET := Lib.hid hset
                    clear hv2 hset hL
                    by_cases hv2 : v2 = 0
                    · subst hv2
                      clear hmx hex
                      go_wp2_with fail
                      go_roundw
                      case rel =>
                        refine ⟨kk + 1, by go_num, by omega, by omega, fun _ => by omega, fun j h1 h2 => ?_, ?_, HK2.out.setCell (.inr hFg) _⟩
                        · by_cases e : j < kk
                          · exact HZ.out j h1 e
                          · have : j = kk := by omega
                            subst this
                            exact HV2.out.symm
                        · have := HSET.out 1
                          rw [markL_set hik] at this
                          exact this
                      case measure => simp [intOf]; omega
                    · have hik2 : i < kk := by
                        rcases Nat.lt_or_ge i kk with h | h
                        · exact h
                        · exfalso
                          have : kk = i := by omega
                          subst this
                          exact hv2 (HV2.out.trans HV.out.symm)
                      clear hwk
                      go_upto_region 13 with fail
                      rw [← hW4, ← hy]
                      clear hW4 hy x0 x1 x2 z0 z1 z2 c0 c2 c3 c5 c6 f2 f3 f6 d1
                      obtain ⟨q1, q2, q3, g2, g3, p0, p1, p2, s0, s1, s2, y0, y1, y2, t2⟩ := HW4.out
                      go_wp2_with fail
                      obtain ⟨l1, l2, l3⟩ := HEB.out (fun e => by have := HN.out.1; have := e.1; omega) _ rfl
                      exact bodyPost_ret (results_ct rfl _ rfl (run_loadV57 l1)) rfl ⟨_, _, rfl, HSPEC.out _ _ (by omega) (.inr (.inr (.inr (by rw [← HV2.out]; exact hv2)))) rfl rfl, l2, l3⟩
                  · skip
                    go_upto_region 13 with fail
                    rw [← hW4, ← hy]
                    clear hW4 hy x0 x1 x2 z0 z1 z2 c0 c2 c3 c5 c6 f2 f3 f6 d1
                    obtain ⟨q1, q2, q3, g2, g3, p0, p1, p2, s0, s1, s2, y0, y1, y2, t2⟩ := HW4.out
                    go_wp2_with fail
                    obtain ⟨l1, l2, l3⟩ := HEB.out (fun e => by have := HN.out.1; have := e.1; omega) _ rfl
                    exact bodyPost_ret (results_ct rfl _ rfl (run_loadV57 l1)) rfl ⟨_, rfl, _, HSPEC.out _ _ (by omega) (.inr (.inr (.inl (by omega)))) rfl rfl, l2, l3⟩
                · skip
                  go_upto_region 13 with fail
                  rw [← hW4, ← hy]
                  clear hW4 hy x0 x1 x2 z0 z1 z2 c0 c2 c3 c5 c6 f2 f3 f6 d1
                  obtain ⟨q1, q2, q3, g2, g3, p0, p1, p2, s0, s1, s2, y0, y1, y2, t2⟩ := HW4.out
                  go_wp2_with fail
                  obtain ⟨l1, l2, l3⟩ := HEB.out (fun e => by have := HN.out.1; have := e.1; omega) _ rfl
                  exact bodyPost_ret (results_ct rfl _ rfl (run_loadV57 l1)) rfl ⟨_, rfl, _, HSPEC.out _ _ (by omega) (.inr (.inl (by omega))) rfl rfl, l2, l3⟩
              · obtain rfl : kk = n := by omega
                by_cases he : en = 0
                · have hh : kk = r.st.length ∧ r.en = 0 := ⟨HN.out.1, by rw [← HN.out.2.2.2.1]; exact he⟩
                  have HHH := Lib.hid hh
                  clear hh
                  subst he
                  go_upto_region 13 with fail
                  rw [← hW4, ← hy]
                  clear hW4 hy x0 x1 x2 z0 z1 z2 c0 c2 c3 c5 c6 f2 f3 f6 d1
                  obtain ⟨q1, q2, q3, g2, g3, p0, p1, p2, s0, s1, s2, y0, y1, y2, t2⟩ := HW4.out
                  go_wp2_with fail
                  obtain ⟨l1, l2, l3⟩ := HEA.out HHH.out _ rfl
                  exact bodyPost_ret (results_ct rfl _ rfl (run_loadV57 l1)) rfl ⟨_, rfl, _, HSPEC.out _ _ (by omega) (.inl (by first | rfl | trivial)) rfl rfl, l2, l3⟩
                · have hh : ¬ (kk = r.st.length ∧ r.en = 0) := fun e => he (by rw [HN.out.2.2.2.1]; exact e.2)
                  have HHH := Lib.hid hh
                  clear hh
                  go_upto_region 13 with fail
                  rw [← hW4, ← hy]
                  clear hW4 hy x0 x1 x2 z0 z1 z2 c0 c2 c3 c5 c6 f2 f3 f6 d1
                  obtain ⟨q1, q2, q3, g2, g3, p0, p1, p2, s0, s1, s2, y0, y1, y2, t2⟩ := HW4.out
                  go_wp2_with fail
                  obtain ⟨l1, l2, l3⟩ := HEB.out HHH.out _ rfl
                  exact bodyPost_ret (results_ct rfl _ rfl (run_loadV57 l1)) rfl ⟨_, rfl, _, HSPEC.out _ _ (by omega) (.inl (by first | rfl | trivial)) rfl rfl, l2, l3⟩
          · go_wp2_with fail
            go_roundw
            case rel => exact ⟨i + 1, by go_num, by omega, fun j hj => by
              by_cases e : j < i
              · exact HALL.out j e
              · have : j = i := by omega
                subst this
                rw [← HV.out]; exact hv0, .inr (by omega), by first | rfl | trivial⟩
            case measure => simp [intOf]; omega
        · skip
          have hstop : i = r.st.length ∨ r.limit ≤ (i : Int) := .inr (by rw [← HN.out.2.2.1]; omega)
          have hcase : en = 0 ∧ ¬ lm < (n : Int) ∨ (en = 0 ∧ lm < (n : Int)) ∨ ¬ en = 0 := by omega
          have HSTOP := Lib.hid hstop
          clear hstop
          rcases hcase with ⟨he, hle⟩ | ⟨he, hle⟩ | he
          · omega
          all_goals
            go_wp2_with fail
            go_quiet (fail)
            go_wp2_with fail
            have hX := HX.out
            have m3 := set_block (set_block (set_block HM.out 0 (.int .i64 0)) 1 (.string ⟨#[]⟩)) 2 (.bool false)
            refine bodyPost_ret (results_ct rfl _ rfl (run_loadV57 m3)) rfl ⟨_, _, rfl, .inr ⟨by omega, i, by rw [← HN.out.1]; exact hi, HALL.out, by rw [← HN.out.2.2.1]; exact HLI.out, .inr ⟨HSTOP.out, .inr ⟨by rw [← HN.out.2.2.2.1, ← HN.out.2.1, ← HN.out.2.2.1]; omega, rfl, rfl⟩⟩⟩, ?_, ?_⟩
            · exact ((H1.out.keep ((Keep.refl wr (fun _ => False)).drewN _) (fun _ _ => id)).keep (((Keep.setCell (S := fun k => k = x) (Keep.refl _ _) (p := ⟨x, 0, none⟩) (.inr rfl) (.int .i64 0)).setCell (p := ⟨x, 1, none⟩) (.inr rfl) (.string ⟨#[]⟩)).setCell (p := ⟨x, 2, none⟩) (.inr rfl) (.bool false)) (fun i hi e => by have := hi.2; omega)).mono (fun i _ e => e.1)
            · exact ((((HKX.out.drewN _).setCell (p := ⟨x, 0, none⟩) (.inl (by show w.heap.size ≤ x; omega)) (.int .i64 0)).setCell (p := ⟨x, 1, none⟩) (.inl (by show w.heap.size ≤ x; omega)) (.string ⟨#[]⟩)).setCell (p := ⟨x, 2, none⟩) (.inl (by show w.heap.size ≤ x; omega)) (.bool false)).mono (fun _ _ e => e.elim)
      · skip
        have hin1 : ¬ (i : Int) < (n : Int) := by omega
        have hstop : i = r.st.length ∨ r.limit ≤ (i : Int) := .inl (by rw [← HN.out.1]; omega)
        have hcase : en = 0 ∧ ¬ lm < (n : Int) ∨ (en = 0 ∧ lm < (n : Int)) ∨ ¬ en = 0 := by omega
        have HSTOP := Lib.hid hstop
        clear hstop
        rcases hcase with ⟨he, hle⟩ | ⟨he, hle⟩ | he
        · subst he
          go_wp2_with fail
          go_quiet (fail)
          go_wp2_with fail
          rename_i nq
          have hX := HX.out
          have mm : (((wr.drewN nq).setCell ⟨R, 2, none⟩ (.int .i64 1)).setCell ⟨R, 3, none⟩ (.bool true)).heap[x]? = some (.cells #[.int .i64 0, .string ⟨#[]⟩, .bool false] 57 (0, 0)) := by
            rw [Below.heap_setCell _ _ _ x (by first | exact hRx | exact hxR), Below.heap_setCell _ _ _ x (by first | exact hRx | exact hxR)]
            exact HM.out
          have m3 := set_block (set_block (set_block mm 0 (.int .i64 (n : Int))) 1 (.string ⟨#[]⟩)) 2 (.bool true)
          refine bodyPost_ret (results_ct rfl _ rfl (run_loadV57 (off := (n : Int)) (d := ⟨#[]⟩) (f := true) m3)) rfl ⟨_, _, rfl, .inr ⟨by omega, i, by rw [← HN.out.1]; exact hi, HALL.out, by rw [← HN.out.2.2.1]; exact HLI.out, .inr ⟨HSTOP.out, .inl ⟨HN.out.2.2.2.1.symm, by rw [← HN.out.2.1, ← HN.out.2.2.1]; omega, by rw [← HN.out.2.1]; rfl, rfl⟩⟩⟩, ?_, ?_⟩
          · have q1 := ((H1.out.keep ((Keep.refl wr (fun _ => False)).drewN nq) (fun _ _ => id)).set 2 (.int .i64 1) { r with en := 1 } (fun _ => rfl) rfl).set 3 (.bool true) { r with en := 1, told := true } (fun _ => rfl) rfl
            exact (q1.keep (((Keep.setCell (S := fun k => k = x) (Keep.refl _ _) (p := ⟨x, 0, none⟩) (.inr rfl) (.int .i64 (n : Int))).setCell (p := ⟨x, 1, none⟩) (.inr rfl) (.string ⟨#[]⟩)).setCell (p := ⟨x, 2, none⟩) (.inr rfl) (.bool true)) (fun i hi e => by have := hi.2; omega)).mono (fun i _ e => e.1)
          · exact ((((((HKX.out.mono (T := F) (fun _ _ e => e.elim)).drewN nq).setCell (p := ⟨R, 2, none⟩) (.inr hF) (.int .i64 1)).setCell (p := ⟨R, 3, none⟩) (.inr hF) (.bool true)).setCell (p := ⟨x, 0, none⟩) (.inl (by show w.heap.size ≤ x; omega)) (.int .i64 (n : Int))).setCell (p := ⟨x, 1, none⟩) (.inl (by show w.heap.size ≤ x; omega)) (.string ⟨#[]⟩)).setCell (p := ⟨x, 2, none⟩) (.inl (by show w.heap.size ≤ x; omega)) (.bool true)
        all_goals
          go_wp2_with fail
          go_quiet (fail)
          go_wp2_with fail
          have hX := HX.out
          have m3 := set_block (set_block (set_block HM.out 0 (.int .i64 0)) 1 (.string ⟨#[]⟩)) 2 (.bool false)
          refine bodyPost_ret (results_ct rfl _ rfl (run_loadV57 m3)) rfl ⟨_, _, rfl, .inr ⟨by omega, i, by rw [← HN.out.1]; exact hi, HALL.out, by rw [← HN.out.2.2.1]; exact HLI.out, .inr ⟨HSTOP.out, .inr ⟨by rw [← HN.out.2.2.2.1, ← HN.out.2.1, ← HN.out.2.2.1]; omega, rfl, rfl⟩⟩⟩, ?_, ?_⟩
          · exact ((H1.out.keep ((Keep.refl wr (fun _ => False)).drewN _) (fun _ _ => id)).keep (((Keep.setCell (S := fun k => k = x) (Keep.refl _ _) (p := ⟨x, 0, none⟩) (.inr rfl) (.int .i64 0)).setCell (p := ⟨x, 1, none⟩) (.inr rfl) (.string ⟨#[]⟩)).setCell (p := ⟨x, 2, none⟩) (.inr rfl) (.bool false)) (fun i hi e => by have := hi.2; omega)).mono (fun i _ e => e.1)
          · exact ((((HKX.out.drewN _).setCell (p := ⟨x, 0, none⟩) (.inl (by show w.heap.size ≤ x; omega)) (.int .i64 0)).setCell (p := ⟨x, 1, none⟩) (.inl (by show w.heap.size ≤ x; omega)) (.string ⟨#[]⟩)).setCell (p := ⟨x, 2, none⟩) (.inl (by show w.heap.size ≤ x; omega)) (.bool false)).mono (fun _ _ e => e.elim)
end Go.Proofs.Ytjnekjjaofabeaa
