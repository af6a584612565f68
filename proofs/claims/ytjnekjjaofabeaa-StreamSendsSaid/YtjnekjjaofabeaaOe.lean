/-
  The next bytes are read: Read (f10).
-/
import Derived.Test.YtjnekjjaofabeaaOd
namespace Go.Proofs.Ytjnekjjaofabeaa
open Go.RowKit Go.Rh Rng
attribute [local go_sem] Oper.semAt_some

/-- How far one may read at most; up to where all came. -/
def readTo (r : Rcv) (m : Int) : Int := min (r.b.length : Int) (r.read + min m (r.b.length : Int))
def readEnd (r : Rcv) (m : Int) : Int := match gaps r.read (readTo r m - 1) r.came with
  | [] => readTo r m
  | x :: _ => x.1
theorem readEnd_ok {r : Rcv} {m : Int} (h0 : 0 ≤ r.read) (h1 : r.read ≤ (r.b.length : Int)) (hm : 0 ≤ m) (hw : WF r.came) : r.read ≤ readEnd r m ∧ readEnd r m ≤ readTo r m ∧ readTo r m ≤ (r.b.length : Int) ∧ (∀ j, r.read ≤ j → j < readEnd r m → mem j r.came) ∧ (readEnd r m = readTo r m ∨ ¬ mem (readEnd r m) r.came) := by
  have hT : r.read ≤ readTo r m ∧ readTo r m ≤ (r.b.length : Int) := by unfold readTo; omega
  unfold readEnd
  cases hg : gaps r.read (readTo r m - 1) r.came with
  | nil =>
    refine ⟨hT.1, Int.le_refl _, hT.2, fun j h2 h3 => gaps_nil hw hg j h2 (by simp only at h3; omega), .inl rfl⟩
  | cons x rest =>
    obtain ⟨⟨a1, a2, a3, a4⟩, b, c⟩ := gaps_cons hw hg
    exact ⟨a1, by simp only; omega, hT.2, fun j h2 h3 => b j h2 h3, .inr c⟩

theorem RcvAt.putD {F : Nat → Prop} {w : World} {R D : Nat} {r : Rcv} {ds : Option (List Deferred)} (h : RcvAt F w R r) (hd : w.heap[D]? = some (.deferred ds)) (o : Obj) : RcvAt F (w.putObj D o) R r := by
  obtain ⟨vb, cb, vc, h1, h2, h3, f1, f2, f3, f4⟩ := h
  have kP : Keep w (w.putObj D o) (fun k => k = D) := ⟨rfl, rfl, rfl, by simp, fun k _ hk => World.putObj_heap_other hk⟩
  have ne : ∀ {k : Nat} {cs : Array Value} {t : TypeId} {fr : Nat × Nat}, w.heap[k]? = some (.cells cs t fr) → k ≠ D := by
    rintro k cs t fr e rfl
    rw [hd] at e; cases e
  exact ⟨vb, cb, vc, (kP.block R (heap_lt h1) (ne h1)).trans h1, h2.keep kP (fun k hk e => by obtain ⟨cs, fr, e'⟩ := own_row h2 hk; exact ne e' e), h3.keep kP (ne h3.row) (fun k hk e => by obtain ⟨cs, e'⟩ := h3.2.1.row hk; exact ne e' e), f1, f2, f3, f4⟩
theorem ret3_of {a : ByteArray} {b c : Bool} (h : b = c) : Ending.returned (.tuple #[.string a, .bool b, .int .i64 0]) = Ending.returned (.tuple #[.string a, .bool c, .int .i64 0]) := by rw [h]
set_option maxHeartbeats 4000000 in
set_option maxRecDepth 100000 in
theorem read_any {F : Nat → Prop} {w : World} {R : Nat} {r : Rcv} (h : RcvAt F w R r) {m : Int} (hm : 0 ≤ m) (hm2 : m ≤ 1000000) (hg : r.gone = false) (h0 : 0 ≤ r.read) (h1 : r.read ≤ (r.b.length : Int)) (hb : r.b.length ≤ 199998) (hB : Bd r.came) :
    Calls Try.prog 10 #[.pointer (some ⟨R, 0, none⟩), .int .i64 m] w fun e w' =>
      e = .returned (.tuple #[.string (S8 ((r.b.drop r.read.toNat).take ((readEnd r m).toNat - r.read.toNat))), .bool (r.known && decide (readEnd r m = r.size)), .int .i64 0]) ∧ RcvAt (More F w) w' R { r with read := readEnd r m } ∧ Keep w w' F := by
  have HH := Lib.hid h
  have hFR := h.own
  obtain ⟨r2, hr2⟩ : ∃ r2 : Rcv, r2 = { r with read := readEnd r m } := ⟨_, rfl⟩
  have HR2 := Lib.hid hr2
  rw [← hr2]
  clear hr2
  have hR := h.lt
  obtain ⟨-, c3, c4, -, -, c7, c8, -, -, d3, -, -, -⟩ := h.cells
  obtain ⟨vb, cb, vc, a1, a2, a3, f1, f2, f3, f4⟩ := h
  have hok := readEnd_ok (m := m) h0 h1 hm a3.2.2.1
  obtain ⟨A, n, c, hn, rfl⟩ := a2.form
  have c0 : w.cell? ⟨R, 0, none⟩ = some (.slice A n c) := by rw [cell_of_row w R 0 _ _ _ a1]; rfl
  have c1 : w.cell? ⟨R, 1, none⟩ = some (.pointer (some ⟨cb, 0, none⟩)) := by rw [cell_of_row w R 1 _ _ _ a1]; rfl
  obtain ⟨i0, hi, hz, hsz, hby⟩ := info_parts info5
  obtain ⟨rd, hrd⟩ : ∃ rd, rd = r.read := ⟨_, rfl⟩
  obtain ⟨sz, hsz2⟩ : ∃ sz, sz = r.size := ⟨_, rfl⟩
  obtain ⟨kn, hkn⟩ : ∃ kn, kn = r.known := ⟨_, rfl⟩
  obtain ⟨en, hen⟩ : ∃ en, en = readEnd r m := ⟨_, rfl⟩
  obtain ⟨e1, he1⟩ : ∃ e1, e1 = readTo r m := ⟨_, rfl⟩
  rw [← hrd] at c3 h0 h1
  rw [← hsz2] at c4
  rw [← hkn] at c7
  rw [hg] at c8
  rw [← hen, ← he1, ← hrd] at hok
  obtain ⟨v2, hsl, hbs⟩ := run_part (P := Try.prog) 44 i0 Try.underlying44 hi hsz a2.bs rd.toNat en.toNat (by omega) (by omega)
  rw [Int.toNat_of_nonneg (by omega), Int.toNat_of_nonneg (by omega)] at hsl
  obtain ⟨A2, n2, c2, hn2⟩ : ∃ A2 n2 c2, v2 = .slice A2 n2 c2 := by obtain ⟨A2, n2, c2, e, _⟩ := hbs; exact ⟨A2, n2, c2, e⟩
  subst hn2
  obtain ⟨k, hk⟩ : ∃ k, (if (n : Int) < m then (n : Int) else m) = k := ⟨_, rfl⟩
  have hk2 : k = min m (n : Int) := by rw [min_if]; exact hk.symm
  have hk3 : (if rd + k < (n : Int) then rd + k else (n : Int)) = e1 := by
    rw [he1]; unfold readTo; rw [← hn, ← hrd, ← hk2, min_if]
  have hkb : 0 ≤ k ∧ k ≤ 199998 := by omega
  have hw1 : IntKind.i64.wrap (rd + k) = rd + k := by rw [IntKind.wrap_i64]; omega
  have hw2 : IntKind.i64.wrap (e1 - 1) = e1 - 1 := by rw [IntKind.wrap_i64]; omega
  obtain ⟨X, hX⟩ : ∃ X, X = S8 ((r.b.drop rd.toNat).take (en.toNat - rd.toNat)) := ⟨_, rfl⟩
  have hgaps : (gaps rd (e1 - 1) r.came = [] ∧ en = e1) ∨ ∃ x rest, gaps rd (e1 - 1) r.came = x :: rest ∧ en = x.1 := by
    rw [hen, he1, hrd]
    unfold readEnd
    cases hgg : gaps r.read (readTo r m - 1) r.came with
    | nil => exact .inl ⟨rfl, rfl⟩
    | cons x rest => exact .inr ⟨x, rest, rfl, rfl⟩
  rw [← hrd, ← hen, ← hkn, ← hsz2, ← hX]
  have HX := Lib.hid hX
  have HEN := Lib.hid hen
  have HGP := Lib.hid hgaps
  have HN := Lib.hid hn
  have HBS := Lib.hid hbs
  have HA1 := Lib.hid a1
  have HA2 := Lib.hid a2
  have HA3 := Lib.hid a3
  have HF1 := Lib.hid (show F R ∧ F cb ∧ (∀ k, (Value.slice A n c).ownBlock = some k → F k) ∧ (∀ k, vc.ownBlock = some k → F k) from ⟨f1, f2, f3, f4⟩)
  have HBD := Lib.hid hB
  have HOK := Lib.hid hok
  have hnb : n ≤ 199998 := by omega
  obtain ⟨ok1, ok2, ok3, -, -⟩ := hok
  rw [← hn] at ok3
  clear hX hen hgaps hn hbs a1 a2 a3 f1 f2 f3 f4 hB hi hz hsz hby hrd hsz2 hkn he1 hk2 hg
  have hneg : ¬ m < 0 := by omega
  refine (callsIn_wide (n := 9)).1 (callsIn_of_wp_marks Try.func10 rfl trivial (wpIn_wide.2 ?_) rfl)
  simp only [Try.ntmps10, List.size_toArray, List.length_cons, List.length_nil, Nat.reduceAdd, Nat.reduceSub, Array.replicate_succ, Array.replicate_zero, List.push_toArray, List.append_toArray, List.nil_append, List.cons_append]
  obtain ⟨tb, htb⟩ : ∃ tb, tb = w.heap.size := ⟨_, rfl⟩
  have HTB := Lib.hid htb
  clear htb
  have n0 := World.new_ne w ⟨R, 0, none⟩ c0
  go_upto_region 5 with fail
  go_cut [7] from 22 to 39 (fun s7 wx => s7 = .pointer (some ⟨tb, 0, none⟩) ∧ Hid (wx.heap[tb]? = some (.cells #[.int .i64 e1] 3 (0, 0))) ∧ Hid (Keep w wx (fun _ => False)) ∧ Hid (wx.heap.size = tb + 1))
  case first =>
    go_region_held3 (fun w' => w'.cell? ⟨R, 0, none⟩ = some (.slice A n c) ∧ w'.cell? ⟨R, 3, none⟩ = some (.int .i64 rd)) (go_keep) (fail)
    all_goals
      go_wp2_with fail
      go_meet
      exact ⟨by rw [HTB.out], Lib.hid (by rw [HTB.out]; exact heap_alloc_new w _), Lib.hid (((Keep.refl w _).alloc _).drew), Lib.hid (by rw [HTB.out]; simp)⟩
  obtain ⟨rfl, HT3, HK3, HZ3⟩ := hcut
  obtain ⟨w3, hwc⟩ : ∃ w3, w3 = wc := ⟨_, rfl⟩
  subst hwc
  have htb := HTB.out
  have k3 := HK3.out
  have z3 := HZ3.out
  have t3 := HT3.out
  have b0 : w3.cell? ⟨tb, 0, none⟩ = some (.int .i64 e1) := by rw [cell_of_row w3 tb 0 _ _ _ t3]; rfl
  have b1 : w3.cell? ⟨R, 1, none⟩ = some (.pointer (some ⟨cb, 0, none⟩)) := (World.cell?_of_block (k3.block R hR id)).trans c1
  have b3 : w3.cell? ⟨R, 3, none⟩ = some (.int .i64 rd) := (World.cell?_of_block (k3.block R hR id)).trans c3
  have hRtb : ¬ R = tb := by omega
  have htbR : ¬ tb = R := by omega
  clear htb k3 z3 t3 n0
  go_wp2_with fail
  go_region_held3 (fun w' => w'.cell? ⟨R, 1, none⟩ = some (.pointer (some ⟨cb, 0, none⟩)) ∧ w'.cell? ⟨R, 3, none⟩ = some (.int .i64 rd) ∧ w'.cell? ⟨tb, 0, none⟩ = some (.int .i64 e1))
    ((refine ⟨?_, ?_, ?_⟩ <;> (repeat (first | assumption | (with_reducible refine cellD ?_) | (with_reducible refine cellA ?_)))))
    (first | (go_at_call 35; refine (gaps_any _ cb rd (e1 - 1)).mono ?_; rintro e w' ⟨rfl, rfl⟩))
  obtain ⟨Z, hZ⟩ : ∃ Z, Z = w3.heap.size := ⟨_, rfl⟩
  obtain ⟨w5, hw5⟩ : ∃ w5, w5 = (((w3.alloc (.cells #[.pointer (some ⟨cb, 0, none⟩)] 73)).alloc (.cells #[.int .i64 rd] 3)).alloc (.cells #[.int .i64 (e1 - 1)] 3)).drew := ⟨_, rfl⟩
  have k5 : Keep w3 w5 (fun _ => False) := by rw [hw5]; exact (((Keep.refl w3 _).alloc _).alloc _).alloc _ |>.drew
  have z5 : w5.heap.size = Z + 3 := by rw [hw5, hZ]; simp
  have q3 : w5.heap[Z]? = some (.cells #[.pointer (some ⟨cb, 0, none⟩)] 73 (0, 0)) := by rw [hw5, hZ]; exact (heap3 _ _ _ _).1
  have q1 : w5.heap[Z + 1]? = some (.cells #[.int .i64 rd] 3 (0, 0)) := by rw [hw5, hZ]; exact (heap3 _ _ _ _).2.1
  have q2 : w5.heap[Z + 2]? = some (.cells #[.int .i64 (e1 - 1)] 3 (0, 0)) := by rw [hw5, hZ]; exact (heap3 _ _ _ _).2.2
  rw [← hw5, ← hZ]
  have HK5 := Lib.hid k5
  have HZ5 := Lib.hid z5
  have HZ := Lib.hid hZ
  have HQ1 := Lib.hid q1
  have HQ2 := Lib.hid q2
  have HQ3 := Lib.hid q3
  have SC5 := (HA3.out.keep HK3.out id (fun _ _ => id)).keep k5 id (fun _ _ => id)
  have HSC5 := Lib.hid SC5
  have t5 : w5.heap[tb]? = _ := (k5.block tb (heap_lt HT3.out) id).trans HT3.out
  have HT5 := Lib.hid t5
  clear hw5 k5 z5 q1 q2 q3 hZ SC5 t5 b0 b1 b3
  go_wp2_with fail
  refine wp_rangeFunc_X (gf := 43) (lb := #[.pointer (some ⟨Z + 1, 0, none⟩), .pointer (some ⟨Z + 2, 0, none⟩), .pointer (some ⟨Z, 0, none⟩)]) (encs := encP) (bs := fun k => k = Z + 2) (M := fun B r => r = B + 1) (xs := gaps rd (e1 - 1) r.came) rfl (enters_of Try.func43 (by kernel_rfl) rfl) (fun k hk => by have := HZ5.out; omega) (gapE rd (e1 - 1) vc r.came (w5.heap.size + 2))
    (fun W1 hs hold => by rw [← hs]; exact gaps_seq ((hold _ (heap_lt HQ1.out)).trans HQ1.out) ((hold _ (heap_lt HQ2.out)).trans HQ2.out) ((hold _ (heap_lt HQ3.out)).trans HQ3.out) (HSC5.out.old hold) (by omega) (by omega) HBD.out) (fun _ => rfl)
    (fun pre W => pre = [] ∧ Keep w5 W (fun _ => False)) (fun c pre W => c = .exit 1 ∧ ∃ x, pre = [x] ∧ W.heap[tb]? = some (.cells #[.int .i64 x.1] 3 (0, 0)) ∧ Keep w5 W (fun k => k = tb)) ?hI ?hIx ⟨rfl, Keep.refl _ _⟩
    (fun t => { tmps := #[.pointer (some ⟨R, 0, none⟩), .int .i64 m, undef, undef, .string { data := #[] }, .bool false, .int .i64 0, .pointer (some ⟨tb, 0, none⟩), .int .i64 t.1, undef, .bool false, .pointer (some ⟨R, 0, none⟩), .bool false, .bool false, .int .i64 m, .bool false, .bool false, .bool false, .pointer (some ⟨R, 0, none⟩), .pointer (some ⟨R, 0, none⟩), .pointer (some ⟨R, 8, none⟩), .bool false, u22, u23, u24, u25, u26, u27, u28, u29, u30, u31, u32, u33, u34, u35, u36, u37, u38, u39, .pointer (some ⟨R, 0, none⟩), .pointer (some ⟨R, 0, none⟩), .pointer (some ⟨R, 1, none⟩), .pointer (some ⟨cb, 0, none⟩), .pointer (some ⟨R, 0, none⟩), .pointer (some ⟨R, 0, none⟩), .pointer (some ⟨R, 3, none⟩), .int .i64 rd, .int .i64 e1, .int .i64 (e1 - 1), .func (.func 43) #[] #[.pointer (some ⟨Z + 1, 0, none⟩), .pointer (some ⟨Z + 2, 0, none⟩), .pointer (some ⟨Z, 0, none⟩)], .int .i64 t.1, .int .i64 t.2, undef, undef, undef, undef, undef, undef, undef, undef, undef, undef, undef, undef, undef, undef, undef, undef, undef, undef, undef, undef, undef, undef, undef, undef, undef, undef, undef, undef, undef, undef, undef, undef], defers := [] }) ?assign ?body ?done ?stop
  case hI =>
    rintro pre X' X2 row ⟨e, hk⟩ hg hr
    exact ⟨e, hk.trans (Keep.of_grown (S := fun k => w5.heap.size ≤ k) hg (fun k _ e => (hr k e).1)) (fun i hi e => absurd e (by omega))⟩
  case hIx =>
    rintro c pre X' X2 row ⟨e, x, e2, e3, hk⟩ hg hr
    exact ⟨e, x, e2, (hg.block tb (heap_lt e3) (fun e => by have := (hr tb e.symm).1; have := HZ5.out; have := HZ.out; have := HZ3.out; omega)).trans e3, hk.trans (Keep.of_grown (S := fun k => w5.heap.size ≤ k) hg (fun k _ e => (hr k e).1)) (fun i hi e => absurd e (by omega))⟩
  case assign =>
    intro l' t W1 K hK
    simp only [encP]
    gi_wp2
    exact hK
  case body =>
    rintro l' pre t rest W1 hx hE1 ⟨rfl, hk⟩
    have tw : W1.heap[tb]? = _ := (hk.block tb (heap_lt HT5.out) id).trans HT5.out
    have cw : W1.cell? ⟨tb, 0, none⟩ = some (.int .i64 e1) := by rw [cell_of_row W1 tb 0 _ _ _ tw]; rfl
    have fw : W1.frozen? ⟨tb, 0, none⟩ = false := by simp [World.frozen?, tw]
    have HTW := Lib.hid tw
    have HKB := Lib.hid hk
    clear tw hk hx hE1
    gi_wp2
    exact ⟨⟨by simp, fun k hk => Below.heap_setCell W1 _ _ k (by have := hk.resolve_left id; have := HZ5.out; have := HZ.out; have := HZ3.out; simp; omega)⟩, rfl, t, rfl, set_block HTW.out 0 _, Keep.setCell (S := fun k => k = tb) (HKB.out.mono (fun _ _ e => e.elim)) (.inr rfl) _⟩
  case done =>
    rintro D W6 hD hE3 ⟨hx, hk0⟩ hdef
    have hen : en = e1 := by
      rcases HGP.out with ⟨_, h⟩ | ⟨x, rest, h, _⟩
      · exact h
      · rw [h] at hx; cases hx
    have hk : Keep w5 W6 (fun k => k = tb) := hk0.mono (fun _ _ e => e.elim)
    have tw : W6.heap[tb]? = some (.cells #[.int .i64 en] 3 (0, 0)) := by rw [hen]; exact (hk0.block tb (heap_lt HT5.out) id).trans HT5.out
    clear hen hx hk0
    have hRw : W6.heap[R]? = _ := (hk.block R (by have := HZ5.out; have := HZ.out; have := HZ3.out; have := HTB.out; omega) hRtb).trans ((HK5.out.block R (by have := HZ3.out; have := HTB.out; omega) id).trans ((HK3.out.block R hR id).trans HA1.out))
    have c0' : W6.cell? ⟨R, 0, none⟩ = some (.slice A n c) := by rw [cell_of_row W6 R 0 _ _ _ hRw]; rfl
    have c3' : W6.cell? ⟨R, 3, none⟩ = some (.int .i64 rd) := (World.cell?_of_block (hRw.trans HA1.out.symm)).trans c3
    have c4' : W6.cell? ⟨R, 4, none⟩ = some (.int .i64 sz) := (World.cell?_of_block (hRw.trans HA1.out.symm)).trans c4
    have c7' : W6.cell? ⟨R, 7, none⟩ = some (.bool kn) := (World.cell?_of_block (hRw.trans HA1.out.symm)).trans c7
    have f3' : W6.frozen? ⟨R, 3, none⟩ = false := by simp [World.frozen?, hRw]
    have tc : W6.cell? ⟨tb, 0, none⟩ = some (.int .i64 en) := by rw [cell_of_row W6 tb 0 _ _ _ tw]; rfl
    have kw6 : Keep w W6 (fun k => w.heap.size ≤ k) := ((HK3.out.trans HK5.out (fun _ _ e => e)).mono (T := fun k => w.heap.size ≤ k) (fun _ _ e => e.elim)).trans hk (fun k hk e => by have := HTB.out; omega)
    have bs6 := HBS.out.keep kw6 (fun k hk e => by have := (HA2.out.lt k hk).2; omega)
    have HBS6 := Lib.hid bs6
    have HKW6 := Lib.hid kw6
    have HDEF := Lib.hid hdef
    have HD := Lib.hid hD
    clear hRw kw6 bs6 hdef hD hE3 tw hk c0 c1 c3 c4 c7 c8 d3
    go_wp2_with fail
    refine wp_region_quiet_lit (by kernel_rfl) (by kernel_rfl) ?_
    (repeat (go_big_quiet_step (fail)))
    refine wq_convert (by rfl) 44 9 (.tmp 63) (by rfl) (by rfl) (v := .string X) (fun w' hw' => by obtain ⟨q, rfl⟩ := hw'; rw [HX.out]; exact run_string_bs Try.underlying44 Try.underlying5 Try.underlying9 (HBS6.out.heap rfl)) ?_
    simp only [Act.put, List.setIfInBounds_toArray, List.set_cons_zero, List.set_cons_succ]
    (repeat (go_big_quiet_step (fail)))
    refine wpQuiet_nil ?_
    intro _ hwq
    obtain ⟨nq, hwq⟩ := hwq
    subst hwq
    go_wp2
    have hbd := (HH.out.mono (G := fun k => F k ∧ k < w.heap.size) (fun k hk e => ⟨e, hk⟩)).keep HKW6.out (fun k hk e => by omega)
    have hfin : RcvAt F ((W6.drewN nq).setCell ⟨R, 3, none⟩ (.int .i64 en)) R r2 := ((hbd.keep ((Keep.refl W6 (fun _ => False)).drewN nq) (fun _ _ => id)).set 3 _ r2 (fun vb cb => by rw [HR2.out, HEN.out]; simp [rcells]) (by rw [HR2.out]) (by rw [HR2.out])).mono (fun k _ e => e.1)
    have hRD : R ≠ D := by
      rintro rfl
      obtain ⟨_, _, _, e, _⟩ := hbd
      have := HDEF.out
      rw [e] at this
      cases this
    have hdd : ((W6.drewN nq).setCell ⟨R, 3, none⟩ (.int .i64 en)).heap[D]? = some (.deferred (some [])) := (Below.heap_setCell (W6.drewN nq) _ _ D (Ne.symm hRD)).trans HDEF.out
    have hkk : Keep w ((W6.drewN nq).setCell ⟨R, 3, none⟩ (.int .i64 en)) F := ((HKW6.out.mono (T := F) (fun k hk e => by omega)).drewN nq).setCell (.inr hFR) _
    have hDw : w.heap.size ≤ D := by have := HD.out; have := HZ5.out; have := HZ.out; have := HZ3.out; have := HTB.out; omega
    have HFIN := Lib.hid hfin
    have HDD := Lib.hid hdd
    have HKK := Lib.hid hkk
    obtain ⟨W7, hW7⟩ : ∃ W7, W7 = (W6.drewN nq).setCell ⟨R, 3, none⟩ (.int .i64 en) := ⟨_, rfl⟩
    have g3 : W7.cell? ⟨R, 3, none⟩ = some (.int .i64 en) := by rw [hW7]; exact World.cell?_setCell_same' _ _ _ (by rw [show (W6.drewN nq).cell? ⟨R, 3, none⟩ = W6.cell? ⟨R, 3, none⟩ from rfl, c3']; rfl)
    have g4 : W7.cell? ⟨R, 4, none⟩ = some (.int .i64 sz) := by rw [hW7, World.cell?_setCell_other]; exact c4'; simp
    have g7 : W7.cell? ⟨R, 7, none⟩ = some (.bool kn) := by rw [hW7, World.cell?_setCell_other]; exact c7'; simp
    rw [← hW7] at hfin hdd hkk ⊢
    have HFIN := Lib.hid hfin
    have HDD := Lib.hid hdd
    have HKK := Lib.hid hkk
    clear hfin hdd hkk hW7 hbd hRD c0' c3' c4' c7' f3' tc
    cases kn
    all_goals
      go_quiet (fail)
      go_wp2
      refine leave_mark (D := D) HDD.out (fun _ => results_tmp3 (t := 4) (u := 5) (v := 6) rfl _ _ _) ⟨ret3_of ?_, ?_, ?_⟩
      · first | (simp; done) | (simp; rfl)
      · exact ((HFIN.out.keep ((Keep.refl W7 (fun _ => False)).drewN nq) (fun _ _ => id)).putD (D := D) HDD.out _).mono (fun k _ e => .inl e)
      · have kP : Keep (W7.drewN nq) ((W7.drewN nq).putObj D (.deferred none)) (fun k => k = D) := ⟨rfl, rfl, rfl, by simp, fun k _ hk => World.putObj_heap_other hk⟩
        exact (HKK.out.drewN nq).trans kP (fun k hk e => by omega)
  case stop =>
    rintro D c6 pre W6 hD hE3 hpre ⟨rfl, x, rfl, tw0, hk⟩ hdef
    have hen : en = x.1 := by
      obtain ⟨rest0, hpre⟩ := hpre
      rcases HGP.out with ⟨h, _⟩ | ⟨x', rest, h, h2⟩
      · rw [h] at hpre; cases hpre
      · rw [h] at hpre; simp at hpre; rw [h2, hpre.1]
    have tw : W6.heap[tb]? = some (.cells #[.int .i64 en] 3 (0, 0)) := by rw [hen]; exact tw0
    clear hen hpre tw0
    have hRw : W6.heap[R]? = _ := (hk.block R (by have := HZ5.out; have := HZ.out; have := HZ3.out; have := HTB.out; omega) hRtb).trans ((HK5.out.block R (by have := HZ3.out; have := HTB.out; omega) id).trans ((HK3.out.block R hR id).trans HA1.out))
    have c0' : W6.cell? ⟨R, 0, none⟩ = some (.slice A n c) := by rw [cell_of_row W6 R 0 _ _ _ hRw]; rfl
    have c3' : W6.cell? ⟨R, 3, none⟩ = some (.int .i64 rd) := (World.cell?_of_block (hRw.trans HA1.out.symm)).trans c3
    have c4' : W6.cell? ⟨R, 4, none⟩ = some (.int .i64 sz) := (World.cell?_of_block (hRw.trans HA1.out.symm)).trans c4
    have c7' : W6.cell? ⟨R, 7, none⟩ = some (.bool kn) := (World.cell?_of_block (hRw.trans HA1.out.symm)).trans c7
    have f3' : W6.frozen? ⟨R, 3, none⟩ = false := by simp [World.frozen?, hRw]
    have tc : W6.cell? ⟨tb, 0, none⟩ = some (.int .i64 en) := by rw [cell_of_row W6 tb 0 _ _ _ tw]; rfl
    have kw6 : Keep w W6 (fun k => w.heap.size ≤ k) := ((HK3.out.trans HK5.out (fun _ _ e => e)).mono (T := fun k => w.heap.size ≤ k) (fun _ _ e => e.elim)).trans hk (fun k hk e => by have := HTB.out; omega)
    have bs6 := HBS.out.keep kw6 (fun k hk e => by have := (HA2.out.lt k hk).2; omega)
    have HBS6 := Lib.hid bs6
    have HKW6 := Lib.hid kw6
    have HDEF := Lib.hid hdef
    have HD := Lib.hid hD
    clear hRw kw6 bs6 hdef hD hE3 tw hk c0 c1 c3 c4 c7 c8 d3
    go_wp2_with fail
    refine wp_region_quiet_lit (by kernel_rfl) (by kernel_rfl) ?_
    (repeat (go_big_quiet_step (fail)))
    refine wq_convert (by rfl) 44 9 (.tmp 63) (by rfl) (by rfl) (v := .string X) (fun w' hw' => by obtain ⟨q, rfl⟩ := hw'; rw [HX.out]; exact run_string_bs Try.underlying44 Try.underlying5 Try.underlying9 (HBS6.out.heap rfl)) ?_
    simp only [Act.put, List.setIfInBounds_toArray, List.set_cons_zero, List.set_cons_succ]
    (repeat (go_big_quiet_step (fail)))
    refine wpQuiet_nil ?_
    intro _ hwq
    obtain ⟨nq, hwq⟩ := hwq
    subst hwq
    go_wp2
    have hbd := (HH.out.mono (G := fun k => F k ∧ k < w.heap.size) (fun k hk e => ⟨e, hk⟩)).keep HKW6.out (fun k hk e => by omega)
    have hfin : RcvAt F ((W6.drewN nq).setCell ⟨R, 3, none⟩ (.int .i64 en)) R r2 := ((hbd.keep ((Keep.refl W6 (fun _ => False)).drewN nq) (fun _ _ => id)).set 3 _ r2 (fun vb cb => by rw [HR2.out, HEN.out]; simp [rcells]) (by rw [HR2.out]) (by rw [HR2.out])).mono (fun k _ e => e.1)
    have hRD : R ≠ D := by
      rintro rfl
      obtain ⟨_, _, _, e, _⟩ := hbd
      have := HDEF.out
      rw [e] at this
      cases this
    have hdd : ((W6.drewN nq).setCell ⟨R, 3, none⟩ (.int .i64 en)).heap[D]? = some (.deferred (some [])) := (Below.heap_setCell (W6.drewN nq) _ _ D (Ne.symm hRD)).trans HDEF.out
    have hkk : Keep w ((W6.drewN nq).setCell ⟨R, 3, none⟩ (.int .i64 en)) F := ((HKW6.out.mono (T := F) (fun k hk e => by omega)).drewN nq).setCell (.inr hFR) _
    have hDw : w.heap.size ≤ D := by have := HD.out; have := HZ5.out; have := HZ.out; have := HZ3.out; have := HTB.out; omega
    have HFIN := Lib.hid hfin
    have HDD := Lib.hid hdd
    have HKK := Lib.hid hkk
    obtain ⟨W7, hW7⟩ : ∃ W7, W7 = (W6.drewN nq).setCell ⟨R, 3, none⟩ (.int .i64 en) := ⟨_, rfl⟩
    have g3 : W7.cell? ⟨R, 3, none⟩ = some (.int .i64 en) := by rw [hW7]; exact World.cell?_setCell_same' _ _ _ (by rw [show (W6.drewN nq).cell? ⟨R, 3, none⟩ = W6.cell? ⟨R, 3, none⟩ from rfl, c3']; rfl)
    have g4 : W7.cell? ⟨R, 4, none⟩ = some (.int .i64 sz) := by rw [hW7, World.cell?_setCell_other]; exact c4'; simp
    have g7 : W7.cell? ⟨R, 7, none⟩ = some (.bool kn) := by rw [hW7, World.cell?_setCell_other]; exact c7'; simp
    rw [← hW7] at hfin hdd hkk ⊢
    have HFIN := Lib.hid hfin
    have HDD := Lib.hid hdd
    have HKK := Lib.hid hkk
    clear hfin hdd hkk hW7 hbd hRD c0' c3' c4' c7' f3' tc
    cases kn
    all_goals
      go_quiet (fail)
      go_wp2
      refine leave_mark (D := D) HDD.out (fun _ => results_tmp3 (t := 4) (u := 5) (v := 6) rfl _ _ _) ⟨ret3_of ?_, ?_, ?_⟩
      · first | (simp; done) | (simp; rfl)
      · exact ((HFIN.out.keep ((Keep.refl W7 (fun _ => False)).drewN nq) (fun _ _ => id)).putD (D := D) HDD.out _).mono (fun k _ e => .inl e)
      · have kP : Keep (W7.drewN nq) ((W7.drewN nq).putObj D (.deferred none)) (fun k => k = D) := ⟨rfl, rfl, rfl, by simp, fun k _ hk => World.putObj_heap_other hk⟩
        exact (HKK.out.drewN nq).trans kP (fun k hk e => by omega)
end Go.Proofs.Ytjnekjjaofabeaa
