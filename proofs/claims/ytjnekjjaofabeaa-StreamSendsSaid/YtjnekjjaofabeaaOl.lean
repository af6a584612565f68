/-
  The sending end: Write (f13).
-/
import Derived.Test.YtjnekjjaofabeaaOk
namespace Go.Proofs.Ytjnekjjaofabeaa
open Go.RowKit Go.Rh Rng

def writeS (s : Snd) (d : List UInt8) : Snd := { s with b := s.b ++ d, todo := if d = [] then s.todo else addL (s.b.length : Int) ((s.b.length : Int) + (d.length : Int) - 1) s.todo }
set_option maxHeartbeats 1000000 in
set_option maxRecDepth 100000 in
theorem write_any {F : Nat → Prop} {w : World} {S : Nat} {s : Snd} {vx : Value} {d : List UInt8} (h : SndAt F w S s) (hx : Bs (fun i => ¬ F i) w vx d) (hc : s.closed = false) (hl : s.b.length + d.length ≤ 199998) (hin : InN (s.b.length : Int) s.todo) :
    Calls Try.prog 13 #[.pointer (some ⟨S, 0, none⟩), vx] w fun e w' => e = .returned (.int .i64 0) ∧ SndAt (More F w) w' S (writeS s d) ∧ Keep w w' F := by
  obtain ⟨i0, hi, hz, hsz, hby⟩ := info_parts info5
  obtain ⟨c3, c4, c5, c6, c7, c8, cf⟩ := h.cells
  obtain ⟨vb, c0, hob, hfb, hbytes⟩ := h.bytes
  obtain ⟨ct, F1, c1, hsi, hF1, htodo⟩ := h.todo
  obtain ⟨A, n, c, rfl, hn, hnc, hxb⟩ := hx
  obtain ⟨B, q, cb, hq, rfl⟩ := hob.form
  have hF := h.own
  have f0 := cf 0
  rw [hc] at c5
  have hqb : (q : Int) ≤ 199998 := by omega
  have hnb : (n : Int) ≤ 199998 := by omega
  have hg : ¬ (1048576 : Int) - (q : Int) < (n : Int) := by omega
  have HH := Lib.hid h
  have HQ := Lib.hid hq
  have HN := Lib.hid hn
  have HX : Hid (Bs (fun i => ¬ F i) w (.slice A n c) d) := ⟨A, n, c, rfl, hn, hnc, hxb⟩
  have HSI := Lib.hid hsi
  have HTODO := Lib.hid htodo
  have HF1 := Lib.hid hF1
  have HIN := Lib.hid hin
  have HL := Lib.hid hl
  rcases Nat.eq_zero_or_pos n with h0 | h0
  · subst h0
    clear h cf hob hfb hbytes hsi hF1 htodo hq hn hxb hin hl
    go_enter Try.func13, Try.ntmps13
    go_wp2_with fail
    go_ret
    have hd : d = [] := List.eq_nil_of_length_eq_zero HN.out.symm
    subst hd
    refine ⟨rfl, ?_, Keep.refl w F⟩
    have : writeS s [] = s := by unfold writeS; simp
    rw [this]
    exact HH.out.mono (fun i _ hi => .inl hi)
  · have h0' : (0 : Int) < (n : Int) := by omega
    have hd : d ≠ [] := fun e => by rw [e] at hn; simp at hn; omega
    have hw1 : IntKind.i64.wrap ((q : Int) + (n : Int) - 1) = (q : Int) + (n : Int) - 1 := by rw [IntKind.wrap_i64]; omega
    have HD := Lib.hid hd
    clear h cf hob hfb hbytes hsi hF1 htodo hq hn hxb hin hl hd
    have hadd : ∀ nq, Calls Try.prog 36 #[.pointer (some ⟨ct, 0, none⟩), .int .i64 (q : Int), .int .i64 ((q : Int) + (n : Int) - 1)] (w.drewN nq) fun e w' => e = .returned (.int .i64 0) ∧ SndAt (More F w) w' S { s with todo := addL (s.b.length : Int) ((s.b.length : Int) + (d.length : Int) - 1) s.todo } ∧ Keep w w' F := by
      intro nq
      have hQ := HQ.out
      have hN := HN.out
      have hL := HL.out
      have kq : Keep w (w.drewN nq) (fun _ => False) := (Keep.refl w _).drewN nq
      refine (addN (N := (s.b.length : Int) + (d.length : Int)) (HSI.out.keep kq (fun _ _ => id)) (HIN.out.mono (by omega)) (by omega) (by omega) (by omega) (by omega)).mono ?_
      rintro e w' ⟨rfl, h1, h2⟩
      rw [hQ, hN] at h1
      have k1 : Keep w w' F1 := (kq.mono (fun _ _ e => e.elim)).trans h2 (fun _ _ e => e)
      exact ⟨rfl, HTODO.out w' _ h1 k1, k1.mono (fun i _ e => HF1.out i e)⟩
    have HADD := Lib.hid hadd
    clear hadd
    go_enter Try.func13, Try.ntmps13
    go_upto_region 8 with fail
    refine region_tail_drew 18 54 (by kernel_rfl) rfl (by kernel_rfl) (by kernel_rfl) ?_
    simp only [List.take_succ_cons, List.take_zero, List.drop_succ_cons, List.drop_zero]
    (repeat (go_big_quiet_step (fail)))
    refine wpQuiet_nil ?_
    intro _ hwq
    obtain ⟨nq, hwq⟩ := hwq
    subst hwq
    go_wp2_with (first
      | (go_at_call 36; refine (HADD.out nq).mono ?_; rintro e w1 ⟨rfl, h1, k1⟩; obtain ⟨vb1, b0, hob1, hfb1, hbytes1⟩ := h1.bytes; obtain ⟨B1, q1, cb1, hq1, rfl⟩ := hob1.form; have g0 := h1.cells.2.2.2.2.2.2 0; have H1 := Lib.hid h1; have K1 := Lib.hid k1; have HOB1 := Lib.hid hob1; have HFB1 := Lib.hid hfb1; have HBY1 := Lib.hid hbytes1; have HX1 : Hid (Bs (fun i => ¬ F i) w1 (.slice A n c) d) := HX.out.keep k1 (fun _ h => h); clear h1 k1 hob1 hfb1 hbytes1 hq1)
      | (at_builtin; go_loud (refine wpList_append_bytes rfl _ _ 44 rfl i0 Try.underlying44 hi hz hsz hby (by rfl) (by rfl) HOB1.out HX1.out (by have := HL.out; show s.b.length + d.length ≤ _; omega) (Nat.zero_le _) ?_; intro v2 w2 own2 keep2 at2; obtain ⟨B2, q2, cb2, hq2, rfl⟩ := own2.form; have e0 : w2.heap[S]? = w1.heap[S]? := (keep2.block S H1.out.lt (fun e => (HFB1.out S e).2 rfl)); have b2 : w2.cell? ⟨S, 0, none⟩ = some (.slice B1 q1 cb1) := (World.cell?_of_block e0).trans b0; have g2 : w2.frozen? ⟨S, 0, none⟩ = false := (by rw [← g0]; simp [World.frozen?, e0]); have HB2 := Lib.hid (HBY1.out w2 _ _ own2 keep2 at2); have K2 := Lib.hid keep2; clear own2 keep2 at2 e0 hq2)))
    go_ret
    have k1 := K1.out
    have kk : Keep w (w2.setCell ⟨S, 0, none⟩ (.slice B2 q2 cb2)) F := (k1.trans K2.out (fun i hi e => by rcases (HFB1.out i e).1 with h | h; exact h; omega)).setCell (.inr hF) _
    refine ⟨rfl, ?_, kk⟩
    have e1 : writeS s d = { s with b := s.b ++ d, todo := addL (s.b.length : Int) ((s.b.length : Int) + (d.length : Int) - 1) s.todo } := by unfold writeS; rw [if_neg HD.out]
    rw [e1]
    exact HB2.out.mono (fun i _ e => by rcases e with e | e; exact e; exact .inr (Nat.le_trans k1.size e))
end Go.Proofs.Ytjnekjjaofabeaa
