/-
  HkdfSchedule: the walk.
-/
import Derived.Test.YtmifegjmmlipbaaDoorFd
import Derived.Test.YtmifegjmmlipbaaDoorCj
import Derived.Deep.Strs
namespace Go.Rh
open Go.RowKit Sha
theorem own_writable {w : World} {B n c : Nat} {A : Option Addr} {l : List UInt8} (h : Own w B (.slice A n c) l) (hn : n = l.length) : 0 < n → ∃ g off cs fr, A = some ⟨g, off, none⟩ ∧ w.heap[g]? = some (.cells cs 5 fr) ∧ free fr cs.size ∧ off + n ≤ cs.size := by
  intro h0
  rcases h with ⟨e, _⟩ | ⟨g, off, c, cs, fr, e, _, hg, hf, h1, h2, _⟩
  · injection e with e1 e2 e3; omega
  · injection e with e1 e2 e3
    subst e1 e2
    exact ⟨g, off, cs, fr, rfl, hg, hf, by omega⟩
end Go.Rh
namespace Go.Proofs.YtmifegjmmlipbaaDoor
open Go.ChangeShapes Go.WideShapes Go.ChangeAt Go.RowKit Go.Rh Sha

/-- A row of steps, opened. -/
def Uses (W : World) (A : Option Addr) (n : Nat) (X : Nat → Value) (M : Nat → Bool) (S L : Nat → List UInt8) : Prop :=
  0 < n → ∃ b off, A = some ⟨b, off, none⟩ ∧ b < W.heap.size ∧ ∀ j, j < n → W.cell? ⟨b, off + j * 3, none⟩ = some (.bool (M j)) ∧ W.cell? ⟨b, off + j * 3 + 1, none⟩ = some (.string (S8 (S j))) ∧ W.cell? ⟨b, off + j * 3 + 2, none⟩ = some (X j) ∧ Bs (fun k => k < W.heap.size) W (X j) (L j)
section
variable {H : Type} {enc : TypeId × Value → H}
theorem open_uses {r : Reach} {b0 : Nat} {W : World} {v : Value} {d : DataW H} {ps : List MemPlace} (hval : Value.okWide Tryd.prog W r b0 54 v) (hd : DataW.Trod enc Tryd.prog W 0 (fun _ => true) true 54 v d ps) :
    ∃ A n c X M S L, v = .slice A n c ∧ n ≤ maxLen ∧ Uses W A n X M S L := by
  obtain ⟨a0, len, cap, rfl⟩ := okWide_slice Tryd.underlying54 hval
  obtain ⟨fuel, hf⟩ := hd
  rcases Deep.open_slice Tryd.underlying54 hf with ⟨hcs, hx⟩ | ⟨a, len', cap', m, n, D, Pl, hcs, _, hl, hm, hmm, _, hx⟩
  · simp [Value.cells] at hcs
    obtain ⟨rfl, rfl, rfl⟩ := hcs
    exact ⟨_, _, _, fun _ => undef, fun _ => false, fun _ => [], fun _ => [], rfl, Nat.zero_le _, fun h => absurd h (by omega)⟩
  · simp [Value.cells] at hcs
    obtain ⟨rfl, rfl, rfl⟩ := hcs
    simp only [if_true] at hmm
    subst hmm
    have hc3 : Tryd.prog.cellsOf 60 = 3 := by kernel_rfl
    rw [hc3] at hx
    have one : ∀ j, j < m → ∃ x : Bool × List UInt8 × Value × List UInt8, W.cell? ((a.add (j * 3)).add 0) = some (.bool x.1) ∧ W.cell? ((a.add (j * 3)).add 1) = some (.string (S8 x.2.1)) ∧ W.cell? ((a.add (j * 3)).add 2) = some x.2.2.1 ∧ Bs (fun k => k < W.heap.size) W x.2.2.1 x.2.2.2 := by
      intro j hj
      obtain ⟨cs', h1, h2⟩ := hx j hj
      obtain ⟨_, hlen, hcell⟩ := World.cells?_some h1
      obtain ⟨y0, y1, y2, n', _, _, t0, t1, t2⟩ := Deep.trod_struct3 Tryd.underlying60 h2
      obtain ⟨c0, c1, c2, rfl⟩ : ∃ c0 c1 c2, cs' = [c0, c1, c2] := by
        match cs', hlen with
        | [c0, c1, c2], _ => exact ⟨_, _, _, rfl⟩
      obtain ⟨b, e0, _⟩ := DataW.trod_bool Tryd.underlying4 t0
      obtain ⟨s, e1, _⟩ := DataW.trod_string Tryd.underlying9 t1
      obtain ⟨v, l, e2, hb, _⟩ := bs_of_trod t2
      obtain ⟨l1, rfl⟩ : ∃ l, s = S8 l := ⟨_, S8_of_data⟩
      obtain rfl : c0 = .bool b := by have e : [c0] = [Value.bool b] := e0; simpa using e
      obtain rfl : c1 = .string (S8 l1) := by have e : [c1] = [Value.string (S8 l1)] := e1; simpa using e
      obtain rfl : c2 = v := by have e : [c2] = [v] := e2; simpa using e
      exact ⟨⟨b, l1, c2, l⟩, hcell 0 (by omega), hcell 1 (by omega), hcell 2 (by omega), hb⟩
    obtain ⟨F, hF⟩ := Deep.choose_lt (n := m) (p := fun j (x : Bool × List UInt8 × Value × List UInt8) => W.cell? ((a.add (j * 3)).add 0) = some (.bool x.1) ∧ W.cell? ((a.add (j * 3)).add 1) = some (.string (S8 x.2.1)) ∧ W.cell? ((a.add (j * 3)).add 2) = some x.2.2.1 ∧ Bs (fun k => k < W.heap.size) W x.2.2.1 x.2.2.2) one
    refine ⟨_, _, _, fun j => (F j).2.2.1, fun j => (F j).1, fun j => (F j).2.1, fun j => (F j).2.2.2, rfl, by omega, fun h0 => ?_⟩
    obtain ⟨b, off, spot⟩ := a
    have hspot : spot = none := by simpa [Addr.add] using World.cell?_spot (hF 0 (by omega)).1
    subst hspot
    have hp : ∀ j i, ((⟨b, off, none⟩ : Addr).add (j * 3)).add i = ⟨b, off + j * 3 + i, none⟩ := fun j i => by rw [add_plain, add_plain]
    refine ⟨b, off, rfl, ?_, fun j hj => ?_⟩
    · have h := (hF 0 (by omega)).1
      rw [hp] at h
      exact cell_block h
    · have h := hF j (by omega)
      rw [hp, hp, hp] at h
      exact h
end

theorem labE_end : labE [101, 110, 100] (sum []) 32 = 0 := by
  unfold labE
  rw [if_pos (by decide), if_pos ⟨by decide, by rw [sum_length]; decide⟩]

set_option maxRecDepth 100000 in
set_option maxHeartbeats 0 in
theorem hkdfSchedule_any {w : World} {A : Option Addr} {n c : Nat} {X : Nat → Value} {M : Nat → Bool} {S L : Nat → List UInt8} (hL : Laid w) (hx : Uses w A n X M S L) (hn : (n : Int) ≤ 9223372036854775807) : Calls Tryd.prog 13 #[.slice A n c] w fun e w' => e = .returned (.bool true) ∧ Below w.heap.size w w' := by
  have HS := Lib.hid (St.start hL)
  have HX := Lib.hid hx
  clear hx hL
  obtain ⟨i0, hi0, hz0, hz1, hz2⟩ := info_parts info5
  go_enter Tryd.func13, Tryd.ntmps13
  go_wp2_with fail
  refine (snone_any w).mono ?_
  rintro e w' ⟨rfl, rfl⟩
  go_wp2_with fail
  refine (mix_nil w' _).mono ?_
  rintro e w ⟨rfl, rfl⟩
  go_wp2_with fail
  refine (snone_any w).mono ?_
  rintro e w' ⟨rfl, rfl⟩
  go_wp2_with fail
  refine (derive_nil w' _ _).mono ?_
  rintro e w ⟨rfl, rfl⟩
  go_wp2_with fail
  refine (st_expands HS.out).mono ?_
  rintro e w1 ⟨rfl, hs⟩
  have HS1 := Lib.hid hs
  clear hs
  go_wp2_with fail
  refine (snew_any HS1.out.laid).mono ?_
  rintro e w2 ⟨h, rfl, hsc, hb2⟩
  have HSc2 := Lib.hid hsc
  have HS2 := Lib.hid (HS1.out.step hb2)
  have HB1 := Lib.hid HS1.out.size
  clear hsc hb2 HS1
  go_wp2_with fail
  refine (sfirst_any w2).mono ?_
  rintro e w3 ⟨rfl, hb3⟩
  have HS3 := Lib.hid (HS2.out.step hb3)
  have HSc3 := Lib.hid (HSc2.out.below hb3)
  have HF : Hid (sFirst.length = 32) := mac_length _ _
  obtain ⟨F, hF⟩ : ∃ F, F = sFirst := ⟨_, rfl⟩
  rw [← hF] at HSc3 HF ⊢
  clear hb3 HS2 HSc2 hF
  obtain ⟨hh, hhw⟩ : h = h ∧ w.heap.size ≤ h := ⟨rfl, by obtain ⟨_, _, _, h3⟩ := HSc3.out; have := HB1.out; omega⟩
  have HSc : Hid (SchedAt w3 w.heap.size h F) := (HSc3.out.inn).att (fun i hi k => ⟨Nat.le_trans HB1.out k.1.1, k.1.2⟩) hhw
  have HHW := Lib.hid hhw
  clear hh hhw HSc3 HB1
  go_wp2_with fail
  go_loopg [6, 7] 15 (fun g s6 s7 wr => ∃ (k : Nat) (sec : List UInt8), k + g = 15 ∧ s7 = .int .i64 k ∧ s6 = .string (S8 sec) ∧ Hid (sec.length = 32) ∧ St w.heap.size w wr [] ∧ SchedAt wr w.heap.size h sec)
  case atStart => exact ⟨0, F, rfl, rfl, rfl, HF, HS3.out, HSc.out⟩
  case round =>
    clear HS3 HSc HF
    obtain ⟨k, sec, hk, rfl, rfl, HSL, hs, hsc⟩ := hrel
    have HSr := Lib.hid hs
    have HSc := Lib.hid hsc
    clear hs hsc
    by_cases hk1 : (k : Int) < n
    · by_cases hk2 : (k : Int) < 15
      · have hgk : 1 ≤ gk := by omega
        obtain ⟨b, off, rfl, hbl, hcell⟩ := HX.out (by omega)
        obtain ⟨ha0, ha1, ha2, hB0⟩ := hcell k (by omega)
        have c0 : wr.cell? ⟨b, off + k * 3, none⟩ = some (.bool (M k)) := (World.cell?_of_block (HSr.out.below.block b hbl)).trans ha0
        have c1 : wr.cell? ⟨b, off + k * 3 + 1, none⟩ = some (.string (S8 (S k))) := (World.cell?_of_block (HSr.out.below.block b hbl)).trans ha1
        have c2 : wr.cell? ⟨b, off + k * 3 + 2, none⟩ = some (X k) := (World.cell?_of_block (HSr.out.below.block b hbl)).trans ha2
        have HB := Lib.hid (HSr.out.old hB0)
        have HC0 : Hid (b < wr.heap.size) := Nat.lt_of_lt_of_le hbl HSr.out.size
        clear hcell ha0 ha1 ha2 hB0 hbl
        obtain ⟨x, hx⟩ : ∃ x, X k = x := ⟨_, rfl⟩
        rw [hx] at c2 HB
        clear hx
        obtain ⟨lab, hlab⟩ : ∃ l, S k = l := ⟨_, rfl⟩
        rw [hlab] at c1
        clear hlab
        obtain ⟨mx, hmx⟩ : ∃ l, M k = l := ⟨_, rfl⟩
        rw [hmx] at c0
        clear hmx
        obtain ⟨P9, hP⟩ : ∃ P9, P9 = (L k).take 300 := ⟨_, rfl⟩
        go_upto_region 9 with fail
        go_cut [8] (fun s6 wx => ∃ (A6 : Option Addr) (n6 c6 : Nat), s6 = .slice A6 n6 c6 ∧ Hid (n6 = P9.length) ∧ Hid (Own wx wr.heap.size (.slice A6 n6 c6) P9) ∧ Hid (Below wr.heap.size wr wx))
        case first =>
          have HBa : Hid (Bs (fun k => k < w.heap.size) (wr.alloc (.cells #[] 5)) x (L k)) := HB.out.keep (S := fun _ => False) ((Keep.refl _ _).alloc _) (fun _ _ => id)
          have HC := Lib.hid (Ch.lit wr)
          have c4 : (wr.alloc (.cells #[] 5)).cell? ⟨b, off + k * 3 + 2, none⟩ = some x := (World.cell?_of_block (heap_old wr _ b (cell_block c2))).trans c2
          have hlen := HB.out
          obtain ⟨Ax, nx, cx, rfl, hnx, hcx, hbx⟩ := hlen
          obtain ⟨N, hif, hN1, hN2⟩ : ∃ N : Nat, (if (300 : Int) < (nx : Int) then (300 : Int) else (nx : Int)) = (N : Int) ∧ N ≤ (L k).length ∧ N = min 300 (L k).length := by
            by_cases h : nx ≤ 300
            · exact ⟨nx, if_neg (by omega), by omega, by omega⟩
            · exact ⟨300, if_pos (by omega), by omega, by omega⟩
          obtain ⟨y, hcut, hy⟩ := run_first (P := Tryd.prog) 22 i0 Tryd.underlying22 hi0 hz1 HBa.out N hN1
          have eP : (L k).take N = P9 := by
            rw [hP, hN2, Nat.min_def]
            split
            · rfl
            · rw [List.take_of_length_le (by omega), List.take_of_length_le (by omega)]
          rw [eP] at hy
          have HY := Lib.hid hy
          have HPL : Hid (P9.length ≤ 300) := by show _ ≤ _; rw [hP, List.length_take]; omega
          clear hbx hcx hnx hy hP hN1 hN2 eP
          go_region_law (first | (refine step_append_bytes (by rfl) (.tmp 44) (.tmp 57) 22 (by rfl) i0 Tryd.underlying22 hi0 hz0 hz1 hz2 (by rfl) (by rfl) (HC.out.own.heap (by rfl)) (HY.out.heap (by rfl)) (by have := HPL.out; simp; omega) (by simp) ?_; intro v6 w6 own6 keep6 at6; have HO6 := Lib.hid own6; have HK6 := Lib.hid keep6; clear own6 keep6 at6) | fail)
          all_goals (
            have HC6 : Hid (Ch wr w6 v6 P9) := HC.out.next HO6.out ⟨HK6.out.os, HK6.out.tape, HK6.out.output, HK6.out.size, HK6.out.block⟩
            obtain ⟨A6, n6, c6, hn6, rfl⟩ := HC6.out.own.form
            have HN6 := Lib.hid hn6
            clear hn6
            go_wp2
            go_meet
            exact ⟨A6, n6, c6, rfl, HN6.out, HC6.out.own, HC6.out.below⟩)
        case rest =>
          obtain ⟨A6, n6, c6, rfl, hn6, ho6, hb6⟩ := hcut
          have HPL : Hid (P9.length ≤ 300) := by show _ ≤ _; rw [hP, List.length_take]; omega
          have HN6 : Hid (n6 = P9.length) := hn6
          have hn6 : (n6 : Int) ≤ 300 := by have := HN6.out; have := HPL.out; omega
          have HO6 : Hid (Own wc wr.heap.size (.slice A6 n6 c6) P9) := ho6
          have HS6 : Hid (St w.heap.size w wc []) := HSr.out.step hb6.out
          have HSc6 : Hid (SchedIn (fun i => (w.heap.size ≤ i ∧ i ≠ h) ∧ i < wr.heap.size) wc h sec) := HSc.out.inn.keep (S := fun _ => False) (Keep.of_below hb6.out (Nat.le_refl _) _) id (fun _ _ _ => id)
          have HNh : Hid (h < wr.heap.size) := by obtain ⟨_, h1, _⟩ := HSc.out; exact heap_lt h1
          have HNr : Hid (w.heap.size ≤ wr.heap.size) := HSr.out.size
          have d0 : wc.cell? ⟨b, off + k * 3, none⟩ = some (.bool mx) := (World.cell?_of_block (hb6.out.block b HC0.out)).trans c0
          have d1 : wc.cell? ⟨b, off + k * 3 + 1, none⟩ = some (.string (S8 lab)) := (World.cell?_of_block (hb6.out.block b HC0.out)).trans c1
          have hcv : (convert 22 9 (.slice A6 n6 c6)).run Tryd.prog wc = .ok (.string (S8 P9)) wc := run_string_bs Tryd.underlying22 Tryd.underlying5 Tryd.underlying9 ho6.out.bs
          have HNrc : Hid (wr.heap.size ≤ wc.heap.size) := hb6.out.size
          have HCc : Hid (b < wc.heap.size) := Nat.lt_of_lt_of_le HC0.out hb6.out.size
          have HNc : Hid (∀ i, (Value.slice A6 n6 c6).ownBlock = some i → wr.heap.size ≤ i ∧ i < wc.heap.size) := HO6.out.lt
          obtain ⟨Nr, hNr⟩ : ∃ N, wr.heap.size = N := ⟨_, rfl⟩
          rw [hNr] at HO6 HSc6 HNh HNr HNrc HNc
          clear ho6 hP c0 c1 c2 HSr HSc HB HC0 hb6 hNr
          cases mx
          · go_wp2_with fail
            refine (derive_any HS6.out.laid (HSc6.out.att (fun _ _ h => h.1) HHW.out) HO6.out.bs (by have := HSL.out; omega) (by have := HPL.out; omega)).mono ?_
            rintro e w7 ⟨A7, n7, c7, rfl, hn7, ho7, hb7⟩
            have HS7 := Lib.hid (HS6.out.step hb7)
            have HSc7 : Hid (SchedIn (fun i => (w.heap.size ≤ i ∧ i ≠ h) ∧ i < Nr) w7 h sec) := HSc6.out.keep (S := fun _ => False) (Keep.of_below hb7 (Nat.le_refl _) _) id (fun _ _ _ => id)
            have HO67 : Hid (Own w7 Nr (.slice A6 n6 c6) P9) := HO6.out.keep (S := fun _ => False) (Keep.of_below hb7 (Nat.le_refl _) _) (fun _ _ => id)
            have d7 : w7.cell? ⟨b, off + k * 3 + 1, none⟩ = some (.string (S8 lab)) := (World.cell?_of_block (hb7.block b HCc.out)).trans d1
            obtain ⟨R, hR⟩ : ∃ R, R = labR sec lab (sum P9) 32 := ⟨_, rfl⟩
            obtain ⟨E, hE⟩ : ∃ E, E = labE lab (sum P9) 32 := ⟨_, rfl⟩
            rw [← hR] at ho7 hn7
            rw [← hE]
            have HR := Lib.hid hR
            have HE := Lib.hid hE
            have HO7 := Lib.hid ho7
            have HN7 := Lib.hid hn7
            have HRl : Hid (R.length ≤ 8160) := by show _ ≤ _; rw [hR]; exact labR_length _ _ _ _
            clear hR hE ho7 hn7 d0 d1 hcv hb7 HS6 HSc6 HO6
            go_wp2_with fail
            refine (docderive_any sec lab P9 (by have := HSL.out; omega) (by have := HPL.out; omega) w7).mono ?_
            rintro e w8 ⟨rfl, hb8⟩
            rw [← HR.out, ← HE.out]
            have HS8 := Lib.hid (HS7.out.step hb8)
            have HSc8 : Hid (SchedIn (fun i => (w.heap.size ≤ i ∧ i ≠ h) ∧ i < Nr) w8 h sec) := HSc7.out.keep (S := fun _ => False) (Keep.of_below hb8 (Nat.le_refl _) _) id (fun _ _ _ => id)
            have HO68 : Hid (Own w8 Nr (.slice A6 n6 c6) P9) := HO67.out.keep (S := fun _ => False) (Keep.of_below hb8 (Nat.le_refl _) _) (fun _ _ => id)
            have HO78 : Hid (Own w8 wc.heap.size (.slice A7 n7 c7) R) := HO7.out.keep (S := fun _ => False) (Keep.of_below hb8 (Nat.le_refl _) _) (fun _ _ => id)
            have HNc8 : Hid (∀ i, (Value.slice A7 n7 c7).ownBlock = some i → wc.heap.size ≤ i ∧ i < w8.heap.size) := HO78.out.lt
            have hcv7 : (convert 22 9 (.slice A7 n7 c7)).run Tryd.prog w8 = .ok (.string (S8 R)) w8 := run_string_bs Tryd.underlying22 Tryd.underlying5 Tryd.underlying9 HO78.out.bs
            have HW8 : Hid (0 < n7 → ∃ g off cs fr, A7 = some ⟨g, off, none⟩ ∧ w8.heap[g]? = some (.cells cs 5 fr) ∧ free fr cs.size ∧ off + n7 ≤ cs.size) := own_writable HO78.out HN7.out
            have hn7 : (n7 : Int) ≤ 8160 := by have := HN7.out; have := HRl.out; omega
            clear hb8 d7 HS7 HSc7 HO67 HO7 HR HE HO78 HN7 HRl
            go_wp2_with fail
            go_loopw [14] (fun s7 wx => ∃ j : Nat, s7 = .int .i64 j ∧ j ≤ n7 ∧ Keep w8 wx (fun i => (Value.slice A7 n7 c7).ownBlock = some i) ∧ (0 < n7 → ∃ g off cs fr, A7 = some ⟨g, off, none⟩ ∧ wx.heap[g]? = some (.cells cs 5 fr) ∧ free fr cs.size ∧ off + n7 ≤ cs.size)) (fun s7 _ => n7 - (intOf s7).toNat)
            case atStart => exact ⟨0, rfl, Nat.zero_le _, Keep.refl _ _, HW8.out⟩
            case round =>
              clear HW8
              obtain ⟨j, rfl, hj, hkx, hgx⟩ := hrel
              by_cases hlt : j < n7
              · have hlt' : (j : Int) < n7 := by omega
                obtain ⟨g, o6, cs, fr, rfl, hg, hf, hof⟩ := hgx (by omega)
                obtain ⟨yv, ccx⟩ : ∃ y, wr.cell? ⟨g, o6 + j, none⟩ = some y := ⟨_, by rw [cell_of_row wr g (o6 + j) cs 5 fr hg]; exact Array.getElem?_eq_getElem (by omega)⟩
                have ffx : wr.frozen? ⟨g, o6 + j, none⟩ = false := frozen_free hg hf (by omega)
                have HGX := Lib.hid hg
                have HFX : Hid (free fr cs.size ∧ o6 + n7 ≤ cs.size) := ⟨hf, hof⟩
                have HKX := Lib.hid hkx
                clear hg hf hof hkx hgx hlt
                go_wp2
                go_roundw
                case measure => simp [intOf]; omega
                refine ⟨j + 1, by go_num, by omega, HKX.out.setCell (p := ⟨g, o6 + j, none⟩) (.inr rfl) _, fun _ => ⟨g, o6, cs.setIfInBounds (o6 + j) (.int .u8 65), fr, rfl, ?_, by rw [Array.size_setIfInBounds]; exact HFX.out.1, by rw [Array.size_setIfInBounds]; exact HFX.out.2⟩⟩
                have hh := HGX.out
                simp [World.setCell, Array.getElem?_modify, hh]
              · obtain rfl : j = n7 := by omega
                obtain ⟨w9, rfl⟩ : ∃ u, u = wr := ⟨_, rfl⟩
                have HSx : Hid (St w.heap.size w w9 []) := HS8.out.keep5 hkx (fun i hi => by have := HNc8.out i hi; have := HNr.out; have := HNrc.out; omega) (fun _ h => by simp at h) (fun _ h => by simp at h)
                have HSc9 : Hid (SchedIn (fun i => (w.heap.size ≤ i ∧ i ≠ h) ∧ i < Nr) w9 h sec) := HSc8.out.keep hkx (fun hi => by have := HNc8.out _ hi; have := HNh.out; have := HNrc.out; omega) (fun i _ h hi => by have := HNc8.out _ hi; have := HNrc.out; omega)
                have HO69 : Hid (Own w9 Nr (.slice A6 n6 c6) P9) := HO68.out.keep hkx (fun i hi hj => by have := HNc8.out i hj; have := HNc.out i hi; omega)
                have HW9 : Hid (0 < n6 → ∃ g off cs fr, A6 = some ⟨g, off, none⟩ ∧ w9.heap[g]? = some (.cells cs 5 fr) ∧ free fr cs.size ∧ off + n6 ≤ cs.size) := own_writable HO69.out HN6.out
                clear hkx hgx HS8 HSc8 HO68 hlt hn7 HNc8 HO69 HPL HCc
                go_wp2_with fail
                go_loopw [15] (fun s7 wx => ∃ j : Nat, s7 = .int .i64 j ∧ j ≤ n6 ∧ Keep w9 wx (fun i => (Value.slice A6 n6 c6).ownBlock = some i) ∧ (0 < n6 → ∃ g off cs fr, A6 = some ⟨g, off, none⟩ ∧ wx.heap[g]? = some (.cells cs 5 fr) ∧ free fr cs.size ∧ off + n6 ≤ cs.size)) (fun s7 _ => n6 - (intOf s7).toNat)
                case atStart => exact ⟨0, rfl, Nat.zero_le _, Keep.refl _ _, HW9.out⟩
                case round =>
                  clear HW9
                  obtain ⟨j, rfl, hj, hkx, hgx⟩ := hrel
                  by_cases hlt : j < n6
                  · have hlt' : (j : Int) < n6 := by omega
                    obtain ⟨g, o6, cs, fr, rfl, hg, hf, hof⟩ := hgx (by omega)
                    obtain ⟨yv, ccx⟩ : ∃ y, wr.cell? ⟨g, o6 + j, none⟩ = some y := ⟨_, by rw [cell_of_row wr g (o6 + j) cs 5 fr hg]; exact Array.getElem?_eq_getElem (by omega)⟩
                    have ffx : wr.frozen? ⟨g, o6 + j, none⟩ = false := frozen_free hg hf (by omega)
                    have HGX := Lib.hid hg
                    have HFX : Hid (free fr cs.size ∧ o6 + n6 ≤ cs.size) := ⟨hf, hof⟩
                    have HKX := Lib.hid hkx
                    clear hg hf hof hkx hgx hlt
                    go_wp2
                    go_roundw
                    case measure => simp [intOf]; omega
                    refine ⟨j + 1, by go_num, by omega, HKX.out.setCell (p := ⟨g, o6 + j, none⟩) (.inr rfl) _, fun _ => ⟨g, o6, cs.setIfInBounds (o6 + j) (.int .u8 66), fr, rfl, ?_, by rw [Array.size_setIfInBounds]; exact HFX.out.1, by rw [Array.size_setIfInBounds]; exact HFX.out.2⟩⟩
                    have hh := HGX.out
                    simp [World.setCell, Array.getElem?_modify, hh]
                  · obtain rfl : j = n6 := by omega
                    obtain ⟨w10, rfl⟩ : ∃ u, u = wr := ⟨_, rfl⟩
                    have HSy : Hid (St w.heap.size w w10 []) := HSx.out.keep5 hkx (fun i hi => by have := HNc.out i hi; have := HNr.out; omega) (fun _ h => by simp at h) (fun _ h => by simp at h)
                    have HScy : Hid (SchedIn (fun i => (w.heap.size ≤ i ∧ i ≠ h) ∧ i < Nr) w10 h sec) := HSc9.out.keep hkx (fun hi => by have := HNc.out _ hi; have := HNh.out; omega) (fun i _ h hi => by have := HNc.out _ hi; omega)
                    clear hkx hgx HSx HSc9 hlt HN6 HNc
                    go_wp2
                    go_roundg (gk - 1)
                    case measure => omega
                    case rel => exact ⟨k + 1, sec, by omega, by go_num, rfl, HSL, HSy.out, HScy.out.att (fun _ _ h => h.1) HHW.out⟩
          · go_wp2_with fail
            refine (mix_any' HS6.out.laid (HSc6.out.att (fun _ _ h => h.1) HHW.out) HO6.out.bs (by have := HSL.out; omega) (by have := HPL.out; omega) (by obtain ⟨_, hkr⟩ := HS.out.laid.k; exact heap_lt hkr) HS6.out.size).mono ?_
            rintro e w7 ⟨rfl, -, hsc, hk7⟩
            obtain ⟨Z, hZ⟩ : ∃ Z, Z = mixed sec P9 := ⟨_, rfl⟩
            have HZL : Hid (Z.length = 32) := by show _ = _; rw [hZ]; exact mixed_length _ _
            rw [← hZ] at hsc
            have HZ := Lib.hid hZ
            have HSc7 := Lib.hid hsc
            have HS7 : Hid (St w.heap.size w w7 []) := HS6.out.keep5 hk7 (fun i hi => by subst hi; exact HHW.out) (fun _ h => by simp at h) (fun _ h => by simp at h)
            have HO67 : Hid (Own w7 Nr (.slice A6 n6 c6) P9) := HO6.out.keep hk7 (fun i hi e => by have := HNc.out i hi; have := HNh.out; omega)
            clear hsc hk7 hZ d0 d1 hcv HS6 HSc6 HO6
            go_wp2_with fail
            refine (smixed_any sec P9 (by have := HSL.out; omega) (by have := HPL.out; omega) w7).mono ?_
            rintro e w8 ⟨rfl, hb8⟩
            rw [← HZ.out]
            have HS8 := Lib.hid (HS7.out.step hb8)
            have HSc8 : Hid (SchedIn (fun i => wc.heap.size ≤ i ∧ i ≠ h) w8 h Z) := HSc7.out.keep (S := fun _ => False) (Keep.of_below hb8 (Nat.le_refl _) _) id (fun _ _ _ => id)
            have HO68 : Hid (Own w8 Nr (.slice A6 n6 c6) P9) := HO67.out.keep (S := fun _ => False) (Keep.of_below hb8 (Nat.le_refl _) _) (fun _ _ => id)
            have HW8 : Hid (0 < n6 → ∃ g off cs fr, A6 = some ⟨g, off, none⟩ ∧ w8.heap[g]? = some (.cells cs 5 fr) ∧ free fr cs.size ∧ off + n6 ≤ cs.size) := own_writable HO68.out HN6.out
            clear hb8 HS7 HSc7 HO67 HO68 HZ HPL HCc
            go_wp2_with fail
            go_loopw [15] (fun s7 wx => ∃ j : Nat, s7 = .int .i64 j ∧ j ≤ n6 ∧ Keep w8 wx (fun i => (Value.slice A6 n6 c6).ownBlock = some i) ∧ (0 < n6 → ∃ g off cs fr, A6 = some ⟨g, off, none⟩ ∧ wx.heap[g]? = some (.cells cs 5 fr) ∧ free fr cs.size ∧ off + n6 ≤ cs.size)) (fun s7 _ => n6 - (intOf s7).toNat)
            case atStart => exact ⟨0, rfl, Nat.zero_le _, Keep.refl _ _, HW8.out⟩
            case round =>
              clear HW8
              obtain ⟨j, rfl, hj, hkx, hgx⟩ := hrel
              by_cases hlt : j < n6
              · have hlt' : (j : Int) < n6 := by omega
                obtain ⟨g, o6, cs, fr, rfl, hg, hf, hof⟩ := hgx (by omega)
                obtain ⟨yv, ccx⟩ : ∃ y, wr.cell? ⟨g, o6 + j, none⟩ = some y := ⟨_, by rw [cell_of_row wr g (o6 + j) cs 5 fr hg]; exact Array.getElem?_eq_getElem (by omega)⟩
                have ffx : wr.frozen? ⟨g, o6 + j, none⟩ = false := frozen_free hg hf (by omega)
                have HGX := Lib.hid hg
                have HFX : Hid (free fr cs.size ∧ o6 + n6 ≤ cs.size) := ⟨hf, hof⟩
                have HKX := Lib.hid hkx
                clear hg hf hof hkx hgx hlt
                go_wp2
                go_roundw
                case measure => simp [intOf]; omega
                refine ⟨j + 1, by go_num, by omega, HKX.out.setCell (p := ⟨g, o6 + j, none⟩) (.inr rfl) _, fun _ => ⟨g, o6, cs.setIfInBounds (o6 + j) (.int .u8 66), fr, rfl, ?_, by rw [Array.size_setIfInBounds]; exact HFX.out.1, by rw [Array.size_setIfInBounds]; exact HFX.out.2⟩⟩
                have hh := HGX.out
                simp [World.setCell, Array.getElem?_modify, hh]
              · obtain rfl : j = n6 := by omega
                obtain ⟨w9, rfl⟩ : ∃ u, u = wr := ⟨_, rfl⟩
                have HSy : Hid (St w.heap.size w w9 []) := HS8.out.keep5 hkx (fun i hi => by have := HNc.out i hi; have := HNr.out; omega) (fun _ h => by simp at h) (fun _ h => by simp at h)
                have HScy : Hid (SchedIn (fun i => wc.heap.size ≤ i ∧ i ≠ h) w9 h Z) := HSc8.out.keep hkx (fun hi => by have := HNc.out _ hi; have := HNh.out; omega) (fun i _ h hi => by have := HNc.out _ hi; omega)
                clear hkx hgx HS8 HSc8 hlt HN6 HNc
                go_wp2
                go_roundg (gk - 1)
                case measure => omega
                case rel => exact ⟨k + 1, Z, by omega, by go_num, rfl, HZL, HSy.out, HScy.out.att (fun i _ h => ⟨by have := HNr.out; have := HNrc.out; omega, h.2⟩) HHW.out⟩
      · have hd2 : decide ((k : Int) < 15) = false := by simp; omega
        have hk3 : (15 : Int) ≤ k := by omega
        clear hk2
        go_wp2_with fail
        refine (derive_any (lab := [101, 110, 100]) (m := []) HSr.out.laid HSc.out (ok := fun _ => True) ⟨none, 0, 0, rfl, rfl, Nat.le_refl _, fun h => absurd h (Nat.lt_irrefl _)⟩ (by have := HSL.out; omega) (Nat.zero_le _)).mono ?_
        rintro e w5 ⟨A5, n5, c5, rfl, -, ho5, hb5⟩
        have HS5 := Lib.hid (HSr.out.step hb5)
        obtain ⟨R, hR⟩ : ∃ R, R = labR sec [101, 110, 100] (sum []) 32 := ⟨_, rfl⟩
        rw [← hR] at ho5
        rw [labE_end]
        have HR := Lib.hid hR
        have HO5 := Lib.hid ho5
        clear hR ho5 hb5 HSc HSr
        go_wp2_with fail
        refine (docderive_any sec [101, 110, 100] [] (by have := HSL.out; omega) (Nat.zero_le _) w5).mono ?_
        rintro e w6 ⟨rfl, hb6⟩
        rw [← HR.out, labE_end]
        have hcv5 : (convert 22 9 (.slice A5 n5 c5)).run Tryd.prog w6 = .ok (.string (S8 R)) w6 := run_string_bs Tryd.underlying22 Tryd.underlying5 Tryd.underlying9 (HO5.out.keep (S := fun _ => False) (Keep.of_below hb6 (Nat.le_refl _) _) (fun _ _ => id)).bs
        have HS6 := Lib.hid (HS5.out.step hb6)
        clear hb6 HS5 HO5 HR
        go_wp2
        go_ret
        exact ⟨rfl, HS6.out.below⟩
    · have hd1 : decide ((k : Int) < n) = false := by simp; omega
      have hk3 : (n : Int) ≤ k := by omega
      clear hk1
      go_wp2_with fail
      refine (derive_any (lab := [101, 110, 100]) (m := []) HSr.out.laid HSc.out (ok := fun _ => True) ⟨none, 0, 0, rfl, rfl, Nat.le_refl _, fun h => absurd h (Nat.lt_irrefl _)⟩ (by have := HSL.out; omega) (Nat.zero_le _)).mono ?_
      rintro e w5 ⟨A5, n5, c5, rfl, -, ho5, hb5⟩
      have HS5 := Lib.hid (HSr.out.step hb5)
      obtain ⟨R, hR⟩ : ∃ R, R = labR sec [101, 110, 100] (sum []) 32 := ⟨_, rfl⟩
      rw [← hR] at ho5
      rw [labE_end]
      have HR := Lib.hid hR
      have HO5 := Lib.hid ho5
      clear hR ho5 hb5 HSc HSr
      go_wp2_with fail
      refine (docderive_any sec [101, 110, 100] [] (by have := HSL.out; omega) (Nat.zero_le _) w5).mono ?_
      rintro e w6 ⟨rfl, hb6⟩
      rw [← HR.out, labE_end]
      have hcv5 : (convert 22 9 (.slice A5 n5 c5)).run Tryd.prog w6 = .ok (.string (S8 R)) w6 := run_string_bs Tryd.underlying22 Tryd.underlying5 Tryd.underlying9 (HO5.out.keep (S := fun _ => False) (Keep.of_below hb6 (Nat.le_refl _) _) (fun _ _ => id)).bs
      have HS6 := Lib.hid (HS5.out.step hb6)
      clear hb6 HS5 HO5 HR
      go_wp2
      go_ret
      exact ⟨rfl, HS6.out.below⟩
end Go.Proofs.YtmifegjmmlipbaaDoor
