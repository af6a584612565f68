/-
  StreamLimits: the walk.
-/
import Derived.Test.YtjnekjjaofabeaaOp
import Derived.Test.YtjnekjjaofabeaaOg
namespace Go.Proofs.Ytjnekjjaofabeaa
open Go.RowKit Go.Rh Rng

/-- A row of ints in memory. -/
def Ints (W : World) (A : Option Addr) (n : Nat) (X : Nat → Int) : Prop :=
  0 < n → ∃ b off, A = some ⟨b, off, none⟩ ∧ b < W.heap.size ∧ ∀ j, j < n → W.cell? ⟨b, off + j, none⟩ = some (.int .i64 (X j))

theorem LimInv.allow {n lim lim' : Nat} {e : Bool} {s : Snd} {t : Nat} (h : LimInv n lim e s t) (hl : lim ≤ lim') (hb : lim' ≤ 1000) : LimInv n lim' e { s with limit := max s.limit (min (lim' : Int) 1099511627776) } t :=
  ⟨h.b, h.todo, by simp only; rw [h.limit]; omega, h.top, h.le, by have := h.lm; omega, h.et, fun he => ⟨by have := (h.e1 he).1; omega, (h.e1 he).2⟩, h.e2⟩

set_option maxHeartbeats 4000000 in
set_option maxRecDepth 100000 in
theorem limits_any {w : World} {A : Option Addr} {n c : Nat} {X : Nat → Int} (hx : Ints w A n X) (hn : (n : Int) ≤ 9223372036854775807) (a0 a2 : Int) :
    Calls Try.prog 4 #[.int .i64 a0, .slice A n c, .int .i64 a2] w fun e w' => e = .returned (.bool true) ∧ Below w.heap.size w w' := by
  have hr := rm_is a0 499 (by decide)
  have hrl := rm_le a0 499
  obtain ⟨room, hroom⟩ : ∃ room, room = rm a0 499 := ⟨_, rfl⟩
  rw [← hroom] at hr hrl
  have hr' : wrap64 ((IntKind.u64.wrap a0).tmod 500) = (room : Int) := hr
  have hs := rm_is a2 99 (by decide)
  have hsl := rm_le a2 99
  obtain ⟨sz, hsz⟩ : ∃ sz, sz = rm a2 99 := ⟨_, rfl⟩
  rw [← hsz] at hs hsl
  have hs' : wrap64 ((IntKind.u64.wrap a2).tmod 100) = (sz : Int) := hs
  have HX := Lib.hid hx
  clear hx hr hs hroom hsz
  go_enter Try.func4, Try.ntmps4
  go_upto_region 5 with (first
    | (go_at_call 7; refine (flows_any _).mono ?_; rintro e w1 ⟨rfl, hb1⟩; have HB1 := Lib.hid hb1; clear hb1)
    | (go_at_call 12; refine (newsend_any _ 0 (by decide) (by decide)).mono ?_; rintro e w2 ⟨S, rfl, h2, hb2⟩; have H2 := Lib.hid h2; have HB2 := Lib.hid hb2; clear h2 hb2))
  have hmk := run_make_int (k := .u8) (b := 1) Try.underlying44 info5 room (by omega) (by omega) w2
  obtain ⟨w3, hw3⟩ : ∃ w3, w3 = w2.alloc (.cells (vals .u8 room fun _ => 0) 5) := ⟨_, rfl⟩
  obtain ⟨g, hg⟩ : ∃ g, g = w2.heap.size := ⟨_, rfl⟩
  rw [← hw3, ← hg] at hmk
  have HB : Hid (Below w.heap.size w w2) := HB1.out.trans (HB2.out.mono HB1.out.size)
  have k3 : Keep w2 w3 (fun _ => False) := by rw [hw3]; exact (Keep.refl w2 _).alloc _
  have mg : w3.heap[g]? = some (.cells (vals .u8 room fun _ => 0) 5 (0, 0)) := by rw [hw3, hg]; exact heap_alloc_new _ _
  have h3 : SndAt (fun k => w.heap.size ≤ k ∧ k < g) w3 S (snew 0) := (H2.out.mono (fun i hi e => ⟨Nat.le_trans HB1.out.size e, by rw [hg]; exact hi⟩)).keep k3 (fun _ _ => id)
  have hbs : Bs (fun i => ¬ (w.heap.size ≤ i ∧ i < g)) w3 (.slice (some ⟨g, 0, none⟩) room room) (List.replicate room 0) := ⟨_, _, _, rfl, by simp, Nat.le_refl _, fun _ => ⟨g, 0, rfl, by omega, fun j hj => by
    rw [cell_of_row w3 g _ _ _ _ mg, Nat.zero_add, vals_get _ _ hj]
    unfold at_
    rw [List.getD_eq_getElem?_getD, List.getElem?_replicate, if_pos hj]
    rfl⟩⟩
  have hwr := write_any h3 hbs rfl (by simp [snew]; omega) (by intro x hx; simp [snew] at hx)
  have z3 : g < w3.heap.size := heap_lt mg
  have hkk : Below w.heap.size w w3 := by rw [hw3]; exact HB.out.alloc HB.out.size _
  have HW := Lib.hid hwr
  have HB3 := Lib.hid hkk
  obtain ⟨s1, hs1⟩ : ∃ s1, s1 = writeS (snew 0) (List.replicate room 0) := ⟨_, rfl⟩
  have HS1 := Lib.hid hs1
  clear hw3 hg k3 mg h3 hbs hwr hkk hs1
  go_wp2_with (first
    | (go_at_call 13; refine HW.out.mono ?_; rintro e w4 ⟨rfl, h4, k4⟩; have H4 := Lib.hid h4; have K4 := Lib.hid k4; clear h4 k4)
    | (go_at_call 14; refine (close_any H4.out rfl).mono ?_; rintro e w5 ⟨rfl, h5, k5⟩; have H5 := Lib.hid h5; have K5 := Lib.hid k5; clear h5 k5))
  have hL : LimInv room 0 false { writeS (snew 0) (List.replicate room 0) with closed := true, endTodo := true } 0 := by
    refine ⟨by simp [writeS, snew], ?_, rfl, rfl, Nat.zero_le _, Nat.le_refl _, rfl, fun h => (by cases h), fun h1 h2 => absurd h1 (by omega)⟩
    unfold writeS tl snew
    rcases Nat.eq_zero_or_pos room with e | e
    · subst e; simp
    · have : List.replicate room (0 : UInt8) ≠ [] := by intro h; have := congrArg List.length h; simp at this; omega
      simp [this, e, addL, preA, resA, midA, posA, lowF, topF]
  obtain ⟨s5, hs5⟩ : ∃ s5 : Snd, s5 = { writeS (snew 0) (List.replicate room 0) with closed := true, endTodo := true } := ⟨_, rfl⟩
  have h5 := H5.out
  rw [← hs5] at h5 hL
  have HL := Lib.hid hL
  have z3' : w.heap.size ≤ w3.heap.size := HB3.out.size
  have HR : Hid (SndAt (fun i => w.heap.size ≤ i) w5 S s5) := h5.mono (fun i _ e => by rcases e with e | e; exact e.1; omega)
  have HB5 : Hid (Below w.heap.size w w5) := ((Keep.of_below HB3.out (Nat.le_refl _) (fun i => w.heap.size ≤ i)).trans K4.out (fun i _ e => e.1)).trans K5.out (fun i _ e => by rcases e with e | e; exact e.1; omega) |>.below (Nat.le_refl _) (fun i hi e => by omega)
  clear hs5 h5 hL H2 HB2 HB1 HB hmk HW HB3 HS1 H4 K4 H5 K5 z3 z3'
  go_loopw [9, 10, 11] (fun l e i wr => ∃ (lim i' t : Nat) (ended : Bool) (s : Snd), l = .int .i64 (lim : Int) ∧ e = .bool ended ∧ i = .int .i64 (i' : Int) ∧ lim ≤ 600 ∧ i' ≤ n + 1 ∧ i' ≤ 21 ∧ LimInv room lim ended s t ∧ SndAt (fun i => w.heap.size ≤ i) wr S s ∧ Below w.heap.size w wr) (fun _ _ i _ => 22 - (intOf i).toNat)
  case atStart => exact ⟨0, 0, 0, false, s5, rfl, rfl, rfl, by omega, Nat.zero_le _, by omega, HL.out, HR.out, HB5.out⟩
  case round =>
    clear HL HR HB5
    obtain ⟨lim, i', t, ended, s, rfl, rfl, rfl, hlim, hi1, hi2, hL, hR, hB⟩ := hrel
    have HL := Lib.hid hL
    have HR := Lib.hid hR
    have HB := Lib.hid hB
    clear hL hR hB
    by_cases hc : i' ≤ n ∧ i' ≤ 20
    · obtain ⟨hc1, hc2⟩ := hc
      have d20 : decide ((i' : Int) ≤ 20) = true := by rw [decide_eq_true_eq]; omega
      go_wp2_with fail
      go_loopw [10, 12] (fun e k wr => ∃ (k' t : Nat) (ended : Bool) (s : Snd), e = .bool ended ∧ k = .int .i64 (k' : Int) ∧ k' + (room - t) + (if ended then 0 else 1) ≤ 501 ∧ LimInv room lim ended s t ∧ SndAt (fun i => w.heap.size ≤ i) wr S s ∧ Below w.heap.size w wr) (fun _ k _ => 1000 - (intOf k).toNat)
      case atStart => exact ⟨0, t, ended, s, rfl, rfl, by split <;> omega, HL.out, HR.out, HB.out⟩
      case round =>
        clear HL HR HB
        obtain ⟨k, t, ended, s, rfl, rfl, hk, hL, hR, hB⟩ := hrel
        have hk1 : k ≤ 501 := by omega
        have hb := hL.b
        have hle := hL.le
        have hlm := hL.lm
        have hnx := next_any hR (most := 1 + (sz : Int)) (by omega) (by omega) (by omega) (by rw [hL.todo, hb]; unfold tl; intro x hx; split at hx <;> simp at hx; subst hx; simp only; omega) ⟨by rw [hL.limit]; omega, by rw [hL.limit]; omega⟩ ⟨by rw [hL.top]; omega, by rw [hL.top]; omega⟩
        have hnext := hL.next (size := 1 + (sz : Int)) (by omega)
        have HL := Lib.hid hL
        have HB := Lib.hid hB
        have HNX := Lib.hid hnx
        have HKK := Lib.hid hk
        clear hk hL hR hB hnx hb
        rcases hnext with ⟨hr, ht, he⟩ | ⟨e, d, f, s', hr, hd, hds, hel, hen, hL', hms⟩
        · rw [hr] at HNX
          have HT := Lib.hid ht
          have HE := Lib.hid he
          clear hr ht he
          go_wp2_with (first | (go_at_call 15; refine HNX.out.mono ?_; rintro e w6 ⟨rfl, h6, k6⟩; have H6 := Lib.hid h6; have K6 := Lib.hid k6; clear h6 k6))
          obtain ⟨w7, hw7⟩ : ∃ w7, w7 = w6.alloc (.cells #[.int .i64 0, .string ⟨#[]⟩, .bool false] 34) := ⟨_, rfl⟩
          have hsz6 := HB.out.size
          have b6 : Below w.heap.size w w6 := (Keep.of_below HB.out (Nat.le_refl _) (fun i => w.heap.size ≤ i)).trans K6.out (fun i _ e => e) |>.below (Nat.le_refl _) (fun i hi e => by omega)
          have b7 : Below w.heap.size w w7 := by rw [hw7]; exact b6.alloc b6.size _
          have h7 : SndAt (fun i => w.heap.size ≤ i) w7 S s := by
            rw [hw7]
            exact (H6.out.mono (fun i _ e => by rcases e with e | e; exact e; omega)).keep ((Keep.refl w6 (fun _ => False)).alloc _) (fun _ _ => id)
          have hfr := fresh_any h7
          rw [HL.out.top] at hfr
          have H7 := Lib.hid h7
          have B7 := Lib.hid b7
          have HFR := Lib.hid hfr
          rw [← hw7]
          clear hw7 hsz6 b6 b7 h7 hfr
          refine HFR.out.mono ?_
          rintro e w8 ⟨rfl, rfl⟩
          have hcase : (room ≤ lim ∧ t = room ∧ ended = true) ∨ (lim < room ∧ t = lim ∧ ended = false) := by
            have := HT.out
            have he := HE.out
            by_cases h : room ≤ lim
            · exact .inl ⟨h, by omega, by rw [he]; exact decide_eq_true h⟩
            · exact .inr ⟨by omega, by omega, by rw [he]; exact decide_eq_false h⟩
          have hi : i' < n ∨ ¬ i' < n := by omega
          rcases hcase with ⟨hA, rfl, rfl⟩ | ⟨hA, rfl, rfl⟩ <;> rcases hi with hi | hi
          all_goals
            try
              obtain ⟨b, off, rfl, hbl, hcells⟩ := HX.out (by omega)
              have cx : w8.cell? ⟨b, off + i', none⟩ = some (.int .i64 (X i')) := (World.cell?_of_block (B7.out.block b hbl)).trans (hcells i' hi)
              have hq := rm_is (X i') 599 (by decide)
              have hql := rm_le (X i') 599
              obtain ⟨q, hqq⟩ : ∃ q, q = rm (X i') 599 := ⟨_, rfl⟩
              rw [← hqq] at hq hql
              have hq' : wrap64 ((IntKind.u64.wrap (X i')).tmod 600) = (q : Int) := hq
              clear hq hqq hcells
          all_goals
            go_wp2_with (first | (go_at_call 17; refine (allow_any H7.out _).mono ?_; rintro e w9 ⟨⟨u, rfl⟩, h9, k9⟩; have H9 := Lib.hid h9; have K9 := Lib.hid k9; clear h9 k9))
          · have hq := HL.out
            have hmx : (if lim < q then (q : Int) else (lim : Int)) = ((max lim q : Nat) : Int) := by split <;> omega
            have h9 := H9.out
            rw [hmx] at h9 ⊢
            have kb : Below w.heap.size w w9 := (Keep.of_below B7.out (Nat.le_refl _) (fun i => w.heap.size ≤ i)).trans K9.out (fun i _ e => e) |>.below (Nat.le_refl _) (fun i hi e => by omega)
            exact ⟨⟨max lim q, i' + 1, t, true, _, rfl, rfl, by go_num, by omega, by omega, by omega, hq.allow (by omega) (by omega), h9, kb⟩, by simp [intOf]; omega⟩
          · have hq := HL.out
            exact ⟨⟨lim, i' + 1, t, true, s, rfl, rfl, by go_num, by omega, by omega, by omega, hq, H7.out, B7.out⟩, by simp [intOf]; omega⟩
          · have hq := HL.out
            have hmx : (if t < q then (q : Int) else (t : Int)) = ((max t q : Nat) : Int) := by split <;> omega
            have h9 := H9.out
            rw [hmx] at h9 ⊢
            have kb : Below w.heap.size w w9 := (Keep.of_below B7.out (Nat.le_refl _) (fun i => w.heap.size ≤ i)).trans K9.out (fun i _ e => e) |>.below (Nat.le_refl _) (fun i hi e => by omega)
            exact ⟨⟨max t q, i' + 1, t, false, _, rfl, rfl, by go_num, by omega, by omega, by omega, hq.allow (by omega) (by omega), h9, kb⟩, by simp [intOf]; omega⟩
          · have hq := HL.out
            exact ⟨⟨t, i' + 1, t, false, s, rfl, rfl, by go_num, by omega, by omega, by omega, hq, H7.out, B7.out⟩, by simp [intOf]; omega⟩
        · rw [hr] at HNX
          subst hen
          have HL' := Lib.hid hL'
          have hde : (t : Int) + (d.size : Int) = (e : Int) := by omega
          have hds' : ¬ 1 + (sz : Int) < (d.size : Int) := by omega
          have hel' : ¬ (lim : Int) < (e : Int) := by omega
          have heb : e ≤ 600 := by omega
          have HMS : Hid ((room - e) + (if f then 0 else 1) < (room - t) + 1) := hms
          have HDD := Lib.hid hd
          clear hr hL' hd hds hms
          go_wp2_with (first | (go_at_call 15; refine HNX.out.mono ?_; rintro e' w6 ⟨rfl, h6, k6⟩; have H6 := Lib.hid h6; have K6 := Lib.hid k6; clear h6 k6))
          have hsz6 := HB.out.size
          have b6 : Below w.heap.size w w6 := (Keep.of_below HB.out (Nat.le_refl _) (fun i => w.heap.size ≤ i)).trans K6.out (fun i _ e => e) |>.below (Nat.le_refl _) (fun i hi e => by omega)
          have h6 := H6.out.mono (G := fun i => w.heap.size ≤ i) (fun i _ e => by rcases e with e | e; exact e; omega)
          have hkk := HKK.out
          have hms := HMS.out
          go_roundw
          case rel =>
            exact ⟨k + 1, e, f, s', rfl, by go_num, by simp only [Bool.false_eq_true, if_false] at hkk; omega, HL'.out, h6.keep ((Keep.refl w6 (fun _ => False)).alloc _) (fun _ _ => id), b6.alloc b6.size _⟩
          case measure => simp [intOf]; omega
    · have hc' : ¬ i' ≤ n ∨ (i' ≤ n ∧ ¬ i' ≤ 20) := by omega
      rcases hc' with hc' | ⟨hc', hc''⟩
      all_goals
        go_wp2_with fail
        go_ret
        exact ⟨rfl, HB.out⟩
end Go.Proofs.Ytjnekjjaofabeaa
