/-
  Adding a range to a set: Add (f36).
-/
import Derived.Test.YtjnekjjaofabeaaNg
import Derived.Test.YtjnekjjaofabeaaYk
namespace Go.Proofs.Ytjnekjjaofabeaa
open Go.RowKit Go.Rh Rng

/-- Numbers far from the ends. -/
def Bd (l : List Sp) : Prop := ∀ s ∈ l, -4611686018427387904 ≤ s.1 ∧ s.2 ≤ 4611686018427387904

theorem pre_take (a : Int) (l : List Sp) : l.take (preA a l).length = preA a l ∧ l.drop (preA a l).length = resA a l := take_takeWhile l
theorem lowF_snoc (a : Int) (m : List Sp) (s : Sp) : lowF a (m ++ [s]) = min (lowF a m) s.1 := by simp [lowF]
theorem topF_snoc (a : Int) (m : List Sp) (s : Sp) : topF a (m ++ [s]) = max (topF a m) s.2 := by simp [topF]
theorem addL_eq (a b : Int) (l : List Sp) : addL a b l = l.take (preA a l).length ++ ((lowF a (midA b (l.drop (preA a l).length)), topF b (midA b (l.drop (preA a l).length))) :: l.drop ((preA a l).length + (midA b (l.drop (preA a l).length)).length)) := by
  obtain ⟨e1, e2⟩ := pre_take a l
  have e3 : (resA a l).drop (midA b (resA a l)).length = posA b (resA a l) := (take_takeWhile (f := fun s => decide (s.1 ≤ b + 1)) (resA a l)).2
  unfold addL
  rw [← List.drop_drop, e1, e2, e3]

theorem tw_lt {f : Sp → Bool} : ∀ {l : List Sp} {k : Nat}, k < (l.takeWhile f).length → ∃ t, l[k]? = some t ∧ f t = true ∧ (l.takeWhile f)[k]? = some t
  | [], k, h => by simp at h
  | x :: l, k, h => by
    rw [List.takeWhile_cons] at h ⊢
    by_cases hx : f x = true
    · rw [if_pos hx] at h ⊢
      cases k with
      | zero => exact ⟨x, rfl, hx, rfl⟩
      | succ k =>
        obtain ⟨t, h1, h2, h3⟩ := tw_lt (l := l) (k := k) (by simpa using h)
        exact ⟨t, by simpa using h1, h2, by simpa using h3⟩
    · rw [if_neg hx] at h; simp at h
theorem tw_eq {f : Sp → Bool} : ∀ {l : List Sp} {t : Sp}, l[(l.takeWhile f).length]? = some t → f t = false
  | [], t, h => by simp at h
  | x :: l, t, h => by
    rw [List.takeWhile_cons] at h
    by_cases hx : f x = true
    · rw [if_pos hx] at h
      exact tw_eq (l := l) (by simpa using h)
    · rw [if_neg hx] at h; simp at h; subst h; simpa using hx
theorem take_snoc {m : List Sp} {k : Nat} {t : Sp} (h : m[k]? = some t) : m.take (k + 1) = m.take k ++ [t] := by
  rw [List.take_add_one, h]; rfl

theorem min_if (a b : Int) : min a b = if b < a then b else a := by rw [Int.min_def]; split <;> split <;> omega
theorem max_if (a b : Int) : max a b = if a < b then b else a := by rw [Int.max_def]; split <;> split <;> omega
theorem add_put {W : World} {s g c p j g2 : Nat} {a b : Int} {l mid : List Sp} (h : SetAt W s (.slice (some ⟨g, 0, none⟩) l.length c) l) (hp : p = (preA a l).length) (hm : mid = midA b (l.drop p)) (h2 : One W g2 (lowF a mid, topF b mid)) (hgg : g ≠ g2) (hs2 : g2 ≠ s)
    (hab : a ≤ b) (hl : (addL a b l).length ≤ 100000) (hj : j = p + mid.length) :
    Calls Try.prog 45 #[.pointer (some ⟨s, 0, none⟩), .int .i64 (p : Int), .int .i64 (j : Int), .slice (some ⟨g2, 0, none⟩) 1 1] W fun e w' =>
      (∃ u, e = .returned u) ∧ ∃ v', SetAt w' s v' (addL a b l) ∧ Keep W w' (fun k => k = s ∨ k = g) ∧ (v'.ownBlock = some g ∨ ∃ k, v'.ownBlock = some k ∧ W.heap.size ≤ k) := by
  have he : addL a b l = l.take p ++ ([(lowF a mid, topF b mid)] ++ l.drop j) := by rw [hj, hm, hp]; exact addL_eq a b l
  have hjl : j ≤ l.length := by
    have h1 : mid.length ≤ (l.drop p).length := by rw [hm]; exact (List.takeWhile_prefix _).length_le
    have h2 : p ≤ l.length := by rw [hp]; exact (List.takeWhile_prefix _).length_le
    rw [List.length_drop] at h1
    omega
  have hw := WF.addL (a := a) hab h.2.2.1
  rw [he] at hw hl ⊢
  have hfit : p + [(lowF a mid, topF b mid)].length ≤ j ∨ (p = j ∧ 1 = 1 ∧ ∃ t, [(lowF a mid, topF b mid)] = [t] ∧ One W g2 t) := by
    by_cases h0 : mid.length = 0
    · exact .inr ⟨by omega, rfl, _, rfl, h2⟩
    · exact .inl (by simp only [List.length_singleton]; omega)
  refine (put_any h h2.row (by intro e; exact hgg (by injection e)) hs2 hjl (by simp) hfit hw hl).mono ?_
  rintro e w' ⟨hu, v', h3, h4, h5⟩
  exact ⟨hu, v', h3, h4.mono (fun k _ e => e.imp id (fun e => by injection e with e; exact e.symm)), h5⟩

set_option maxHeartbeats 4000000 in
set_option maxRecDepth 100000 in
theorem add_row {w : World} {s g c : Nat} {l : List Sp} {a b : Int} (h : SetAt w s (.slice (some ⟨g, 0, none⟩) l.length c) l) (hr : RowAt w g c l) (hab : a ≤ b) (hba : -4611686018427387904 ≤ a) (hbb : b ≤ 4611686018427387904) (hB : Bd l) (hl : (addL a b l).length ≤ 100000) :
    Calls Try.prog 36 #[.pointer (some ⟨s, 0, none⟩), .int .i64 a, .int .i64 b] w fun e w' =>
      e = .returned (.int .i64 0) ∧ ∃ v', SetAt w' s v' (addL a b l) ∧ Keep w w' (fun k => k = s ∨ k = g) ∧ (v'.ownBlock = some g ∨ ∃ k, v'.ownBlock = some k ∧ w.heap.size ≤ k) := by
  obtain ⟨p, hp⟩ : ∃ p, p = (preA a l).length := ⟨_, rfl⟩
  obtain ⟨F, hF⟩ : ∃ F, F = firstN a l := ⟨_, rfl⟩
  have hlen := preA_len (a := a) h.2.2.1
  have hf := first_any a h
  rw [← hF] at hf hlen
  rw [← hp] at hlen
  have hFl : F ≤ l.length := by rw [hF]; exact firstN_le a l
  have hcase : (F = 0 ∧ p = F) ∨ (∃ q, F = q + 1 ∧ p = q ∧ ∃ t, l[q]? = some t ∧ t.2 + 1 = a) ∨ (∃ q, F = q + 1 ∧ p = F ∧ ∃ t, l[q]? = some t ∧ t.2 + 1 ≠ a) := by
    by_cases h0 : F = 0
    · left
      rw [if_neg (by rintro ⟨_, h1, _⟩; omega)] at hlen
      exact ⟨h0, hlen⟩
    · right
      obtain ⟨q, hq⟩ : ∃ q, F = q + 1 := ⟨F - 1, by omega⟩
      obtain ⟨t, ht⟩ : ∃ t, l[q]? = some t := ⟨l[q]'(by omega), List.getElem?_eq_getElem _⟩
      by_cases he : t.2 + 1 = a
      · left
        rw [if_pos ⟨t, by omega, by rw [show F - 1 = q by omega]; exact ht, he⟩] at hlen
        exact ⟨q, hq, by omega, t, ht, he⟩
      · right
        rw [if_neg (by rintro ⟨t', _, h1, h2⟩; rw [show F - 1 = q by omega, ht] at h1; cases h1; exact he h2)] at hlen
        exact ⟨q, hq, hlen, t, ht, he⟩
  obtain ⟨n, hn⟩ : ∃ n, n = l.length := ⟨_, rfl⟩
  have HS := Lib.hid h
  have HR := Lib.hid hr
  have HP := Lib.hid hp
  have HBD := Lib.hid hB
  have HL := Lib.hid hl
  have hs := heap_lt h.row
  have hg := hr.lt
  have hgs : g ≠ s := h.ne rfl
  have HN := Lib.hid hn
  have hFn : F ≤ n := by omega
  have hpF : p ≤ n := by rcases hcase with h | ⟨q, h1, h2, _⟩ | ⟨q, h1, h2, _⟩ <;> omega
  have hn1 : n ≤ 100000 := by rw [hn]; exact h.2.2.2
  have hab' : ¬ b < a := by omega
  clear h hp hF hlen hB hl hn hFl hr
  rcases hcase with ⟨h0, hpq⟩ | ⟨q, h0, hpq, t, ht, hta⟩ | ⟨q, h0, hpq, t, ht, hta⟩
  case' inl =>
    subst hpq
    have hF0 : ¬ (0 : Int) < (p : Int) := by omega
    clear h0
    go_enter Try.func36, Try.ntmps36
    go_wp2_with (go_at_call 44; refine hf.mono ?_; rintro e w1 ⟨rfl, hb1⟩; have HB1 := Lib.hid hb1; have C0 : w1.cell? ⟨s, 0, none⟩ = some (.slice (some ⟨g, 0, none⟩) n c) := (hb1.cell (p := ⟨s, 0, none⟩) hs).trans (by rw [HN.out]; exact HS.out.cell0); clear hb1)
    clear hF0
  case' inr.inl =>
    subst hpq
    have hF0 : (0 : Int) < (F : Int) := by omega
    have hF1 : (F : Int) - 1 = (p : Int) := by omega
    have hF2 : (p : Int) < (n : Int) := by omega
    obtain ⟨z, hz⟩ : ∃ z, z = t.2 := ⟨_, rfl⟩
    have hz1 : IntKind.i64.wrap (z + 1) = a := by rw [IntKind.wrap_i64]; have := HBD.out t (List.mem_of_getElem? ht); have := HS.out.2.2.1.le t (List.mem_of_getElem? ht); omega
    obtain ⟨_, d1⟩ := HR.out.cells ht
    rw [← hz] at d1
    have hz2 : z + 1 = a := by rw [hz]; exact hta
    have HD := Lib.hid d1
    clear h0 ht hta d1 hz
    go_enter Try.func36, Try.ntmps36
    go_wp2_with (go_at_call 44; refine hf.mono ?_; rintro e w1 ⟨rfl, hb1⟩; have HB1 := Lib.hid hb1; have C0 : w1.cell? ⟨s, 0, none⟩ = some (.slice (some ⟨g, 0, none⟩) n c) := (hb1.cell (p := ⟨s, 0, none⟩) hs).trans (by rw [HN.out]; exact HS.out.cell0); have C1 : w1.cell? ⟨g, p * 2 + 1, none⟩ = some (.int .i64 z) := (hb1.cell (p := ⟨g, p * 2 + 1, none⟩) hg).trans HD.out; clear hb1)
    clear hF0 hF1 hz1 hz2 C1
  case' inr.inr =>
    subst hpq
    have hF0 : (0 : Int) < (p : Int) := by omega
    have hF1 : (p : Int) - 1 = (q : Int) := by omega
    have hF2 : (q : Int) < (n : Int) := by omega
    obtain ⟨z, hz⟩ : ∃ z, z = t.2 := ⟨_, rfl⟩
    have hz1 : IntKind.i64.wrap (z + 1) = z + 1 := by rw [IntKind.wrap_i64]; have := HBD.out t (List.mem_of_getElem? ht); have := HS.out.2.2.1.le t (List.mem_of_getElem? ht); omega
    have hz2 : ((z + 1 : Int) == a) = false := by rw [hz]; simpa using hta
    obtain ⟨_, d1⟩ := HR.out.cells ht
    rw [← hz] at d1
    have HD := Lib.hid d1
    clear h0 ht hta d1 hz
    go_enter Try.func36, Try.ntmps36
    go_wp2_with (go_at_call 44; refine hf.mono ?_; rintro e w1 ⟨rfl, hb1⟩; have HB1 := Lib.hid hb1; have C0 : w1.cell? ⟨s, 0, none⟩ = some (.slice (some ⟨g, 0, none⟩) n c) := (hb1.cell (p := ⟨s, 0, none⟩) hs).trans (by rw [HN.out]; exact HS.out.cell0); have C1 : w1.cell? ⟨g, q * 2 + 1, none⟩ = some (.int .i64 z) := (hb1.cell (p := ⟨g, q * 2 + 1, none⟩) hg).trans HD.out; clear hb1)
    clear hF0 hF1 hz1 hz2 C1 hF2
  all_goals
    obtain ⟨rb, hrb⟩ : ∃ rb, rb = w1.heap.size := ⟨_, rfl⟩
    obtain ⟨w2, hw2⟩ : ∃ w2, w2 = w1.alloc (.cells #[.int .i64 a, .int .i64 b] 93) := ⟨_, rfl⟩
    have M2 : w2.heap[rb]? = some (.cells #[.int .i64 a, .int .i64 b] 93 (0, 0)) := by rw [hw2, hrb]; exact heap_alloc_new w1 _
    have K2 : Below w.heap.size w w2 := by rw [hw2]; exact HB1.out.alloc HB1.out.size _
    have hrbw : w.heap.size ≤ rb := by rw [hrb]; exact HB1.out.size
    rw [← hw2, ← hrb]
    obtain ⟨mid, hmid⟩ : ∃ mid, mid = midA b (l.drop p) := ⟨_, rfl⟩
    have HM2 := Lib.hid M2
    have HK2 := Lib.hid K2
    have HMID := Lib.hid hmid
    have HRB := Lib.hid hrbw
    have hmle : p + mid.length ≤ n := by
      have : mid.length ≤ (l.drop p).length := by rw [hmid]; exact (List.takeWhile_prefix _).length_le
      rw [List.length_drop, ← HN.out] at this; omega
    clear hw2 M2 K2 hrb C0 hmid hrbw hf
    go_loopw [9] (fun x wr => ∃ j k : Nat, x = .int .i64 (j : Int) ∧ j = p + k ∧ k ≤ mid.length ∧ wr.heap[rb]? = some (.cells #[.int .i64 (lowF a (mid.take k)), .int .i64 (topF b (mid.take k))] 93 (0, 0)) ∧ Keep w2 wr (fun i => i = rb)) (fun x _ => n - (intOf x).toNat)
    case atStart => exact ⟨p, 0, rfl, rfl, Nat.zero_le _, by simpa [lowF, topF] using HM2.out, Keep.refl _ _⟩
    case round =>
      obtain ⟨j, k, rfl, hj, hkm, hrow, hkeep⟩ := hrel
      have HJ := Lib.hid hj
      have HROW := Lib.hid hrow
      have HKEEP := Lib.hid hkeep
      obtain ⟨lo, hlo⟩ : ∃ lo, lo = lowF a (mid.take k) := ⟨_, rfl⟩
      obtain ⟨hi, hhi⟩ : ∃ hi, hi = topF b (mid.take k) := ⟨_, rfl⟩
      rw [← hlo, ← hhi] at hrow
      have HLO := Lib.hid hlo
      have HHI := Lib.hid hhi
      have KW : Keep w wr (fun _ => False) := (Keep.of_below HK2.out (Nat.le_refl _) (fun _ => False)).trans hkeep (fun i hi e => by have := HRB.out; omega)
      have HKW := Lib.hid KW
      have C0 : wr.cell? ⟨s, 0, none⟩ = some (.slice (some ⟨g, 0, none⟩) n c) := (World.cell?_of_block (KW.block s hs id)).trans (by rw [HN.out]; exact HS.out.cell0)
      have R0 : wr.cell? ⟨rb, 0, none⟩ = some (.int .i64 lo) := by rw [cell_of_row wr rb 0 _ _ _ hrow]; rfl
      have R1 : wr.cell? ⟨rb, 1, none⟩ = some (.int .i64 hi) := by rw [cell_of_row wr rb 1 _ _ _ hrow]; rfl
      have FR0 : wr.frozen? ⟨rb, 0, none⟩ = false := by simp [World.frozen?, hrow]
      have FR1 : wr.frozen? ⟨rb, 1, none⟩ = false := by simp [World.frozen?, hrow]
      have hout : k = mid.length → ∀ o2 : Nat, o2 = wr.heap.size → Calls Try.prog 45 #[.pointer (some ⟨s, 0, none⟩), .int .i64 (p : Int), .int .i64 (j : Int), .slice (some ⟨o2, 0, none⟩) 1 1] (wr.alloc (.cells #[.int .i64 lo, .int .i64 hi] 93)) fun e w' =>
          (∃ u, e = .returned u) ∧ ∃ v', SetAt w' s v' (addL a b l) ∧ Keep w w' (fun k => k = s ∨ k = g) ∧ (v'.ownBlock = some g ∨ ∃ k, v'.ownBlock = some k ∧ w.heap.size ≤ k) := by
        intro hk o2 ho2
        have KA := KW.alloc (.cells #[.int .i64 lo, .int .i64 hi] 93)
        have SA := HS.out.keep KA id (fun _ _ => id)
        have OA : One (wr.alloc (.cells #[.int .i64 lo, .int .i64 hi] 93)) o2 (lowF a mid, topF b mid) := by
          rw [hk, List.take_length] at hlo hhi
          rw [← hlo, ← hhi, ho2]; exact heap_alloc_new wr _
        refine (add_put (j := j) SA HP.out HMID.out OA (by have := KW.size; omega) (by have := KW.size; omega) hab HL.out (by omega)).mono ?_
        rintro e w' ⟨hu, v', h3, h4, h5⟩
        exact ⟨hu, v', h3, (KA.mono (fun _ _ e => e.elim)).trans h4 (fun _ _ e => e), h5.imp id (fun ⟨k, h6, h7⟩ => ⟨k, h6, Nat.le_trans KA.size h7⟩)⟩
      by_cases hjn : j < n
      · obtain ⟨t, ht⟩ : ∃ t, l[j]? = some t := ⟨l[j]'(by have := HN.out; omega), List.getElem?_eq_getElem _⟩
        have hdr : (l.drop p)[k]? = some t := by rw [List.getElem?_drop, ← hj]; exact ht
        obtain ⟨c0, c1⟩ := HR.out.cells ht
        have D0 : wr.cell? ⟨g, j * 2, none⟩ = some (.int .i64 t.1) := (World.cell?_of_block (KW.block g hg id)).trans c0
        have D1 : wr.cell? ⟨g, j * 2 + 1, none⟩ = some (.int .i64 t.2) := (World.cell?_of_block (KW.block g hg id)).trans c1
        have htb := HBD.out t (List.mem_of_getElem? ht)
        have htw := HS.out.2.2.1.le t (List.mem_of_getElem? ht)
        have hjn' : (j : Int) < (n : Int) := by omega
        by_cases hin : t.1 ≤ b + 1
        · have hkK : k < mid.length := by
            rcases Nat.lt_or_eq_of_le hkm with h | h
            · exact h
            · exfalso
              have := tw_eq (f := fun s => decide (s.1 ≤ b + 1)) (l := l.drop p) (t := t) (by rw [show ((l.drop p).takeWhile fun s => decide (s.1 ≤ b + 1)) = mid from HMID.out.symm, ← h]; exact hdr)
              simp at this; omega
          have hmk : mid[k]? = some t := by
            have h3 : k < ((l.drop p).takeWhile fun s => decide (s.1 ≤ b + 1)).length := by rw [show ((l.drop p).takeWhile fun s => decide (s.1 ≤ b + 1)) = mid from HMID.out.symm]; exact hkK
            obtain ⟨t', h1, _, h2⟩ := tw_lt h3
            rw [hdr] at h1; cases h1
            rw [HMID.out]; exact h2
          have HMK := Lib.hid hmk
          have HKK := Lib.hid hkK
          have hw1 : IntKind.i64.wrap (t.1 - 1) = t.1 - 1 := by rw [IntKind.wrap_i64]; omega
          obtain ⟨x, y⟩ := t
          simp only at hin htb htw hw1 D0 D1
          obtain ⟨lv, hlv⟩ : ∃ lv, (if x < lo then x else lo) = lv := ⟨_, rfl⟩
          obtain ⟨hv, hhv⟩ : ∃ hv, (if hi < y then y else hi) = hv := ⟨_, rfl⟩
          have HLV := Lib.hid hlv
          have HHV := Lib.hid hhv
          obtain ⟨W1, hW1⟩ : ∃ W1, W1 = wr.setCell ⟨rb, 0, none⟩ (.int .i64 lv) := ⟨_, rfl⟩
          have hrbs : s ≠ rb := by have := HRB.out; omega
          have hrbg : g ≠ rb := by have := HRB.out; omega
          have E0 : W1.cell? ⟨s, 0, none⟩ = some (.slice (some ⟨g, 0, none⟩) n c) := by rw [hW1, World.cell?_of_block (Below.heap_setCell wr _ _ s hrbs)]; exact C0
          have E1 : W1.cell? ⟨g, j * 2 + 1, none⟩ = some (.int .i64 y) := by rw [hW1, World.cell?_of_block (Below.heap_setCell wr _ _ g hrbg)]; exact D1
          have E2 : W1.heap[rb]? = some (.cells #[.int .i64 lv, .int .i64 hi] 93 (0, 0)) := by rw [hW1]; exact set_block hrow 0 _
          have E3 : W1.cell? ⟨rb, 1, none⟩ = some (.int .i64 hi) := by rw [cell_of_row W1 rb 1 _ _ _ E2]; rfl
          have E4 : W1.frozen? ⟨rb, 1, none⟩ = false := by simp [World.frozen?, E2]
          have KW1 : Keep w2 W1 (fun i => i = rb) := by rw [hW1]; exact hkeep.setCell (.inr rfl) _
          have HW1 := Lib.hid hW1
          have HE2 := Lib.hid E2
          have HKW1 := Lib.hid KW1
          clear hW1 E2 KW1
          clear hj hrow hkeep hlo hhi hkm hmle ht hdr hmk c0 c1 hkK hout KW
          have hx12 : x ≤ b ∨ (((x - 1 : Int) == b) = true ∧ ¬ x ≤ b) := by by_cases h : x ≤ b; exact .inl h; exact .inr ⟨by simp; omega, h⟩
          clear hin
          rcases hx12 with hx | ⟨hx1, hx2⟩
          all_goals
            go_wp2
            refine region_mid _ 23 106 (fun i => decide (13 ≤ i)) (fun w => ∃ m, w = wr.drewN m) (fun w => ∃ m, w = W1.drewN m) (by kernel_rfl) (by rfl) (by kernel_rfl) (by kernel_rfl) ⟨1, rfl⟩ ?_
            · simp only [List.take_succ_cons, List.take_zero]
              refine mid_run (.pointer (some ⟨rb, 0, none⟩)) ?_ ?_ ?_
              · rintro w0 ⟨m0, rfl⟩; unfold execOp; go_simp
              · intro hl; exact absurd hl (by decide)
              refine mid_run (.int .i64 lo) ?_ ?_ ?_
              · rintro w0 ⟨m0, rfl⟩; unfold execOp; go_simp
              · intro hl; exact absurd hl (by decide)
              refine mid_run (.pointer (some ⟨s, 0, none⟩)) ?_ ?_ ?_
              · rintro w0 ⟨m0, rfl⟩; unfold execOp; go_simp
              · intro hl; exact absurd hl (by decide)
              refine mid_run (.pointer (some ⟨s, 0, none⟩)) ?_ ?_ ?_
              · rintro w0 ⟨m0, rfl⟩; unfold execOp; go_simp
              · intro hl; exact absurd hl (by decide)
              refine mid_run (.pointer (some ⟨s, 0, none⟩)) ?_ ?_ ?_
              · rintro w0 ⟨m0, rfl⟩; unfold execOp; go_simp
              · intro hl; exact absurd hl (by decide)
              refine mid_run (.slice (some ⟨g, 0, none⟩) n c) ?_ ?_ ?_
              · rintro w0 ⟨m0, rfl⟩; unfold execOp; go_simp
              · intro hl; exact absurd hl (by decide)
              refine mid_run (.int .i64 (j : Int)) ?_ ?_ ?_
              · rintro w0 ⟨m0, rfl⟩; unfold execOp; go_simp
              · intro hl; exact absurd hl (by decide)
              refine mid_run (.pointer (some ⟨g, j * 2, none⟩)) ?_ ?_ ?_
              · rintro w0 ⟨m0, rfl⟩; unfold execOp; go_simp
              · intro hl; exact absurd hl (by decide)
              refine mid_run (.pointer (some ⟨g, j * 2, none⟩)) ?_ ?_ ?_
              · rintro w0 ⟨m0, rfl⟩; unfold execOp; go_simp
              · intro hl; exact absurd hl (by decide)
              refine mid_run (.int .i64 x) ?_ ?_ ?_
              · rintro w0 ⟨m0, rfl⟩; unfold execOp; go_simp
              · intro hl; exact absurd hl (by decide)
              refine mid_run (.int .i64 lv) ?_ ?_ ?_
              · rintro w0 ⟨m0, rfl⟩; unfold execOp; go_simp
              · intro hl; exact absurd hl (by decide)
              refine mid_run (.pointer (some ⟨rb, 1, none⟩)) ?_ ?_ ?_
              · rintro w0 ⟨m0, rfl⟩; unfold execOp; go_simp
              · intro hl; exact absurd hl (by decide)
              refine mid_run (.int .i64 hi) ?_ ?_ ?_
              · rintro w0 ⟨m0, rfl⟩; unfold execOp; go_simp
              · intro hl; exact absurd hl (by decide)
              refine mid_run (.pointer (some ⟨s, 0, none⟩)) ?_ ?_ ?_
              · rintro w0 ⟨m0, rfl⟩; unfold execOp; go_simp
              · rintro _ w0 ⟨m0, rfl⟩; unfold execOp; go_simp
              refine mid_run (.pointer (some ⟨s, 0, none⟩)) ?_ ?_ ?_
              · rintro w0 ⟨m0, rfl⟩; unfold execOp; go_simp
              · rintro _ w0 ⟨m0, rfl⟩; unfold execOp; go_simp
              refine mid_run (.pointer (some ⟨s, 0, none⟩)) ?_ ?_ ?_
              · rintro w0 ⟨m0, rfl⟩; unfold execOp; go_simp
              · rintro _ w0 ⟨m0, rfl⟩; unfold execOp; go_simp
              refine mid_run (.slice (some ⟨g, 0, none⟩) n c) ?_ ?_ ?_
              · rintro w0 ⟨m0, rfl⟩; unfold execOp; go_simp
              · rintro _ w0 ⟨m0, rfl⟩; unfold execOp; go_simp
              refine mid_run (.int .i64 (j : Int)) ?_ ?_ ?_
              · rintro w0 ⟨m0, rfl⟩; unfold execOp; go_simp
              · rintro _ w0 ⟨m0, rfl⟩; unfold execOp; go_simp
              refine mid_run (.pointer (some ⟨g, j * 2, none⟩)) ?_ ?_ ?_
              · rintro w0 ⟨m0, rfl⟩; unfold execOp; go_simp
              · rintro _ w0 ⟨m0, rfl⟩; unfold execOp; go_simp
              refine mid_run (.pointer (some ⟨g, j * 2 + 1, none⟩)) ?_ ?_ ?_
              · rintro w0 ⟨m0, rfl⟩; unfold execOp; go_simp
              · rintro _ w0 ⟨m0, rfl⟩; unfold execOp; go_simp
              refine mid_run (.int .i64 y) ?_ ?_ ?_
              · rintro w0 ⟨m0, rfl⟩; unfold execOp; go_simp
              · rintro _ w0 ⟨m0, rfl⟩; unfold execOp; go_simp
              refine mid_run (.int .i64 hv) ?_ ?_ ?_
              · rintro w0 ⟨m0, rfl⟩; unfold execOp; go_simp
              · rintro _ w0 ⟨m0, rfl⟩; unfold execOp; go_simp
              refine mid_run (.pointer (some ⟨rb, 0, none⟩)) ?_ ?_ ?_
              · rintro w0 ⟨m0, rfl⟩; unfold execOp; go_simp
              · rintro _ w0 ⟨m0, rfl⟩; unfold execOp; go_simp
              simp [Act.put]
              refine mid_end (fun o ho w0 h0 => ?_) (fun w0 h0 => ?_)
              · obtain ⟨m0, rfl⟩ := h0
                simp only [List.getElem?_cons_succ, List.getElem?_cons_zero, Option.some.injEq] at ho
                subst ho
                clear hlv hhv
                refine ⟨W1.drewN m0, ?_, ⟨m0, rfl⟩⟩
                rw [HW1.out]
                unfold execOp
                go_simp
                rfl
              · obtain ⟨m0, rfl⟩ := h0
                simp only [List.drop_succ_cons, List.drop_zero]
                go_wp2
                go_roundw
                case rel =>
                  refine ⟨j + 1, k + 1, by go_num, by have := HJ.out; omega, HKK.out, ?_, ?_⟩
                  · have := set_block (s := rb) (cs := #[.int .i64 lv, .int .i64 hi]) (t := 93) (w := W1.drewN m0) HE2.out 1 (.int .i64 hv)
                    rw [take_snoc HMK.out, lowF_snoc, topF_snoc, ← HLO.out, ← HHI.out, this, min_if, max_if, HLV.out, HHV.out]
                    rfl
                  · exact (HKW1.out.drewN m0).setCell (.inr rfl) _
                case measure => simp [intOf]; omega
        · have hk : k = mid.length := by
            rcases Nat.lt_or_eq_of_le hkm with h | h
            · exfalso
              have h3 : k < ((l.drop p).takeWhile fun s => decide (s.1 ≤ b + 1)).length := by rw [show ((l.drop p).takeWhile fun s => decide (s.1 ≤ b + 1)) = mid from HMID.out.symm]; exact h
              obtain ⟨t', h1, h4, h2⟩ := tw_lt h3
              rw [hdr] at h1; cases h1
              simp at h4; omega
            · exact h
          have ho := hout hk _ rfl
          have hw1 : IntKind.i64.wrap (t.1 - 1) = t.1 - 1 := by rw [IntKind.wrap_i64]; omega
          have hx1 : ¬ t.1 ≤ b := by omega
          have hx2 : ¬ t.1 - 1 = b := by omega
          obtain ⟨x, y⟩ := t
          simp only at hx1 hx2 hw1 D0 D1
          clear hj hrow hkeep hlo hhi hkm hmle ht hdr c0 c1 hout KW hk htb htw hin
          go_wp2_with (go_at_call 45; refine ho.mono ?_; rintro e w2 ⟨⟨u, rfl⟩, v', h3, h4, h5⟩; have H3 := Lib.hid h3; have H4 := Lib.hid h4; have H5 := Lib.hid h5; clear h3 h4 h5)
          go_ret
          exact ⟨rfl, v', H3.out, H4.out, H5.out⟩
      · have hk : k = mid.length := by omega
        have ho := hout hk _ rfl
        have hjn2 : j = n := by omega
        clear hj hrow hkeep hlo hhi hkm hmle hout KW hk hjn
        subst hjn2
        go_wp2_with (go_at_call 45; refine ho.mono ?_; rintro e w2 ⟨⟨u, rfl⟩, v', h3, h4, h5⟩; have H3 := Lib.hid h3; have H4 := Lib.hid h4; have H5 := Lib.hid h5; clear h3 h4 h5)
        go_ret
        exact ⟨rfl, v', H3.out, H4.out, H5.out⟩
end Go.Proofs.Ytjnekjjaofabeaa
