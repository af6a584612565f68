/-
  The document's doors: Come, Leave.
-/
import Derived.Test.YtpaodflocbfghaaFf
namespace Go.Proofs.Ytpaodflocbfghaa
open Go.RowKit Go.Rh Go.Maps

theorem rcome_arg {w : World} {m : Nat} {n : Int} (h : n < 0 ∨ 4398046511104 < n) :
    Calls Try.prog 16 #[.pointer (some ⟨m, 0, none⟩), .int .i64 n] w fun e w' => e = .returned (.tuple #[.slice none 0 0, .int .i64 1]) ∧ w' = w := by
  rcases h with h | h
  · go_enter Try.func16, Try.ntmps16
    go_wp2
    go_ret2
    exact ⟨rfl, rfl⟩
  · have h' : ¬ n < 0 := by omega
    go_enter Try.func16, Try.ntmps16
    go_wp2
    go_ret2
    exact ⟨rfl, rfl⟩
theorem rcome_form {w : World} {m : Nat} {n : Int} (h0 : 0 ≤ n) (h1 : n ≤ 4398046511104) (h : 1 < n % 4) :
    Calls Try.prog 16 #[.pointer (some ⟨m, 0, none⟩), .int .i64 n] w fun e w' => e = .returned (.tuple #[.slice none 0 0, .int .i64 2]) ∧ w' = w := by
  have hc : decide (1 < n % 4) = true := by simpa using h
  have hc0 : decide (n < 0) = false := by simp; omega
  have hc1 : decide (4398046511104 < n) = false := by simp; omega
  go_enter Try.func16, Try.ntmps16
  go_wp2
  go_ret2
  exact ⟨rfl, rfl⟩
theorem rcome_own {w : World} {B m : Nat} {s : Bool} {S : DS} {v : Value} {n : Int} (h : RDoor w B m s S v) (h0 : 0 ≤ n) (h1 : n ≤ 4398046511104) (hk : n % 4 = S.kind) (hk1 : S.kind ≤ 1) :
    Calls Try.prog 16 #[.pointer (some ⟨m, 0, none⟩), .int .i64 n] w fun e w' => e = .returned (.tuple #[.slice none 0 0, .int .i64 (if S.own ≤ n / 4 then 7 else 0)]) ∧ w' = w := by
  have c2 : w.cell? ⟨m, 2, none⟩ = some (.int .i64 S.own) := h.cell 2
  have hc0 : decide (n < 0) = false := by simp; omega
  have hc1 : decide (4398046511104 < n) = false := by simp; omega
  have hc2 : decide (1 < n % 4) = false := by simp; omega
  have hc4 : decide (n % 4 = S.kind) = true := by simpa using hk
  have hk2 : n % 4 ≤ 1 := by omega
  have H := Lib.hid h
  have HK := Lib.hid hk
  clear h hk
  by_cases ho : S.own ≤ n / 4
  · rw [if_pos ho]
    have hc3 : decide (S.own ≤ n / 4) = true := by simpa using ho
    go_enter Try.func16, Try.ntmps16
    go_wp2_with fail
    refine (own_any H.out h0 rfl hk2).mono ?_
    rintro e w' ⟨rfl, rfl⟩
    go_wp2
    go_ret2
    exact ⟨rfl, rfl⟩
  · rw [if_neg ho]
    have hc3 : decide (S.own ≤ n / 4) = false := by simp; omega
    go_enter Try.func16, Try.ntmps16
    go_wp2_with fail
    refine (own_any H.out h0 rfl hk2).mono ?_
    rintro e w' ⟨rfl, rfl⟩
    go_wp2
    go_ret2
    exact ⟨rfl, rfl⟩
theorem rcome_flow {w : World} {B m : Nat} {s : Bool} {S : DS} {v : Value} {n : Int} (h : RDoor w B m s S v) (h0 : 0 ≤ n) (h1 : n ≤ 4398046511104) (hk : n % 4 ≠ S.kind) (hk1 : n % 4 ≤ 1) (ho : S.count ≤ n / 4) :
    Calls Try.prog 16 #[.pointer (some ⟨m, 0, none⟩), .int .i64 n] w fun e w' => e = .returned (.tuple #[.slice none 0 0, .int .i64 11]) ∧ w' = w := by
  have c5 : w.cell? ⟨m, 5, none⟩ = some (.int .i64 S.count) := h.cell 5
  have hc0 : decide (n < 0) = false := by simp; omega
  have hc1 : decide (4398046511104 < n) = false := by simp; omega
  have hc2 : decide (1 < n % 4) = false := by simp; omega
  have hc4 : decide (n % 4 = S.kind) = false := by simpa using hk
  have hc3 : decide (S.count ≤ n / 4) = true := by simpa using ho
  have H := Lib.hid h
  clear h hk
  go_enter Try.func16, Try.ntmps16
  go_wp2_with fail
  refine (own_any H.out h0 rfl hk1).mono ?_
  rintro e w' ⟨rfl, rfl⟩
  go_wp2
  go_ret2
  exact ⟨rfl, rfl⟩

set_option maxRecDepth 100000 in
theorem rcome_new {w : World} {B m : Nat} {s : Bool} {S : DS} {v : Value} {n : Int} (h : RDoor w B m s S v) (h0 : 0 ≤ n) (h1 : n ≤ 4398046511104) (hk : n % 4 ≠ S.kind) (hk1 : n % 4 ≤ 1) (ho : n / 4 < S.count) (ht0 : 0 ≤ S.theirs) (hc : S.count ≤ 1099511627776) :
    Calls Try.prog 16 #[.pointer (some ⟨m, 0, none⟩), .int .i64 n] w fun e w' => ∃ x, e = .returned (.tuple #[x, .int .i64 0]) ∧ Own w' w.heap.size x (news (n % 4) S.theirs (n / 4 + 1 - S.theirs).toNat) ∧ RDoor w' B m s { S with theirs := max S.theirs (n / 4 + 1) } v ∧ Keep w w' (fun k => k = m) := by
  obtain ⟨i0, hi0, hz0, hz1, hz2⟩ := info_parts info3
  have c5 : w.cell? ⟨m, 5, none⟩ = some (.int .i64 S.count) := h.cell 5
  have hc0 : decide (n < 0) = false := by simp; omega
  have hc1 : decide (4398046511104 < n) = false := by simp; omega
  have hc2 : decide (1 < n % 4) = false := by simp; omega
  have hc3 : decide (S.count ≤ n / 4) = false := by simp; omega
  have hc4 : decide (n % 4 = S.kind) = false := by simpa using hk
  have hk0 : 0 ≤ n % 4 := by omega
  obtain ⟨J, hJ⟩ : ∃ J, J = (n / 4 + 1 - S.theirs).toNat := ⟨_, rfl⟩
  have HJ := Lib.hid hJ
  rw [← hJ]
  have H := Lib.hid h
  clear h hJ hk
  go_enter Try.func16, Try.ntmps16
  go_wp2_with fail
  refine (own_any H.out h0 rfl hk1).mono ?_
  rintro e w' ⟨rfl, rfl⟩
  go_wp2
  clear c5
  go_loopg [6] J (fun gk x wr => ∃ (j : Nat) (A : Option Addr) (q c : Nat), j + gk = J ∧ x = .slice A q c ∧ Own wr w.heap.size (.slice A q c) (news (n % 4) S.theirs j) ∧ RDoor wr B m s { S with theirs := S.theirs + j } v ∧ Keep w wr (fun k => k = m))
  case atStart => exact ⟨0, _, _, _, Nat.zero_add _, rfl, .inl ⟨rfl, rfl⟩, by simpa using H.out, Keep.refl _ _⟩
  case round =>
    obtain ⟨j, A, q, c, hj, rfl, hown, hd, hkp⟩ := hrel
    have c4 : wr.cell? ⟨m, 4, none⟩ = some (.int .i64 (S.theirs + j)) := hd.cell 4
    have HD := Lib.hid hd
    have HO := Lib.hid hown
    have HK := Lib.hid hkp
    have HJ2 := Lib.hid hj
    by_cases hlt : S.theirs + j ≤ n / 4
    · have hd1 : decide (S.theirs + (j : Int) ≤ n / 4) = true := by simpa using hlt
      have hjb : (j : Int) ≤ 1099511627776 := by omega
      have hgk : 1 ≤ gk := by have := HJ.out; have := HJ2.out; omega
      clear hd hown hkp hj
      have HB : Hid (w.heap.size ≤ wr.heap.size) := HK.out.size
      have HV : Hid (∀ i, v.ownBlock = some i → i < w.heap.size) := fun i hi => (H.out.own.lt i hi).2
      go_wp2_with (at_builtin; refine wpList_append_ints rfl _ _ 26 rfl i0 Try.underlying26 hi0 hz0 hz1 hz2 (by rfl) (by rfl) (HO.out.keep (S := fun _ => False) ((Keep.refl wr _).alloc _) (fun _ _ => id)) (bs_one wr _) (by rw [news_length]; simp; omega) (by have := HB.out; simp; omega) ?_; intro v1 w1 own1 keep1 at1; obtain ⟨A1, n1, k1, hn1, rfl⟩ := own1.form; have HN1 := Lib.hid hn1; have HW1 := Lib.hid own1; have HK1 := Lib.hid keep1; have HA1 := Lib.hid at1; have hd1 : RDoor w1 B m s { S with theirs := S.theirs + j } v := (HD.out.keep ((Keep.refl wr (fun _ => False)).alloc _) id (fun _ _ => id)).keep keep1 (fun e => (by have := (HO.out.lt m e).1; have := H.out.lt; omega)) (fun i hi e => (by have := (HO.out.lt i e).1; have := HV.out i hi; omega)); have c41 : w1.cell? ⟨m, 4, none⟩ = some (.int .i64 (S.theirs + j)) := hd1.cell 4; have f41 : w1.frozen? ⟨m, 4, none⟩ = false := hd1.free 4; have HD1 := Lib.hid hd1; clear own1 keep1 at1 hn1 hd1)
      go_roundg (gk - 1)
      case measure => omega
      case rel =>
        have e1 : S.theirs + (j : Int) + 1 = S.theirs + ((j + 1 : Nat) : Int) := by omega
        obtain ⟨hd2, hk2⟩ := HD1.out.put (w' := w1.setCell ⟨m, 4, none⟩ (.int .i64 (S.theirs + (j : Int) + 1))) (S' := { S with theirs := S.theirs + ((j + 1 : Nat) : Int) }) (by rw [e1]; rfl) rfl rfl ⟨rfl, rfl, rfl, rfl⟩
        refine ⟨j + 1, A1, n1, k1, by have := HJ2.out; omega, rfl, ?_, hd2, ((HK.out.alloc _).trans HK1.out (fun i0 hi0 e => absurd (HO.out.lt i0 e).1 (by omega))).trans hk2 (fun _ _ => id)⟩
        rw [news_succ]
        exact HW1.out.keep hk2 (fun i0 e h => by subst h; have := (HW1.out.lt _ e).1; have := H.out.lt; omega)
    · obtain rfl : j = J := by have := HJ.out; have := HJ2.out; omega
      have hd1 : decide (S.theirs + (j : Int) ≤ n / 4) = false := by simpa using hlt
      have e : Hid (max S.theirs (n / 4 + 1) = S.theirs + j) := by show _ = _; have := HJ.out; omega
      clear hd hown hkp hj
      go_wp2
      go_ret2
      exact ⟨_, rfl, HO.out, by rw [e.out]; exact HD.out, HK.out⟩

theorem rcome_any {w : World} {B m : Nat} {s : Bool} {S : DS} {v : Value} (n : Int) (h : RDoor w B m s S v) (ok : S.Ok) :
    Calls Try.prog 16 #[.pointer (some ⟨m, 0, none⟩), .int .i64 n] w fun e w' => ∃ x, e = .returned (.tuple #[x, .int .i64 (comeE S n)]) ∧ Own w' w.heap.size x (comeL S n) ∧ RDoor w' B m s (comeS S n) v ∧ Keep w w' (fun k => k = m) := by
  have same : ∀ (x : Int) {e : Ending} {w' : World}, comeE S n = x → (comeE S n = 0 → n % 4 = S.kind) → (e = .returned (.tuple #[.slice none 0 0, .int .i64 x]) ∧ w' = w) →
      ∃ x, e = .returned (.tuple #[x, .int .i64 (comeE S n)]) ∧ Own w' w.heap.size x (comeL S n) ∧ RDoor w' B m s (comeS S n) v ∧ Keep w w' (fun k => k = m) := by
    rintro x e w' hx hk ⟨rfl, rfl⟩
    have hn : ¬ (comeE S n = 0 ∧ n % 4 ≠ S.kind) := fun ⟨a, b⟩ => b (hk a)
    refine ⟨_, by rw [hx], ?_, ?_, Keep.refl _ _⟩
    · unfold comeL; rw [if_neg hn]; exact .inl ⟨rfl, rfl⟩
    · unfold comeS; rw [if_neg hn]; exact h
  by_cases h1 : n < 0 ∨ 4398046511104 < n
  · have e : comeE S n = 1 := by unfold comeE; rw [if_pos h1]
    exact (rcome_arg h1).mono fun _ _ hh => same 1 e (fun h => by omega) hh
  by_cases h2 : 1 < n % 4
  · have e : comeE S n = 2 := by unfold comeE; rw [if_neg h1, if_pos h2]
    exact (rcome_form (by omega) (by omega) h2).mono fun _ _ hh => same 2 e (fun h => by omega) hh
  by_cases h3 : n % 4 = S.kind
  · have e : comeE S n = if S.own ≤ n / 4 then 7 else 0 := by unfold comeE; rw [if_neg h1, if_neg h2, if_pos h3]
    exact (rcome_own h (by omega) (by omega) h3 ok.k1).mono fun _ _ hh => same _ e (fun _ => h3) hh
  · by_cases h4 : S.count ≤ n / 4
    · have e : comeE S n = 11 := by unfold comeE; rw [if_neg h1, if_neg h2, if_neg h3, if_pos h4]
      exact (rcome_flow h (by omega) (by omega) h3 (by omega) h4).mono fun _ _ hh => same 11 e (fun h => by omega) hh
    · have e : comeE S n = 0 := by unfold comeE; rw [if_neg h1, if_neg h2, if_neg h3, if_neg h4]
      refine (rcome_new h (by omega) (by omega) h3 (by omega) (by omega) ok.t0 ok.c1).mono ?_
      rintro _ w' ⟨v, rfl, ho, hd, hk⟩
      exact ⟨v, by rw [e], by unfold comeL; rw [if_pos ⟨e, h3⟩]; exact ho, by unfold comeS; rw [if_pos ⟨e, h3⟩]; exact hd, hk⟩
end Go.Proofs.Ytpaodflocbfghaa
