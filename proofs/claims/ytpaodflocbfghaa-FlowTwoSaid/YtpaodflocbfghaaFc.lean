/-
  The doors of one end: Come.
-/
import Derived.Test.YtpaodflocbfghaaFb
namespace Go.Proofs.Ytpaodflocbfghaa
open Go.RowKit Go.Rh Go.Maps

theorem come_arg {w : World} {d : Nat} {n : Int} (h : n < 0 ∨ 4398046511104 < n) :
    Calls Try.prog 10 #[.pointer (some ⟨d, 0, none⟩), .int .i64 n] w fun e w' => e = .returned (.tuple #[.slice none 0 0, .int .i64 1]) ∧ w' = w := by
  rcases h with h | h
  · go_enter Try.func10, Try.ntmps10
    go_wp2
    go_ret2
    exact ⟨rfl, rfl⟩
  · have h' : ¬ n < 0 := by omega
    go_enter Try.func10, Try.ntmps10
    go_wp2
    go_ret2
    exact ⟨rfl, rfl⟩
theorem come_form {w : World} {d : Nat} {n : Int} (h0 : 0 ≤ n) (h1 : n ≤ 4398046511104) (h : 1 < n % 4) :
    Calls Try.prog 10 #[.pointer (some ⟨d, 0, none⟩), .int .i64 n] w fun e w' => e = .returned (.tuple #[.slice none 0 0, .int .i64 2]) ∧ w' = w := by
  have hc : decide (1 < n % 4) = true := by simpa using h
  have hc0 : decide (n < 0) = false := by simp; omega
  have hc1 : decide (4398046511104 < n) = false := by simp; omega
  go_enter Try.func10, Try.ntmps10
  go_wp2
  go_ret2
  exact ⟨rfl, rfl⟩
theorem come_state {w : World} {d g : Nat} {S : DS} {n i : Int} (h : Door w d g S) (h0 : 0 ≤ n) (h1 : n ≤ 4398046511104) (hk : n % 4 = S.kind) (hi : n / 4 = i) (hk1 : S.kind ≤ 1) (ho : S.own ≤ i) :
    Calls Try.prog 10 #[.pointer (some ⟨d, 0, none⟩), .int .i64 n] w fun e w' => e = .returned (.tuple #[.slice none 0 0, .int .i64 7]) ∧ w' = w := by
  have c0 : w.cell? ⟨d, 0, none⟩ = some (.int .i64 S.kind) := h.cell 0
  have c2 : w.cell? ⟨d, 2, none⟩ = some (.int .i64 S.own) := h.cell 2
  have hc0 : decide (n < 0) = false := by simp; omega
  have hc1 : decide (4398046511104 < n) = false := by simp; omega
  have hc2 : decide (1 < S.kind) = false := by simp; omega
  have hc3 : decide (S.own ≤ i) = true := by simpa using ho
  clear h
  go_enter Try.func10, Try.ntmps10
  go_wp2
  go_ret2
  exact ⟨rfl, rfl⟩
theorem come_own {w : World} {d g : Nat} {S : DS} {n i : Int} (h : Door w d g S) (h0 : 0 ≤ n) (h1 : n ≤ 4398046511104) (hk : n % 4 = S.kind) (hi : n / 4 = i) (hk1 : S.kind ≤ 1) (ho : i < S.own) :
    Calls Try.prog 10 #[.pointer (some ⟨d, 0, none⟩), .int .i64 n] w fun e w' => e = .returned (.tuple #[.slice none 0 0, .int .i64 0]) ∧ w' = w := by
  have c0 : w.cell? ⟨d, 0, none⟩ = some (.int .i64 S.kind) := h.cell 0
  have c2 : w.cell? ⟨d, 2, none⟩ = some (.int .i64 S.own) := h.cell 2
  have hc0 : decide (n < 0) = false := by simp; omega
  have hc1 : decide (4398046511104 < n) = false := by simp; omega
  have hc2 : decide (1 < S.kind) = false := by simp; omega
  have hc3 : decide (S.own ≤ i) = false := by simp; omega
  clear h
  go_enter Try.func10, Try.ntmps10
  go_wp2
  go_ret2
  exact ⟨rfl, rfl⟩
theorem come_flow {w : World} {d g : Nat} {S : DS} {n i k : Int} (h : Door w d g S) (h0 : 0 ≤ n) (h1 : n ≤ 4398046511104) (hk : n % 4 = k) (hi : n / 4 = i) (hk1 : k ≤ 1) (hne : k ≠ S.kind) (ho : S.count ≤ i) :
    Calls Try.prog 10 #[.pointer (some ⟨d, 0, none⟩), .int .i64 n] w fun e w' => e = .returned (.tuple #[.slice none 0 0, .int .i64 11]) ∧ w' = w := by
  have c0 : w.cell? ⟨d, 0, none⟩ = some (.int .i64 S.kind) := h.cell 0
  have c5 : w.cell? ⟨d, 5, none⟩ = some (.int .i64 S.count) := h.cell 5
  have hc0 : decide (n < 0) = false := by simp; omega
  have hc1 : decide (4398046511104 < n) = false := by simp; omega
  have hc2 : decide (1 < k) = false := by simp; omega
  have hc3 : decide (S.count ≤ i) = true := by simpa using ho
  have hc4 : (k == S.kind) = false := by simpa using hne
  clear h
  go_enter Try.func10, Try.ntmps10
  go_wp2
  go_ret2
  exact ⟨rfl, rfl⟩

/-- The numbers of the streams that are new. -/
def news (k t : Int) (j : Nat) : List Int := (List.range j).map fun x : Nat => 4 * (t + (x : Int)) + k
theorem news_length (k t : Int) (j : Nat) : (news k t j).length = j := by simp [news]
theorem news_succ (k t : Int) (j : Nat) : news k t (j + 1) = news k t j ++ [4 * (t + j) + k] := by simp [news, List.range_succ]

theorem wpList_append_ints {P : Program} {w : World} {B : Nat} {ok : Nat → Prop} {ops : Array Oper} {rest : List Oper} {o : Oper} {a : Act} {Q : Exit → Act → World → Prop} {v x : Value} {l m : List Int} (hgd : o.guard = none) (s y : Operand) (t : TypeId)
    (ho : o.op = .call { callee := .builtin .append, args := #[s, y], argTypes := #[t, t] }) (i : TypeInfo) (ht : P.underlying t = some (.slice 3)) (hi : P.info? 3 = some i) (hz : i.zero = some (.int .i64 0)) (hsz : i.size = 1) (hby : i.bytes = 8)
    (hs : a.eval s = v) (hy : a.eval y = x) (hown : Own w B v l) (hx : Bs ok w x m) (hbound : l.length + m.length ≤ 17592186044416) (hB : B ≤ w.heap.size)
    (h : ∀ v' w', Own w' B v' (l ++ m) → Keep w w' (fun k => v.ownBlock = some k) → (v'.ownBlock = v.ownBlock ∨ v'.ownBlock = some w.heap.size) → wpList P ops Q rest (a.put o.dst v') w') : wpList P ops Q (o :: rest) a w := by
  refine wpList_plain hgd fun K hK => ?_
  obtain ⟨v', w', hr, h1, h2, h3⟩ := run_append_bytes (P := P) t o.type i ht hi hz hsz hby hown hx hbound hB
  unfold Oper.wp execOp
  simp only [ho, resolve, invoke, builtin, Sem.run_bind, Sem.run_pure, Result.andThen_ok, List.map_toArray, List.map_cons, List.map_nil, hs, hy, hr]
  exact hK _ _ (h v' w' h1 h2 h3)
theorem info3 : (Try.prog.info? 3).map (fun i => (i.zero, i.size, i.bytes)) = some (some (.int .i64 0), 1, 8) := by kernel_rfl
theorem bs_one (w : World) (x : Int) : Bs (fun k => k = w.heap.size) (w.alloc (.cells #[.int .i64 x] 3)) (.slice (some ⟨w.heap.size, 0, none⟩) 1 1) [x] :=
  ⟨_, _, _, rfl, rfl, Nat.le_refl _, fun _ => ⟨_, 0, rfl, rfl, fun j hj => by
    obtain rfl : j = 0 := by omega
    rw [cell_of_row _ w.heap.size _ #[.int .i64 x] 3 _ (heap_alloc_new w _)]; rfl⟩⟩

set_option maxRecDepth 100000 in
theorem come_new {w : World} {d g : Nat} {S : DS} {n i k : Int} (h : Door w d g S) (h0 : 0 ≤ n) (h1 : n ≤ 4398046511104) (hk : n % 4 = k) (hi : n / 4 = i) (hk1 : k ≤ 1) (hne : k ≠ S.kind) (ho : i < S.count) (ht0 : 0 ≤ S.theirs) (hc : S.count ≤ 1099511627776) :
    Calls Try.prog 10 #[.pointer (some ⟨d, 0, none⟩), .int .i64 n] w fun e w' => ∃ v, e = .returned (.tuple #[v, .int .i64 0]) ∧ Own w' w.heap.size v (news k S.theirs (i + 1 - S.theirs).toNat) ∧ Door w' d g { S with theirs := max S.theirs (i + 1) } ∧ Keep w w' (fun k => k = d) := by
  obtain ⟨i0, hi0, hz0, hz1, hz2⟩ := info_parts info3
  have c0 : w.cell? ⟨d, 0, none⟩ = some (.int .i64 S.kind) := h.cell 0
  have c5 : w.cell? ⟨d, 5, none⟩ = some (.int .i64 S.count) := h.cell 5
  have hc0 : decide (n < 0) = false := by simp; omega
  have hc1 : decide (4398046511104 < n) = false := by simp; omega
  have hc2 : decide (1 < k) = false := by simp; omega
  have hc3 : decide (S.count ≤ i) = false := by simp; omega
  have hc4 : (k == S.kind) = false := by simpa using hne
  have hk0 : 0 ≤ k := by omega
  obtain ⟨J, hJ⟩ : ∃ J, J = (i + 1 - S.theirs).toNat := ⟨_, rfl⟩
  have HJ := Lib.hid hJ
  rw [← hJ]
  have H := Lib.hid h
  clear h hJ hne
  go_enter Try.func10, Try.ntmps10
  go_wp2
  rw [hk, hi]
  have HKI : Hid (n % 4 = k ∧ n / 4 = i) := ⟨hk, hi⟩
  clear c0 c5 hk hi
  go_loopg [8] J (fun gk s wr => ∃ (j : Nat) (A : Option Addr) (m c : Nat), j + gk = J ∧ s = .slice A m c ∧ Own wr w.heap.size (.slice A m c) (news k S.theirs j) ∧ Door wr d g { S with theirs := S.theirs + j } ∧ Keep w wr (fun k => k = d))
  case atStart => exact ⟨0, _, _, _, Nat.zero_add _, rfl, .inl ⟨rfl, rfl⟩, by simpa using H.out, Keep.refl _ _⟩
  case round =>
    obtain ⟨j, A, m, c, hj, rfl, hown, hd, hkp⟩ := hrel
    have c4 : wr.cell? ⟨d, 4, none⟩ = some (.int .i64 (S.theirs + j)) := hd.cell 4
    have HD := Lib.hid hd
    have HO := Lib.hid hown
    have HK := Lib.hid hkp
    have HJ2 := Lib.hid hj
    by_cases hlt : S.theirs + j ≤ i
    · have hd1 : decide (S.theirs + (j : Int) ≤ i) = true := by simpa using hlt
      have hjb : (j : Int) ≤ 1099511627776 := by omega
      have hgk : 1 ≤ gk := by have := HJ.out; have := HJ2.out; omega
      clear hd hown hkp hj
      have HB : Hid (w.heap.size ≤ wr.heap.size) := HK.out.size
      go_wp2_with (at_builtin; refine wpList_append_ints rfl _ _ 26 rfl i0 Try.underlying26 hi0 hz0 hz1 hz2 (by rfl) (by rfl) (HO.out.keep (S := fun _ => False) ((Keep.refl wr _).alloc _) (fun _ _ => id)) (bs_one wr _) (by rw [news_length]; simp; omega) (by have := HB.out; simp; omega) ?_; intro v1 w1 own1 keep1 at1; obtain ⟨A1, n1, k1, hn1, rfl⟩ := own1.form; have HN1 := Lib.hid hn1; have HW1 := Lib.hid own1; have HK1 := Lib.hid keep1; have HA1 := Lib.hid at1; have hd1 : Door w1 d g { S with theirs := S.theirs + j } := (HD.out.keep ((Keep.refl wr (fun _ => False)).alloc _) id id).keep keep1 (fun e => (by have := (HO.out.lt d e).1; have := H.out.lt; omega)) (fun e => (by have := (HO.out.lt g e).1; have := H.out.ltg; omega)); have c41 : w1.cell? ⟨d, 4, none⟩ = some (.int .i64 (S.theirs + j)) := hd1.cell 4; have f41 : w1.frozen? ⟨d, 4, none⟩ = false := hd1.free 4; have HD1 := Lib.hid hd1; clear own1 keep1 at1 hn1 hd1)
      go_roundg (gk - 1)
      case measure => omega
      case rel =>
        have e1 : S.theirs + (j : Int) + 1 = S.theirs + ((j + 1 : Nat) : Int) := by omega
        obtain ⟨hd2, hk2⟩ := HD1.out.put (w' := w1.setCell ⟨d, 4, none⟩ (.int .i64 (S.theirs + (j : Int) + 1))) (S' := { S with theirs := S.theirs + ((j + 1 : Nat) : Int) }) (by rw [e1]; rfl) rfl ⟨rfl, rfl, rfl, rfl⟩
        refine ⟨j + 1, A1, n1, k1, by have := HJ2.out; omega, rfl, ?_, hd2, ((HK.out.alloc _).trans HK1.out (fun i0 hi0 e => absurd (HO.out.lt i0 e).1 (by omega))).trans hk2 (fun _ _ => id)⟩
        rw [news_succ]
        exact HW1.out.keep hk2 (fun i0 e h => by subst h; have := (HW1.out.lt _ e).1; have := H.out.lt; omega)
    · obtain rfl : j = J := by have := HJ.out; have := HJ2.out; omega
      have hd1 : decide (S.theirs + (j : Int) ≤ i) = false := by simpa using hlt
      have e : Hid (max S.theirs (i + 1) = S.theirs + j) := by show _ = _; have := HJ.out; omega
      clear hd hown hkp hj
      go_wp2
      go_ret2
      exact ⟨_, rfl, HO.out, by rw [e.out]; exact HD.out, HK.out⟩
end Go.Proofs.Ytpaodflocbfghaa
