/-
  The doors of one end: Come as one contract; Leave, with what the map tells.
-/
import Derived.Test.YtpaodflocbfghaaFc
namespace Go.Proofs.Ytpaodflocbfghaa
open Go.RowKit Go.Rh Go.Maps

/-- What the numbers keep between. -/
structure DS.Ok (S : DS) : Prop where
  k0 : 0 ≤ S.kind
  k1 : S.kind ≤ 1
  o0 : 0 ≤ S.own
  t0 : 0 ≤ S.theirs
  l0 : 0 ≤ S.left
  c1 : S.count ≤ 1099511627776
  l1 : S.left ≤ 1099511627776
  g1 : S.gone.length ≤ 1099511627776

/-- What Come tells. -/
def comeE (S : DS) (n : Int) : Int := if n < 0 ∨ 4398046511104 < n then 1 else if 1 < n % 4 then 2 else if n % 4 = S.kind then (if S.own ≤ n / 4 then 7 else 0) else if S.count ≤ n / 4 then 11 else 0
def comeL (S : DS) (n : Int) : List Int := if comeE S n = 0 ∧ n % 4 ≠ S.kind then news (n % 4) S.theirs (n / 4 + 1 - S.theirs).toNat else []
def comeS (S : DS) (n : Int) : DS := if comeE S n = 0 ∧ n % 4 ≠ S.kind then { S with theirs := max S.theirs (n / 4 + 1) } else S

theorem come_any {w : World} {d g : Nat} {S : DS} (n : Int) (h : Door w d g S) (ok : S.Ok) :
    Calls Try.prog 10 #[.pointer (some ⟨d, 0, none⟩), .int .i64 n] w fun e w' => ∃ v, e = .returned (.tuple #[v, .int .i64 (comeE S n)]) ∧ Own w' w.heap.size v (comeL S n) ∧ Door w' d g (comeS S n) ∧ Keep w w' (fun k => k = d) := by
  have same : ∀ (x : Int) {e : Ending} {w' : World}, comeE S n = x → (comeE S n = 0 → n % 4 = S.kind) → (e = .returned (.tuple #[.slice none 0 0, .int .i64 x]) ∧ w' = w) →
      ∃ v, e = .returned (.tuple #[v, .int .i64 (comeE S n)]) ∧ Own w' w.heap.size v (comeL S n) ∧ Door w' d g (comeS S n) ∧ Keep w w' (fun k => k = d) := by
    rintro x e w' hx hk ⟨rfl, rfl⟩
    have hn : ¬ (comeE S n = 0 ∧ n % 4 ≠ S.kind) := fun ⟨a, b⟩ => b (hk a)
    refine ⟨_, by rw [hx], ?_, ?_, Keep.refl _ _⟩
    · unfold comeL; rw [if_neg hn]; exact .inl ⟨rfl, rfl⟩
    · unfold comeS; rw [if_neg hn]; exact h
  by_cases h1 : n < 0 ∨ 4398046511104 < n
  · have e : comeE S n = 1 := by unfold comeE; rw [if_pos h1]
    exact (come_arg h1).mono fun _ _ hh => same 1 e (fun h => by omega) hh
  by_cases h2 : 1 < n % 4
  · have e : comeE S n = 2 := by unfold comeE; rw [if_neg h1, if_pos h2]
    exact (come_form (by omega) (by omega) h2).mono fun _ _ hh => same 2 e (fun h => by omega) hh
  by_cases h3 : n % 4 = S.kind
  · by_cases h4 : S.own ≤ n / 4
    · have e : comeE S n = 7 := by unfold comeE; rw [if_neg h1, if_neg h2, if_pos h3, if_pos h4]
      exact (come_state h (by omega) (by omega) h3 rfl ok.k1 h4).mono fun _ _ hh => same 7 e (fun h => by omega) hh
    · have e : comeE S n = 0 := by unfold comeE; rw [if_neg h1, if_neg h2, if_pos h3, if_neg h4]
      exact (come_own h (by omega) (by omega) h3 rfl ok.k1 (by omega)).mono fun _ _ hh => same 0 e (fun _ => h3) hh
  · by_cases h4 : S.count ≤ n / 4
    · have e : comeE S n = 11 := by unfold comeE; rw [if_neg h1, if_neg h2, if_neg h3, if_pos h4]
      exact (come_flow h (by omega) (by omega) rfl rfl (by omega) h3 h4).mono fun _ _ hh => same 11 e (fun h => by omega) hh
    · have e : comeE S n = 0 := by unfold comeE; rw [if_neg h1, if_neg h2, if_neg h3, if_neg h4]
      refine (come_new h (by omega) (by omega) rfl rfl (by omega) h3 (by omega) ok.t0 ok.c1).mono ?_
      rintro _ w' ⟨v, rfl, ho, hd, hk⟩
      exact ⟨v, by rw [e], by unfold comeL; rw [if_pos ⟨e, h3⟩]; exact ho, by unfold comeS; rw [if_pos ⟨e, h3⟩]; exact hd, hk⟩

theorem zero4 (w : World) : (zeroValue 4).run Try.prog w = .ok (.bool false) w := by kernel_rfl
theorem plainElem_bool_inv {P : Program} {e : TypeId} (he : P.underlying e = some .bool) {v : Value} {z : DataW Unit × List MemPlace} (h : plainElem P e v = some z) : ∃ x, v = .bool x ∧ z = (.lit (.bool x), []) := by
  unfold plainElem at h
  rw [he] at h
  cases v <;> simp at h
  exact ⟨_, rfl, h.symm⟩
/-- What the map tells of a number. -/
theorem MAt.look {w : World} {g : Nat} {G : List Int} (h : MAt w g G) {n : Int} (hn : (Lit.int .i64 n).wf = true) : (Instr.lookup 57 (.map (some g)) (.int .i64 n) false).run Try.prog w = .ok (.bool (decide (n ∈ G))) w := by
  obtain ⟨D, ho, hD, hat⟩ := h
  obtain ⟨v, ps, hrun, hv⟩ := ho.lookup law3 Try.underlying57 (zero4 w) (plainElem_bool Try.underlying4 false) (keyOf_int_mk Try.underlying3 hn)
  obtain ⟨x, rfl, hx⟩ := plainElem_bool_inv Try.underlying4 hv
  rw [hat n hn] at hx
  simp at hx
  rw [hrun, hx.1]

/-- What Leave tells. -/
def leaveBad (S : DS) (n : Int) : Prop := n < 0 ∨ 1 < n % 4 ∨ (n % 4 = S.kind ∧ S.own ≤ n / 4) ∨ (n % 4 ≠ S.kind ∧ S.theirs ≤ n / 4) ∨ n ∈ S.gone
def leaveS (S : DS) (n : Int) : DS := { S with gone := S.gone ++ [n], left := if n % 4 = S.kind then S.left else S.left + 1 }

theorem wf_i64 {n : Int} (h0 : -9223372036854775808 ≤ n) (h1 : n ≤ 9223372036854775807) : (Lit.int .i64 n).wf = true := by
  have e1 : IntKind.i64.min = -9223372036854775808 := by decide
  have e2 : IntKind.i64.max = 9223372036854775807 := by decide
  simp only [Lit.wf, e1, e2]; simp; omega

theorem leave_neg {w : World} {d g : Nat} {S : DS} {n : Int} (h : Door w d g S) (hn : n < 0) :
    Calls Try.prog 12 #[.pointer (some ⟨d, 0, none⟩), .int .i64 n] w fun e w' => e = .returned (.int .i64 8) ∧ w' = w := by
  have c0 : w.cell? ⟨d, 0, none⟩ = some (.int .i64 S.kind) := h.cell 0
  have c2 : w.cell? ⟨d, 2, none⟩ = some (.int .i64 S.own) := h.cell 2
  have c4 : w.cell? ⟨d, 4, none⟩ = some (.int .i64 S.theirs) := h.cell 4
  have hc : decide (n < 0) = true := by simpa using hn
  clear h
  go_enter Try.func12, Try.ntmps12
  go_wp2
  all_goals
    go_ret
    exact ⟨rfl, rfl⟩
theorem leave_kind {w : World} {d g : Nat} {S : DS} {n : Int} (h : Door w d g S) (hn : 0 ≤ n) (hk : 1 < n % 4) :
    Calls Try.prog 12 #[.pointer (some ⟨d, 0, none⟩), .int .i64 n] w fun e w' => e = .returned (.int .i64 8) ∧ w' = w := by
  have c0 : w.cell? ⟨d, 0, none⟩ = some (.int .i64 S.kind) := h.cell 0
  have c2 : w.cell? ⟨d, 2, none⟩ = some (.int .i64 S.own) := h.cell 2
  have c4 : w.cell? ⟨d, 4, none⟩ = some (.int .i64 S.theirs) := h.cell 4
  have hc : decide (n < 0) = false := by simp; omega
  have hc2 : decide (1 < n % 4) = true := by simpa using hk
  clear h
  go_enter Try.func12, Try.ntmps12
  go_wp2
  all_goals
    go_ret
    exact ⟨rfl, rfl⟩
theorem leave_own {w : World} {d g : Nat} {S : DS} {n i : Int} (h : Door w d g S) (hn : 0 ≤ n) (hn2 : n ≤ 9223372036854775807) (hk : n % 4 = S.kind) (hi : n / 4 = i) (hk1 : S.kind ≤ 1) (ho : S.own ≤ i) :
    Calls Try.prog 12 #[.pointer (some ⟨d, 0, none⟩), .int .i64 n] w fun e w' => e = .returned (.int .i64 8) ∧ w' = w := by
  have c0 : w.cell? ⟨d, 0, none⟩ = some (.int .i64 S.kind) := h.cell 0
  have c2 : w.cell? ⟨d, 2, none⟩ = some (.int .i64 S.own) := h.cell 2
  have c4 : w.cell? ⟨d, 4, none⟩ = some (.int .i64 S.theirs) := h.cell 4
  have hc : decide (n < 0) = false := by simp; omega
  have hc2 : decide (1 < S.kind) = false := by simp; omega
  have hc3 : decide (S.own ≤ i) = true := by simpa using ho
  clear h
  go_enter Try.func12, Try.ntmps12
  go_wp2
  go_ret
  exact ⟨rfl, rfl⟩
theorem leave_theirs {w : World} {d g : Nat} {S : DS} {n i k : Int} (h : Door w d g S) (hn : 0 ≤ n) (hn2 : n ≤ 9223372036854775807) (hk : n % 4 = k) (hne : k ≠ S.kind) (hi : n / 4 = i) (hk1 : k ≤ 1) (ho : S.theirs ≤ i) :
    Calls Try.prog 12 #[.pointer (some ⟨d, 0, none⟩), .int .i64 n] w fun e w' => e = .returned (.int .i64 8) ∧ w' = w := by
  have c0 : w.cell? ⟨d, 0, none⟩ = some (.int .i64 S.kind) := h.cell 0
  have c2 : w.cell? ⟨d, 2, none⟩ = some (.int .i64 S.own) := h.cell 2
  have c4 : w.cell? ⟨d, 4, none⟩ = some (.int .i64 S.theirs) := h.cell 4
  have hc : decide (n < 0) = false := by simp; omega
  have hc2 : decide (1 < k) = false := by simp; omega
  have hc3 : decide (S.theirs ≤ i) = true := by simpa using ho
  have hc4 : (k == S.kind) = false := by simpa using hne
  clear h
  go_enter Try.func12, Try.ntmps12
  go_wp2
  go_ret
  exact ⟨rfl, rfl⟩
theorem leave_gone {w : World} {d g : Nat} {S : DS} {n i k : Int} (h : Door w d g S) (hn : 0 ≤ n) (hn2 : n ≤ 9223372036854775807) (hk : n % 4 = k) (hi : n / 4 = i) (hk1 : k ≤ 1) (ho : (k = S.kind ∧ i < S.own) ∨ (k ≠ S.kind ∧ i < S.theirs)) (hg : n ∈ S.gone) :
    Calls Try.prog 12 #[.pointer (some ⟨d, 0, none⟩), .int .i64 n] w fun e w' => e = .returned (.int .i64 8) ∧ w' = w := by
  have c0 : w.cell? ⟨d, 0, none⟩ = some (.int .i64 S.kind) := h.cell 0
  have c2 : w.cell? ⟨d, 2, none⟩ = some (.int .i64 S.own) := h.cell 2
  have c4 : w.cell? ⟨d, 4, none⟩ = some (.int .i64 S.theirs) := h.cell 4
  have c6 : w.cell? ⟨d, 6, none⟩ = some (.map (some g)) := h.cell 6
  have hl := h.map.look (n := n) (wf_i64 (by omega) hn2)
  rw [decide_eq_true hg] at hl
  have hc : decide (n < 0) = false := by simp; omega
  have hc2 : decide (1 < k) = false := by simp; omega
  clear h hg
  rcases ho with ⟨rfl, ho⟩ | ⟨hne, ho⟩
  · have hc3 : decide (S.own ≤ i) = false := by simp; omega
    go_enter Try.func12, Try.ntmps12
    go_wp2
    go_ret
    exact ⟨rfl, rfl⟩
  · have hc3 : decide (S.theirs ≤ i) = false := by simp; omega
    have hc4 : (k == S.kind) = false := by simpa using hne
    go_enter Try.func12, Try.ntmps12
    go_wp2
    go_ret
    exact ⟨rfl, rfl⟩
theorem MAt.add {w : World} {g : Nat} {G : List Int} {n : Int} (D : DataW Unit) (hD : IsMap D) (hat : ∀ n : Int, (Lit.int .i64 n).wf = true → D.atKey (.int .i64 n) (.lit (.bool false)) = .lit (.bool (decide (n ∈ G))))
    (hn : (Lit.int .i64 n).wf = true) (h : w.ownsMap Try.prog 3 (plainElem Try.prog 4) g (G.length + 1) (D.put (.int .i64 n) (.lit (.bool true)))) : MAt w g (G ++ [n]) := by
  refine ⟨_, by simpa using h, hD.put _ _, fun m hm => ?_⟩
  by_cases e : m = n
  · subst e
    rw [atKey_put_same hD (by simp [WideAt.IsKeyLit])]; simp
  · rw [atKey_put_other (by simpa using e), hat m hm]; simp [e]
theorem leave_yes {w : World} {d g : Nat} {S : DS} {n i k : Int} (h : Door w d g S) (hn : 0 ≤ n) (hn2 : n ≤ 9223372036854775807) (hk : n % 4 = k) (hi : n / 4 = i) (hk1 : k ≤ 1) (ho : (k = S.kind ∧ i < S.own) ∨ (k ≠ S.kind ∧ i < S.theirs)) (hg : n ∉ S.gone) (ok : S.Ok) :
    Calls Try.prog 12 #[.pointer (some ⟨d, 0, none⟩), .int .i64 n] w fun e w' => e = .returned (.int .i64 0) ∧ Door w' d g (leaveS S n) ∧ Keep w w' (fun k => k = d ∨ k = g) := by
  have c0 : w.cell? ⟨d, 0, none⟩ = some (.int .i64 S.kind) := h.cell 0
  have c2 : w.cell? ⟨d, 2, none⟩ = some (.int .i64 S.own) := h.cell 2
  have c4 : w.cell? ⟨d, 4, none⟩ = some (.int .i64 S.theirs) := h.cell 4
  have c6 : w.cell? ⟨d, 6, none⟩ = some (.map (some g)) := h.cell 6
  have hwf : (Lit.int .i64 n).wf = true := wf_i64 (by omega) hn2
  have hl := h.map.look hwf
  rw [decide_eq_false hg] at hl
  have hc : decide (n < 0) = false := by simp; omega
  have hc2 : decide (1 < k) = false := by simp; omega
  have hl0 := ok.l0
  have hl1 := ok.l1
  obtain ⟨D, hD1, hD2, hD3⟩ := h.map
  have HD1 := Lib.hid hD1
  have HD2 := Lib.hid hD2
  have HD3 := Lib.hid hD3
  have HG : Hid (S.gone.length < maxLen) := Nat.lt_of_le_of_lt ok.g1 (by decide)
  have HW := Lib.hid hwf
  have H := Lib.hid h
  clear h hg hD1 hD2 hD3 hwf ok
  rcases ho with ⟨rfl, ho⟩ | ⟨hne, ho⟩
  · have hc3 : decide (S.own ≤ i) = false := by simp; omega
    go_enter Try.func12, Try.ntmps12
    go_wp2_with (at_mapUpdate; refine wpList_mapUpdate_own _ rfl _ _ _ 57 rfl 3 4 law3 Try.underlying57 _ g S.gone.length _ rfl HD1.out HG.out _ _ (.int .i64 n) rfl rfl (keyOf_int_mk Try.underlying3 HW.out) _ [] (plainElem_bool Try.underlying4 true) ?_; intro w1 own1 grow1; have hk1 := (Keep.of_grown (S := fun k => k = g) grow1 (fun k _ e => (Option.some.inj e).symm)); have d0 : w1.cell? ⟨d, 0, none⟩ = some (.int .i64 S.kind) := (World.cell?_of_block (a := ⟨d, 0, none⟩) (hk1.block d H.out.lt H.out.ne)).trans (H.out.cell 0); have HO1 := Lib.hid own1; have HK1 := Lib.hid hk1; clear own1 grow1 hk1)
    go_ret
    have hd1 : Door w1 d g (leaveS S n) := ⟨H.out.ne, (HK1.out.block d H.out.lt H.out.ne).trans (by rw [H.out.row]; simp [leaveS, dcells, hk]), MAt.add D HD2.out HD3.out HW.out HO1.out⟩
    exact ⟨rfl, hd1, HK1.out.mono (fun _ _ e => .inr e)⟩
  · have hc3 : decide (S.theirs ≤ i) = false := by simp; omega
    have hc4 : (k == S.kind) = false := by simpa using hne
    have hc5 : (k != S.kind) = true := by simpa using hne
    have HNE := Lib.hid hne
    clear hne
    go_enter Try.func12, Try.ntmps12
    go_wp2_with (at_mapUpdate; refine wpList_mapUpdate_own _ rfl _ _ _ 57 rfl 3 4 law3 Try.underlying57 _ g S.gone.length _ rfl HD1.out HG.out _ _ (.int .i64 n) rfl rfl (keyOf_int_mk Try.underlying3 HW.out) _ [] (plainElem_bool Try.underlying4 true) ?_; intro w1 own1 grow1; have hk1 := (Keep.of_grown (S := fun k => k = g) grow1 (fun k _ e => (Option.some.inj e).symm)); have d0 : w1.cell? ⟨d, 0, none⟩ = some (.int .i64 S.kind) := (World.cell?_of_block (a := ⟨d, 0, none⟩) (hk1.block d H.out.lt H.out.ne)).trans (H.out.cell 0); have d7 : w1.cell? ⟨d, 7, none⟩ = some (.int .i64 S.left) := (World.cell?_of_block (a := ⟨d, 7, none⟩) (hk1.block d H.out.lt H.out.ne)).trans (H.out.cell 7); have f7 : w1.frozen? ⟨d, 7, none⟩ = false := frozen_of_row _ _ _ _ _ ((hk1.block d H.out.lt H.out.ne).trans H.out.row); have HO1 := Lib.hid own1; have HK1 := Lib.hid hk1; clear own1 grow1 hk1)
    go_ret
    have hd1 : Door w1 d g { S with gone := S.gone ++ [n] } := ⟨H.out.ne, (HK1.out.block d H.out.lt H.out.ne).trans (by rw [H.out.row]; rfl), MAt.add D HD2.out HD3.out HW.out HO1.out⟩
    obtain ⟨h1, h2⟩ := hd1.put (w' := w1.setCell ⟨d, 7, none⟩ (.int .i64 (S.left + 1))) (S' := leaveS S n) (by simp [leaveS, dcells, hk, HNE.out]) rfl ⟨rfl, rfl, rfl, rfl⟩
    exact ⟨rfl, h1, (HK1.out.mono (T := fun k => k = d ∨ k = g) (fun _ _ e => .inr e)).trans h2 (fun _ _ e => .inl e)⟩
end Go.Proofs.Ytpaodflocbfghaa
