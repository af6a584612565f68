/- Plain numbers: Pratt's rows for the prime 2^255 - 19, and Fermat's law modulo it. -/
namespace Go.Proofs.F255

/-- A prime number. -/
def Pr (n : Nat) : Prop := 1 < n ∧ ∀ d, d ∣ n → d = 1 ∨ d = n

theorem Pr.euclid {q a b : Nat} (h : Pr q) (hd : q ∣ a * b) : q ∣ a ∨ q ∣ b := by
  rcases h.2 (Nat.gcd q a) (Nat.gcd_dvd_left q a) with e | e
  · exact .inr (Nat.Coprime.dvd_of_dvd_mul_left e hd)
  · left; rw [← e]; exact Nat.gcd_dvd_right q a

theorem exists_pr : ∀ n, 1 < n → ∃ r, Pr r ∧ r ∣ n := by
  intro n
  induction n using Nat.strongRecOn with
  | _ n ih =>
    intro hn
    by_cases h : ∃ d, d ∣ n ∧ d ≠ 1 ∧ d ≠ n
    · obtain ⟨d, hd, h1, h2⟩ := h
      have hle := Nat.le_of_dvd (by omega) hd
      have h0 : d ≠ 0 := by rintro rfl; simp at hd; omega
      obtain ⟨r, hr, hrd⟩ := ih d (by omega) (by omega)
      exact ⟨r, hr, Nat.dvd_trans hrd hd⟩
    · refine ⟨n, ⟨hn, fun d hd => ?_⟩, Nat.dvd_refl n⟩
      by_cases e1 : d = 1
      · exact .inl e1
      · by_cases e2 : d = n
        · exact .inr e2
        · exact absurd ⟨d, hd, e1, e2⟩ h

def prod : List Nat → Nat
  | [] => 1
  | q :: l => q * prod l

theorem dvd_prod {r : Nat} (hr : Pr r) : ∀ l : List Nat, (∀ q ∈ l, Pr q) → r ∣ prod l → r ∈ l
  | [], _, h => by
    have := Nat.le_of_dvd (by decide) (show r ∣ 1 from h)
    have := hr.1
    omega
  | q :: l, hl, h => by
    rcases hr.euclid (show r ∣ q * prod l from h) with h | h
    · rcases (hl q (by simp)).2 r h with e | e
      · have := hr.1; omega
      · simp [e]
    · exact List.mem_cons_of_mem _ (dvd_prod hr l (fun q hq => hl q (List.mem_cons_of_mem _ hq)) h)

/-- A power modulo n, by squares. -/
def pm : Nat → Nat → Nat → Nat → Nat
  | 0, _, _, n => 1 % n
  | f + 1, g, e, n => if e = 0 then 1 % n else if e % 2 = 1 then g * pm f (g * g % n) (e / 2) n % n else pm f (g * g % n) (e / 2) n

theorem pm_eq (n : Nat) : ∀ f g e, e < 2 ^ f → pm f g e n = g ^ e % n := by
  intro f
  induction f with
  | zero => intro g e h; have : e = 0 := by simpa using h
            subst this; simp [pm]
  | succ f ih =>
    intro g e h
    unfold pm
    split
    · next h0 => subst h0; simp
    · next h0 =>
      have h2 : e / 2 < 2 ^ f := by omega
      rw [ih _ _ h2]
      have hg : (g * g % n) ^ (e / 2) % n = g ^ (2 * (e / 2)) % n := by
        rw [← Nat.pow_mod, ← Nat.pow_two, Nat.pow_mul]
      rw [hg]
      split
      · next h1 =>
        have : e = 2 * (e / 2) + 1 := by omega
        rw [Nat.mul_mod, Nat.mod_mod, ← Nat.mul_mod]
        conv => rhs; rw [this, Nat.pow_succ, Nat.mul_comm]
      · next h1 =>
        have : 2 * (e / 2) = e := by omega
        rw [this]

/-- A map of the numbers below m into themselves that takes no value twice takes each. -/
theorem onto_of_into : ∀ (m : Nat) (f : Nat → Nat), (∀ i, i < m → f i < m) → (∀ i j, i < m → j < m → f i = f j → i = j) →
    ∀ y, y < m → ∃ i, i < m ∧ f i = y := by
  intro m
  induction m with
  | zero => intro f _ _ y hy; omega
  | succ m ih =>
    intro f hf hi y hy
    -- the map with the value m taken out
    let g : Nat → Nat := fun i => if f i = m then f m else f i
    have hg : ∀ i, i < m → g i < m := by
      intro i him
      show (if f i = m then f m else f i) < m
      have h1 := hf i (by omega)
      have h2 := hf m (by omega)
      split
      · next e =>
        have : f m ≠ m := by
          intro e2
          have := hi i m (by omega) (by omega) (by rw [e, e2])
          omega
        omega
      · omega
    have hgi : ∀ i j, i < m → j < m → g i = g j → i = j := by
      intro i j him hjm e
      have e' : (if f i = m then f m else f i) = (if f j = m then f m else f j) := e
      by_cases a : f i = m
      · by_cases b : f j = m
        · exact hi i j (by omega) (by omega) (by omega)
        · rw [if_pos a, if_neg b] at e'
          have := hi m j (by omega) (by omega) e'
          omega
      · by_cases b : f j = m
        · rw [if_neg a, if_pos b] at e'
          have := hi i m (by omega) (by omega) e'
          omega
        · rw [if_neg a, if_neg b] at e'
          exact hi i j (by omega) (by omega) e'
    by_cases hym : y = m
    · -- m itself
      by_cases hm : ∃ i, i < m + 1 ∧ f i = m
      · obtain ⟨i, h1, h2⟩ := hm
        exact ⟨i, h1, by rw [h2, hym]⟩
      · -- then f maps all m + 1 below m: f m is met by g too
        have hfm : f m < m := by
          have := hf m (by omega)
          have : f m ≠ m := fun e => hm ⟨m, by omega, e⟩
          omega
        obtain ⟨i, h1, h2⟩ := ih g hg hgi (f m) hfm
        have h3 : f i ≠ m := fun e => hm ⟨i, by omega, e⟩
        have h4 : g i = f i := by show (if f i = m then f m else f i) = f i; rw [if_neg h3]
        have := hi i m (by omega) (by omega) (by rw [← h4, h2])
        omega
    · obtain ⟨i, h1, h2⟩ := ih g hg hgi y (by omega)
      have h2' : (if f i = m then f m else f i) = y := h2
      by_cases a : f i = m
      · rw [if_pos a] at h2'
        exact ⟨m, by omega, h2'⟩
      · rw [if_neg a] at h2'
        exact ⟨i, by omega, h2'⟩

/-- What Pratt's row says: each number from 1 on is a power of g. -/
def Full (n g : Nat) : Prop := 1 < n ∧ g ^ (n - 1) % n = 1 ∧ ∀ a, 0 < a → a < n → ∃ k, k < n - 1 ∧ g ^ k % n = a

theorem pow_one_of_mul {n g a b : Nat} (h : g ^ a % n = 1) : g ^ (a * b) % n = 1 % n := by
  rw [Nat.pow_mul, Nat.pow_mod, h]; simp

theorem full_of {n g : Nat} (hn : 1 < n) (l : List Nat) (hl : ∀ q ∈ l, Pr q) (hp : prod l = n - 1) (h1 : g ^ (n - 1) % n = 1)
    (hq : ∀ q ∈ l, g ^ ((n - 1) / q) % n ≠ 1) : Full n g := by
  have one : 1 % n = 1 := Nat.mod_eq_of_lt hn
  -- no smaller power is 1
  have least : ∀ d, 0 < d → d < n - 1 → g ^ d % n ≠ 1 := by
    intro d0 hd0 hdn hd1
    -- the least such
    have : ∃ d, 0 < d ∧ d < n - 1 ∧ g ^ d % n = 1 ∧ ∀ c, 0 < c → c < d → g ^ c % n ≠ 1 := by
      clear hq
      induction d0 using Nat.strongRecOn with
      | _ d ih =>
        by_cases h : ∃ c, 0 < c ∧ c < d ∧ g ^ c % n = 1
        · obtain ⟨c, c0, cd, c1⟩ := h
          exact ih c cd c0 (by omega) c1
        · exact ⟨d, hd0, hdn, hd1, fun c c0 cd c1 => h ⟨c, c0, cd, c1⟩⟩
    obtain ⟨d, d0, dn, d1, dl⟩ := this
    have hdvd : d ∣ n - 1 := by
      have e := Nat.div_add_mod (n - 1) d
      have hr : (n - 1) % d < d := Nat.mod_lt _ d0
      by_cases hz : (n - 1) % d = 0
      · exact Nat.dvd_of_mod_eq_zero hz
      · exfalso
        refine dl _ (Nat.pos_of_ne_zero hz) hr ?_
        have h2 : g ^ (d * ((n - 1) / d)) % n = 1 := by rw [pow_one_of_mul d1, one]
        have h3 : g ^ (d * ((n - 1) / d) + (n - 1) % d) % n = 1 := by rw [e]; exact h1
        rw [Nat.pow_add, Nat.mul_mod, h2, Nat.one_mul, Nat.mod_mod] at h3
        exact h3
    obtain ⟨m, hm⟩ := hdvd
    have m1 : 1 < m := by
      rcases Nat.lt_or_ge 1 m with h | h
      · exact h
      · exfalso
        have : d * m ≤ d * 1 := Nat.mul_le_mul_left d h
        omega
    obtain ⟨r, hr, hrm⟩ := exists_pr m m1
    have hrl : r ∈ l := dvd_prod hr l hl (by rw [hp, hm]; exact Nat.dvd_trans hrm (Nat.dvd_mul_left m d))
    obtain ⟨c, hc⟩ := hrm
    refine hq r hrl ?_
    have : (n - 1) / r = d * c := by
      rw [hm, hc, Nat.mul_left_comm]
      exact Nat.mul_div_cancel_left _ (by have := hr.1; omega)
    rw [this, pow_one_of_mul d1, one]
  refine ⟨hn, h1, fun a a0 an => ?_⟩
  have hpos : ∀ k, k < n - 1 → 0 < g ^ k % n := by
    intro k hk
    rcases Nat.eq_zero_or_pos (g ^ k % n) with h | h
    · exfalso
      have e : g ^ (k + (n - 1 - k)) % n = 1 := by rw [show k + (n - 1 - k) = n - 1 by omega]; exact h1
      rw [Nat.pow_add, Nat.mul_mod, h] at e
      simp at e
    · exact h
  obtain ⟨i, hi, e⟩ := onto_of_into (n - 1) (fun k => g ^ k % n - 1) (fun k hk => by
      have := hpos k hk
      have := Nat.mod_lt (g ^ k) (show 0 < n by omega)
      show g ^ k % n - 1 < n - 1
      omega) (by
      have key : ∀ i j, i < j → j < n - 1 → g ^ i % n = g ^ j % n → False := by
        intro i j hij hj e
        refine least (j - i) (by omega) (by omega) ?_
        have e1 : g ^ (i + (n - 1 - i)) % n = 1 := by rw [show i + (n - 1 - i) = n - 1 by omega]; exact h1
        have e2 : g ^ (j + (n - 1 - i)) % n = 1 := by
          rw [Nat.pow_add, Nat.mul_mod, ← e, ← Nat.mul_mod, ← Nat.pow_add]; exact e1
        rw [show j + (n - 1 - i) = (n - 1) + (j - i) by omega, Nat.pow_add, Nat.mul_mod, h1, Nat.one_mul, Nat.mod_mod] at e2
        exact e2
      intro i j hi hj e
      have e : g ^ i % n - 1 = g ^ j % n - 1 := e
      have p1 := hpos i hi
      have p2 := hpos j hj
      have e' : g ^ i % n = g ^ j % n := by omega
      rcases Nat.lt_trichotomy i j with h | h | h
      · exact (key i j h hj e').elim
      · exact h
      · exact (key j i h hi e'.symm).elim) (a - 1) (by omega)
  refine ⟨i, hi, ?_⟩
  have := hpos i hi
  have e : g ^ i % n - 1 = a - 1 := e
  omega

theorem Full.fermat {n g : Nat} (h : Full n g) (a : Nat) (a0 : a % n ≠ 0) : a ^ (n - 1) % n = 1 := by
  obtain ⟨hn, h1, hs⟩ := h
  obtain ⟨k, _, e⟩ := hs (a % n) (by omega) (Nat.mod_lt _ (by omega))
  rw [Nat.pow_mod, ← e, ← Nat.pow_mod, ← Nat.pow_mul, Nat.mul_comm, pow_one_of_mul h1]
  exact Nat.mod_eq_of_lt hn

theorem Full.pr {n g : Nat} (h : Full n g) : Pr n := by
  refine ⟨h.1, fun d hd => ?_⟩
  have h1 := h.1
  have hle := Nat.le_of_dvd (by omega) hd
  by_cases e : d = n
  · exact .inr e
  · left
    have d0 : d ≠ 0 := by rintro rfl; simp at hd; omega
    have f := h.fermat d (by rw [Nat.mod_eq_of_lt (by omega)]; exact d0)
    have hdd : d ∣ d ^ (n - 1) := by
      obtain ⟨m, hm⟩ : ∃ m, n - 1 = m + 1 := ⟨n - 2, by omega⟩
      rw [hm, Nat.pow_succ]; exact Nat.dvd_mul_left _ _
    have : d ∣ 1 := by
      rw [← f]
      exact (Nat.dvd_mod_iff hd).2 hdd
    exact Nat.dvd_one.1 this

/-- A row of Pratt's, as numbers alone. -/
def row (n g : Nat) (l : List Nat) : Bool :=
  decide (1 < n) && decide (n < 2 ^ 256) && prod l == n - 1 && pm 256 g (n - 1) n == 1 && l.all fun q => pm 256 g ((n - 1) / q) n != 1

theorem full_of_row {n g : Nat} {l : List Nat} (h : row n g l = true) (hl : ∀ q ∈ l, Pr q) : Full n g := by
  simp only [row, Bool.and_eq_true, decide_eq_true_eq, beq_iff_eq, List.all_eq_true, bne_iff_ne] at h
  obtain ⟨⟨⟨⟨h1, h2⟩, h3⟩, h4⟩, h5⟩ := h
  refine full_of h1 l hl h3 ?_ fun q hq e => h5 q hq ?_
  · rw [← pm_eq n 256 g (n - 1) (by omega)]; exact h4
  · rw [pm_eq n 256 g _ (by have := Nat.div_le_self (n - 1) q; omega)]; exact e

/-- A small prime, by trial. -/
def trial (n : Nat) : Nat → Bool
  | 0 => true
  | k + 1 => (n % (k + 2) != 0 || decide (n ≤ k + 2)) && trial n k

theorem pr_of_trial {n s : Nat} (h : trial n s = true) (hs : n < (s + 2) * (s + 2)) (hn : 1 < n) : Pr n := by
  have key : ∀ s, trial n s = true → ∀ d, 2 ≤ d → d < s + 2 → d < n → ¬ d ∣ n := by
    intro s
    induction s with
    | zero => intro _ d h1 h2; omega
    | succ k ih =>
      intro h d h1 h2 h3 hd
      simp only [trial, Bool.and_eq_true, Bool.or_eq_true, bne_iff_ne, decide_eq_true_eq] at h
      by_cases e : d = k + 2
      · subst e
        rcases h.1 with h | h
        · exact h (Nat.mod_eq_zero_of_dvd hd)
        · omega
      · exact ih h.2 d h1 (by omega) h3 hd
  refine ⟨hn, fun d hd => ?_⟩
  by_cases e1 : d = 1
  · exact .inl e1
  by_cases e2 : d = n
  · exact .inr e2
  exfalso
  have hle := Nat.le_of_dvd (by omega) hd
  have d0 : d ≠ 0 := by rintro rfl; simp at hd; omega
  obtain ⟨c, hc⟩ := hd
  have c0 : c ≠ 0 := by rintro rfl; simp at hc; omega
  have c1 : c ≠ 1 := by rintro rfl; simp at hc; exact e2 hc.symm
  have cn : c < n := by
    rw [hc]
    have : 1 * c < d * c := Nat.mul_lt_mul_of_pos_right (by omega) (by omega)
    omega
  by_cases hd2 : d < s + 2
  · exact key s h d (by omega) hd2 (by omega) ⟨c, hc⟩
  · refine key s h c (by omega) ?_ cn ⟨d, by rw [Nat.mul_comm]; exact hc⟩
    rcases Nat.lt_or_ge c (s + 2) with h | h
    · exact h
    · exfalso
      have := Nat.mul_le_mul (show s + 2 ≤ d by omega) h
      omega

theorem pr2 : Pr 2 := pr_of_trial (s := 0) (by decide +kernel) (by decide) (by decide)
theorem pr3 : Pr 3 := pr_of_trial (s := 0) (by decide +kernel) (by decide) (by decide)
theorem pr5 : Pr 5 := pr_of_trial (s := 1) (by decide +kernel) (by decide) (by decide)
theorem pr7 : Pr 7 := pr_of_trial (s := 1) (by decide +kernel) (by decide) (by decide)
theorem pr13 : Pr 13 := pr_of_trial (s := 2) (by decide +kernel) (by decide) (by decide)
theorem pr19 : Pr 19 := pr_of_trial (s := 3) (by decide +kernel) (by decide) (by decide)
theorem pr31 : Pr 31 := pr_of_trial (s := 4) (by decide +kernel) (by decide) (by decide)
theorem pr47 : Pr 47 := pr_of_trial (s := 5) (by decide +kernel) (by decide) (by decide)
theorem pr107 : Pr 107 := pr_of_trial (s := 9) (by decide +kernel) (by decide) (by decide)
theorem pr127 : Pr 127 := pr_of_trial (s := 10) (by decide +kernel) (by decide) (by decide)
theorem pr223 : Pr 223 := pr_of_trial (s := 13) (by decide +kernel) (by decide) (by decide)
theorem pr353 : Pr 353 := pr_of_trial (s := 17) (by decide +kernel) (by decide) (by decide)
theorem pr2437 : Pr 2437 := pr_of_trial (s := 48) (by decide +kernel) (by decide) (by decide)
theorem pr4153 : Pr 4153 := pr_of_trial (s := 63) (by decide +kernel) (by decide) (by decide)
theorem pr57467 : Pr 57467 := pr_of_trial (s := 238) (by decide +kernel) (by decide) (by decide)
theorem pr65147 : Pr 65147 := pr_of_trial (s := 254) (by decide +kernel) (by decide) (by decide)
theorem pr75707 : Pr 75707 := pr_of_trial (s := 274) (by decide +kernel) (by decide) (by decide)
theorem pr132049 : Pr 132049 := pr_of_trial (s := 362) (by decide +kernel) (by decide) (by decide)
theorem pr430751 : Pr 430751 := pr_of_trial (s := 655) (by decide +kernel) (by decide) (by decide)
theorem pr569003 : Pr 569003 := pr_of_trial (s := 753) (by decide +kernel) (by decide) (by decide)
theorem pr1923133 : Pr 1923133 := pr_of_trial (s := 1385) (by decide +kernel) (by decide) (by decide)
theorem pr8574133 : Pr 8574133 := pr_of_trial (s := 2927) (by decide +kernel) (by decide) (by decide)
theorem pr31757755568855353 : Pr 31757755568855353 := (full_of_row (g := 10) (l := [2, 2, 2, 3, 31, 107, 223, 4153, 430751]) (by decide +kernel) (by simp only [List.forall_mem_cons]; exact ⟨pr2, pr2, pr2, pr3, pr31, pr107, pr223, pr4153, pr430751, by simp⟩)).pr
theorem pr1919519569386763 : Pr 1919519569386763 := (full_of_row (g := 2) (l := [2, 3, 7, 19, 47, 47, 127, 8574133]) (by decide +kernel) (by simp only [List.forall_mem_cons]; exact ⟨pr2, pr3, pr7, pr19, pr47, pr47, pr127, pr8574133, by simp⟩)).pr
theorem pr2773320623 : Pr 2773320623 := (full_of_row (g := 5) (l := [2, 2437, 569003]) (by decide +kernel) (by simp only [List.forall_mem_cons]; exact ⟨pr2, pr2437, pr569003, by simp⟩)).pr
theorem pr72106336199 : Pr 72106336199 := (full_of_row (g := 7) (l := [2, 13, 2773320623]) (by decide +kernel) (by simp only [List.forall_mem_cons]; exact ⟨pr2, pr13, pr2773320623, by simp⟩)).pr
theorem pr75445702479781427272750846543864801 : Pr 75445702479781427272750846543864801 := (full_of_row (g := 7) (l := [2, 2, 2, 2, 2, 3, 3, 5, 5, 75707, 1919519569386763, 72106336199]) (by decide +kernel) (by simp only [List.forall_mem_cons]; exact ⟨pr2, pr2, pr2, pr2, pr2, pr3, pr3, pr5, pr5, pr75707, pr1919519569386763, pr72106336199, by simp⟩)).pr
theorem pr74058212732561358302231226437062788676166966415465897661863160754340907 : Pr 74058212732561358302231226437062788676166966415465897661863160754340907 := (full_of_row (g := 2) (l := [2, 3, 353, 57467, 132049, 1923133, 31757755568855353, 75445702479781427272750846543864801]) (by decide +kernel) (by simp only [List.forall_mem_cons]; exact ⟨pr2, pr3, pr353, pr57467, pr132049, pr1923133, pr31757755568855353, pr75445702479781427272750846543864801, by simp⟩)).pr
/-- The document's prime. -/
def p : Nat := 57896044618658097711785492504343953926634992332820282019728792003956564819949
theorem full_p : Full p 2 := full_of_row (l := [2, 2, 3, 65147, 74058212732561358302231226437062788676166966415465897661863160754340907]) (by decide +kernel) (by simp only [List.forall_mem_cons]; exact ⟨pr2, pr2, pr3, pr65147, pr74058212732561358302231226437062788676166966415465897661863160754340907, by simp⟩)
theorem pr_p : Pr p := full_p.pr
theorem fermat (a : Nat) (h : a % p ≠ 0) : a ^ (p - 1) % p = 1 := full_p.fermat a h
end Go.Proofs.F255
