/-
  A region that draws its order, whatever it holds, by what each result is known to be; behind it the frame is the one of the text's order, with some values of which that is known, and the stores of the tail are still to be gone.
-/
import Derived.Test.YtikmghmapmlebaaWm
namespace Go.Rh
open Go.RowKit
section
variable {P : Program} {Q : Exit → Act → World → Prop}

theorem region_known {id : Nat} {w0 : World} {a0 : Act} {l : List Oper} (n N : Nat) (al : Nat → Bool) (D : Nat → Value → World → Prop) (hm : P.follows .mixedOrders = true) (hN : a0.tmps.size = N) (hok : headOK l n N = true) (hot : headTail l n N = true)
    (hD : ∀ i v w w', w.grownBy w' none → D i v w → D i v w') (hal : ∀ i b w, al i = true → D i (.pointer (some ⟨b, 0, none⟩)) w → b < w.heap.size)
    (hsteps : AllOK P Q l { w0 with drawn := w0.drawn + 1 } a0 al D (l.take n) 0)
    (hfin : ∀ (vs : Nat → Value) w, World.grownBy { w0 with drawn := w0.drawn + 1 } w none → (∀ i, i < n → D i (vs i) w) →
      (∀ i j bi bj, i ≠ j → i < n → j < n → al i = true → al j = true → vs i = .pointer (some ⟨bi, 0, none⟩) → vs j = .pointer (some ⟨bj, 0, none⟩) → bi ≠ bj) →
      wpList P l.toArray Q (l.drop n) (seqA l a0 vs n) w) :
    (Code.region id l.toArray true).wp P Q a0 w0 := by
  have HT := headT_of hot
  have hle := HT.le
  refine region_inv l n N hm hN hok al D hD hal hsteps ?_
  intro listed a w hall R
  have hsz : ∀ d, d < N → ∃ x, a.tmps[d]? = some x := fun d hd => ⟨_, Array.getElem?_eq_getElem (by rw [R.size, hN]; exact hd)⟩
  obtain ⟨vs, hvs⟩ : ∃ vs : Nat → Value, vs = fun i => (((l[i]?).bind (·.dst)).bind (a.tmps[·]?)).getD undef := ⟨_, rfl⟩
  have hval : ∀ i o d, i < n → l[i]? = some o → o.dst = some d → a.tmps[d]? = some (vs i) ∧ D i (vs i) w := fun i o d hi hoi hd => by
    obtain ⟨d', hd', hdN⟩ := HT.dst_head i o hi hoi
    obtain rfl : d' = d := by rw [hd] at hd'; exact (Option.some.inj hd').symm
    obtain ⟨x, hx⟩ := hsz d' hdN
    have h1 := R.done i o d' hoi hd (hall i hi)
    have h2 : vs i = x := by rw [hvs]; simp [hoi, hd, hx]
    rw [hx, h2]
    rw [hx] at h1
    exact ⟨rfl, h1⟩
  have H := head_of hok
  have RC : RegsC l n a0 vs listed a := by
    refine ⟨R.defers, R.size, fun i o d hi hoi hd hl => (hval i o d hi hoi hd).1, fun k hk => R.rest k fun o ho => ?_⟩
    obtain ⟨i, hi⟩ := List.getElem?_of_mem ho
    by_cases hin : i < n
    · exact hk o (List.mem_of_getElem? (i := i) (by rw [List.getElem?_take, if_pos hin]; exact hi))
    · rw [H.dst_tail i o (by omega) hi]; simp
  have e := RC.end_ HT hN hall
  rw [e]
  have at_ : ∀ i, i < n → ∃ o d, l[i]? = some o ∧ o.dst = some d ∧ a.tmps[d]? = some (vs i) ∧ D i (vs i) w := fun i hi => by
    have hoi : l[i]? = some (l[i]'(by omega)) := List.getElem?_eq_getElem (by omega)
    obtain ⟨d, hd, _⟩ := HT.dst_head i _ hi hoi
    exact ⟨_, d, hoi, hd, (hval i _ d hi hoi hd).1, (hval i _ d hi hoi hd).2⟩
  refine hfin vs w R.x (fun i hi => ?_) fun i j bi bj hij hi hj ai aj ei ej => ?_
  · obtain ⟨_, _, _, _, _, h⟩ := at_ i hi
    exact h
  · obtain ⟨oi, di, hoi, hdi, h1, _⟩ := at_ i hi
    obtain ⟨oj, dj, hoj, hdj, h2, _⟩ := at_ j hj
    exact R.apart i j oi oj di dj bi bj hij ai aj hoi hoj hdi hdj (hall i hi) (hall j hj) (by rw [h1, ei]; rfl) (by rw [h2, ej]; rfl)

/-- What is known, as a list. -/
def atL (S : List (Value → World → Prop)) (i : Nat) (v : Value) (w : World) : Prop := match S[i]? with | some s => s v w | none => True
theorem atL_mono {S : List (Value → World → Prop)} (h : ∀ s, s ∈ S → ∀ v w w', w.grownBy w' none → s v w → s v w') (i : Nat) (v : Value) (w w' : World) (hg : w.grownBy w' none) (k : atL S i v w) : atL S i v w' := by
  unfold atL at *
  split at k
  · rename_i s hs
    exact h s (List.mem_of_getElem? hs) v w w' hg k
  · trivial
end
end Go.Rh
