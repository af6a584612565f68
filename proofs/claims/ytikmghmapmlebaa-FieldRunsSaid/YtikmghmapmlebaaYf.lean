/-
  What may be known of the results of a region, as data, and the region's law with it.
-/
import Derived.Test.YtikmghmapmlebaaYe
namespace Go.Proofs.Ytikmghmapmlebaa
open Go.RowKit Go.Rh F255

inductive Kk where
  | eq (v : Value)
  | fe (x : Fin p)
  | pt (x z : Fin p)
  | new (B : Nat) (k : Obj)
  | few (B n : Nat) (g : Nat → Nat)
def Kk.holds : Kk → Value → World → Prop
  | .eq x => EqV x
  | .fe x => FeV x
  | .pt x z => PtV x z
  | .new B k => NewV B k
  | .few B n g => FewV B n g
def Kk.isNew : Kk → Bool
  | .new _ _ => true
  | _ => false
theorem Kk.mono {s : Kk} {v : Value} {w w' : World} (hg : w.grownBy w' none) (h : s.holds v w) : s.holds v w' := by
  cases s with
  | eq x => exact h
  | fe x => exact h
  | pt x z => exact h
  | new B k => exact NewV.mono hg h
  | few B n g => exact FewV.mono hg h
def kkAt (S : List Kk) (i : Nat) (v : Value) (w : World) : Prop := match S[i]? with | some s => s.holds v w | none => True
def newKk (S : List Kk) (i : Nat) : Bool := match S[i]? with | some s => s.isNew | none => false

theorem region_kk {P : Program} {Q : Exit → Act → World → Prop} {id : Nat} {w0 : World} {a0 : Act} (l : List Oper) (N : Nat) (S : List Kk) (hm : P.follows .mixedOrders = true) (hN : a0.tmps.size = N) (hok : headOK l S.length N = true) (hot : headTail l S.length N = true)
    (hsteps : ∀ w1, w0.grownBy w1 none → AllOK P Q l w1 a0 (newKk S) (kkAt S) (l.take S.length) 0)
    (hfin : ∀ (vs : Nat → Value) w, World.grownBy w0 w none → (∀ i (s : Kk), S[i]? = some s → s.holds (vs i) w) →
      (∀ i j bi bj, i ≠ j → newKk S i = true → newKk S j = true → vs i = .pointer (some ⟨bi, 0, none⟩) → vs j = .pointer (some ⟨bj, 0, none⟩) → bi ≠ bj) →
      wpList P l.toArray Q (l.drop S.length) (seqA l a0 vs S.length) w) :
    (Code.region id l.toArray true).wp P Q a0 w0 := by
  have hlt : ∀ i, newKk S i = true → i < S.length := fun i h => by
    rcases Nat.lt_or_ge i S.length with k | k
    · exact k
    · unfold newKk at h; rw [List.getElem?_eq_none k] at h; cases h
  refine region_known S.length N (newKk S) (kkAt S) hm hN hok hot (fun i v w w' hg h => ?_) (fun i b w ha h => ?_) (hsteps _ (grown_draws w0)) (fun vs w hg hD hap => hfin vs w (grown_trans (grown_draws w0) hg) (fun i s hi => ?_) fun i j bi bj hij ai aj => hap i j bi bj hij (hlt i ai) (hlt j aj) ai aj)
  · unfold kkAt at *
    split at h
    · exact Kk.mono hg h
    · trivial
  · unfold kkAt newKk at *
    split at h
    · rename_i s hs
      rw [hs] at ha
      cases s <;> simp [Kk.isNew] at ha
      obtain ⟨b', hb, hc, _⟩ := h
      simp at hb; subst hb; exact heap_lt hc
    · rename_i hs
      rw [hs] at ha; cases ha
  · have := hD i (List.getElem?_eq_some_iff.1 hi).1
    unfold kkAt at this
    rwa [hi] at this
end Go.Proofs.Ytikmghmapmlebaa
