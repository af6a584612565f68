/-
  A region that draws its order, in the round of a range over a function.
-/
import Derived.Test.YtjnekjjaofabeaaLa
import Derived.Test.YtjnekjjaofabeaaWj
namespace Go.Rh
open Go.RowKit
variable {P : Program} {ops : Array Oper} {Q : Exit → Act → World → Prop}

theorem oper_round {l n : Nat} {o : Oper} {a : Act} {w : World} {K : Act → World → Prop} (hd : ∀ c, o.op ≠ .defer c) (h : o.wp P a w K Q) : o.wpIn (Fence.wide.inRound l) n P a w K Q := by
  refine ⟨fun _ _ => trivial, ?_⟩
  rw [Fence.inRound_round, Oper.semAt_some l _ _ hd]
  unfold Oper.wp at h
  generalize (execOp a.eval o).run P w = r at *
  cases r with
  | ok x w' =>
    cases x with
    | value v => exact h
    | skip => exact h
    | defer d => exact h
    | enter f args =>
      refine ⟨fun hh => by simp [Fence.wide] at hh, ?_⟩
      exact CallsIn.inRound l (callsIn_wide.2 h)
    | row r args =>
      refine ⟨fun hh => by simp [Fence.wide] at hh, ?_⟩
      have h' : Rows P r args w' fun v w'' => K (a.put o.dst v) w'' := h
      intro c cs _
      obtain ⟨v, w2, h1, h2⟩ := h' c cs
      exact ⟨v, w2, h1, stepsIn_wide.2 h2⟩
    | _ => exact h.elim
  | halt s w' => 
    cases s <;> exact h
theorem any_round {l n : Nat} (hd : ∀ o ∈ ops.toList, ∀ c, o.op ≠ .defer c) (hQ : ¬ LetsOut Q) : ∀ (k : Nat) (listed : Array Bool) (a : Act) (w : World), wpAny P .any ops Q k listed a w → wpAnyIn (Fence.wide.inRound l) n P .any ops Q k listed a w
  | 0, _, _, _, h => h
  | k + 1, listed, a, w, h => by
    refine ⟨h.1, fun i hi => ?_⟩
    have h2 := h.2 i hi
    unfold wpOp at h2
    unfold wpOpIn
    split
    · rename_i hn
      simp only [hn] at h2
      exact any_round hd hQ k _ _ _ h2
    · rename_i o ho
      simp only [ho] at h2
      split
      · rename_i hw
        rw [if_pos hw] at h2
        have h3 := h2.resolve_right (fun hh => hQ hh.2)
        exact Oper.wpIn_mono (fun a w => any_round hd hQ k _ a w) (oper_round (hd o (by rw [Array.mem_toList_iff]; exact Array.mem_of_getElem? ho)) h3)
      · rename_i hw
        rw [if_neg hw] at h2
        exact ⟨fun _ _ => trivial, any_round hd hQ k _ _ _ h2⟩
def noDefer (l : List Oper) : Bool := l.all fun o => match o.op with | .defer _ => false | _ => true
theorem noDefer_of {l : List Oper} (h : noDefer l = true) : ∀ o ∈ l, ∀ c, o.op ≠ .defer c := by
  intro o ho c e
  unfold noDefer at h
  rw [List.all_eq_true] at h
  have := h o ho
  rw [e] at this
  cases this
theorem region_round {l n id : Nat} {L : List Oper} {a : Act} {w : World} (hm : P.follows .mixedOrders = true) (hd : noDefer L = true) (hQ : ∀ a w, ¬ Q .outgrown a w) (h : wpAny P .any L.toArray Q L.toArray.size (Array.replicate L.toArray.size false) a { w with drawn := w.drawn + 1 }) :
    (Code.region id L.toArray true).wpIn (Fence.wide.inRound l) n P Q a w :=
  wpIn_region_any hm (any_round (by simpa using noDefer_of hd) (fun ⟨a, w, h⟩ => hQ a w h) _ _ _ _ h)
end Go.Rh
