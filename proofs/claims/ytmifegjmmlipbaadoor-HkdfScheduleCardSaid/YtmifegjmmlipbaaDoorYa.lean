/-
  What a row's listed variables say of memory: the program's tables.
-/
import Derived.Test.YtmifegjmmlipbaaDoorXg
import Derived.ProofKit
import Derived.ChangeVars
namespace Go.Proofs.YtmifegjmmlipbaaDoor
open Go.ChangeShapes Go.WideShapes Go.ChangeAt Go.RowKit Go.Rh Sha

theorem Tryd.own : ownKnob Tryd.prog.godebug = none := by kernel_rfl
theorem cellsOf75 : Tryd.prog.cellsOf 75 = 1 := by kernel_rfl
theorem cellsOf76 : Tryd.prog.cellsOf 76 = 8 := by kernel_rfl
theorem cellsOf89 : Tryd.prog.cellsOf 89 = 64 := by kernel_rfl

theorem u32_row {H : Type} {enc : TypeId × Value → H} {w : World} {base : Nat} {spare : Nat → Bool} {held : Bool} {fuel t n : Nat} {cs : List Value} {l : List Nat} {p : List MemPlace} (ht : Tryd.prog.underlying t = some (.array n 75)) (hc : Tryd.prog.cellsOf t = n) (hl : l.length = n)
    (h : DataW.trod enc Tryd.prog w base spare held fuel t cs = some (.agg (l.map fun (x : Nat) => .lit (.int .u32 (x : Int))), p)) : cs.toArray = vals .u32 n fun j => ((l.getD j 0 : Nat) : Int) := by
  obtain ⟨xs, m, rfl, hx, hlen, hxl, hel⟩ := DataW.trod_array ht h
  rw [hc] at hlen
  have h1 : l.map (fun (x : Nat) => (.lit (.int .u32 (x : Int)) : DataW H)) = xs.map (·.1) := by
    have := congrArg Prod.fst hx
    simpa using this
  apply Array.ext_getElem?
  intro j
  by_cases hj : j < n
  · have hjl : j < l.length := by omega
    have hjx : j < xs.length := by omega
    have he := hel j hj
    rw [cellsOf75, Nat.mul_one, List.getElem?_eq_getElem hjx] at he
    obtain ⟨k, h2, h3, _⟩ := DataW.trod_int Tryd.underlying75 he
    have hjc : j < cs.length := by omega
    rw [List.drop_eq_getElem_cons hjc, List.take_succ_cons, List.take_zero] at h2
    have h4 := (List.cons.inj h2).1
    have h5 : (l.map (fun (x : Nat) => (.lit (.int .u32 (x : Int)) : DataW H)))[j]? = (xs.map (·.1))[j]? := by rw [h1]
    simp only [List.getElem?_map, List.getElem?_eq_getElem hjl, List.getElem?_eq_getElem hjx, Option.map_some, h3] at h5
    have h6 : ((l[j] : Nat) : Int) = k := by
      have h7 := Option.some.inj h5
      injection h7 with h7
      injection h7
    rw [vals_get _ _ hj, List.getD_eq_getElem?_getD, List.getElem?_eq_getElem hjl]
    simp [hjc, h4, ← h6]
  · rw [Array.getElem?_eq_none (by simp; omega), Array.getElem?_eq_none (by simp; omega)]

theorem first_data {H : Type} : (Rows.laid_rhyne_sha_first : DataW H) = .agg (IVl.map fun (x : Nat) => .lit (.int .u32 (x : Int))) := rfl
theorem round_data {H : Type} : (Rows.laid_rhyne_sha_round : DataW H) = .agg (Kl.map fun (x : Nat) => .lit (.int .u32 (x : Int))) := rfl
theorem first_row : (vals .u32 8 fun j => ((IVl.getD j 0 : Nat) : Int)) = U32 8 IV := by kernel_rfl
theorem round_row : (vals .u32 64 fun j => ((Kl.getD j 0 : Nat) : Int)) = U32 64 K := by kernel_rfl
theorem gFirst : Tryd.prog.globalNamed "rhyne/sha.first" = some 0 := by kernel_rfl
theorem gRound : Tryd.prog.globalNamed "rhyne/sha.round" = some 1 := by kernel_rfl
theorem tFirst : (Tryd.prog.globals[0]?).map (·.type) = some 76 := by kernel_rfl
theorem tRound : (Tryd.prog.globals[1]?).map (·.type) = some 89 := by kernel_rfl

theorem laid_of {W : World} (h : laidMet Tryd.prog [("rhyne/sha.first", Rows.laid_rhyne_sha_first), ("rhyne/sha.round", Rows.laid_rhyne_sha_round)] W) : Laid W := by
  obtain ⟨ps, ⟨g, t, cs, fuel, p, q, hg, ht, hvar, hd, ⟨g2, t2, cs2, fuel2, p2, q2, hg2, ht2, hvar2, hd2, hq2, rfl⟩, rfl⟩, _, hfr⟩ := h
  obtain rfl := Option.some.inj (gFirst.symm.trans hg)
  obtain rfl := Option.some.inj (tFirst.symm.trans ht)
  obtain rfl := Option.some.inj (gRound.symm.trans hg2)
  obtain rfl := Option.some.inj (tRound.symm.trans ht2)
  rw [first_data] at hd
  rw [round_data] at hd2
  have e1 : cs = U32 8 IV := by
    have := u32_row Tryd.underlying76 cellsOf76 rfl hd
    rw [Array.toArray_toList] at this
    rw [this, first_row]
  have e2 : cs2 = U32 64 K := by
    have := u32_row Tryd.underlying89 cellsOf89 rfl hd2
    rw [Array.toArray_toList] at this
    rw [this, round_row]
  subst e1 e2
  obtain ⟨⟨c0, t0, h0⟩, _⟩ := hfr 0 0 (by simp [MemPlace.row, U32_size])
  obtain ⟨⟨c1, t1, h1⟩, _⟩ := hfr 1 0 (by simp [MemPlace.row, U32_size])
  have v0 : W.var? Tryd.prog "rhyne/sha.first" = some c0 := by simp [World.var?, gFirst, h0]
  have v1 : W.var? Tryd.prog "rhyne/sha.round" = some c1 := by simp [World.var?, gRound, h1]
  obtain rfl := Option.some.inj (hvar.symm.trans v0)
  obtain rfl := Option.some.inj (hvar2.symm.trans v1)
  exact ⟨⟨t0, h0⟩, ⟨t1, h1⟩⟩
end Go.Proofs.YtmifegjmmlipbaaDoor
