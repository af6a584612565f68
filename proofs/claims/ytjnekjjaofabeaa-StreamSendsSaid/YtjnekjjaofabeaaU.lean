/-
  Bytes as the model's numbers; rows of them; strings.
-/
import Derived.Test.YtjnekjjaofabeaaH
import Derived.Laws.BitsAllLaws
namespace Go.Rh
open Go.RowKit

def at_ (l : List UInt8) (j : Nat) : UInt8 := l.getD j 0
theorem at_append_left {l m : List UInt8} {j : Nat} (h : j < l.length) : at_ (l ++ m) j = at_ l j := by
  unfold at_; rw [List.getD_eq_getElem?_getD, List.getD_eq_getElem?_getD, List.getElem?_append_left h]
theorem at_drop (l : List UInt8) (n j : Nat) : at_ (l.drop n) j = at_ l (n + j) := by
  unfold at_; rw [List.getD_eq_getElem?_getD, List.getD_eq_getElem?_getD, List.getElem?_drop]
def ub (x : UInt8) : Int := (x.toNat : Int)
theorem ub_ge (x : UInt8) : 0 ≤ ub x := by unfold ub; omega
theorem ub_lt (x : UInt8) : ub x < 256 := by have := x.toNat_lt; unfold ub; omega
theorem ub_wrap (x : UInt8) : IntKind.u8.wrap (ub x) = ub x := by
  have := ub_ge x; have := ub_lt x
  rw [IntKind.wrap_u8]; omega
theorem ub_inj {x y : UInt8} (h : ub x = ub y) : x = y := by
  unfold ub at h; exact UInt8.toNat_inj.1 (by omega)
def B8 (n : Nat) (l : List UInt8) : Array Value := vals .u8 n fun j => ub (at_ l j)
theorem B8_size (n : Nat) (l : List UInt8) : (B8 n l).size = n := by simp [B8]
theorem B8_get {n : Nat} (l : List UInt8) {j : Nat} (h : j < n) : (B8 n l)[j]? = some (.int .u8 (ub (at_ l j))) := vals_get _ _ h
def S8 (l : List UInt8) : ByteArray := ⟨l.toArray⟩
theorem S8_size (l : List UInt8) : (S8 l).size = l.length := by simp [S8, ByteArray.size]
theorem at_get {l : List UInt8} {j : Nat} (h : j < l.length) : at_ l j = l[j] := by unfold at_; rw [List.getD_eq_getElem?_getD, List.getElem?_eq_getElem h]; rfl
theorem run_index_S8 {P : Program} {T : TypeId} (hT : P.underlying T = some .string) (l : List UInt8) (k : IntKind) (i : Int) (h0 : 0 ≤ i) (h1 : i < l.length) (w : World) :
    (Instr.index T (.string (S8 l)) (.int k i)).run P w = .ok (.int .u8 (ub (at_ l i.toNat))) w := by
  have hj : i.toNat < l.length := by omega
  have hsz : i.toNat < (S8 l).size := by rw [S8_size]; exact hj
  have h2 : (S8 l)[i.toNat]? = some l[i.toNat] := by
    rw [getElem?_pos (S8 l) i.toNat hsz]
    rfl
  unfold Instr.index
  simp only [asIntOf, Sem.run_bind, run_underlying hT w, Sem.run_pure, Result.andThen_ok, if_pos h0, h2]
  rw [at_get hj]; rfl
end Go.Rh
