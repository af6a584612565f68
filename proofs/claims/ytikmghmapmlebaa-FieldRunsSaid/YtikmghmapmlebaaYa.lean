/-
  The reference's operations, said of the field's numbers: strings that are a number's 32 bytes.
-/
import Derived.Test.YtikmghmapmlebaaVe
import Derived.Test.YtikmghmapmlebaaXb
import Derived.Test.YtikmghmapmlebaaM
import Derived.Test.YtikmghmapmlebaaQf
namespace Go.Proofs.Ytikmghmapmlebaa
open Go.RowKit Go.Rh F255

/-- A number of the field as text. -/
def fs (x : Fin p) : Value := .string (le32 x.val)
/-- Nothing that lay there before has changed. -/
def BB (w0 w : World) : Prop := Below w0.heap.size w0 w ∧ w0.heap.size ≤ w.heap.size
theorem BB.go {w0 w w' : World} (h : BB w0 w) (b : Below w.heap.size w w') : BB w0 w' := ⟨h.1.trans (b.mono h.2), Nat.le_trans h.2 b.size⟩
theorem BB.of {w w' : World} (b : Below w.heap.size w w') : BB w w' := ⟨b, b.size⟩

theorem fin_lt (x : Fin p) : x.val < pN := Nat.lt_of_lt_of_eq x.isLt p_eq
theorem fin_256 (x : Fin p) : x.val < Two256 := Nat.lt_trans (fin_lt x) (by decide)
theorem fin_add (a b : Fin p) : (a + b).val = (a.val + b.val) % pN := (Fin.val_add a b).trans (congrArg _ p_eq)
theorem fin_mul (a b : Fin p) : (a * b).val = a.val * b.val % pN := (Fin.val_mul a b).trans (congrArg _ p_eq)
theorem fin_sub (a b : Fin p) : (a - b).val = (a.val + pN - b.val) % pN := by
  have h := fin_lt b
  have e : (a - b).val = (pN - b.val + a.val) % pN := (Fin.sub_def a b ▸ rfl : (a - b).val = (p - b.val + a.val) % p).trans (by rw [show (p - b.val + a.val) = (pN - b.val + a.val) from congrArg (fun m => m - b.val + a.val) p_eq]; exact congrArg _ p_eq)
  rw [e]
  congr 1
  omega
theorem pow_swap (x a b m m' : Nat) (h : a = b) (h' : m = m') : x ^ a % m = x ^ b % m' := by subst h h'; rfl
theorem h1_pN : pN - 2 = h1 := by decide
theorem fin_inv (a : Fin p) : a.val ^ (pN - 2) % pN = (inv a).val := (pow_swap _ _ _ _ _ h1_pN p_eq.symm).trans (inv_val a).symm

theorem fAdd {w0 w : World} (h : Hid (BB w0 w)) (a b : Fin p) : Calls Try.prog 19 #[fs a, fs b] w fun e w' => e = .returned (fs (a + b)) ∧ Hid (BB w0 w') :=
  (refAdd_any a.val b.val (fin_256 a) (fin_256 b) w).mono fun _ _ k => ⟨k.1.trans (by unfold fs; rw [fin_add]), Lib.hid (h.out.go k.2)⟩
theorem fSub {w0 w : World} (h : Hid (BB w0 w)) (a b : Fin p) : Calls Try.prog 21 #[fs a, fs b] w fun e w' => e = .returned (fs (a - b)) ∧ Hid (BB w0 w') :=
  (refSub_any a.val b.val (fin_256 a) (Nat.le_of_lt (fin_lt b)) w).mono fun _ _ k => ⟨k.1.trans (by unfold fs; rw [fin_sub]), Lib.hid (h.out.go k.2)⟩
theorem fMul {w0 w : World} (h : Hid (BB w0 w)) (a b : Fin p) : Calls Try.prog 23 #[fs a, fs b] w fun e w' => e = .returned (fs (a * b)) ∧ Hid (BB w0 w') :=
  (refMul_any a.val b.val (fin_256 a) (fin_256 b) w).mono fun _ _ k => ⟨k.1.trans (by unfold fs; rw [fin_mul]), Lib.hid (h.out.go k.2)⟩
theorem fInv {w0 w : World} (h : Hid (BB w0 w)) (a : Fin p) : Calls Try.prog 25 #[fs a] w fun e w' => e = .returned (fs (inv a)) ∧ Hid (BB w0 w') :=
  (refInv_any a.val (fin_256 a) w).mono fun _ _ k => ⟨k.1.trans (by unfold fs; rw [fin_inv]), Lib.hid (h.out.go k.2)⟩
theorem fs_one : Value.string (le32 1) = fs 1 := by unfold fs; rw [show (1 : Fin p).val = 1 by decide]
theorem fs_nought : Value.string (le32 0) = fs 0 := by unfold fs; rw [show (0 : Fin p).val = 0 by decide]
theorem fOne {w0 w : World} (h : Hid (BB w0 w)) : Calls Try.prog 26 #[.int .i64 1] w fun e w' => e = .returned (fs 1) ∧ Hid (BB w0 w') :=
  (small_any 1 (by decide) w).mono fun _ _ k => ⟨k.1.trans (by rw [fs_one]), Lib.hid (h.out.go k.2)⟩
theorem fNought {w0 w : World} (h : Hid (BB w0 w)) : Calls Try.prog 26 #[.int .i64 0] w fun e w' => e = .returned (fs 0) ∧ Hid (BB w0 w') :=
  (small_any 0 (by decide) w).mono fun _ _ k => ⟨k.1.trans (by rw [fs_nought]), Lib.hid (h.out.go k.2)⟩
/-- The number that 32 bytes tell, the topmost bit left out. -/
def xF (g : Nat → Nat) : Fin p := ⟨leN g 32 % 57896044618658097711785492504343953926634992332820282019728792003956564819968 % pN, Nat.lt_of_lt_of_eq (Nat.mod_lt _ (by decide)) p_eq.symm⟩
theorem fOf {w0 w : World} (h : Hid (BB w0 w)) (g : Nat → Nat) (hg : ∀ j, j < 32 → g j < 256) : Calls Try.prog 15 #[.string (bstr g 32)] w fun e w' => e = .returned (fs (xF g)) ∧ Hid (BB w0 w') :=
  (refOf_any g hg w).mono fun _ _ k => ⟨k.1.trans (by unfold fs xF; rfl), Lib.hid (h.out.go k.2)⟩
theorem fBit {w0 w : World} (h : Hid (BB w0 w)) (g : Nat → Nat) (hg : ∀ j, j < 32 → g j < 256) (i : Nat) (hi : i ≤ 254) : Calls Try.prog 44 #[.string (bstr g 32), .int .i64 i] w fun e w' => e = .returned (.bool (cbit g i)) ∧ Hid (BB w0 w') :=
  (rbit_any g hg i hi w).mono fun _ _ k => ⟨k.1, k.2 ▸ h⟩

/-- The curve's number as text. -/
def kd (j : Nat) : Nat := if j = 0 then 65 else if j = 1 then 219 else 1
theorem conv3 (W : World) (b : Nat) (h : W.heap[b]? = some (.cells #[.int .u8 65, .int .u8 219, .int .u8 1] 5)) : (convert 29 9 (.slice (some ⟨b, 0, none⟩) 3 3)).run Try.prog W = .ok (.string (bstr kd 3)) W :=
  run_string_row (P := Try.prog) (off := 0) (n := 3) (g := kd) Try.underlying29 Try.underlying5 Try.underlying9 h 3 3 (by omega)
theorem conv29 (W : World) (b : Nat) (h : W.heap[b]? = some (.cells (vals .u8 29 fun _ => 0) 5)) : (convert 29 9 (.slice (some ⟨b, 0, none⟩) 29 29)).run Try.prog W = .ok (.string (bstr (fun _ => 0) 29)) W :=
  run_string_row (P := Try.prog) (off := 0) (n := 29) (g := fun _ => 0) Try.underlying29 Try.underlying5 Try.underlying9 h 29 29 (by omega)
theorem mkz29 (w : World) : (Instr.makeSlice 29 (.int .i64 29) (.int .i64 29)).run Try.prog w = .ok (.slice (some ⟨w.heap.size, 0, none⟩) 29 29) (w.alloc (.cells (vals .u8 29 fun _ => 0) 5)) := make29 29 (by decide) w
theorem kd_str : Value.string (bstr kd 3 ++ bstr (fun _ => 0) 29) = fs kF := by
  unfold fs
  rw [show kF.val = 121665 from rfl]
  refine congrArg Value.string (ByteArray.ext ?_)
  rw [ByteArray.data_append]
  apply Array.ext'
  simp only [bstr, le32, Array.toList_append]
  decide
theorem fMulK {w0 w : World} (h : Hid (BB w0 w)) (b : Fin p) : Calls Try.prog 23 #[.string (bstr kd 3 ++ bstr (fun _ => 0) 29), fs b] w fun e w' => e = .returned (fs (kF * b)) ∧ Hid (BB w0 w') := by
  rw [kd_str]
  exact fMul h kF b
theorem BB.alloc {w0 w : World} (h : Hid (BB w0 w)) (o : Obj) : Hid (BB w0 (w.alloc o)) := h.out.go (by go_grown)
theorem BB.drew {w0 w : World} (h : Hid (BB w0 w)) : Hid (BB w0 w.drew) := h.out.go (by go_grown)
end Go.Proofs.Ytikmghmapmlebaa
