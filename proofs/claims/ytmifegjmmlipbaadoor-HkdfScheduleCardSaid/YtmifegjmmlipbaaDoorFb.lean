/-
  The schedule: New, Mix, and the document's First, Mixed.
-/
import Derived.Test.YtmifegjmmlipbaaDoorFa
import Derived.Test.YtmifegjmmlipbaaDoorCi
namespace Sha
def nought32 : List UInt8 := List.replicate 32 0
def sFirst : List UInt8 := mac [] nought32
def nDer : List UInt8 := [100, 101, 114, 105, 118, 101, 100]
def mixed (sec m : List UInt8) : List UInt8 := mac (labR sec nDer (sum []) 32) (if m = [] then nought32 else m)
theorem mixed_length (sec m : List UInt8) : (mixed sec m).length = 32 := mac_length _ _
end Sha
namespace Go.Proofs.YtmifegjmmlipbaaDoor
open Go.RowKit Go.Rh Sha
attribute [local go_sem] S8_append S8_size

theorem run_make32 (w : World) : (Instr.makeSlice 22 (.int .i64 32) (.int .i64 32)).run Tryd.prog w = .ok (.slice (some ⟨w.heap.size, 0, none⟩) 32 32) (w.alloc (.cells (vals .u8 32 fun _ => 0) 5)) :=
  run_make_int Tryd.underlying22 info5 32 (by omega) (by omega) w
theorem bs_nought (w : World) : Bs (fun k => k = w.heap.size) (w.alloc (.cells (vals .u8 32 fun _ => 0) 5)) (.slice (some ⟨w.heap.size, 0, none⟩) 32 32) nought32 :=
  bs_row ((heap_alloc_new w _).trans (congrArg (fun r => some (Obj.cells r 5 (0, 0))) (zeros_row 32))) rfl
attribute [local go_sem] run_make32
set_option maxRecDepth 100000 in
theorem zeros_any (w : World) : Calls Tryd.prog 50 #[] w fun e w' => e = .returned (.string (S8 nought32)) ∧ Below w.heap.size w w' := by
  have hcv : (convert 22 9 (.slice (some ⟨w.heap.size, 0, none⟩) 32 32)).run Tryd.prog (w.alloc (.cells (vals .u8 32 fun _ => 0) 5)) = .ok (.string (S8 nought32)) (w.alloc (.cells (vals .u8 32 fun _ => 0) 5)) := run_string_bs Tryd.underlying22 Tryd.underlying5 Tryd.underlying9 (bs_nought w)
  have HB : Hid (Below w.heap.size w (w.alloc (.cells (vals .u8 32 fun _ => 0) 5))) := (Below.refl _ _).alloc (Nat.le_refl _) _
  go_enter Tryd.func50, Tryd.ntmps50
  go_wp2
  go_ret
  exact ⟨rfl, HB.out⟩
set_option maxRecDepth 100000 in
theorem sfirst_any (w : World) : Calls Tryd.prog 35 #[] w fun e w' => e = .returned (.string (S8 sFirst)) ∧ Below w.heap.size w w' := by
  obtain ⟨F, hF⟩ : ∃ F, F = sFirst := ⟨_, rfl⟩
  rw [← hF]
  have HF := Lib.hid hF
  clear hF
  go_enter Tryd.func35, Tryd.ntmps35
  go_wp2_with fail
  refine (zeros_any w).mono ?_
  rintro e w1 ⟨rfl, hb1⟩
  have HB1 := Lib.hid hb1
  clear hb1
  go_wp2_with fail
  refine (refmac_any [] nought32 (by decide) (by decide) w1).mono ?_
  rintro e w2 ⟨rfl, hb2⟩
  have HB2 : Hid (Below w.heap.size w w2) := HB1.out.trans (hb2.mono HB1.out.size)
  have hM : mac [] nought32 = F := HF.out.symm
  rw [hM]
  clear hb2 hM
  go_wp2
  go_ret
  exact ⟨rfl, HB2.out⟩
set_option maxRecDepth 100000 in
theorem snew_any {w : World} (hL : Laid w) : Calls Tryd.prog 34 #[] w fun e w' => ∃ h, e = .returned (.pointer (some ⟨h, 0, none⟩)) ∧ SchedAt w' w.heap.size h sFirst ∧ Below w.heap.size w w' := by
  have HS := Lib.hid (St.start hL)
  obtain ⟨F, hF⟩ : ∃ F, F = sFirst := ⟨_, rfl⟩
  rw [← hF]
  have HF := Lib.hid hF
  clear hF hL
  go_enter Tryd.func34, Tryd.ntmps34
  go_wp2_with fail
  refine (st_extract (HS.out.alloc _) (bs_nil _) (bs_nought w) (Nat.zero_le _) (by decide)).mono ?_
  rintro e w1 ⟨b, rfl, hb, hr, hbel, hs⟩
  have hM : mac [] nought32 = F := HF.out.symm
  rw [hM] at hr
  have HR := Lib.hid hr
  have HS1 := Lib.hid hs
  have HB : Hid (w.heap.size ≤ b) := by simp at hb; show _ ≤ _; omega
  have hFl : F.length = 32 := by rw [HF.out]; exact mac_length _ _
  have HFl := Lib.hid hFl
  clear hb hr hbel hs hM hFl
  go_wp2
  go_ret
  have hlt := heap_lt HR.out
  refine ⟨w1.heap.size, rfl, ⟨.slice (some ⟨b, 0, none⟩) 32 32, heap_alloc_new w1 _, ?_, HS1.out.size⟩, HS1.out.below.alloc HS1.out.size _⟩
  exact (bs_row ((heap_old _ _ _ hlt).trans HR.out) HFl.out).mono (fun i _ e => by subst e; exact ⟨HB.out, by omega⟩)
end Go.Proofs.YtmifegjmmlipbaaDoor
