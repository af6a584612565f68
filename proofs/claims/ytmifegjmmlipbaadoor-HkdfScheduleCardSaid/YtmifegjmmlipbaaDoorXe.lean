/-
  The program's Sum of bytes; its condition: not more than 2^46 of them.
-/
import Derived.Test.YtmifegjmmlipbaaDoorXd
namespace Go.Proofs.YtmifegjmmlipbaaDoor
open Go.RowKit Go.Rh Sha

set_option maxRecDepth 100000 in
set_option maxHeartbeats 0 in
theorem sum_any {w : World} {ok : Nat → Prop} {v : Value} {l : List UInt8} (hL : Laid w) (hv : Bs ok w v l) (hb : l.length ≤ 70368744177664) :
    Calls Tryd.prog 16 #[v] w fun e w' => e = .returned (.agg (B8 32 (sum l))) ∧ Below w.heap.size w w' := by
  have hv1 := hv.mono (ok' := fun k => k < w.heap.size) (fun i hi _ => hi)
  have hL1 : Laid (w.alloc (.cells Z32 24)) := hL.below ((Below.refl _ _).alloc (Nat.le_refl _) _) (Nat.le_refl _)
  have HV : Hid (Bs (fun k => k < w.heap.size) (w.alloc (.cells Z32 24)) v l) := hv1.keep (S := fun _ => False) ((Keep.refl _ _).alloc _) (fun _ _ => id)
  have HL1 := Lib.hid hL1
  have HL0 := Lib.hid hL
  obtain ⟨A, n, c, rfl, hn, hc, hbk⟩ := hv
  clear hv1 hL1 hL hn hc hbk
  go_enter Tryd.func16, Tryd.ntmps16
  have HNW := Lib.hid (new_any _ HL1.out)
  rw [show (w.alloc (.cells Z32 24)).heap.size = w.heap.size + 1 by simp] at HNW
  go_wp2_with fail
  refine HNW.out.mono ?_
  rintro e w1 ⟨rfl, hH1, hs1, hb1⟩
  have HH1 := Lib.hid hH1
  have HB1 := Lib.hid hb1
  have HL2 := Lib.hid (HL1.out.below hb1 (by simp))
  have HV2 : Hid (Bs (fun k => k < w.heap.size) w1 (.slice A n c) l) := HV.out.keep (S := fun _ => False) (Keep.of_below hb1 (by simp) _) (fun _ _ => id)
  have hs1' : w.heap.size + 1 + 1 ≤ w1.heap.size := by omega
  clear hH1 hb1 hs1
  go_wp2_with fail
  refine (write_any (m := l) (l := []) HL2.out HH1.out HV2.out (fun i hi => ⟨by omega, by simp⟩) (by simpa using hb) (by omega)).mono ?_
  rintro e w2 ⟨rfl, q2, hH2, hk2, _⟩
  have HH2 := Lib.hid hH2
  have HK2 := Lib.hid hk2
  have HL3 := Lib.hid (HL2.out.keep hk2 (fun e => e.elim (fun e => by have h0 := HL0.out.lt1; omega) (fun e => by cases e)) (fun e => e.elim (fun e => by have h0 := HL0.out.lt1; omega) (fun e => by cases e)))
  clear hH2 hk2
  go_wp2_with fail
  refine (hsum_any HL3.out HH2.out (by simpa using hb)).mono ?_
  rintro e w3 ⟨rfl, hb3⟩
  rw [List.nil_append]
  have hZ : w3.heap[w.heap.size]? = some (.cells Z32 24 (0, 0)) :=
    (hb3.block _ (by have := HK2.out.size; omega)).trans ((HK2.out.block _ (by omega) (by simp)).trans ((HB1.out.block _ (by omega)).trans (heap_alloc_new w _)))
  have HBL : Hid (Below w.heap.size w w3) := by
    have h1 : Below w.heap.size w w1 := ((Below.refl _ w).alloc (Nat.le_refl _) (.cells Z32 24)).trans (HB1.out.mono (by omega))
    have h2 : Below w.heap.size w1 w2 := HK2.out.below (by omega) (fun k hk => by simp; omega)
    exact (h1.trans h2).trans (hb3.mono (by have := HK2.out.size; omega))
  clear hb3
  go_wp2_with (refine wpList_store_row (by rfl) 24 _ _ (by rfl) w.heap.size _ (by rfl) (by rfl) 24 _ hZ (sz24.trans (by simp [B8])) (by simp [B8, Z32]) (vals_one _ _ _) ?_)
  refine bodyPost_ret (results_cell_row rfl _ _ _ 24 (B8 32 (sum l)) (0, 0) _ rfl (setRow_heap _ _ _ _ _ _ hZ) Tryd.underlying24 rfl (sz24.trans (by simp [B8]))) rfl ⟨rfl, below_setRow HBL.out (Nat.le_refl _) _⟩
end Go.Proofs.YtmifegjmmlipbaaDoor
