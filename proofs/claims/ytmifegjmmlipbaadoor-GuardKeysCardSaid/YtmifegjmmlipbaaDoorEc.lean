/-
  The guard's keys: Of, the document's, and one as the other.
-/
import Derived.Test.YtmifegjmmlipbaaDoorEb
import Derived.Laws.ResultCell
namespace Go
theorem results_cell_tmp_row {P : Program} {fn : Func} {p q : Tmp} {ty : TypeId} (h : fn.results = #[.cell p ty, .tmp q]) (tmps : Array Value) (w : World) (g : Nat) (t : TypeId) (cs : Array Value) (fr : Nat × Nat) (d : TypeDesc)
    (hp : tmps.getD p undef = .pointer (some ⟨g, 0, none⟩)) (hg : w.heap[g]? = some (.cells cs t fr))
    (hu : P.underlying ty = some d) (hd : (match d with | .struct _ | .array _ _ => true | _ => false) = true) (hi : (P.info? ty).map (·.size) = some cs.size) :
    (results fn tmps).run P w = .ok (.tuple #[.agg cs, tmps.getD q undef]) w := by
  rw [results_cell_tmp h, hp]
  simp [asAddr, run_loadVar_row w g t ty cs fr d hg hu hd hi]
end Go
namespace Go.Proofs.YtmifegjmmlipbaaDoor
open Go.RowKit Go.Rh Sha
attribute [local go_sem] S8_append S8_size

def Zs : Array Value := #[.string (S8 []), .string (S8 []), .string (S8 [])]
def keysV (s : List UInt8) : Array Value := if s.length = 32 then #[.string (S8 (gl s nKey 16)), .string (S8 (gl s nIv 12)), .string (S8 (gl s nHp 16))] else Zs
theorem sz67 : (Tryd.prog.info? 67).map (·.size) = some 3 := by kernel_rfl
theorem sz64 : (Tryd.prog.info? 64).map (·.size) = some 3 := by kernel_rfl
theorem str3_one (a b c : ByteArray) : (#[Value.string a, .string b, .string c].all fun x => x.oneCell') = true := by simp [Value.oneCell']
theorem of_long {s : List UInt8} (h : ¬ s.length = 32) : keysV s = Zs := if_neg h

set_option maxRecDepth 100000 in
theorem of_any {B : Nat} {w0 w : World} {xs : List (Nat × Option Nat × List UInt8)} (H : St B w0 w xs) (s : List UInt8) (hb : s.length ≤ 70368744177664) :
    Calls Tryd.prog 40 #[.string (S8 s)] w fun e w' => e = .returned (.tuple #[.agg (keysV s), .int .i64 (argE (s.length = 32))]) ∧ Below w.heap.size w w' ∧ St B w0 w' xs := by
  have HS := Lib.hid H
  have HB := Lib.hid hb
  unfold keysV argE
  by_cases h : s.length = 32
  · rw [if_pos h, if_pos h]
    have hI : (s.length : Int) = 32 := by omega
    obtain ⟨wa, hwa⟩ : ∃ wa, wa = w.alloc (.cells Zs 67) := ⟨_, rfl⟩
    have HA : Hid (wa.heap[w.heap.size]? = some (.cells Zs 67 (0, 0))) := by rw [hwa]; exact heap_alloc_new w _
    have HSa : Hid (St B w0 wa xs) := by rw [hwa]; exact H.alloc _
    have HBa : Hid (Below w.heap.size w wa) := by rw [hwa]; exact (Below.refl _ _).alloc (Nat.le_refl _) _
    obtain ⟨v, w1, hcv, hown, hbel, _⟩ := run_bytes_S8 (P := Tryd.prog) Tryd.underlying9 Tryd.underlying22 Tryd.underlying5 s wa
    have HB1 : Hid (Below w.heap.size w w1) := HBa.out.trans (hbel.mono HBa.out.size)
    have HS1 := Lib.hid (HSa.out.step hbel)
    have HV1 := Lib.hid hown.bs
    have H1 : Hid (w1.heap[w.heap.size]? = some (.cells Zs 67 (0, 0))) := (hbel.block _ (heap_lt HA.out)).trans HA.out
    rw [hwa] at hcv
    have hcv2 : (convert 9 22 (.string (S8 s))).run Tryd.prog (w.alloc (.cells #[.string { data := #[] }, .string { data := #[] }, .string { data := #[] }] 67)) = .ok v w1 := hcv
    clear hcv
    obtain ⟨A, n, c, rfl, -, -, -⟩ := hown.bs
    have HH : Hid (B ≤ w.heap.size ∧ (∀ x ∈ xs, x.1 ≠ w.heap.size) ∧ ∀ x ∈ xs, ∀ i, x.2.1 = some i → i ≠ w.heap.size) := ⟨H.size, fun x hx e => by have := (H.hash x hx).places.1.2; omega, fun x hx i hi e => by have := ((H.hash x hx).places.2.1 i hi).2; omega⟩
    clear h H hb hown hbel hwa HA HSa HBa HS
    go_enter Tryd.func40, Tryd.ntmps40
    go_wp2_with fail
    refine (st_glabel (lab := nKey) (n := 16) HS1.out HV1.out HB.out).mono ?_
    rintro e w2 ⟨rfl, hb2, hs⟩
    have HS2 := Lib.hid hs
    have HB2 : Hid (Below w.heap.size w w2) := HB1.out.trans (hb2.mono HB1.out.size)
    have HV2 : Hid (Bs _ w2 (.slice A n c) s) := HV1.out.keep (S := fun _ => False) (Keep.of_below hb2 (Nat.le_refl _) _) (fun _ _ => id)
    have H2 : Hid (w2.heap[w.heap.size]? = some (.cells Zs 67 (0, 0))) := (hb2.block _ (heap_lt H1.out)).trans H1.out
    clear hs hb2 hcv2 HS1 HV1 H1 HB1
    go_wp2_with fail
    refine (st_glabel (lab := nIv) (n := 12) HS2.out HV2.out HB.out).mono ?_
    rintro e w3 ⟨rfl, hb3, hs⟩
    have HS3 := Lib.hid hs
    have HB3 : Hid (Below w.heap.size w w3) := HB2.out.trans (hb3.mono HB2.out.size)
    have HV3 : Hid (Bs _ w3 (.slice A n c) s) := HV2.out.keep (S := fun _ => False) (Keep.of_below hb3 (Nat.le_refl _) _) (fun _ _ => id)
    have H3 : Hid (w3.heap[w.heap.size]? = some (.cells Zs 67 (0, 0))) := (hb3.block _ (heap_lt H2.out)).trans H2.out
    clear hs hb3 HS2 HV2 H2 HB2
    go_wp2_with fail
    refine (st_glabel (lab := nHp) (n := 16) HS3.out HV3.out HB.out).mono ?_
    rintro e w4 ⟨rfl, hb4, hs⟩
    have HS4 := Lib.hid hs
    have HB4 : Hid (Below w.heap.size w w4) := HB3.out.trans (hb4.mono HB3.out.size)
    have h4 : w4.heap[w.heap.size]? = some (.cells Zs 67 (0, 0)) := (hb4.block _ (heap_lt H3.out)).trans H3.out
    clear hs hb4 HS3 HV3 H3 HB3
    have H4 := Lib.hid h4
    clear h4
    go_wp2_with (refine wpList_store_row (by rfl) 67 _ _ (by rfl) w.heap.size #[.string (S8 (gl s nKey 16)), .string (S8 (gl s nIv 12)), .string (S8 (gl s nHp 16))] (by rfl) (by rfl) 67 _ H4.out sz67 rfl (str3_one _ _ _) ?_)
    refine bodyPost_ret (results_cell_tmp_row (d := _) rfl _ _ w.heap.size 67 #[.string (S8 (gl s nKey 16)), .string (S8 (gl s nIv 12)), .string (S8 (gl s nHp 16))] (0, 0) rfl (setRow_heap _ _ _ _ _ _ H4.out) Tryd.underlying67 rfl sz67) rfl ⟨rfl, below_setRow HB4.out (Nat.le_refl _) _, ?_⟩
    exact HS4.out.keep5 (S := fun k => k = w.heap.size) (Keep.setRow (S := fun k => k = w.heap.size) (Keep.refl _ _) (.inr rfl) _) (fun i hi => by subst hi; exact HH.out.1) (fun x hx e => HH.out.2.1 x hx e) (fun x hx i hi e => HH.out.2.2 x hx i hi e)
  · rw [if_neg h, if_neg h]
    have hI : ((s.length : Int) != 32) = true := by simp; omega
    clear h H hb
    go_enter Tryd.func40, Tryd.ntmps40
    go_wp2
    refine bodyPost_ret (results_cell_tmp_row (d := _) rfl _ _ w.heap.size 67 Zs (0, 0) rfl (heap_alloc_new w _) Tryd.underlying67 rfl sz67) rfl ⟨rfl, (Below.refl _ _).alloc (Nat.le_refl _) _, HS.out.alloc _⟩
set_option maxRecDepth 100000 in
theorem docof_any {B : Nat} {w0 w : World} {xs : List (Nat × Option Nat × List UInt8)} (H : St B w0 w xs) (s : List UInt8) (hb : s.length ≤ 70368744177664) :
    Calls Tryd.prog 39 #[.string (S8 s)] w fun e w' => e = .returned (.tuple #[.agg (keysV s), .int .i64 (argE (s.length = 32))]) ∧ Below w.heap.size w w' ∧ St B w0 w' xs := by
  have HS := Lib.hid H
  have HB := Lib.hid hb
  unfold keysV argE
  by_cases h : s.length = 32
  · rw [if_pos h, if_pos h]
    have hI : (s.length : Int) = 32 := by omega
    obtain ⟨wa, hwa⟩ : ∃ wa, wa = w.alloc (.cells Zs 64) := ⟨_, rfl⟩
    have HA : Hid (wa.heap[w.heap.size]? = some (.cells Zs 64 (0, 0))) := by rw [hwa]; exact heap_alloc_new w _
    have HSa : Hid (St B w0 wa xs) := by rw [hwa]; exact H.alloc _
    have HBa : Hid (Below w.heap.size w wa) := by rw [hwa]; exact (Below.refl _ _).alloc (Nat.le_refl _) _
    obtain ⟨w1, rfl⟩ : ∃ w1, w1 = wa := ⟨_, rfl⟩
    have HB1 := HBa
    have HS1 := HSa
    have H1 := HA
    have HH : Hid (B ≤ w.heap.size ∧ (∀ x ∈ xs, x.1 ≠ w.heap.size) ∧ ∀ x ∈ xs, ∀ i, x.2.1 = some i → i ≠ w.heap.size) := ⟨H.size, fun x hx e => by have := (H.hash x hx).places.1.2; omega, fun x hx i hi e => by have := ((H.hash x hx).places.2.1 i hi).2; omega⟩
    have HWA := Lib.hid hwa
    clear h H hb hwa HA HSa HBa HS
    go_enter Tryd.func39, Tryd.ntmps39
    go_wp2_with fail
    refine (st_rlabel (w := w.alloc (.cells Zs 64)) (lab := nKey) (n := 16) (HWA.out ▸ HS1.out) HB.out).mono ?_
    rintro e w2 ⟨rfl, hb2, hs⟩
    rw [← HWA.out] at hb2
    have HS2 := Lib.hid hs
    have HB2 : Hid (Below w.heap.size w w2) := HB1.out.trans (hb2.mono HB1.out.size)
    have H2 : Hid (w2.heap[w.heap.size]? = some (.cells Zs 64 (0, 0))) := (hb2.block _ (heap_lt H1.out)).trans H1.out
    clear hs hb2 HS1 H1 HB1
    go_wp2_with fail
    refine (st_rlabel (lab := nIv) (n := 12) HS2.out HB.out).mono ?_
    rintro e w3 ⟨rfl, hb3, hs⟩
    have HS3 := Lib.hid hs
    have HB3 : Hid (Below w.heap.size w w3) := HB2.out.trans (hb3.mono HB2.out.size)
    have H3 : Hid (w3.heap[w.heap.size]? = some (.cells Zs 64 (0, 0))) := (hb3.block _ (heap_lt H2.out)).trans H2.out
    clear hs hb3 HS2 H2 HB2
    go_wp2_with fail
    refine (st_rlabel (lab := nHp) (n := 16) HS3.out HB.out).mono ?_
    rintro e w4 ⟨rfl, hb4, hs⟩
    have HS4 := Lib.hid hs
    have HB4 : Hid (Below w.heap.size w w4) := HB3.out.trans (hb4.mono HB3.out.size)
    have h4 : w4.heap[w.heap.size]? = some (.cells Zs 64 (0, 0)) := (hb4.block _ (heap_lt H3.out)).trans H3.out
    clear hs hb4 HS3 H3 HB3
    have H4 := Lib.hid h4
    clear h4
    go_wp2_with (refine wpList_store_row (by rfl) 64 _ _ (by rfl) w.heap.size #[.string (S8 (gl s nKey 16)), .string (S8 (gl s nIv 12)), .string (S8 (gl s nHp 16))] (by rfl) (by rfl) 64 _ H4.out sz64 rfl (str3_one _ _ _) ?_)
    refine bodyPost_ret (results_cell_tmp_row (d := _) rfl _ _ w.heap.size 64 #[.string (S8 (gl s nKey 16)), .string (S8 (gl s nIv 12)), .string (S8 (gl s nHp 16))] (0, 0) rfl (setRow_heap _ _ _ _ _ _ H4.out) Tryd.underlying64 rfl sz64) rfl ⟨rfl, below_setRow HB4.out (Nat.le_refl _) _, ?_⟩
    exact HS4.out.keep5 (S := fun k => k = w.heap.size) (Keep.setRow (S := fun k => k = w.heap.size) (Keep.refl _ _) (.inr rfl) _) (fun i hi => by subst hi; exact HH.out.1) (fun x hx e => HH.out.2.1 x hx e) (fun x hx i hi e => HH.out.2.2 x hx i hi e)
  · rw [if_neg h, if_neg h]
    have hI : ((s.length : Int) != 32) = true := by simp; omega
    clear h H hb
    go_enter Tryd.func39, Tryd.ntmps39
    go_wp2
    refine bodyPost_ret (results_cell_tmp_row (d := _) rfl _ _ w.heap.size 64 Zs (0, 0) rfl (heap_alloc_new w _) Tryd.underlying64 rfl sz64) rfl ⟨rfl, (Below.refl _ _).alloc (Nat.le_refl _) _, HS.out.alloc _⟩
set_option maxRecDepth 100000 in
theorem to_any (x y z : ByteArray) (w : World) :
    Calls Tryd.prog 45 #[.agg #[.string x, .string y, .string z]] w fun e w' => e = .returned (.agg #[.string x, .string y, .string z]) ∧ Below w.heap.size w w' := by
  go_enter Tryd.func45, Tryd.ntmps45
  go_wp2
  refine bodyPost_ret (results_cell_row (d := _) rfl _ _ (w.heap.size + 1) 67 #[.string x, .string y, .string z] (0, 0) rfl (heap2 w _ _).2 Tryd.underlying67 rfl sz67) rfl ⟨rfl, ((Below.refl _ _).alloc (Nat.le_refl _) _).alloc (by simp) _⟩
theorem keysV_form (s : List UInt8) : ∃ a b c, keysV s = #[.string (S8 a), .string (S8 b), .string (S8 c)] := by
  unfold keysV
  split
  · exact ⟨_, _, _, rfl⟩
  · exact ⟨[], [], [], rfl⟩
end Go.Proofs.YtmifegjmmlipbaaDoor
