/-
  HkdfLabel: the walk.
-/
import Derived.Test.YtmifegjmmlipbaaDoorDg
namespace Go.Proofs.YtmifegjmmlipbaaDoor
open Go.RowKit Go.Rh Sha
set_option maxRecDepth 100000 in
theorem hkdfLabel_big1 {w : World} {v0 : Value} {l0 : List UInt8} {ok0 : Nat → Prop} {l1 : List UInt8} {v2 : Value} {l2 : List UInt8} {ok2 : Nat → Prop} (hL : Laid w) (hv0 : Bs ok0 w v0 l0) (hv2 : Bs ok2 w v2 l2)  (hb0 : 3000 < l0.length) (hc0 : l0.length ≤ 140737488355328) : Calls Tryd.prog 12 #[v0, .string (S8 l1), v2] w fun e w' => e = .returned (.bool true) ∧ Below w.heap.size w w' := by
  have HS := Lib.hid (St.start hL)
  obtain ⟨A0, n0, c0, rfl, hn0, hx0, hbk0⟩ := hv0
  have hs1 : (S8 l1).size = l1.length := S8_size l1
  obtain ⟨A2, n2, c2, rfl, hn2, hx2, hbk2⟩ := hv2
  have hi0 : (3000 : Int) < n0 := by omega
  clear hL hn0 hx0 hbk0 hn2 hx2 hbk2 hb0 hc0
  go_enter Tryd.func12, Tryd.ntmps12
  go_wp2_with fail
  refine (st_expands HS.out).mono ?_
  rintro e w1 ⟨rfl, hs⟩
  have HS1 := Lib.hid hs
  clear hs
  go_wp2_with fail
  refine (st_expands HS1.out).mono ?_
  rintro e w2 ⟨rfl, hs⟩
  have HS2 := Lib.hid hs
  clear hs
  go_wp2
  go_ret
  exact ⟨rfl, HS2.out.below⟩
set_option maxRecDepth 100000 in
theorem hkdfLabel_big2 {w : World} {v0 : Value} {l0 : List UInt8} {ok0 : Nat → Prop} {l1 : List UInt8} {v2 : Value} {l2 : List UInt8} {ok2 : Nat → Prop} (hL : Laid w) (hv0 : Bs ok0 w v0 l0) (hv2 : Bs ok2 w v2 l2) (hb0 : l0.length ≤ 3000) (hb1 : 400 < l1.length) (hc1 : l1.length ≤ 140737488355328) : Calls Tryd.prog 12 #[v0, .string (S8 l1), v2] w fun e w' => e = .returned (.bool true) ∧ Below w.heap.size w w' := by
  have HS := Lib.hid (St.start hL)
  obtain ⟨A0, n0, c0, rfl, hn0, hx0, hbk0⟩ := hv0
  have hs1 : (S8 l1).size = l1.length := S8_size l1
  obtain ⟨A2, n2, c2, rfl, hn2, hx2, hbk2⟩ := hv2
  have hi0 : (n0 : Int) ≤ 3000 := by omega
  have hi1 : (400 : Int) < l1.length := by omega
  clear hL hn0 hx0 hbk0 hn2 hx2 hbk2 hb0 hb1 hc1
  go_enter Tryd.func12, Tryd.ntmps12
  go_wp2_with fail
  refine (st_expands HS.out).mono ?_
  rintro e w1 ⟨rfl, hs⟩
  have HS1 := Lib.hid hs
  clear hs
  go_wp2_with fail
  refine (st_expands HS1.out).mono ?_
  rintro e w2 ⟨rfl, hs⟩
  have HS2 := Lib.hid hs
  clear hs
  go_wp2
  go_ret
  exact ⟨rfl, HS2.out.below⟩
set_option maxRecDepth 100000 in
theorem hkdfLabel_big3 {w : World} {v0 : Value} {l0 : List UInt8} {ok0 : Nat → Prop} {l1 : List UInt8} {v2 : Value} {l2 : List UInt8} {ok2 : Nat → Prop} (hL : Laid w) (hv0 : Bs ok0 w v0 l0) (hv2 : Bs ok2 w v2 l2) (hb0 : l0.length ≤ 3000) (hb1 : l1.length ≤ 400) (hb2 : 400 < l2.length) (hc2 : l2.length ≤ 140737488355328) : Calls Tryd.prog 12 #[v0, .string (S8 l1), v2] w fun e w' => e = .returned (.bool true) ∧ Below w.heap.size w w' := by
  have HS := Lib.hid (St.start hL)
  obtain ⟨A0, n0, c0, rfl, hn0, hx0, hbk0⟩ := hv0
  have hs1 : (S8 l1).size = l1.length := S8_size l1
  obtain ⟨A2, n2, c2, rfl, hn2, hx2, hbk2⟩ := hv2
  have hi0 : (n0 : Int) ≤ 3000 := by omega
  have hi1 : (l1.length : Int) ≤ 400 := by omega
  have hi2 : (400 : Int) < n2 := by omega
  clear hL hn0 hx0 hbk0 hn2 hx2 hbk2 hb0 hb1 hb2 hc2
  go_enter Tryd.func12, Tryd.ntmps12
  go_wp2_with fail
  refine (st_expands HS.out).mono ?_
  rintro e w1 ⟨rfl, hs⟩
  have HS1 := Lib.hid hs
  clear hs
  go_wp2_with fail
  refine (st_expands HS1.out).mono ?_
  rintro e w2 ⟨rfl, hs⟩
  have HS2 := Lib.hid hs
  clear hs
  go_wp2
  go_ret
  exact ⟨rfl, HS2.out.below⟩

set_option maxRecDepth 100000 in
set_option maxHeartbeats 0 in
theorem hkdfLabel_small {w : World} {v x : Value} {l lab m : List UInt8} (hL : Laid w) (hv : Bs (fun k => k < w.heap.size) w v l) (hx : Bs (fun k => k < w.heap.size) w x m) (hb : l.length ≤ 3000) (h1 : lab.length ≤ 400) (hb2 : m.length ≤ 400) : Calls Tryd.prog 12 #[v, .string (S8 lab), x] w fun e w' => e = .returned (.bool true) ∧ Below w.heap.size w w' := by
  have HS := Lib.hid (St.start hL)
  have HV := Lib.hid hv
  have HX := Lib.hid hx
  obtain ⟨A, n, c, rfl, hn, hc, hbk⟩ := hv
  obtain ⟨A', n', c', rfl, hn', hc', hbk'⟩ := hx
  have hs8 : (S8 lab).size = lab.length := S8_size lab
  have hn5 : (n : Int) ≤ 3000 := by omega
  have hn6 : (n' : Int) ≤ 400 := by omega
  have hn7 : (lab.length : Int) ≤ 400 := by omega
  have HL2 : Hid (l.length ≤ 3000) := hb
  clear hc hbk hL hc' hbk' hn hn' hb hb2 h1
  go_enter Tryd.func12, Tryd.ntmps12
  go_wp2_with fail
  refine (st_expands HS.out).mono ?_
  rintro e w1 ⟨rfl, hs⟩
  have HS1 := Lib.hid hs
  clear hs
  go_wp2_with fail
  go_loopw [7] (fun s7 wr => ∃ k : Nat, s7 = .int .i64 k ∧ k ≤ 65 ∧ St w.heap.size w wr []) (fun s7 _ => 66 - (intOf s7).toNat)
  case atStart => exact ⟨0, rfl, by omega, HS1.out⟩
  case round =>
    clear HS1
    obtain ⟨k, rfl, hk, hs⟩ := hrel
    have HSr := Lib.hid hs
    clear hs
    by_cases hlt : (k : Int) < 50
    · have hcv1 : (convert 22 9 (.slice A n c)).run Tryd.prog wr = .ok (.string (S8 l)) wr := run_string_bs Tryd.underlying22 Tryd.underlying5 Tryd.underlying9 (HSr.out.old HV.out)
      have hcv2 : (convert 22 9 (.slice A' n' c')).run Tryd.prog wr = .ok (.string (S8 m)) wr := run_string_bs Tryd.underlying22 Tryd.underlying5 Tryd.underlying9 (HSr.out.old HX.out)
      go_wp2_with fail
      refine (doclabel_g l lab m k (by have := HL2.out; omega) wr).mono ?_
      rintro e w2 ⟨rfl, hb2⟩
      have HS2 := Lib.hid (HSr.out.step hb2)
      clear hb2 hcv1 hcv2 HSr
      go_wp2_with fail
      refine (label_g HS2.out (HS2.out.old HV.out) (HS2.out.old HX.out) (by have := HL2.out; omega)).mono ?_
      rintro e w3 ⟨A3, n3, c3, rfl, -, ho3, -, hs⟩
      have HS3 := Lib.hid hs
      obtain ⟨R, hR⟩ : ∃ R, R = labR l lab m k := ⟨_, rfl⟩
      obtain ⟨E, hE⟩ : ∃ E, E = labE lab m k := ⟨_, rfl⟩
      rw [← hR] at ho3 ⊢
      rw [← hE]
      have hcv3 : (convert 22 9 (.slice A3 n3 c3)).run Tryd.prog w3 = .ok (.string (S8 R)) w3 := run_string_bs Tryd.underlying22 Tryd.underlying5 Tryd.underlying9 ho3.bs
      clear hs ho3 hR hE HS2
      go_wp2
      go_roundw
      case measure => simp [intOf]; omega
      exact ⟨k + 16, by go_num, by omega, HS3.out⟩
    · have hlt' : (50 : Int) ≤ k := by omega
      clear hlt
      go_wp2_with fail
      refine (label_bad (w := wr) (k := -1) (.inl (by decide))).mono ?_
      rintro e w2 ⟨rfl, rfl⟩
      go_wp2_with fail
      refine (label_bad (k := 8161) (.inr (by decide))).mono ?_
      rintro e w3 ⟨rfl, rfl⟩
      go_wp2
      go_ret
      exact ⟨rfl, HSr.out.below⟩
end Go.Proofs.YtmifegjmmlipbaaDoor
