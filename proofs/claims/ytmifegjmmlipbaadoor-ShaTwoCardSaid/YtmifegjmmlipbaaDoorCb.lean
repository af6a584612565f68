/-
  ShaTwo: three hashes, written the same in other parts.
-/
import Derived.Test.YtmifegjmmlipbaaDoorCa
namespace Go.Proofs.YtmifegjmmlipbaaDoor
open Go.RowKit Go.Rh Sha
attribute [local go_sem] run_equalIn_sums

set_option maxRecDepth 100000 in
set_option maxHeartbeats 0 in
theorem shaTwo_small {w : World} {v x : Value} {l m : List UInt8} {k : Int} (hL : Laid w) (hv : Bs (fun k => k < w.heap.size) w v l) (hx : Bs (fun k => k < w.heap.size) w x m) (hb : l.length ≤ 3000) (hb2 : m.length ≤ 3000) : Calls Tryd.prog 6 #[v, .int .i64 k, x] w fun e w' => e = .returned (.bool true) ∧ Below w.heap.size w w' := by
  have HS := Lib.hid (St.start hL)
  have HV := Lib.hid hv
  have HX := Lib.hid hx
  have hk : 0 ≤ IntKind.u64.wrap k := u64_ge k
  obtain ⟨A, n, c, rfl, hn, hc, hbk⟩ := hv
  obtain ⟨A', n', c', rfl, hn', hc', hbk'⟩ := hx
  have hn5 : (n : Int) ≤ 3000 := by omega
  have hn6 : (n' : Int) ≤ 3000 := by omega
  have HN := Lib.hid hn
  have HN' := Lib.hid hn'
  clear hc hbk hL hc' hbk' hn hn'
  obtain ⟨i0, hi0, hz0, hz1, hz2⟩ := info_parts info5
  obtain ⟨N, hN, hN1⟩ : ∃ N : Nat, IntKind.u64.wrap k % ((n : Int) + 1) = (N : Int) ∧ N ≤ n := by
    have h1 := Int.emod_nonneg (IntKind.u64.wrap k) (b := (n : Int) + 1) (by omega)
    have h2 := Int.emod_lt_of_pos (IntKind.u64.wrap k) (b := (n : Int) + 1) (by omega)
    exact ⟨(IntKind.u64.wrap k % ((n : Int) + 1)).toNat, by omega, by omega⟩
  obtain ⟨y1, hcut1, hy1⟩ := run_first (P := Tryd.prog) 22 i0 Tryd.underlying22 hi0 hz1 HV.out N (by rw [← HN.out]; exact hN1)
  obtain ⟨y2, hcut2, hy2⟩ := run_from (P := Tryd.prog) 22 i0 Tryd.underlying22 hi0 hz1 HV.out N (by rw [← HN.out]; exact hN1)
  have HY1 := Lib.hid hy1
  have HY2 := Lib.hid hy2
  clear hy1 hy2
  go_enter Tryd.func6, Tryd.ntmps6
  go_wp2_with fail
  refine (st_digests HS.out).mono ?_
  rintro e w1 ⟨rfl, hs⟩
  have HS1 := Lib.hid hs
  clear hs
  go_wp2_with fail
  refine (st_new HS1.out).mono ?_
  rintro e w2 ⟨a, rfl, -, -, hs⟩
  have HS2 := Lib.hid hs
  clear hs
  go_wp2_with fail
  refine (st_new HS2.out).mono ?_
  rintro e w3 ⟨b, rfl, -, -, hs⟩
  have HS3 := Lib.hid hs
  clear hs
  go_wp2_with fail
  refine (st_new HS3.out).mono ?_
  rintro e w4 ⟨d, rfl, -, -, hs⟩
  have HS4 := Lib.hid hs
  clear hs HS1 HS2 HS3
  go_wp2_with fail
  have HL2 : Hid (l.length ≤ 3000 ∧ m.length ≤ 3000) := ⟨hb, hb2⟩
  clear hb hb2
  refine (st_write_old HS4.out.up3 HV.out (by have := HL2.out; simp only [List.length_nil, List.length_append, List.length_take, List.length_drop]; omega)).mono ?_
  rintro e w5 ⟨rfl, q5, hs⟩
  have HS5 := Lib.hid hs
  clear hs HS4
  go_wp2_with fail
  refine (st_write_old HS5.out.swap HX.out (by have := HL2.out; simp only [List.length_nil, List.length_append, List.length_take, List.length_drop]; omega)).mono ?_
  rintro e w6 ⟨rfl, q6, hs⟩
  have HS6 := Lib.hid hs
  clear hs HS5
  go_wp2_with fail
  refine (st_write_old HS6.out.up3 HY1.out (by have := HL2.out; simp only [List.length_nil, List.length_append, List.length_take, List.length_drop]; omega)).mono ?_
  rintro e w7 ⟨rfl, q7, hs⟩
  have HS7 := Lib.hid hs
  clear hs HS6
  go_wp2_with fail
  refine (st_write_old HS7.out.swap HV.out (by have := HL2.out; simp only [List.length_nil, List.length_append, List.length_take, List.length_drop]; omega)).mono ?_
  rintro e w8 ⟨rfl, q8, hs⟩
  have HS8 := Lib.hid hs
  clear hs HS7
  go_wp2_with fail
  refine (st_write_old HS8.out.swap HY2.out (by have := HL2.out; simp only [List.length_nil, List.length_append, List.length_take, List.length_drop]; omega)).mono ?_
  rintro e w9 ⟨rfl, q9, hs⟩
  have HS9 := Lib.hid hs
  clear hs HS8
  go_wp2_with fail
  have HS10 := Lib.hid HS9.out.up3
  rw [List.nil_append, List.nil_append, List.nil_append, List.take_append_drop] at HS10
  clear HS9
  refine (st_sum HS10.out (by have := HL2.out; (try simp only [List.length_append, List.length_nil]); omega)).mono ?_
  rintro e w11 ⟨rfl, -, hs⟩
  have HS11 := Lib.hid hs
  clear hs HS10
  go_wp2_with fail
  refine (st_sum HS11.out.swap (by have := HL2.out; (try simp only [List.length_append, List.length_nil]); omega)).mono ?_
  rintro e w12 ⟨rfl, -, hs⟩
  have HS12 := Lib.hid hs
  clear hs HS11
  go_wp2_with fail
  refine (st_sum HS12.out.swap (by have := HL2.out; (try simp only [List.length_append, List.length_nil]); omega)).mono ?_
  rintro e w13 ⟨rfl, -, hs⟩
  have HS13 := Lib.hid hs
  clear hs HS12
  go_wp2_with fail
  refine (st_sum16 HS13.out (HS13.out.old HV.out) (by have := HL2.out; (try simp only [List.length_append, List.length_nil]); omega)).mono ?_
  rintro e w14 ⟨rfl, -, hs⟩
  have HS14 := Lib.hid hs
  clear hs HS13
  go_wp2_with fail
  refine (st_sum HS14.out.up3 (by have := HL2.out; (try simp only [List.length_append, List.length_nil]); omega)).mono ?_
  rintro e w15 ⟨rfl, -, hs⟩
  have HS15 := Lib.hid hs
  clear hs HS14
  obtain ⟨wa, hwa⟩ : ∃ wa, wa = w15.alloc (.cells #[] 5) := ⟨_, rfl⟩
  have HC0 : Hid (Ch w15 wa (.slice (some ⟨w15.heap.size, 0, none⟩) 0 0) []) := by rw [hwa]; exact Ch.lit w15
  have HWA := Lib.hid hwa
  clear hwa
  go_wp2_with (first
    | (at_builtin; rw [← HWA.out]; refine wpList_app (o := ⟨some 70, _, _, _, _, _⟩) (by rfl) (.tmp 68) (.tmp 69) (by rfl) (by rfl) (by rfl) HC0.out (HC0.out.old (HS15.out.old HX.out)) (by have := HL2.out; (try simp only [List.length_append, List.length_nil]); omega) ?_; intro A1 n1 c1 wb1 hn1 hc1 hk1; have HC1 := Lib.hid hc1; clear hc1 hn1 hk1)
    | (at_builtin; refine wpList_app (o := ⟨some 72, _, _, _, _, _⟩) (by rfl) (.tmp 70) (.tmp 71) (by rfl) (by rfl) (by rfl) HC1.out (HC1.out.old (HS15.out.old HV.out)) (by have := HL2.out; (try simp only [List.length_append, List.length_nil]); omega) ?_; intro A2 n2 c2 wb2 hn2 hc2 hk2; have HC2 := Lib.hid hc2; clear hc2 hn2 hk2))
  rw [List.nil_append] at HC2
  have HS16 := Lib.hid (HC2.out.st HS15.out)
  clear HC1 HC0 HWA
  refine (st_sum16 HS16.out HC2.out.bs (by have := HL2.out; (try simp only [List.length_append, List.length_nil]); omega)).mono ?_
  rintro e w17 ⟨rfl, -, hs⟩
  have HS17 := Lib.hid hs
  clear hs HS16 HC2 HS15
  go_wp2_with fail
  refine (st_len HS17.out.swap).mono ?_
  rintro e w18 ⟨rfl, rfl⟩
  rw [← HN.out]
  go_wp2_with fail
  refine (st_len HS17.out).mono ?_
  rintro e w19 ⟨rfl, rfl⟩
  rw [List.length_append, ← HN.out, ← HN'.out]
  have e1 : (↑(n' + n) : Int) = (n : Int) + n' := by omega
  rw [e1]
  clear e1
  go_wp2
  go_ret
  exact ⟨rfl, HS17.out.below⟩
set_option maxRecDepth 100000 in
theorem shaTwo_big {w : World} {v x : Value} {l m : List UInt8} {k : Int} {ok ok' : Nat → Prop} (hL : Laid w) (hv : Bs ok w v l) (hx : Bs ok' w x m) (hb : 3000 < l.length) (hb2 : l.length ≤ 140737488355328) : Calls Tryd.prog 6 #[v, .int .i64 k, x] w fun e w' => e = .returned (.bool true) ∧ Below w.heap.size w w' := by
  have HS := Lib.hid (St.start hL)
  obtain ⟨A, n, c, rfl, hn, hc, hbk⟩ := hv
  obtain ⟨A', n', c', rfl, hn', hc', hbk'⟩ := hx
  have hn5 : (3000 : Int) < n := by omega
  clear hc hbk hL hc' hbk' hn hn' hb hb2
  go_enter Tryd.func6, Tryd.ntmps6
  go_wp2_with fail
  refine (st_digests HS.out).mono ?_
  rintro e w1 ⟨rfl, hs⟩
  have HS1 := Lib.hid hs
  clear hs
  go_wp2_with fail
  refine (st_digests HS1.out).mono ?_
  rintro e w2 ⟨rfl, hs⟩
  have HS2 := Lib.hid hs
  clear hs
  go_wp2
  go_ret
  exact ⟨rfl, HS2.out.below⟩
set_option maxRecDepth 100000 in
theorem shaTwo_big2 {w : World} {v x : Value} {l m : List UInt8} {k : Int} {ok ok' : Nat → Prop} (hL : Laid w) (hv : Bs ok w v l) (hx : Bs ok' w x m) (hb : l.length ≤ 3000) (hm : 3000 < m.length) (hb2 : m.length ≤ 140737488355328) : Calls Tryd.prog 6 #[v, .int .i64 k, x] w fun e w' => e = .returned (.bool true) ∧ Below w.heap.size w w' := by
  have HS := Lib.hid (St.start hL)
  obtain ⟨A, n, c, rfl, hn, hc, hbk⟩ := hv
  obtain ⟨A', n', c', rfl, hn', hc', hbk'⟩ := hx
  have hn5 : (n : Int) ≤ 3000 := by omega
  have hn6 : (3000 : Int) < n' := by omega
  clear hc hbk hL hc' hbk' hn hn' hb hb2 hm
  go_enter Tryd.func6, Tryd.ntmps6
  go_wp2_with fail
  refine (st_digests HS.out).mono ?_
  rintro e w1 ⟨rfl, hs⟩
  have HS1 := Lib.hid hs
  clear hs
  go_wp2_with fail
  refine (st_digests HS1.out).mono ?_
  rintro e w2 ⟨rfl, hs⟩
  have HS2 := Lib.hid hs
  clear hs
  go_wp2
  go_ret
  exact ⟨rfl, HS2.out.below⟩
end Go.Proofs.YtmifegjmmlipbaaDoor
