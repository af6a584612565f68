/-
  Two slices of numbers held against one another; the chapter's example of streams.
-/
import Derived.Test.YtpaodflocbfghaaFi
import Derived.Test.YtpaodflocbfghaaFj
namespace Go.Proofs.Ytpaodflocbfghaa
open Go.RowKit Go.Rh Go.Maps

/-- Nothing but the order's tape was asked. -/
def Same (w w' : World) : Prop := w'.heap = w.heap ∧ w'.os = w.os ∧ w'.tape = w.tape ∧ w'.output = w.output
theorem Same.refl (w : World) : Same w w := ⟨rfl, rfl, rfl, rfl⟩
theorem Same.trans {a b c : World} (h : Same a b) (k : Same b c) : Same a c := ⟨k.1.trans h.1, k.2.1.trans h.2.1, k.2.2.1.trans h.2.2.1, k.2.2.2.trans h.2.2.2⟩
theorem Same.cell {w w' : World} (h : Same w w') (a : Addr) : w'.cell? a = w.cell? a := World.cell?_of_block (by rw [h.1])
theorem Same.keep {w w' : World} (h : Same w w') (T : Nat → Prop) : Keep w w' T := keep_same (Keep.refl _ _) h

set_option maxRecDepth 100000 in
theorem ints_eq {ok ok' : Nat → Prop} {w : World} {x y : Value} {l : List Int} (hx : Bs ok w x l) (hy : Bs ok' w y l) (hl : l.length ≤ 1125899906842624) :
    Calls Try.prog 17 #[x, y] w fun e w' => e = .returned (.bool true) ∧ Same w w' := by
  obtain ⟨A, q, c, rfl, hq, hc, hb⟩ := hx
  obtain ⟨A', q', c', rfl, hq', hc', hb'⟩ := hy
  obtain rfl : q = q' := by omega
  have HB := Lib.hid hb
  have HB' := Lib.hid hb'
  have hql : (q : Int) ≤ 1125899906842624 := by omega
  clear hb hb' hq hq' hc hc' hl
  go_enter Try.func17, Try.ntmps17
  go_wp2
  go_loopw [5] (fun i wr => ∃ k : Nat, k ≤ q ∧ i = .int .i64 k ∧ Hid (Same w wr)) (fun i _ => q - (intOf i).toNat)
  case atStart => exact ⟨0, Nat.zero_le _, rfl, Same.refl w⟩
  case round =>
    obtain ⟨k, hkq, rfl, hs⟩ := hrel
    by_cases hlt : k < q
    · obtain ⟨g, off, rfl, _, hx⟩ := HB.out (by omega)
      obtain ⟨g', off', rfl, _, hx'⟩ := HB'.out (by omega)
      have hx := (hs.out.cell ⟨g, off + k, none⟩).trans (hx k hlt)
      have hx' := (hs.out.cell ⟨g', off' + k, none⟩).trans (hx' k hlt)
      have hlt' : (k : Int) < q := by omega
      have e1 : IntKind.i64.wrap ((k : Int) + 1) = k + 1 := IntWalk.i64_in _ (by omega)
      go_wp2
      go_quiet (fail)
      go_wp2
      go_roundw
      case rel => exact ⟨k + 1, hlt, by go_num, hs.out.trans ⟨rfl, rfl, rfl, rfl⟩⟩
      case measure => simp [intOf]; omega
    · obtain rfl : k = q := by omega
      have hge : decide ((k : Int) < k) = false := by simp
      go_wp2
      go_ret
      exact ⟨rfl, hs.out⟩

theorem bs_block (w : World) (l : List Int) : Bs (fun k => k = w.heap.size) (w.alloc (.cells (bv l).toArray 3)) (.slice (some ⟨w.heap.size, 0, none⟩) l.length l.length) l :=
  ⟨_, _, _, rfl, rfl, Nat.le_refl _, fun _ => ⟨_, 0, rfl, rfl, fun j hj => by
    rw [cell_of_row _ w.heap.size _ (bv l).toArray 3 _ (heap_alloc_new w _), Nat.zero_add, List.getElem?_toArray]; exact bv_at hj⟩⟩

def cS0 : DS := ⟨1, 2, 0, 0, 0, 2, 0, []⟩
def cS1 : DS := ⟨1, 2, 0, 0, 2, 2, 0, []⟩
def cS2 : DS := ⟨1, 2, 0, 0, 2, 2, 1, [0]⟩
theorem ok0 : cS0.Ok := ⟨by decide, by decide, by decide, by decide, by decide, by decide, by decide, by decide⟩
theorem ok1 : cS1.Ok := ⟨by decide, by decide, by decide, by decide, by decide, by decide, by decide, by decide⟩
theorem ok2 : cS2.Ok := ⟨by decide, by decide, by decide, by decide, by decide, by decide, by decide, by decide⟩

set_option maxRecDepth 100000 in
theorem counts_any (w : World) : Calls Try.prog 11 #[] w fun e w' => e = .returned (.bool true) ∧ Below w.heap.size w w' := by
  go_enter Try.func11, Try.ntmps11
  go_wp2_with fail
  refine (doors_new (s := true) (m := 2) (by decide) (by decide)).mono ?_
  rintro e w1 ⟨rfl, hb1, hd1⟩
  have HB1 := Lib.hid hb1
  have HD1 : Hid (Door w1 (w.heap.size + 1) w.heap.size cS0) := hd1
  clear hb1 hd1
  go_wp2_with fail
  refine (come_any 4 HD1.out ok0).mono ?_
  rintro e w2 ⟨v2, rfl, ho2, hd2, hk2⟩
  have hd2 : Door w2 (w.heap.size + 1) w.heap.size cS1 := hd2
  have ho2 : Own w2 w1.heap.size v2 [0, 4] := ho2
  have e0 : comeE cS0 4 = 0 := by decide
  rw [e0]
  have HD2 := Lib.hid hd2
  have HO2 := Lib.hid ho2
  have HK2 : Hid (Below w.heap.size w w2) := HB1.out.trans (hk2.below HB1.out.size (fun k hk e => by omega))
  have HN : Hid (w.heap.size + 1 < w1.heap.size) := HD1.out.lt
  clear hd2 ho2 hk2 HB1 HD1 e0
  go_wp2_with fail
  refine (come_any 8 HD2.out ok1).mono ?_
  rintro e w3 ⟨v3, rfl, ho3, hd3, hk3⟩
  have hd3 : Door w3 (w.heap.size + 1) w.heap.size cS1 := hd3
  have e0 : comeE cS1 8 = 11 := by decide
  rw [e0]
  have HD3 := Lib.hid hd3
  have HO3 : Hid (Own w3 w1.heap.size v2 [0, 4]) := HO2.out.keep hk3 (fun i hi e => by have := (HO2.out.lt i hi).1; have := HN.out; omega)
  have HK3 : Hid (Below w.heap.size w w3) := HK2.out.trans (hk3.below HK2.out.size (fun k hk e => by omega))
  clear hd3 hk3 ho3 HK2 HD2 HO2 e0
  go_wp2_with fail
  refine (leave_any 0 HD3.out ok1 (by decide)).mono ?_
  rintro e w4 ⟨rfl, hd4, hk4⟩
  have hd4 : Door w4 (w.heap.size + 1) w.heap.size cS2 := hd4
  have e0 : leaveE cS1 0 = 0 := by decide
  rw [e0]
  have HD4 := Lib.hid hd4
  have HO4 : Hid (Own w4 w1.heap.size v2 [0, 4]) := HO3.out.keep hk4 (fun i hi e => by have := (HO3.out.lt i hi).1; have := HN.out; omega)
  have HK4 : Hid (Below w.heap.size w w4) := HK3.out.trans (hk4.below HK3.out.size (fun k hk e => by omega))
  clear hd4 hk4 HK3 HD3 HO3 e0
  go_wp2_with fail
  refine (grant_any HD4.out ok2 (by decide) (by decide) (by decide)).mono ?_
  rintro e w5 ⟨rfl, hd5, hk5⟩
  have e0 : (grantS cS2).count = 3 := by decide
  have e1 : grantT cS2 = true := by decide
  rw [e0, e1]
  have HO5 : Hid (Own w5 w1.heap.size v2 [0, 4]) := HO4.out.keep hk5 (fun i hi e => by have := (HO4.out.lt i hi).1; have := HN.out; omega)
  have HK5 : Hid (Below w.heap.size w w5) := HK4.out.trans (hk5.below HK4.out.size (fun k hk e => by omega))
  clear hd5 hk5 HK4 HD4 HO4 e0 e1
  go_wp2_with fail
  refine (ints_eq (l := [0, 4]) (HO5.out.keep (S := fun _ => False) ((Keep.refl w5 _).alloc _) (fun _ _ => id)).bs (bs_block w5 [0, 4]) (by decide)).mono ?_
  rintro e w6 ⟨rfl, hs⟩
  have HS := Lib.hid hs
  clear hs
  go_wp2
  go_ret
  exact ⟨rfl, (HK5.out.alloc HK5.out.size _).trans ((HS.out.keep (fun _ => False)).below (by have := HK5.out.size; simp; omega) (fun _ _ h => h))⟩
end Go.Proofs.Ytpaodflocbfghaa
