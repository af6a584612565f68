/-
  The doors of one end: Allow, Grant, NewDoors; no doors at all.
-/
import Derived.Test.YtpaodflocbfghaaFa
namespace Go.Proofs.Ytpaodflocbfghaa
open Go.RowKit Go.Rh Go.Maps

theorem allow_any {w : World} {d g : Nat} {S : DS} {n : Int} (h : Door w d g S) :
    Calls Try.prog 9 #[.pointer (some ⟨d, 0, none⟩), .int .i64 n] w fun e w' => e = .returned (.tuple #[]) ∧ Door w' d g { S with may := max S.may (min n 1099511627776) } ∧ Keep w w' (fun k => k = d) := by
  have c3 : w.cell? ⟨d, 3, none⟩ = some (.int .i64 S.may) := h.cell 3
  have f3 : w.frozen? ⟨d, 3, none⟩ = false := h.free 3
  have H := Lib.hid h
  clear h
  go_enter Try.func9, Try.ntmps9
  go_wp2
  all_goals
    go_end0
    refine ⟨rfl, H.out.put (S' := { S with may := max S.may (min n 1099511627776) }) ?_ rfl ⟨rfl, rfl, rfl, rfl⟩⟩
    simp [dcells]; omega
theorem grant_no {w : World} {d g : Nat} {S : DS} (h : Door w d g S) (h1 : S.most ≤ S.count - S.left) (h2 : 0 ≤ S.left) (h3 : S.left ≤ 1099511627776) (h4 : 0 ≤ S.count) (h5 : S.count ≤ 1099511627776) :
    Calls Try.prog 19 #[.pointer (some ⟨d, 0, none⟩)] w fun e w' => e = .returned (.tuple #[.int .i64 S.count, .bool false]) ∧ ∃ n, w' = w.drewN n := by
  have c1 : w.cell? ⟨d, 1, none⟩ = some (.int .i64 S.most) := h.cell 1
  have c5 : w.cell? ⟨d, 5, none⟩ = some (.int .i64 S.count) := h.cell 5
  have c7 : w.cell? ⟨d, 7, none⟩ = some (.int .i64 S.left) := h.cell 7
  have e1 : IntKind.i64.wrap (S.count - S.left) = S.count - S.left := IntWalk.i64_in _ (by omega)
  have hlt : decide (S.count - S.left < S.most) = false := by simp; omega
  clear h
  go_enter Try.func19, Try.ntmps19
  go_wp2
  go_quiet (fail)
  go_wp2
  go_ret2
  exact ⟨rfl, ⟨_, rfl⟩⟩
theorem grant_yes {w : World} {d g : Nat} {S : DS} (h : Door w d g S) (h1 : S.count - S.left < S.most) (h2 : 0 ≤ S.left) (h3 : S.left ≤ 1099511627776) (h4 : 0 ≤ S.count) (h5 : S.count ≤ 1099511627776) (h6 : 0 ≤ S.most) (h7 : S.most ≤ 1099511627776) :
    Calls Try.prog 19 #[.pointer (some ⟨d, 0, none⟩)] w fun e w' => e = .returned (.tuple #[.int .i64 (S.left + S.most), .bool true]) ∧ Door w' d g { S with count := S.left + S.most } ∧ Keep w w' (fun k => k = d) := by
  have c1 : w.cell? ⟨d, 1, none⟩ = some (.int .i64 S.most) := h.cell 1
  have c5 : w.cell? ⟨d, 5, none⟩ = some (.int .i64 S.count) := h.cell 5
  have c7 : w.cell? ⟨d, 7, none⟩ = some (.int .i64 S.left) := h.cell 7
  have f5 : w.frozen? ⟨d, 5, none⟩ = false := h.free 5
  have e1 : IntKind.i64.wrap (S.count - S.left) = S.count - S.left := IntWalk.i64_in _ (by omega)
  have e2 : IntKind.i64.wrap (S.left + S.most) = S.left + S.most := IntWalk.i64_in _ (by omega)
  have hlt : decide (S.count - S.left < S.most) = true := by simp; omega
  have H := Lib.hid h
  clear h
  go_enter Try.func19, Try.ntmps19
  go_wp2
  go_quiet (fail)
  go_wp2
  obtain ⟨w2, hw2⟩ : ∃ w2, w2 = w.drewN nq := ⟨_, rfl⟩
  rw [← hw2]
  have HW : Hid (w2.heap = w.heap ∧ w2.os = w.os ∧ w2.tape = w.tape ∧ w2.output = w.output) := by subst hw2; exact ⟨rfl, rfl, rfl, rfl⟩
  have H2 := H.out.mem HW.out.1
  have d1 : w2.cell? ⟨d, 1, none⟩ = some (.int .i64 S.most) := H2.cell 1
  have d7 : w2.cell? ⟨d, 7, none⟩ = some (.int .i64 S.left) := H2.cell 7
  have d5 : w2.cell? ⟨d, 5, none⟩ = some (.int .i64 S.count) := H2.cell 5
  have g5 : w2.frozen? ⟨d, 5, none⟩ = false := H2.free 5
  have HH2 := Lib.hid H2
  clear H2 hw2 c1 c5 c7 f5 H
  go_still_tail 12, (by kernel_rfl)
  change wpList _ _ _ _ _ w2.drew
  go_wp2
  go_ret2
  obtain ⟨h1, h2⟩ := HH2.out.put (w' := (w2.drew).setCell ⟨d, 5, none⟩ (.int .i64 (S.left + S.most))) (S' := { S with count := S.left + S.most }) rfl rfl ⟨rfl, rfl, rfl, rfl⟩
  exact ⟨rfl, h1, (keep_same (Keep.refl w _) HW.out).trans h2 (fun _ _ => id)⟩
theorem mat_nil (w : World) (o : Obj) : MAt ((w.alloc (.map #[] 0)).alloc o) w.heap.size [] :=
  ⟨.map [], (World.ownsMap_made w Try.prog 3 _).alloc o, isMap_empty, fun n _ => by simp [DataW.atKey]⟩
theorem door_made (w : World) (m : Int) : Door ((w.alloc (.map #[] 0)).alloc (.cells (dcells ⟨0, m, 0, 0, 0, m, 0, []⟩ w.heap.size) 59)) (w.heap.size + 1) w.heap.size ⟨0, m, 0, 0, 0, m, 0, []⟩ :=
  ⟨by omega, heap_new' _ _ _ (by simp), mat_nil w _⟩
theorem doors_bad {w : World} {s : Bool} {m : Int} (h : m < 1 ∨ 32 < m) : Calls Try.prog 13 #[.bool s, .int .i64 m] w fun e w' => e = .returned (.tuple #[.pointer none, .int .i64 1]) ∧ w' = w := by
  rcases h with h | h
  · go_enter Try.func13, Try.ntmps13
    go_wp2
    go_ret2
    exact ⟨rfl, rfl⟩
  · have h' : ¬ m < 1 := by omega
    go_enter Try.func13, Try.ntmps13
    go_wp2
    go_ret2
    exact ⟨rfl, rfl⟩
theorem doors_new {w : World} {s : Bool} {m : Int} (h1 : 1 ≤ m) (h2 : m ≤ 32) : Calls Try.prog 13 #[.bool s, .int .i64 m] w fun e w' => e = .returned (.tuple #[.pointer (some ⟨w.heap.size + 1, 0, none⟩), .int .i64 0]) ∧ Below w.heap.size w w' ∧ Door w' (w.heap.size + 1) w.heap.size ⟨if s then 1 else 0, m, 0, 0, 0, m, 0, []⟩ := by
  have hmk := @run_makeMap Try.prog
  cases s
  · go_enter Try.func13, Try.ntmps13
    go_wp2
    go_ret2
    exact ⟨rfl, ((Below.refl _ _).alloc (Nat.le_refl _) _).alloc (by simp) _, door_made w m⟩
  · go_enter Try.func13, Try.ntmps13
    go_wp2
    go_ret2
    exact ⟨rfl, ((Below.refl _ _).alloc (Nat.le_refl _) _).alloc (by simp) _, ⟨by omega, heap_new' _ _ _ (by simp), mat_nil w _⟩⟩
theorem nil_allow {w : World} {n : Int} : Calls Try.prog 9 #[.pointer none, .int .i64 n] w fun e w' => e = .returned (.tuple #[]) ∧ w' = w := by
  go_enter Try.func9, Try.ntmps9
  go_wp2
  go_end0
  exact ⟨rfl, rfl⟩
theorem nil_come {w : World} {n : Int} : Calls Try.prog 10 #[.pointer none, .int .i64 n] w fun e w' => e = .returned (.tuple #[.slice none 0 0, .int .i64 1]) ∧ w' = w := by
  go_enter Try.func10, Try.ntmps10
  go_wp2
  go_ret2
  exact ⟨rfl, rfl⟩
theorem nil_leave {w : World} {n : Int} : Calls Try.prog 12 #[.pointer none, .int .i64 n] w fun e w' => e = .returned (.int .i64 1) ∧ w' = w := by
  go_enter Try.func12, Try.ntmps12
  go_wp2
  go_ret
  exact ⟨rfl, rfl⟩
theorem nil_grant {w : World} : Calls Try.prog 19 #[.pointer none] w fun e w' => e = .returned (.tuple #[.int .i64 0, .bool false]) ∧ w' = w := by
  go_enter Try.func19, Try.ntmps19
  go_wp2
  go_ret2
  exact ⟨rfl, rfl⟩
theorem closed_any {w : World} : Calls Try.prog 8 #[] w fun e w' => e = .returned (.pointer none) ∧ w' = w := by
  go_enter Try.func8, Try.ntmps8
  go_wp2
  go_ret
  exact ⟨rfl, rfl⟩
end Go.Proofs.Ytpaodflocbfghaa
