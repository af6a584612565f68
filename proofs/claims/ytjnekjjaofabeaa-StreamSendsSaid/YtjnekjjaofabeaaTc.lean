/-
  A row's argument []Push, opened.
-/
import Derived.Test.YtjnekjjaofabeaaT
import Derived.Test.YtjnekjjaofabeaaZk
namespace Go.Proofs.Ytjnekjjaofabeaa
open Go.ChangeShapes Go.ChangeMaps Go.WideShapes Go.ChangeAt Go.RowKit Go.Rh
section
variable {H : Type} {enc : TypeId × Value → H}
set_option maxRecDepth 100000 in
theorem trod_piece {W : World} {sp : Nat → Bool} {hd : Bool} {b0 fuel : Nat} {c0 c1 c2 : Value} {x : DataW H × List MemPlace} (h : DataW.trod enc Try.prog W b0 sp hd fuel 57 [c0, c1, c2] = some x) : ∃ p : Pc, [c0, c1, c2] = p.cells := by
  obtain ⟨y0, y1, y2, n', _, _, t0, t1, t2⟩ := Deep.trod_struct3 Try.underlying57 h
  obtain ⟨k0, e0, _, _⟩ := DataW.trod_int Try.underlying3 t0
  obtain ⟨k1, e1, _, _⟩ := DataW.trod_string Try.underlying9 t1
  obtain ⟨k2, e2, _⟩ := DataW.trod_bool Try.underlying4 t2
  obtain rfl : c0 = .int .i64 k0 := by have e : [c0] = [Value.int .i64 k0] := e0; simpa using e
  obtain rfl : c1 = .string k1 := by have e : [c1] = [Value.string k1] := e1; simpa using e
  obtain rfl : c2 = .bool k2 := by have e : [c2] = [Value.bool k2] := e2; simpa using e
  exact ⟨⟨k0, k1.data.toList, k2⟩, by unfold Pc.cells; rw [← S8_of_data]⟩
set_option maxRecDepth 100000 in
theorem trod_push {W : World} {sp : Nat → Bool} {hd : Bool} {b0 fuel : Nat} {cs : List Value} {x : DataW H × List MemPlace} (hl : cs.length = 7) (h : DataW.trod enc Try.prog W b0 sp hd fuel 59 cs = some x) : ∃ v : Ph, cs = v.cells.toList ∧ v.N ≤ 9223372036854775807 := by
  obtain ⟨xs, n', _, _, _, hxl, hf⟩ := DataW.trod_struct Try.underlying59 h
  obtain ⟨c0, c1, c2, c3, c4, c5, c6, rfl⟩ : ∃ c0 c1 c2 c3 c4 c5 c6, cs = [c0, c1, c2, c3, c4, c5, c6] := by
    match cs, hl with
    | [c0, c1, c2, c3, c4, c5, c6], _ => exact ⟨_, _, _, _, _, _, _, rfl⟩
  obtain ⟨y0, y1, y2, y3, y4, rfl⟩ : ∃ y0 y1 y2 y3 y4, xs = [y0, y1, y2, y3, y4] := by
    match xs, hxl with
    | [y0, y1, y2, y3, y4], _ => exact ⟨_, _, _, _, _, rfl⟩
  have t0 := hf 0 _ rfl
  have t1 := hf 1 _ rfl
  have t2 := hf 2 _ rfl
  have t3 := hf 3 _ rfl
  have t4 := hf 4 _ rfl
  obtain ⟨k0, e0, _, _⟩ := DataW.trod_int Try.underlying3 t0
  obtain ⟨k1, e1, _, hw⟩ := DataW.trod_int Try.underlying3 t1
  obtain ⟨k2, e2, _, _⟩ := DataW.trod_string Try.underlying9 t2
  obtain ⟨k3, e3, _⟩ := DataW.trod_bool Try.underlying4 t3
  obtain ⟨p, e4⟩ := trod_piece (c0 := c4) (c1 := c5) (c2 := c6) t4
  obtain rfl : c0 = .int .i64 k0 := by have e : [c0] = [Value.int .i64 k0] := e0; simpa using e
  obtain rfl : c1 = .int .i64 k1 := by have e : [c1] = [Value.int .i64 k1] := e1; simpa using e
  obtain rfl : c2 = .string k2 := by have e : [c2] = [Value.string k2] := e2; simpa using e
  obtain rfl : c3 = .bool k3 := by have e : [c3] = [Value.bool k3] := e3; simpa using e
  obtain ⟨rfl, rfl, rfl⟩ : c4 = .int .i64 p.off ∧ c5 = .string (S8 p.d) ∧ c6 = .bool p.fin := by unfold Pc.cells at e4; simpa using e4
  refine ⟨⟨k0, k1, k2.data.toList, k3, p⟩, by unfold Ph.cells; rw [← S8_of_data], ?_⟩
  unfold Lit.wf at hw
  rw [Bool.and_eq_true, decide_eq_true_eq, decide_eq_true_eq] at hw
  have hm : IntKind.i64.max = 9223372036854775807 := by rfl
  rw [← hm]
  exact hw.2
set_option maxRecDepth 100000 in
theorem open_pushes {r : Reach} {b0 : Nat} {W : World} {v : Value} {d : DataW H} {ps : List MemPlace} (hval : Value.okWide Try.prog W r b0 51 v) (hd : DataW.Trod enc Try.prog W 0 (fun _ => true) true 51 v d ps) :
    ∃ A n c X, v = .slice A n c ∧ n ≤ maxLen ∧ n ≤ c ∧ Pushes W A n X ∧ ∀ j, j < n → (X j).N ≤ 9223372036854775807 := by
  obtain ⟨a0, len, cap, rfl⟩ := okWide_slice Try.underlying51 hval
  obtain ⟨fuel, hf⟩ := hd
  rcases Deep.open_slice Try.underlying51 hf with ⟨hcs, hx⟩ | ⟨a, len', cap', m, n, D, Pl, hcs, _, hl, hm, hmm, _, hx⟩
  · simp [Value.cells] at hcs
    obtain ⟨rfl, rfl, rfl⟩ := hcs
    exact ⟨_, _, _, fun _ => ⟨0, 0, [], false, ⟨0, [], false⟩⟩, rfl, Nat.zero_le _, Nat.le_refl _, fun h => absurd h (by omega), fun j hj => absurd hj (by omega)⟩
  · simp [Value.cells] at hcs
    obtain ⟨rfl, rfl, rfl⟩ := hcs
    simp only [if_true] at hmm
    subst hmm
    have hc3 : Try.prog.cellsOf 59 = 7 := by kernel_rfl
    rw [hc3] at hx
    have one : ∀ j, j < m → ∃ x : Ph, (∀ i, i < 7 → W.cell? ((a.add (j * 7)).add i) = x.cells[i]?) ∧ x.N ≤ 9223372036854775807 := by
      intro j hj
      obtain ⟨cs', h1, h2⟩ := hx j hj
      obtain ⟨_, hlen, hcell⟩ := World.cells?_some h1
      obtain ⟨x, rfl, hN⟩ := trod_push hlen h2
      exact ⟨x, fun i hi => by rw [hcell i hi]; simp, hN⟩
    have : Inhabited Ph := ⟨⟨0, 0, [], false, ⟨0, [], false⟩⟩⟩
    obtain ⟨F, hF⟩ := Deep.choose_lt (n := m) (p := fun j (x : Ph) => (∀ i, i < 7 → W.cell? ((a.add (j * 7)).add i) = x.cells[i]?) ∧ x.N ≤ 9223372036854775807) one
    refine ⟨_, _, _, fun j => F j, rfl, by omega, hl, fun h0 => ?_, fun j hj => (hF j (by omega)).2⟩
    obtain ⟨b, off, spot⟩ := a
    have h00 := (hF 0 (by omega)).1 0 (by omega)
    have h00' : W.cell? (((⟨b, off, spot⟩ : Addr).add (0 * 7)).add 0) = some (.int .i64 (F 0).what) := h00
    have hspot : spot = none := by simpa [Addr.add] using World.cell?_spot h00'
    subst hspot
    have hp : ∀ j i, ((⟨b, off, none⟩ : Addr).add (j * 7)).add i = ⟨b, off + j * 7 + i, none⟩ := fun j i => by rw [add_plain, add_plain]
    refine ⟨b, off, rfl, ?_, fun j hj i hi => ?_⟩
    · rw [hp] at h00'
      exact cell_block h00'
    · have h := (hF j (by omega)).1 i hi
      rw [hp] at h
      exact h
end
end Go.Proofs.Ytjnekjjaofabeaa
