/-
  A row's argument []int, opened.
-/
import Derived.Test.YtjnekjjaofabeaaT
import Derived.Test.YtjnekjjaofabeaaOq
namespace Go.Proofs.Ytjnekjjaofabeaa
open Go.ChangeShapes Go.ChangeMaps Go.WideShapes Go.ChangeAt Go.RowKit Go.Rh
section
variable {H : Type} {enc : TypeId × Value → H}
set_option maxRecDepth 100000 in
theorem open_ints {r : Reach} {b0 : Nat} {W : World} {v : Value} {d : DataW H} {ps : List MemPlace} (hval : Value.okWide Try.prog W r b0 39 v) (hd : DataW.Trod enc Try.prog W 0 (fun _ => true) true 39 v d ps) :
    ∃ A n c X, v = .slice A n c ∧ n ≤ maxLen ∧ Ints W A n X := by
  obtain ⟨a0, len, cap, rfl⟩ := okWide_slice Try.underlying39 hval
  obtain ⟨fuel, hf⟩ := hd
  rcases Deep.open_slice Try.underlying39 hf with ⟨hcs, hx⟩ | ⟨a, len', cap', m, n, D, Pl, hcs, _, hl, hm, hmm, _, hx⟩
  · simp [Value.cells] at hcs
    obtain ⟨rfl, rfl, rfl⟩ := hcs
    exact ⟨_, _, _, fun _ => 0, rfl, Nat.zero_le _, fun h => absurd h (by omega)⟩
  · simp [Value.cells] at hcs
    obtain ⟨rfl, rfl, rfl⟩ := hcs
    simp only [if_true] at hmm
    subst hmm
    have hc3 : Try.prog.cellsOf 3 = 1 := by kernel_rfl
    rw [hc3] at hx
    have one : ∀ j, j < m → ∃ x : Int, W.cell? ((a.add (j * 1)).add 0) = some (.int .i64 x) := by
      intro j hj
      obtain ⟨cs', h1, h2⟩ := hx j hj
      obtain ⟨_, hlen, hcell⟩ := World.cells?_some h1
      obtain ⟨k0, e0, _, _⟩ := DataW.trod_int Try.underlying3 h2
      obtain ⟨c0, rfl⟩ : ∃ c0, cs' = [c0] := by
        match cs', hlen with
        | [c0], _ => exact ⟨_, rfl⟩
      obtain rfl : c0 = .int .i64 k0 := by have e : [c0] = [Value.int .i64 k0] := e0; simpa using e
      exact ⟨k0, hcell 0 (by omega)⟩
    obtain ⟨F, hF⟩ := Deep.choose_lt (n := m) (p := fun j (x : Int) => W.cell? ((a.add (j * 1)).add 0) = some (.int .i64 x)) one
    refine ⟨_, _, _, fun j => F j, rfl, by omega, fun h0 => ?_⟩
    obtain ⟨b, off, spot⟩ := a
    have hspot : spot = none := by simpa [Addr.add] using World.cell?_spot (hF 0 (by omega))
    subst hspot
    have hp : ∀ j i, ((⟨b, off, none⟩ : Addr).add (j * 1)).add i = ⟨b, off + j * 1 + i, none⟩ := fun j i => by rw [add_plain, add_plain]
    refine ⟨b, off, rfl, ?_, fun j hj => ?_⟩
    · have h := hF 0 (by omega)
      rw [hp] at h
      exact cell_block h
    · have h := hF j (by omega)
      rw [hp] at h
      simpa using h
end
end Go.Proofs.Ytjnekjjaofabeaa
