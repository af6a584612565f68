/-
  A row's []byte argument: opened to the list it reads as, shut again behind a call that leaves the old blocks as they were.
-/
import Derived.Test.YtmifegjmmlipbaaDoorYa
namespace Go.Proofs.YtmifegjmmlipbaaDoor
open Go.ChangeShapes Go.WideShapes Go.ChangeAt Go.RowKit Go.Rh Sha
section
variable {H : Type} {enc : TypeId × Value → H}

theorem cellsOf5 : Tryd.prog.cellsOf 5 = 1 := by kernel_rfl
theorem bytesOf5 : Tryd.prog.bytesOf 5 = 1 := by kernel_rfl
def toB (zs : List Int) : List UInt8 := zs.map fun n => UInt8.ofNat n.toNat
theorem toB_at {zs : List Int} (hw : ∀ n ∈ zs, (Lit.int .u8 n).wf = true) {len : Nat} (hl : len ≤ zs.length) {j : Nat} (hj : j < len) : ub (at_ (toB (zs.take len)) j) = zs.getD j 0 := by
  have h1 : j < (toB (zs.take len)).length := by simp [toB]; omega
  rw [at_get h1]
  have h2 : zs[j]'(by omega) ∈ zs := List.getElem_mem _
  have h3 := hw _ h2
  have h4 : 0 ≤ zs[j]'(by omega) ∧ zs[j]'(by omega) < 256 := by
    have := bounds_u8 h3
    exact ⟨this.1, by omega⟩
  simp only [toB, List.getElem_map, List.getElem_take, ub, List.getD_eq_getElem?_getD, List.getElem?_eq_getElem (show j < zs.length by omega), Option.getD_some]
  rw [UInt8.toNat_ofNat']
  omega

/-- A []byte argument, opened. -/
theorem open_bs {r : Reach} {b0 : Nat} {W : World} {v : Value} {d : DataW H} {ps : List MemPlace} (hval : Value.okWide Tryd.prog W r b0 22 v) (hd : DataW.Trod enc Tryd.prog W 0 (fun _ => true) true 22 v d ps) :
    ∃ l, Bs (fun k => k < W.heap.size) W v l ∧ (∀ W', Below W.heap.size W W' → ∀ sp : Nat → Bool, (∀ q ∈ ps, sp q.block = true) → DataW.Trod enc Tryd.prog W' 0 sp true 22 v d ps) ∧
      (l = [] ∨ ∃ e s, d = .slice e s ∧ l.length = e.length) := by
  obtain ⟨a0, len, cap, rfl⟩ := okWide_slice Tryd.underlying22 hval
  obtain ⟨fuel, hf⟩ := hd
  rcases open_ints Tryd.underlying22 Tryd.underlying5 cellsOf5 hf with ⟨hcs, hx⟩ | ⟨a, len', cap', zs, hcs, _, hl, hm, hz, hx, hcell, hwz⟩
  · simp [Value.cells] at hcs
    obtain ⟨rfl, rfl, rfl⟩ := hcs
    simp only [Prod.mk.injEq] at hx
    obtain ⟨rfl, rfl⟩ := hx
    refine ⟨[], ⟨none, 0, 0, rfl, rfl, Nat.le_refl _, fun h => absurd h (by omega)⟩, fun W' _ sp _ => ⟨1, ?_⟩, .inl rfl⟩
    rw [DataW.trod_step]
    unfold DataW.trodStep
    simp only [Tryd.underlying22]
    simp [Value.cells]
  · simp [Value.cells] at hcs
    obtain ⟨rfl, rfl, rfl⟩ := hcs
    simp only [Prod.mk.injEq] at hx
    obtain ⟨rfl, rfl⟩ := hx
    simp only [if_true] at hz
    refine ⟨toB (zs.take len), ⟨_, _, _, rfl, by simp [toB]; omega, hl, fun h0 => ?_⟩, fun W' hb sp hsp => ⟨2, ?_⟩, .inr ⟨_, _, rfl, by simp [toB, lits]⟩⟩
    · obtain ⟨b, off, rfl, hc⟩ := ints_at hcell (by omega)
      refine ⟨b, off, rfl, cell_block (hc 0 (by omega)), fun j hj => ?_⟩
      rw [hc j (by omega), toB_at hwz (by omega) hj]
    · have hz' : zs.length = (if sp a.block then cap else len) := by
        by_cases hs : sp a.block = true
        · simp [hs, hz]
        · have h0 : zs.length = 0 := by
            apply Nat.eq_zero_of_not_pos
            intro hp
            exact hs (hsp (.cell a.block (a.off + 0)) (MemPlace.mem_row.2 ⟨0, hp, rfl⟩))
          simp [hs]; omega
      exact shut_ints 0 Tryd.underlying22 Tryd.underlying5 cellsOf5 (Nat.zero_le _) hl hm hz' (fun i hi => by
        have := hcell i hi
        exact (World.cell?_of_block (hb.block _ (by have := cell_block this; simpa [block_add] using this))).trans this) hwz
end
end Go.Proofs.YtmifegjmmlipbaaDoor
