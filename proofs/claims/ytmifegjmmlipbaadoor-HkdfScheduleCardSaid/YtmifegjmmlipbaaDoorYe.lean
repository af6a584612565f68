/-
  Arguments of any type read as they did behind a call that leaves the old blocks as they were; a [][]byte argument, opened.
-/
import Derived.Test.YtmifegjmmlipbaaDoorYb
import Derived.ChangeStays
import Derived.MapPlaces
import Derived.Deep.Slices
namespace Go.Rh
open Go.RowKit Go.ChangeShapes Go.WideShapes
section
variable {H : Type} {enc : TypeId × Value → H} {P : Program} {w : World} {base : Nat} {spare : Nat → Bool} {held : Bool}
theorem row_in {a : Addr} {n : Nat} {cs : List Value} (h : w.cells? base a n = some cs) (h0 : 0 < n) : a.block < w.heap.size := by
  obtain ⟨_, hl, hc⟩ := World.cells?_some h
  have h1 := hc 0 h0
  rw [List.getElem?_eq_getElem (by omega)] at h1
  have := World.block_lt_of_cell? w _ h1
  simpa [block_add] using this
theorem mem_row_in {a : Addr} {n : Nat} {p : MemPlace} (hp : p ∈ MemPlace.row a n) (h : 0 < n → a.block < w.heap.size) : p.block < w.heap.size := by
  obtain ⟨i, hi, rfl⟩ := MemPlace.mem_row.1 hp
  exact h (by omega)
theorem trodStep_in {r : TypeId → List Value → Option (DataW H × List MemPlace)} (hr : ∀ t cs x, r t cs = some x → ∀ p ∈ x.2, p.block < w.heap.size) {t : TypeId} {cs : List Value} {x : DataW H × List MemPlace}
    (h : DataW.trodStep enc P w base spare held r t cs = some x) : ∀ p ∈ x.2, p.block < w.heap.size := by
  unfold DataW.trodStep at h
  split at h
  case h_1 => cases h; simp
  case h_2 => split at h <;> cases h; simp
  case h_3 => split at h <;> cases h; simp
  case h_4 => split at h <;> cases h; simp
  case h_5 => cases h; simp
  case h_6 e a _ =>
    simp only [Option.map_eq_some_iff, Option.bind_eq_some_iff] at h
    obtain ⟨y, ⟨cs', hc, hy⟩, rfl⟩ := h
    intro p hp
    rcases List.mem_append.1 hp with hp | hp
    · exact mem_row_in hp (row_in hc)
    · exact hr _ _ _ hy p hp
  case h_7 => cases h; simp
  case h_8 e a len cap _ =>
    simp only at h
    split at h
    · simp only [Option.map_eq_some_iff, Option.bind_eq_some_iff] at h
      obtain ⟨elems, he, rest, hrest, rfl⟩ := h
      have one : ∀ y ∈ elems ++ rest, ∃ i, (w.cells? base (a.add (i * P.cellsOf e)) (P.cellsOf e)).bind (r e) = some y := by
        intro y hy
        rcases List.mem_append.1 hy with hy | hy
        · obtain ⟨i, _, hi⟩ := mapM_mem_of he y hy
          exact ⟨i, hi⟩
        · split at hrest
          · obtain ⟨j, _, hj⟩ := mapM_mem_of hrest y hy
            exact ⟨len + j, hj⟩
          · simp at hrest
            subst hrest
            simp at hy
      intro p hp
      rcases List.mem_append.1 hp with hp | hp
      · refine mem_row_in hp fun h0 => ?_
        have h1 : 0 < elems.length + rest.length := Nat.pos_of_ne_zero (fun e0 => by rw [e0] at h0; simp at h0)
        have h2 : 0 < P.cellsOf e := Nat.pos_of_ne_zero (fun e0 => by rw [e0] at h0; simp at h0)
        obtain ⟨y, hy⟩ := List.exists_mem_of_length_pos (l := elems ++ rest) (by simpa using h1)
        obtain ⟨i, hi⟩ := one y hy
        simp only [Option.bind_eq_some_iff] at hi
        obtain ⟨cs', hc, _⟩ := hi
        simpa [block_add] using row_in hc h2
      · obtain ⟨y, hy, hpy⟩ := List.mem_flatMap.1 hp
        obtain ⟨i, hi⟩ := one y hy
        simp only [Option.bind_eq_some_iff] at hi
        obtain ⟨cs', _, hy'⟩ := hi
        exact hr _ _ _ hy' p hpy
    · cases h
  case h_9 =>
    split at h
    · simp only [Option.map_eq_some_iff] at h
      obtain ⟨xs, hx, rfl⟩ := h
      intro p hp
      obtain ⟨y, hy, hpy⟩ := List.mem_flatMap.1 hp
      obtain ⟨f, _, hf⟩ := mapM_mem_of hx y hy
      exact hr _ _ _ hf p hpy
    · cases h
  case h_10 =>
    split at h
    · simp only [Option.map_eq_some_iff] at h
      obtain ⟨xs, hx, rfl⟩ := h
      intro p hp
      obtain ⟨y, hy, hpy⟩ := List.mem_flatMap.1 hp
      obtain ⟨f, _, hf⟩ := mapM_mem_of hx y hy
      exact hr _ _ _ hf p hpy
    · cases h
  case h_11 => cases h; simp
  case h_12 =>
    split at h
    · cases h; simp
    · simp only [Option.map_eq_some_iff] at h
      obtain ⟨y, hy, rfl⟩ := h
      exact fun p hp => hr _ _ _ hy p hp
    · cases h
  case h_13 => cases h; simp
  case h_14 k e b _ =>
    split at h
    · rename_i es clock hb
      split at h
      · simp only [Option.bind_eq_some_iff] at h
        obtain ⟨entries, he, hd⟩ := h
        split at hd
        · have hx := Option.some.inj hd
          subst hx
          intro p hp
          rcases List.mem_cons.1 hp with rfl | hp
          · exact (Array.getElem?_eq_some_iff.1 hb).1
          · obtain ⟨y, hy, hpy⟩ := List.mem_flatMap.1 hp
            obtain ⟨x, _, hx⟩ := mapM_mem_of he y hy
            simp only [Option.bind_eq_some_iff] at hx
            obtain ⟨key, _, hz⟩ := hx
            split at hz
            · simp only [Option.map_eq_some_iff] at hz
              obtain ⟨q, hq, rfl⟩ := hz
              exact hr _ _ _ hq p hpy
            · cases hz
        · cases hd
      · cases h
    · cases h
  case h_15 => cases h; simp
  case h_16 => cases h; simp
  case h_17 => cases h; simp
  case h_18 => split at h <;> cases h; simp
  case h_19 => split at h <;> cases h; simp
  case h_20 => split at h <;> cases h; simp
  case h_21 => cases h
theorem trod_in : ∀ (n : Nat) (t : TypeId) (cs : List Value) (x : DataW H × List MemPlace), DataW.trod enc P w base spare held n t cs = some x → ∀ p ∈ x.2, p.block < w.heap.size := by
  intro n
  induction n with
  | zero => intro t cs x h; simp [DataW.trod] at h
  | succ n ih =>
    intro t cs x h
    rw [DataW.trod_step] at h
    exact trodStep_in ih h
theorem same_below {w' : World} (hb : Below w.heap.size w w') {p : MemPlace} (hp : p.block < w.heap.size) : w.sameAt w' p := by
  cases p with
  | cell b off => exact World.cell?_of_block (hb.block b hp)
  | map b => exact hb.block b hp
/-- A row's arguments, behind a call that leaves the old blocks as they were. -/
theorem trodAll_behind {T : TypeId → Prop} {w' : World} {sp : Nat → Bool} (K : Kids P T) (hz : ∀ {t e : TypeId}, T t → P.underlying t = some (.slice e) → 0 < P.cellsOf e) (hb : Below w.heap.size w w') :
    ∀ {ts : List TypeId} {vs : List Value} {ds : List (DataW H)} {ps : List MemPlace}, (∀ t ∈ ts, T t) → DataW.TrodAll enc P w base (fun _ => true) true ts vs ds ps → (∀ q ∈ ps, sp q.block = true) → DataW.TrodAll enc P w' base sp true ts vs ds ps
  | [], [], [], _, _, h, _ => h
  | t :: ts, v :: vs, d :: ds, _, hT, ⟨p, q, ⟨fuel, hf⟩, h2, e⟩, hs => by
    subst e
    refine ⟨p, q, ⟨fuel, DataW.trod_stays K hz (fun h => by cases h) (hT t (by simp)) hf (fun x hx => same_below hb (trod_in _ _ _ _ hf x hx)) (fun x hx => hs x (by simp [hx]))⟩, trodAll_behind K hz hb (fun t ht => hT t (by simp [ht])) h2 (fun x hx => hs x (by simp [hx])), rfl⟩
  | [], _ :: _, _, _, _, h, _ => absurd h (by simp [DataW.TrodAll])
  | [], [], _ :: _, _, _, h, _ => absurd h (by simp [DataW.TrodAll])
  | _ :: _, [], _, _, _, h, _ => absurd h (by simp [DataW.TrodAll])
  | _ :: _, _ :: _, [], _, _, h, _ => absurd h (by simp [DataW.TrodAll])
end
end Go.Rh
namespace Go.Proofs.YtmifegjmmlipbaaDoor
open Go.ChangeShapes Go.WideShapes Go.ChangeAt Go.RowKit Go.Rh Sha
section
variable {H : Type} {enc : TypeId × Value → H}
theorem kids : Kids Tryd.prog (· < Tryd.prog.types.size) := kids_rows (by kernel_rfl) (by kernel_rfl)
theorem sliceCells : ((List.range Tryd.prog.types.size).all fun t => match Tryd.prog.underlying t with
    | some (.slice e) => decide (0 < Tryd.prog.cellsOf e)
    | _ => true) = true := by kernel_rfl
theorem slice_pos {t e : TypeId} (hT : t < Tryd.prog.types.size) (ht : Tryd.prog.underlying t = some (.slice e)) : 0 < Tryd.prog.cellsOf e := by
  have := List.all_eq_true.1 sliceCells t (List.mem_range.2 hT)
  rw [ht] at this
  exact of_decide_eq_true this
theorem args_behind {w w' : World} {sp : Nat → Bool} {ts : List TypeId} {vs : List Value} {ds : List (DataW H)} {ps : List MemPlace} (hb : Below w.heap.size w w') (hT : (ts.all (· < Tryd.prog.types.size)) = true)
    (h : DataW.TrodAll enc Tryd.prog w 0 (fun _ => true) true ts vs ds ps) (hs : ∀ q ∈ ps, sp q.block = true) : DataW.TrodAll enc Tryd.prog w' 0 sp true ts vs ds ps :=
  trodAll_behind kids (fun hT ht => slice_pos hT ht) hb (fun t ht => of_decide_eq_true (List.all_eq_true.1 hT t ht)) h hs
/-- Bytes, as they were read. -/
theorem bs_of_trod {W : World} {fuel : Nat} {cs : List Value} {x : DataW H × List MemPlace} (hf : DataW.trod enc Tryd.prog W 0 (fun _ => true) true fuel 22 cs = some x) :
    ∃ v l, cs = [v] ∧ Bs (fun k => k < W.heap.size) W v l ∧ l.length ≤ maxLen ∧ (l = [] ∨ ∃ e s, x.1 = .slice e s ∧ l.length = e.length) := by
  rcases open_ints Tryd.underlying22 Tryd.underlying5 cellsOf5 hf with ⟨hcs, hx⟩ | ⟨a, len', cap', zs, hcs, _, hl, hm, hz, hx, hcell, hwz⟩
  · subst hcs
    refine ⟨_, [], rfl, ⟨none, 0, 0, rfl, rfl, Nat.le_refl _, fun h => absurd h (by omega)⟩, Nat.zero_le _, .inl rfl⟩
  · subst hcs
    simp only [if_true] at hz
    refine ⟨_, toB (zs.take len'), rfl, ⟨_, _, _, rfl, by simp [toB]; omega, hl, fun h0 => ?_⟩, by simp [toB]; omega, .inr ⟨lits .u8 (zs.take len'), lits .u8 (zs.drop len'), by rw [hx], by simp [toB, lits]⟩⟩
    obtain ⟨b, off, rfl, hc⟩ := ints_at hcell (by omega)
    refine ⟨b, off, rfl, cell_block (hc 0 (by omega)), fun j hj => ?_⟩
    rw [hc j (by omega), toB_at hwz (by omega) hj]
/-- A [][]byte argument, opened. -/
def Bss (W : World) (A : Option Addr) (n : Nat) (X : Nat → Value) (L : Nat → List UInt8) : Prop :=
  0 < n → ∃ b off, A = some ⟨b, off, none⟩ ∧ b < W.heap.size ∧ ∀ j, j < n → W.cell? ⟨b, off + j, none⟩ = some (X j) ∧ Bs (fun k => k < W.heap.size) W (X j) (L j)
theorem open_bss {r : Reach} {b0 : Nat} {W : World} {v : Value} {d : DataW H} {ps : List MemPlace} (hval : Value.okWide Tryd.prog W r b0 30 v) (hd : DataW.Trod enc Tryd.prog W 0 (fun _ => true) true 30 v d ps) :
    ∃ A n c X L, v = .slice A n c ∧ n ≤ maxLen ∧ Bss W A n X L := by
  obtain ⟨a0, len, cap, rfl⟩ := okWide_slice Tryd.underlying30 hval
  obtain ⟨fuel, hf⟩ := hd
  rcases Deep.open_slice1 Tryd.underlying30 (by kernel_rfl) hf with ⟨hcs, hx⟩ | ⟨a, len', cap', m, n, V, D, Pl, hcs, _, hl, hm, hmm, _, hx⟩
  · simp [Value.cells] at hcs
    obtain ⟨rfl, rfl, rfl⟩ := hcs
    exact ⟨_, _, _, fun _ => undef, fun _ => [], rfl, Nat.zero_le _, fun h => absurd h (by omega)⟩
  · simp [Value.cells] at hcs
    obtain ⟨rfl, rfl, rfl⟩ := hcs
    simp only [if_true] at hmm
    subst hmm
    obtain ⟨L, hL⟩ := Deep.choose_lt (n := m) (p := fun j l => Bs (fun k => k < W.heap.size) W (V j) l) (fun j hj => by
      obtain ⟨v, l, h1, h2, _⟩ := bs_of_trod (hx j hj).2
      obtain rfl : V j = v := by simpa using h1
      exact ⟨l, h2⟩)
    refine ⟨_, _, _, V, L, rfl, by omega, fun h0 => ?_⟩
    obtain ⟨b, off, spot⟩ := a
    have hspot : spot = none := by simpa [Addr.add] using World.cell?_spot (hx 0 (by omega)).1
    subst hspot
    refine ⟨b, off, rfl, cell_block (a := ⟨b, off + 0, none⟩) (by rw [← add_plain]; exact (hx 0 (by omega)).1), fun j hj => ⟨by rw [← add_plain]; exact (hx j (by omega)).1, hL j (by omega)⟩⟩
end
end Go.Proofs.YtmifegjmmlipbaaDoor
