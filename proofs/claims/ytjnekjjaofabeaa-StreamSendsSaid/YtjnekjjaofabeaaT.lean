/-
  What a row asks behind a call that leaves the old blocks as they were; a row of calls, opened.
-/
import Derived.Test.YtjnekjjaofabeaaOg
import Derived.Test.YtjnekjjaofabeaaChecked
import Derived.ProofKit
import Derived.ChangeVars
import Derived.ChangeStays
import Derived.MapPlaces
import Derived.Deep.Slices
import Derived.Deep.Strs
import Derived.ChangeMaps5
namespace Go.Rh
open Go.RowKit Go.ChangeShapes Go.WideShapes
section
variable {H : Type} {enc : TypeId × Value → H} {P : Program} {w : World} {base : Nat} {spare : Nat → Bool} {held : Bool}
theorem row_in {a : Addr} {n : Nat} {cs : List Value} (h : w.cells? base a n = some cs) (h0 : 0 < n) : a.block < w.heap.size := by
  obtain ⟨_, hl, hc⟩ := World.cells?_some h
  have h1 := hc 0 h0
  rw [List.getElem?_eq_getElem (by omega)] at h1
  have := World.block_lt_of_cell? w _ h1
  simpa [block_add] using this
theorem mem_row_in {a : Addr} {n : Nat} {p : MemPlace} (hp : p ∈ MemPlace.row a n) (h : 0 < n → a.block < w.heap.size) : p.block < w.heap.size := by
  obtain ⟨i, hi, rfl⟩ := MemPlace.mem_row.1 hp
  exact h (by omega)
theorem trodStep_in {r : TypeId → List Value → Option (DataW H × List MemPlace)} (hr : ∀ t cs x, r t cs = some x → ∀ p ∈ x.2, p.block < w.heap.size) {t : TypeId} {cs : List Value} {x : DataW H × List MemPlace}
    (h : DataW.trodStep enc P w base spare held r t cs = some x) : ∀ p ∈ x.2, p.block < w.heap.size := by
  unfold DataW.trodStep at h
  split at h
  case h_1 => cases h; simp
  case h_2 => split at h <;> cases h; simp
  case h_3 => split at h <;> cases h; simp
  case h_4 => split at h <;> cases h; simp
  case h_5 => cases h; simp
  case h_6 e a _ =>
    simp only [Option.map_eq_some_iff, Option.bind_eq_some_iff] at h
    obtain ⟨y, ⟨cs', hc, hy⟩, rfl⟩ := h
    intro p hp
    rcases List.mem_append.1 hp with hp | hp
    · exact mem_row_in hp (row_in hc)
    · exact hr _ _ _ hy p hp
  case h_7 => cases h; simp
  case h_8 e a len cap _ =>
    simp only at h
    split at h
    · simp only [Option.map_eq_some_iff, Option.bind_eq_some_iff] at h
      obtain ⟨elems, he, rest, hrest, rfl⟩ := h
      have one : ∀ y ∈ elems ++ rest, ∃ i, (w.cells? base (a.add (i * P.cellsOf e)) (P.cellsOf e)).bind (r e) = some y := by
        intro y hy
        rcases List.mem_append.1 hy with hy | hy
        · obtain ⟨i, _, hi⟩ := mapM_mem_of he y hy
          exact ⟨i, hi⟩
        · split at hrest
          · obtain ⟨j, _, hj⟩ := mapM_mem_of hrest y hy
            exact ⟨len + j, hj⟩
          · simp at hrest
            subst hrest
            simp at hy
      intro p hp
      rcases List.mem_append.1 hp with hp | hp
      · refine mem_row_in hp fun h0 => ?_
        have h1 : 0 < elems.length + rest.length := Nat.pos_of_ne_zero (fun e0 => by rw [e0] at h0; simp at h0)
        have h2 : 0 < P.cellsOf e := Nat.pos_of_ne_zero (fun e0 => by rw [e0] at h0; simp at h0)
        obtain ⟨y, hy⟩ := List.exists_mem_of_length_pos (l := elems ++ rest) (by simpa using h1)
        obtain ⟨i, hi⟩ := one y hy
        simp only [Option.bind_eq_some_iff] at hi
        obtain ⟨cs', hc, _⟩ := hi
        simpa [block_add] using row_in hc h2
      · obtain ⟨y, hy, hpy⟩ := List.mem_flatMap.1 hp
        obtain ⟨i, hi⟩ := one y hy
        simp only [Option.bind_eq_some_iff] at hi
        obtain ⟨cs', _, hy'⟩ := hi
        exact hr _ _ _ hy' p hpy
    · cases h
  case h_9 =>
    split at h
    · simp only [Option.map_eq_some_iff] at h
      obtain ⟨xs, hx, rfl⟩ := h
      intro p hp
      obtain ⟨y, hy, hpy⟩ := List.mem_flatMap.1 hp
      obtain ⟨f, _, hf⟩ := mapM_mem_of hx y hy
      exact hr _ _ _ hf p hpy
    · cases h
  case h_10 =>
    split at h
    · simp only [Option.map_eq_some_iff] at h
      obtain ⟨xs, hx, rfl⟩ := h
      intro p hp
      obtain ⟨y, hy, hpy⟩ := List.mem_flatMap.1 hp
      obtain ⟨f, _, hf⟩ := mapM_mem_of hx y hy
      exact hr _ _ _ hf p hpy
    · cases h
  case h_11 => cases h; simp
  case h_12 =>
    split at h
    · cases h; simp
    · simp only [Option.map_eq_some_iff] at h
      obtain ⟨y, hy, rfl⟩ := h
      exact fun p hp => hr _ _ _ hy p hp
    · cases h
  case h_13 => cases h; simp
  case h_14 k e b _ =>
    split at h
    · rename_i es clock hb
      split at h
      · simp only [Option.bind_eq_some_iff] at h
        obtain ⟨entries, he, hd⟩ := h
        split at hd
        · have hx := Option.some.inj hd
          subst hx
          intro p hp
          rcases List.mem_cons.1 hp with rfl | hp
          · exact (Array.getElem?_eq_some_iff.1 hb).1
          · obtain ⟨y, hy, hpy⟩ := List.mem_flatMap.1 hp
            obtain ⟨x, _, hx⟩ := mapM_mem_of he y hy
            simp only [Option.bind_eq_some_iff] at hx
            obtain ⟨key, _, hz⟩ := hx
            split at hz
            · simp only [Option.map_eq_some_iff] at hz
              obtain ⟨q, hq, rfl⟩ := hz
              exact hr _ _ _ hq p hpy
            · cases hz
        · cases hd
      · cases h
    · cases h
  case h_15 => cases h; simp
  case h_16 => cases h; simp
  case h_17 => cases h; simp
  case h_18 => split at h <;> cases h; simp
  case h_19 => split at h <;> cases h; simp
  case h_20 => split at h <;> cases h; simp
  case h_21 => cases h
theorem trod_in : ∀ (n : Nat) (t : TypeId) (cs : List Value) (x : DataW H × List MemPlace), DataW.trod enc P w base spare held n t cs = some x → ∀ p ∈ x.2, p.block < w.heap.size := by
  intro n
  induction n with
  | zero => intro t cs x h; simp [DataW.trod] at h
  | succ n ih =>
    intro t cs x h
    rw [DataW.trod_step] at h
    exact trodStep_in ih h
theorem same_below {w' : World} (hb : Below w.heap.size w w') {p : MemPlace} (hp : p.block < w.heap.size) : w.sameAt w' p := by
  cases p with
  | cell b off => exact World.cell?_of_block (hb.block b hp)
  | map b => exact hb.block b hp
/-- A row's arguments, behind a call that leaves the old blocks as they were. -/
theorem trodAll_behind {T : TypeId → Prop} {w' : World} {sp : Nat → Bool} (K : Kids P T) (hz : ∀ {t e : TypeId}, T t → P.underlying t = some (.slice e) → 0 < P.cellsOf e) (hb : Below w.heap.size w w') :
    ∀ {ts : List TypeId} {vs : List Value} {ds : List (DataW H)} {ps : List MemPlace}, (∀ t ∈ ts, T t) → DataW.TrodAll enc P w base (fun _ => true) true ts vs ds ps → (∀ q ∈ ps, sp q.block = true) → DataW.TrodAll enc P w' base sp true ts vs ds ps
  | [], [], [], _, _, h, _ => h
  | t :: ts, v :: vs, d :: ds, _, hT, ⟨p, q, ⟨fuel, hf⟩, h2, e⟩, hs => by
    subst e
    refine ⟨p, q, ⟨fuel, DataW.trod_stays K hz (fun h => by cases h) (hT t (by simp)) hf (fun x hx => same_below hb (trod_in _ _ _ _ hf x hx)) (fun x hx => hs x (by simp [hx]))⟩, trodAll_behind K hz hb (fun t ht => hT t (by simp [ht])) h2 (fun x hx => hs x (by simp [hx])), rfl⟩
  | [], _ :: _, _, _, _, h, _ => absurd h (by simp [DataW.TrodAll])
  | [], [], _ :: _, _, _, h, _ => absurd h (by simp [DataW.TrodAll])
  | _ :: _, [], _, _, _, h, _ => absurd h (by simp [DataW.TrodAll])
  | _ :: _, _ :: _, [], _, _, h, _ => absurd h (by simp [DataW.TrodAll])
end
end Go.Rh
namespace Go.Proofs.Ytjnekjjaofabeaa
open Go.ChangeShapes Go.ChangeMaps Go.WideShapes Go.ChangeAt Go.RowKit Go.Rh
section
variable {H : Type} {enc : TypeId × Value → H}
theorem kids : Kids Try.prog (· < Try.prog.types.size) := kids_rows (by kernel_rfl) (by kernel_rfl)
theorem sliceCells : ((List.range Try.prog.types.size).all fun t => match Try.prog.underlying t with
    | some (.slice e) => decide (0 < Try.prog.cellsOf e)
    | _ => true) = true := by kernel_rfl
theorem slice_pos {t e : TypeId} (hT : t < Try.prog.types.size) (ht : Try.prog.underlying t = some (.slice e)) : 0 < Try.prog.cellsOf e := by
  have := List.all_eq_true.1 sliceCells t (List.mem_range.2 hT)
  rw [ht] at this
  exact of_decide_eq_true this
theorem args_behind {w w' : World} {sp : Nat → Bool} {ts : List TypeId} {vs : List Value} {ds : List (DataW H)} {ps : List MemPlace} (hb : Below w.heap.size w w') (hT : (ts.all (· < Try.prog.types.size)) = true)
    (h : DataW.TrodAll enc Try.prog w 0 (fun _ => true) true ts vs ds ps) (hs : ∀ q ∈ ps, sp q.block = true) : DataW.TrodAll enc Try.prog w' 0 sp true ts vs ds ps :=
  trodAll_behind kids (fun hT ht => slice_pos hT ht) hb (fun t ht => of_decide_eq_true (List.all_eq_true.1 hT t ht)) h hs
/-- What a row asks behind the call, where below the heap's old size nothing has turned and no variable is read. -/
theorem post_of_below {P : Program} {f : Func} {s : ChangeSpec} {apart fresh handsOn again : Bool} {W W' : World} {args : Array Value} {v : Value} {ds gs : List (DataW H)} {before pa pv : List MemPlace}
    (hW : DataW.Whole enc P f.params.toList s.vars apart W args.toList ds gs before)
    (hres : ∀ (b : Nat) (sp : Nat → Bool) (hd : Bool), DataW.TrodAll enc P W' b sp hd f.resultTypes.toList (v.resultList f.resultTypes.size) (s.fn H (ds ++ gs)).results [])
    (hargs : ∀ sp : Nat → Bool, (∀ p ∈ before, sp p.block = true) → DataW.TrodAll enc P W' 0 sp true f.params.toList args.toList (s.fn H (ds ++ gs)).args pa)
    (hvars : ∀ sp : Nat → Bool, (∀ p ∈ before, sp p.block = true) → DataW.TrodVars enc P W' sp s.vars (s.fn H (ds ++ gs)).vars pv)
    (hps : before = pa ++ pv) (hb : Below W.heap.size W W')
    (hok : ∀ (j : Nat) (t : TypeId) (r : Value), f.resultTypes[j]? = some t → (v.resultList f.resultTypes.size)[j]? = some r → Value.okWide P W' .any 0 t r) :
    s.post enc P f apart fresh handsOn again W args v W' := by
  have hold : ∀ p ∈ before, (fun b => decide (b < W.heap.size)) p.block = true := fun p hp => by simpa using hW.lt p hp
  have hlt : ∀ p ∈ before, p.block < W.heap.size := fun p hp => hW.lt p hp
  refine ⟨ds, gs, before, [], pa, pv, hW, hres _ _ _, hargs _ hold, hvars _ hold, hb.frame _, fun _ => ?_⟩
  obtain ⟨_, _, _, _, _, hz, hn⟩ := hW
  refine ⟨hok, _, _, ([] ++ pa) ++ pv, ⟨[] ++ pa, pv, trodAll_append (hargs _ (fun _ _ => rfl)) (hres _ _ _), hvars _ (fun _ _ => rfl), rfl, ?_, ?_⟩, ?_⟩
  · intro b off hp
    have hp' : MemPlace.cell b off ∈ before := by rw [hps]; simpa using hp
    rw [hb.frozen (hlt _ hp')]
    exact hz b off hp'
  · intro ha
    have := hn ha
    rw [hps] at this
    simpa using this
  · intro p hp _
    rw [hps]
    simpa using hp

theorem Try.own : ownKnob Try.prog.godebug = none := by kernel_rfl
set_option maxRecDepth 100000 in
theorem open_row {r : Reach} {b0 : Nat} {W : World} {v : Value} {d : DataW H} {ps : List MemPlace} (hval : Value.okWide Try.prog W r b0 22 v) (hd : DataW.Trod enc Try.prog W 0 (fun _ => true) true 22 v d ps) :
    ∃ A n c X N, v = .slice A n c ∧ n ≤ maxLen ∧ Deals W A n X N := by
  obtain ⟨a0, len, cap, rfl⟩ := okWide_slice Try.underlying22 hval
  obtain ⟨fuel, hf⟩ := hd
  rcases Deep.open_slice Try.underlying22 hf with ⟨hcs, hx⟩ | ⟨a, len', cap', m, n, D, Pl, hcs, _, hl, hm, hmm, _, hx⟩
  · simp [Value.cells] at hcs
    obtain ⟨rfl, rfl, rfl⟩ := hcs
    exact ⟨_, _, _, fun _ => 0, fun _ => 0, rfl, Nat.zero_le _, fun h => absurd h (by omega)⟩
  · simp [Value.cells] at hcs
    obtain ⟨rfl, rfl, rfl⟩ := hcs
    simp only [if_true] at hmm
    subst hmm
    have hc3 : Try.prog.cellsOf 29 = 2 := by kernel_rfl
    rw [hc3] at hx
    have one : ∀ j, j < m → ∃ x : Int × Int, W.cell? ((a.add (j * 2)).add 0) = some (.int .i64 x.1) ∧ W.cell? ((a.add (j * 2)).add 1) = some (.int .i64 x.2) := by
      intro j hj
      obtain ⟨cs', h1, h2⟩ := hx j hj
      obtain ⟨_, hlen, hcell⟩ := World.cells?_some h1
      obtain ⟨y0, y1, n', _, _, t0, t1⟩ := trod_struct2 Try.underlying29 h2
      obtain ⟨c0, c1, rfl⟩ : ∃ c0 c1, cs' = [c0, c1] := by
        match cs', hlen with
        | [c0, c1], _ => exact ⟨_, _, rfl⟩
      obtain ⟨k0, e0, _, _⟩ := DataW.trod_int Try.underlying3 t0
      obtain ⟨k1, e1, _, hw⟩ := DataW.trod_int Try.underlying3 t1
      obtain rfl : c0 = .int .i64 k0 := by have e : [c0] = [Value.int .i64 k0] := e0; simpa using e
      obtain rfl : c1 = .int .i64 k1 := by have e : [c1] = [Value.int .i64 k1] := e1; simpa using e
      exact ⟨⟨k0, k1⟩, hcell 0 (by omega), hcell 1 (by omega)⟩
    obtain ⟨F, hF⟩ := Deep.choose_lt (n := m) (p := fun j (x : Int × Int) => W.cell? ((a.add (j * 2)).add 0) = some (.int .i64 x.1) ∧ W.cell? ((a.add (j * 2)).add 1) = some (.int .i64 x.2)) one
    refine ⟨_, _, _, fun j => (F j).1, fun j => (F j).2, rfl, by omega, fun h0 => ?_⟩
    obtain ⟨b, off, spot⟩ := a
    have hspot : spot = none := by simpa [Addr.add] using World.cell?_spot (hF 0 (by omega)).1
    subst hspot
    have hp : ∀ j i, ((⟨b, off, none⟩ : Addr).add (j * 2)).add i = ⟨b, off + j * 2 + i, none⟩ := fun j i => by rw [add_plain, add_plain]
    refine ⟨b, off, rfl, ?_, fun j hj => ?_⟩
    · have h := (hF 0 (by omega)).1
      rw [hp] at h
      exact cell_block h
    · have h := hF j (by omega)
      rw [hp, hp] at h
      exact h
end
end Go.Proofs.Ytjnekjjaofabeaa
