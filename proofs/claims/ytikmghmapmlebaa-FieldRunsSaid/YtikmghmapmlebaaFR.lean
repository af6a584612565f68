/-
  FieldRuns: in rows of any steps the number is that of the same steps: the call returns true and its arguments read as they did, for every input (no condition).
-/
import Derived.Test.YtikmghmapmlebaaT
import Derived.Test.YtikmghmapmlebaaFv
import Derived.ProofKit
import Derived.ChangeVars
import Derived.ChangeStays
import Derived.MapPlaces
import Derived.Deep.Slices
import Derived.Deep.Strs
import Derived.ChangeMaps5
namespace Go.Rh
open Go.RowKit Go.ChangeShapes Go.WideShapes
section
variable {H : Type} {enc : TypeId × Value → H} {P : Program} {w : World} {base : Nat} {spare : Nat → Bool} {held : Bool}
theorem row_in {a : Addr} {n : Nat} {cs : List Value} (h : w.cells? base a n = some cs) (h0 : 0 < n) : a.block < w.heap.size := by
  obtain ⟨_, hl, hc⟩ := World.cells?_some h
  have h1 := hc 0 h0
  rw [List.getElem?_eq_getElem (by omega)] at h1
  have := World.block_lt_of_cell? w _ h1
  simpa [block_add] using this
theorem mem_row_in {a : Addr} {n : Nat} {p : MemPlace} (hp : p ∈ MemPlace.row a n) (h : 0 < n → a.block < w.heap.size) : p.block < w.heap.size := by
  obtain ⟨i, hi, rfl⟩ := MemPlace.mem_row.1 hp
  exact h (by omega)
theorem trodStep_in {r : TypeId → List Value → Option (DataW H × List MemPlace)} (hr : ∀ t cs x, r t cs = some x → ∀ p ∈ x.2, p.block < w.heap.size) {t : TypeId} {cs : List Value} {x : DataW H × List MemPlace}
    (h : DataW.trodStep enc P w base spare held r t cs = some x) : ∀ p ∈ x.2, p.block < w.heap.size := by
  unfold DataW.trodStep at h
  split at h
  case h_1 => cases h; simp
  case h_2 => split at h <;> cases h; simp
  case h_3 => split at h <;> cases h; simp
  case h_4 => split at h <;> cases h; simp
  case h_5 => cases h; simp
  case h_6 e a _ =>
    simp only [Option.map_eq_some_iff, Option.bind_eq_some_iff] at h
    obtain ⟨y, ⟨cs', hc, hy⟩, rfl⟩ := h
    intro p hp
    rcases List.mem_append.1 hp with hp | hp
    · exact mem_row_in hp (row_in hc)
    · exact hr _ _ _ hy p hp
  case h_7 => cases h; simp
  case h_8 e a len cap _ =>
    simp only at h
    split at h
    · simp only [Option.map_eq_some_iff, Option.bind_eq_some_iff] at h
      obtain ⟨elems, he, rest, hrest, rfl⟩ := h
      have one : ∀ y ∈ elems ++ rest, ∃ i, (w.cells? base (a.add (i * P.cellsOf e)) (P.cellsOf e)).bind (r e) = some y := by
        intro y hy
        rcases List.mem_append.1 hy with hy | hy
        · obtain ⟨i, _, hi⟩ := mapM_mem_of he y hy
          exact ⟨i, hi⟩
        · split at hrest
          · obtain ⟨j, _, hj⟩ := mapM_mem_of hrest y hy
            exact ⟨len + j, hj⟩
          · simp at hrest
            subst hrest
            simp at hy
      intro p hp
      rcases List.mem_append.1 hp with hp | hp
      · refine mem_row_in hp fun h0 => ?_
        have h1 : 0 < elems.length + rest.length := Nat.pos_of_ne_zero (fun e0 => by rw [e0] at h0; simp at h0)
        have h2 : 0 < P.cellsOf e := Nat.pos_of_ne_zero (fun e0 => by rw [e0] at h0; simp at h0)
        obtain ⟨y, hy⟩ := List.exists_mem_of_length_pos (l := elems ++ rest) (by simpa using h1)
        obtain ⟨i, hi⟩ := one y hy
        simp only [Option.bind_eq_some_iff] at hi
        obtain ⟨cs', hc, _⟩ := hi
        simpa [block_add] using row_in hc h2
      · obtain ⟨y, hy, hpy⟩ := List.mem_flatMap.1 hp
        obtain ⟨i, hi⟩ := one y hy
        simp only [Option.bind_eq_some_iff] at hi
        obtain ⟨cs', _, hy'⟩ := hi
        exact hr _ _ _ hy' p hpy
    · cases h
  case h_9 =>
    split at h
    · simp only [Option.map_eq_some_iff] at h
      obtain ⟨xs, hx, rfl⟩ := h
      intro p hp
      obtain ⟨y, hy, hpy⟩ := List.mem_flatMap.1 hp
      obtain ⟨f, _, hf⟩ := mapM_mem_of hx y hy
      exact hr _ _ _ hf p hpy
    · cases h
  case h_10 =>
    split at h
    · simp only [Option.map_eq_some_iff] at h
      obtain ⟨xs, hx, rfl⟩ := h
      intro p hp
      obtain ⟨y, hy, hpy⟩ := List.mem_flatMap.1 hp
      obtain ⟨f, _, hf⟩ := mapM_mem_of hx y hy
      exact hr _ _ _ hf p hpy
    · cases h
  case h_11 => cases h; simp
  case h_12 =>
    split at h
    · cases h; simp
    · simp only [Option.map_eq_some_iff] at h
      obtain ⟨y, hy, rfl⟩ := h
      exact fun p hp => hr _ _ _ hy p hp
    · cases h
  case h_13 => cases h; simp
  case h_14 k e b _ =>
    split at h
    · rename_i es clock hb
      split at h
      · simp only [Option.bind_eq_some_iff] at h
        obtain ⟨entries, he, hd⟩ := h
        split at hd
        · have hx := Option.some.inj hd
          subst hx
          intro p hp
          rcases List.mem_cons.1 hp with rfl | hp
          · exact (Array.getElem?_eq_some_iff.1 hb).1
          · obtain ⟨y, hy, hpy⟩ := List.mem_flatMap.1 hp
            obtain ⟨x, _, hx⟩ := mapM_mem_of he y hy
            simp only [Option.bind_eq_some_iff] at hx
            obtain ⟨key, _, hz⟩ := hx
            split at hz
            · simp only [Option.map_eq_some_iff] at hz
              obtain ⟨q, hq, rfl⟩ := hz
              exact hr _ _ _ hq p hpy
            · cases hz
        · cases hd
      · cases h
    · cases h
  case h_15 => cases h; simp
  case h_16 => cases h; simp
  case h_17 => cases h; simp
  case h_18 => split at h <;> cases h; simp
  case h_19 => split at h <;> cases h; simp
  case h_20 => split at h <;> cases h; simp
  case h_21 => cases h
theorem trod_in : ∀ (n : Nat) (t : TypeId) (cs : List Value) (x : DataW H × List MemPlace), DataW.trod enc P w base spare held n t cs = some x → ∀ p ∈ x.2, p.block < w.heap.size := by
  intro n
  induction n with
  | zero => intro t cs x h; simp [DataW.trod] at h
  | succ n ih =>
    intro t cs x h
    rw [DataW.trod_step] at h
    exact trodStep_in ih h
theorem same_below {w' : World} (hb : Below w.heap.size w w') {p : MemPlace} (hp : p.block < w.heap.size) : w.sameAt w' p := by
  cases p with
  | cell b off => exact World.cell?_of_block (hb.block b hp)
  | map b => exact hb.block b hp
/-- A row's arguments, behind a call that leaves the old blocks as they were. -/
theorem trodAll_behind {T : TypeId → Prop} {w' : World} {sp : Nat → Bool} (K : Kids P T) (hz : ∀ {t e : TypeId}, T t → P.underlying t = some (.slice e) → 0 < P.cellsOf e) (hb : Below w.heap.size w w') :
    ∀ {ts : List TypeId} {vs : List Value} {ds : List (DataW H)} {ps : List MemPlace}, (∀ t ∈ ts, T t) → DataW.TrodAll enc P w base (fun _ => true) true ts vs ds ps → (∀ q ∈ ps, sp q.block = true) → DataW.TrodAll enc P w' base sp true ts vs ds ps
  | [], [], [], _, _, h, _ => h
  | t :: ts, v :: vs, d :: ds, _, hT, ⟨p, q, ⟨fuel, hf⟩, h2, e⟩, hs => by
    subst e
    refine ⟨p, q, ⟨fuel, DataW.trod_stays K hz (fun h => by cases h) (hT t (by simp)) hf (fun x hx => same_below hb (trod_in _ _ _ _ hf x hx)) (fun x hx => hs x (by simp [hx]))⟩, trodAll_behind K hz hb (fun t ht => hT t (by simp [ht])) h2 (fun x hx => hs x (by simp [hx])), rfl⟩
  | [], _ :: _, _, _, _, h, _ => absurd h (by simp [DataW.TrodAll])
  | [], [], _ :: _, _, _, h, _ => absurd h (by simp [DataW.TrodAll])
  | _ :: _, [], _, _, _, h, _ => absurd h (by simp [DataW.TrodAll])
  | _ :: _, _ :: _, [], _, _, h, _ => absurd h (by simp [DataW.TrodAll])
end
end Go.Rh
namespace Go.Proofs.Ytikmghmapmlebaa
open Go.ChangeShapes Go.ChangeMaps Go.WideShapes Go.ChangeAt Go.RowKit Go.Rh
section
variable {H : Type} {enc : TypeId × Value → H}
theorem kids : Kids Try.prog (· < Try.prog.types.size) := kids_rows (by kernel_rfl) (by kernel_rfl)
theorem sliceCells : ((List.range Try.prog.types.size).all fun t => match Try.prog.underlying t with
    | some (.slice e) => decide (0 < Try.prog.cellsOf e)
    | _ => true) = true := by kernel_rfl
theorem slice_pos {t e : TypeId} (hT : t < Try.prog.types.size) (ht : Try.prog.underlying t = some (.slice e)) : 0 < Try.prog.cellsOf e := by
  have := List.all_eq_true.1 sliceCells t (List.mem_range.2 hT)
  rw [ht] at this
  exact of_decide_eq_true this
theorem args_behind {w w' : World} {sp : Nat → Bool} {ts : List TypeId} {vs : List Value} {ds : List (DataW H)} {ps : List MemPlace} (hb : Below w.heap.size w w') (hT : (ts.all (· < Try.prog.types.size)) = true)
    (h : DataW.TrodAll enc Try.prog w 0 (fun _ => true) true ts vs ds ps) (hs : ∀ q ∈ ps, sp q.block = true) : DataW.TrodAll enc Try.prog w' 0 sp true ts vs ds ps :=
  trodAll_behind kids (fun hT ht => slice_pos hT ht) hb (fun t ht => of_decide_eq_true (List.all_eq_true.1 hT t ht)) h hs
section
variable {w : World} {base : Nat} {spare : Nat → Bool} {held : Bool}
theorem add_plainR (b o i : Nat) : (⟨b, o, none⟩ : Addr).add i = ⟨b, o + i, none⟩ := by unfold Addr.add; split <;> simp_all
theorem open_listR {n : Nat} {l : List Value} {d : DataW H} {ps : List MemPlace} (h : DataW.trod enc Try.prog w base spare held n 22 l = some (d, ps)) :
    ∃ g, (∀ j, j < 32 → g j < 256) ∧ l = (U8 g).toList ∧ d = dB g ∧ ps = [] := by
  obtain ⟨cs, hcsl⟩ : ∃ cs : Array Value, cs = l.toArray := ⟨_, rfl⟩
  have hll : l = cs.toList := by rw [hcsl]
  rw [hll] at h ⊢
  clear hll hcsl
  obtain ⟨xs, m, rfl, hx, hlen, hxl, hel⟩ := DataW.trod_array Try.underlying22 h
  have hsz : cs.size = 32 := by rw [cells22] at hlen; simpa using hlen
  simp only [cells5] at hel
  have each : ∀ i, i < 32 → ∃ n : Int, cs[i]? = some (.int .u8 n) ∧ xs[i]? = some (.lit (.int .u8 n), []) ∧ (Lit.int .u8 n).wf = true := by
    intro i hi
    have h := hel i hi
    have hil : i < xs.length := by omega
    rw [List.getElem?_eq_getElem hil] at h
    obtain ⟨n, h1, h2, h3⟩ := DataW.trod_int Try.underlying5 h
    refine ⟨n, ?_, by rw [List.getElem?_eq_getElem hil, h2], h3⟩
    have hl : i < cs.toList.length := by simp [hsz]; exact hi
    rw [Nat.mul_one, List.drop_eq_getElem_cons hl, List.take_succ_cons, List.take_zero] at h1
    have := (List.cons.inj h1).1
    simp at this
    rw [Array.getElem?_eq_getElem (by omega), this]
  let g : Nat → Nat := fun i => match cs[i]? with | some (.int _ n) => n.toNat | _ => 0
  have hg : ∀ i, i < 32 → ∃ n : Int, cs[i]? = some (.int .u8 n) ∧ xs[i]? = some (.lit (.int .u8 n), []) ∧ 0 ≤ n ∧ n < 256 ∧ (g i : Int) = n := by
    intro i hi
    obtain ⟨n, h1, h2, h3⟩ := each i hi
    have hb := bounds_u8 h3
    refine ⟨n, h1, h2, hb.1, by omega, ?_⟩
    show (((match cs[i]? with | some (.int _ n) => n.toNat | _ => 0 : Nat)) : Int) = n
    rw [h1]
    simp only []
    omega
  have hcs : cs = U8 g := by
    apply Array.ext_getElem?
    intro i
    by_cases hi : i < 32
    · obtain ⟨n, h1, _, _, _, h5⟩ := hg i hi
      rw [h1]; unfold U8; rw [vals_get _ _ hi, h5]
    · rw [Array.getElem?_eq_none (by omega), Array.getElem?_eq_none (by simp [U8]; omega)]
  refine ⟨g, fun j hj => ?_, by rw [hcs], ?_, ?_⟩
  · obtain ⟨n, _, _, h3, h4, h5⟩ := hg j hj; omega
  · rw [show d = .agg (xs.map (·.1)) from congrArg Prod.fst hx]
    unfold dB
    congr 1
    apply List.ext_getElem?
    intro i
    by_cases hi : i < 32
    · obtain ⟨n, _, h2, _, _, h5⟩ := hg i hi
      simp [h2, hi, h5]
    · rw [List.getElem?_eq_none (by simp; omega), List.getElem?_eq_none (by simp; omega)]
  · rw [show ps = xs.flatMap (·.2) from congrArg Prod.snd hx, List.flatMap_eq_nil_iff]
    intro x hxm
    obtain ⟨i, hi⟩ := List.mem_iff_getElem?.1 hxm
    have hil : i < 32 := by have := (List.getElem?_eq_some_iff.1 hi).1; omega
    obtain ⟨n, _, h2, _⟩ := hg i hil
    rw [h2] at hi
    rw [← Option.some.inj hi]



end
theorem open_ops {r : Reach} {b0 : Nat} {W : World} {v : Value} {d : DataW H} {ps : List MemPlace} (hval : Value.okWide Try.prog W r b0 42 v) (hd : DataW.Trod enc Try.prog W 0 (fun _ => true) true 42 v d ps) :
    ∃ A n c wh wi, v = .slice A n c ∧ (∀ i, i < n → ∀ j, j < 32 → wi i j < 256) ∧ OpsAt W A n wh wi := by
  obtain ⟨a0, len, cap, rfl⟩ := okWide_slice Try.underlying42 hval
  obtain ⟨fuel, hf⟩ := hd
  rcases Deep.open_slice Try.underlying42 hf with ⟨hcs, hx⟩ | ⟨a, len', cap', m, n, D, Pl, hcs, _, hl, hm, hmm, _, hx⟩
  · simp [Value.cells] at hcs
    obtain ⟨rfl, rfl, rfl⟩ := hcs
    exact ⟨_, _, _, fun _ => 0, fun _ _ => 0, rfl, fun i hi => absurd hi (by omega), fun h => absurd h (by omega)⟩
  · simp [Value.cells] at hcs
    obtain ⟨rfl, rfl, rfl⟩ := hcs
    simp only [if_true] at hmm
    subst hmm
    have hc33 : Try.prog.cellsOf 44 = 33 := by kernel_rfl
    have hc3 : Try.prog.cellsOf 3 = 1 := by kernel_rfl
    rw [hc33] at hx
    have one : ∀ j, j < m → ∃ x : Int × (Nat → Nat), W.cell? ((a.add (j * 33)).add 0) = some (.int .i64 x.1) ∧ (∀ i, i < 32 → W.cell? ((a.add (j * 33)).add (1 + i)) = some (.int .u8 ((x.2 i : Nat) : Int))) ∧ ∀ i, i < 32 → x.2 i < 256 := by
      intro j hj
      obtain ⟨cs', h1, h2⟩ := hx j hj
      obtain ⟨_, hlen, hcell⟩ := World.cells?_some h1
      obtain ⟨y0, y1, n', _, _, t0, t1⟩ := trod_struct2 Try.underlying44 h2
      simp only [hc3, cells22] at t0 t1
      have T0 : DataW.trod enc Try.prog W 0 (fun _ => true) true n' 3 ((cs'.drop 0).take 1) = some y0 := t0
      have T1 : DataW.trod enc Try.prog W 0 (fun _ => true) true n' 22 ((cs'.drop 1).take 32) = some (y1.1, y1.2) := t1
      obtain ⟨k0, e0, _, _⟩ := DataW.trod_int Try.underlying3 T0
      obtain ⟨g, hg, e1, _, _⟩ := open_listR T1
      refine ⟨⟨k0, g⟩, ?_, fun i hi => ?_, hg⟩
      · rw [hcell 0 (by omega)]
        have : cs'[0]? = ([Value.int .i64 k0] : List Value)[0]? := by rw [← e0, List.getElem?_take, if_pos (by decide), List.getElem?_drop]
        exact this
      · rw [hcell (1 + i) (by omega)]
        have : cs'[1 + i]? = (U8 g).toList[i]? := by rw [← e1, List.getElem?_take, if_pos hi, List.getElem?_drop]
        rw [this, Array.getElem?_toList]
        exact vals_get _ _ hi
    obtain ⟨F, hF⟩ := Deep.choose_lt (n := m) (p := fun j (x : Int × (Nat → Nat)) => W.cell? ((a.add (j * 33)).add 0) = some (.int .i64 x.1) ∧ (∀ i, i < 32 → W.cell? ((a.add (j * 33)).add (1 + i)) = some (.int .u8 ((x.2 i : Nat) : Int))) ∧ ∀ i, i < 32 → x.2 i < 256) one
    refine ⟨_, _, _, fun j => (F j).1, fun j => (F j).2, rfl, fun i hi => (hF i (by omega)).2.2, fun h0 => ?_⟩
    obtain ⟨b, off, spot⟩ := a
    have hspot : spot = none := by simpa [Addr.add] using World.cell?_spot (hF 0 (by omega)).1
    subst hspot
    have hp : ∀ j i, ((⟨b, off, none⟩ : Addr).add (j * 33)).add i = ⟨b, off + j * 33 + i, none⟩ := fun j i => by rw [add_plainR, add_plainR]
    refine ⟨b, off, rfl, ?_, fun j hj => ?_⟩
    · have h := (hF 0 (by omega)).1
      rw [hp] at h
      have := World.block_lt_of_cell? _ _ h
      exact this
    · have h := hF j (by omega)
      refine ⟨by have := h.1; rwa [hp, Nat.add_zero] at this, fun i hi => ?_⟩
      have := h.2.1 i hi
      rwa [hp, ← Nat.add_assoc] at this
end

set_option maxRecDepth 100000 in
theorem fieldRuns_lifted (os : Os) (started : os.Started) (H : Type) (enc : TypeId × Value → H) :
    ReturnsInHanded {} Try.checked os 8 .any (Rows.fieldRunsSpec.pre6 enc Try.prog Try.f8 Rows.fieldRunsRow.domain false) (Rows.fieldRunsSpec.post enc Try.prog Try.f8 false true false false) := by
  refine returnsInHanded_of_change (C := Try.checked) Try.own started (by kernel_rfl) Try.func8
    (ChangeSpec.witness6 (enc := enc) (C := Try.checked) false ⟨#[], #[.agg (U8 fun _ => 0), .slice none 0 0], []⟩ 8 (by kernel_rfl) (by kernel_rfl) (by kernel_rfl) (by kernel_rfl)) ?_
  intro W base args ds gs before hval0 hW hcnd _
  have hval : ∀ (j : Nat) t v, Try.f8.params[j]? = some t → args[j]? = some v → Value.okWide Try.prog W .any base t v := hval0
  have hW' := hW
  obtain ⟨p, q, hA0, hV, rfl, hfz, hnd⟩ := hW
  have hA : DataW.TrodAll enc Try.prog W 0 (fun _ => true) true Try.f8.params.toList args.toList ds p := hA0
  rw [Try.params8] at hA hval
  obtain ⟨v0, v1, d0, d1, p0, p1, rfl, rfl, hp, h0, h1⟩ := trodAll_two hA
  obtain ⟨rfl, rfl⟩ := trodVars_none hV
  obtain ⟨ga, hga, rfl, -, -⟩ := open_bytes (hval 0 22 v0 rfl rfl) h0
  obtain ⟨A, n, c, wh, wi, rfl, hwi, hO⟩ := open_ops (hval 1 42 v1 rfl rfl) h1
  clear hA0 hval0 hval
  simp only [List.append_nil] at hW'
  refine (runs_any ga hga A n c wh wi hwi W hO).mono fun e W' ⟨he, hw⟩ => ?_
  subst he
  exact ⟨_, rfl, post_of_below (pa := p) (pv := []) hW' (fun _ _ _ => trodAll_mk1 (shut_bool Try.underlying4 true)) (fun sp hsp => args_behind hw (by kernel_rfl) hA hsp) (fun _ _ => rfl) (by simp)
    hw (ok_one (by kernel_rfl) rfl (okWide_bool_mk Try.underlying4 true))⟩

theorem fieldRuns_holds : Rows.FieldRunsSaid :=
  OpenClaim.holds_of_wide 8 Try.f8 rfl rfl rfl rfl rfl rfl rfl ⟨rfl, rfl, rfl, rfl, rfl⟩ rfl rfl rfl rfl rfl (by kernel_rfl) Try.func8 (by kernel_rfl)
    (of_decide_eq_true (by kernel_rfl)) (by unfold Func.isWrapper; first | (rw [if_pos (by decide +kernel)]; kernel_rfl) | (rw [if_neg (by decide +kernel)]; exact ⟨rfl, rfl⟩))
    (fun os started H enc _ => fieldRuns_lifted os started H enc)
end Go.Proofs.Ytikmghmapmlebaa
