/-
  The document's sending end (f21, f22, f23, f41, f27, f29, f30) in memory; a row of ints of one's own; what Next answers (plain).
-/
import Derived.Test.YtjnekjjaofabeaaOm
import Derived.Deep.DeepCutAuto
namespace Go.Proofs.Ytjnekjjaofabeaa
open Go.RowKit Go.Rh Rng

def iv (l : List Int) : List Value := l.map fun x => .int .i64 x
theorem iv_length (l : List Int) : (iv l).length = l.length := by simp [iv]
theorem iv_append (l m : List Int) : iv (l ++ m) = iv l ++ iv m := by simp [iv]
theorem iv_one (l : List Int) : ∀ v ∈ iv l, v.oneCell' = true := by
  intro v hv
  unfold iv at hv
  rw [List.mem_map] at hv
  obtain ⟨x, _, rfl⟩ := hv
  rfl
theorem iv_at {l : List Int} {j : Nat} (h : j < l.length) : (iv l)[j]? = some (.int .i64 (l.getD j 0)) := by
  unfold iv
  rw [List.getElem?_map, List.getElem?_eq_getElem h, List.getD_eq_getElem?_getD, List.getElem?_eq_getElem h]
  rfl
theorem zero_iv (n : Nat) : Builtin.zeroCells (Value.int .i64 0).cells n = (iv (List.replicate n 0)).toArray := by
  apply Array.ext_getElem?
  intro j
  by_cases hj : j < n
  · simp [Builtin.zeroCells, Value.cells, iv, hj, Nat.mod_one]
  · simp [Builtin.zeroCells, Value.cells, iv, hj]
def OwnI (w : World) (v : Value) (l : List Int) : Prop :=
  (v = .slice none 0 0 ∧ l = []) ∨ ∃ g c cs, v = .slice (some ⟨g, 0, none⟩) l.length c ∧ w.heap[g]? = some (.cells cs 3 (0, 0)) ∧ l.length ≤ c ∧ c ≤ cs.size ∧ ∀ j, j < l.length → cs[j]? = some (.int .i64 (l.getD j 0))
theorem OwnI.lt {w : World} {v : Value} {l : List Int} (h : OwnI w v l) : ∀ k, v.ownBlock = some k → k < w.heap.size := by
  intro k hk
  rcases h with ⟨rfl, _⟩ | ⟨g, c, cs, rfl, h1, _⟩
  · simp [Value.ownBlock] at hk
  · simp [Value.ownBlock] at hk; subst hk; exact heap_lt h1
theorem OwnI.row {w : World} {v : Value} {l : List Int} (h : OwnI w v l) : ∀ k, v.ownBlock = some k → ∃ cs, w.heap[k]? = some (.cells cs 3 (0, 0)) := by
  intro k hk
  rcases h with ⟨rfl, _⟩ | ⟨g, c, cs, rfl, h1, _⟩
  · simp [Value.ownBlock] at hk
  · simp [Value.ownBlock] at hk; subst hk; exact ⟨cs, h1⟩
theorem OwnI.keep {S : Nat → Prop} {w w' : World} {v : Value} {l : List Int} (h : OwnI w v l) (k : Keep w w' S) (hS : ∀ i, v.ownBlock = some i → ¬ S i) : OwnI w' v l := by
  rcases h with h | ⟨g, c, cs, rfl, h1, h2⟩
  · exact .inl h
  · exact .inr ⟨g, c, cs, rfl, (k.block g (heap_lt h1) (hS g rfl)).trans h1, h2⟩
theorem OwnI.form {w : World} {v : Value} {l : List Int} (h : OwnI w v l) : ∃ A n c, n = l.length ∧ v = .slice A n c := by
  rcases h with ⟨rfl, rfl⟩ | ⟨g, c, cs, rfl, _⟩
  · exact ⟨_, _, _, rfl, rfl⟩
  · exact ⟨_, _, _, rfl, rfl⟩
/-- A place in it: where it lies, what it reads, what a store makes of it. -/
theorem OwnI.at {w : World} {v : Value} {l : List Int} (h : OwnI w v l) {j : Nat} (hj : j < l.length) : ∃ g c, v = .slice (some ⟨g, 0, none⟩) l.length c ∧ w.cell? ⟨g, j, none⟩ = some (.int .i64 (l.getD j 0)) ∧ w.frozen? ⟨g, j, none⟩ = false ∧
    ∀ x, OwnI (w.setCell ⟨g, j, none⟩ (.int .i64 x)) v (l.set j x) := by
  rcases h with ⟨rfl, rfl⟩ | ⟨g, c, cs, rfl, h1, h2, h3, h4⟩
  · cases hj
  · refine ⟨g, c, rfl, by rw [cell_of_row w g j _ _ _ h1]; exact h4 j hj, by simp [World.frozen?, h1], fun x => .inr ⟨g, c, cs.setIfInBounds j (.int .i64 x), by rw [List.length_set], set_block h1 j _, by rw [List.length_set]; exact h2, by simpa using h3, fun i hi => ?_⟩⟩
    rw [List.length_set] at hi
    by_cases e : i = j
    · subst e
      rw [Array.getElem?_setIfInBounds_self_of_lt (by omega), List.getD_eq_getElem?_getD, List.getElem?_set_self hi]
      rfl
    · rw [Array.getElem?_setIfInBounds_ne (fun h => e h.symm), h4 i hi, List.getD_eq_getElem?_getD, List.getD_eq_getElem?_getD, List.getElem?_set_ne (fun h => e h.symm)]
theorem info3 : (Try.prog.info? 3).map (fun i => (i.zero, i.size, i.bytes)) = some (some (.int .i64 0), 1, 8) := by kernel_rfl
theorem append_zerosI {w : World} {v : Value} {l : List Int} (hown : OwnI w v l) (n : Nat) (h0 : 0 < n) (hbound : l.length + n ≤ 1000000) :
    ∃ v' w', (∀ ty, (Builtin.append_ #[39, 3] ty #[v, .int .i64 (n : Int)]).run Try.prog w = .ok v' w') ∧ OwnI w' v' (l ++ List.replicate n 0) ∧ Keep w w' (fun k => v.ownBlock = some k) ∧ (v'.ownBlock = v.ownBlock ∨ v'.ownBlock = some w.heap.size) := by
  obtain ⟨i, hi, hz, hsz, hby⟩ := info_parts info3
  have ht := Try.underlying39
  have hu := Try.underlying3
  have hw : IntKind.i64.wrap (n : Int) = (n : Int) := IntWalk.i64_in _ (by omega)
  have hn0 : ¬ ((n : Int) < 0) := by omega
  have hnz : n ≠ 0 := by omega
  have h48n : ¬ (281474976710656 < (n : Int) * 8) := by omega
  have hm : (List.replicate n (0 : Int)).length = n := List.length_replicate
  have hall : ∀ (A : Array Value) (cs : Array Value), A = (iv l).toArray ++ (iv (List.replicate n 0)).toArray ++ cs → ∀ j, j < (l ++ List.replicate n (0 : Int)).length → A[j]? = some (.int .i64 ((l ++ List.replicate n (0 : Int)).getD j 0)) := by
    intro A cs e j hj
    rw [e, Array.getElem?_append_left (by simp [iv_length]; simpa using hj), List.append_toArray, ← iv_append, List.getElem?_toArray]
    exact iv_at hj
  rcases hown with ⟨rfl, rfl⟩ | ⟨g, cap, cs, rfl, hg, hnc, hfit, hcs⟩
  · have hge := grownCap_ge w n 0 3
    have h48' : ¬ (281474976710656 < Builtin.nextslicecap n 0 * 8) := by rw [nextslicecap_zero h0]; simp at hbound; omega
    have h63' : ¬ (9223372036854775807 < (n : Int)) := by omega
    have hr : ∀ ty, (Builtin.append_ #[39, 3] ty #[.slice none 0 0, .int .i64 (n : Int)]).run Try.prog w = .ok (.slice (some ⟨w.heap.size, 0, none⟩) n (grownCap w n 0 3)) (w.drew.alloc (.cells ((iv (List.replicate n 0)).toArray ++ Builtin.zeroCells (Value.int .i64 0).cells (grownCap w n 0 3 - n)) 3)) := by
      intro ty
      simp [Builtin.append_, asInt, asIntOf, run_underlying ht, run_underlying hu, sizeOf, typeInfo, zeroValue, hi, hz, hsz, hby, hw, hn0, hnz, h48n, h48', h63', Question.forced, run_firstCells_none, newRow, grownCap, zero_iv]
    refine ⟨_, _, hr, .inr ⟨w.heap.size, _, _, by rw [List.nil_append, hm], heap_alloc_new w.drew _, by rw [List.nil_append, hm]; exact hge, ?_, ?_⟩, ⟨rfl, rfl, rfl, by simp, fun k hk _ => heap_old w.drew _ k hk⟩, .inr rfl⟩
    · simp [iv_length, Builtin.zeroCells, Value.cells]; omega
    · exact hall _ _ (by simp [iv]; rfl)
  · have holds : ∀ j u, (iv l)[j]? = some u → w.cell? ((⟨g, 0, none⟩ : Addr).add j) = some u := by
      intro j u hu
      have hj : j < l.length := by rw [← iv_length l]; exact (List.getElem?_eq_some_iff.1 hu).1
      rw [iv_at hj] at hu
      rw [Addr.add_lit, cell_of_row w g (0 + j) cs 3 (0, 0) hg, Nat.zero_add, hcs j hj, hu]
    by_cases hroom : l.length + n ≤ cap
    · obtain ⟨cs', hr, hs', hin, hout⟩ := run_storeCells_fr Try.prog g l.length 3 (0, 0) (iv (List.replicate n 0)) 0 cs w hg (.inl rfl) (by rw [iv_length, hm]; omega) (iv_one _)
      refine ⟨.slice (some ⟨g, 0, none⟩) (l.length + n) cap, w.setRow g cs', ?_, ?_, ?_, .inl rfl⟩
      · intro ty
        simp [Builtin.append_, asInt, asIntOf, run_underlying ht, run_underlying hu, sizeOf, typeInfo, zeroValue, hi, hz, hw, hn0, hnz, h48n, hby, hroom, Addr.add_lit, hsz, zero_iv, hr]
      · refine .inr ⟨g, cap, cs', by rw [List.length_append, hm], setRow_heap w g cs _ 3 _ hg, by rw [List.length_append]; omega, by omega, fun j hj' => ?_⟩
        by_cases hjl : j < l.length
        · rw [hout j (.inl (by omega)), hcs j hjl, List.getD_eq_getElem?_getD, List.getD_eq_getElem?_getD, List.getElem?_append_left hjl]
        · have h1 := hin (j - l.length) (by rw [iv_length]; rw [List.length_append] at hj'; omega)
          rw [show l.length + 0 + (j - l.length) = j by omega] at h1
          have e2 : (List.replicate n (0 : Int)).getD (j - l.length) 0 = (l ++ List.replicate n (0 : Int)).getD j 0 := by
            rw [List.getD_eq_getElem?_getD, List.getD_eq_getElem?_getD, List.getElem?_append_right (by omega)]
          rw [h1, iv_at (by rw [List.length_append] at hj'; omega), e2]
      · exact Keep.setRow (S := fun k => some g = some k) (Keep.refl w _) (.inr rfl) _
    · have hge := grownCap_ge w (l.length + n) cap 3
      have hfo := run_firstCells_some (P := Try.prog) w.drew i.size l.length ⟨g, 0, none⟩ l.length cap (iv l) (by rw [iv_length, hsz]; omega) (by simpa using holds)
      rw [hsz] at hfo
      have h63' : ¬ (9223372036854775807 < ((l.length : Int) + (n : Int))) := by omega
      have h48' : ¬ (281474976710656 < Builtin.nextslicecap (l.length + n) cap * 8) := by
        have := growslice_fits (need := l.length + n) (old := cap) (bytes := 8) (by omega) (by omega)
        omega
      have hr : ∀ ty, (Builtin.append_ #[39, 3] ty #[.slice (some ⟨g, 0, none⟩) l.length cap, .int .i64 (n : Int)]).run Try.prog w = .ok (.slice (some ⟨w.heap.size, 0, none⟩) (l.length + n) (grownCap w (l.length + n) cap 3)) (w.drew.alloc (.cells ((iv l).toArray ++ (iv (List.replicate n 0)).toArray ++ Builtin.zeroCells (Value.int .i64 0).cells (grownCap w (l.length + n) cap 3 - (l.length + n))) 3)) := by
        intro ty
        simp [Builtin.append_, asInt, asIntOf, run_underlying ht, run_underlying hu, sizeOf, typeInfo, zeroValue, hi, hz, hsz, hby, hw, hn0, hnz, h48n, h48', h63', hroom, Question.forced, hfo, newRow, grownCap, zero_iv]
      refine ⟨_, _, hr, .inr ⟨w.heap.size, _, _, by rw [List.length_append, hm], heap_alloc_new w.drew _, by rw [List.length_append, hm]; exact hge, ?_, hall _ _ rfl⟩, ⟨rfl, rfl, rfl, by simp, fun k hk _ => heap_old w.drew _ k hk⟩, .inr rfl⟩
      simp [iv_length, Builtin.zeroCells, Value.cells]; omega
end Go.Proofs.Ytjnekjjaofabeaa
namespace Go.Proofs.Ytjnekjjaofabeaa
open Go.RowKit Go.Rh Rng

structure Rs where
  data : List UInt8
  st : List Int
  en : Int
  told : Bool
  closed : Bool
  limit : Int
  top : Int
def rscells (va : Value) (r : Rs) : Array Value := #[.string (S8 r.data), va, .int .i64 r.en, .bool r.told, .bool r.closed, .int .i64 r.limit, .int .i64 r.top]
def RefAt (F : Nat → Prop) (w : World) (R : Nat) (r : Rs) : Prop :=
  ∃ va, w.heap[R]? = some (.cells (rscells va r) 62 (0, 0)) ∧ OwnI w va r.st ∧ F R ∧ ∀ k, va.ownBlock = some k → F k
theorem RefAt.keep {F S' : Nat → Prop} {w w' : World} {R : Nat} {r : Rs} (h : RefAt F w R r) (k : Keep w w' S') (hd : ∀ i, F i → ¬ S' i) : RefAt F w' R r := by
  obtain ⟨va, h1, h2, f1, f2⟩ := h
  exact ⟨va, (k.block R (heap_lt h1) (hd R f1)).trans h1, h2.keep k (fun i hi => hd i (f2 i hi)), f1, f2⟩
theorem RefAt.mono {F G : Nat → Prop} {w : World} {R : Nat} {r : Rs} (h : RefAt F w R r) (hd : ∀ i, i < w.heap.size → F i → G i) : RefAt G w R r := by
  obtain ⟨va, h1, h2, f1, f2⟩ := h
  exact ⟨va, h1, h2, hd R (heap_lt h1) f1, fun k hk => hd k (h2.lt k hk) (f2 k hk)⟩
theorem RefAt.lt {F : Nat → Prop} {w : World} {R : Nat} {r : Rs} (h : RefAt F w R r) : R < w.heap.size := by obtain ⟨va, h1, _⟩ := h; exact heap_lt h1
theorem RefAt.own {F : Nat → Prop} {w : World} {R : Nat} {r : Rs} (h : RefAt F w R r) : F R := by obtain ⟨va, h1, h2, f1, _⟩ := h; exact f1
theorem RefAt.cells {F : Nat → Prop} {w : World} {R : Nat} {r : Rs} (h : RefAt F w R r) :
    w.cell? ⟨R, 0, none⟩ = some (.string (S8 r.data)) ∧ w.cell? ⟨R, 2, none⟩ = some (.int .i64 r.en) ∧ w.cell? ⟨R, 3, none⟩ = some (.bool r.told) ∧ w.cell? ⟨R, 4, none⟩ = some (.bool r.closed) ∧ w.cell? ⟨R, 5, none⟩ = some (.int .i64 r.limit) ∧ w.cell? ⟨R, 6, none⟩ = some (.int .i64 r.top) ∧ ∀ i, w.frozen? ⟨R, i, none⟩ = false := by
  obtain ⟨va, h1, _⟩ := h
  refine ⟨?_, ?_, ?_, ?_, ?_, ?_, fun i => ?_⟩
  all_goals first
    | (rw [cell_of_row w R _ _ _ _ h1]; rfl)
    | simp [World.frozen?, h1]
/-- A cell of its own is turned (not its row). -/
theorem RefAt.set {F : Nat → Prop} {w : World} {R : Nat} {r : Rs} (h : RefAt F w R r) (i : Nat) (u : Value) (r' : Rs) (hc : ∀ va, (rscells va r).setIfInBounds i u = rscells va r') (hb : r'.st = r.st) : RefAt F (w.setCell ⟨R, i, none⟩ u) R r' := by
  obtain ⟨va, h1, h2, f1, f2⟩ := h
  have kp : Keep w (w.setCell ⟨R, i, none⟩ u) (fun k => k = R) := Keep.setCell (S := fun k => k = R) (Keep.refl w _) (.inr rfl) _
  exact ⟨va, by rw [← hc]; exact set_block h1 i u, by rw [hb]; exact h2.keep kp (fun k hk e => by obtain ⟨cs, e'⟩ := h2.row k hk; exact block_ne e' h1 (by decide) e), f1, f2⟩
/-- Its row: read, turned at a place, turned as a whole. -/
theorem RefAt.row {F : Nat → Prop} {w : World} {R : Nat} {r : Rs} (h : RefAt F w R r) : ∃ A c, w.cell? ⟨R, 1, none⟩ = some (.slice A r.st.length c) ∧ OwnI w (.slice A r.st.length c) r.st ∧ (∀ k, (Value.slice A r.st.length c).ownBlock = some k → F k ∧ k ≠ R) ∧
    (∀ j, j < r.st.length → ∃ g, A = some ⟨g, 0, none⟩ ∧ F g ∧ w.cell? ⟨g, j, none⟩ = some (.int .i64 (r.st.getD j 0)) ∧ w.frozen? ⟨g, j, none⟩ = false ∧ ∀ x, RefAt F (w.setCell ⟨g, j, none⟩ (.int .i64 x)) R { r with st := r.st.set j x }) ∧
    ∀ w' v' st', OwnI w' v' st' → Keep w w' (fun k => (Value.slice A r.st.length c).ownBlock = some k) → (v'.ownBlock = (Value.slice A r.st.length c).ownBlock ∨ v'.ownBlock = some w.heap.size) → RefAt (More F w) (w'.setCell ⟨R, 1, none⟩ v') R { r with st := st' } := by
  obtain ⟨va, h1, h2, f1, f2⟩ := h
  obtain ⟨A, n, c, hn, rfl⟩ := h2.form
  subst hn
  have r3 : ∀ k, (Value.slice A r.st.length c).ownBlock = some k → ∃ cs, w.heap[k]? = some (.cells cs 3 (0, 0)) := h2.row
  have hne : ∀ k, (Value.slice A r.st.length c).ownBlock = some k → k ≠ R := fun k hk => by obtain ⟨cs, e⟩ := r3 k hk; exact block_ne e h1 (by decide)
  refine ⟨A, c, by rw [cell_of_row w R 1 _ _ _ h1]; rfl, h2, fun k hk => ⟨f2 k hk, hne k hk⟩, fun j hj => ?_, fun w' v' st' ho hk ha => ?_⟩
  · obtain ⟨g, c', e, a1, a2, a3⟩ := h2.at hj
    injection e with e1 e2 e3
    subst e1
    have hgR : ¬ R = g := fun e => hne g rfl e.symm
    refine ⟨g, rfl, f2 g rfl, a1, a2, fun x => ⟨.slice (some ⟨g, 0, none⟩) r.st.length c, ?_, a3 x, f1, f2⟩⟩
    rw [Below.heap_setCell _ _ _ R hgR]
    exact h1
  · have hR : w'.heap[R]? = _ := (hk.block R (heap_lt h1) (fun e => hne R e rfl)).trans h1
    have r3' : ∀ k, v'.ownBlock = some k → k ≠ R := fun k hk => by obtain ⟨cs, e⟩ := ho.row k hk; exact block_ne e hR (by decide)
    refine ⟨v', set_block hR 1 v', ho.keep (Keep.setCell (S := fun k => k = R) (Keep.refl w' _) (.inr rfl) _) (fun k hk e => r3' k hk e), .inl f1, fun k e => ?_⟩
    rcases ha with e' | e'
    · exact .inl (f2 k (by rw [← e']; exact e))
    · rw [e'] at e; injection e with e; subst e; exact .inr (Nat.le_refl _)

def refN (limit : Int) : Rs := { data := [], st := [], en := 3, told := false, closed := false, limit := limit, top := 0 }
theorem refnew_any (w : World) (n : Int) : Calls Try.prog 21 #[.int .i64 n] w fun e w' =>
    ∃ R, e = .returned (.pointer (some ⟨R, 0, none⟩)) ∧ RefAt (fun k => w.heap.size ≤ k) w' R (refN n) ∧ Below w.heap.size w w' := by
  go_enter Try.func21, Try.ntmps21
  go_wp2_with fail
  go_ret
  refine ⟨_, rfl, ⟨.slice none 0 0, ?_, .inl ⟨rfl, rfl⟩, Nat.le_refl _, fun k hk => by simp [Value.ownBlock] at hk⟩, (Below.refl _ w).alloc (Nat.le_refl _) _⟩
  exact heap_alloc_new w _
theorem refclose_any {F : Nat → Prop} {w : World} {R : Nat} {r : Rs} (h : RefAt F w R r) (hc : r.closed = false) : Calls Try.prog 23 #[.pointer (some ⟨R, 0, none⟩)] w fun e w' =>
    e = .returned (.int .i64 0) ∧ RefAt F w' R { r with closed := true, en := 0 } ∧ Keep w w' F := by
  obtain ⟨c0, c2, c3, c4, c5, c6, cf⟩ := h.cells
  rw [hc] at c4
  have f4 := cf 4
  have f2 := cf 2
  have hF := h.own
  have HH := Lib.hid h
  clear h cf hc
  go_enter Try.func23, Try.ntmps23
  go_wp2_with fail
  go_ret
  exact ⟨rfl, (HH.out.set 4 (.bool true) { r with closed := true } (fun _ => rfl) rfl).set 2 (.int .i64 0) _ (fun _ => rfl) rfl, ((Keep.refl w F).setCell (.inr hF) _).setCell (.inr hF) _⟩
theorem refclose_no {F : Nat → Prop} {w : World} {R : Nat} {r : Rs} (h : RefAt F w R r) (hc : r.closed = true) : Calls Try.prog 23 #[.pointer (some ⟨R, 0, none⟩)] w fun e w' =>
    e = .returned (.int .i64 10) ∧ w' = w := by
  obtain ⟨c0, c2, c3, c4, c5, c6, cf⟩ := h.cells
  rw [hc] at c4
  clear h cf hc
  go_enter Try.func23, Try.ntmps23
  go_wp2_with fail
  go_ret
  exact ⟨rfl, rfl⟩
theorem refwrite_no {F : Nat → Prop} {w : World} {R : Nat} {r : Rs} (h : RefAt F w R r) (hc : r.closed = true) (d : ByteArray) : Calls Try.prog 22 #[.pointer (some ⟨R, 0, none⟩), .string d] w fun e w' =>
    e = .returned (.int .i64 10) ∧ w' = w := by
  obtain ⟨c0, c2, c3, c4, c5, c6, cf⟩ := h.cells
  rw [hc] at c4
  clear h cf hc
  go_enter Try.func22, Try.ntmps22
  go_wp2_with fail
  go_ret
  exact ⟨rfl, rfl⟩
theorem S8_app (a b : List UInt8) : S8 a ++ S8 b = S8 (a ++ b) := by
  apply ByteArray.ext
  simp [S8, ByteArray.data_append]
theorem append_zeroI0 {w : World} {A : Option Addr} {c : Nat} {l : List Int} (ty : TypeId) (hown : OwnI w (.slice A l.length c) l) {n : Nat} (hn : n = 0) : (Builtin.append_ #[39, 3] ty #[.slice A l.length c, .int .i64 (n : Int)]).run Try.prog w = .ok (.slice A l.length c) w := by
  obtain ⟨i, hi, hz, hsz, hby⟩ := info_parts info3
  have ht := Try.underlying39
  have hu := Try.underlying3
  subst hn
  have hw : IntKind.i64.wrap 0 = 0 := by rw [IntKind.wrap_i64]; rfl
  rcases hown with ⟨e, rfl⟩ | ⟨g, cap, cs, e, hg, hnc, hfit, hcs⟩
  · cases e
    simp [Builtin.append_, asInt, asIntOf, run_underlying ht, run_underlying hu, sizeOf, typeInfo, zeroValue, hi, hz, hsz, hby, hw]
  · cases e
    simp [Builtin.append_, asInt, asIntOf, run_underlying ht, run_underlying hu, sizeOf, typeInfo, zeroValue, hi, hz, hsz, hby, hw, hnc, storeCells]
set_option maxHeartbeats 1000000 in
set_option maxRecDepth 100000 in
theorem refwrite_any {F : Nat → Prop} {w : World} {R : Nat} {r : Rs} (h : RefAt F w R r) (hc : r.closed = false) (d : List UInt8) (hl : r.data.length + d.length ≤ 200000) (hst : r.st.length = r.data.length) : Calls Try.prog 22 #[.pointer (some ⟨R, 0, none⟩), .string (S8 d)] w fun e w' =>
    e = .returned (.int .i64 0) ∧ RefAt (More F w) w' R { r with data := r.data ++ d, st := r.st ++ List.replicate d.length 0 } ∧ Keep w w' F := by
  have h1 : RefAt F (w.setCell ⟨R, 0, none⟩ (.string (S8 (r.data ++ d)))) R { r with data := r.data ++ d } := h.set 0 _ _ (fun _ => rfl) rfl
  obtain ⟨c0, c2, c3, c4, c5, c6, cf⟩ := h.cells
  rw [hc] at c4
  have f0 := cf 0
  have hF := h.own
  have hsz : (S8 d).size = d.length := S8_size d
  have hsz2 : (S8 r.data).size = r.data.length := S8_size r.data
  have hw1 : IntKind.i64.wrap (1048576 - (r.data.length : Int)) = 1048576 - (r.data.length : Int) := by rw [IntKind.wrap_i64]; omega
  have hg : ¬ (1048576 : Int) - (r.data.length : Int) < (d.length : Int) := by omega
  have happ := S8_app r.data d
  have HH := Lib.hid h
  obtain ⟨w1, hw⟩ : ∃ w1, w1 = w.setCell ⟨R, 0, none⟩ (.string (S8 (r.data ++ d))) := ⟨_, rfl⟩
  rw [← hw] at h1
  have k1 : Keep w w1 F := by rw [hw]; exact (Keep.refl w F).setCell (.inr hF) _
  obtain ⟨A, c, d1', ho', hfo', -, hturn'⟩ := h1.row
  have d1 : w1.cell? ⟨R, 1, none⟩ = some (.slice A r.st.length c) := d1'
  have ho : OwnI w1 (.slice A r.st.length c) r.st := ho'
  have hfo : ∀ k, (Value.slice A r.st.length c).ownBlock = some k → F k ∧ k ≠ R := hfo'
  have hturn : ∀ w' v' st', OwnI w' v' st' → Keep w1 w' (fun k => (Value.slice A r.st.length c).ownBlock = some k) → (v'.ownBlock = (Value.slice A r.st.length c).ownBlock ∨ v'.ownBlock = some w1.heap.size) → RefAt (More F w1) (w'.setCell ⟨R, 1, none⟩ v') R { r with data := r.data ++ d, st := st' } := hturn'
  clear d1' ho' hfo' hturn'
  have g1 := h1.cells.2.2.2.2.2.2 1
  have hR1 := h1.lt
  have hbn : r.st.length + d.length ≤ 1000000 := by omega
  clear h cf hc h1 hst
  have HBN := Lib.hid hbn
  clear hbn
  go_enter Try.func22, Try.ntmps22
  go_upto_region 6 with fail
  rw [← hw]
  have HW := Lib.hid hw
  have HO := Lib.hid ho
  have HT := Lib.hid hturn
  have HFO := Lib.hid hfo
  have HK1 := Lib.hid k1
  clear hw ho hturn hfo k1
  rcases Nat.eq_zero_or_pos d.length with h0 | h0
  · have hd : d = [] := List.eq_nil_of_length_eq_zero h0
    have HD := Lib.hid hd
    have H0 := Lib.hid h0
    clear hd h0
    go_wp2_with (at_builtin; refine Lib.wpList_append_run _ rfl _ _ _ _ rfl _ _ rfl rfl _ _ (append_zeroI0 _ HO.out H0.out) ?_)
    go_ret
    refine ⟨rfl, ?_, HK1.out.setCell (.inr hF) _⟩
    have := HT.out w1 _ r.st HO.out (Keep.refl w1 _) (.inl rfl)
    rw [HD.out] at this ⊢
    simp only [List.length_nil, List.replicate_zero, List.append_nil] at this ⊢
    exact this.mono (fun i _ e => by rcases e with e | e; exact .inl e; exact .inr (Nat.le_trans HK1.out.size e))
  · have hap := append_zerosI (w := w1) HO.out d.length h0 HBN.out
    obtain ⟨v2, w2, hr, ho2, hk2, ha2⟩ := hap
    obtain ⟨A2, n2, c2, -, rfl⟩ := ho2.form
    have b2 := hk2.block R hR1 (fun e => (HFO.out R e).2 rfl)
    have g2 : w2.frozen? ⟨R, 1, none⟩ = false := by rw [← g1]; simp [World.frozen?, b2]
    have d2 : w2.cell? ⟨R, 1, none⟩ = some (.slice A r.st.length c) := (World.cell?_of_block b2).trans d1
    have HR := Lib.hid hr
    have HX := Lib.hid (HT.out w2 _ _ ho2 hk2 ha2)
    have HK2 := Lib.hid hk2
    clear hr ho2 hk2 ha2 b2
    go_wp2_with (at_builtin; refine Lib.wpList_append_run _ rfl _ _ _ _ rfl _ _ rfl rfl _ _ (HR.out _) ?_)
    go_ret
    refine ⟨rfl, ?_, (HK1.out.trans HK2.out (fun i _ e => (HFO.out i e).1)).setCell (.inr hF) _⟩
    have hx := HX.out
    have hz := HK1.out.size
    refine hx.mono (fun i _ e => ?_)
    rcases e with e | e
    · exact .inl e
    · exact .inr (Nat.le_trans hz e)
end Go.Proofs.Ytjnekjjaofabeaa
namespace Go.Proofs.Ytjnekjjaofabeaa
open Go.RowKit Go.Rh Rng
attribute [local go_sem] Oper.semAt_some

def rsentB (r : Rs) (off : Int) (d : List UInt8) (fin : Bool) : Bool :=
  decide (0 ≤ off ∧ off ≤ r.top ∧ (d.length : Int) ≤ r.top - off ∧ (r.data.drop off.toNat).take d.length = d ∧ (fin = true → r.told = true ∧ off + (d.length : Int) = (r.data.length : Int)))
theorem run_load57 {w : World} {y : Nat} {off : Int} {d : ByteArray} {f : Bool} (h : w.heap[y]? = some (.cells #[.int .i64 off, .string d, .bool f] 57 (0, 0))) : (Instr.loadAt 57 (.pointer (some ⟨y, 0, none⟩))).run Try.prog w = .ok (.agg #[.int .i64 off, .string d, .bool f]) w := by
  have c0 : w.cell? ⟨y, 0, none⟩ = some (.int .i64 off) := by rw [cell_of_row w y 0 _ _ _ h]; rfl
  have c1 : w.cell? ⟨y, 1, none⟩ = some (.string d) := by rw [cell_of_row w y 1 _ _ _ h]; rfl
  have c2 : w.cell? ⟨y, 2, none⟩ = some (.bool f) := by rw [cell_of_row w y 2 _ _ _ h]; rfl
  go_simp
theorem run_loadV57 {w : World} {y : Nat} {off : Int} {d : ByteArray} {f : Bool} (h : w.heap[y]? = some (.cells #[.int .i64 off, .string d, .bool f] 57 (0, 0))) : (loadVar 57 ⟨y, 0, none⟩).run Try.prog w = .ok (.agg #[.int .i64 off, .string d, .bool f]) w := by
  have c0 : w.cell? ⟨y, 0, none⟩ = some (.int .i64 off) := by rw [cell_of_row w y 0 _ _ _ h]; rfl
  have c1 : w.cell? ⟨y, 1, none⟩ = some (.string d) := by rw [cell_of_row w y 1 _ _ _ h]; rfl
  have c2 : w.cell? ⟨y, 2, none⟩ = some (.bool f) := by rw [cell_of_row w y 2 _ _ _ h]; rfl
  go_simp
theorem S8_inj {a b : List UInt8} (h : (S8 a).toList = (S8 b).toList) : a = b := by
  rw [ByteArray.toList_eq, ByteArray.toList_eq] at h
  simpa [S8] using h
set_option maxHeartbeats 1000000 in
set_option maxRecDepth 100000 in
theorem refsent_any {F : Nat → Prop} {w : World} {R : Nat} {r : Rs} (h : RefAt F w R r) (hb : r.data.length ≤ 199998) (ht : 0 ≤ r.top ∧ r.top ≤ (r.data.length : Int)) (off : Int) (d : List UInt8) (fin : Bool) :
    Calls Try.prog 41 #[.pointer (some ⟨R, 0, none⟩), .agg #[.int .i64 off, .string (S8 d), .bool fin]] w fun e w' =>
      e = .returned (.bool (rsentB r off d fin)) ∧ Keep w w' (fun _ => False) := by
  obtain ⟨c0, c2, c3, c4, c5, c6, -⟩ := h.cells
  have hlt := h.lt
  obtain ⟨x, hx⟩ : ∃ x, x = w.heap.size := ⟨_, rfl⟩
  obtain ⟨wx, hwx⟩ : ∃ wx, wx = w.alloc (.cells #[.int .i64 off, .string (S8 d), .bool fin] 57) := ⟨_, rfl⟩
  have kx : Keep w wx (fun _ => False) := by rw [hwx]; exact (Keep.refl w _).alloc _
  have m1 : wx.heap[x]? = some (.cells #[.int .i64 off, .string (S8 d), .bool fin] 57 (0, 0)) := by rw [hwx, hx]; exact heap_alloc_new _ _
  have eS := kx.block R hlt id
  have e0 : wx.cell? ⟨R, 0, none⟩ = some (.string (S8 r.data)) := (World.cell?_of_block eS).trans c0
  have e3 : wx.cell? ⟨R, 3, none⟩ = some (.bool r.told) := (World.cell?_of_block eS).trans c3
  have e6 : wx.cell? ⟨R, 6, none⟩ = some (.int .i64 r.top) := (World.cell?_of_block eS).trans c6
  have x0 : wx.cell? ⟨x, 0, none⟩ = some (.int .i64 off) := by rw [cell_of_row wx x 0 _ _ _ m1]; rfl
  have x1 : wx.cell? ⟨x, 1, none⟩ = some (.string (S8 d)) := by rw [cell_of_row wx x 1 _ _ _ m1]; rfl
  have x2 : wx.cell? ⟨x, 2, none⟩ = some (.bool fin) := by rw [cell_of_row wx x 2 _ _ _ m1]; rfl
  have hsz : (S8 d).size = d.length := S8_size d
  have hsz2 : (S8 r.data).size = r.data.length := S8_size r.data
  obtain ⟨tp, htp⟩ : ∃ tp, tp = r.top := ⟨_, rfl⟩
  rw [← htp] at e6 ht
  have HTP := Lib.hid htp
  have HKX := Lib.hid kx
  clear h kx m1 eS hlt htp c0 c2 c3 c4 c5 c6
  have hno : (0 ≤ off ∧ off ≤ tp ∧ (d.length : Int) ≤ tp - off → ¬ (r.data.drop off.toNat).take d.length = d) → rsentB r off d fin = false := by
    intro hh
    unfold rsentB
    rw [decide_eq_false_iff_not]
    rintro ⟨g1, g2, g3, g4, g5⟩
    rw [← HTP.out] at g2 g3
    exact hh ⟨g1, g2, g3⟩ g4
  by_cases h1 : off < 0
  · have hr := Lib.hid (hno (fun e => by omega))
    clear hno
    go_enter Try.func41, Try.ntmps41
    go_upto_region 1 with fail
    rw [← hwx, ← hx]
    clear hwx hx
    go_quiet (fail)
    go_wp2_with fail
    go_ret
    exact ⟨by rw [hr.out]; rfl, HKX.out.drewN _⟩
  by_cases h2 : tp < off
  · have hr := Lib.hid (hno (fun e => by omega))
    clear hno
    go_enter Try.func41, Try.ntmps41
    go_upto_region 1 with fail
    rw [← hwx, ← hx]
    clear hwx hx
    go_quiet (fail)
    go_wp2_with fail
    go_ret
    exact ⟨by rw [hr.out]; rfl, HKX.out.drewN _⟩
  have hw1 : IntKind.i64.wrap (tp - off) = tp - off := by rw [IntKind.wrap_i64]; omega
  by_cases h3 : tp - off < (d.length : Int)
  · have hr := Lib.hid (hno (fun e => by omega))
    clear hno
    go_enter Try.func41, Try.ntmps41
    go_upto_region 1 with fail
    rw [← hwx, ← hx]
    clear hwx hx
    go_quiet (fail)
    go_wp2_with fail
    go_ret
    exact ⟨by rw [hr.out]; rfl, HKX.out.drewN _⟩
  obtain ⟨a, ha⟩ : ∃ a : Nat, a = off.toNat := ⟨_, rfl⟩
  have hoa : off = (a : Int) := by omega
  subst hoa
  have ha' : a = ((a : Int)).toNat := by omega
  have hw2 : IntKind.i64.wrap ((a : Int) + (d.length : Int)) = (a : Int) + (d.length : Int) := by rw [IntKind.wrap_i64]; omega
  have hb1 : (0 : Int) ≤ (a : Int) := by omega
  have hb2 : (a : Int) ≤ (a : Int) + (d.length : Int) := by omega
  have hb3 : (a : Int) + (d.length : Int) ≤ (r.data.length : Int) := by omega
  have hb4 : ((a : Int) + (d.length : Int)).toNat = a + d.length := by omega
  have hb5 : (a : Int).toNat = a := by omega
  obtain ⟨g, hg⟩ : ∃ g, g = (r.data.drop a).take d.length := ⟨_, rfl⟩
  have hex : (S8 r.data).extract a (a + d.length) = S8 g := by rw [S8_extract, hg, List.drop_take, Nat.add_sub_cancel_left]
  obtain ⟨ne, hne⟩ : ∃ ne, ne = !((S8 g).toList == (S8 d).toList) := ⟨_, rfl⟩
  have hne' : ((S8 g).toList == (S8 d).toList) = !ne := by rw [hne]; simp
  have HG := Lib.hid hg
  have HNE := Lib.hid hne
  have HNO := Lib.hid hno
  clear hg hne hno ha ha'
  go_enter Try.func41, Try.ntmps41
  go_upto_region 1 with fail
  rw [← hwx, ← hx]
  clear hwx hx
  go_quiet (fail)
  have HNE2 := HNE
  clear hne'
  cases ne with
  | true =>
    have hr : rsentB r (a : Int) d fin = false := by
      refine HNO.out fun _ e => ?_
      rw [Int.toNat_natCast] at e
      have h := HNE.out
      rw [HG.out, e] at h
      simp at h
    have HR := Lib.hid hr
    clear hr
    go_wp2_with fail
    go_ret
    exact ⟨by rw [HR.out]; rfl, HKX.out.drewN _⟩
  | false =>
    have hgd : g = d := by
      have h := HNE.out
      simp at h
      exact S8_inj h
    have hyes : ∀ v, (v = true ↔ (fin = true → r.told = true ∧ (a : Int) + (d.length : Int) = (r.data.length : Int))) → rsentB r (a : Int) d fin = v := by
      intro v hr
      unfold rsentB
      have h2' := h2
      have h3' := h3
      rw [HTP.out] at h2' h3'
      cases v with
      | true => exact decide_eq_true ⟨by omega, by omega, by omega, by rw [Int.toNat_natCast]; exact HG.out.symm.trans hgd, hr.1 rfl⟩
      | false => exact decide_eq_false (fun e => by have := hr.2 e.2.2.2.2; cases this)
    have HY := Lib.hid hyes
    clear hyes hgd
    cases fin with
    | false =>
      have hr := Lib.hid (HY.out true (by simp))
      go_wp2_with fail
      go_ret
      exact ⟨by rw [hr.out]; rfl, HKX.out.drewN _⟩
    | true =>
      cases hes : r.told with
      | false =>
        have hr := Lib.hid (HY.out false (by simp [hes]))
        rw [hes] at e3
        clear hes
        go_wp2_with fail
        go_quiet (fail)
        go_wp2_with fail
        go_ret
        exact ⟨by rw [hr.out]; rfl, (HKX.out.drewN _).drewN _⟩
      | true =>
        obtain ⟨v, hr0⟩ : ∃ v, v = ((a : Int) + (d.length : Int) == (r.data.length : Int)) := ⟨_, rfl⟩
        have hr := Lib.hid (HY.out v (by rw [hr0]; simp [hes]))
        rw [hes] at e3
        have HR0 := Lib.hid hr0
        clear hes hr0
        go_wp2_with fail
        go_quiet (fail)
        go_wp2_with fail
        go_ret
        exact ⟨by rw [hr.out, HR0.out]; rfl, (HKX.out.drewN _).drewN _⟩
end Go.Proofs.Ytjnekjjaofabeaa
namespace Go.Proofs.Ytjnekjjaofabeaa
open Go.RowKit Go.Rh Rng
attribute [local go_sem] Oper.semAt_some

def lostL (st : List Int) (a n : Nat) : List Int := st.mapIdx fun j x => if a ≤ j ∧ j < a + n ∧ x = 1 then 0 else x
def cameL (st : List Int) (a n : Nat) : List Int := st.mapIdx fun j x => if a ≤ j ∧ j < a + n then 2 else x
theorem lostL_length (st : List Int) (a n : Nat) : (lostL st a n).length = st.length := by simp [lostL]
theorem cameL_length (st : List Int) (a n : Nat) : (cameL st a n).length = st.length := by simp [cameL]
theorem lostL_getD {st : List Int} {a n j : Nat} (h : j < st.length) : (lostL st a n).getD j 0 = if a ≤ j ∧ j < a + n ∧ st.getD j 0 = 1 then 0 else st.getD j 0 := by
  unfold lostL
  rw [List.getD_eq_getElem?_getD, List.getD_eq_getElem?_getD, List.getElem?_mapIdx, List.getElem?_eq_getElem h]
  rfl
theorem cameL_getD {st : List Int} {a n j : Nat} (h : j < st.length) : (cameL st a n).getD j 0 = if a ≤ j ∧ j < a + n then 2 else st.getD j 0 := by
  unfold cameL
  rw [List.getD_eq_getElem?_getD, List.getD_eq_getElem?_getD, List.getElem?_mapIdx, List.getElem?_eq_getElem h]
  rfl
theorem getD_ext {l m : List Int} (hl : l.length = m.length) (h : ∀ j, j < l.length → l.getD j 0 = m.getD j 0) : l = m := by
  apply List.ext_getElem hl
  intro j h1 h2
  have := h j h1
  rw [List.getD_eq_getElem?_getD, List.getD_eq_getElem?_getD, List.getElem?_eq_getElem h1, List.getElem?_eq_getElem h2] at this
  exact this
theorem set_getD {l : List Int} {i j : Nat} {x : Int} (h : j < l.length) : (l.set i x).getD j 0 = if i = j then x else l.getD j 0 := by
  rw [List.getD_eq_getElem?_getD, List.getD_eq_getElem?_getD]
  by_cases e : i = j
  · subst e
    rw [if_pos rfl, List.getElem?_set_self h]
    rfl
  · rw [if_neg e, List.getElem?_set_ne e]
theorem lostL_zero (st : List Int) (a : Nat) : lostL st a 0 = st := getD_ext (lostL_length _ _ _) fun j hj => by rw [lostL_length] at hj; rw [lostL_getD hj, if_neg (by omega)]
theorem cameL_zero (st : List Int) (a : Nat) : cameL st a 0 = st := getD_ext (cameL_length _ _ _) fun j hj => by rw [cameL_length] at hj; rw [cameL_getD hj, if_neg (by omega)]
theorem lostL_set {st : List Int} {a k : Nat} (h : st.getD (a + k) 0 = 1) : (lostL st a k).set (a + k) 0 = lostL st a (k + 1) := by
  refine getD_ext (by rw [List.length_set, lostL_length, lostL_length]) fun j hj => ?_
  rw [List.length_set, lostL_length] at hj
  rw [set_getD (by rw [lostL_length]; exact hj), lostL_getD hj, lostL_getD hj]
  by_cases e : a + k = j
  · subst e; rw [if_pos rfl, if_pos ⟨by omega, by omega, h⟩]
  · rw [if_neg e]
    by_cases e2 : a ≤ j ∧ j < a + k ∧ st.getD j 0 = 1
    · rw [if_pos e2, if_pos ⟨e2.1, by omega, e2.2.2⟩]
    · rw [if_neg e2, if_neg (fun e3 => e2 ⟨e3.1, by omega, e3.2.2⟩)]
theorem lostL_skip {st : List Int} {a k : Nat} (h : ¬ st.getD (a + k) 0 = 1) : lostL st a (k + 1) = lostL st a k := by
  refine getD_ext (by rw [lostL_length, lostL_length]) fun j hj => ?_
  rw [lostL_length] at hj
  rw [lostL_getD hj, lostL_getD hj]
  by_cases e2 : a ≤ j ∧ j < a + k ∧ st.getD j 0 = 1
  · rw [if_pos e2, if_pos ⟨e2.1, by omega, e2.2.2⟩]
  · rw [if_neg e2, if_neg (fun e3 => e2 ⟨e3.1, by
      by_cases e : j = a + k
      · subst e; exact absurd e3.2.2 h
      · omega, e3.2.2⟩)]
theorem cameL_set (st : List Int) (a k : Nat) : (cameL st a k).set (a + k) 2 = cameL st a (k + 1) := by
  refine getD_ext (by rw [List.length_set, cameL_length, cameL_length]) fun j hj => ?_
  rw [List.length_set, cameL_length] at hj
  rw [set_getD (by rw [cameL_length]; exact hj), cameL_getD hj, cameL_getD hj]
  by_cases e : a + k = j
  · subst e; rw [if_pos rfl, if_pos ⟨by omega, by omega⟩]
  · rw [if_neg e]
    by_cases e2 : a ≤ j ∧ j < a + k
    · rw [if_pos e2, if_pos ⟨e2.1, by omega⟩]
    · rw [if_neg e2, if_neg (fun e3 => e2 ⟨e3.1, by omega⟩)]
theorem setCell_drewN (w : World) (m : Nat) (p : Addr) (v : Value) : (w.drewN m).setCell p v = (w.setCell p v).drewN m := by first | rfl | (unfold World.setCell World.drewN; rfl)
def rlost (r : Rs) (a n : Nat) (fin : Bool) : Rs := { r with st := lostL r.st a n, en := if fin = true ∧ r.en = 1 then 0 else r.en }
def rcame (r : Rs) (a n : Nat) (fin : Bool) : Rs := { r with st := cameL r.st a n, en := if fin = true then 2 else r.en }

set_option maxHeartbeats 1000000 in
set_option maxRecDepth 100000 in
theorem reflost_any {F : Nat → Prop} {w : World} {R : Nat} {r : Rs} (h : RefAt F w R r) (hb : r.data.length ≤ 199998) (hst : r.st.length = r.data.length) (ht : 0 ≤ r.top ∧ r.top ≤ (r.data.length : Int)) (a : Nat) (d : List UInt8) (fin : Bool) (hs : rsentB r a d fin = true) :
    Calls Try.prog 27 #[.pointer (some ⟨R, 0, none⟩), .agg #[.int .i64 (a : Int), .string (S8 d), .bool fin]] w fun e w' =>
      e = .returned (.int .i64 0) ∧ RefAt F w' R (rlost r a d.length fin) ∧ Keep w w' F := by
  have hok := hs
  unfold rsentB at hok
  rw [decide_eq_true_eq] at hok
  obtain ⟨-, ho1, ho2, -, -⟩ := hok
  have hF := h.own
  have hlt := h.lt
  obtain ⟨x, hx⟩ : ∃ x, x = w.heap.size := ⟨_, rfl⟩
  obtain ⟨wx, hwx⟩ : ∃ wx, wx = w.alloc (.cells #[.int .i64 (a : Int), .string (S8 d), .bool fin] 57) := ⟨_, rfl⟩
  have kx : Keep w wx (fun _ => False) := by rw [hwx]; exact (Keep.refl w _).alloc _
  have m1 : wx.heap[x]? = some (.cells #[.int .i64 (a : Int), .string (S8 d), .bool fin] 57 (0, 0)) := by rw [hwx, hx]; exact heap_alloc_new _ _
  have x0 : wx.cell? ⟨x, 0, none⟩ = some (.int .i64 (a : Int)) := by rw [cell_of_row wx x 0 _ _ _ m1]; rfl
  have x1 : wx.cell? ⟨x, 1, none⟩ = some (.string (S8 d)) := by rw [cell_of_row wx x 1 _ _ _ m1]; rfl
  have x2 : wx.cell? ⟨x, 2, none⟩ = some (.bool fin) := by rw [cell_of_row wx x 2 _ _ _ m1]; rfl
  have h1 : RefAt (fun i => F i ∧ i < w.heap.size) wx R r := (h.mono (fun i hi e => ⟨e, hi⟩)).keep kx (fun _ _ => id)
  have hsent := refsent_any h1 hb ht (a : Int) d fin
  rw [hs] at hsent
  have hsz : (S8 d).size = d.length := S8_size d
  obtain ⟨n, hn⟩ : ∃ n, n = d.length := ⟨_, rfl⟩
  have hbd : a + n ≤ r.st.length := by omega
  have hbd2 : r.st.length ≤ 199998 := by omega
  rw [← hn] at hsz
  have HN := Lib.hid hn
  have HM := Lib.hid m1
  have HS := Lib.hid hsent
  have H1 := Lib.hid h1
  have HKX := Lib.hid kx
  have HX := Lib.hid hx
  have HBD := Lib.hid (show a + n ≤ r.st.length ∧ r.st.length ≤ 199998 from ⟨hbd, hbd2⟩)
  clear h hst ht hs ho1 ho2 hn m1 hsent h1 kx hb hbd hbd2
  go_enter Try.func27, Try.ntmps27
  go_upto_region 1 with fail
  rw [← hwx, ← hx]
  clear hwx hx
  go_wp2_with (first | (go_at_call 41; refine HS.out.mono ?_; rintro e w1 ⟨rfl, k1⟩; have HK1 := Lib.hid k1; clear k1 x0 x1 x2))
  have k01 : Keep w w1 (fun _ => False) := HKX.out.trans HK1.out (fun _ _ e => e)
  have HK01 := Lib.hid k01
  have HXM : Hid (w1.heap[x]? = some (.cells #[.int .i64 (a : Int), .string (S8 d), .bool fin] 57 (0, 0))) := (HK1.out.block x (heap_lt HM.out) id).trans HM.out
  clear k01
  go_loopw [5] (fun i wr => ∃ k : Nat, i = .int .i64 (k : Int) ∧ k ≤ n ∧ RefAt (fun i => F i ∧ i < w.heap.size) wr R { r with st := lostL r.st a k } ∧ Keep w1 wr (fun i => F i ∧ i < w.heap.size)) (fun i _ => n - (intOf i).toNat)
  case atStart => exact ⟨0, rfl, Nat.zero_le _, by rw [lostL_zero]; exact H1.out.keep HK1.out (fun _ _ => id), Keep.refl _ _⟩
  case round =>
    obtain ⟨k, rfl, hk, hr, hkp⟩ := hrel
    have hnx : ¬ (F x ∧ x < w.heap.size) := fun e => by have := e.2; have := HX.out; omega
    have mx := (hkp.block x (heap_lt HXM.out) hnx).trans HXM.out
    have x0 : wr.cell? ⟨x, 0, none⟩ = some (.int .i64 (a : Int)) := by rw [cell_of_row wr x 0 _ _ _ mx]; rfl
    have x1 : wr.cell? ⟨x, 1, none⟩ = some (.string (S8 d)) := by rw [cell_of_row wr x 1 _ _ _ mx]; rfl
    have x2 : wr.cell? ⟨x, 2, none⟩ = some (.bool fin) := by rw [cell_of_row wr x 2 _ _ _ mx]; rfl
    have HR := Lib.hid hr
    have HKP := Lib.hid hkp
    have hbd := HBD.out
    by_cases hlt2 : k < n
    · obtain ⟨A, c, d1, ho, hfo, hat, -⟩ := hr.row
      simp only [lostL_length] at d1 ho hfo hat
      obtain ⟨g, rfl, hFg, cg, fg, hset⟩ := hat (a + k) (by omega)
      have hw1 : IntKind.i64.wrap ((a : Int) + (k : Int)) = ((a + k : Nat) : Int) := by rw [IntKind.wrap_i64]; omega
      have hL : a + k < r.st.length := by omega
      rw [lostL_getD hL, if_neg (by omega)] at cg
      obtain ⟨v, hv⟩ : ∃ v, v = r.st.getD (a + k) 0 := ⟨_, rfl⟩
      rw [← hv] at cg
      obtain ⟨N, hN⟩ : ∃ N, N = r.st.length := ⟨_, rfl⟩
      rw [← hN] at d1 hL hbd
      have HV := Lib.hid hv
      have HSET := Lib.hid hset
      have HFG := Lib.hid hFg
      have hk1 : (k : Int) < (n : Int) := by omega
      clear hr hkp mx ho hfo hat hv hset hFg hnx hN
      by_cases hv1 : v = 1
      · subst hv1
        go_wp2_with fail
        go_quiet (fail)
        go_upto_region 7 with fail
        go_region
        all_goals
          go_wp2_with fail
          go_roundw
          case rel =>
            refine ⟨k + 1, by go_num, by omega, ?_, (HKP.out.drewN _).setCell (.inr HFG.out) _⟩
            have := HSET.out 0
            rw [lostL_set (by rw [← HV.out])] at this
            rw [setCell_drewN]
            exact this.keep ((Keep.refl _ (fun _ => False)).drewN _) (fun _ _ => id)
          case measure => simp [intOf]; omega
      · go_wp2_with fail
        go_quiet (fail)
        go_wp2_with fail
        go_roundw
        case rel =>
          refine ⟨k + 1, by go_num, by omega, ?_, HKP.out.drewN _⟩
          rw [lostL_skip (by rw [← HV.out]; exact hv1)]
          exact HR.out.keep ((Keep.refl _ (fun _ => False)).drewN _) (fun _ _ => id)
        case measure => simp [intOf]; omega
    · obtain rfl : k = n := by omega
      obtain ⟨c0, c2', c3, c4, c5, c6, cf⟩ := hr.cells
      have f2 := cf 2
      obtain ⟨en, hen⟩ : ∃ en, en = r.en := ⟨_, rfl⟩
      have c2 : wr.cell? ⟨R, 2, none⟩ = some (.int .i64 en) := by rw [hen]; exact c2'
      have HEN := Lib.hid hen
      have hcl : (fin = true ∧ en = 1) ∨ fin = false ∨ (fin = true ∧ ¬ en = 1) := by
        cases fin
        · exact .inr (.inl rfl)
        · by_cases e : en = 1
          · exact .inl ⟨rfl, e⟩
          · exact .inr (.inr ⟨rfl, e⟩)
      have hend : ∀ (W : World) (e2 : Int), RefAt (fun i => F i ∧ i < w.heap.size) W R { r with st := lostL r.st a k, en := e2 } → Keep w1 W (fun i => F i ∧ i < w.heap.size) → e2 = (if fin = true ∧ r.en = 1 then 0 else r.en) → RefAt F W R (rlost r a d.length fin) ∧ Keep w W F := by
        intro W e2 h1 h2 h3
        subst h3
        unfold rlost
        rw [← HN.out]
        exact ⟨h1.mono (fun i _ e => e.1), (HK01.out.mono (T := F) (fun _ _ e => e.elim)).trans h2 (fun i _ e => e.1)⟩
      have HEND := Lib.hid hend
      have HLT := Lib.hid hlt
      clear hr hkp mx hnx cf c0 c2' c3 c4 c5 c6 hen hend hlt hbd
      rcases hcl with ⟨h1, h2⟩ | h1 | ⟨h1, h2⟩
      · subst h1
        subst h2
        go_wp2_with fail
        go_ret
        obtain ⟨l1, l2⟩ := HEND.out (wr.setCell ⟨R, 2, none⟩ (.int .i64 0)) 0 (HR.out.set 2 (.int .i64 0) { r with st := lostL r.st a k, en := 0 } (fun _ => rfl) rfl) (HKP.out.setCell (.inr ⟨hF, HLT.out⟩) _) (by rw [← HEN.out]; rfl)
        exact ⟨rfl, l1, l2⟩
      · subst h1
        go_wp2_with fail
        go_ret
        obtain ⟨l1, l2⟩ := HEND.out wr r.en HR.out HKP.out (by simp)
        exact ⟨rfl, l1, l2⟩
      · subst h1
        go_wp2_with fail
        go_ret
        obtain ⟨l1, l2⟩ := HEND.out wr r.en HR.out HKP.out (by rw [← HEN.out, if_neg (fun e => h2 e.2)])
        exact ⟨rfl, l1, l2⟩
theorem reflost_no {F : Nat → Prop} {w : World} {R : Nat} {r : Rs} (h : RefAt F w R r) (hb : r.data.length ≤ 199998) (ht : 0 ≤ r.top ∧ r.top ≤ (r.data.length : Int)) (off : Int) (d : List UInt8) (fin : Bool) (hs : rsentB r off d fin = false) :
    Calls Try.prog 27 #[.pointer (some ⟨R, 0, none⟩), .agg #[.int .i64 off, .string (S8 d), .bool fin]] w fun e w' =>
      e = .returned (.int .i64 1) ∧ Keep w w' (fun _ => False) := by
  obtain ⟨x, hx⟩ : ∃ x, x = w.heap.size := ⟨_, rfl⟩
  obtain ⟨wx, hwx⟩ : ∃ wx, wx = w.alloc (.cells #[.int .i64 off, .string (S8 d), .bool fin] 57) := ⟨_, rfl⟩
  have kx : Keep w wx (fun _ => False) := by rw [hwx]; exact (Keep.refl w _).alloc _
  have m1 : wx.heap[x]? = some (.cells #[.int .i64 off, .string (S8 d), .bool fin] 57 (0, 0)) := by rw [hwx, hx]; exact heap_alloc_new _ _
  have x0 : wx.cell? ⟨x, 0, none⟩ = some (.int .i64 off) := by rw [cell_of_row wx x 0 _ _ _ m1]; rfl
  have x1 : wx.cell? ⟨x, 1, none⟩ = some (.string (S8 d)) := by rw [cell_of_row wx x 1 _ _ _ m1]; rfl
  have x2 : wx.cell? ⟨x, 2, none⟩ = some (.bool fin) := by rw [cell_of_row wx x 2 _ _ _ m1]; rfl
  have hsent := refsent_any (h.keep kx (fun _ _ => id)) hb ht off d fin
  rw [hs] at hsent
  have HS := Lib.hid hsent
  have HKX := Lib.hid kx
  clear hsent kx h m1
  go_enter Try.func27, Try.ntmps27
  go_upto_region 1 with fail
  rw [← hwx, ← hx]
  clear hwx hx
  go_wp2_with (first | (go_at_call 41; refine HS.out.mono ?_; rintro e w1 ⟨rfl, k1⟩; have HK1 := Lib.hid k1; clear k1))
  go_ret
  exact ⟨rfl, HKX.out.trans HK1.out (fun _ _ e => e)⟩
end Go.Proofs.Ytjnekjjaofabeaa
namespace Go.Proofs.Ytjnekjjaofabeaa
open Go.RowKit Go.Rh Rng
attribute [local go_sem] Oper.semAt_some

set_option maxHeartbeats 1000000 in
set_option maxRecDepth 100000 in
theorem refcame_any {F : Nat → Prop} {w : World} {R : Nat} {r : Rs} (h : RefAt F w R r) (hb : r.data.length ≤ 199998) (hst : r.st.length = r.data.length) (ht : 0 ≤ r.top ∧ r.top ≤ (r.data.length : Int)) (a : Nat) (d : List UInt8) (fin : Bool) (hs : rsentB r a d fin = true) :
    Calls Try.prog 29 #[.pointer (some ⟨R, 0, none⟩), .agg #[.int .i64 (a : Int), .string (S8 d), .bool fin]] w fun e w' =>
      e = .returned (.int .i64 0) ∧ RefAt F w' R (rcame r a d.length fin) ∧ Keep w w' F := by
  have hok := hs
  unfold rsentB at hok
  rw [decide_eq_true_eq] at hok
  obtain ⟨-, ho1, ho2, -, -⟩ := hok
  have hF := h.own
  have hlt := h.lt
  obtain ⟨x, hx⟩ : ∃ x, x = w.heap.size := ⟨_, rfl⟩
  obtain ⟨wx, hwx⟩ : ∃ wx, wx = w.alloc (.cells #[.int .i64 (a : Int), .string (S8 d), .bool fin] 57) := ⟨_, rfl⟩
  have kx : Keep w wx (fun _ => False) := by rw [hwx]; exact (Keep.refl w _).alloc _
  have m1 : wx.heap[x]? = some (.cells #[.int .i64 (a : Int), .string (S8 d), .bool fin] 57 (0, 0)) := by rw [hwx, hx]; exact heap_alloc_new _ _
  have x0 : wx.cell? ⟨x, 0, none⟩ = some (.int .i64 (a : Int)) := by rw [cell_of_row wx x 0 _ _ _ m1]; rfl
  have x1 : wx.cell? ⟨x, 1, none⟩ = some (.string (S8 d)) := by rw [cell_of_row wx x 1 _ _ _ m1]; rfl
  have x2 : wx.cell? ⟨x, 2, none⟩ = some (.bool fin) := by rw [cell_of_row wx x 2 _ _ _ m1]; rfl
  have h1 : RefAt (fun i => F i ∧ i < w.heap.size) wx R r := (h.mono (fun i hi e => ⟨e, hi⟩)).keep kx (fun _ _ => id)
  have hsent := refsent_any h1 hb ht (a : Int) d fin
  rw [hs] at hsent
  have hsz : (S8 d).size = d.length := S8_size d
  obtain ⟨n, hn⟩ : ∃ n, n = d.length := ⟨_, rfl⟩
  have hbd : a + n ≤ r.st.length := by omega
  have hbd2 : r.st.length ≤ 199998 := by omega
  rw [← hn] at hsz
  have HN := Lib.hid hn
  have HM := Lib.hid m1
  have HS := Lib.hid hsent
  have H1 := Lib.hid h1
  have HKX := Lib.hid kx
  have HX := Lib.hid hx
  have HBD := Lib.hid (show a + n ≤ r.st.length ∧ r.st.length ≤ 199998 from ⟨hbd, hbd2⟩)
  clear h hst ht hs ho1 ho2 hn m1 hsent h1 kx hb hbd hbd2
  go_enter Try.func29, Try.ntmps29
  go_upto_region 1 with fail
  rw [← hwx, ← hx]
  clear hwx hx
  go_wp2_with (first | (go_at_call 41; refine HS.out.mono ?_; rintro e w1 ⟨rfl, k1⟩; have HK1 := Lib.hid k1; clear k1 x0 x1 x2))
  have k01 : Keep w w1 (fun _ => False) := HKX.out.trans HK1.out (fun _ _ e => e)
  have HK01 := Lib.hid k01
  have HXM : Hid (w1.heap[x]? = some (.cells #[.int .i64 (a : Int), .string (S8 d), .bool fin] 57 (0, 0))) := (HK1.out.block x (heap_lt HM.out) id).trans HM.out
  clear k01
  go_loopw [5] (fun i wr => ∃ k : Nat, i = .int .i64 (k : Int) ∧ k ≤ n ∧ RefAt (fun i => F i ∧ i < w.heap.size) wr R { r with st := cameL r.st a k } ∧ Keep w1 wr (fun i => F i ∧ i < w.heap.size)) (fun i _ => n - (intOf i).toNat)
  case atStart => exact ⟨0, rfl, Nat.zero_le _, by rw [cameL_zero]; exact H1.out.keep HK1.out (fun _ _ => id), Keep.refl _ _⟩
  case round =>
    obtain ⟨k, rfl, hk, hr, hkp⟩ := hrel
    have hnx : ¬ (F x ∧ x < w.heap.size) := fun e => by have := e.2; have := HX.out; omega
    have mx := (hkp.block x (heap_lt HXM.out) hnx).trans HXM.out
    have x0 : wr.cell? ⟨x, 0, none⟩ = some (.int .i64 (a : Int)) := by rw [cell_of_row wr x 0 _ _ _ mx]; rfl
    have x1 : wr.cell? ⟨x, 1, none⟩ = some (.string (S8 d)) := by rw [cell_of_row wr x 1 _ _ _ mx]; rfl
    have x2 : wr.cell? ⟨x, 2, none⟩ = some (.bool fin) := by rw [cell_of_row wr x 2 _ _ _ mx]; rfl
    have HR := Lib.hid hr
    have HKP := Lib.hid hkp
    have hbd := HBD.out
    by_cases hlt2 : k < n
    · obtain ⟨A, c, d1, ho, hfo, hat, -⟩ := hr.row
      simp only [cameL_length] at d1 ho hfo hat
      obtain ⟨g, rfl, hFg, cg, fg, hset⟩ := hat (a + k) (by omega)
      have hw1 : IntKind.i64.wrap ((a : Int) + (k : Int)) = ((a + k : Nat) : Int) := by rw [IntKind.wrap_i64]; omega
      have hL : a + k < r.st.length := by omega
      obtain ⟨N, hN⟩ : ∃ N, N = r.st.length := ⟨_, rfl⟩
      rw [← hN] at d1 hL hbd
      obtain ⟨vv, hvv⟩ : ∃ vv, vv = (cameL r.st a k).getD (a + k) 0 := ⟨_, rfl⟩
      rw [← hvv] at cg
      have HSET := Lib.hid hset
      have HFG := Lib.hid hFg
      have hk1 : (k : Int) < (n : Int) := by omega
      clear hr hkp mx ho hfo hat hset hFg hnx hN hvv
      go_wp2_with fail
      go_region
      all_goals
        go_wp2_with fail
        go_roundw
        case rel =>
          refine ⟨k + 1, by go_num, by omega, ?_, (HKP.out.setCell (.inr HFG.out) _).drew⟩
          have := HSET.out 2
          rw [cameL_set] at this
          exact this.keep ((Keep.refl _ (fun _ => False)).drew) (fun _ _ => id)
        case measure => simp [intOf]; omega
    · obtain rfl : k = n := by omega
      obtain ⟨c0, c2', c3, c4, c5, c6, cf⟩ := hr.cells
      have f2 := cf 2
      have hend : ∀ (W : World) (e2 : Int), RefAt (fun i => F i ∧ i < w.heap.size) W R { r with st := cameL r.st a k, en := e2 } → Keep w1 W (fun i => F i ∧ i < w.heap.size) → e2 = (if fin = true then 2 else r.en) → RefAt F W R (rcame r a d.length fin) ∧ Keep w W F := by
        intro W e2 h1 h2 h3
        subst h3
        unfold rcame
        rw [← HN.out]
        exact ⟨h1.mono (fun i _ e => e.1), (HK01.out.mono (T := F) (fun _ _ e => e.elim)).trans h2 (fun i _ e => e.1)⟩
      have HEND := Lib.hid hend
      have HLT := Lib.hid hlt
      clear hr hkp mx hnx cf c0 c3 c4 c5 c6 hend hlt hbd
      cases fin with
      | true =>
        go_wp2_with fail
        go_ret
        obtain ⟨l1, l2⟩ := HEND.out (wr.setCell ⟨R, 2, none⟩ (.int .i64 2)) 2 (HR.out.set 2 (.int .i64 2) { r with st := cameL r.st a k, en := 2 } (fun _ => rfl) rfl) (HKP.out.setCell (.inr ⟨hF, HLT.out⟩) _) (by simp)
        exact ⟨rfl, l1, l2⟩
      | false =>
        go_wp2_with fail
        go_ret
        obtain ⟨l1, l2⟩ := HEND.out wr r.en HR.out HKP.out (by simp)
        exact ⟨rfl, l1, l2⟩
theorem refcame_no {F : Nat → Prop} {w : World} {R : Nat} {r : Rs} (h : RefAt F w R r) (hb : r.data.length ≤ 199998) (ht : 0 ≤ r.top ∧ r.top ≤ (r.data.length : Int)) (off : Int) (d : List UInt8) (fin : Bool) (hs : rsentB r off d fin = false) :
    Calls Try.prog 29 #[.pointer (some ⟨R, 0, none⟩), .agg #[.int .i64 off, .string (S8 d), .bool fin]] w fun e w' =>
      e = .returned (.int .i64 1) ∧ Keep w w' (fun _ => False) := by
  obtain ⟨x, hx⟩ : ∃ x, x = w.heap.size := ⟨_, rfl⟩
  obtain ⟨wx, hwx⟩ : ∃ wx, wx = w.alloc (.cells #[.int .i64 off, .string (S8 d), .bool fin] 57) := ⟨_, rfl⟩
  have kx : Keep w wx (fun _ => False) := by rw [hwx]; exact (Keep.refl w _).alloc _
  have m1 : wx.heap[x]? = some (.cells #[.int .i64 off, .string (S8 d), .bool fin] 57 (0, 0)) := by rw [hwx, hx]; exact heap_alloc_new _ _
  have x0 : wx.cell? ⟨x, 0, none⟩ = some (.int .i64 off) := by rw [cell_of_row wx x 0 _ _ _ m1]; rfl
  have x1 : wx.cell? ⟨x, 1, none⟩ = some (.string (S8 d)) := by rw [cell_of_row wx x 1 _ _ _ m1]; rfl
  have x2 : wx.cell? ⟨x, 2, none⟩ = some (.bool fin) := by rw [cell_of_row wx x 2 _ _ _ m1]; rfl
  have hsent := refsent_any (h.keep kx (fun _ _ => id)) hb ht off d fin
  rw [hs] at hsent
  have HS := Lib.hid hsent
  have HKX := Lib.hid kx
  clear hsent kx h m1
  go_enter Try.func29, Try.ntmps29
  go_upto_region 1 with fail
  rw [← hwx, ← hx]
  clear hwx hx
  go_wp2_with (first | (go_at_call 41; refine HS.out.mono ?_; rintro e w1 ⟨rfl, k1⟩; have HK1 := Lib.hid k1; clear k1))
  go_ret
  exact ⟨rfl, HKX.out.trans HK1.out (fun _ _ e => e)⟩

def rdone (r : Rs) : Bool := r.st.all (fun x => decide (x = 2)) && (r.closed && decide (r.en = 2))
theorem all_two {st : List Int} : st.all (fun x => decide (x = 2)) = true ↔ ∀ j, j < st.length → st.getD j 0 = 2 := by
  rw [List.all_eq_true]
  constructor
  · intro h j hj
    have := h _ (List.getElem_mem hj)
    rw [List.getD_eq_getElem?_getD, List.getElem?_eq_getElem hj]
    simpa using this
  · intro h x hx
    obtain ⟨j, hj, rfl⟩ := List.mem_iff_getElem.1 hx
    have := h j hj
    rw [List.getD_eq_getElem?_getD, List.getElem?_eq_getElem hj] at this
    simpa using this
set_option maxRecDepth 100000 in
theorem refdone_any {F : Nat → Prop} {w : World} {R : Nat} {r : Rs} (h : RefAt F w R r) (hb : r.st.length ≤ 199998) : Calls Try.prog 30 #[.pointer (some ⟨R, 0, none⟩)] w fun e w' => e = .returned (.bool (rdone r)) ∧ w' = w := by
  obtain ⟨c0, c2, c3, c4, c5, c6, cf⟩ := h.cells
  obtain ⟨A, c, d1, ho, hfo, hat, -⟩ := h.row
  obtain ⟨n, hn⟩ : ∃ n, n = r.st.length := ⟨_, rfl⟩
  rw [← hn] at d1 hat hb
  have HAT := Lib.hid hat
  have HN := Lib.hid hn
  clear h ho hfo hat hn cf
  go_enter Try.func30, Try.ntmps30
  go_wp2_with fail
  go_loopw [3] (fun i wr => ∃ k : Nat, i = .int .i64 (k : Int) ∧ k ≤ n ∧ (∀ j, j < k → r.st.getD j 0 = 2) ∧ wr = w) (fun i _ => n - (intOf i).toNat)
  case atStart => exact ⟨0, rfl, Nat.zero_le _, fun j hj => absurd hj (by omega), rfl⟩
  case round =>
    obtain ⟨k, rfl, hk, hall, rfl⟩ := hrel
    have HALL := Lib.hid hall
    clear hall
    by_cases hlt : k < n
    · obtain ⟨g, rfl, hFg, cg, fg, hset⟩ := HAT.out k hlt
      obtain ⟨v, hv⟩ : ∃ v, v = r.st.getD k 0 := ⟨_, rfl⟩
      rw [← hv] at cg
      have HV := Lib.hid hv
      have hk1 : (k : Int) < (n : Int) := by omega
      clear hv hset hFg
      by_cases h2 : v = 2
      · go_wp2_with fail
        go_roundw
        case rel => exact ⟨k + 1, by go_num, by omega, fun j hj => by
          by_cases e : j < k
          · exact HALL.out j e
          · have : j = k := by omega
            subst this
            rw [← HV.out]; exact h2, by first | rfl | trivial⟩
        case measure => simp [intOf]; omega
      · have hr : rdone r = false := by
          unfold rdone
          have : ¬ r.st.all (fun x => decide (x = 2)) = true := fun e => h2 (by rw [HV.out]; exact all_two.1 e k (by rw [← HN.out]; exact hlt))
          rw [Bool.not_eq_true] at this
          rw [this]; rfl
        have HR := Lib.hid hr
        clear hr
        go_wp2_with fail
        go_ret
        exact ⟨by rw [HR.out]; rfl, rfl⟩
    · obtain rfl : k = n := by omega
      obtain ⟨v, hv⟩ : ∃ v, v = (r.en == 2) := ⟨_, rfl⟩
      have hr : rdone r = (r.closed && v) := by
        unfold rdone
        have : r.st.all (fun x => decide (x = 2)) = true := all_two.2 (by rw [← HN.out]; exact HALL.out)
        rw [this, hv, Bool.true_and]
        congr 1
      have HR := Lib.hid hr
      have HV := Lib.hid hv
      clear hr hv
      cases hcl : r.closed with
      | false =>
        rw [hcl] at c4
        have HC := Lib.hid hcl
        clear hcl
        go_wp2_with fail
        go_ret
        exact ⟨by rw [HR.out, HC.out]; rfl, rfl⟩
      | true =>
        rw [hcl] at c4
        have HC := Lib.hid hcl
        clear hcl
        go_wp2_with fail
        go_ret
        exact ⟨by rw [HR.out, HC.out, HV.out]; rfl, rfl⟩
end Go.Proofs.Ytjnekjjaofabeaa
namespace Go.Proofs.Ytjnekjjaofabeaa
open Go.RowKit Go.Rh Rng

def markL (st : List Int) (i k : Nat) : List Int := st.mapIdx fun j x => if i ≤ j ∧ j < k then 1 else x
theorem markL_length (st : List Int) (i k : Nat) : (markL st i k).length = st.length := by simp [markL]
theorem markL_getD {st : List Int} {i k j : Nat} (h : j < st.length) : (markL st i k).getD j 0 = if i ≤ j ∧ j < k then 1 else st.getD j 0 := by
  unfold markL
  rw [List.getD_eq_getElem?_getD, List.getD_eq_getElem?_getD, List.getElem?_mapIdx, List.getElem?_eq_getElem h]
  rfl
theorem markL_zero (st : List Int) (i : Nat) : markL st i i = st := getD_ext (markL_length _ _ _) fun j hj => by rw [markL_length] at hj; rw [markL_getD hj, if_neg (by omega)]
theorem markL_set {st : List Int} {i k : Nat} (hik : i ≤ k) : (markL st i k).set k 1 = markL st i (k + 1) := by
  refine getD_ext (by rw [List.length_set, markL_length, markL_length]) fun j hj => ?_
  rw [List.length_set, markL_length] at hj
  rw [set_getD (by rw [markL_length]; exact hj), markL_getD hj, markL_getD hj]
  by_cases e : k = j
  · subst e; rw [if_pos rfl, if_pos ⟨hik, by omega⟩]
  · rw [if_neg e]
    by_cases e2 : i ≤ j ∧ j < k
    · rw [if_pos e2, if_pos ⟨e2.1, by omega⟩]
    · rw [if_neg e2, if_neg (fun e3 => e2 ⟨e3.1, by omega⟩)]
/-- What Next answers, and what is left. -/
def rnone : Value := .tuple #[.agg #[.int .i64 0, .string ⟨#[]⟩, .bool false], .bool false]
def rmark (r : Rs) (i k : Nat) : Rs := { r with st := markL r.st i k, top := max r.top (k : Int), en := if k = r.st.length ∧ r.en = 0 then 1 else r.en, told := if k = r.st.length ∧ r.en = 0 then true else r.told }
def RNext (r : Rs) (most : Int) (out : Value) (r' : Rs) : Prop :=
  (most < 1 ∧ out = rnone ∧ r' = r) ∨
  (1 ≤ most ∧ ∃ i : Nat, i ≤ r.st.length ∧ (∀ j, j < i → r.st.getD j 0 ≠ 0) ∧ (i = 0 ∨ (i : Int) ≤ r.limit) ∧
    ((i < r.st.length ∧ (i : Int) < r.limit ∧ r.st.getD i 0 = 0 ∧ ∃ k : Nat, i < k ∧ k ≤ r.st.length ∧ (k : Int) ≤ r.limit ∧ (k : Int) - (i : Int) ≤ most ∧ (∀ j, i ≤ j → j < k → r.st.getD j 0 = 0) ∧
        (k = r.st.length ∨ r.limit ≤ (k : Int) ∨ most ≤ (k : Int) - (i : Int) ∨ r.st.getD k 0 ≠ 0) ∧
        out = .tuple #[.agg #[.int .i64 (i : Int), .string (S8 ((r.data.drop i).take (k - i))), .bool (decide (k = r.st.length ∧ r.en = 0))], .bool true] ∧ r' = rmark r i k) ∨
     ((i = r.st.length ∨ r.limit ≤ (i : Int)) ∧
        ((r.en = 0 ∧ (r.data.length : Int) ≤ r.limit ∧ out = .tuple #[.agg #[.int .i64 (r.data.length : Int), .string ⟨#[]⟩, .bool true], .bool true] ∧ r' = { r with en := 1, told := true }) ∨
         (¬ (r.en = 0 ∧ (r.data.length : Int) ≤ r.limit) ∧ out = rnone ∧ r' = r)))))
end Go.Proofs.Ytjnekjjaofabeaa
