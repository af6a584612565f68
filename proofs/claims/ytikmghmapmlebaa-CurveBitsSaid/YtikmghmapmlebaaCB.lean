/-
  CurveBits: bits that do not count: the call returns true and its argument reads as it did, for every input (no condition).
-/
import Derived.Test.YtikmghmapmlebaaT
import Derived.Test.YtikmghmapmlebaaYx
import Derived.ChangeSame
namespace Go.Proofs.Ytikmghmapmlebaa
open Go.ChangeShapes Go.WideShapes Go.ChangeAt Go.RowKit Go.Rh

theorem cells50 : Try.prog.cellsOf 50 = 66 := by kernel_rfl
def dBend {H : Type} (f : Nat → Nat) : DataW H := .agg [dB fun j => f j, dB fun j => f (32 + j), .lit (.int .u8 (f 64)), .lit (.int .u8 (f 65))]
section
variable {H : Type} {enc : TypeId × Value → H} {w : World} {base : Nat} {spare : Nat → Bool} {held : Bool}
theorem open_list {n : Nat} {l : List Value} {d : DataW H} {ps : List MemPlace} (h : DataW.trod enc Try.prog w base spare held n 22 l = some (d, ps)) :
    ∃ g, (∀ j, j < 32 → g j < 256) ∧ l = (U8 g).toList ∧ d = dB g ∧ ps = [] := by
  obtain ⟨cs, hcsl⟩ : ∃ cs : Array Value, cs = l.toArray := ⟨_, rfl⟩
  have hll : l = cs.toList := by rw [hcsl]
  rw [hll] at h ⊢
  clear hll hcsl
  obtain ⟨xs, m, rfl, hx, hlen, hxl, hel⟩ := DataW.trod_array Try.underlying22 h
  have hsz : cs.size = 32 := by rw [cells22] at hlen; simpa using hlen
  simp only [cells5] at hel
  have each : ∀ i, i < 32 → ∃ n : Int, cs[i]? = some (.int .u8 n) ∧ xs[i]? = some (.lit (.int .u8 n), []) ∧ (Lit.int .u8 n).wf = true := by
    intro i hi
    have h := hel i hi
    have hil : i < xs.length := by omega
    rw [List.getElem?_eq_getElem hil] at h
    obtain ⟨n, h1, h2, h3⟩ := DataW.trod_int Try.underlying5 h
    refine ⟨n, ?_, by rw [List.getElem?_eq_getElem hil, h2], h3⟩
    have hl : i < cs.toList.length := by simp [hsz]; exact hi
    rw [Nat.mul_one, List.drop_eq_getElem_cons hl, List.take_succ_cons, List.take_zero] at h1
    have := (List.cons.inj h1).1
    simp at this
    rw [Array.getElem?_eq_getElem (by omega), this]
  let g : Nat → Nat := fun i => match cs[i]? with | some (.int _ n) => n.toNat | _ => 0
  have hg : ∀ i, i < 32 → ∃ n : Int, cs[i]? = some (.int .u8 n) ∧ xs[i]? = some (.lit (.int .u8 n), []) ∧ 0 ≤ n ∧ n < 256 ∧ (g i : Int) = n := by
    intro i hi
    obtain ⟨n, h1, h2, h3⟩ := each i hi
    have hb := bounds_u8 h3
    refine ⟨n, h1, h2, hb.1, by omega, ?_⟩
    show (((match cs[i]? with | some (.int _ n) => n.toNat | _ => 0 : Nat)) : Int) = n
    rw [h1]
    simp only []
    omega
  have hcs : cs = U8 g := by
    apply Array.ext_getElem?
    intro i
    by_cases hi : i < 32
    · obtain ⟨n, h1, _, _, _, h5⟩ := hg i hi
      rw [h1]; unfold U8; rw [vals_get _ _ hi, h5]
    · rw [Array.getElem?_eq_none (by omega), Array.getElem?_eq_none (by simp [U8]; omega)]
  refine ⟨g, fun j hj => ?_, by rw [hcs], ?_, ?_⟩
  · obtain ⟨n, _, _, h3, h4, h5⟩ := hg j hj; omega
  · rw [show d = .agg (xs.map (·.1)) from congrArg Prod.fst hx]
    unfold dB
    congr 1
    apply List.ext_getElem?
    intro i
    by_cases hi : i < 32
    · obtain ⟨n, _, h2, _, _, h5⟩ := hg i hi
      simp [h2, hi, h5]
    · rw [List.getElem?_eq_none (by simp; omega), List.getElem?_eq_none (by simp; omega)]
  · rw [show ps = xs.flatMap (·.2) from congrArg Prod.snd hx, List.flatMap_eq_nil_iff]
    intro x hxm
    obtain ⟨i, hi⟩ := List.mem_iff_getElem?.1 hxm
    have hil : i < 32 := by have := (List.getElem?_eq_some_iff.1 hi).1; omega
    obtain ⟨n, _, h2, _⟩ := hg i hil
    rw [h2] at hi
    rw [← Option.some.inj hi]


theorem get_B66 (f : Nat → Nat) {i : Nat} (hi : i < 66) : (B66 f)[i]? = some (.int .u8 ((f i : Nat) : Int)) := vals_get _ _ hi
theorem get_U8 (g : Nat → Nat) {i : Nat} (hi : i < 32) : (U8 g)[i]? = some (.int .u8 ((g i : Nat) : Int)) := vals_get _ _ hi
theorem take_get {cs : Array Value} {l : List Value} {o n i : Nat} (h : (cs.toList.drop o).take n = l) (hi : i < n) : cs[o + i]? = l[i]? := by
  rw [← h, List.getElem?_take, if_pos hi, List.getElem?_drop, Array.getElem?_toList]
theorem take_of (f : Nat → Nat) (o : Nat) (ho : o + 32 ≤ 66) : ((B66 f).toList.drop o).take 32 = (U8 fun j => f (o + j)).toList := by
  apply List.ext_getElem?
  intro i
  by_cases hi : i < 32
  · rw [← take_get rfl hi, get_B66 f (by omega), Array.getElem?_toList, get_U8 _ hi]
  · rw [List.getElem?_eq_none (by simp; omega), List.getElem?_eq_none (by simp [U8]; omega)]
theorem take_one (f : Nat → Nat) (o : Nat) (ho : o < 66) : ((B66 f).toList.drop o).take 1 = [.int .u8 ((f o : Nat) : Int)] := by
  apply List.ext_getElem?
  intro i
  by_cases hi : i < 1
  · obtain rfl : i = 0 := by omega
    rw [← take_get rfl hi, get_B66 f (by omega)]
    rfl
  · rw [List.getElem?_eq_none (by simp; omega), List.getElem?_eq_none (by simp; omega)]
theorem shut_bend {f : Nat → Nat} (hf : ∀ j, j < 66 → f j < 256) : DataW.Trod enc Try.prog w base spare held 50 (.agg (B66 f)) (dBend f) [] := by
  obtain ⟨k0, h0⟩ := shut_bytes (enc := enc) (w := w) (base := base) (spare := spare) (held := held) (fun j => f j) (fun j hj => hf j (by omega))
  obtain ⟨k1, h1⟩ := shut_bytes (enc := enc) (w := w) (base := base) (spare := spare) (held := held) (fun j => f (32 + j)) (fun j hj => hf _ (by omega))
  have h0' := DataW.trod_le (m := k0 + k1 + 1) (by omega) h0
  have h1' := DataW.trod_le (m := k0 + k1 + 1) (by omega) h1
  have e0 := take_of f 0 (by omega)
  rw [show (fun j => f (0 + j)) = fun j => f j from funext fun j => by rw [Nat.zero_add]] at e0
  refine ⟨k0 + k1 + 1 + 1, ?_⟩
  have := trod_struct_mk (enc := enc) (w := w) (base := base) (spare := spare) (held := held) (n := k0 + k1 + 1) (cs := (B66 f).toList)
    (xs := [(dB fun j => f j, []), (dB fun j => f (32 + j), []), (.lit (.int .u8 (f 64)), []), (.lit (.int .u8 (f 65)), [])]) Try.underlying50 (by rw [cells50]; simp [B66]) (by
      have i2 := trod_int_mk (enc := enc) (w := w) (base := base) (spare := spare) (held := held) (k0 + k1) Try.underlying5 (wf_u8 (hf 64 (by omega)))
      have i3 := trod_int_mk (enc := enc) (w := w) (base := base) (spare := spare) (held := held) (k0 + k1) Try.underlying5 (wf_u8 (hf 65 (by omega)))
      simp only [Value.cells] at h0' h1'
      simp only [List.mapM_cons, List.mapM_nil, cells22, cells5, e0, take_of f 32 (by omega), take_one f 64 (by omega), take_one f 65 (by omega), h0', h1', i2, i3]
      rfl)
  show DataW.trod enc Try.prog w base spare held (k0 + k1 + 1 + 1) 50 (B66 f).toList = _
  simpa [dBend] using this
theorem open_bend {r : Reach} {b0 : Nat} {v : Value} {d : DataW H} {ps : List MemPlace} (hval : Value.okWide Try.prog w r b0 50 v) (hd : DataW.Trod enc Try.prog w base spare held 50 v d ps) :
    ∃ f, (∀ j, j < 66 → f j < 256) ∧ v = .agg (B66 f) ∧ d = dBend f ∧ ps = [] := by
  simp only [Value.okWide, Try.underlying50] at hval
  obtain ⟨cs, rfl, hsz, _⟩ := hval
  rw [cells50] at hsz
  obtain ⟨fuel, hf⟩ := hd
  obtain ⟨xs, m, rfl, hx, _, hxl, hel⟩ := DataW.trod_struct Try.underlying50 hf
  match xs, hxl with
  | [(y0, p0), (y1, p1), (y2, p2), (y3, p3)], _ =>
    have h0 := hel 0 _ rfl
    have h1 := hel 1 _ rfl
    have h2 := hel 2 _ rfl
    have h3 := hel 3 _ rfl
    simp only [Value.cells, cells22, cells5] at h0 h1 h2 h3
    have H0 : DataW.trod enc Try.prog w base spare held m 22 ((cs.toList.drop 0).take 32) = some (y0, p0) := h0
    have H1 : DataW.trod enc Try.prog w base spare held m 22 ((cs.toList.drop 32).take 32) = some (y1, p1) := h1
    have H2 : DataW.trod enc Try.prog w base spare held m 5 ((cs.toList.drop 64).take 1) = some (y2, p2) := h2
    have H3 : DataW.trod enc Try.prog w base spare held m 5 ((cs.toList.drop 65).take 1) = some (y3, p3) := h3
    clear h0 h1 h2 h3 hel
    obtain ⟨g, hg, e0, rfl, rfl⟩ := open_list H0
    obtain ⟨h, hh, e1, rfl, rfl⟩ := open_list H1
    obtain ⟨lo, e2, q2, w2⟩ := DataW.trod_int Try.underlying5 H2
    obtain ⟨hi, e3, q3, w3⟩ := DataW.trod_int Try.underlying5 H3
    have b2 := bounds_u8 w2
    have b3 := bounds_u8 w3
    obtain ⟨rfl, rfl⟩ := Prod.mk.inj q2
    obtain ⟨rfl, rfl⟩ := Prod.mk.inj q3
    let f : Nat → Nat := fun j => if j < 32 then g j else if j < 64 then h (j - 32) else if j = 64 then lo.toNat else hi.toNat
    have f0 : (fun j => f j) = f := rfl
    have fg : ∀ j, j < 32 → f j = g j := fun j hj => by show (if _ then _ else _) = _; rw [if_pos hj]
    have fh : ∀ j, j < 32 → f (32 + j) = h j := fun j hj => by
      show (if _ then _ else _) = _
      rw [if_neg (by omega), if_pos (by omega)]; congr 1; omega
    have f64 : ((f 64 : Nat) : Int) = lo := by show (((if _ then _ else _ : Nat)) : Int) = _; rw [if_neg (by omega), if_neg (by omega), if_pos rfl]; omega
    have f65 : ((f 65 : Nat) : Int) = hi := by show (((if _ then _ else _ : Nat)) : Int) = _; rw [if_neg (by omega), if_neg (by omega), if_neg (by omega)]; omega
    have hcs : cs = B66 f := by
      apply Array.ext_getElem?
      intro i
      by_cases hi66 : i < 66
      · rw [get_B66 f hi66]
        by_cases h32 : i < 32
        · have := take_get e0 h32
          rw [Nat.zero_add, Array.getElem?_toList, get_U8 g h32] at this
          rw [this, fg i h32]
        · by_cases h64 : i < 64
          · have := take_get e1 (i := i - 32) (by omega)
            rw [show 32 + (i - 32) = i by omega, Array.getElem?_toList, get_U8 h (by omega)] at this
            rw [this, ← fh (i - 32) (by omega), show 32 + (i - 32) = i by omega]
          · by_cases he : i = 64
            · subst he
              have := take_get e2 (i := 0) (by decide)
              rw [this, f64]; rfl
            · obtain rfl : i = 65 := by omega
              have := take_get e3 (i := 0) (by decide)
              rw [this, f65]; rfl
      · rw [Array.getElem?_eq_none (by omega), Array.getElem?_eq_none (by simp [B66]; omega)]
    refine ⟨f, fun j hj => ?_, by rw [hcs], ?_, ?_⟩
    · by_cases h32 : j < 32
      · rw [fg j h32]; exact hg j h32
      · by_cases h64 : j < 64
        · have := fh (j - 32) (by omega)
          rw [show 32 + (j - 32) = j by omega] at this
          rw [this]; exact hh _ (by omega)
        · by_cases he : j = 64
          · subst he; omega
          · obtain rfl : j = 65 := by omega
            omega
    · rw [show d = _ from congrArg Prod.fst hx]
      unfold dBend
      rw [f64, f65]
      have d0 : (dB g : DataW H) = dB fun j => f j := by
        unfold dB
        exact congrArg DataW.agg (List.map_congr_left fun j hj => by simp only [fg j (List.mem_range.1 hj)])
      have d1 : (dB h : DataW H) = dB fun j => f (32 + j) := by
        unfold dB
        exact congrArg DataW.agg (List.map_congr_left fun j hj => by simp only [fh j (List.mem_range.1 hj)])
      simp [d0, d1]
    · rw [show ps = _ from congrArg Prod.snd hx]; rfl
end

set_option maxRecDepth 100000 in
theorem curveBits_lifted (os : Os) (started : os.Started) (H : Type) (enc : TypeId × Value → H) :
    ReturnsInHanded {} Try.checked os 10 .any (Rows.curveBitsSpec.pre6 enc Try.prog Try.f10 Rows.curveBitsRow.domain false) (Rows.curveBitsSpec.post enc Try.prog Try.f10 false true false false) := by
  refine returnsInHanded_of_change (C := Try.checked) Try.own started (by kernel_rfl) Try.func10
    (ChangeSpec.witness6 (enc := enc) (C := Try.checked) false ⟨#[], #[.agg (B66 fun _ => 0)], []⟩ 8 (by kernel_rfl) (by kernel_rfl) (by kernel_rfl) (by kernel_rfl)) ?_
  intro W base args ds gs before hval0 hW hcnd _
  have hval : ∀ (j : Nat) t v, Try.f10.params[j]? = some t → args[j]? = some v → Value.okWide Try.prog W .any base t v := hval0
  have hW' := hW
  obtain ⟨p, q, hA0, hV, rfl, hfz, hnd⟩ := hW
  have hA : DataW.TrodAll enc Try.prog W 0 (fun _ => true) true Try.f10.params.toList args.toList ds p := hA0
  rw [Try.params10] at hA hval
  obtain ⟨v0, d0, rfl, rfl, h0⟩ := trodAll_one hA
  obtain ⟨rfl, rfl⟩ := trodVars_none hV
  obtain ⟨f, hf, rfl, rfl, rfl⟩ := open_bend (hval 0 50 v0 rfl rfl) h0
  clear hA0 hval0
  simp only [List.append_nil] at hW'
  refine (cbits_any f hf W).mono fun e W' ⟨he, hw⟩ => ?_
  subst he
  exact ⟨_, rfl, post_of_below (pa := []) (pv := []) hW' (fun _ _ _ => trodAll_mk1 (shut_bool Try.underlying4 true)) (fun sp _ => trodAll_mk1 (shut_bend hf)) (fun _ _ => rfl) rfl
    hw (ok_one (by kernel_rfl) rfl (okWide_bool_mk Try.underlying4 true))⟩

theorem curveBits_holds : Rows.CurveBitsSaid :=
  OpenClaim.holds_of_wide 10 Try.f10 rfl rfl rfl rfl rfl rfl rfl ⟨rfl, rfl, rfl, rfl, rfl⟩ rfl rfl rfl rfl rfl (by kernel_rfl) Try.func10 (by kernel_rfl)
    (of_decide_eq_true (by kernel_rfl)) (by unfold Func.isWrapper; first | (rw [if_pos (by decide +kernel)]; kernel_rfl) | (rw [if_neg (by decide +kernel)]; exact ⟨rfl, rfl⟩))
    (fun os started H enc _ => curveBits_lifted os started H enc)
end Go.Proofs.Ytikmghmapmlebaa
