/-
  An array of 32 bytes as an argument: opened and shut; a law's row from its walk.
-/
import Derived.Test.YtikmghmapmlebaaRows
import Derived.Test.YtikmghmapmlebaaFb
import Derived.ProofKit
namespace Go.Proofs.Ytikmghmapmlebaa
open Go.ChangeShapes Go.WideShapes Go.ChangeAt Go.RowKit Go.Rh

theorem Try.own : ownKnob Try.prog.godebug = none := by kernel_rfl
theorem Try.laidOut : laidOutB Try.prog = true := by kernel_rfl
theorem cells22 : Try.prog.cellsOf 22 = 32 := by kernel_rfl
theorem cells5 : Try.prog.cellsOf 5 = 1 := by kernel_rfl

def dB {H : Type} (g : Nat → Nat) : DataW H := .agg ((List.range 32).map fun i => .lit (.int .u8 (g i)))

theorem wf_u8 {n : Nat} (h : n < 256) : (Lit.int .u8 (n : Int)).wf = true := by
  simp [Lit.wf, IntKind.min, IntKind.max, IntKind.signed, IntKind.bits]; omega

section
variable {H : Type} {enc : TypeId × Value → H} {w : World} {base : Nat} {spare : Nat → Bool} {held : Bool}

theorem mapM_some {α β : Type} (f : α → Option β) (g : α → β) : ∀ (l : List α), (∀ x ∈ l, f x = some (g x)) → l.mapM f = some (l.map g)
  | [], _ => rfl
  | x :: l, h => by
    rw [List.mapM_cons, h x (by simp), mapM_some f g l fun y hy => h y (List.mem_cons_of_mem _ hy)]
    rfl

theorem row_at (g : Nat → Nat) (i : Nat) (hi : i < 32) : (((U8 g).toList.drop (i * 1)).take 1) = [.int .u8 (g i)] := by
  have hl : i < (U8 g).toList.length := by simp [U8]; omega
  rw [Nat.mul_one, List.drop_eq_getElem_cons hl, List.take_succ_cons, List.take_zero]
  congr 1
  simp [U8, vals]

theorem shut_bytes (g : Nat → Nat) (hg : ∀ j, j < 32 → g j < 256) : DataW.Trod enc Try.prog w base spare held 22 (.agg (U8 g)) (dB g) [] := by
  refine ⟨2, ?_⟩
  have hm : ((List.range 32).mapM fun i => DataW.trod enc Try.prog w base spare held 1 5 ((((U8 g).toList).drop (i * Try.prog.cellsOf 5)).take (Try.prog.cellsOf 5))) =
      some ((List.range 32).map fun i => ((.lit (.int .u8 (g i)) : DataW H), ([] : List MemPlace))) := by
    refine mapM_some _ _ _ fun i hi => ?_
    have hi' := List.mem_range.1 hi
    rw [cells5, row_at g i hi']
    unfold DataW.trod
    rw [Try.underlying5]
    simp [wf_u8 (hg i hi')]
  show DataW.trod enc Try.prog w base spare held 2 22 (U8 g).toList = _
  unfold DataW.trod
  rw [Try.underlying22]
  have hl : (U8 g).toList.length = Try.prog.cellsOf 22 := by rw [cells22]; simp [U8]
  simp only [hl, if_true]
  rw [hm]
  simp [dB]

theorem open_bytes {r : Reach} {b0 : Nat} {v : Value} {d : DataW H} {ps : List MemPlace} (hval : Value.okWide Try.prog w r b0 22 v) (hd : DataW.Trod enc Try.prog w base spare held 22 v d ps) :
    ∃ g, (∀ j, j < 32 → g j < 256) ∧ v = .agg (U8 g) ∧ d = dB g ∧ ps = [] := by
  simp only [Value.okWide, Try.underlying22] at hval
  obtain ⟨cs, rfl, hsz, _⟩ := hval
  rw [cells22] at hsz
  obtain ⟨fuel, hf⟩ := hd
  obtain ⟨xs, m, rfl, hx, _, hxl, hel⟩ := DataW.trod_array Try.underlying22 hf
  simp only [Value.cells, cells5] at hel
  have each : ∀ i, i < 32 → ∃ n : Int, cs[i]? = some (.int .u8 n) ∧ xs[i]? = some (.lit (.int .u8 n), []) ∧ (Lit.int .u8 n).wf = true := by
    intro i hi
    have h := hel i hi
    have hil : i < xs.length := by omega
    rw [List.getElem?_eq_getElem hil] at h
    obtain ⟨n, h1, h2, h3⟩ := DataW.trod_int Try.underlying5 h
    refine ⟨n, ?_, by rw [List.getElem?_eq_getElem hil, h2], h3⟩
    have hl : i < cs.toList.length := by simp [hsz]; exact hi
    rw [Nat.mul_one, List.drop_eq_getElem_cons hl, List.take_succ_cons, List.take_zero] at h1
    have := (List.cons.inj h1).1
    simp at this
    rw [Array.getElem?_eq_getElem (by omega), this]
  let g : Nat → Nat := fun i => match cs[i]? with | some (.int _ n) => n.toNat | _ => 0
  have hg : ∀ i, i < 32 → ∃ n : Int, cs[i]? = some (.int .u8 n) ∧ xs[i]? = some (.lit (.int .u8 n), []) ∧ 0 ≤ n ∧ n < 256 ∧ (g i : Int) = n := by
    intro i hi
    obtain ⟨n, h1, h2, h3⟩ := each i hi
    have hb := bounds_u8 h3
    refine ⟨n, h1, h2, hb.1, by omega, ?_⟩
    show (((match cs[i]? with | some (.int _ n) => n.toNat | _ => 0 : Nat)) : Int) = n
    rw [h1]
    simp only []
    omega
  have hcs : cs = U8 g := by
    apply Array.ext_getElem?
    intro i
    by_cases hi : i < 32
    · obtain ⟨n, h1, _, _, _, h5⟩ := hg i hi
      rw [h1]; unfold U8; rw [vals_get _ _ hi, h5]
    · rw [Array.getElem?_eq_none (by omega), Array.getElem?_eq_none (by simp [U8]; omega)]
  refine ⟨g, fun j hj => ?_, by rw [hcs], ?_, ?_⟩
  · obtain ⟨n, _, _, h3, h4, h5⟩ := hg j hj; omega
  · rw [show d = .agg (xs.map (·.1)) from congrArg Prod.fst hx]
    unfold dB
    congr 1
    apply List.ext_getElem?
    intro i
    by_cases hi : i < 32
    · obtain ⟨n, _, h2, _, _, h5⟩ := hg i hi
      simp [h2, hi, h5]
    · rw [List.getElem?_eq_none (by simp; omega), List.getElem?_eq_none (by simp; omega)]
  · rw [show ps = xs.flatMap (·.2) from congrArg Prod.snd hx, List.flatMap_eq_nil_iff]
    intro x hxm
    obtain ⟨i, hi⟩ := List.mem_iff_getElem?.1 hxm
    have hil : i < 32 := by have := (List.getElem?_eq_some_iff.1 hi).1; omega
    obtain ⟨n, _, h2, _⟩ := hg i hil
    rw [h2] at hi
    rw [← Option.some.inj hi]

/-- What a row asks behind the call, where below the heap's old size nothing has turned and no variable is read. -/
theorem post_of_below {P : Program} {f : Func} {s : ChangeSpec} {apart fresh handsOn again : Bool} {W W' : World} {args : Array Value} {v : Value} {ds gs : List (DataW H)} {before pa pv : List MemPlace}
    (hW : DataW.Whole enc P f.params.toList s.vars apart W args.toList ds gs before)
    (hres : ∀ (b : Nat) (sp : Nat → Bool) (hd : Bool), DataW.TrodAll enc P W' b sp hd f.resultTypes.toList (v.resultList f.resultTypes.size) (s.fn H (ds ++ gs)).results [])
    (hargs : ∀ sp : Nat → Bool, (∀ p ∈ before, sp p.block = true) → DataW.TrodAll enc P W' 0 sp true f.params.toList args.toList (s.fn H (ds ++ gs)).args pa)
    (hvars : ∀ sp : Nat → Bool, (∀ p ∈ before, sp p.block = true) → DataW.TrodVars enc P W' sp s.vars (s.fn H (ds ++ gs)).vars pv)
    (hps : before = pa ++ pv) (hb : Below W.heap.size W W')
    (hok : ∀ (j : Nat) (t : TypeId) (r : Value), f.resultTypes[j]? = some t → (v.resultList f.resultTypes.size)[j]? = some r → Value.okWide P W' .any 0 t r) :
    s.post enc P f apart fresh handsOn again W args v W' := by
  have hold : ∀ p ∈ before, (fun b => decide (b < W.heap.size)) p.block = true := fun p hp => by simpa using hW.lt p hp
  have hlt : ∀ p ∈ before, p.block < W.heap.size := fun p hp => hW.lt p hp
  refine ⟨ds, gs, before, [], pa, pv, hW, hres _ _ _, hargs _ hold, hvars _ hold, hb.frame _, fun _ => ?_⟩
  obtain ⟨_, _, _, _, _, hz, hn⟩ := hW
  refine ⟨hok, _, _, ([] ++ pa) ++ pv, ⟨[] ++ pa, pv, trodAll_append (hargs _ (fun _ _ => rfl)) (hres _ _ _), hvars _ (fun _ _ => rfl), rfl, ?_, ?_⟩, ?_⟩
  · intro b off hp
    have hp' : MemPlace.cell b off ∈ before := by rw [hps]; simpa using hp
    rw [hb.frozen (hlt _ hp')]
    exact hz b off hp'
  · intro ha
    have := hn ha
    rw [hps] at this
    simpa using this
  · intro p hp _
    rw [hps]
    simpa using hp
end
end Go.Proofs.Ytikmghmapmlebaa
