/-
  Public and Shared walked; two rows of 32 bytes compared; no condition.
-/
import Derived.Test.YtikmghmapmlebaaYn
import Derived.Test.YtikmghmapmlebaaYo
import Derived.Stop.BytesEq
namespace Go.Proofs.Ytikmghmapmlebaa
open Go.RowKit Go.Rh F255
open Go.Extern.Stop (cell)

/-- 32 bytes as a list. -/
def bl (g : Nat → Nat) : List UInt8 := (List.range 32).map fun j => UInt8.ofNat (g j)
theorem U8_bl {g : Nat → Nat} (hg : ∀ j, j < 32 → g j < 256) : U8 g = ((bl g).map cell).toArray := by
  apply Array.ext_getElem?
  intro j
  by_cases hj : j < 32
  · have h1 : (U8 g)[j]? = some (.int .u8 ((g j : Nat) : Int)) := vals_get _ _ hj
    rw [h1]
    simp [bl, cell, hj, Nat.mod_eq_of_lt (hg j hj)]
  · rw [Array.getElem?_eq_none (by simp [U8]; omega), Array.getElem?_eq_none (by simp [bl]; omega)]
theorem run_eqU8 {g h : Nat → Nat} (hg : ∀ j, j < 32 → g j < 256) (hh : ∀ j, j < 32 → h j < 256) (w : World) :
    (binOp .eql 22 (.agg (U8 g)) (.agg (U8 h))).run Try.prog w = .ok (.bool (bl g == bl h)) w := by
  rw [U8_bl hg, U8_bl hh]
  exact run_eql_bytes w 22 5 32 Try.underlying22 Try.underlying5 Try.sizeOf5 _ _ (by simp [bl]) (by simp [bl])
theorem run_neU8 {g h : Nat → Nat} (hg : ∀ j, j < 32 → g j < 256) (hh : ∀ j, j < 32 → h j < 256) (w : World) :
    (binOp .neq 22 (.agg (U8 g)) (.agg (U8 h))).run Try.prog w = .ok (.bool (!(bl g == bl h))) w := by
  rw [U8_bl hg, U8_bl hh, run_neq_struct, run_equalIn_bytes w 9998 22 5 32 Try.underlying22 Try.underlying5 Try.sizeOf5 _ _ (by simp [bl]) (by simp [bl])]
  rfl
theorem run_inU8 {g h : Nat → Nat} (hg : ∀ j, j < 32 → g j < 256) (hh : ∀ j, j < 32 → h j < 256) (w : World) :
    (Op.equalIn 10000 22 (.agg (U8 g)) (.agg (U8 h))).run Try.prog w = .ok (bl g == bl h) w := by
  rw [U8_bl hg, U8_bl hh]
  exact run_equalIn_bytes w 9998 22 5 32 Try.underlying22 Try.underlying5 Try.sizeOf5 _ _ (by simp [bl]) (by simp [bl])
theorem bl_eq {g h : Nat → Nat} (hg : ∀ j, j < 32 → g j < 256) (hh : ∀ j, j < 32 → h j < 256) : bl g = bl h ↔ ∀ j, j < 32 → g j = h j := by
  constructor
  · intro e j hj
    have := congrArg (fun l : List UInt8 => (l[j]?).map (·.toNat)) e
    simpa [bl, hj, Nat.mod_eq_of_lt (hg j hj), Nat.mod_eq_of_lt (hh j hj)] using this
  · intro e
    exact List.map_congr_left fun j hj => by rw [e j (List.mem_range.1 hj)]
theorem xB_lt (x : Fin p) : ∀ j, j < 32 → xB x j < 256 := fun j _ => Nat.mod_lt _ (by decide)
theorem xB_val (x : Fin p) : leN (xB x) 32 = x.val := by
  have := leN_div x.val 32
  rw [Nat.mod_eq_of_lt (Nat.lt_trans (fin_lt x) (by decide))] at this
  exact this
theorem xF_xB (x : Fin p) : xF (xB x) = x := by
  apply Fin.ext
  show leN (xB x) 32 % _ % pN = x.val
  rw [xB_val, Nat.mod_eq_of_lt (Nat.lt_trans (fin_lt x) (by decide)), Nat.mod_eq_of_lt (fin_lt x)]
theorem xB_inj {x y : Fin p} (h : bl (xB x) = bl (xB y)) : x = y := by
  have h' := (bl_eq (xB_lt x) (xB_lt y)).1 h
  have e : leN (xB x) 32 = leN (xB y) 32 := by
    have : ∀ k, k ≤ 32 → leN (xB x) k = leN (xB y) k := by
      intro k
      induction k with
      | zero => intro _; rfl
      | succ k ih => intro hk; simp only [leN]; rw [ih (by omega), h' k (by omega)]
    exact this 32 (by omega)
  rw [xB_val, xB_val] at e
  exact Fin.ext e
theorem bl_xB (x y : Fin p) : (bl (xB x) == bl (xB y)) = decide (x = y) := by
  rw [Bool.eq_iff_iff]
  simp only [beq_iff_eq, decide_eq_true_eq]
  exact ⟨xB_inj, fun h => by rw [h]⟩
theorem xB_zero : U8 (xB 0) = U8 fun _ => 0 := congrArg U8 (funext fun j => by simp [xB])

/-- A point as often as a number says. -/
def TM (u : Fin p) (g : Nat → Nat) : Fin p := Ed.tim crv.toFld kF u (cbit g) 254 255
theorem eTimes (g h : Nat → Nat) (hg : ∀ j, j < 32 → g j < 256) (hh : ∀ j, j < 32 → h j < 256) (w : World) :
    Calls Try.prog 29 #[.agg (U8 g), .agg (U8 h)] w fun e w' => e = .returned (.agg (U8 (xB (TM (xF h) g)))) ∧ Below w.heap.size w w' := times_any g h hg hh w
theorem build9 (w : World) : (Instr.build 22 #[(0, .int .u8 9)]).run Try.prog w = .ok (.agg (U8 nine)) w := by
  go_simp
  rfl
theorem build0 (w : World) : (Instr.build 22 #[]).run Try.prog w = .ok (.agg (U8 fun _ => 0)) w := by
  go_simp
  rfl
theorem alloc22 (w : World) : (Instr.alloc 22 true (.tuple #[])).run Try.prog w = .ok (.pointer (some ⟨w.heap.size, 0, none⟩)) (w.alloc (.cells (U8 fun _ => 0) 22)) := by
  go_simp
  rfl
attribute [local go_sem] build9 build0 box22 alloc22

set_option maxRecDepth 100000 in
theorem public_any (g : Nat → Nat) (hg : ∀ j, j < 32 → g j < 256) (w : World) :
    Calls Try.prog 32 #[.agg (U8 g)] w fun e w' => e = .returned (.agg (U8 (xB (TM (xF nine) g)))) ∧ Below w.heap.size w w' := by
  have HT := Lib.hid (fun w1 => eTimes g nine hg nine_lt w1)
  obtain ⟨X, hX⟩ : ∃ X, X = xB (TM (xF nine) g) := ⟨_, rfl⟩
  rw [← hX] at HT ⊢
  clear hX hg
  have L1 : Hid (((w.alloc (.cells (U8 g) 22)).alloc (.cells (U8 fun _ => 0) 22)).heap[w.heap.size]? = some (.cells (U8 g) 22 (0, 0))) := Lib.hid (by ((simp only [heap_push, World.size_alloc, if_true]; repeat' split); all_goals (first | rfl | (exfalso; omega))))
  have L2 : Hid (((w.alloc (.cells (U8 g) 22)).alloc (.cells (U8 fun _ => 0) 22)).heap[w.heap.size + 1]? = some (.cells (U8 fun _ => 0) 22 (0, 0))) := Lib.hid (by ((simp only [heap_push, World.size_alloc, if_true]; repeat' split); all_goals (first | rfl | (exfalso; omega))))
  have LB : Hid (Below w.heap.size w ((w.alloc (.cells (U8 g) 22)).alloc (.cells (U8 fun _ => 0) 22))) := Lib.hid (by go_grown)
  go_enter Try.func32, Try.ntmps32
  go_wp2_with (first | (refine wpList_load_row rfl 22 (.tmp 1) rfl w.heap.size rfl 22 (U8 g) (0, 0) _ L1.out Try.underlying22 rfl (sz22.trans (by simp [U8])) ?_) | fail)
  refine (HT.out _).mono ?_
  rintro e w1 ⟨rfl, hb⟩
  have T := Lib.hid ((hb.block _ (heap_lt L2.out)).trans L2.out)
  have B := Lib.hid (LB.out.trans (hb.mono LB.out.size))
  clear hb L1 L2 LB
  go_wp2_with (first | (refine wpList_store_row rfl 22 (.tmp 2) (.tmp 5) rfl (w.heap.size + 1) (U8 X) rfl rfl 22 _ T.out (sz22.trans (by simp [U8])) (by first | (simp [U8]; done) | (simp [U8]; rfl)) (vals_one _ _ _) ?_) | fail)
  refine bodyPost_ret (results_cell_row rfl _ _ _ 22 _ (0, 0) _ rfl (setRow_heap _ _ _ _ _ _ T.out) Try.underlying22 rfl (sz22.trans (by simp [U8]))) rfl ⟨rfl, below_setRow B.out (by omega) _⟩
end Go.Proofs.Ytikmghmapmlebaa
namespace Go.Proofs.Ytikmghmapmlebaa
open Go.RowKit Go.Rh F255
open Go.Extern.Stop (cell)
attribute [local go_sem] build9 build0 box22 alloc22

theorem results_cell_tmp {P : Program} {fn : Func} {p q : Tmp} {ty : TypeId} {v : Value} (h : fn.results = #[.cell p ty, .tmp q]) (tmps : Array Value) (w : World) (g : Nat) (t : TypeId) (cs : Array Value) (fr : Nat × Nat) (d : TypeDesc)
    (hp : tmps.getD p undef = .pointer (some ⟨g, 0, none⟩)) (hq : tmps.getD q undef = v) (hg : w.heap[g]? = some (.cells cs t fr))
    (hu : P.underlying ty = some d) (hd : (match d with | .struct _ | .array _ _ => true | _ => false) = true) (hi : (P.info? ty).map (·.size) = some cs.size) :
    (results fn tmps).run P w = .ok (.tuple #[.agg cs, v]) w := by
  have hp' : tmps[p]?.getD undef = .pointer (some ⟨g, 0, none⟩) := by simpa using hp
  have hq' : tmps[q]?.getD undef = v := by simpa using hq
  simp [results, h, hp', hq', asAddr, run_loadVar_row w g t ty cs fr d hg hu hd hi]
theorem zero_lt : ∀ j, j < 32 → (fun _ => 0 : Nat → Nat) j < 256 := fun _ _ => show 0 < 256 by decide
theorem bl_zero (x : Fin p) : (bl (xB x) == bl fun _ => 0) = decide (x = 0) := by
  rw [← bl_xB, show (fun _ => 0 : Nat → Nat) = xB 0 from funext fun j => by simp [xB]]

set_option maxRecDepth 100000 in
theorem shared_any (g h : Nat → Nat) (hg : ∀ j, j < 32 → g j < 256) (hh : ∀ j, j < 32 → h j < 256) (w : World) :
    Calls Try.prog 33 #[.agg (U8 g), .agg (U8 h)] w fun e w' => e = .returned (.tuple #[.agg (U8 (xB (TM (xF h) g))), .int .i64 (if TM (xF h) g = 0 then 4 else 0)]) ∧ Below w.heap.size w w' := by
  have HT := Lib.hid (fun w1 => eTimes g h hg hh w1)
  obtain ⟨x, hx⟩ : ∃ x, x = TM (xF h) g := ⟨_, rfl⟩
  rw [← hx] at HT ⊢
  have HE : Hid (∀ w : World, (Op.equalIn 10000 22 (.agg (U8 (xB x))) (.agg #[.int .u8 0, .int .u8 0, .int .u8 0, .int .u8 0, .int .u8 0, .int .u8 0, .int .u8 0, .int .u8 0, .int .u8 0, .int .u8 0, .int .u8 0, .int .u8 0, .int .u8 0, .int .u8 0, .int .u8 0, .int .u8 0, .int .u8 0, .int .u8 0, .int .u8 0, .int .u8 0, .int .u8 0, .int .u8 0, .int .u8 0, .int .u8 0, .int .u8 0, .int .u8 0, .int .u8 0, .int .u8 0, .int .u8 0, .int .u8 0, .int .u8 0, .int .u8 0])).run Try.prog w = .ok (decide (x = 0)) w) := Lib.hid (fun w => by rw [← bl_zero]; exact run_inU8 (xB_lt x) zero_lt w)
  obtain ⟨X, hX⟩ : ∃ X, X = xB x := ⟨_, rfl⟩
  rw [← hX] at HT HE ⊢
  obtain ⟨E, hE⟩ : ∃ E : Int, E = if x = 0 then 4 else 0 := ⟨_, rfl⟩
  rw [← hE]
  obtain ⟨bb, hbb⟩ : ∃ bb, bb = decide (x = 0) := ⟨_, rfl⟩
  rw [← hbb] at HE
  have HEE : Hid (E = if bb = true then 4 else 0) := Lib.hid (by rw [hE, hbb]; simp)
  clear hx hX hg hh hE hbb
  have L1 : Hid ((((w.alloc (.cells (U8 g) 22)).alloc (.cells (U8 h) 22)).alloc (.cells (U8 fun _ => 0) 22)).heap[w.heap.size]? = some (.cells (U8 g) 22 (0, 0))) := Lib.hid (by ((simp only [heap_push, World.size_alloc, if_true]; repeat' split); all_goals (first | rfl | (exfalso; omega))))
  have L2 : Hid ((((w.alloc (.cells (U8 g) 22)).alloc (.cells (U8 h) 22)).alloc (.cells (U8 fun _ => 0) 22)).heap[w.heap.size + 1]? = some (.cells (U8 h) 22 (0, 0))) := Lib.hid (by ((simp only [heap_push, World.size_alloc, if_true]; repeat' split); all_goals (first | rfl | (exfalso; omega))))
  have L3 : Hid ((((w.alloc (.cells (U8 g) 22)).alloc (.cells (U8 h) 22)).alloc (.cells (U8 fun _ => 0) 22)).heap[w.heap.size + 1 + 1]? = some (.cells (U8 fun _ => 0) 22 (0, 0))) := Lib.hid (by ((simp only [heap_push, World.size_alloc, if_true]; repeat' split); all_goals (first | rfl | (exfalso; omega))))
  have LB : Hid (Below w.heap.size w (((w.alloc (.cells (U8 g) 22)).alloc (.cells (U8 h) 22)).alloc (.cells (U8 fun _ => 0) 22))) := Lib.hid (by go_grown)
  go_enter Try.func33, Try.ntmps33
  go_wp2_with (first | (refine wpList_load_row rfl 22 (.tmp 2) rfl w.heap.size rfl 22 (U8 g) (0, 0) _ L1.out Try.underlying22 rfl (sz22.trans (by simp [U8])) ?_) | (refine wpList_load_row rfl 22 (.tmp 3) rfl (w.heap.size + 1) rfl 22 (U8 h) (0, 0) _ L2.out Try.underlying22 rfl (sz22.trans (by simp [U8])) ?_) | fail)
  refine (HT.out _).mono ?_
  rintro e w1 ⟨rfl, hb⟩
  have T0 := (hb.block _ (heap_lt L3.out)).trans L3.out
  have B0 := LB.out.trans (hb.mono LB.out.size)
  have l4 := heap_lt T0
  have hs := B0.size
  clear hb
  obtain ⟨w2, hw⟩ : ∃ w2, w2 = World.setRow (w1.alloc (.cells #[.int .u8 0, .int .u8 0, .int .u8 0, .int .u8 0, .int .u8 0, .int .u8 0, .int .u8 0, .int .u8 0, .int .u8 0, .int .u8 0, .int .u8 0, .int .u8 0, .int .u8 0, .int .u8 0, .int .u8 0, .int .u8 0, .int .u8 0, .int .u8 0, .int .u8 0, .int .u8 0, .int .u8 0, .int .u8 0, .int .u8 0, .int .u8 0, .int .u8 0, .int .u8 0, .int .u8 0, .int .u8 0, .int .u8 0, .int .u8 0, .int .u8 0, .int .u8 0] 22)) w1.heap.size (U8 X) := ⟨_, rfl⟩
  have T1 : Hid ((w1.alloc (.cells #[.int .u8 0, .int .u8 0, .int .u8 0, .int .u8 0, .int .u8 0, .int .u8 0, .int .u8 0, .int .u8 0, .int .u8 0, .int .u8 0, .int .u8 0, .int .u8 0, .int .u8 0, .int .u8 0, .int .u8 0, .int .u8 0, .int .u8 0, .int .u8 0, .int .u8 0, .int .u8 0, .int .u8 0, .int .u8 0, .int .u8 0, .int .u8 0, .int .u8 0, .int .u8 0, .int .u8 0, .int .u8 0, .int .u8 0, .int .u8 0, .int .u8 0, .int .u8 0] 22)).heap[w1.heap.size]? = some (.cells #[.int .u8 0, .int .u8 0, .int .u8 0, .int .u8 0, .int .u8 0, .int .u8 0, .int .u8 0, .int .u8 0, .int .u8 0, .int .u8 0, .int .u8 0, .int .u8 0, .int .u8 0, .int .u8 0, .int .u8 0, .int .u8 0, .int .u8 0, .int .u8 0, .int .u8 0, .int .u8 0, .int .u8 0, .int .u8 0, .int .u8 0, .int .u8 0, .int .u8 0, .int .u8 0, .int .u8 0, .int .u8 0, .int .u8 0, .int .u8 0, .int .u8 0, .int .u8 0] 22 (0, 0))) := Lib.hid (heap_new' _ _ _ rfl)
  have T2 : Hid (w2.heap[w1.heap.size]? = some (.cells (U8 X) 22 (0, 0))) := Lib.hid (by rw [hw]; exact setRow_heap _ _ _ _ _ _ T1.out)
  have T3 : Hid (w2.heap[w.heap.size + 1 + 1]? = some (.cells (U8 fun _ => 0) 22 (0, 0))) := Lib.hid (by rw [hw, setRow_other _ _ _ _ (by omega), heap_old _ _ _ l4]; exact T0)
  have B2 : Hid (Below w.heap.size w w2) := Lib.hid (by rw [hw]; exact below_setRow (B0.alloc hs _) hs _)
  have HW := Lib.hid hw
  clear hw T0 B0 l4 hs L1 L2 L3 LB
  have he := HE.out
  go_wp2_with (first | (refine wpList_store_row rfl 22 (.tmp 6) (.tmp 9) rfl w1.heap.size (U8 X) rfl rfl 22 _ T1.out (sz22.trans (by simp [U8])) (by first | (simp [U8]; done) | (simp [U8]; rfl)) (vals_one _ _ _) ?_; rw [← HW.out]) | (refine wpList_load_row rfl 22 (.tmp 6) rfl w1.heap.size rfl 22 (U8 X) (0, 0) _ T2.out Try.underlying22 rfl (sz22.trans (by simp [U8])) ?_) | (refine wpList_store_row rfl 22 (.tmp 4) (.tmp 13) rfl (w.heap.size + 1 + 1) (U8 X) rfl rfl 22 _ T3.out (sz22.trans (by simp [U8])) (by first | (simp [U8]; done) | (simp [U8]; rfl)) (vals_one _ _ _) ?_) | (refine wpList_store_row rfl 22 (.tmp 4) (.tmp 14) rfl (w.heap.size + 1 + 1) (U8 X) rfl rfl 22 _ T3.out (sz22.trans (by simp [U8])) (by first | (simp [U8]; done) | (simp [U8]; rfl)) (vals_one _ _ _) ?_) | fail)
  all_goals
    rename_i hbb
    refine bodyPost_ret (results_cell_tmp rfl _ _ (w.heap.size + 1 + 1) 22 (U8 X) (0, 0) _ rfl rfl (setRow_heap _ _ _ _ _ _ T3.out) Try.underlying22 rfl (sz22.trans (by simp [U8]))) rfl ⟨?_, below_setRow B2.out (by omega) _⟩
    rw [HEE.out, hbb]
    rfl

set_option maxRecDepth 100000 in
theorem buildK (w : World) : (Instr.build 22 #[(0, .int .u8 119), (1, .int .u8 7), (2, .int .u8 109), (3, .int .u8 10), (4, .int .u8 115), (5, .int .u8 24), (6, .int .u8 165), (7, .int .u8 125), (8, .int .u8 60), (9, .int .u8 22), (10, .int .u8 193), (11, .int .u8 114), (12, .int .u8 81), (13, .int .u8 178), (14, .int .u8 102), (15, .int .u8 69), (16, .int .u8 223), (17, .int .u8 76), (18, .int .u8 47), (19, .int .u8 135), (20, .int .u8 235), (21, .int .u8 192), (22, .int .u8 153), (23, .int .u8 42), (24, .int .u8 177), (25, .int .u8 119), (26, .int .u8 251), (27, .int .u8 165), (28, .int .u8 29), (29, .int .u8 185), (30, .int .u8 44), (31, .int .u8 42)]).run Try.prog w = .ok (.agg (U8 kb)) w := by
  go_simp
  rfl
attribute [local go_sem] buildK
set_option maxRecDepth 100000 in
theorem bends_any (w : World) : Calls Try.prog 30 #[] w fun e w' => e = .returned (.bool true) ∧ Below w.heap.size w w' := by
  have HP := Lib.hid (fun w1 => public_any kb kb_lt w1)
  have HK := Lib.hid key_bytes
  obtain ⟨X, hX⟩ : ∃ X, X = xB (TM (xF nine) kb) := ⟨_, rfl⟩
  rw [← hX] at HP
  have HX : Hid (X 0 = 133 ∧ X 1 = 32 ∧ X 2 = 240 ∧ X 31 = 106) := by rw [hX]; exact HK
  clear hX HK
  obtain ⟨w1, hw⟩ : ∃ w1, w1 = World.setRow (w.alloc (.cells #[.int .u8 0, .int .u8 0, .int .u8 0, .int .u8 0, .int .u8 0, .int .u8 0, .int .u8 0, .int .u8 0, .int .u8 0, .int .u8 0, .int .u8 0, .int .u8 0, .int .u8 0, .int .u8 0, .int .u8 0, .int .u8 0, .int .u8 0, .int .u8 0, .int .u8 0, .int .u8 0, .int .u8 0, .int .u8 0, .int .u8 0, .int .u8 0, .int .u8 0, .int .u8 0, .int .u8 0, .int .u8 0, .int .u8 0, .int .u8 0, .int .u8 0, .int .u8 0] 22)) w.heap.size (U8 kb) := ⟨_, rfl⟩
  have T1 : Hid ((w.alloc (.cells #[.int .u8 0, .int .u8 0, .int .u8 0, .int .u8 0, .int .u8 0, .int .u8 0, .int .u8 0, .int .u8 0, .int .u8 0, .int .u8 0, .int .u8 0, .int .u8 0, .int .u8 0, .int .u8 0, .int .u8 0, .int .u8 0, .int .u8 0, .int .u8 0, .int .u8 0, .int .u8 0, .int .u8 0, .int .u8 0, .int .u8 0, .int .u8 0, .int .u8 0, .int .u8 0, .int .u8 0, .int .u8 0, .int .u8 0, .int .u8 0, .int .u8 0, .int .u8 0] 22)).heap[w.heap.size]? = some (.cells #[.int .u8 0, .int .u8 0, .int .u8 0, .int .u8 0, .int .u8 0, .int .u8 0, .int .u8 0, .int .u8 0, .int .u8 0, .int .u8 0, .int .u8 0, .int .u8 0, .int .u8 0, .int .u8 0, .int .u8 0, .int .u8 0, .int .u8 0, .int .u8 0, .int .u8 0, .int .u8 0, .int .u8 0, .int .u8 0, .int .u8 0, .int .u8 0, .int .u8 0, .int .u8 0, .int .u8 0, .int .u8 0, .int .u8 0, .int .u8 0, .int .u8 0, .int .u8 0] 22 (0, 0))) := Lib.hid (heap_new' _ _ _ rfl)
  have T2 : Hid (w1.heap[w.heap.size]? = some (.cells (U8 kb) 22 (0, 0))) := Lib.hid (by rw [hw]; exact setRow_heap _ _ _ _ _ _ T1.out)
  have B1 : Hid (Below w.heap.size w w1) := Lib.hid (by rw [hw]; exact below_setRow (by go_grown) (Nat.le_refl _) _)
  have HW := Lib.hid hw
  clear hw
  go_enter Try.func30, Try.ntmps30
  go_wp2_with (first | (refine wpList_store_row rfl 22 (.tmp 1) (.tmp 3) rfl w.heap.size (U8 kb) rfl rfl 22 _ T1.out (sz22.trans (by simp [U8])) (by first | (simp [U8]; done) | (simp [U8]; rfl)) (vals_one _ _ _) ?_; rw [← HW.out]) | (refine wpList_load_row rfl 22 (.tmp 1) rfl w.heap.size rfl 22 (U8 kb) (0, 0) _ T2.out Try.underlying22 rfl (sz22.trans (by simp [U8])) ?_) | fail)
  refine (HP.out _).mono ?_
  rintro e w2 ⟨rfl, hb⟩
  have B2 := B1.out.trans (hb.mono B1.out.size)
  clear T1 T2 HW B1 hb
  have hs := B2.size
  obtain ⟨w3, hw⟩ : ∃ w3, w3 = World.setRow (w2.alloc (.cells #[.int .u8 0, .int .u8 0, .int .u8 0, .int .u8 0, .int .u8 0, .int .u8 0, .int .u8 0, .int .u8 0, .int .u8 0, .int .u8 0, .int .u8 0, .int .u8 0, .int .u8 0, .int .u8 0, .int .u8 0, .int .u8 0, .int .u8 0, .int .u8 0, .int .u8 0, .int .u8 0, .int .u8 0, .int .u8 0, .int .u8 0, .int .u8 0, .int .u8 0, .int .u8 0, .int .u8 0, .int .u8 0, .int .u8 0, .int .u8 0, .int .u8 0, .int .u8 0] 22)) w2.heap.size (U8 X) := ⟨_, rfl⟩
  have T1 : Hid ((w2.alloc (.cells #[.int .u8 0, .int .u8 0, .int .u8 0, .int .u8 0, .int .u8 0, .int .u8 0, .int .u8 0, .int .u8 0, .int .u8 0, .int .u8 0, .int .u8 0, .int .u8 0, .int .u8 0, .int .u8 0, .int .u8 0, .int .u8 0, .int .u8 0, .int .u8 0, .int .u8 0, .int .u8 0, .int .u8 0, .int .u8 0, .int .u8 0, .int .u8 0, .int .u8 0, .int .u8 0, .int .u8 0, .int .u8 0, .int .u8 0, .int .u8 0, .int .u8 0, .int .u8 0] 22)).heap[w2.heap.size]? = some (.cells #[.int .u8 0, .int .u8 0, .int .u8 0, .int .u8 0, .int .u8 0, .int .u8 0, .int .u8 0, .int .u8 0, .int .u8 0, .int .u8 0, .int .u8 0, .int .u8 0, .int .u8 0, .int .u8 0, .int .u8 0, .int .u8 0, .int .u8 0, .int .u8 0, .int .u8 0, .int .u8 0, .int .u8 0, .int .u8 0, .int .u8 0, .int .u8 0, .int .u8 0, .int .u8 0, .int .u8 0, .int .u8 0, .int .u8 0, .int .u8 0, .int .u8 0, .int .u8 0] 22 (0, 0))) := Lib.hid (heap_new' _ _ _ rfl)
  have t2 : w3.heap[w2.heap.size]? = some (.cells (U8 X) 22 (0, 0)) := by rw [hw]; exact setRow_heap _ _ _ _ _ _ T1.out
  have B3 : Hid (Below w.heap.size w w3) := Lib.hid (by rw [hw]; exact below_setRow (B2.alloc hs _) hs _)
  have c0 : w3.cell? ⟨w2.heap.size, 0, none⟩ = some (.int .u8 133) := (cell_vals t2 (by omega)).trans (by rw [HX.out.1]; rfl)
  have c1 : w3.cell? ⟨w2.heap.size, 1, none⟩ = some (.int .u8 32) := (cell_vals t2 (by omega)).trans (by rw [HX.out.2.1]; rfl)
  have c2 : w3.cell? ⟨w2.heap.size, 2, none⟩ = some (.int .u8 240) := (cell_vals t2 (by omega)).trans (by rw [HX.out.2.2.1]; rfl)
  have c3 : w3.cell? ⟨w2.heap.size, 31, none⟩ = some (.int .u8 106) := (cell_vals t2 (by omega)).trans (by rw [HX.out.2.2.2]; rfl)
  have HW := Lib.hid hw
  clear hw t2 B2 hs HX
  go_wp2_with (first | (refine wpList_store_row rfl 22 (.tmp 2) (.tmp 5) rfl w2.heap.size (U8 X) rfl rfl 22 _ T1.out (sz22.trans (by simp [U8])) (by first | (simp [U8]; done) | (simp [U8]; rfl)) (vals_one _ _ _) ?_; rw [← HW.out]) | fail)
  go_ret
  exact ⟨rfl, B3.out⟩
end Go.Proofs.Ytikmghmapmlebaa
