/-
  What FieldSmall wants: small numbers as rows of bytes, operations on whole numbers and strings, one at a time.
-/
import Derived.Test.YtikmghmapmlebaaYi
import Derived.Test.YtikmghmapmlebaaPl
import Derived.Test.YtikmghmapmlebaaYa
namespace Go.Proofs.Ytikmghmapmlebaa
open Go.RowKit Go.Rh F255

def by2 (n j : Nat) : Nat := if j = 0 then n % 256 else if j = 1 then n / 256 else 0
def by3 (n j : Nat) : Nat := if j = 0 then n % 256 else if j = 1 then n / 256 % 256 else if j = 2 then n / 65536 else 0
def by4 (n j : Nat) : Nat := if j = 0 then n % 256 else if j = 1 then n / 256 % 256 else if j = 2 then n / 65536 % 256 else if j = 3 then n / 16777216 else 0
theorem leN_zeros (g : Nat → Nat) (k : Nat) (hz : ∀ j, k ≤ j → g j = 0) : ∀ m, leN g (k + m) = leN g k
  | 0 => rfl
  | m + 1 => by
    show leN g (k + m) + g (k + m) * _ = _
    rw [leN_zeros g k hz m, hz _ (by omega), Nat.zero_mul, Nat.add_zero]
theorem leN_by2 (n : Nat) : leN (by2 n) 32 = n := by
  rw [show 32 = 2 + 30 from rfl, leN_zeros _ 2 (fun j hj => by unfold by2; rw [if_neg (by omega), if_neg (by omega)])]
  simp [leN, by2]; omega
theorem leN_by3 (n : Nat) : leN (by3 n) 32 = n := by
  rw [show 32 = 3 + 29 from rfl, leN_zeros _ 3 (fun j hj => by unfold by3; rw [if_neg (by omega), if_neg (by omega), if_neg (by omega)])]
  simp [leN, by3]; omega
theorem leN_by4 (n : Nat) : leN (by4 n) 32 = n := by
  rw [show 32 = 4 + 28 from rfl, leN_zeros _ 4 (fun j hj => by unfold by4; rw [if_neg (by omega), if_neg (by omega), if_neg (by omega), if_neg (by omega)])]
  simp [leN, by4]; omega
theorem by2_lt {n : Nat} (h : n < 65536) : ∀ j, j < 32 → by2 n j < 256 := fun j _ => by unfold by2; split; omega; split <;> omega
theorem by3_lt {n : Nat} (h : n < 16777216) : ∀ j, j < 32 → by3 n j < 256 := fun j _ => by unfold by3; split; omega; split; omega; split <;> omega
theorem by4_lt {n : Nat} (h : n < 4294967296) : ∀ j, j < 32 → by4 n j < 256 := fun j _ => by unfold by4; split; omega; split; omega; split; omega; split <;> omega
/-- A small number of the field. -/
theorem small_el {g : Nat → Nat} {n : Nat} (hg : ∀ j, j < 32 → g j < 256) (hn : leN g 32 = n) (h : n < 4294967296) {x : Fin p} (hx : x.val = n) (w : World) :
    Calls Try.prog 14 #[.agg (U8 g)] w fun e w' => (∃ f, e = .returned (.agg (U64 f)) ∧ IsEl f x.val) ∧ Below w.heap.size w w' :=
  (of_el g hg w).mono fun _ _ k => ⟨k.1.imp fun f q => ⟨q.1, by
    have := q.2
    rw [hn, Nat.mod_eq_of_lt (Nat.lt_trans h (by decide))] at this
    rw [hx]; exact this⟩, k.2⟩
theorem eText {f : Nat → Nat} {x : Fin p} (h : IsEl f x.val) (w : World) : Calls Try.prog 17 #[.agg (U64 f)] w fun e w' => e = .returned (.string (le32 x.val)) ∧ Below w.heap.size w w' :=
  (text_any f _ h w).mono fun _ _ k => ⟨by rw [k.1, Nat.mod_eq_of_lt (fin_lt x)], k.2⟩

theorem run_string_few {w : World} {v : Value} {n : Nat} {g : Nat → Nat} (h : Few w g v n) : (convert 29 9 v).run Try.prog w = .ok (.string (bstr g n)) w := by
  obtain ⟨A, c, rfl, hb⟩ := h
  rcases Nat.eq_zero_or_pos n with h0 | h0
  · subst h0
    rw [run_convert_bytes_string w 29 9 5 _ _ _ Try.underlying29 Try.underlying5 Try.underlying9]
    cases A with
    | none => rfl
    | some a =>
      rw [run_bytesToString w _ 0 c [] (by rfl)]
      rfl
  · obtain ⟨b, off, rfl, _, hc⟩ := hb h0
    rw [run_convert_bytes_string w 29 9 5 _ _ _ Try.underlying29 Try.underlying5 Try.underlying9]
    have hl : (loadCells ⟨b, off, none⟩ ((List.range n).map fun j => Value.int .u8 (g j : Int)).length).run Try.prog w = .ok ((List.range n).map fun j => Value.int .u8 (g j : Int)).toArray w := by
      refine run_loadCells_list (P := Try.prog) w ⟨b, off, none⟩ _ fun j v hv => ?_
      have hadd : (⟨b, off, none⟩ : Addr).add j = ⟨b, off + j, none⟩ := by unfold Addr.add; split <;> simp_all
      have hj : j < n := by
        have := (List.getElem?_eq_some_iff.1 hv).1
        simpa using this
      rw [hadd, hc j hj]
      simp [hj] at hv
      rw [hv]
    have h2 : ((List.range n).map fun j => Value.int .u8 (g j : Int)) = ((List.range n).map fun j => (g j : Int)).map (Value.int .u8) := by simp
    rw [h2] at hl
    have hlen : (((List.range n).map fun j => (g j : Int)).map (Value.int .u8)).length = n := by simp
    rw [hlen] at hl
    rw [run_bytesToString w _ n c _ hl, foldl_push]
    congr 2
    unfold bstr
    simp [ByteArray.empty, ByteArray.emptyWithCapacity, Function.comp_def]
    rfl

section
variable {o : Oper} {a : Act} {w : World} {x y : Operand}
theorem conv39_5 (n : Int) (h0 : 0 ≤ n) (h1 : n < 65536) (w : World) : (convert 39 5 (.int .u16 n)).run Try.prog w = .ok (.int .u8 (n % 256)) w := by
  go_simp
  exact IntKind.wrap_u8 n
theorem conv3_5 (n : Int) (h0 : 0 ≤ n) (h1 : n < 65536) (w : World) : (convert 3 5 (.int .i64 n)).run Try.prog w = .ok (.int .u8 (n % 256)) w := by
  go_simp
  exact IntKind.wrap_u8 n
theorem run_shr39 {n : Int} (ho : o.op = .binOp .shr 39 x (.const (.int .u64 8)) 40) (e : a.eval x = .int .u16 n) (h0 : 0 ≤ n) (h1 : n < 65536) : (execOp a.eval o).run Try.prog w = .ok (.value (.int .u16 (n / 256))) w := by
  unfold execOp
  simp only [ho, e]
  go_simp
theorem run_shr3 {n : Int} (ho : o.op = .binOp .shr 3 x (.const (.int .u64 8)) 40) (e : a.eval x = .int .i64 n) (h0 : 0 ≤ n) (h1 : n < 65536) : (execOp a.eval o).run Try.prog w = .ok (.value (.int .i64 (n / 256))) w := by
  unfold execOp
  simp only [ho, e]
  go_simp
theorem run_eq5 {m n : Int} {r : TypeId} (ho : o.op = .binOp .eql 5 x y r) (ex : a.eval x = .int .u8 m) (ey : a.eval y = .int .u8 n) : (execOp a.eval o).run Try.prog w = .ok (.value (.bool (m == n))) w := by
  unfold execOp
  simp only [ho, ex, ey]
  go_simp
theorem run_lss3 {m n : Int} {r : TypeId} (ho : o.op = .binOp .lss 3 x y r) (ex : a.eval x = .int .i64 m) (ey : a.eval y = .int .i64 n) : (execOp a.eval o).run Try.prog w = .ok (.value (.bool (decide (m < n)))) w := by
  unfold execOp
  simp only [ho, ex, ey]
  go_simp
theorem run_adds {s t : ByteArray} {r : TypeId} (hl : s.size + t.size ≤ 9223372036854775807) (ho : o.op = .binOp .add 9 x y r) (ex : a.eval x = .string s) (ey : a.eval y = .string t) : (execOp a.eval o).run Try.prog w = .ok (.value (.string (s ++ t))) w := by
  unfold execOp
  simp only [ho, ex, ey]
  go_simp
theorem run_index9 {g : Nat → Nat} {i : Nat} (hi : i < 32) (hg : g i < 256) (ho : o.op = .index 9 x (.const (.int .i64 i))) (ex : a.eval x = .string (bstr g 32)) : (execOp a.eval o).run Try.prog w = .ok (.value (.int .u8 (g i : Nat))) w := by
  unfold execOp
  have h := run_index_bstr (P := Try.prog) Try.underlying9 g 32 i hi hg .i64 w
  have hc : a.eval (.const (.int .i64 (i : Int))) = .int .i64 (i : Int) := rfl
  simp [ho, ex, hc, h]
theorem run_sl9 {s : ByteArray} (hs : 30 ≤ s.size) (ho : o.op = .slice 9 x none (some (.const (.int .i64 30))) none) (ex : a.eval x = .string s) : (execOp a.eval o).run Try.prog w = .ok (.value (.string (s.extract 0 30))) w := by
  unfold execOp
  simp only [ho, ex]
  go_simp
  intro h
  exact absurd h (by omega)
theorem run_bs2 {s t : Operand} {m n : Nat} (ho : o.op = .buildSlice 29 2 #[(0, s), (1, t)]) (es : a.eval s = .int .u8 m) (et : a.eval t = .int .u8 n) :
    (execOp a.eval o).run Try.prog w = .ok (.value (.slice (some ⟨w.heap.size, 0, none⟩) 2 2)) (w.alloc (.cells #[.int .u8 m, .int .u8 n] 5)) := by
  unfold execOp
  simp only [ho, es, et, List.map_toArray, List.map_cons, List.map_nil]
  go_simp
end
theorem few2 (w : World) (n : Nat) : Few (w.alloc (.cells #[.int .u8 ((n % 256 : Nat) : Int), .int .u8 ((n / 256 : Nat) : Int)] 5)) (by2 n) (.slice (some ⟨w.heap.size, 0, none⟩) 2 2) 2 := by
  refine ⟨_, _, rfl, fun _ => ⟨_, 0, rfl, by simp, fun j hj => ?_⟩⟩
  have h : (w.alloc (.cells #[.int .u8 ((n % 256 : Nat) : Int), .int .u8 ((n / 256 : Nat) : Int)] 5)).heap[w.heap.size]? = some (.cells #[.int .u8 ((n % 256 : Nat) : Int), .int .u8 ((n / 256 : Nat) : Int)] 5 (0, 0)) := heap_new' _ _ _ rfl
  rw [Nat.zero_add, cell_of_row _ _ _ _ _ _ h]
  obtain rfl | rfl : j = 0 ∨ j = 1 := by omega
  all_goals rfl
theorem bstr_split (g : Nat → Nat) (a b : Nat) : bstr g (a + b) = bstr g a ++ bstr (fun j => g (a + j)) b := by
  refine ByteArray.ext ?_
  rw [ByteArray.data_append]
  unfold bstr
  simp only [List.range_add, List.map_append, List.map_map]
  apply Array.ext'
  simp [Function.comp_def]
theorem ext30 : (le32 0).extract 0 30 = bstr (fun _ => 0) 30 := by decide +kernel
theorem low_str {k : Nat} (h : k < 65536) : le32 k = bstr (by2 k) 2 ++ (le32 0).extract 0 30 := by
  rw [ext30]
  have e : le32 k = bstr (by2 k) (2 + 30) := bstr_congr fun j hj => by
    obtain rfl | rfl | hj2 : j = 0 ∨ j = 1 ∨ 2 ≤ j := by omega
    · show k / 1 % 256 = k % 256; omega
    · show k / 256 % 256 = k / 256; omega
    · have : k / 256 ^ j = 0 := Nat.div_eq_of_lt (Nat.lt_of_lt_of_le h (Nat.pow_le_pow_right (by decide) hj2 : 256 ^ 2 ≤ 256 ^ j))
      rw [this]
      unfold by2
      rw [if_neg (by omega), if_neg (by omega)]
  rw [e, bstr_split]
  have h2 : bstr (fun j => by2 k (2 + j)) 30 = bstr (fun _ => 0) 30 := bstr_congr fun j _ => by unfold by2; rw [if_neg (by omega), if_neg (by omega)]
  rw [h2]
theorem add_l {g : Nat → Nat} {n : Nat} : (bstr g 2).size + ((le32 n).extract 0 30).size ≤ 9223372036854775807 := by
  rw [bstr_size]
  simp
  unfold le32
  rw [bstr_size]
  decide
theorem at_unwantedE {P : Program} {Q : Exit → Act → World → Prop} {ops : List Oper} {o : Oper} {a : Act} {w : World} {K : Act → World → Prop} {j d : Nat} {b c : Bool} {oj : Oper} (hg : o.guard = some (j, b)) (ho : ops[j]? = some oj) (hd : oj.dst = some d) (e : a.tmps[d]? = some (.bool c)) (hbc : c ≠ b) (h : K (a.put o.dst undef) w) :
    (if Region.wanted o (yielded ops.toArray a.tmps) then o.wp P a w K Q ∨ (o.asks P a w ∧ LetsOut Q) else K (a.put o.dst undef) w) := by
  rw [if_neg (by
    simp [Region.wanted, hg, yielded, ho, hd, e]
    exact hbc)]
  exact h
theorem at_unwantedU {P : Program} {Q : Exit → Act → World → Prop} {ops : List Oper} {o : Oper} {a : Act} {w : World} {K : Act → World → Prop} {j d : Nat} {b : Bool} {oj : Oper} (hg : o.guard = some (j, b)) (ho : ops[j]? = some oj) (hd : oj.dst = some d) (e : a.tmps[d]? = some undef) (h : K (a.put o.dst undef) w) :
    (if Region.wanted o (yielded ops.toArray a.tmps) then o.wp P a w K Q ∨ (o.asks P a w ∧ LetsOut Q) else K (a.put o.dst undef) w) := by
  rw [if_neg (by simp [Region.wanted, hg, yielded, ho, hd, e, undef])]
  exact h
theorem fe_new {w1 w2 : World} {b : Nat} {x : Fin p} {A : Obj} {R : Array Value} (hw : w2 = (w1.alloc A).setRow w1.heap.size R) (h : FeAt w1 b x) : FeAt w2 b x := by
  obtain ⟨f, hb, hf⟩ := h
  refine ⟨f, ?_, hf⟩
  rw [hw, setRow_other _ _ _ _ (Nat.ne_of_lt (heap_lt hb)), heap_old _ _ _ (heap_lt hb)]
  exact hb
theorem below_newE {w w1 w2 : World} {A : Obj} {R : Array Value} (hw : w2 = (w1.alloc A).setRow w1.heap.size R) (h : Below w.heap.size w w1) : Below w.heap.size w w2 := by
  rw [hw]
  exact below_setRow (h.alloc h.size _) h.size _
theorem le32_30 {n : Nat} : 30 ≤ (le32 n).size := by unfold le32; rw [bstr_size]; omega
end Go.Proofs.Ytikmghmapmlebaa
