/-
  What CurveBits wants: bits that do not count, p added to a small number; a struct of 66 bytes. The laws of a tail with a load.
-/
import Derived.Test.YtikmghmapmlebaaYr
namespace Go.Proofs.Ytikmghmapmlebaa
open Go.RowKit Go.Rh F255

theorem lad_congr (u : Fin p) {a b : Nat → Bool} (h : ∀ i, i ≤ 254 → a i = b i) : ∀ j, Ed.lad kF u a 254 j = Ed.lad kF u b 254 j
  | 0 => rfl
  | j + 1 => by
    show Ed.lstep kF u (a (254 - j)) (Ed.lad kF u a 254 j) = Ed.lstep kF u (b (254 - j)) (Ed.lad kF u b 254 j)
    rw [lad_congr u h j, h _ (Nat.sub_le _ _)]
theorem TM_congr (u : Fin p) {a b : Nat → Nat} (h : ∀ i, i ≤ 254 → cbit a i = cbit b i) : TM u a = TM u b := by
  unfold TM Ed.tim
  rw [lad_congr u h 255]
/-- A number with bits changed that do not count; a point with its topmost bit changed. -/
def nB (f : Nat → Nat) (j : Nat) : Nat := if j = 0 then f 0 ^^^ (f 64 &&& 7) else if j = 31 then f 31 ^^^ (f 65 &&& 192) else f j
def ptB (f : Nat → Nat) (j : Nat) : Nat := if j = 31 then f 63 ^^^ (f 64 &&& 128) else f (32 + j)
theorem bit_low (x y m i : Nat) (h : m.testBit i = false) : (x ^^^ (y &&& m)) / 2 ^ i % 2 = x / 2 ^ i % 2 := by
  have e : (x ^^^ (y &&& m)).testBit i = x.testBit i := by rw [Nat.testBit_xor, Nat.testBit_and, h]; simp
  rw [Nat.testBit_eq_decide_div_mod_eq, Nat.testBit_eq_decide_div_mod_eq] at e
  have := decide_eq_decide.1 e
  omega
theorem cbit_nB (f : Nat → Nat) (i : Nat) (hi : i ≤ 254) : cbit (nB f) i = cbit (fun j => f j) i := by
  unfold cbit
  by_cases h1 : i = 254
  · subst h1; rfl
  · by_cases h3 : 3 ≤ i
    · have e : nB f (i / 8) / 2 ^ (i % 8) % 2 = f (i / 8) / 2 ^ (i % 8) % 2 := by
        unfold nB
        by_cases h0 : i / 8 = 0
        · rw [if_pos h0, h0]
          refine bit_low _ _ _ _ ?_
          have : 3 ≤ i % 8 ∧ i % 8 < 8 := by omega
          obtain h | h | h | h | h : i % 8 = 3 ∨ i % 8 = 4 ∨ i % 8 = 5 ∨ i % 8 = 6 ∨ i % 8 = 7 := by omega
          all_goals (rw [h]; decide)
        · rw [if_neg h0]
          by_cases h31 : i / 8 = 31
          · rw [if_pos h31, h31]
            refine bit_low _ _ _ _ ?_
            obtain h | h | h | h | h | h : i % 8 = 0 ∨ i % 8 = 1 ∨ i % 8 = 2 ∨ i % 8 = 3 ∨ i % 8 = 4 ∨ i % 8 = 5 := by omega
            all_goals (rw [h]; decide)
          · rw [if_neg h31]
      rw [e]
    · have : decide (3 ≤ i) = false := by simpa using h3
      rw [this]; simp
theorem topbit_mod (A x y P M : Nat) (hM : M = 128 * P) (em : x % 128 = y % 128) : (A + x * P) % M = (A + y * P) % M := by
  have hx := Nat.div_add_mod x 128
  have hy := Nat.div_add_mod y 128
  rw [← hx, ← hy, em, hM]
  rw [show A + (128 * (x / 128) + y % 128) * P = (A + y % 128 * P) + 128 * P * (x / 128) by grind, show A + (128 * (y / 128) + y % 128) * P = (A + y % 128 * P) + 128 * P * (y / 128) by grind, Nat.add_mul_mod_self_left, Nat.add_mul_mod_self_left]
theorem xF_ptB (f : Nat → Nat) : xF (ptB f) = xF fun j => f (32 + j) := by
  apply Fin.ext
  show leN (ptB f) 32 % _ % pN = leN (fun j => f (32 + j)) 32 % _ % pN
  have e31 : leN (ptB f) 31 = leN (fun j => f (32 + j)) 31 := leN_congr fun j hj => by unfold ptB; rw [if_neg (by omega)]
  have em : ptB f 31 % 128 = f (32 + 31) % 128 := by
    show (f 63 ^^^ (f 64 &&& 128)) % 2 ^ 7 = f 63 % 2 ^ 7
    rw [Nat.xor_mod_two_pow, Nat.and_mod_two_pow]
    simp
  have s1 : leN (ptB f) 32 = leN (ptB f) 31 + ptB f 31 * 256 ^ 31 := rfl
  have s2 : leN (fun j => f (32 + j)) 32 = leN (fun j => f (32 + j)) 31 + f (32 + 31) * 256 ^ 31 := rfl
  rw [s1, s2, e31]
  exact congrArg (· % pN) (topbit_mod _ _ _ _ _ (by decide +kernel) em)
def smB (s j : Nat) : Nat := if j = 0 then s else 0
def moB (s j : Nat) : Nat := if j = 0 then 237 + s else if j = 31 then 127 else 255
/-- The loop's row, so many bytes of it. -/
def moK (s k j : Nat) : Nat := if j = 0 then 237 + s else if j < k then 255 else 0
theorem xF_moB : ∀ s, s < 19 → xF (moB s) = xF (smB s) := by decide +kernel
theorem smB_lt {s : Nat} (h : s < 19) : ∀ j, j < 32 → smB s j < 256 := fun j _ => by unfold smB; split <;> omega
theorem moB_lt {s : Nat} (h : s < 19) : ∀ j, j < 32 → moB s j < 256 := fun j _ => by unfold moB; split; omega; split <;> omega
theorem nB_lt {f : Nat → Nat} (h : ∀ j, j < 66 → f j < 256) : ∀ j, j < 32 → nB f j < 256 := fun j hj => by
  unfold nB
  split
  · exact Nat.xor_lt_two_pow (n := 8) (h 0 (by omega)) (Nat.lt_of_le_of_lt Nat.and_le_right (by decide))
  · split
    · exact Nat.xor_lt_two_pow (n := 8) (h 31 (by omega)) (Nat.lt_of_le_of_lt Nat.and_le_right (by decide))
    · exact h j (by omega)
theorem ptB_lt {f : Nat → Nat} (h : ∀ j, j < 66 → f j < 256) : ∀ j, j < 32 → ptB f j < 256 := fun j hj => by
  unfold ptB
  split
  · exact Nat.xor_lt_two_pow (n := 8) (h 63 (by omega)) (Nat.lt_of_le_of_lt Nat.and_le_right (by decide))
  · exact h _ (by omega)

/-- The struct's bytes. -/
def B66 (f : Nat → Nat) : Array Value := vals .u8 66 fun j => ((f j : Nat) : Int)
theorem box50 (f : Nat → Nat) (w : World) : (Instr.box 50 (.agg (B66 f))).run Try.prog w = .ok (.pointer (some ⟨w.heap.size, 0, none⟩)) (w.alloc (.cells (B66 f) 50)) := by
  go_simp
theorem fld50_0 (w : World) (b : Nat) : (Instr.fieldAt 50 (.pointer (some ⟨b, 0, none⟩)) 0).run Try.prog w = .ok (.pointer (some ⟨b, 0, none⟩)) w := by
  go_simp
theorem fld50_1 (w : World) (b : Nat) : (Instr.fieldAt 50 (.pointer (some ⟨b, 0, none⟩)) 1).run Try.prog w = .ok (.pointer (some ⟨b, 32, none⟩)) w := by
  go_simp
theorem run_op_field50 {P : Program} {o : Oper} {a : Act} {x : Operand} {i : Nat} {v v' : Value} {w : World} (ho : o.op = .fieldAddr 50 x i) (e : a.eval x = v) (hr : (Instr.fieldAt 50 v i).run P w = .ok v' w) : (execOp a.eval o).run P w = .ok (.value v') w := by
  unfold execOp
  simp [ho, e, hr]
theorem rangeB {w : World} {b : Nat} {f : Nat → Nat} {t : TypeId} {fr : Nat × Nat} (o : Nat) (ho : o + 32 ≤ 66) (h : w.heap[b]? = some (.cells (B66 f) t fr)) : w.rangeAt b o (U8 fun j => f (o + j)).toList := by
  intro j v hv
  rw [Array.getElem?_toList] at hv
  have hj : j < 32 := by
    have := (Array.getElem?_eq_some_iff.1 hv).1
    simpa [U8] using this
  have h1 : (U8 fun j => f (o + j))[j]? = some (.int .u8 ((f (o + j) : Nat) : Int)) := vals_get _ _ hj
  rw [h1] at hv
  rw [← Option.some.inj hv]
  exact cell_vals h (by omega)
theorem rangeB0 {w : World} {b : Nat} {f : Nat → Nat} {t : TypeId} {fr : Nat × Nat} (h : w.heap[b]? = some (.cells (B66 f) t fr)) : w.rangeAt b 0 (U8 fun j => f j).toList := by
  have := rangeB 0 (by omega) h
  rwa [show (fun j => f (0 + j)) = fun j => f j from funext fun j => by rw [Nat.zero_add]] at this

theorem xa8 {x y m : Nat} (hx : x < 256) (hy : y < 256) (hm : m < 256) : bits .xor .u8 ((x : Nat) : Int) (bits .and .u8 ((y : Nat) : Int) (m : Int)) = ((x ^^^ (y &&& m) : Nat) : Int) := by
  rw [u8_and_nat _ _ hy hm, u8_xor_nat _ _ hx (Nat.lt_of_le_of_lt Nat.and_le_left hy)]
section
variable {P : Program} {Q : Exit → Act → World → Prop}
theorem late_tailM {l : List Oper} {L : Array Bool} (q n : Nat) {ob s1 s2 : Oper} {a : Act} {w w1 w2 : World} {v : Value} (h0 : l[q]? = some ob) (h1 : l[n]? = some s1) (h2 : l[n + 1]? = some s2)
    (r0 : Region.ready .any l.toArray L = [q, n])
    (r1 : Region.ready .any l.toArray (L.setIfInBounds q true) = [n]) (r2 : Region.ready .any l.toArray (L.setIfInBounds n true) = [q])
    (r3 : Region.ready .any l.toArray ((L.setIfInBounds q true).setIfInBounds n true) = [n + 1]) (r4 : Region.ready .any l.toArray ((L.setIfInBounds n true).setIfInBounds q true) = [n + 1])
    (r5 : Region.ready .any l.toArray (((L.setIfInBounds q true).setIfInBounds n true).setIfInBounds (n + 1) true) = []) (r6 : Region.ready .any l.toArray (((L.setIfInBounds n true).setIfInBounds q true).setIfInBounds (n + 1) true) = [])
    (hb : ∀ (y : World), (y = w ∨ y = w1) → ∀ (K : Act → World → Prop), K (a.put ob.dst v) y → if Region.wanted ob (yielded l.toArray a.tmps) then ob.wp P a y K Q ∨ (ob.asks P a y ∧ LetsOut Q) else K (a.put ob.dst undef) y)
    (hs1 : ∀ (a' : Act), (a' = a ∨ a' = a.put ob.dst v) → ∀ (K : Act → World → Prop), K a' w1 → if Region.wanted s1 (yielded l.toArray a'.tmps) then s1.wp P a' w K Q ∨ (s1.asks P a' w ∧ LetsOut Q) else K (a'.put s1.dst undef) w)
    (hs2 : ∀ (K : Act → World → Prop), K (a.put ob.dst v) w2 → if Region.wanted s2 (yielded l.toArray (a.put ob.dst v).tmps) then s2.wp P (a.put ob.dst v) w1 K Q ∨ (s2.asks P (a.put ob.dst v) w1 ∧ LetsOut Q) else K ((a.put ob.dst v).put s2.dst undef) w1)
    (hQ : Q .normal (a.put ob.dst v) w2) : wpAny P .any l.toArray Q 3 L a w :=
  wpAny_two r0 h0 h1 (hb _ (.inl rfl) _ (wpAny_one r1 h1 (hs1 _ (.inr rfl) _ (wpAny_one r3 h2 (hs2 _ ⟨r5, hQ⟩))))) (hs1 _ (.inl rfl) _ (wpAny_one r2 h0 (hb _ (.inr rfl) _ (wpAny_one r4 h2 (hs2 _ ⟨r6, hQ⟩)))))
theorem at_store_rowU {ops : List Oper} {o : Oper} {a : Act} {w : World} {K : Act → World → Prop} {t s b : Nat} {g : Nat → Nat} {old : Array Value} (hw : Region.wanted o (yielded ops.toArray a.tmps) = true) (ho : o.op = .store 22 (.tmp t) (.tmp s)) (hd : o.dst = none)
    (e1 : a.tmps[t]? = some (.pointer (some ⟨b, 0, none⟩))) (e2 : a.tmps[s]? = some (.agg (U8 g))) (hb : w.heap[b]? = some (.cells old 22 (0, 0))) (hold : old.size = 32) (h : K a (w.setRow b (U8 g))) :
    (if Region.wanted o (yielded ops.toArray a.tmps) then o.wp Try.prog a w K Q ∨ (o.asks Try.prog a w ∧ LetsOut Q) else K (a.put o.dst undef) w) :=
  at_store_row hw ho hd e1 e2 hb (sz22.trans (by simp [U8])) (by simp [U8, hold]) (vals_one _ _ _) h
end
end Go.Proofs.Ytikmghmapmlebaa
