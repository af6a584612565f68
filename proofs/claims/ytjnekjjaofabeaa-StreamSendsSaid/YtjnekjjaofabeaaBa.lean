/-
  Slices of bytes, second part: slicing, strings out of bytes and back, an array's bytes.
-/
import Derived.Test.YtjnekjjaofabeaaB
import Derived.Laws.Entries
namespace Go.Rh
open Go.RowKit

section
variable {P : Program}

theorem at_drop' (l : List UInt8) (n j : Nat) : at_ (l.drop n) j = at_ l (n + j) := at_drop l n j
theorem size_of5 {i : TypeInfo} (hi : P.info? 5 = some i) (hsz : i.size = 1) (w : World) : (sizeOf 5).run P w = .ok 1 w := by simp [sizeOf, typeInfo, hi, hsz]
/-- The bytes from a place on. -/
theorem run_cut_own {w : World} {B : Nat} {v : Value} {l : List UInt8} (t : TypeId) (i : TypeInfo) (ht : P.underlying t = some (.slice 5)) (hi : P.info? 5 = some i) (hsz : i.size = 1) (hown : Own w B v l) (k : Nat) (h0 : 0 < k) (hk : k ≤ l.length) :
    ∃ v', (∀ W : World, (Instr.sliceAt t v (some (.int .i64 (k : Int))) none none).run P W = .ok v' W) ∧ Own w B v' (l.drop k) ∧ v'.ownBlock = v.ownBlock := by
  have he : P.elem t = 5 := by simp [Program.elem, ht]
  have ht' : P.underlying t = some (.slice (P.elem t)) := by rw [he]; exact ht
  rcases hown with ⟨rfl, rfl⟩ | ⟨g, off, c, cs, fr, rfl, hB, hg, hf, h1, h2, h3⟩
  · simp at hk; omega
  · refine ⟨.slice (some ⟨g, (if c = k then off else off + k), none⟩) (l.length - k) (c - k), fun W => ?_, .inr ⟨g, _, c - k, cs, fr, by rw [List.length_drop], hB, hg, hf, by rw [List.length_drop]; omega, ?_, fun j hj => ?_⟩, rfl⟩
    · rw [run_sliceAt_slice W t _ _ _ _ ht', run_slice_l W t _ _ _ ht' _ _ (by omega) (by omega), he, size_of5 hi hsz]
      simp only [Result.andThen_ok, sliced, Int.toNat_natCast, Nat.mul_one]
      split <;> simp [Addr.add_lit]
    · split <;> omega
    · rw [List.length_drop] at hj
      rw [if_neg (by omega), at_drop, ← h3 (k + j) (by omega)]
      congr 1; omega
/-- Bytes from a place to a place. -/
theorem run_part {ok : Nat → Prop} {w : World} {v : Value} {l : List UInt8} (t : TypeId) (i : TypeInfo) (ht : P.underlying t = some (.slice 5)) (hi : P.info? 5 = some i) (hsz : i.size = 1) (hv : Bs ok w v l) (a b : Nat) (hab : a ≤ b) (hb : b ≤ l.length) :
    ∃ v', (∀ W : World, (Instr.sliceAt t v (some (.int .i64 (a : Int))) (some (.int .i64 (b : Int))) none).run P W = .ok v' W) ∧ Bs ok w v' ((l.drop a).take (b - a)) := by
  have he : P.elem t = 5 := by simp [Program.elem, ht]
  have ht' : P.underlying t = some (.slice (P.elem t)) := by rw [he]; exact ht
  obtain ⟨A, n, c, rfl, hn, hc, hbk⟩ := hv
  refine ⟨_, fun W => by
    rw [run_sliceAt_slice W t _ _ _ _ ht', run_slice_lh W t _ _ _ ht' _ _ _ _ (by omega) (by omega) (by omega), he, size_of5 hi hsz, Result.andThen_ok], ?_⟩
  simp only [sliced, Int.toNat_natCast, Nat.mul_one]
  refine ⟨_, b - a, c - a, rfl, by rw [List.length_take, List.length_drop]; omega, by omega, fun h0 => ?_⟩
  obtain ⟨g, off, rfl, hok, hj⟩ := hbk (by omega)
  rw [if_neg (by omega)]
  refine ⟨g, off + a, by simp [Addr.add_lit], hok, fun j hjb => ?_⟩
  rw [Nat.add_assoc, hj (a + j) (by omega)]
  congr 3
  unfold at_
  rw [List.getD_eq_getElem?_getD, List.getD_eq_getElem?_getD, List.getElem?_take, if_pos hjb, List.getElem?_drop]
theorem run_first {ok : Nat → Prop} {w : World} {v : Value} {l : List UInt8} (t : TypeId) (i : TypeInfo) (ht : P.underlying t = some (.slice 5)) (hi : P.info? 5 = some i) (hsz : i.size = 1) (hv : Bs ok w v l) (b : Nat) (hb : b ≤ l.length) :
    ∃ v', (∀ W : World, (Instr.sliceAt t v none (some (.int .i64 (b : Int))) none).run P W = .ok v' W) ∧ Bs ok w v' (l.take b) := by
  have he : P.elem t = 5 := by simp [Program.elem, ht]
  have ht' : P.underlying t = some (.slice (P.elem t)) := by rw [he]; exact ht
  obtain ⟨A, n, c, rfl, hn, hc, hbk⟩ := hv
  refine ⟨_, fun W => by
    rw [run_sliceAt_slice W t _ _ _ _ ht', run_slice_h W t _ _ _ ht' _ _ (by omega) (by omega), he, size_of5 hi hsz, Result.andThen_ok], ?_⟩
  simp only [sliced, Int.toNat_natCast, Nat.mul_one, Nat.zero_mul, Nat.sub_zero]
  refine ⟨_, b, c, rfl, by rw [List.length_take]; omega, by omega, fun h0 => ?_⟩
  obtain ⟨g, off, rfl, hok, hj⟩ := hbk (by omega)
  refine ⟨g, off, by split <;> simp [Addr.add_lit], hok, fun j hjb => ?_⟩
  rw [hj j (by omega)]
  congr 3
  unfold at_
  rw [List.getD_eq_getElem?_getD, List.getD_eq_getElem?_getD, List.getElem?_take, if_pos hjb]
theorem run_from {ok : Nat → Prop} {w : World} {v : Value} {l : List UInt8} (t : TypeId) (i : TypeInfo) (ht : P.underlying t = some (.slice 5)) (hi : P.info? 5 = some i) (hsz : i.size = 1) (hv : Bs ok w v l) (a : Nat) (ha : a ≤ l.length) :
    ∃ v', (∀ W : World, (Instr.sliceAt t v (some (.int .i64 (a : Int))) none none).run P W = .ok v' W) ∧ Bs ok w v' (l.drop a) := by
  have he : P.elem t = 5 := by simp [Program.elem, ht]
  have ht' : P.underlying t = some (.slice (P.elem t)) := by rw [he]; exact ht
  obtain ⟨A, n, c, rfl, hn, hc, hbk⟩ := hv
  refine ⟨_, fun W => by
    rw [run_sliceAt_slice W t _ _ _ _ ht', run_slice_l W t _ _ _ ht' _ _ (by omega) (by omega), he, size_of5 hi hsz, Result.andThen_ok], ?_⟩
  simp only [sliced, Int.toNat_natCast, Nat.mul_one]
  refine ⟨_, n - a, c - a, rfl, by rw [List.length_drop]; omega, by omega, fun h0 => ?_⟩
  obtain ⟨g, off, rfl, hok, hj⟩ := hbk (by omega)
  rw [if_neg (by omega)]
  refine ⟨g, off + a, by simp [Addr.add_lit], hok, fun j hjb => ?_⟩
  rw [Nat.add_assoc, hj (a + j) (by omega), at_drop]

theorem S8_of_data {s : ByteArray} : s = S8 s.data.toList := by simp [S8]
/-- Bytes as a string. -/
theorem run_string_bs {ok : Nat → Prop} {w : World} {v : Value} {l : List UInt8} {src dst : TypeId} (hs : P.underlying src = some (.slice 5)) (he : P.underlying 5 = some (.int .u8)) (hd : P.underlying dst = some .string) (hv : Bs ok w v l) :
    (convert src dst v).run P w = .ok (.string (S8 l)) w := by
  obtain ⟨A, n, c, rfl, hn, hc, hbk⟩ := hv
  rw [run_convert_bytes_string w src dst 5 _ _ _ hs he hd]
  by_cases h0 : n = 0
  · have : l = [] := List.eq_nil_of_length_eq_zero (by omega)
    subst this h0
    cases A with
    | none => rfl
    | some a =>
      rw [run_bytesToString w a 0 c [] (by rfl)]
      rfl
  · obtain ⟨b, off, rfl, _, hj⟩ := hbk (by omega)
    have hc : (loadCells ⟨b, off, none⟩ n).run P w = .ok ((l.map ub).map (Value.int .u8)).toArray w := by
      have e : ((l.map ub).map (Value.int .u8)) = bv l := by simp [bv]
      have := run_loadCells_list (P := P) w ⟨b, off, none⟩ (bv l) fun j u hu => by
        obtain ⟨hjl, rfl⟩ := bv_get hu
        rw [Addr.add_lit]
        exact hj j (by omega)
      rw [bv_length, ← hn] at this
      rw [e]
      exact this
    rw [run_bytesToString w _ n c _ hc, foldl_push]
    congr 2
    unfold S8
    have : (fun x : UInt8 => UInt8.ofNat (ub x).toNat) = id := by funext x; simp [ub]
    simp [ByteArray.empty, ByteArray.emptyWithCapacity, Function.comp_def, this]
    rfl
/-- A string's bytes. -/
theorem run_bytes_S8 {src dst : TypeId} (hs : P.underlying src = some .string) (hd : P.underlying dst = some (.slice 5)) (he : P.underlying 5 = some (.int .u8)) (l : List UInt8) (w : World) :
    ∃ v w', (convert src dst (.string (S8 l))).run P w = .ok v w' ∧ Own w' w.heap.size v l ∧ Below w.heap.size w w' ∧ (v.ownBlock = some w.heap.size) := by
  refine ⟨_, _, run_bytes_of_string w src dst 5 (S8 l) hs hd he, ?_, ?_, rfl⟩
  · rw [S8_size]
    have hge := grownCap_ge w l.length 0 5
    have hsz : (bytesRow (S8 l) (grownCap w l.length 0 5)).size = grownCap w l.length 0 5 := by
      unfold bytesRow
      have e : (S8 l).data.size = l.length := S8_size l
      simp only [Array.size_append, Array.size_map, Array.size_replicate, S8_size, e]; omega
    refine Own.of_block (heap_alloc_new w.drew _) (.inr ?_) (Nat.le_refl _) hge (by rw [hsz]; exact Nat.le_refl _) fun j hj => ?_
    · exact Nat.le_refl _
    · unfold bytesRow
      rw [Array.getElem?_append_left (by simp [S8]; exact hj)]
      simp [S8, at_get hj, ub, hj]
  · exact ((Below.refl _ _).drew).alloc (Nat.le_refl _) _
/-- An array's bytes, as a slice. -/
theorem bs_row {w : World} {b n : Nat} {l : List UInt8} {t : TypeId} {fr : Nat × Nat} (hg : w.heap[b]? = some (.cells (B8 n l) t fr)) (hl : l.length = n) : Bs (fun k => k = b) w (.slice (some ⟨b, 0, none⟩) n n) l :=
  ⟨_, _, _, rfl, hl.symm, Nat.le_refl _, fun _ => ⟨b, 0, rfl, rfl, fun j hj => by rw [Nat.zero_add, cell_of_row w b j _ t fr hg, B8_get l hj]⟩⟩
end
end Go.Rh
