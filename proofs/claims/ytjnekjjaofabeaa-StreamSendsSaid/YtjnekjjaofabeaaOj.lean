/-
  The sending end of a stream: what it is in memory; a new one (f12), Close (f14), Fresh (f16), Allow (f17).
-/
import Derived.Test.YtjnekjjaofabeaaOe
import Derived.Handy
namespace Go.Proofs.Ytjnekjjaofabeaa
open Go.RowKit Go.Rh Rng

structure Snd where
  b : List UInt8
  todo : List Sp
  came : List Sp
  limit : Int
  top : Int
  closed : Bool
  endTodo : Bool
  endSent : Bool
  ends : Bool
def scells (vb : Value) (ct cc : Nat) (s : Snd) : Array Value :=
  #[vb, .pointer (some ⟨ct, 0, none⟩), .pointer (some ⟨cc, 0, none⟩), .int .i64 s.limit, .int .i64 s.top, .bool s.closed, .bool s.endTodo, .bool s.endSent, .bool s.ends]
/-- A sending end in memory, its blocks among `F`. -/
def SndAt (F : Nat → Prop) (w : World) (S : Nat) (s : Snd) : Prop :=
  ∃ vb ct vt cc vc, w.heap[S]? = some (.cells (scells vb ct cc s) 82 (0, 0)) ∧ Rh.Own w 0 vb s.b ∧ SetAt w ct vt s.todo ∧ SetAt w cc vc s.came ∧ F S ∧ F ct ∧ F cc ∧ (∀ k, vb.ownBlock = some k → F k) ∧ (∀ k, vt.ownBlock = some k → F k) ∧ (∀ k, vc.ownBlock = some k → F k) ∧
    ct ≠ cc ∧ ∀ k, vt.ownBlock = some k → ¬ vc.ownBlock = some k
theorem SndAt.keep {F S' : Nat → Prop} {w w' : World} {S : Nat} {s : Snd} (h : SndAt F w S s) (k : Keep w w' S') (hd : ∀ i, F i → ¬ S' i) : SndAt F w' S s := by
  obtain ⟨vb, ct, vt, cc, vc, h1, h2, h3, h4, f1, f2, f3, f4, f5, f6, n1, n2⟩ := h
  exact ⟨vb, ct, vt, cc, vc, (k.block S (heap_lt h1) (hd S f1)).trans h1, h2.keep k (fun i hi => hd i (f4 i hi)), h3.keep k (hd ct f2) (fun i hi => hd i (f5 i hi)), h4.keep k (hd cc f3) (fun i hi => hd i (f6 i hi)), f1, f2, f3, f4, f5, f6, n1, n2⟩
theorem SndAt.mono {F G : Nat → Prop} {w : World} {S : Nat} {s : Snd} (h : SndAt F w S s) (hd : ∀ i, i < w.heap.size → F i → G i) : SndAt G w S s := by
  obtain ⟨vb, ct, vt, cc, vc, h1, h2, h3, h4, f1, f2, f3, f4, f5, f6, n1, n2⟩ := h
  exact ⟨vb, ct, vt, cc, vc, h1, h2, h3, h4, hd S (heap_lt h1) f1, hd ct (heap_lt h3.row) f2, hd cc (heap_lt h4.row) f3, fun k hk => hd k (h2.lt k hk).2 (f4 k hk), fun k hk => hd k (h3.2.1.lt k hk) (f5 k hk), fun k hk => hd k (h4.2.1.lt k hk) (f6 k hk), n1, n2⟩
theorem SndAt.lt {F : Nat → Prop} {w : World} {S : Nat} {s : Snd} (h : SndAt F w S s) : S < w.heap.size := by obtain ⟨vb, ct, vt, cc, vc, h1, _⟩ := h; exact heap_lt h1
theorem SndAt.own {F : Nat → Prop} {w : World} {S : Nat} {s : Snd} (h : SndAt F w S s) : F S := by obtain ⟨vb, ct, vt, cc, vc, h1, h2, h3, h4, f1, _⟩ := h; exact f1
/-- A cell of its own is turned (neither its bytes nor its sets). -/
theorem SndAt.set {F : Nat → Prop} {w : World} {S : Nat} {s : Snd} (h : SndAt F w S s) (i : Nat) (u : Value) (s' : Snd) (hc : ∀ vb ct cc, (scells vb ct cc s).setIfInBounds i u = scells vb ct cc s') (hb : s'.b = s.b) (ht : s'.todo = s.todo) (hcm : s'.came = s.came) : SndAt F (w.setCell ⟨S, i, none⟩ u) S s' := by
  obtain ⟨vb, ct, vt, cc, vc, h1, h2, h3, h4, f1, f2, f3, f4, f5, f6, n1, n2⟩ := h
  have kp : Keep w (w.setCell ⟨S, i, none⟩ u) (fun k => k = S) := Keep.setCell (S := fun k => k = S) (Keep.refl w _) (.inr rfl) _
  refine ⟨vb, ct, vt, cc, vc, by rw [← hc]; exact set_block h1 i u, by rw [hb]; exact h2.keep kp (fun k hk e => by obtain ⟨cs, fr, e'⟩ := own_row h2 hk; exact block_ne e' h1 (by decide) e), ?_, ?_, f1, f2, f3, f4, f5, f6, n1, n2⟩
  · rw [ht]; exact h3.keep kp (fun e => block_ne h3.row h1 (by decide) e) (fun k hk e => by obtain ⟨cs, e'⟩ := h3.2.1.row hk; exact block_ne e' h1 (by decide) e)
  · rw [hcm]; exact h4.keep kp (fun e => block_ne h4.row h1 (by decide) e) (fun k hk e => by obtain ⟨cs, e'⟩ := h4.2.1.row hk; exact block_ne e' h1 (by decide) e)
theorem SndAt.cells {F : Nat → Prop} {w : World} {S : Nat} {s : Snd} (h : SndAt F w S s) :
    w.cell? ⟨S, 3, none⟩ = some (.int .i64 s.limit) ∧ w.cell? ⟨S, 4, none⟩ = some (.int .i64 s.top) ∧ w.cell? ⟨S, 5, none⟩ = some (.bool s.closed) ∧ w.cell? ⟨S, 6, none⟩ = some (.bool s.endTodo) ∧ w.cell? ⟨S, 7, none⟩ = some (.bool s.endSent) ∧ w.cell? ⟨S, 8, none⟩ = some (.bool s.ends) ∧ ∀ i, w.frozen? ⟨S, i, none⟩ = false := by
  obtain ⟨vb, ct, vt, cc, vc, h1, _⟩ := h
  refine ⟨?_, ?_, ?_, ?_, ?_, ?_, fun i => ?_⟩
  all_goals first
    | (rw [cell_of_row w S _ _ _ _ h1]; rfl)
    | simp [World.frozen?, h1]

def snew (limit : Int) : Snd := { b := [], todo := [], came := [], limit := limit, top := 0, closed := false, endTodo := false, endSent := false, ends := false }
theorem newsend_any (w : World) (n : Int) (h1 : 0 ≤ n) (h2 : n ≤ 1099511627776) : Calls Try.prog 12 #[.int .i64 n] w fun e w' =>
    ∃ S, e = .returned (.tuple #[.pointer (some ⟨S, 0, none⟩), .int .i64 0]) ∧ SndAt (fun k => w.heap.size ≤ k) w' S (snew n) ∧ Below w.heap.size w w' := by
  have h1' : ¬ n < 0 := by omega
  have h2' : ¬ 1099511627776 < n := by omega
  go_enter Try.func12, Try.ntmps12
  go_wp2_with (go_at_call 32; refine (set_any _).mono ?_; rintro e w' ⟨rfl, rfl⟩)
  go_ret2
  obtain ⟨w1, hw1⟩ : ∃ w1, w1 = w.alloc (.cells #[.slice none 0 0, .int .i64 100000] 96) := ⟨_, rfl⟩
  have z1 : w1.heap.size = w.heap.size + 1 := by rw [hw1]; simp
  have hB : Below w.heap.size w w1 := by rw [hw1]; exact (Below.refl _ w).alloc (Nat.le_refl _) _
  have s1 : SetAt w1 w.heap.size (.slice none 0 0) [] := by rw [hw1]; exact SetAt.fresh w
  rw [← hw1]
  have hB2 : Below w.heap.size w (w1.alloc (.cells #[.slice none 0 0, .int .i64 100000] 96)) := hB.alloc (by omega) _
  have s2 : SetAt (w1.alloc (.cells #[.slice none 0 0, .int .i64 100000] 96)) w1.heap.size (.slice none 0 0) [] := SetAt.fresh w1
  rw [z1] at s2
  have s1' := s1.old (w' := w1.alloc (.cells #[.slice none 0 0, .int .i64 100000] 96)) (fun i hi => heap_old _ _ i hi)
  refine ⟨_, rfl, ⟨.slice none 0 0, w.heap.size, .slice none 0 0, w.heap.size + 1, .slice none 0 0, ?_, .inl ⟨rfl, rfl⟩, s1'.old (fun i hi => heap_old _ _ i hi), s2.old (fun i hi => heap_old _ _ i hi), ?_, Nat.le_refl _, by omega, fun k hk => by simp [Value.ownBlock] at hk, fun k hk => by simp [Value.ownBlock] at hk, fun k hk => by simp [Value.ownBlock] at hk, by omega, fun k hk => by simp [Value.ownBlock] at hk⟩, hB2.alloc (by simp; omega) _⟩
  · have := heap_alloc_new (w1.alloc (.cells #[.slice none 0 0, .int .i64 100000] 96)) (.cells (scells (.slice none 0 0) w.heap.size (w.heap.size + 1) (snew n)) 82)
    rw [World.size_alloc, z1] at this
    exact this
  · simp; omega

theorem close_any {F : Nat → Prop} {w : World} {S : Nat} {s : Snd} (h : SndAt F w S s) (hc : s.closed = false) : Calls Try.prog 14 #[.pointer (some ⟨S, 0, none⟩)] w fun e w' =>
    e = .returned (.int .i64 0) ∧ SndAt F w' S { s with closed := true, endTodo := true } ∧ Keep w w' F := by
  obtain ⟨c3, c4, c5, c6, c7, c8, cf⟩ := h.cells
  rw [hc] at c5
  have f5 := cf 5
  have f6 := cf 6
  have hF := h.own
  have HH := Lib.hid h
  clear h cf
  go_enter Try.func14, Try.ntmps14
  go_wp2_with fail
  go_ret
  exact ⟨rfl, (HH.out.set 5 (.bool true) { s with closed := true } (fun _ _ _ => rfl) rfl rfl rfl).set 6 (.bool true) _ (fun _ _ _ => rfl) rfl rfl rfl, ((Keep.refl w F).setCell (.inr hF) _).setCell (.inr hF) _⟩
theorem fresh_any {F : Nat → Prop} {w : World} {S : Nat} {s : Snd} (h : SndAt F w S s) : Calls Try.prog 16 #[.pointer (some ⟨S, 0, none⟩)] w fun e w' => e = .returned (.int .i64 s.top) ∧ w' = w := by
  obtain ⟨c3, c4, c5, c6, c7, c8, cf⟩ := h.cells
  clear h cf
  go_enter Try.func16, Try.ntmps16
  go_wp2_with fail
  go_ret
  exact ⟨rfl, rfl⟩
theorem allow_any {F : Nat → Prop} {w : World} {S : Nat} {s : Snd} (h : SndAt F w S s) (n : Int) : Calls Try.prog 17 #[.pointer (some ⟨S, 0, none⟩), .int .i64 n] w fun e w' =>
    (∃ u, e = .returned u) ∧ SndAt F w' S { s with limit := max s.limit (min n 1099511627776) } ∧ Keep w w' F := by
  obtain ⟨c3, c4, c5, c6, c7, c8, cf⟩ := h.cells
  have f3 := cf 3
  have hF := h.own
  obtain ⟨l, hl⟩ : ∃ l, l = s.limit := ⟨_, rfl⟩
  rw [← hl] at c3
  have HL := Lib.hid hl
  have HH := Lib.hid h
  clear h cf hl
  by_cases h1 : n ≤ 1099511627776
  · obtain ⟨m, hm⟩ : ∃ m, m = max l n := ⟨_, rfl⟩
    go_enter Try.func17, Try.ntmps17
    go_wp2_with fail
    all_goals
      go_returns
      exact ⟨⟨_, rfl⟩, HH.out.set 3 _ _ (fun _ _ _ => by simp [scells]; rw [← HL.out]; omega) rfl rfl rfl, (Keep.refl w F).setCell (.inr hF) _⟩
  · have h1' : 1099511627776 < n := by omega
    go_enter Try.func17, Try.ntmps17
    go_wp2_with fail
    all_goals
      go_returns
      exact ⟨⟨_, rfl⟩, HH.out.set 3 _ _ (fun _ _ _ => by simp [scells]; rw [← HL.out]; omega) rfl rfl rfl, (Keep.refl w F).setCell (.inr hF) _⟩
end Go.Proofs.Ytjnekjjaofabeaa
