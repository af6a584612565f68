/-
  The taking end of a stream: what it is in memory; where a piece ends (f33); a new one (f8).
-/
import Derived.Test.YtjnekjjaofabeaaNq
import Derived.Test.YtjnekjjaofabeaaBb
namespace Go.Proofs.Ytjnekjjaofabeaa
open Go.RowKit Go.Rh Rng

/-- A piece as a value, its cells. -/
def pcells (off : Int) (d : ByteArray) (fin : Bool) : Array Value := #[.int .i64 off, .string d, .bool fin]
theorem end_any (w : World) (off : Int) (d : ByteArray) (fin : Bool) (h0 : -4611686018427387904 ≤ off) (h1 : off ≤ 4611686018427387904) (h2 : d.size ≤ 1000000) : Calls Try.prog 33 #[.agg #[.int .i64 off, .string d, .bool fin]] w fun e w' =>
    e = .returned (.int .i64 (off + d.size)) ∧ w' = w.alloc (.cells #[.int .i64 off, .string d, .bool fin] 34) := by
  have hw : IntKind.i64.wrap (off + (d.size : Int)) = off + (d.size : Int) := by rw [IntKind.wrap_i64]; omega
  go_enter Try.func33, Try.ntmps33
  go_wp2
  go_ret
  exact ⟨rfl, rfl⟩

structure Rcv where
  b : List UInt8
  came : List Sp
  top : Int
  read : Int
  size : Int
  window : Int
  limit : Int
  known : Bool
  gone : Bool
def rcells (vb : Value) (cb : Nat) (r : Rcv) : Array Value :=
  #[vb, .pointer (some ⟨cb, 0, none⟩), .int .i64 r.top, .int .i64 r.read, .int .i64 r.size, .int .i64 r.window, .int .i64 r.limit, .bool r.known, .bool r.gone]
/-- A taking end in memory, its blocks among `F`. -/
def RcvAt (F : Nat → Prop) (w : World) (R : Nat) (r : Rcv) : Prop :=
  ∃ vb cb vc, w.heap[R]? = some (.cells (rcells vb cb r) 76 (0, 0)) ∧ Rh.Own w 0 vb r.b ∧ SetAt w cb vc r.came ∧ F R ∧ F cb ∧ (∀ k, vb.ownBlock = some k → F k) ∧ (∀ k, vc.ownBlock = some k → F k)
theorem RcvAt.keep {F S : Nat → Prop} {w w' : World} {R : Nat} {r : Rcv} (h : RcvAt F w R r) (k : Keep w w' S) (hd : ∀ i, F i → ¬ S i) : RcvAt F w' R r := by
  obtain ⟨vb, cb, vc, h1, h2, h3, f1, f2, f3, f4⟩ := h
  exact ⟨vb, cb, vc, (k.block R (heap_lt h1) (hd R f1)).trans h1, h2.keep k (fun i hi => hd i (f3 i hi)), h3.keep k (hd cb f2) (fun i hi => hd i (f4 i hi)), f1, f2, f3, f4⟩
theorem RcvAt.mono {F G : Nat → Prop} {w : World} {R : Nat} {r : Rcv} (h : RcvAt F w R r) (hd : ∀ i, i < w.heap.size → F i → G i) : RcvAt G w R r := by
  obtain ⟨vb, cb, vc, h1, h2, h3, f1, f2, f3, f4⟩ := h
  exact ⟨vb, cb, vc, h1, h2, h3, hd R (heap_lt h1) f1, hd cb (heap_lt h3.row) f2, fun k hk => hd k (h2.lt k hk).2 (f3 k hk), fun k hk => hd k (h3.2.1.lt k hk) (f4 k hk)⟩
theorem block_ne {w : World} {a b : Nat} {cs cs' : Array Value} {t t' : TypeId} {fr fr' : Nat × Nat} (h1 : w.heap[a]? = some (.cells cs t fr)) (h2 : w.heap[b]? = some (.cells cs' t' fr')) (ht : t ≠ t') : a ≠ b := by
  rintro rfl
  rw [h1] at h2
  injection h2 with h2
  injection h2 with _ e
  exact ht e
theorem own_row {w : World} {B : Nat} {v : Value} {l : List UInt8} (h : Rh.Own w B v l) {k : Nat} (hk : v.ownBlock = some k) : ∃ cs fr, w.heap[k]? = some (.cells cs 5 fr) := by
  rcases h with ⟨rfl, _⟩ | ⟨g, off, c, cs, fr, rfl, _, h, _⟩
  · simp [Value.ownBlock] at hk
  · simp [Value.ownBlock] at hk; subst hk; exact ⟨cs, fr, h⟩
theorem SetV.row {w : World} {v : Value} {l : List Sp} (h : SetV w v l) {k : Nat} (hk : v.ownBlock = some k) : ∃ cs, w.heap[k]? = some (.cells cs 93 (0, 0)) := by
  rcases h with ⟨rfl, _⟩ | ⟨g, c, rfl, cs, h, _⟩
  · simp [Value.ownBlock] at hk
  · simp [Value.ownBlock] at hk; subst hk; exact ⟨cs, h⟩

def rnew (window : Int) : Rcv := { b := [], came := [], top := 0, read := 0, size := 0, window := window, limit := window, known := false, gone := false }
theorem newrecv_any (w : World) (n : Int) (h1 : 1 ≤ n) (h2 : n ≤ 65536) : Calls Try.prog 8 #[.int .i64 n] w fun e w' =>
    ∃ R, e = .returned (.tuple #[.pointer (some ⟨R, 0, none⟩), .int .i64 0]) ∧ RcvAt (fun k => w.heap.size ≤ k) w' R (rnew n) ∧ Below w.heap.size w w' := by
  have h1' : ¬ n < 1 := by omega
  have h2' : ¬ 65536 < n := by omega
  go_enter Try.func8, Try.ntmps8
  go_wp2_with (go_at_call 32; refine (set_any _).mono ?_; rintro e w' ⟨rfl, rfl⟩)
  go_ret2
  have hB : Below w.heap.size w (w.alloc (.cells #[.slice none 0 0, .int .i64 100000] 96)) := (Below.refl _ w).alloc (Nat.le_refl _) _
  refine ⟨_, rfl, ⟨.slice none 0 0, w.heap.size, .slice none 0 0, ?_, .inl ⟨rfl, rfl⟩, ?_, ?_, Nat.le_refl _, fun k hk => by simp [Value.ownBlock] at hk, fun k hk => by simp [Value.ownBlock] at hk⟩, hB.alloc (by simp) _⟩
  · have := heap_alloc_new (w.alloc (.cells #[.slice none 0 0, .int .i64 100000] 96)) (.cells (rcells (.slice none 0 0) w.heap.size (rnew n)) 76)
    rw [World.size_alloc] at this
    exact this
  · exact (SetAt.fresh w).old (fun i hi => heap_old _ _ i hi)
  · simp
end Go.Proofs.Ytjnekjjaofabeaa
