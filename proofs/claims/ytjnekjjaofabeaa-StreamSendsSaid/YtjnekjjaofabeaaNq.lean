/-
  The gaps of a set: Gaps (f35), its iterator (f43).
-/
import Derived.Test.YtjnekjjaofabeaaNp
namespace Go.Proofs.Ytjnekjjaofabeaa
open Go.RowKit Go.Rh Rng Go.Shelf
attribute [local go_sem] Oper.semAt_some

theorem gaps_any (w : World) (s : Nat) (a b : Int) : Calls Try.prog 35 #[.pointer (some ⟨s, 0, none⟩), .int .i64 a, .int .i64 b] w fun e w' =>
    e = .returned (.func (.func 43) #[] #[.pointer (some ⟨w.heap.size + 1, 0, none⟩), .pointer (some ⟨w.heap.size + 2, 0, none⟩), .pointer (some ⟨w.heap.size, 0, none⟩)]) ∧
      w' = ((w.alloc (.cells #[.pointer (some ⟨s, 0, none⟩)] 73)).alloc (.cells #[.int .i64 a] 3)).alloc (.cells #[.int .i64 b] 3) := by
  go_enter Try.func35, Try.ntmps35
  go_wp2
  go_ret
  exact ⟨rfl, rfl⟩

theorem grown_set (W : World) (g o : Nat) (u : Value) : W.grownBy (W.setCell ⟨g, o, none⟩ u) (some g) := ⟨rfl, rfl, rfl, by simp, fun k _ hne => Below.heap_setCell W _ _ k (by rintro rfl; exact hne rfl)⟩
def GF (B b2 ll : Nat) (b at_ : Int) (W : World) : Prop :=
  W.heap[B]? = some (.cells #[.func (.yield ll) #[] #[]] 90 (0, 0)) ∧ W.heap[B + 1]? = some (.cells #[.int .i64 at_] 3 (0, 0)) ∧ W.heap[b2]? = some (.cells #[.int .i64 b] 3 (0, 0))
theorem GF.keep {B b2 ll : Nat} {b at_ : Int} {W W' : World} (h : GF B b2 ll b at_ W) (k : ∀ i, i = B ∨ i = B + 1 ∨ i = b2 → W'.heap[i]? = W.heap[i]?) : GF B b2 ll b at_ W' :=
  ⟨(k B (.inl rfl)).trans h.1, (k (B + 1) (.inr (.inl rfl))).trans h.2.1, (k b2 (.inr (.inr rfl))).trans h.2.2⟩
def GI (J : List Sp → World → Prop) (B b2 ll : Nat) (a b : Int) (l pre : List Sp) (W : World) : Prop :=
  ∃ outs at_, (∀ rest, l = pre ++ rest → gapsL a b l = outs ++ gapsL at_ b rest) ∧ -4611686018427387904 ≤ at_ ∧ J outs W ∧ GF B b2 ll b at_ W
def GX (J Jx : List Sp → World → Prop) (B b2 ll : Nat) (a b : Int) (l : List Sp) (c : Code) (W : World) : Prop :=
  (c = .ret ∧ (J (gapsL a b l) W ∨ ∃ q, q <+: gapsL a b l ∧ Jx q W)) ∨ (c = .exit 0 ∧ ∃ outs at_, gapsL a b l = outs ++ [(at_, b)] ∧ J outs W ∧ GF B b2 ll b at_ W)
/-- Where the iterator's own blocks end. -/
def gapE (a b : Int) (v : Value) (l : List Sp) (B : Nat) : Nat := if b < a then B else B + 5 + cloneN v l
theorem gapE_le (a b : Int) (v : Value) (l : List Sp) (B : Nat) : B ≤ gapE a b v l B := by unfold gapE; split <;> omega
theorem SetAt.old {w w' : World} {s : Nat} {v : Value} {l : List Sp} (h : SetAt w s v l) (k : ∀ i, i < w.heap.size → w'.heap[i]? = w.heap[i]?) : SetAt w' s v l := by
  refine ⟨(k s (heap_lt h.1)).trans h.1, ?_, h.2.2⟩
  rcases h.2.1 with e | ⟨g, c, e, hr⟩
  · exact .inl e
  · exact .inr ⟨g, c, e, hr.heap (k g hr.lt)⟩

set_option maxHeartbeats 2000000 in
set_option maxRecDepth 100000 in
theorem gaps_seq {W : World} {s b1 b2 b3 : Nat} {v : Value} {l : List Sp} {a b : Int} (h1 : W.heap[b1]? = some (.cells #[.int .i64 a] 3 (0, 0))) (h2 : W.heap[b2]? = some (.cells #[.int .i64 b] 3 (0, 0))) (h3 : W.heap[b3]? = some (.cells #[.pointer (some ⟨s, 0, none⟩)] 73 (0, 0)))
    (h : SetAt W s v l) (ha : -4611686018427387904 ≤ a) (hb : b ≤ 4611686018427387904) (hB : Bd l) :
    SeqX Try.prog 43 #[.pointer (some ⟨b1, 0, none⟩), .pointer (some ⟨b2, 0, none⟩), .pointer (some ⟨b3, 0, none⟩)] encP (fun k => k = b2) (fun B r => r = B + 1) (gaps a b l) (gapE a b v l W.heap.size) W := by
  refine ⟨gapE_le _ _ _ _ _, fun ll J Jx hJ hJx hY h0 => ?_⟩
  have c1 : W.cell? ⟨b1, 0, none⟩ = some (.int .i64 a) := by rw [cell_of_row W b1 0 _ _ _ h1]; rfl
  have c2 : W.cell? ⟨b2, 0, none⟩ = some (.int .i64 b) := by rw [cell_of_row W b2 0 _ _ _ h2]; rfl
  have c3 : W.cell? ⟨b3, 0, none⟩ = some (.pointer (some ⟨s, 0, none⟩)) := by rw [cell_of_row W b3 0 _ _ _ h3]; rfl
  have HJ := Lib.hid hJ
  have HJX := Lib.hid hJx
  have HY := Lib.hid hY
  have H0 := Lib.hid h0
  have HS := Lib.hid h
  have HB := Lib.hid hB
  have H2 := Lib.hid h2
  have hb2 := heap_lt h2
  clear hJ hJx hY h0 h hB h1 h2 h3
  refine (callsIn_wide (n := 9)).1 ?_
  refine callsIn_of_wp_marks Try.func43 rfl trivial ?_ rfl
  simp only [Try.ntmps43, List.size_toArray, List.length_cons, List.length_nil, Nat.reduceAdd, Nat.reduceSub, Array.replicate_succ, Array.replicate_zero, List.push_toArray, List.append_toArray, List.nil_append, List.cons_append]
  have ka : ∀ (X : World) (o : Obj) (p : Addr) (u : Value), X.cell? p = some u → (X.alloc o).cell? p = some u := fun X o p u hp => (World.cell?_of_block (heap_old X o p.block (cell_block hp))).trans hp
  have a1 := ka _ (.cells #[.func (.yield ll) #[] #[]] 90) _ _ c1
  have a2 := ka _ (.cells #[.func (.yield ll) #[] #[]] 90) _ _ c2
  have a3 := ka _ (.cells #[.func (.yield ll) #[] #[]] 90) _ _ c3
  have e2 := ka _ (.cells #[.int .i64 a] 3) _ _ a2
  have e3 := ka _ (.cells #[.int .i64 a] 3) _ _ a3
  clear ka c1 c2 c3
  by_cases hab : b < a
  · have hg : gaps a b l = [] := by unfold gaps; rw [if_pos hab]
    have HG := Lib.hid hg
    clear hg
    gi_wp2
    refine leave_none (fun _ => results_none rfl _ _ _) ?_
    refine ⟨⟨_, rfl⟩, by unfold gapE; rw [if_pos hab]; simp, .inl ?_⟩
    rw [HG.out]
    exact HJ.out _ _ _ none H0.out (World.grownBy_alloc _ _ none) (fun r e => by cases e)
  · have hg : gaps a b l = gapsL a b l := by unfold gaps; rw [if_neg (by omega)]
    have HG := Lib.hid hg
    have hge : gapE a b v l W.heap.size = W.heap.size + 5 + cloneN v l := by unfold gapE; rw [if_neg hab]
    rw [hge] at HY ⊢
    clear hg hge
    gi_wp2_with (refine ⟨trivial, ?_⟩; gi_at_call 37; refine (callsIn_wide.2 (up_any _ s)).mono ?_; rintro e w1 ⟨rfl, rfl⟩)
    obtain ⟨B, hBB⟩ : ∃ B, B = W.heap.size := ⟨_, rfl⟩
    obtain ⟨w0, hw0⟩ : ∃ w0, w0 = ((W.alloc (.cells #[.func (.yield ll) #[] #[]] 90)).alloc (.cells #[.int .i64 a] 3)).alloc (.cells #[.pointer (some ⟨s, 0, none⟩)] 73) := ⟨_, rfl⟩
    have hsz : w0.heap.size = B + 3 := by rw [hw0, hBB]; simp
    have old : ∀ i, i < W.heap.size → w0.heap[i]? = W.heap[i]? := fun i hi => by
      rw [hw0, heap_old _ _ _ (by simp; omega), heap_old _ _ _ (by simp; omega), heap_old _ _ _ hi]
    have hGF : GF B b2 ll b a w0 := by
      refine ⟨?_, ?_, (old b2 hb2).trans H2.out⟩
      · rw [hw0, hBB, heap_old _ _ _ (by simp; omega), heap_old _ _ _ (by simp)]; exact heap_alloc_new W _
      · rw [hw0, hBB, heap_old _ _ _ (by simp)]
        have := heap_alloc_new (W.alloc (.cells #[.func (.yield ll) #[] #[]] 90)) (.cells #[.int .i64 a] 3)
        rwa [World.size_alloc] at this
    have hbx : w0.heap[B + 1 + 1]? = some (.cells #[.pointer (some ⟨s, 0, none⟩)] 73 (0, 0)) := by
      rw [hw0, hBB]
      have := heap_alloc_new ((W.alloc (.cells #[.func (.yield ll) #[] #[]] 90)).alloc (.cells #[.int .i64 a] 3)) (.cells #[.pointer (some ⟨s, 0, none⟩)] 73)
      rwa [World.size_alloc, World.size_alloc] at this
    have hset : SetAt w0 s v l := HS.out.old old
    have hJ0 : J [] w0 := by
      rw [hw0]
      exact HJ.out _ _ _ none (HJ.out _ _ _ none (HJ.out _ _ _ none H0.out (World.grownBy_alloc _ _ none) (fun r e => by cases e)) (World.grownBy_alloc _ _ none) (fun r e => by cases e)) (World.grownBy_alloc _ _ none) (fun r e => by cases e)
    rw [← hw0, ← hBB]
    have HSZ := Lib.hid hsz
    have HGF := Lib.hid hGF
    have HBX := Lib.hid hbx
    have HSET := Lib.hid hset
    have HJ0 := Lib.hid hJ0
    have HBB := Lib.hid hBB
    clear hsz hGF hbx hset hJ0 old hw0 hBB a1 a2 a3 e2 e3
    refine wpIn_wide.2 ?_
    have hJ : AbidesE B (fun r => r = B + 1) J := by rw [HBB.out]; exact HJ.out
    have hJx : AbidesE B (fun r => r = B + 1) Jx := by rw [HBB.out]; exact HJX.out
    have weak : ∀ {A : World} {row : Option Nat}, (∀ r, row = some r → w0.heap.size ≤ r ∧ (False ∨ ∃ o : Obj, A.heap[r]? = some o ∧ o.isCells = false)) → ∀ r, row = some r → B ≤ r ∧ (r = B + 1 ∨ ∃ o : Obj, A.heap[r]? = some o ∧ o.isCells = false) := fun {A row} h r e => by
      obtain ⟨h1, h2⟩ := h r e
      exact ⟨by have := HSZ.out; omega, .inr (h2.resolve_left id)⟩
    have gfab : ∀ (at_ : Int) {A A' : World} {row : Option Nat}, GF B b2 ll b at_ A → A.grownBy A' row → (∀ r, row = some r → w0.heap.size ≤ r ∧ (False ∨ ∃ o : Obj, A.heap[r]? = some o ∧ o.isCells = false)) → GF B b2 ll b at_ A' := fun at_ A A' row h hg hr =>
      ⟨(hg.block B (heap_lt h.1) (fun e => by have := (hr B e.symm).1; have := HSZ.out; omega)).trans h.1, (hg.block (B + 1) (heap_lt h.2.1) (fun e => by have := (hr _ e.symm).1; have := HSZ.out; omega)).trans h.2.1, (hg.block b2 (heap_lt h.2.2) (fun e => by have := (hr _ e.symm).1; have := HSZ.out; have := HBB.out; omega)).trans h.2.2⟩
    have HJ2 := Lib.hid hJ
    have HJX2 := Lib.hid hJx
    have putj : ∀ (ys : List Sp) (X : World) (D : Nat), J ys X → X.heap[D]? = some (.deferred (some [])) → B ≤ D → J ys (X.putObj D (.deferred none)) := fun ys X D h hd hB =>
      HJ2.out ys X _ (some D) h (grownBy_putObj' X D _) (fun r e => by cases e; exact ⟨hB, .inr ⟨_, hd, rfl⟩⟩)
    have putx : ∀ (ys : List Sp) (X : World) (D : Nat), Jx ys X → X.heap[D]? = some (.deferred (some [])) → B ≤ D → Jx ys (X.putObj D (.deferred none)) := fun ys X D h hd hB =>
      HJX2.out ys X _ (some D) h (grownBy_putObj' X D _) (fun r e => by cases e; exact ⟨hB, .inr ⟨_, hd, rfl⟩⟩)
    have PUTJ := Lib.hid putj
    have PUTX := Lib.hid putx
    clear putj putx
    refine wp_rangeFunc_X (gf := 46) (lb := #[.pointer (some ⟨B + 1 + 1, 0, none⟩)]) (encs := encP) (bs := fun _ => False) (M := fun _ _ => False) (xs := l) rfl (enters_of Try.func46 (by kernel_rfl) rfl) (fun _ h => h.elim) (w0.heap.size + 2 + cloneN v l)
      (fun W1 hs hold => by rw [← hs]; exact up_seq ((hold _ (heap_lt HBX.out)).trans HBX.out) (HSET.out.old hold) _) (fun _ => rfl)
      (GI J B b2 ll a b l) (fun c _ W => GX J Jx B b2 ll a b l c W) ?hI ?hIx ⟨[], a, fun rest h => by rw [h]; rfl, ha, HJ0.out, HGF.out⟩
      (fun x => { tmps := #[.func (.yield ll) #[] #[], .pointer (some ⟨b1, 0, none⟩), .pointer (some ⟨b2, 0, none⟩), .pointer (some ⟨b3, 0, none⟩), .pointer (some ⟨B, 0, none⟩), .pointer (some ⟨B + 1, 0, none⟩), .int .i64 x.1, .int .i64 x.2, .int .i64 a, .int .i64 b, .bool false, .int .i64 a, .pointer (some ⟨s, 0, none⟩), .func (.func 46) #[] #[.pointer (some ⟨B + 1 + 1, 0, none⟩)], .int .i64 x.1, .int .i64 x.2, undef, undef, undef, undef, undef, undef, undef, undef, undef, undef, undef, undef, undef, undef, undef, undef, undef, undef, undef, undef, undef, undef, undef, undef, undef, undef], defers := [] }) ?assign ?body ?done ?stop
    case hI =>
      rintro pre A A' row ⟨outs, at_, h1, h2, h3, h4⟩ hg hr
      exact ⟨outs, at_, h1, h2, HJ2.out _ _ _ _ h3 hg (weak hr), gfab at_ h4 hg hr⟩
    case hIx =>
      rintro c pre A A' row h hg hr
      rcases h with ⟨rfl, h | ⟨q, h1, h2⟩⟩ | ⟨rfl, outs, at_, h1, h3, h4⟩
      · exact .inl ⟨rfl, .inl (HJ2.out _ _ _ _ h hg (weak hr))⟩
      · exact .inl ⟨rfl, .inr ⟨q, h1, HJX2.out _ _ _ _ h2 hg (weak hr)⟩⟩
      · exact .inr ⟨rfl, outs, at_, h1, HJ2.out _ _ _ _ h3 hg (weak hr), gfab at_ h4 hg hr⟩
    case assign =>
      intro l' x W1 K hK
      simp only [encP]
      gi_wp2
      exact hK
    case body =>
      rintro l' pre ⟨x, y⟩ rest W1 hx hE ⟨outs, at_, hout, hat, hJo, hgf⟩
      have hxy := HB.out (x, y) (by rw [hx]; simp)
      have hxw := HSET.out.2.2.1.le (x, y) (by rw [hx]; simp)
      simp only at hxy hxw
      have hstep := hout ((x, y) :: rest) hx
      have hnext : ∀ rest', l = (pre ++ [(x, y)]) ++ rest' → rest' = rest := fun rest' h => by
        have := hx.symm.trans h
        simpa using this.symm
      have C0 : W1.cell? ⟨B, 0, none⟩ = some (.func (.yield ll) #[] #[]) := by rw [cell_of_row W1 B 0 _ _ _ hgf.1]; rfl
      have C1 : W1.cell? ⟨B + 1, 0, none⟩ = some (.int .i64 at_) := by rw [cell_of_row W1 (B + 1) 0 _ _ _ hgf.2.1]; rfl
      have C2 : W1.cell? ⟨b2, 0, none⟩ = some (.int .i64 b) := by rw [cell_of_row W1 b2 0 _ _ _ hgf.2.2]; rfl
      have F1 : W1.frozen? ⟨B + 1, 0, none⟩ = false := by simp [World.frozen?, hgf.2.1]
      have HSTEP := Lib.hid hstep
      have HNEXT := Lib.hid hnext
      have HJO := Lib.hid hJo
      have HGF1 := Lib.hid hgf
      have HE1 := Lib.hid hE
      clear hx hout hstep hnext hJo hgf hE
      by_cases g1 : y < at_
      · gi_wp2
        refine ⟨KpE.refl _ _ _ _, outs, at_, fun rest' h => ?_, hat, HJO.out, HGF1.out⟩
        rw [HNEXT.out rest' h, HSTEP.out]
        show outs ++ (if y < at_ then _ else _) = _
        rw [if_pos (by omega)]
      by_cases g2 : b < x
      · gi_wp2
        refine ⟨KpE.refl _ _ _ _, .inr ⟨rfl, outs, at_, ?_, HJO.out, HGF1.out⟩⟩
        rw [HSTEP.out]
        show outs ++ (if y < at_ then _ else if x > b then _ else _) = _
        rw [if_neg (by omega), if_pos (by omega)]
      have hw1 : IntKind.i64.wrap (x - 1) = x - 1 := by rw [IntKind.wrap_i64]; omega
      have hw2 : IntKind.i64.wrap (y + 1) = y + 1 := by rw [IntKind.wrap_i64]; omega
      have hE1 : W.heap.size + 5 + cloneN v l ≤ W1.heap.size := by have := HE1.out; have := HSZ.out; have := HBB.out; omega
      have HEO := Lib.hid hE1
      clear hE1
      by_cases g3 : at_ < x
      · have hcut : gapsL a b l = outs ++ (at_, x - 1) :: (if y ≥ b then [] else gapsL (y + 1) b rest) := by
          rw [HSTEP.out]
          show outs ++ (if y < at_ then _ else if x > b then _ else (if x > at_ then [(at_, x - 1)] else []) ++ (if y ≥ b then [] else _)) = _
          rw [if_neg (by omega), if_neg (by omega), if_pos (by omega)]
          rfl
        have HCUT := Lib.hid hcut
        obtain ⟨fn, tmps', assign', body', hy, hR⟩ := yield_free 6 (HY.out outs (at_, x - 1) _ W1 (by rw [HG.out]; exact hcut) HEO.out HJO.out)
        dsimp only [encP] at hy
        clear hcut
        have keep3 : ∀ (bs : Nat → Prop) (W3 : World), KpE bs W.heap.size (W.heap.size + 5 + cloneN v l) W1 W3 → KpE (fun _ => False) w0.heap.size (w0.heap.size + 2 + cloneN v l) W1 W3 := fun bs W3 hk => ⟨hk.size, fun k h => hk.block k (.inr (by have := h.resolve_left id; have := HSZ.out; have := HBB.out; omega))⟩
        have gf3 : ∀ (W3 : World), KpE (fun k => k = b2) W.heap.size (W.heap.size + 5 + cloneN v l) W1 W3 → GF B b2 ll b at_ W3 := fun W3 hk => HGF1.out.keep (fun i h => hk.block i (by have := HBB.out; rcases h with h | h | h; exact .inr (by omega); exact .inr (by omega); exact .inl h))
        have KEEP3 := Lib.hid keep3
        have GF3 := Lib.hid gf3
        clear keep3 gf3
        by_cases g4 : b ≤ y
        · gi_wp2
          refine RoundIn.mono (show RoundIn (Fence.wide.inRound l') 6 _ _ _ _ _ _ _ _ from hR) ?_
          rintro e W3 (⟨rfl, hJ3, hk3⟩ | ⟨rfl, hJx3, hk3⟩)
          · have hg3 := GF3.out _ hk3
            have C2' : W3.cell? ⟨b2, 0, none⟩ = some (.int .i64 b) := by rw [cell_of_row W3 b2 0 _ _ _ hg3.2.2]; rfl
            have HK3 := Lib.hid hk3
            have HJ3 := Lib.hid hJ3
            clear hk3 hJ3 hg3
            gi_wp2
            refine ⟨KEEP3.out _ _ HK3.out, .inl ⟨rfl, .inl ?_⟩⟩
            rw [HCUT.out, if_pos (by omega)]
            exact HJ3.out
          · have HK3 := Lib.hid hk3
            have HJ3 := Lib.hid hJx3
            clear hk3 hJx3
            gi_wp2
            refine ⟨KEEP3.out _ _ HK3.out, .inl ⟨rfl, .inr ⟨_, ?_, HJ3.out⟩⟩⟩
            rw [HCUT.out, if_pos (by omega)]
            exact List.prefix_refl _
        · gi_wp2
          refine RoundIn.mono (show RoundIn (Fence.wide.inRound l') 6 _ _ _ _ _ _ _ _ from hR) ?_
          rintro e W3 (⟨rfl, hJ3, hk3⟩ | ⟨rfl, hJx3, hk3⟩)
          · have hg3 := GF3.out _ hk3
            have C2' : W3.cell? ⟨b2, 0, none⟩ = some (.int .i64 b) := by rw [cell_of_row W3 b2 0 _ _ _ hg3.2.2]; rfl
            have C1' : W3.cell? ⟨B + 1, 0, none⟩ = some (.int .i64 at_) := by rw [cell_of_row W3 (B + 1) 0 _ _ _ hg3.2.1]; rfl
            have F1' : W3.frozen? ⟨B + 1, 0, none⟩ = false := by simp [World.frozen?, hg3.2.1]
            have HK3 := Lib.hid hk3
            have HJ3 := Lib.hid hJ3
            have HG3 := Lib.hid hg3
            clear hk3 hJ3 hg3
            gi_wp2
            refine ⟨(KEEP3.out _ _ HK3.out).trans ⟨by simp, fun k hk => Below.heap_setCell W3 _ _ k (by have := hk.resolve_left id; have := HSZ.out; simp; omega)⟩, outs ++ [(at_, x - 1)], y + 1, fun rest' h => ?_, by omega, HJ2.out _ _ _ (some (B + 1)) HJ3.out (grown_set W3 (B + 1) 0 _) (fun r e => by injection e with e; subst e; exact ⟨by omega, .inl rfl⟩), ?_⟩
            · rw [HNEXT.out rest' h, HCUT.out, if_neg (by omega), List.append_assoc]
              rfl
            · have hb2' : b2 ≠ B + 1 := by have := HBB.out; omega
              exact ⟨(Below.heap_setCell W3 _ _ B (by simp)).trans HG3.out.1, set_block HG3.out.2.1 0 _, (Below.heap_setCell W3 _ _ b2 hb2').trans HG3.out.2.2⟩
          · have HK3 := Lib.hid hk3
            have HJ3 := Lib.hid hJx3
            clear hk3 hJx3
            gi_wp2
            refine ⟨KEEP3.out _ _ HK3.out, .inl ⟨rfl, .inr ⟨_, ?_, HJ3.out⟩⟩⟩
            rw [HCUT.out]
            exact ⟨(if y ≥ b then [] else gapsL (y + 1) b rest), by rw [List.append_assoc]; rfl⟩
      · by_cases g4 : b ≤ y
        · gi_wp2
          refine ⟨fun _ h => (by cases h), ?_⟩
          gi_wp2
          refine ⟨KpE.refl _ _ _ _, .inl ⟨rfl, .inl ?_⟩⟩
          have : gapsL a b l = outs := by
            rw [HSTEP.out]
            show outs ++ (if y < at_ then _ else if x > b then _ else (if x > at_ then _ else []) ++ (if y ≥ b then [] else _)) = _
            rw [if_neg (by omega), if_neg (by omega), if_neg (by omega), if_pos (by omega), List.append_nil, List.append_nil]
          rw [this]
          exact HJO.out
        · gi_wp2
          refine ⟨fun _ h => (by cases h), ?_⟩
          gi_wp2
          refine ⟨⟨by simp, fun k hk => Below.heap_setCell W1 _ _ k (by have := hk.resolve_left id; have := HSZ.out; simp; omega)⟩, outs, y + 1, fun rest' h => ?_, by omega, HJ2.out _ _ _ (some (B + 1)) HJO.out (grown_set W1 (B + 1) 0 _) (fun r e => by injection e with e; subst e; exact ⟨by omega, .inl rfl⟩), ?_⟩
          · rw [HNEXT.out rest' h, HSTEP.out]
            show outs ++ (if y < at_ then _ else if x > b then _ else (if x > at_ then _ else []) ++ (if y ≥ b then [] else _)) = _
            rw [if_neg (by omega), if_neg (by omega), if_neg (by omega), if_neg (by omega)]
            rfl
          · have hb2' : b2 ≠ B + 1 := by have := HBB.out; omega
            exact ⟨(Below.heap_setCell W1 _ _ B (by simp)).trans HGF1.out.1, set_block HGF1.out.2.1 0 _, (Below.heap_setCell W1 _ _ b2 hb2').trans HGF1.out.2.2⟩
    case done =>
      rintro D W3 hD hE3 ⟨outs, at_, hout, hat, hJo, hgf⟩ hdef
      have hlast : gapsL a b l = outs ++ [(at_, b)] := hout [] (by simp)
      clear hout
      have C0 : W3.cell? ⟨B, 0, none⟩ = some (.func (.yield ll) #[] #[]) := by rw [cell_of_row W3 B 0 _ _ _ hgf.1]; rfl
      have C1 : W3.cell? ⟨B + 1, 0, none⟩ = some (.int .i64 at_) := by rw [cell_of_row W3 (B + 1) 0 _ _ _ hgf.2.1]; rfl
      have C2 : W3.cell? ⟨b2, 0, none⟩ = some (.int .i64 b) := by rw [cell_of_row W3 b2 0 _ _ _ hgf.2.2]; rfl
      have hgaps : gaps a b l = outs ++ (at_, b) :: [] := by rw [HG.out]; exact hlast
      have hE4 : W.heap.size + 5 + cloneN v l ≤ W3.heap.size := by have := HSZ.out; have := HBB.out; omega
      obtain ⟨fn, tmps', assign', body', hy, hR⟩ := yield_free 8 (HY.out outs (at_, b) [] W3 hgaps hE4 hJo)
      dsimp only [encP] at hy
      have HGAPS := Lib.hid hgaps
      have HE4 := Lib.hid hE4
      have HDEF := Lib.hid hdef
      have HD := Lib.hid hD
      clear hgaps hE4 hJo hgf hdef hlast hD hE3
      gi_wp2
      refine hR.mono ?_
      rintro e W4 (⟨rfl, hJ4, hk4⟩ | ⟨rfl, hJ4, hk4⟩)
      · have hD4 : W4.heap[D]? = some (.deferred (some [])) := (hk4.block D (.inr (by have := HD.out; have := HSZ.out; have := HBB.out; omega))).trans HDEF.out
        have HJ4 := Lib.hid hJ4
        have HK4 := Lib.hid hk4
        have HD4 := Lib.hid hD4
        clear hJ4 hk4 hD4
        gi_wp2
        refine leave_mark HD4.out (fun _ => results_none rfl _ _ _) ⟨⟨_, rfl⟩, by have := HE4.out; have := HK4.out.size; simp; omega, .inl (by rw [HGAPS.out]; exact PUTJ.out _ _ _ HJ4.out HD4.out (by have := HD.out; have := HSZ.out; omega))⟩
      · have hD4 : W4.heap[D]? = some (.deferred (some [])) := (hk4.block D (.inr (by have := HD.out; have := HSZ.out; have := HBB.out; omega))).trans HDEF.out
        have HJ4 := Lib.hid hJ4
        have HK4 := Lib.hid hk4
        have HD4 := Lib.hid hD4
        clear hJ4 hk4 hD4
        gi_wp2
        refine leave_mark HD4.out (fun _ => results_none rfl _ _ _) ⟨⟨_, rfl⟩, by have := HE4.out; have := HK4.out.size; simp; omega, .inr ⟨_, by rw [HGAPS.out]; exact List.prefix_refl _, PUTX.out _ _ _ HJ4.out HD4.out (by have := HD.out; have := HSZ.out; omega)⟩⟩
    case stop =>
      rintro D c pre W3 hD hE3 hpre h hdef
      rcases h with ⟨rfl, h⟩ | ⟨rfl, outs, at_, hcut, hJo, hgf⟩
      · have HH := Lib.hid h
        have HE3 := Lib.hid hE3
        have HDEF := Lib.hid hdef
        clear h hE3 hdef
        refine (wpIn_wide (n := 9)).1 ?_
        gi_wp2
        refine leave_mark HDEF.out (fun _ => results_none rfl _ _ _) ⟨⟨_, rfl⟩, by have := HE3.out; have := HSZ.out; have := HBB.out; simp; omega, ?_⟩
        rw [HG.out]
        have hDB : B ≤ D := by have := HSZ.out; omega
        rcases HH.out with h | ⟨q, h1, h2⟩
        · exact .inl (PUTJ.out _ _ _ h HDEF.out hDB)
        · exact .inr ⟨q, h1, PUTX.out _ _ _ h2 HDEF.out hDB⟩
      · have hlast := hcut
        clear hcut
        have C0 : W3.cell? ⟨B, 0, none⟩ = some (.func (.yield ll) #[] #[]) := by rw [cell_of_row W3 B 0 _ _ _ hgf.1]; rfl
        have C1 : W3.cell? ⟨B + 1, 0, none⟩ = some (.int .i64 at_) := by rw [cell_of_row W3 (B + 1) 0 _ _ _ hgf.2.1]; rfl
        have C2 : W3.cell? ⟨b2, 0, none⟩ = some (.int .i64 b) := by rw [cell_of_row W3 b2 0 _ _ _ hgf.2.2]; rfl
        have hgaps : gaps a b l = outs ++ (at_, b) :: [] := by rw [HG.out]; exact hlast
        have hE4 : W.heap.size + 5 + cloneN v l ≤ W3.heap.size := by have := HSZ.out; have := HBB.out; omega
        obtain ⟨fn, tmps', assign', body', hy, hR⟩ := yield_free 8 (HY.out outs (at_, b) [] W3 hgaps hE4 hJo)
        dsimp only [encP] at hy
        have HGAPS := Lib.hid hgaps
        have HE4 := Lib.hid hE4
        have HDEF := Lib.hid hdef
        have HD := Lib.hid hD
        clear hgaps hE4 hJo hgf hdef hlast hD hE3
        refine (wpIn_wide (n := 9)).1 ?_
        gi_wp2
        refine hR.mono ?_
        rintro e W4 (⟨rfl, hJ4, hk4⟩ | ⟨rfl, hJ4, hk4⟩)
        · have hD4 : W4.heap[D]? = some (.deferred (some [])) := (hk4.block D (.inr (by have := HD.out; have := HSZ.out; have := HBB.out; omega))).trans HDEF.out
          have HJ4 := Lib.hid hJ4
          have HK4 := Lib.hid hk4
          have HD4 := Lib.hid hD4
          clear hJ4 hk4 hD4
          gi_wp2
          refine leave_mark HD4.out (fun _ => results_none rfl _ _ _) ⟨⟨_, rfl⟩, by have := HE4.out; have := HK4.out.size; simp; omega, .inl (by rw [HGAPS.out]; exact PUTJ.out _ _ _ HJ4.out HD4.out (by have := HD.out; have := HSZ.out; omega))⟩
        · have hD4 : W4.heap[D]? = some (.deferred (some [])) := (hk4.block D (.inr (by have := HD.out; have := HSZ.out; have := HBB.out; omega))).trans HDEF.out
          have HJ4 := Lib.hid hJ4
          have HK4 := Lib.hid hk4
          have HD4 := Lib.hid hD4
          clear hJ4 hk4 hD4
          gi_wp2
          refine leave_mark HD4.out (fun _ => results_none rfl _ _ _) ⟨⟨_, rfl⟩, by have := HE4.out; have := HK4.out.size; simp; omega, .inr ⟨_, by rw [HGAPS.out]; exact List.prefix_refl _, PUTX.out _ _ _ HJ4.out HD4.out (by have := HD.out; have := HSZ.out; omega)⟩⟩
end Go.Proofs.Ytjnekjjaofabeaa
