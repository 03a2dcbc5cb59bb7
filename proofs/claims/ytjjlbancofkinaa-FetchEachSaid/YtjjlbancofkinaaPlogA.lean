/-
  A partition's log in memory, and the functions that only read it.
-/
import Derived.Test.YtjjlbancofkinaaMapI
namespace Go.Proofs.Ytjjlbancofkinaa
open Go.RowKit

theorem Try.cellsSpan : Try.prog.cellsOf 68 = 5 := by kernel_rfl
theorem Try.cellsRec : Try.prog.cellsOf 32 = 5 := by kernel_rfl

def spnV (x : PL.Spn) : Value := .agg #[.int .i64 x.p, .int .i64 x.e, .int .i64 x.t, .int .i64 x.f, .int .i64 x.k]
def recV (r : PL.Rec) (v : Value) : Value := .agg #[.int .i64 r.p, .int .i64 r.e, .int .i64 r.t, .int .i64 r.q, v]

/-- What a list of keys and values says of the epochs. -/
def EpOf (G : List (Int × Value)) (E : Int → Int) : Prop := ∀ k, (0 ≤ E k → val G k = some (.int .i64 (E k))) ∧ (E k < 0 → val G k = none)

/-- Block p is a partition's log that holds s; M: its blocks that it writes; V: the blocks of its values. -/
def PRep (w : World) (p : Nat) (s : PL.St) (M V : Nat → Prop) : Prop :=
  ∃ (vr vs : Value) (m : Nat) (L : List (PL.Rec × Value)) (G : List (Int × Value)),
    w.heap[p]? = some (.cells #[vr, vs, .map (some m)] 83 (0, 0)) ∧
    w.ownsRow 0 32 5 vr L.length (recCells L) ∧ L.map (·.1) = s.R ∧
    w.ownsRow 0 68 5 vs s.S.length (spnCells s.S) ∧
    MapI w m G ∧ EpOf G s.E ∧
    (∀ x ∈ L, BytesAt w x.2 x.1.v ∧ ∀ b, Value.blk x.2 = some b → V b) ∧
    M p ∧ M m ∧ (∀ b, vr.ownBlock = some b → M b) ∧ (∀ b, vs.ownBlock = some b → M b) ∧ (∀ b, M b → ¬ V b) ∧ ∀ b, M b ∨ V b → b < w.heap.size

theorem owns_same {w w' : World} {base e size n : Nat} {v : Value} {xs : List Value} (h : w.ownsRow base e size v n xs) (hb : ∀ b, v.ownBlock = some b → w'.heap[b]? = w.heap[b]?) : w'.ownsRow base e size v n xs := by
  refine ⟨h.1, ?_⟩
  rcases h.2 with h' | ⟨g, cap, cur, rfl, h1, h2, h3⟩
  · exact .inl h'
  · exact .inr ⟨g, cap, cur, rfl, h1, (hb g rfl).trans h2, h3⟩

theorem PRep.same {w w' : World} {p : Nat} {s : PL.St} {M V : Nat → Prop} (h : PRep w p s M V) (hz : w.heap.size ≤ w'.heap.size) (hb : ∀ b, M b ∨ V b → w'.heap[b]? = w.heap[b]?) : PRep w' p s M V := by
  obtain ⟨vr, vs, m, L, G, h1, h2, h3, h4, h5, h6, h7, h8, h9, h10, h11, h12, h13⟩ := h
  exact ⟨vr, vs, m, L, G, (hb _ (.inl h8)).trans h1, owns_same h2 fun b e => hb b (.inl (h10 b e)), h3, owns_same h4 fun b e => hb b (.inl (h11 b e)), h5.same (hb _ (.inl h9)), h6,
    fun x hx => ⟨(h7 x hx).1.same fun b e => hb b (.inr ((h7 x hx).2 b e)), (h7 x hx).2⟩, h8, h9, h10, h11, h12, fun b e => Nat.lt_of_lt_of_le (h13 b e) hz⟩
theorem PRep.below {w w' : World} {p : Nat} {s : PL.St} {M V : Nat → Prop} (h : PRep w p s M V) (hb : Below w.heap.size w w') : PRep w' p s M V := by
  have h' := h
  obtain ⟨vr, vs, m, L, G, h1, h2, h3, h4, h5, h6, h7, h8, h9, h10, h11, h12, h13⟩ := h'
  exact h.same hb.size fun b e => hb.block b (h13 b e)

/-- What one reads of it. -/
theorem PRep.opened {w : World} {p : Nat} {s : PL.St} {M V : Nat → Prop} (h : PRep w p s M V) :
    ∃ (vr vs : Value) (m : Nat) (G : List (Int × Value)), w.cell? ⟨p, 0, none⟩ = some vr ∧ w.cell? ⟨p, 1, none⟩ = some vs ∧ w.cell? ⟨p, 2, none⟩ = some (.map (some m)) ∧
      w.frozen? ⟨p, 0, none⟩ = false ∧ w.frozen? ⟨p, 1, none⟩ = false ∧ w.frozen? ⟨p, 2, none⟩ = false ∧
      RecsAt w vr s.R ∧ SpnsAt w vs s.S ∧ MapI w m G ∧ EpOf G s.E ∧ M m := by
  obtain ⟨vr, vs, m, L, G, h1, h2, h3, h4, h5, h6, h7, h8, h9, h10, h11, h12, h13⟩ := h
  exact ⟨vr, vs, m, G, by simp [World.cell?, h1], by simp [World.cell?, h1], by simp [World.cell?, h1], by simp [World.frozen?, h1], by simp [World.frozen?, h1], by simp [World.frozen?, h1],
    h3 ▸ recs_of_owns h2 (fun x hx => (h7 x hx).1), spns_of_owns h4, h5, h6, h9⟩

theorem idx_drop {α : Type} (f : α → Bool) (l : List α) (k : Nat) (h : k < l.length) : PL.idx f (l.drop k) k = if f l[k] then (k : Int) else PL.idx f (l.drop (k + 1)) (k + 1 : Nat) := by
  rw [List.drop_eq_getElem_cons h]
  simp [PL.idx]
theorem idx_ge {α : Type} (f : α → Bool) : ∀ (l : List α) (n : Nat), PL.idx f l n = -1 ∨ (n : Int) ≤ PL.idx f l n ∧ PL.idx f l n < n + l.length
  | [], n => .inl rfl
  | x :: l, n => by
    unfold PL.idx
    split
    · exact .inr ⟨Int.le_refl _, by simp; omega⟩
    · rcases idx_ge f l (n + 1) with h | h
      · exact .inl (by simpa using h)
      · refine .inr ⟨?_, ?_⟩ <;> simp at h ⊢ <;> omega

theorem isProducer_any (p e : Int) (w : World) : Calls Try.prog 55 #[.int .i64 p, .int .i64 e] w (Ret (.bool (decide (PL.okPE p e))) w) := by
  by_cases h1 : 0 ≤ p <;> by_cases h2 : p < 8 <;> by_cases h3 : 0 ≤ e <;> by_cases h4 : e ≤ 100
  all_goals
    go_enter Try.func55, Try.ntmps55
    go_wp2
    go_ret
    exact Ret.bool (by symm; first | (rw [decide_eq_true_iff]; unfold PL.okPE; omega) | (rw [decide_eq_false_iff_not]; unfold PL.okPE; omega)) (below_refl _)
theorem isTxn_any (t : Int) (w : World) : Calls Try.prog 56 #[.int .i64 t] w (Ret (.bool (decide (PL.okT t))) w) := by
  by_cases h1 : 1 ≤ t <;> by_cases h2 : t ≤ 100
  all_goals
    go_enter Try.func56, Try.ntmps56
    go_wp2
    go_ret
    exact Ret.bool (by symm; first | (rw [decide_eq_true_iff]; unfold PL.okT; omega) | (rw [decide_eq_false_iff_not]; unfold PL.okT; omega)) (below_refl _)

theorem span1_any (x : PL.Spn) (p e t : Int) (bp be bt : Nat) (w : World)
    (hp : w.cell? ⟨bp, 0, none⟩ = some (.int .i64 p)) (he : w.cell? ⟨be, 0, none⟩ = some (.int .i64 e)) (ht : w.cell? ⟨bt, 0, none⟩ = some (.int .i64 t)) :
    Calls Try.prog 73 #[spnV x, .pointer (some ⟨bp, 0, none⟩), .pointer (some ⟨be, 0, none⟩), .pointer (some ⟨bt, 0, none⟩)] w (Ret (.bool (PL.isSpn p e t x)) w) := by
  have h1 := lt_of_cell hp
  have h2 := lt_of_cell he
  have h3 := lt_of_cell ht
  obtain ⟨a, b, c, d, k⟩ := x
  unfold spnV
  go_enter Try.func73, Try.ntmps73
  go_wp2
  all_goals
    go_ret
    exact Ret.mk (by simp_all [PL.isSpn]) (below_alloc (below_refl _) _)

theorem again1_any (x : PL.Rec) (v : Value) (q : PL.Rec) (vq : Value) (bq : Nat) (w : World) (hq : RecAt w bq 0 q vq) (hv : BytesAt w v x.v) :
    Calls Try.prog 68 #[recV x v, .pointer (some ⟨bq, 0, none⟩)] w (Ret (.bool (PL.isSeq q.p q.e q.q x)) w) := by
  obtain ⟨c0, c1, c2, c3, c4⟩ := hq
  have h1 := lt_of_cell c0
  obtain ⟨a, b, c, d, k⟩ := x
  obtain ⟨pv, cv, rfl, hv1, hv2, hv3⟩ := hv
  clear hv3
  unfold recV
  go_enter Try.func68, Try.ntmps68
  go_wp2
  all_goals
    go_ret
    exact Ret.mk (by simp_all [PL.isSeq]) (below_alloc (below_refl _) _)

theorem fits1_any (x : PL.Spn) (q : PL.Rec) (vq : Value) (bq : Nat) (w : World) (hq : RecAt w bq 0 q vq) :
    Calls Try.prog 70 #[spnV x, .pointer (some ⟨bq, 0, none⟩)] w (Ret (.bool (PL.bars q x)) w) := by
  obtain ⟨c0, c1, c2, c3, c4⟩ := hq
  have h1 := lt_of_cell c0
  obtain ⟨a, b, c, d, k⟩ := x
  unfold spnV
  go_enter Try.func70, Try.ntmps70
  go_wp2
  all_goals
    go_ret
    exact Ret.mk (by simp_all [PL.bars]) (below_alloc (below_refl _) _)

set_option maxHeartbeats 400000 in
theorem indexSpan_any (S : List PL.Spn) (v : Value) (g : Nat) (lb : Array Value) (w : World) (hS : SpnsAt w v S) (f : PL.Spn → Bool) (eg : ∀ args w, (callFunc g args).run Try.prog w = .ok (.enter g args) w)
    (hf : ∀ x W, Below w.heap.size w W → Calls Try.prog g (#[spnV x] ++ lb) W (Ret (.bool (f x)) W)) :
    Calls Try.prog 72 #[v, .func (.func g) #[] lb] w (Ret (.int .i64 (PL.idx f S 0)) w) := by
  obtain ⟨a, c, rfl, h1, h2, hc⟩ := hS
  have hfin : ∀ k, k ≤ S.length → PL.idx f S 0 = PL.idx f (S.drop k) k → S.length ≤ k → PL.idx f S 0 = -1 := fun k _ h hk => by rw [h, List.drop_eq_nil_of_le hk]; rfl
  generalize hi : PL.idx f S 0 = i0 at *
  have Hi := Lib.hid hi
  clear hi
  go_enter Try.func72, Try.ntmps72
  go_wp2_with fail
  go_loopw [4, 5, 8] (fun _ _ i wr => ∃ k : Nat, k ≤ S.length ∧ i = .int .i64 k ∧ Below w.heap.size w wr ∧ i0 = PL.idx f (S.drop k) k) (fun _ _ i _ => S.length - (intOf i).toNat)
  case atStart => exact ⟨0, Nat.zero_le _, rfl, below_refl _, by rw [← Hi.out]; rfl⟩
  case round =>
    obtain ⟨k, hk, rfl, hb, hidx⟩ := hrel
    by_cases hlt : k < S.length
    · obtain ⟨b, o, rfl, hat⟩ := hc k _ (List.getElem?_eq_getElem hlt)
      obtain ⟨c0, c1, c2, c3, c4⟩ := hat.below hb
      rw [idx_drop f S k hlt] at hidx
      have hfk := hf S[k] wr hb
      clear hc hat hf hfin
      unfold spnV at hfk
      generalize S[k] = x at *
      have Hx := Lib.hid hidx
      clear hidx
      go_wp2_with fail
      refine hfk.mono ?_
      rintro e w1 ⟨rfl, hb1⟩
      cases hfx : f x
      · have Hf := Lib.hid hfx
        clear hfx hfk
        go_wp2_with fail
        go_roundw
        case rel => exact ⟨k + 1, by omega, by go_num, below_step hb hb1, by rw [Hx.out, Hf.out]; simp⟩
        case measure => simp [intOf]; omega
      · have Hf := Lib.hid hfx
        clear hfx hfk
        go_wp2_with fail
        go_ret
        exact Ret.int (by rw [Hx.out, Hf.out]; rfl) (below_step hb hb1)
    · have Hx := Lib.hid (hfin k hk hidx (by omega))
      clear hfin hidx hc hf
      go_wp2_with fail
      go_ret
      exact Ret.int (by rw [Hx.out]) hb

set_option maxHeartbeats 400000 in
theorem indexRec_any (R : List PL.Rec) (v : Value) (g : Nat) (lb : Array Value) (w : World) (hR : RecsAt w v R) (f : PL.Rec → Bool) (eg : ∀ args w, (callFunc g args).run Try.prog w = .ok (.enter g args) w)
    (hf : ∀ x u W, Below w.heap.size w W → BytesAt W u x.v → Calls Try.prog g (#[recV x u] ++ lb) W (Ret (.bool (f x)) W)) :
    Calls Try.prog 67 #[v, .func (.func g) #[] lb] w (Ret (.int .i64 (PL.idx f R 0)) w) := by
  obtain ⟨a, c, rfl, h1, h2, hc⟩ := hR
  have hfin : ∀ k, k ≤ R.length → PL.idx f R 0 = PL.idx f (R.drop k) k → R.length ≤ k → PL.idx f R 0 = -1 := fun k _ h hk => by rw [h, List.drop_eq_nil_of_le hk]; rfl
  generalize hi : PL.idx f R 0 = i0 at *
  have Hi := Lib.hid hi
  clear hi
  go_enter Try.func67, Try.ntmps67
  go_wp2_with fail
  go_loopw [4, 5, 8] (fun _ _ i wr => ∃ k : Nat, k ≤ R.length ∧ i = .int .i64 k ∧ Below w.heap.size w wr ∧ i0 = PL.idx f (R.drop k) k) (fun _ _ i _ => R.length - (intOf i).toNat)
  case atStart => exact ⟨0, Nat.zero_le _, rfl, below_refl _, by rw [← Hi.out]; rfl⟩
  case round =>
    obtain ⟨k, hk, rfl, hb, hidx⟩ := hrel
    by_cases hlt : k < R.length
    · obtain ⟨b, o, u, rfl, hat, hu⟩ := hc k _ (List.getElem?_eq_getElem hlt)
      obtain ⟨c0, c1, c2, c3, c4⟩ := hat.below hb
      rw [idx_drop f R k hlt] at hidx
      have hfk := hf R[k] u wr hb (hu.below hb)
      obtain ⟨pu, cu, rfl, _, _, _⟩ := hu
      clear hc hat hf hfin
      unfold recV at hfk
      generalize R[k] = x at *
      have Hx := Lib.hid hidx
      clear hidx
      go_wp2_with fail
      refine hfk.mono ?_
      rintro e w1 ⟨rfl, hb1⟩
      cases hfx : f x
      · have Hf := Lib.hid hfx
        clear hfx hfk
        go_wp2_with fail
        go_roundw
        case rel => exact ⟨k + 1, by omega, by go_num, below_step hb hb1, by rw [Hx.out, Hf.out]; simp⟩
        case measure => simp [intOf]; omega
      · have Hf := Lib.hid hfx
        clear hfx hfk
        go_wp2_with fail
        go_ret
        exact Ret.int (by rw [Hx.out, Hf.out]; rfl) (below_step hb hb1)
    · have Hx := Lib.hid (hfin k hk hidx (by omega))
      clear hfin hidx hc hf
      go_wp2_with fail
      go_ret
      exact Ret.int (by rw [Hx.out]) hb

theorem containsSpan_any (S : List PL.Spn) (v : Value) (g : Nat) (lb : Array Value) (w : World) (hS : SpnsAt w v S) (f : PL.Spn → Bool) (eg : ∀ args w, (callFunc g args).run Try.prog w = .ok (.enter g args) w)
    (hf : ∀ x W, Below w.heap.size w W → Calls Try.prog g (#[spnV x] ++ lb) W (Ret (.bool (f x)) W)) :
    Calls Try.prog 71 #[v, .func (.func g) #[] lb] w (Ret (.bool (decide (0 ≤ PL.idx f S 0))) w) := by
  have hc := indexSpan_any S v g lb w hS f eg hf
  obtain ⟨a, c, rfl, _, _, _⟩ := hS
  generalize PL.idx f S 0 = i0 at *
  clear hf eg
  go_enter Try.func71, Try.ntmps71
  go_wp2_with fail
  refine hc.mono ?_
  rintro e w1 ⟨rfl, hb1⟩
  clear hc
  by_cases h0 : 0 ≤ i0
  all_goals
    go_wp2_with fail
    go_ret
    exact Ret.bool (by simp [h0]) hb1

theorem span_any (w : World) (p : Nat) (s : PL.St) (M V : Nat → Prop) (h : PRep w p s M V) (a e t : Int) :
    Calls Try.prog 54 #[.pointer (some ⟨p, 0, none⟩), .int .i64 a, .int .i64 e, .int .i64 t] w (Ret (.int .i64 (s.span a e t)) w) := by
  obtain ⟨vr, vs, m, G, c0, c1, c2, f0, f1, f2, hR, hS, hM, hE, hm⟩ := h.opened
  have hlt := lt_of_cell c1
  have hlt1 : p < w.heap.size + 1 := by omega
  have hlt2 : p < w.heap.size + 1 + 1 := by omega
  obtain ⟨ps, cs, rfl, hs1, hs2, hs3⟩ := hS
  have hS : SpnsAt w _ s.S := ⟨ps, cs, rfl, hs1, hs2, hs3⟩
  clear c0 c2 hR hM hE hm h hs3
  have hcon := fun W (hb : Below w.heap.size w W) h1 h2 h3 => indexSpan_any s.S _ 73 #[.pointer (some ⟨w.heap.size, 0, none⟩), .pointer (some ⟨w.heap.size + 1, 0, none⟩), .pointer (some ⟨w.heap.size + 1 + 1, 0, none⟩)] W (hS.below hb) (PL.isSpn a e t)
    (enters_of Try.func73 (by kernel_rfl) rfl) (fun x W' hb' => span1_any x a e t _ _ _ W' (cell_below h1 hb') (cell_below h2 hb') (cell_below h3 hb'))
  clear hS
  go_enter Try.func54, Try.ntmps54
  go_wp2_with fail
  refine (hcon _ ?_ ?_ ?_ ?_).mono ?_
  · repeat (first | exact below_refl _ | refine below_alloc ?_ _)
  · simp [go_sem]
  · simp [go_sem]
  · simp [go_sem]
  rintro e w1 ⟨rfl, hb1⟩
  go_wp2_with fail
  go_ret
  exact Ret.int rfl (below_step (below_alloc (below_alloc (below_alloc (below_refl _) _) _) _) hb1)

end Go.Proofs.Ytjjlbancofkinaa
