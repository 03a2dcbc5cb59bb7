/-
  Are two rows of transactions one? New, Learn, Kind of the reference.
-/
import Derived.Test.YtjjlbancofkinaaRefC
namespace Go.Proofs.Ytjjlbancofkinaa
open Go.RowKit

set_option maxRecDepth 100000 in
set_option maxHeartbeats 800000 in
theorem spans11_any (w : World) (a b : List PL.Spn) (u v : Value) (hu : SpnsAt w u a) (hv : SpnsAt w v b) :
    Calls Try.prog 42 #[u, v] w (Ret (.bool (decide (a = b))) w) := by
  obtain ⟨pu, cu, rfl, hu1, hu2, hu3⟩ := hu
  obtain ⟨pv, cv, rfl, hv1, hv2, hv3⟩ := hv
  by_cases hl : a.length = b.length
  · have hlen := Lib.hid hl
    have hlt' : b.length ≤ a.length := by omega
    have hlb : (a.length : Int) = (b.length : Int) := by omega
    clear hl
    go_enter Try.func42, Try.ntmps42
    go_wp2_with fail
    have hlb' := Lib.hid hlb
    clear hlb
    go_loopw [5] (fun i wr => ∃ k : Nat, k ≤ a.length ∧ i = .int .i64 k ∧ Below w.heap.size w wr ∧ ∀ j x y, j < k → a[j]? = some x → b[j]? = some y → x = y) (fun i _ => a.length - (intOf i).toNat)
    case atStart => exact ⟨0, Nat.zero_le _, rfl, below_refl _, fun j x y h => by omega⟩
    case round =>
      obtain ⟨k, hk, rfl, hB, heq⟩ := hrel
      by_cases hlt : k < a.length
      · have hlt2 : k < b.length := by have := hlen.out; omega
        obtain ⟨b1, o1, rfl, hat⟩ := hu3 k _ (List.getElem?_eq_getElem hlt)
        obtain ⟨b2, o2, rfl, hat2⟩ := hv3 k _ (List.getElem?_eq_getElem hlt2)
        obtain ⟨d0, d1, d2, d3, d4⟩ := hat.below hB
        obtain ⟨e0, e1, e2, e3, e4⟩ := hat2.below hB
        have hA : RowKit.Hid (a[k]? = some a[k]) := Lib.hid (List.getElem?_eq_getElem hlt)
        have hBk : RowKit.Hid (b[k]? = some b[k]) := Lib.hid (List.getElem?_eq_getElem hlt2)
        have hEq := Lib.hid heq
        clear hu3 hv3 hat hat2 heq
        generalize a[k] = r1 at *
        generalize b[k] = r2 at *
        go_wp2_with fail
        go_still_tail 8, (by kernel_rfl)
        change wpList _ _ _ _ _ wr.drew
        have hBd : Below wr.heap.size wr wr.drew := below_drew (below_refl _)
        generalize wr.drew = w2 at *
        clear d0 d1 d2 d3 d4 e0 e1 e2 e3 e4
        by_cases hr : r1 = r2
        · have hN : RowKit.Hid (∀ j x y, j < k + 1 → a[j]? = some x → b[j]? = some y → x = y) := Lib.hid (fun j x y hj h1 h2 => by
            rcases Nat.lt_or_ge j k with h | h
            · exact hEq.out j x y h h1 h2
            · obtain rfl : j = k := by omega
              rw [hA.out] at h1; rw [hBk.out] at h2; cases h1; cases h2; exact hr)
          subst hr
          go_wp2_with fail
          go_roundw
          case rel => exact ⟨k + 1, by omega, by go_num, below_step hB hBd, hN.out⟩
          case measure => first | (simp [intOf]; done) | (simp [intOf]; omega)
        · have hN : RowKit.Hid (decide (a = b) = false) := Lib.hid (decide_eq_false (fun e => hr (by
            subst e
            have := hA.out; rw [hBk.out] at this; cases this; rfl)))
          obtain ⟨p1, e1, t1, f1, k1⟩ := r1
          obtain ⟨p2, e2, t2, f2, k2⟩ := r2
          dsimp only at *
          have hBf := Lib.hid (below_step hB hBd)
          clear hB hBd
          by_cases g1 : p1 = p2
          · subst g1
            by_cases g2 : e1 = e2
            · subst g2
              by_cases g3 : t1 = t2
              · subst g3
                by_cases g4 : f1 = f2
                · subst g4
                  have g5 : ¬ k1 = k2 := fun e => hr (by rw [e])
                  clear hr hA hBk
                  go_wp2_with fail
                  go_ret
                  exact Ret.bool hN.out.symm hBf.out
                · clear hr hA hBk
                  go_wp2_with fail
                  go_ret
                  exact Ret.bool hN.out.symm hBf.out
              · clear hr hA hBk
                go_wp2_with fail
                go_ret
                exact Ret.bool hN.out.symm hBf.out
            · clear hr hA hBk
              go_wp2_with fail
              go_ret
              exact Ret.bool hN.out.symm hBf.out
          · clear hr hA hBk
            go_wp2_with fail
            go_ret
            exact Ret.bool hN.out.symm hBf.out
      · have hN : RowKit.Hid (decide (a = b) = true) := Lib.hid (decide_eq_true (rows_eq a b hlen.out (fun i x y h1 h2 => heq i x y (by have := (List.getElem?_eq_some_iff.1 h1).1; omega) h1 h2)))
        clear heq hu3 hv3
        go_wp2_with fail
        go_ret
        exact Ret.bool hN.out.symm hB
  · have hN : RowKit.Hid (decide (a = b) = false) := Lib.hid (decide_eq_false (fun e => hl (by rw [e])))
    have hl2 : ((a.length : Int) != (b.length : Int)) = true := by simpa using (by omega : ¬ (a.length : Int) = (b.length : Int))
    go_enter Try.func42, Try.ntmps42
    go_wp2_with fail
    go_ret
    exact Ret.bool hN.out.symm (below_refl _)

/-! ### how a transaction was ended -/
set_option maxHeartbeats 400000 in
theorem kind11_any (w : World) (q : Nat) (s : PL.St) (M V : Nat → Prop) (h : XRep w q s M V) (r : PL.Rec) (v : Value) (hv : ∃ p n c, v = .slice p n c) :
    Calls Try.prog 38 #[.pointer (some ⟨q, 0, none⟩), recV r v] w (Ret (.int .i64 (s.kind r.p r.e r.t)) w) := by
  obtain ⟨pv, n, c, rfl⟩ := hv
  have hb := below_alloc (below_refl w) (.cells #[.int .i64 r.p, .int .i64 r.e, .int .i64 r.t, .int .i64 r.q, .slice pv n c] 32)
  have hsp := fun W hb => span11_any W q s M V (h.below (w' := W) hb) r.p r.e r.t
  have hbd := PL.span_bd s r.p r.e r.t
  obtain ⟨vr, vs, c0, c1, ce, fz, hR, hS⟩ := h.opened
  obtain ⟨ps, cs, rfl, hs1, hs2, hs3⟩ := hS
  have c1' := cell_below c1 hb
  have hB := Lib.hid hb
  unfold recV
  by_cases h0 : 0 ≤ s.span r.p r.e r.t
  · obtain ⟨x, hx, -⟩ := PL.span_at s r.p r.e r.t h0
    have hk : RowKit.Hid (s.kind r.p r.e r.t = x.k) := Lib.hid (PL.kind_of_some h0 hx)
    obtain ⟨j, hj⟩ : ∃ j : Nat, s.span r.p r.e r.t = j := ⟨(s.span r.p r.e r.t).toNat, by omega⟩
    rw [hj, Int.toNat_natCast] at hx
    simp only [hj] at hsp
    have hl : j < s.S.length := by omega
    obtain ⟨b, o, rfl, hat⟩ := hs3 _ _ hx
    obtain ⟨d0, d1, d2, d3, d4⟩ := hat.below hb
    clear h0
    generalize s.kind r.p r.e r.t = kk at *
    clear c0 c1 ce fz hR hs3 hbd hat hj hx hb
    go_enter Try.func38, Try.ntmps38
    go_wp2_with fail
    refine (hsp _ hB.out).mono ?_
    rintro e w1 ⟨rfl, rfl⟩
    clear hsp
    go_wp2_with fail
    go_ret
    exact Ret.int hk.out.symm hB.out
  · have hk : RowKit.Hid (s.kind r.p r.e r.t = 0) := Lib.hid (PL.kind_of_none (by omega))
    generalize s.kind r.p r.e r.t = kk at *
    have h1 : s.span r.p r.e r.t < 0 := by omega
    generalize s.span r.p r.e r.t = i at *
    clear c0 c1 ce fz hR hs3 hbd hb
    go_enter Try.func38, Try.ntmps38
    go_wp2_with fail
    refine (hsp _ hB.out).mono ?_
    rintro e w1 ⟨rfl, rfl⟩
    clear hsp
    go_wp2_with fail
    go_ret
    exact Ret.int hk.out.symm hB.out

/-! ### a new one -/
def IsNewX (w : World) (r : Ending) (w' : World) : Prop :=
  ∃ q, r = .returned (.pointer (some ⟨q, 0, none⟩)) ∧ XRep w' q PL.St.new (fun b => b = q) (fun _ => False) ∧ w.heap.size ≤ q ∧ Below w.heap.size w w'

theorem xCells_set (vr vs : Value) (E : Int → Int) (k : Nat) (hk : k < 8) (v : Int) : (xCells vr vs E).setIfInBounds (2 + k) (.int .i64 v) = xCells vr vs (fun x => if x = k then v else E x) := by
  match k, hk with
  | 0, _ | 1, _ | 2, _ | 3, _ | 4, _ | 5, _ | 6, _ | 7, _ => simp [xCells]
theorem xCells_congr (vr vs : Value) (E E' : Int → Int) (h : ∀ k : Nat, k < 8 → E k = E' k) : xCells vr vs E = xCells vr vs E' := by
  unfold xCells
  rw [show E 0 = E' 0 from h 0 (by omega), show E 1 = E' 1 from h 1 (by omega), show E 2 = E' 2 from h 2 (by omega), show E 3 = E' 3 from h 3 (by omega), show E 4 = E' 4 from h 4 (by omega), show E 5 = E' 5 from h 5 (by omega), show E 6 = E' 6 from h 6 (by omega), show E 7 = E' 7 from h 7 (by omega)]
theorem xCells_at (w : World) (q : Nat) (vr vs : Value) (E : Int → Int) (T : TypeId) (h : w.heap[q]? = some (.cells (xCells vr vs E) T (0, 0))) (k : Nat) (hk : k < 8) : w.cell? ⟨q, 2 + k, none⟩ = some (.int .i64 (E k)) := by
  match k, hk with
  | 0, _ | 1, _ | 2, _ | 3, _ | 4, _ | 5, _ | 6, _ | 7, _ => simp [World.cell?, h, xCells]

def newE (k : Nat) (x : Int) : Int := if x < k then -1 else 0

set_option maxRecDepth 100000 in
set_option maxHeartbeats 400000 in
theorem new11_any (w : World) : Calls Try.prog 16 #[] w (IsNewX w) := by
  go_enter Try.func16, Try.ntmps16
  go_wp2_with fail
  go_loopw [2] (fun i wr => ∃ k : Nat, k ≤ 8 ∧ i = .int .i64 k ∧ wr.heap[w.heap.size]? = some (.cells (xCells (.slice none 0 0) (.slice none 0 0) (newE k)) 45 (0, 0)) ∧ Below w.heap.size w wr) (fun i _ => 8 - (intOf i).toNat)
  case atStart => exact ⟨0, by omega, rfl, heap_alloc_new w _, below_alloc (below_refl _) _⟩
  case round =>
    obtain ⟨k, hk, rfl, hx, hB⟩ := hrel
    by_cases hlt : k < 8
    · have hc := xCells_at wr _ _ _ _ _ hx k hlt
      have hf : wr.frozen? ⟨w.heap.size, 2 + k, none⟩ = false := by simp [World.frozen?, hx]
      have hn : RowKit.Hid ((wr.setCell ⟨w.heap.size, 2 + k, none⟩ (.int .i64 (-1))).heap[w.heap.size]? = some (.cells (xCells (.slice none 0 0) (.slice none 0 0) (newE (k + 1))) 45 (0, 0))) := Lib.hid (by
        rw [heap_setCell_self hx, xCells_set _ _ _ k hlt, xCells_congr]
        intro j hj
        unfold newE
        by_cases e : j = k
        · subst e; rw [if_pos rfl, if_pos (by omega)]
        · rw [if_neg (by omega)]
          by_cases e2 : j < k
          · rw [if_pos (by omega), if_pos (by omega)]
          · rw [if_neg (by omega), if_neg (by omega)])
      have hn2 : RowKit.Hid (Below w.heap.size w (wr.setCell ⟨w.heap.size, 2 + k, none⟩ (.int .i64 (-1)))) := Lib.hid (below_set hB (Nat.le_refl _) _)
      have h0 : (0 : Int) ≤ k := by omega
      have h8 : (k : Int) < 8 := by omega
      clear hx
      go_wp2_with fail
      go_roundw
      case rel => exact ⟨k + 1, by omega, by go_num, hn.out, hn2.out⟩
      case measure => first | (simp [intOf]; done) | (simp [intOf]; omega)
    · obtain rfl : k = 8 := by omega
      have hx' := Lib.hid hx
      clear hx
      go_wp2_with fail
      go_ret
      refine ⟨w.heap.size, rfl, ⟨.slice none 0 0, .slice none 0 0, [], ?_, World.ownsRow_nil _ _ _ _, rfl, World.ownsRow_nil _ _ _ _, (fun x hx => by cases hx), rfl, (fun b e => by cases e), (fun b e => by cases e), (fun b _ h => h), fun b hb => ?_⟩, Nat.le_refl _, hB⟩
      · rw [hx'.out, xCells_congr]
        intro j hj
        unfold newE PL.St.new
        dsimp only
        rw [if_pos (by omega)]
      · rcases hb with rfl | h
        · exact (Array.getElem?_eq_some_iff.1 hx'.out).1
        · exact h.elim

/-! ### an epoch -/
/-- It returns this value, and block q is a log that holds s. -/
def TurnedX (q : Nat) (M V : Nat → Prop) (v : Value) (s : PL.St) (w : World) (r : Ending) (w' : World) : Prop :=
  ∃ M' V', r = .returned v ∧ XRep w' q s M' V' ∧ Fr M w w' ∧ (∀ b, M' b → M b ∨ w.heap.size ≤ b) ∧ ∀ b, V' b → V b ∨ w.heap.size ≤ b

/-- What becomes of it if an epoch is written. -/
theorem XRep.ep_put {w : World} {q : Nat} {s : PL.St} {M V : Nat → Prop} (h : XRep w q s M V) (k : Nat) (hk : k < 8) (v : Int) :
    XRep (w.setCell ⟨q, 2 + k, none⟩ (.int .i64 v)) q { s with E := fun x => if x = k then v else s.E x } M V := by
  obtain ⟨vr, vs, L, h1, h2, h3, h4, h7, h8, h10, h11, h12, h13⟩ := h
  have hq : ∀ b, b ≠ q → (w.setCell ⟨q, 2 + k, none⟩ (.int .i64 v)).heap[b]? = w.heap[b]? := fun b hb => heap_setCell_ne hb
  refine ⟨vr, vs, L, ?_, owns_same h2 fun b e => hq b (h10 b e).2, h3, owns_same h4 fun b e => hq b (h11 b e).2, fun x hx => ⟨(h7 x hx).1.same fun b e => hq b (fun e' => ?_), (h7 x hx).2⟩, h8, h10, h11, h12, fun b e => by simpa [World.setCell] using h13 b e⟩
  · rw [heap_setCell_self h1, xCells_set _ _ _ k hk]
  · subst e'
    exact h12 _ h8 ((h7 x hx).2 _ e)

set_option maxRecDepth 100000 in
set_option maxHeartbeats 400000 in
theorem learn11_any (w : World) (q : Nat) (s : PL.St) (M V : Nat → Prop) (h : XRep w q s M V) (a e : Int) :
    Calls Try.prog 44 #[.pointer (some ⟨q, 0, none⟩), .int .i64 a, .int .i64 e] w (TurnedX q M V (.int .i64 (s.learn a e).1) (s.learn a e).2 w) := by
  have h1 := in_any a 0 7
  have h2 := in_any e 0 100
  unfold PL.St.learn
  by_cases hok : PL.okPE a e
  · rw [if_pos hok]
    have hok' := hok
    obtain ⟨o1, o2, o3, o4⟩ := hok'
    rw [show decide (0 ≤ a ∧ a ≤ 7) = true by simp; omega] at h1
    rw [show decide (0 ≤ e ∧ e ≤ 100) = true by simp; omega] at h2
    obtain ⟨k, rfl⟩ : ∃ k : Nat, a = k := ⟨a.toNat, by omega⟩
    have hk : k < 8 := by omega
    obtain ⟨vr, vs, c0, c1, ce, fz, hR, hS⟩ := h.opened
    have c2 := ce k hk
    have f2 := fz (2 + k)
    have hput := Lib.hid h
    clear h ce fz hR hS c0 c1 hok
    go_enter Try.func44, Try.ntmps44
    go_wp2_with fail
    refine (h1 _).mono ?_
    rintro x w1 ⟨rfl, rfl⟩
    go_wp2_with fail
    refine (h2 _).mono ?_
    rintro x w1 ⟨rfl, rfl⟩
    go_wp2_with fail
    go_still_tail 13, (by kernel_rfl)
    change wpList _ _ _ _ _ w.drew
    have hX : XRep w.drew q s M V := hput.out
    have hF := (Fr.refl M w).drew
    have hM := hput.out.self
    clear hput
    have hput := Lib.hid (hX.ep_put k hk (max (s.E k) e))
    have hB := Lib.hid (Fr.setCell hF (o := 2 + k) (.inl hM) (.int .i64 (max (s.E k) e)))
    have c2' : w.drew.cell? ⟨q, 2 + k, none⟩ = some (.int .i64 (s.E k)) := c2
    have f2' : w.drew.frozen? ⟨q, 2 + k, none⟩ = false := f2
    clear c2 f2 hX hF hM
    generalize w.drew = w2 at *
    go_wp2_with fail
    go_ret
    exact ⟨M, V, rfl, hput.out, hB.out, fun b hb => .inl hb, fun b hb => .inl hb⟩
  · rw [if_neg hok]
    by_cases o1 : 0 ≤ a ∧ a ≤ 7
    · rw [show decide (0 ≤ a ∧ a ≤ 7) = true by simpa using o1] at h1
      rw [show decide (0 ≤ e ∧ e ≤ 100) = false by simp; unfold PL.okPE at hok; omega] at h2
      go_enter Try.func44, Try.ntmps44
      go_wp2_with fail
      refine (h1 _).mono ?_
      rintro x w1 ⟨rfl, rfl⟩
      go_wp2_with fail
      refine (h2 _).mono ?_
      rintro x w1 ⟨rfl, rfl⟩
      go_wp2_with fail
      go_ret
      exact ⟨M, V, rfl, h, Fr.refl _ _, fun b hb => .inl hb, fun b hb => .inl hb⟩
    · rw [show decide (0 ≤ a ∧ a ≤ 7) = false by simpa using o1] at h1
      go_enter Try.func44, Try.ntmps44
      go_wp2_with fail
      refine (h1 _).mono ?_
      rintro x w1 ⟨rfl, rfl⟩
      go_wp2_with fail
      go_ret
      exact ⟨M, V, rfl, h, Fr.refl _ _, fun b hb => .inl hb, fun b hb => .inl hb⟩

end Go.Proofs.Ytjjlbancofkinaa
