/-
  Each over a log hands the rows over that its read gives.
-/
import Derived.Test.YtjjlbancofkinaaToldO
namespace Go.Proofs.Ytjjlbancofkinaa
open Go.RowKit
attribute [local go_sem] Oper.semAt_some

/-- A row of what was read, in a world that keeps the blocks of the read. -/
theorem RecsFrom.row {A0 : Nat} {w X : World} {v : Value} {T : List PL.Rec} {k : Nat} {r : PL.Rec} (h : RecsFrom A0 w v T) (hk : T[k]? = some r) (hx : ∀ b, A0 ≤ b → b < w.heap.size → X.heap[b]? = w.heap[b]?) :
    ∃ b o c val, v = .slice (some ⟨b, o, none⟩) T.length c ∧ RecAt X b (o + k * 5) r val ∧ BytesAt X val r.v ∧ (∀ d, Value.blk val = some d → A0 ≤ d ∧ d < w.heap.size) ∧ b < X.heap.size := by
  obtain ⟨a, c, h1, h2, h3, h4, h5⟩ := h
  obtain ⟨b, o, val, k1, k2, k3, k4, k5⟩ := h5 k r hk
  subst k1
  have hb := hx b k2 (lt_of_cell k3.1)
  have k3' := k3.same hb
  exact ⟨b, o, c, val, h1, k3', k4.same fun d e => hx d (k5 d e) (k4.lt e), fun d e => ⟨k5 d e, k4.lt e⟩, lt_of_cell k3'.1⟩

theorem blk_from {A0 A1 : Nat} {v : Value} {O : Nat → Prop} (hv : ∀ d, Value.blk v = some d → A0 ≤ d ∧ d < A1) (hO : ∀ b, O b → b < A0 ∨ A1 ≤ b) : ∀ b, Value.blk v = some b → ¬ O b := fun b e h => by
  have h1 := hv b e
  have h2 := hO b h
  omega

set_option maxRecDepth 100000 in
set_option maxHeartbeats 4000000 in
theorem each1_false (n : Nat) (hn : 2 ≤ n) (w : World) (b1 b2 p : Nat) (s : PL.St) (M V : Nat → Prop) (h : PRep w p s M V) (hs : s.R.length ≤ 128) (hS : s.S.length ≤ 1099511627776) (hv : ∀ r ∈ s.R, r.v.length ≤ 140737488351232)
    (c1 : w.cell? ⟨b1, 0, none⟩ = some (.pointer (some ⟨p, 0, none⟩))) (c2 : w.cell? ⟨b2, 0, none⟩ = some (.bool false)) (T : List PL.Rec)
    (hT : (readOut (fun _ => true) s.R.length s.R.length (s.R.drop 0) (0 : Nat) []).1 = T) (hTn : T.length ≤ 128) :
    FeedsO n Try.prog 63 #[.pointer (some ⟨b1, 0, none⟩), .pointer (some ⟨b2, 0, none⟩)] (fun x : PL.Rec × Value => #[recV x.1 x.2]) (PxO T) T.length w := by
  intro l J Jx W O hW hJ hJx hO hY h0
  have c1' : W.drew.cell? ⟨b1, 0, none⟩ = some (.pointer (some ⟨p, 0, none⟩)) := cell_below c1 (below_drew hW)
  have c2' : W.drew.cell? ⟨b2, 0, none⟩ = some (.bool false) := cell_below c2 (below_drew hW)
  have hP' := h.below (below_drew hW)
  have hlen := fun X (hb : Below W.drew.heap.size W.drew X) => len_any X p s M V (hP'.below hb)
  have hany := fun X (hb : Below W.drew.heap.size W.drew X) => fetchAny_any X p s M V (hP'.below hb) hs hv 0 s.R.length 0 (by decide)
  have hcom := fun X (hb : Below W.drew.heap.size W.drew X) => fetchCommitted_any X p s M V (hP'.below hb) hs hS hv 0 s.R.length 0 (by decide)
  have hmx : Try.prog.follows .mixedOrders = true := by kernel_rfl
  have h0' : J [] O W.drew := hJ _ _ _ _ h0 (below_drew (below_refl _))
  have hO' : ∀ b, O b → b < W.drew.heap.size := hO _ _ _ h0'
  have hszW : W.drew.heap.size = W.heap.size := rfl
  clear c1 c2 h h0 hW
  rw [hT] at hany
  generalize (readOut (fun _ => true) s.R.length s.R.length (s.R.drop 0) (0 : Nat) []).2 = at1 at hany
  refine callsIn_of_wp Try.func63 rfl trivial ?_ rfl
  simp only [Try.ntmps63, List.size_toArray, List.length_cons, List.length_nil, Nat.reduceAdd, Nat.reduceSub, Array.replicate_succ, Array.replicate_zero, List.push_toArray, List.append_toArray, List.nil_append, List.cons_append]
  gi_wp2
  gi_region_with_o (first
    | (refine ⟨trivial, fun _ => by omega, (callsIn_wide.2 (hlen _ (below_refl _))).mono ?_⟩; rintro e w1 ⟨rfl, hb1⟩; have c1a := cell_below c1' hb1; have c2a := cell_below c2' hb1)
    | (refine ⟨trivial, fun _ => by omega, (callsIn_wide.2 (hany _ hb1)).mono ?_⟩; rintro e w2 ⟨v2, rfl, hR2, hb2⟩; have hR2' := hR2; obtain ⟨a2, k2, rfl, -⟩ := hR2'; dsimp only))
  all_goals
    have c2b := cell_below c2a hb2
    have hA0 := hb1.size
    have hA1 := hb2.size
    have hJs0 : J [] O w2 := hJ _ _ _ _ h0' (below_step hb1 hb2)
    have hRs := hR2
    clear c1' c2' c1a c2a hb1 hb2 hlen hany hcom hP' hR2 h0'
    generalize hA : w1.heap.size = A0 at *
    generalize hWs : w2 = Ws at *
    gi_wp2
    gi_loopw [25] (fun iv wr => ∃ (pre : List (PL.Rec × Value)) (O1 : Nat → Prop), iv = .int .i64 (pre.length : Int) ∧ pre.length ≤ T.length ∧ J pre O1 wr ∧ (∀ b, O1 b → b < A0 ∨ Ws.heap.size ≤ b) ∧ (∀ b, A0 ≤ b → b < Ws.heap.size → wr.heap[b]? = Ws.heap[b]?) ∧ Ws.heap.size ≤ wr.heap.size)
      (fun iv _ => T.length - (intOf iv).toNat)
    case atStart => exact ⟨[], O, rfl, Nat.zero_le _, hJs0, fun b hb => .inl (by have := hO' b hb; omega), fun _ _ _ => rfl, Nat.le_refl _⟩
    case round =>
      obtain ⟨pre, O1, rfl, hpre, hJs, hO1, hkb, hsz⟩ := hrel
      by_cases hlt : pre.length < T.length
      · have hkr : RowKit.Hid (T[pre.length]? = some T[pre.length]) := Lib.hid (List.getElem?_eq_getElem hlt)
        obtain ⟨b, o, c, val, hvE, hrow, hval, hd, hbl⟩ := hRs.row hkr.out hkb
        cases hvE
        obtain ⟨q0, q1, q2, q3, q4⟩ := hrow
        generalize T[pre.length] = x at *
        obtain ⟨xp, xe, xt, xq, xv⟩ := x
        dsimp only at *
        have hval' := hval
        obtain ⟨pu, cu, rfl, -, -, -⟩ := hval'
        have hJ5 : J pre O1 (wr.alloc (.cells #[.int .i64 xp, .int .i64 xe, .int .i64 xt, .int .i64 xq, .slice pu xv.length cu] 32)) := hJ _ _ _ _ hJs (below_alloc (below_refl _) _)
        obtain ⟨fn, tmps, assign, body, hy, hRd⟩ := hY pre (⟨xp, xe, xt, xq, xv⟩, .slice pu xv.length cu) O1 _ hJ5 hlt ⟨hkr.out, hval.below (below_alloc (below_refl _) _), blk_from hd hO1⟩
        dsimp only [recV] at hy
        clear hRs
        gi_wp2
        refine ⟨fun _ => by omega, hRd.mono ?_⟩
        rintro e W3 (⟨rfl, O2, hJ3, hF3, hO3⟩ | ⟨rfl, hJx3⟩)
        · gi_wp2
          go_roundw
          case rel => exact ⟨_, O2, by simp, by simp; omega, hJ3, fun b hb => (hO3 b hb).elim (hO1 b) (fun h => .inr (by simp at h; omega)), fun b h1 h2 => (hF3.block b (by simp; omega) (fun h => by have := hO1 b h; omega)).trans ((Below.heap_alloc _ _ _ (by omega)).trans (hkb b h1 h2)), by have := hF3.size; simp at this; omega⟩
          case measure => simp [intOf]; omega
        · gi_wp2
          refine bodyPost_ret (results_none rfl _ _ _) rfl ?_
          exact ⟨⟨_, rfl⟩, .inr hJx3⟩
      · gi_wp2
        go_end0
        exact ⟨⟨_, rfl⟩, .inl ⟨pre, O1, by omega, hJs⟩⟩

set_option maxRecDepth 100000 in
set_option maxHeartbeats 4000000 in
theorem each1_true (n : Nat) (hn : 2 ≤ n) (w : World) (b1 b2 p : Nat) (s : PL.St) (M V : Nat → Prop) (h : PRep w p s M V) (hs : s.R.length ≤ 128) (hS : s.S.length ≤ 1099511627776) (hv : ∀ r ∈ s.R, r.v.length ≤ 140737488351232)
    (c1 : w.cell? ⟨b1, 0, none⟩ = some (.pointer (some ⟨p, 0, none⟩))) (c2 : w.cell? ⟨b2, 0, none⟩ = some (.bool true)) (T : List PL.Rec)
    (hT : (readOut (isComm s.S) s.R.length s.stable (s.R.drop 0) (0 : Nat) []).1 = T) (hTn : T.length ≤ 128) :
    FeedsO n Try.prog 63 #[.pointer (some ⟨b1, 0, none⟩), .pointer (some ⟨b2, 0, none⟩)] (fun x : PL.Rec × Value => #[recV x.1 x.2]) (PxO T) T.length w := by
  intro l J Jx W O hW hJ hJx hO hY h0
  have c1' : W.drew.cell? ⟨b1, 0, none⟩ = some (.pointer (some ⟨p, 0, none⟩)) := cell_below c1 (below_drew hW)
  have c2' : W.drew.cell? ⟨b2, 0, none⟩ = some (.bool true) := cell_below c2 (below_drew hW)
  have hP' := h.below (below_drew hW)
  have hlen := fun X (hb : Below W.drew.heap.size W.drew X) => len_any X p s M V (hP'.below hb)
  have hany := fun X (hb : Below W.drew.heap.size W.drew X) => fetchAny_any X p s M V (hP'.below hb) hs hv 0 s.R.length 0 (by decide)
  have hcom := fun X (hb : Below W.drew.heap.size W.drew X) => fetchCommitted_any X p s M V (hP'.below hb) hs hS hv 0 s.R.length 0 (by decide)
  have hmx : Try.prog.follows .mixedOrders = true := by kernel_rfl
  have h0' : J [] O W.drew := hJ _ _ _ _ h0 (below_drew (below_refl _))
  have hO' : ∀ b, O b → b < W.drew.heap.size := hO _ _ _ h0'
  have hszW : W.drew.heap.size = W.heap.size := rfl
  clear c1 c2 h h0 hW
  rw [hT] at hcom
  generalize (readOut (isComm s.S) s.R.length s.stable (s.R.drop 0) (0 : Nat) []).2 = at2 at hcom
  generalize (readOut (fun _ => true) s.R.length s.R.length (s.R.drop 0) (0 : Nat) []) = r1 at hany
  obtain ⟨r1, at1⟩ := r1
  dsimp only at hany
  refine callsIn_of_wp Try.func63 rfl trivial ?_ rfl
  simp only [Try.ntmps63, List.size_toArray, List.length_cons, List.length_nil, Nat.reduceAdd, Nat.reduceSub, Array.replicate_succ, Array.replicate_zero, List.push_toArray, List.append_toArray, List.nil_append, List.cons_append]
  gi_wp2
  gi_region_with_o (first
    | (refine ⟨trivial, fun _ => by omega, (callsIn_wide.2 (hlen _ (below_refl _))).mono ?_⟩; rintro e w1 ⟨rfl, hb1⟩; have c1a := cell_below c1' hb1; have c2a := cell_below c2' hb1)
    | (refine ⟨trivial, fun _ => by omega, (callsIn_wide.2 (hany _ hb1)).mono ?_⟩; rintro e w2 ⟨v2, rfl, hR2, hb2⟩; have hR2' := hR2; obtain ⟨a2, k2, rfl, -⟩ := hR2'; dsimp only))
  all_goals
    have c1b := cell_below c1a hb2
    have c2b := cell_below c2a hb2
    have hB2 := below_step hb1 hb2
    clear c1' c2' c1a c2a hb1 hb2 hany hR2
    gi_wp2
    have c1d : w2.drew.cell? ⟨b1, 0, none⟩ = some (.pointer (some ⟨p, 0, none⟩)) := c1b
    have c2d : w2.drew.cell? ⟨b2, 0, none⟩ = some (.bool true) := c2b
    have hB2' := below_drew hB2
    clear c1b c2b hB2
    gi_region_with_o (first
      | (refine ⟨trivial, fun _ => by omega, (callsIn_wide.2 (hlen _ hB2')).mono ?_⟩; rintro e w3 ⟨rfl, hb3⟩; have c1e := cell_below c1d hb3; have c2e := cell_below c2d hb3)
      | (refine ⟨trivial, fun _ => by omega, (callsIn_wide.2 (hcom _ (below_step hB2' hb3))).mono ?_⟩; rintro e w4 ⟨v4, rfl, hR4, hb4⟩; have hR4' := hR4; obtain ⟨a4, k4, rfl, -⟩ := hR4'; dsimp only))
  all_goals
    have hB3 := below_step hB2' hb3
    have hA0 := hB3.size
    have hA1 := hb4.size
    have hJs0 : J [] O w4 := hJ _ _ _ _ h0' (below_step hB3 hb4)
    have hRs := hR4
    clear c1d c2d c1e c2e hb3 hb4 hB3 hB2' hlen hcom hP' hR4 h0'
    generalize hA : w3.heap.size = A0 at *
    generalize hWs : w4 = Ws at *
    gi_wp2
    gi_loopw [25] (fun iv wr => ∃ (pre : List (PL.Rec × Value)) (O1 : Nat → Prop), iv = .int .i64 (pre.length : Int) ∧ pre.length ≤ T.length ∧ J pre O1 wr ∧ (∀ b, O1 b → b < A0 ∨ Ws.heap.size ≤ b) ∧ (∀ b, A0 ≤ b → b < Ws.heap.size → wr.heap[b]? = Ws.heap[b]?) ∧ Ws.heap.size ≤ wr.heap.size)
      (fun iv _ => T.length - (intOf iv).toNat)
    case atStart => exact ⟨[], O, rfl, Nat.zero_le _, hJs0, fun b hb => .inl (by have := hO' b hb; omega), fun _ _ _ => rfl, Nat.le_refl _⟩
    case round =>
      obtain ⟨pre, O1, rfl, hpre, hJs, hO1, hkb, hsz⟩ := hrel
      by_cases hlt : pre.length < T.length
      · have hkr : RowKit.Hid (T[pre.length]? = some T[pre.length]) := Lib.hid (List.getElem?_eq_getElem hlt)
        obtain ⟨b, o, c, val, hvE, hrow, hval, hd, hbl⟩ := hRs.row hkr.out hkb
        cases hvE
        obtain ⟨q0, q1, q2, q3, q4⟩ := hrow
        generalize T[pre.length] = x at *
        obtain ⟨xp, xe, xt, xq, xv⟩ := x
        dsimp only at *
        have hval' := hval
        obtain ⟨pu, cu, rfl, -, -, -⟩ := hval'
        have hJ5 : J pre O1 (wr.alloc (.cells #[.int .i64 xp, .int .i64 xe, .int .i64 xt, .int .i64 xq, .slice pu xv.length cu] 32)) := hJ _ _ _ _ hJs (below_alloc (below_refl _) _)
        obtain ⟨fn, tmps, assign, body, hy, hRd⟩ := hY pre (⟨xp, xe, xt, xq, xv⟩, .slice pu xv.length cu) O1 _ hJ5 hlt ⟨hkr.out, hval.below (below_alloc (below_refl _) _), blk_from hd hO1⟩
        dsimp only [recV] at hy
        clear hRs
        gi_wp2
        refine ⟨fun _ => by omega, hRd.mono ?_⟩
        rintro e W3 (⟨rfl, O2, hJ3, hF3, hO3⟩ | ⟨rfl, hJx3⟩)
        · gi_wp2
          go_roundw
          case rel => exact ⟨_, O2, by simp, by simp; omega, hJ3, fun b hb => (hO3 b hb).elim (hO1 b) (fun h => .inr (by simp at h; omega)), fun b h1 h2 => (hF3.block b (by simp; omega) (fun h => by have := hO1 b h; omega)).trans ((Below.heap_alloc _ _ _ (by omega)).trans (hkb b h1 h2)), by have := hF3.size; simp at this; omega⟩
          case measure => simp [intOf]; omega
        · gi_wp2
          refine bodyPost_ret (results_none rfl _ _ _) rfl ?_
          exact ⟨⟨_, rfl⟩, .inr hJx3⟩
      · gi_wp2
        go_end0
        exact ⟨⟨_, rfl⟩, .inl ⟨pre, O1, by omega, hJs⟩⟩

end Go.Proofs.Ytjjlbancofkinaa
