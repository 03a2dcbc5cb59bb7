/-
  The reference of chapter 12: Any, Committed, Aborted.
-/
import Derived.Test.YtjjlbancofkinaaRefI
import Derived.Test.YtjjlbancofkinaaFetchG
namespace Go.Proofs.Ytjjlbancofkinaa
open Go.RowKit

/-- What the reference reads, and where to go on. -/
def ReadX12 (w : World) (R : List PL.Rec) (at_ : Int) (e : Ending) (w' : World) : Prop :=
  ∃ v, e = .returned (.tuple #[v, .int .i64 at_]) ∧ RecsAt w' v R ∧ Below w.heap.size w w'

theorem readx_mk {w w' : World} {R R' : List PL.Rec} {i at_ : Int} {v : Value} (h : i = at_) (hR : RecsAt w' v R') (hRR : R' = R) (hb : Below w.heap.size w w') : ReadX12 w R at_ (.returned (.tuple #[v, .int .i64 i])) w' := ⟨v, by rw [h], hRR ▸ hR, hb⟩
theorem readOut_nil {f : PL.Rec → Bool} {most end_ : Int} {R : List PL.Rec} {k : Nat} {out : List PL.Rec} (h : R.length ≤ k) : readOut f most end_ (R.drop k) k out = (out, (k : Int)) := by
  rw [List.drop_eq_nil_of_le h]; rfl
theorem recs_of_owns' {w : World} {base e : Nat} {v : Value} {L : List (PL.Rec × Value)} (h : w.ownsRow base e 5 v L.length (recCells L)) (hb : ∀ x ∈ L, BytesAt w x.2 x.1.v) : RecsAt w v (L.map (·.1)) := recs_of_owns h hb

set_option maxRecDepth 100000 in
set_option maxHeartbeats 1600000 in
theorem any12_any (w : World) (q : Nat) (s : PL.St) (N U : Nat → Prop) (h : XRep w q s N U) (hs : s.R.length ≤ 128) (from_ most : Int) (m : Nat) (hm : max from_ 0 = m) :
    Calls Try.prog 34 #[.pointer (some ⟨q, 0, none⟩), .int .i64 from_, .int .i64 most] w
      (ReadX12 w (readOut (fun _ => true) most s.R.length (s.R.drop m) m []).1 (readOut (fun _ => true) most s.R.length (s.R.drop m) m []).2) := by
  obtain ⟨vr, vs, x0, -, -, -, hR, -⟩ := h.opened
  obtain ⟨pr, cr, rfl, hr1, hr2, hr3⟩ := hR
  obtain ⟨j0, hj0, hy0, hy1, hy2⟩ := info_parts Try.infoRec
  have hres : readOut (fun _ => true) most s.R.length (s.R.drop m) m [] = readOut (fun _ => true) most s.R.length (s.R.drop m) m (([] : List (PL.Rec × Value)).map (·.1)) := rfl
  generalize hR0 : s.R = R at *
  generalize readOut (fun _ => true) most (R.length : Int) (R.drop m) m [] = res at *
  have Hres := Lib.hid hres
  have Hr3 := Lib.hid hr3
  clear hres hr3 hR0 h
  go_enter Try.func34, Try.ntmps34
  go_wp2_with fail
  clear hm
  go_loopw [8, 9] (fun o iv wr => ∃ (k : Nat) (out : List (PL.Rec × Value)), iv = .int .i64 k ∧ wr.ownsRow w.heap.size 32 5 o out.length (recCells out) ∧ (∀ x ∈ out, BytesAt w x.2 x.1.v) ∧ out.length ≤ k ∧ Below w.heap.size w wr ∧ res = readOut (fun _ => true) most R.length (R.drop k) k (out.map (·.1))) (fun _ iv _ => R.length - (intOf iv).toNat)
  case atStart => exact ⟨m, [], rfl, World.ownsRow_nil _ _ _ _, (fun x hx => by cases hx), Nat.zero_le _, below_refl _, Hres.out⟩
  case round =>
    obtain ⟨k, out, rfl, ho, hv, hle, hB, hrs⟩ := hrel
    obtain ⟨ao, co, rfl, ho1, ho2, -, -⟩ := owns_form ho
    have y0 := cell_below x0 hB
    have Hrs := Lib.hid hrs
    have Hv := Lib.hid hv
    clear hrs hv
    by_cases hlt : k < R.length
    · obtain ⟨b, o, u, rfl, hat, hu⟩ := Hr3.out k _ (List.getElem?_eq_getElem hlt)
      obtain ⟨d0, d1, d2, d3, d4⟩ := hat.below hB
      have hg : RowKit.Hid (R[k]? = some R[k]) := Lib.hid (List.getElem?_eq_getElem hlt)
      have hu' := Lib.hid hu
      obtain ⟨pu, cu, hpu, -⟩ := hu
      generalize R[k] = x at *
      obtain ⟨xp, xe, xt, xq, xv⟩ := x
      dsimp only at *
      subst hpu
      by_cases hmo : (out.length : Int) < most
      · have hgo := Lib.hid (Hrs.out.trans (readOut_go hg.out (by rw [List.length_map]; omega)))
        simp only [if_true] at hgo
        have hsz := hB.size
        go_wp2_with (at_builtin; refine wpList_append_own _ rfl _ _ _ rfl w.heap.size 32 j0 (.agg #[.int .i64 0, .int .i64 0, .int .i64 0, .int .i64 0, .slice none 0 0]) 5 56 Try.underlying35 hj0 hy0 hy1 hy2 rfl (by decide) _ _ _ (by rfl) (ho.alloc _) ⟨wr.heap.size, 0, none⟩ 1 1 (recCells [(⟨xp, xe, xt, xq, xv⟩, .slice pu xv.length cu)]) (by rfl) rfl (rec_new wr 32 ⟨xp, xe, xt, xq, xv⟩ _) (rec_oneCell _ _ _ _) (by unfold maxLen; omega) (by omega) (by simp; omega) ?_)
        intro v' w6 hown' hgrow _
        obtain ⟨g', cap', rfl⟩ := ownsRow_succ hown'
        rw [← recCells_append] at hown'
        have hB6 : RowKit.Hid (Below w.heap.size w w6) := Lib.hid ((below_alloc hB _).grown hgrow (by simp; omega) (fun j e => (ho.lt j e).1))
        have hO6 := Lib.hid hown'
        clear hown' hgrow ho hB d0 d1 d2 d3 d4 y0
        go_wp2_with fail
        go_roundw
        case rel => exact ⟨k + 1, out ++ [(⟨xp, xe, xt, xq, xv⟩, .slice pu xv.length cu)], by go_num, by rw [List.length_append]; exact hO6.out, (fun x hx => by
            rcases List.mem_append.1 hx with hx | hx
            · exact Hv.out x hx
            · simp at hx; subst hx; exact hu'.out), by simp; omega, hB6.out, by rw [List.map_append]; exact hgo.out⟩
        case measure => first | (simp [intOf]; done) | (simp [intOf]; omega)
      · have hst := Lib.hid (Hrs.out.trans (readOut_stop hg.out (.inr (by rw [List.length_map]; omega))))
        have hfin := Lib.hid (recs_of_owns ho fun x hx => (Hv.out x hx).below hB)
        clear ho d0 d1 d2 d3 d4
        go_wp2_with fail
        go_ret2
        exact readx_mk (by rw [hst.out]) hfin.out (by rw [hst.out]) hB
    · have hst := Lib.hid (Hrs.out.trans (readOut_nil (by omega)))
      have hfin := Lib.hid (recs_of_owns ho fun x hx => (Hv.out x hx).below hB)
      clear ho
      go_wp2_with fail
      go_ret2
      exact readx_mk (by rw [hst.out]) hfin.out (by rw [hst.out]) hB

/-- Was it committed? -/
def isCommX (s : PL.St) (r : PL.Rec) : Bool := decide (s.kind r.p r.e r.t = 2)

set_option maxRecDepth 100000 in
set_option maxHeartbeats 3200000 in
theorem committed12_any (w : World) (q : Nat) (s : PL.St) (N U : Nat → Prop) (h : XRep w q s N U) (hs : s.R.length ≤ 128) (hst : s.stable ≤ s.R.length) (from_ most : Int) (m : Nat) (hm : max from_ 0 = m) :
    Calls Try.prog 35 #[.pointer (some ⟨q, 0, none⟩), .int .i64 from_, .int .i64 most] w
      (ReadX12 w (readOut (isCommX s) most s.stable (s.R.drop m) m []).1 (readOut (isCommX s) most s.stable (s.R.drop m) m []).2) := by
  have hsta := fun W (hb : Below w.heap.size w W) => stable11_any W q s N U (h.below hb)
  have hkind := fun W (hb : Below w.heap.size w W) r v hv => kind11_any W q s N U (h.below hb) r v hv
  obtain ⟨vr, vs, x0, -, -, -, hR, -⟩ := h.opened
  obtain ⟨pr, cr, rfl, hr1, hr2, hr3⟩ := hR
  obtain ⟨j0, hj0, hy0, hy1, hy2⟩ := info_parts Try.infoRec
  have hres : readOut (isCommX s) most s.stable (s.R.drop m) m [] = readOut (isCommX s) most s.stable (s.R.drop m) m (([] : List (PL.Rec × Value)).map (·.1)) := rfl
  have hf : ∀ r, isCommX s r = decide (s.kind r.p r.e r.t = 2) := fun r => rfl
  generalize isCommX s = f at *
  have Hf := Lib.hid hf
  generalize s.R = R at *
  generalize s.stable = sb at *
  generalize readOut f most sb (R.drop m) m [] = res at *
  have Hres := Lib.hid hres
  have Hr3 := Lib.hid hr3
  have Hst := Lib.hid hst
  clear hres hr3 h hf hst
  go_enter Try.func35, Try.ntmps35
  go_wp2_with fail
  clear hm
  go_loopw [8, 9] (fun o iv wr => ∃ (k : Nat) (out : List (PL.Rec × Value)), iv = .int .i64 k ∧ wr.ownsRow w.heap.size 32 5 o out.length (recCells out) ∧ (∀ x ∈ out, BytesAt w x.2 x.1.v) ∧ out.length ≤ k ∧ Below w.heap.size w wr ∧ res = readOut f most sb (R.drop k) k (out.map (·.1))) (fun _ iv _ => R.length - (intOf iv).toNat)
  case atStart => exact ⟨m, [], rfl, World.ownsRow_nil _ _ _ _, (fun x hx => by cases hx), Nat.zero_le _, below_refl _, Hres.out⟩
  case round =>
    obtain ⟨k, out, rfl, ho, hv, hle, hB, hrs⟩ := hrel
    obtain ⟨ao, co, rfl, ho1, ho2, -, -⟩ := owns_form ho
    have y0 := cell_below x0 hB
    have hsta' := hsta wr hB
    have hkind' := hkind wr hB
    have Hrs := Lib.hid hrs
    have Hv := Lib.hid hv
    clear hrs hv
    have hstop : ∀ (_ : sb ≤ (k : Int) ∨ most ≤ (out.length : Int)), res = (out.map (·.1), (k : Int)) := fun hh => by
      rcases Nat.lt_or_ge k R.length with hlt | hge
      · exact Hrs.out.trans (readOut_stop (List.getElem?_eq_getElem hlt) (hh.imp id (fun h => by rw [List.length_map]; exact h)))
      · exact Hrs.out.trans (readOut_nil hge)
    have Hstop := Lib.hid hstop
    have hfin := Lib.hid (recs_of_owns ho fun x hx => (Hv.out x hx).below hB)
    clear hstop
    by_cases hsk : (k : Int) < sb
    · have hlt : k < R.length := by have := Hst.out; omega
      by_cases hmo : (out.length : Int) < most
      · obtain ⟨b, o, u, rfl, hat, hu⟩ := Hr3.out k _ (List.getElem?_eq_getElem hlt)
        obtain ⟨d0, d1, d2, d3, d4⟩ := hat.below hB
        have hg : RowKit.Hid (R[k]? = some R[k]) := Lib.hid (List.getElem?_eq_getElem hlt)
        have hu' := Lib.hid hu
        obtain ⟨pu, cu, hpu, -⟩ := hu
        have hfx := Hf.out R[k]
        generalize R[k] = x at *
        obtain ⟨xp, xe, xt, xq, xv⟩ := x
        dsimp only at *
        subst hpu
        have hgo := Hrs.out.trans (readOut_go hg.out (by rw [List.length_map]; omega))
        have hk1 := hkind' ⟨xp, xe, xt, xq, xv⟩ (.slice pu xv.length cu) ⟨_, _, _, rfl⟩
        unfold recV at hk1
        dsimp only at hk1
        clear hkind hkind' hsta
        generalize s.kind xp xe xt = kd at *
        have hsz := hB.size
        go_wp2_with fail
        refine hsta'.mono ?_
        rintro e w1 ⟨rfl, rfl⟩
        go_wp2_with fail
        refine hk1.mono ?_
        rintro e w1 ⟨rfl, hb1⟩
        have hB1 := below_step hB hb1
        have z0 := cell_below y0 hb1
        have ho' := owns_same ho fun b e => hb1.block b (ho.lt b e).2
        obtain ⟨e0, e1, e2, e3, e4⟩ := (show RecAt wr b (o + k * 5) ⟨xp, xe, xt, xq, xv⟩ (.slice pu xv.length cu) from ⟨d0, d1, d2, d3, d4⟩).below hb1
        have hsz1 := hb1.size
        clear d0 d1 d2 d3 d4 y0 hb1 hsta' hk1 ho
        by_cases hkd : kd = 2
        · rw [show f ⟨xp, xe, xt, xq, xv⟩ = true by rw [hfx]; simpa using hkd] at hgo
          have Hgo := Lib.hid hgo
          clear hgo hfx
          subst hkd
          go_wp2_with (at_builtin; refine wpList_append_own _ rfl _ _ _ rfl w.heap.size 32 j0 (.agg #[.int .i64 0, .int .i64 0, .int .i64 0, .int .i64 0, .slice none 0 0]) 5 56 Try.underlying35 hj0 hy0 hy1 hy2 rfl (by decide) _ _ _ (by rfl) (ho'.alloc _) ⟨w1.heap.size, 0, none⟩ 1 1 (recCells [(⟨xp, xe, xt, xq, xv⟩, .slice pu xv.length cu)]) (by rfl) rfl (rec_new w1 32 ⟨xp, xe, xt, xq, xv⟩ _) (rec_oneCell _ _ _ _) (by unfold maxLen; omega) (by omega) (by simp; omega) ?_)
          intro v' w6 hown' hgrow _
          obtain ⟨g', cap', rfl⟩ := ownsRow_succ hown'
          rw [← recCells_append] at hown'
          have hB6 : RowKit.Hid (Below w.heap.size w w6) := Lib.hid ((below_alloc hB1 _).grown hgrow (by simp; omega) (fun j e => (ho'.lt j e).1))
          have hO6 := Lib.hid hown'
          clear hown' hgrow ho' hB1 e0 e1 e2 e3 e4 z0
          go_wp2_with fail
          go_roundw
          case rel => exact ⟨k + 1, out ++ [(⟨xp, xe, xt, xq, xv⟩, .slice pu xv.length cu)], by go_num, by rw [List.length_append]; exact hO6.out, (fun x hx => by
              rcases List.mem_append.1 hx with hx | hx
              · exact Hv.out x hx
              · simp at hx; subst hx; exact hu'.out), by simp; omega, hB6.out, by rw [List.map_append]; exact Hgo.out⟩
          case measure => first | (simp [intOf]; done) | (simp [intOf]; omega)
        · rw [show f ⟨xp, xe, xt, xq, xv⟩ = false by rw [hfx]; simpa using hkd] at hgo
          have Hgo := Lib.hid hgo
          have Ho := Lib.hid ho'
          clear hgo hfx ho'
          go_wp2_with fail
          go_roundw
          case rel => exact ⟨k + 1, out, by go_num, Ho.out, Hv.out, by omega, hB1, Hgo.out⟩
          case measure => first | (simp [intOf]; done) | (simp [intOf]; omega)
      · have hst := Lib.hid (Hstop.out (.inr (by omega)))
        clear hkind hkind' hsta ho
        go_wp2_with fail
        refine hsta'.mono ?_
        rintro e w1 ⟨rfl, rfl⟩
        go_wp2_with fail
        go_ret2
        exact readx_mk (by rw [hst.out]) hfin.out (by rw [hst.out]) hB
    · have hst := Lib.hid (Hstop.out (.inl (by omega)))
      clear hkind hkind' hsta ho
      go_wp2_with fail
      refine hsta'.mono ?_
      rintro e w1 ⟨rfl, rfl⟩
      go_wp2_with fail
      go_ret2
      exact readx_mk (by rw [hst.out]) hfin.out (by rw [hst.out]) hB

set_option maxRecDepth 100000 in
set_option maxHeartbeats 1600000 in
theorem aborted12_any (w : World) (q : Nat) (s : PL.St) (N U : Nat → Prop) (h : XRep w q s N U) (hn : s.S.length ≤ 1099511627776) (a b : Int) :
    Calls Try.prog 43 #[.pointer (some ⟨q, 0, none⟩), .int .i64 a, .int .i64 b] w (RetP (fun v w' => SpnsAt w' v (abS a b s.S)) w) := by
  obtain ⟨vr, vs, -, x1, -, -, -, hS⟩ := h.opened
  obtain ⟨pu, cu, rfl, hu1, hu2, hu3⟩ := hS
  obtain ⟨i0, hi0, hz0, hz1, hz2⟩ := info_parts Try.infoSpan
  generalize s.S = S at *
  have Hu3 := Lib.hid hu3
  clear hu3 h
  go_enter Try.func43, Try.ntmps43
  go_wp2_with fail
  go_loopw [7, 8] (fun o i wr => ∃ (k : Nat), k ≤ S.length ∧ i = .int .i64 k ∧ wr.ownsRow w.heap.size 68 5 o (abS a b (S.take k)).length (spnCells (abS a b (S.take k))) ∧ Below w.heap.size w wr) (fun _ i _ => S.length - (intOf i).toNat)
  case atStart => exact ⟨0, Nat.zero_le _, rfl, World.ownsRow_nil _ _ _ _, below_refl _⟩
  case round =>
    obtain ⟨k, hk, rfl, ho, hF⟩ := hrel
    obtain ⟨ao, co, rfl, ho1, ho2, -, -⟩ := owns_form ho
    have y1 := cell_below x1 hF
    by_cases hlt : k < S.length
    · obtain ⟨b0, o, rfl, hat⟩ := Hu3.out k _ (List.getElem?_eq_getElem hlt)
      obtain ⟨c0, c1, c2, c3, c4⟩ := hat.below hF
      have htk : RowKit.Hid (S.take (k + 1) = S.take k ++ [S[k]]) := Lib.hid (by simp)
      have hle := abS_le a b (S.take k)
      have hlk : (S.take k).length ≤ S.length := by simp; omega
      clear hat
      generalize S[k] = x at *
      generalize S.take k = Sk at *
      have hsz := hF.size
      have hkeep : abTest a b x = false → ∀ o', wr.ownsRow w.heap.size 68 5 (.slice ao (abS a b Sk).length co) (abS a b Sk).length (spnCells (abS a b Sk)) → (wr.alloc o').ownsRow w.heap.size 68 5 (.slice ao (abS a b Sk).length co) (abS a b (Sk ++ [x])).length (spnCells (abS a b (Sk ++ [x]))) := fun h o' ho => by
        rw [abS_snoc, h]; exact ho.alloc _
      have Hkeep := Lib.hid hkeep
      clear hkeep
      by_cases h1 : ¬ x.k = 3
      · have h1'' : (x.k == 3) = false := by simpa using h1
        have hT := Lib.hid (Hkeep.out (by simp [abTest, h1'']) (.cells #[.int .i64 x.p, .int .i64 x.e, .int .i64 x.t, .int .i64 x.f, .int .i64 x.k] 68) ho)
        clear h1 ho
        go_wp2_with fail
        go_roundw
        case rel => exact ⟨k + 1, by omega, by go_num, by rw [htk.out]; exact hT.out, below_alloc hF _⟩
        case measure => first | (simp [intOf]; done) | (simp [intOf]; omega)
      replace h1 : x.k = 3 := Decidable.of_not_not h1
      have h1'' : (x.k == 3) = true := by simpa using h1
      by_cases h2 : ¬ 0 ≤ x.f
      · have hT := Lib.hid (Hkeep.out (by simp [abTest]; omega) (.cells #[.int .i64 x.p, .int .i64 x.e, .int .i64 x.t, .int .i64 x.f, .int .i64 x.k] 68) ho)
        clear h1 ho
        go_wp2_with fail
        go_roundw
        case rel => exact ⟨k + 1, by omega, by go_num, by rw [htk.out]; exact hT.out, below_alloc hF _⟩
        case measure => first | (simp [intOf]; done) | (simp [intOf]; omega)
      replace h2 : 0 ≤ x.f := Decidable.of_not_not h2
      by_cases h3 : ¬ a ≤ x.f
      · have hT := Lib.hid (Hkeep.out (by simp [abTest]; omega) (.cells #[.int .i64 x.p, .int .i64 x.e, .int .i64 x.t, .int .i64 x.f, .int .i64 x.k] 68) ho)
        clear h1 ho
        go_wp2_with fail
        go_roundw
        case rel => exact ⟨k + 1, by omega, by go_num, by rw [htk.out]; exact hT.out, below_alloc hF _⟩
        case measure => first | (simp [intOf]; done) | (simp [intOf]; omega)
      replace h3 : a ≤ x.f := Decidable.of_not_not h3
      by_cases h4 : ¬ x.f < b
      · have hT := Lib.hid (Hkeep.out (by simp [abTest]; omega) (.cells #[.int .i64 x.p, .int .i64 x.e, .int .i64 x.t, .int .i64 x.f, .int .i64 x.k] 68) ho)
        clear h1 ho
        go_wp2_with fail
        go_roundw
        case rel => exact ⟨k + 1, by omega, by go_num, by rw [htk.out]; exact hT.out, below_alloc hF _⟩
        case measure => first | (simp [intOf]; done) | (simp [intOf]; omega)
      replace h4 : x.f < b := Decidable.of_not_not h4
      have hab : RowKit.Hid (abS a b (Sk ++ [x]) = abS a b Sk ++ [x]) := Lib.hid (by rw [abS_snoc, if_pos (by simp [abTest, h1'', h4]; omega)])
      clear h1
      have hnw := spn_new (wr.alloc (.cells #[.int .i64 x.p, .int .i64 x.e, .int .i64 x.t, .int .i64 x.f, .int .i64 x.k] 68)) 68 x
      rw [World.size_alloc] at hnw
      go_wp2_with (at_builtin; refine wpList_append_own _ rfl _ _ _ rfl w.heap.size 68 i0 (.agg #[.int .i64 0, .int .i64 0, .int .i64 0, .int .i64 0, .int .i64 0]) 5 40 Try.underlying42 hi0 hz0 hz1 hz2 rfl (by decide) _ _ _ (by rfl) ((ho.alloc _).alloc _) ⟨wr.heap.size + 1, 0, none⟩ 1 1 (spnCells [x]) (by rfl) rfl hnw (spn_oneCell _) (by unfold maxLen; omega) (by omega) (by simp; omega) ?_)
      intro v' w6 hown' hgrow _
      obtain ⟨g', cap', rfl⟩ := ownsRow_succ hown'
      rw [← spnCells_append] at hown'
      have hB6 : RowKit.Hid (Below w.heap.size w w6) := Lib.hid ((below_alloc (below_alloc hF _) _).grown hgrow (by simp; omega) (fun j e => (ho.lt j e).1))
      have hO6 := Lib.hid hown'
      clear hnw hown' hgrow ho hF c0 c1 c2 c3 c4 y1
      go_wp2_with fail
      go_roundw
      case rel => exact ⟨k + 1, by omega, by go_num, by rw [htk.out, hab.out, List.length_append]; exact hO6.out, hB6.out⟩
      case measure => first | (simp [intOf]; done) | (simp [intOf]; omega)
    · have hT : RowKit.Hid (abS a b (S.take k) = abS a b S) := Lib.hid (by rw [List.take_of_length_le (by omega)])
      have hfin : SpnsAt wr (.slice ao (abS a b (S.take k)).length co) (abS a b S) := by
        rw [← hT.out]; exact spns_of_owns ho
      have hfin' := Lib.hid hfin
      clear hfin ho
      go_wp2_with fail
      go_ret
      exact RetP.mk hfin'.out hF


end Go.Proofs.Ytjjlbancofkinaa
