/-
  told (of law 12): so many at most of what is handed over.
-/
import Derived.Test.YtjjlbancofkinaaFeedO
import Derived.Test.YtjjlbancofkinaaTold12
import Derived.Test.YtjjlbancofkinaaPlogInv
namespace Go.Proofs.Ytjjlbancofkinaa
open Go.RowKit
attribute [local go_sem] Oper.semAt_some

/-- What is handed over one by one: the rows of T, each with its own bytes, none of them the round's. -/
def PxO (T : List PL.Rec) (k : Nat) (x : PL.Rec × Value) (O : Nat → Prop) (A : World) : Prop := T[k]? = some x.1 ∧ BytesAt A x.2 x.1.v ∧ ∀ b, Value.blk x.2 = some b → ¬ O b

def ToldO (w : World) (T : List PL.Rec) (most : Int) (s : List (PL.Rec × Value) × (Nat → Prop)) (W : World) : Prop :=
  Boxed W w.heap.size 3 (.int .i64 most) ∧
    (∃ v, Boxed W (w.heap.size + 1) 35 v ∧ W.ownsRow w.heap.size 32 5 v s.1.length (recCells s.1) ∧ s.2 = fun b => b = w.heap.size + 1 ∨ v.ownBlock = some b) ∧
    (∀ (k : Nat) x, s.1[k]? = some x → T[k]? = some x.1 ∧ BytesAt W x.2 x.1.v ∧ ∀ b, Value.blk x.2 = some b → ¬ s.2 b) ∧ Below w.heap.size w W ∧ (s.1.length : Int) < most
def ToldOx (w : World) (T : List PL.Rec) (most : Int) : Code → World → Prop
  | .exit 0, W => ∃ (L : List (PL.Rec × Value)) (v : Value), Boxed W (w.heap.size + 1) 35 v ∧ W.ownsRow w.heap.size 32 5 v L.length (recCells L) ∧
      (∀ (k : Nat) x, L[k]? = some x → T[k]? = some x.1 ∧ BytesAt W x.2 x.1.v) ∧ Below w.heap.size w W ∧ (L.length : Int) = most
  | _, _ => False

theorem told_map {T : List PL.Rec} {L : List (PL.Rec × Value)} (h : ∀ (k : Nat) x, L[k]? = some x → T[k]? = some x.1) : L.map (·.1) = T.take L.length := by
  apply List.ext_getElem?
  intro k
  rw [List.getElem?_map, List.getElem?_take]
  cases hk : L[k]? with
  | none =>
    have := List.getElem?_eq_none_iff.1 hk
    rw [if_neg (by omega)]; rfl
  | some x =>
    have := (List.getElem?_eq_some_iff.1 hk).1
    rw [if_pos this, h k x hk]; rfl

set_option maxRecDepth 100000 in
theorem told12_none (w : World) (lb : Array Value) (most : Int) (hm : most ≤ 0) :
    Calls Try.prog 40 #[.func (.func 63) #[] lb, .int .i64 most] w (RetP (fun v w' => RecsAt w' v []) w) := by
  have hq : ∀ w : World, (binOp .eql 73 (.func (.func 63) #[] lb) .nilFunc).run Try.prog w = .ok (.bool false) w := fun w => by
    first | rfl | kernel_rfl | simp [binOp, go_sem]
  refine (callsIn_wide (n := 6)).1 ?_
  refine callsIn_of_wp_marks Try.func40 rfl trivial ?_ rfl
  simp only [Try.ntmps40, List.size_toArray, List.length_cons, List.length_nil, Nat.reduceAdd, Nat.reduceSub, Array.replicate_succ, Array.replicate_zero, List.push_toArray, List.append_toArray, List.nil_append, List.cons_append]
  gi_wp2
  have hB0 : Below w.heap.size w ((w.alloc (.cells #[.int .i64 most] 3)).alloc (.cells #[.slice none 0 0] 35)) := below_alloc (below_alloc (below_refl w) _) _
  exact ⟨_, results_tmp rfl _ _ _, RetP.mk ⟨none, 0, rfl, Nat.le_refl _, by omega, fun i r h => by simp at h⟩ hB0⟩

set_option maxRecDepth 100000 in
set_option maxHeartbeats 4000000 in
theorem told12_any (w : World) (lb : Array Value) (T : List PL.Rec) (most : Int) (hm : 0 < most) (hf : FeedsO 5 Try.prog 63 lb (fun x : PL.Rec × Value => #[recV x.1 x.2]) (PxO T) T.length w) (hT : T.length ≤ 128) :
    Calls Try.prog 40 #[.func (.func 63) #[] lb, .int .i64 most] w (RetP (fun v w' => RecsAt w' v (T.take most.toNat)) w) := by
  have hq : ∀ w : World, (binOp .eql 73 (.func (.func 63) #[] lb) .nilFunc).run Try.prog w = .ok (.bool false) w := fun w => by
    first | rfl | kernel_rfl | simp [binOp, go_sem]
  obtain ⟨j0, hj0, hy0, hy1, hy2⟩ := info_parts Try.infoRec
  refine (callsIn_wide (n := 6)).1 ?_
  refine callsIn_of_wp_marks Try.func40 rfl trivial ?_ rfl
  simp only [Try.ntmps40, List.size_toArray, List.length_cons, List.length_nil, Nat.reduceAdd, Nat.reduceSub, Array.replicate_succ, Array.replicate_zero, List.push_toArray, List.append_toArray, List.nil_append, List.cons_append]
  gi_wp2
  have hB0 : Below w.heap.size w ((w.alloc (.cells #[.int .i64 most] 3)).alloc (.cells #[.slice none 0 0] 35)) := below_alloc (below_alloc (below_refl w) _) _
  have b1 : Boxed ((w.alloc (.cells #[.int .i64 most] 3)).alloc (.cells #[.slice none 0 0] 35)) w.heap.size 3 (.int .i64 most) := (Boxed.new w _ _).alloc _
  have b2 : Boxed ((w.alloc (.cells #[.int .i64 most] 3)).alloc (.cells #[.slice none 0 0] 35)) (w.heap.size + 1) 35 (.slice none 0 0) := by
    have := Boxed.new (w.alloc (.cells #[.int .i64 most] 3)) 35 (.slice none 0 0)
    rw [World.size_alloc] at this
    exact this
  have hsz : ((w.alloc (.cells #[.int .i64 most] 3)).alloc (.cells #[.slice none 0 0] 35)).heap.size = w.heap.size + 2 := by simp
  generalize ((w.alloc (.cells #[.int .i64 most] 3)).alloc (.cells #[.slice none 0 0] 35)) = W0 at *
  have hf0 : FeedsO 5 Try.prog 63 lb (fun x : PL.Rec × Value => #[recV x.1 x.2]) (PxO T) T.length W0 := fun l J Jx W O hW => hf l J Jx W O (below_step hB0 hW)
  refine wpIn_feedO (gf := 63) (lb := lb) rfl (enters_of Try.func63 (by kernel_rfl) rfl) hf0 (fun _ => rfl)
    (ToldO w T most) (ToldOx w T most) (fun b => b = w.heap.size + 1 ∨ (Value.slice none 0 0).ownBlock = some b) ?own ?ownx ?ob ⟨b1, ⟨_, b2, World.ownsRow_nil _ _ _ _, rfl⟩, (fun k x hx => by simp at hx), hB0, by simpa using hm⟩ ?round ?done ?stop
  case own =>
    rintro ⟨L, O⟩ A A' row ⟨h1, ⟨v, h2, h3, h4⟩, h5, h6, h7⟩ hg hr
    have hr' := fun r e => (hr r e).2
    obtain ⟨v', h2', h3', h4'⟩ := holdsRow_own w.heap.size _ _ 32 5 (fun L : List (PL.Rec × Value) => L.length) (fun L => recCells L) (fun _ u => u = v) L A A' row ⟨v, h2, h3, rfl⟩ hg hr'
    subst h4'
    exact ⟨boxed_keep h1 hg hr', ⟨_, h2', h3', h4⟩, fun k x hx => ⟨(h5 k x hx).1, (h5 k x hx).2.1.kept hg hr', (h5 k x hx).2.2⟩, ownFrom_below (Nat.le_refl _) (by omega) L A A' row h6 hg hr, h7⟩
  case ownx =>
    rintro c A A' row h hg hr
    have hr' := fun r e => (hr r e).2
    match c, h with
    | .exit 0, ⟨L, v, h2, h3, h5, h6, h7⟩ =>
      obtain ⟨v', h2', h3', h4'⟩ := holdsRow_own w.heap.size _ _ 32 5 (fun L : List (PL.Rec × Value) => L.length) (fun L => recCells L) (fun _ u => u = v) L A A' row ⟨v, h2, h3, rfl⟩ hg hr'
      subst h4'
      exact ⟨L, _, h2', h3', fun k x hx => ⟨(h5 k x hx).1, (h5 k x hx).2.kept hg hr'⟩, ownFrom_below (Nat.le_refl _) (by omega) L A A' row h6 hg hr, h7⟩
  case ob =>
    rintro ⟨L, O⟩ W ⟨h1, ⟨v, h2, h3, h4⟩, -⟩ b hb
    dsimp only at h3 h4 hb
    rw [h4] at hb
    rcases hb with rfl | hb
    · exact h2.lt
    · exact (h3.lt b hb).2
  case round =>
    rintro l L x O W o ⟨h1, ⟨v, hv, ho, hOO⟩, h5, h6, hlm⟩ hlen hpx hl hlo hoc
    dsimp only at hOO ho h5 hlm
    subst hOO
    obtain ⟨⟨xp, xe, xt, xq, xv⟩, u⟩ := x
    obtain ⟨e2, e3, e4⟩ := hpx
    dsimp only at e2 e3 e4
    have e2' := Lib.hid e2
    have e3' := e3
    obtain ⟨pu, cu, rfl, -, -, -⟩ := e3'
    obtain ⟨av, cvs, rfl, hs1, hs2, hs3, hs4⟩ := owns_form ho
    dsimp only [recV]
    have hltW := hv.lt
    have hn1 : ¬ W.heap.size = w.heap.size := by have := h1.lt; omega
    have hn2 : ¬ w.heap.size = W.heap.size := fun e => hn1 e.symm
    have hn3 : ¬ W.heap.size = w.heap.size + 1 := by omega
    have hn4 : ¬ w.heap.size + 1 = W.heap.size := by omega
    gi_wp2
    refine ⟨(KeepsOthers.alloc _ _).from _, fun o' => ?_⟩
    have hl2 : (W.alloc (.cells #[.int .i64 xp, .int .i64 xe, .int .i64 xt, .int .i64 xq, .slice pu xv.length cu] 32)).heap[l]? = some o := (Below.heap_alloc _ _ _ (Array.getElem?_eq_some_iff.1 hlo).1).trans hlo
    have hg2 := grownBy_putObj' (W.alloc (.cells #[.int .i64 xp, .int .i64 xe, .int .i64 xt, .int .i64 xq, .slice pu xv.length cu] 32)) l o'
    have hr2 : ∀ r, some l = some r → ∃ o : Obj, (W.alloc (.cells #[.int .i64 xp, .int .i64 xe, .int .i64 xt, .int .i64 xq, .slice pu xv.length cu] 32)).heap[r]? = some o ∧ o.isCells = false := fun r e => by cases e; exact ⟨o, hl2, hoc⟩
    have hg1 : W.grownBy (W.alloc (.cells #[.int .i64 xp, .int .i64 xe, .int .i64 xt, .int .i64 xq, .slice pu xv.length cu] 32)) none := World.grownBy_alloc W _ none
    have hr1 : ∀ r, (none : Option Nat) = some r → ∃ o : Obj, W.heap[r]? = some o ∧ o.isCells = false := fun r e => by cases e
    have hlW : l < W.heap.size := (Array.getElem?_eq_some_iff.1 hlo).1
    have hFl : Fr (fun b => b = l) W ((W.alloc (.cells #[.int .i64 xp, .int .i64 xe, .int .i64 xt, .int .i64 xq, .slice pu xv.length cu] 32)).putObj l o') :=
      ((Fr.refl _ W).alloc _).grown hg2 (fun k e => by cases e; exact .inl rfl)
    have hLv : ∀ (k : Nat) y, L[k]? = some y → BytesAt ((W.alloc (.cells #[.int .i64 xp, .int .i64 xe, .int .i64 xt, .int .i64 xq, .slice pu xv.length cu] 32)).putObj l o') y.2 y.1.v := fun k y hy => ((h5 k y hy).2.1.kept hg1 hr1).kept hg2 hr2
    have hxv := (e3.kept hg1 hr1).kept hg2 hr2
    have H5 := Lib.hid h5
    have hrowW : ∀ b, (Value.slice av L.length cvs).ownBlock = some b → b < W.heap.size := fun b e => (ho.lt b e).2
    have HrowW := Lib.hid hrowW
    clear hrowW
    replace h1 := boxed_keep (boxed_keep h1 hg1 hr1) hg2 hr2
    replace hv := boxed_keep (boxed_keep hv hg1 hr1) hg2 hr2
    replace ho := ownsRow_putObj (ho.alloc (.cells #[.int .i64 xp, .int .i64 xe, .int .i64 xt, .int .i64 xq, .slice pu xv.length cu] 32)) o' hl2 hoc
    have hd := (recAt_new W 32 ⟨xp, xe, xt, xq, xv⟩ (.slice pu xv.length cu)).same (World.putObj_heap_other (w := W.alloc (.cells #[.int .i64 xp, .int .i64 xe, .int .i64 xt, .int .i64 xq, .slice pu xv.length cu] 32)) (r := l) (k := W.heap.size) (o := o') (by omega))
    have hbW : Below w.heap.size W ((W.alloc (.cells #[.int .i64 xp, .int .i64 xe, .int .i64 xt, .int .i64 xq, .slice pu xv.length cu] 32)).putObj l o') := ((Below.refl _ W).alloc h6.size _).grown hg2 (by have := h6.size; simp; omega) (fun k e => by cases e; omega)
    have hsW : w.heap.size ≤ W.heap.size := h6.size
    have HLv := Lib.hid hLv
    have Hxv := Lib.hid hxv
    have He4 := Lib.hid e4
    have HFl := Lib.hid hFl
    clear hl2 hg2 hr2 hg1 hr1 hlo hoc hs3 hs4 hLv hxv e3 e4 e2 h5 hFl
    generalize (W.alloc (.cells #[.int .i64 xp, .int .i64 xe, .int .i64 xt, .int .i64 xq, .slice pu xv.length cu] 32)).putObj l o' = W2 at *
    obtain ⟨d0, d1, d2, d3, d4⟩ := hd
    have c1 := h1.cell
    have c4 := hv.cell
    have hLl : L.length < 128 := by omega
    have hLl2 : L.length < T.length := hlen
    have hnr1 := h1.not_row (by decide : (3 : Nat) ≠ 32) ho
    have hsW2 : w.heap.size ≤ W2.heap.size := Nat.le_trans hsW hbW.size
    have fin : ∀ (w1 : World) (g' cap' : Nat), w1.ownsRow w.heap.size 32 5 (.slice (some ⟨g', 0, none⟩) (L.length + 1) cap') (L.length + 1) (recCells (L ++ [((⟨xp, xe, xt, xq, xv⟩ : PL.Rec), Value.slice pu xv.length cu)])) →
        (W2.alloc (.cells #[.int .i64 xp, .int .i64 xe, .int .i64 xt, .int .i64 xq, .slice pu xv.length cu] 32)).grownBy w1 (Value.slice av L.length cvs).ownBlock →
        ((Value.slice (some ⟨g', 0, none⟩) (L.length + 1) cap').ownBlock = (Value.slice av L.length cvs).ownBlock ∨ (Value.slice (some ⟨g', 0, none⟩) (L.length + 1) cap').ownBlock = some (W2.heap.size + 1)) →
        (∀ (k : Nat) y, (L ++ [((⟨xp, xe, xt, xq, xv⟩ : PL.Rec), Value.slice pu xv.length cu)])[k]? = some y → T[k]? = some y.1 ∧ BytesAt (w1.setCell ⟨w.heap.size + 1, 0, none⟩ (.slice (some ⟨g', 0, none⟩) (L.length + 1) cap')) y.2 y.1.v ∧ ∀ b, Value.blk y.2 = some b → ¬ (b = w.heap.size + 1 ∨ (Value.slice (some ⟨g', 0, none⟩) (L.length + 1) cap').ownBlock = some b)) ∧
        Fr (fun b => (b = w.heap.size + 1 ∨ (Value.slice av L.length cvs).ownBlock = some b) ∨ b = l) W (w1.setCell ⟨w.heap.size + 1, 0, none⟩ (.slice (some ⟨g', 0, none⟩) (L.length + 1) cap')) ∧
        (∀ b, (b = w.heap.size + 1 ∨ (Value.slice (some ⟨g', 0, none⟩) (L.length + 1) cap').ownBlock = some b) → (b = w.heap.size + 1 ∨ (Value.slice av L.length cvs).ownBlock = some b) ∨ W.heap.size ≤ b) := by
      intro w1 g' cap' hown' hgrow hloc
      have hgs := grownBy_setCell' w1 (w.heap.size + 1) (.slice (some ⟨g', 0, none⟩) (L.length + 1) cap')
      have hga := World.grownBy_alloc W2 (.cells #[.int .i64 xp, .int .i64 xe, .int .i64 xt, .int .i64 xq, .slice pu xv.length cu] 32) none
      have keep : ∀ b, b < W2.heap.size → b ≠ w.heap.size + 1 → (Value.slice av L.length cvs).ownBlock ≠ some b → (w1.setCell ⟨w.heap.size + 1, 0, none⟩ (.slice (some ⟨g', 0, none⟩) (L.length + 1) cap')).heap[b]? = W2.heap[b]? := fun b hb hn hr =>
        (hgs.block b (by have := hgrow.size; simp at this; omega) (fun e => hn (by cases e; rfl))).trans ((hgrow.block b (by simp; omega) (fun e => hr e.symm)).trans (hga.block b hb (by simp)))
      have hval : ∀ (u : Value) (bs : List UInt8), BytesAt W2 u bs → (∀ b, Value.blk u = some b → ¬ (b = w.heap.size + 1 ∨ (Value.slice av L.length cvs).ownBlock = some b)) → BytesAt (w1.setCell ⟨w.heap.size + 1, 0, none⟩ (.slice (some ⟨g', 0, none⟩) (L.length + 1) cap')) u bs ∧ ∀ b, Value.blk u = some b → ¬ (b = w.heap.size + 1 ∨ (Value.slice (some ⟨g', 0, none⟩) (L.length + 1) cap').ownBlock = some b) := fun u bs hu hno =>
        ⟨hu.same fun b e => keep b (hu.lt e) (fun e' => hno b e (.inl e')) (fun e' => hno b e (.inr e')), fun b e hh => by
          rcases hh with h | h
          · exact hno b e (.inl h)
          · rcases hloc with hl | hl
            · exact hno b e (.inr (hl ▸ h))
            · rw [hl] at h; cases h; have := hu.lt e; omega⟩
      refine ⟨fun k y hy => ?_, ?_, fun b hb => ?_⟩
      · rcases PL.getElem?_snoc hy with hy | ⟨rfl, rfl⟩
        · exact ⟨(H5.out k y hy).1, hval _ _ (HLv.out k y hy) (H5.out k y hy).2.2⟩
        · exact ⟨e2'.out, hval _ _ Hxv.out (fun b e => fun h => He4.out b e (.inl h))⟩
      · refine Fr.setCell ((((HFl.out).mono (fun k _ h => .inr h)).alloc _).grown hgrow (fun k e => .inl (.inl (.inr e)))) (.inl (.inl (.inl rfl))) _
      · rcases hb with h | h
        · exact .inl (.inl h)
        · rcases hloc with hl | hl
          · exact .inl (.inr (hl ▸ h))
          · rw [hl] at h; cases h; exact .inr (by have := hbW.size; omega)
    have Fin := Lib.hid fin
    clear fin
    by_cases hmo : most ≤ (L.length : Int) + 1
    · gi_wp2_with (gi_at_builtin; refine wpListIn_append_own_at _ rfl _ _ 35 rfl w.heap.size 32 j0 (.agg #[.int .i64 0, .int .i64 0, .int .i64 0, .int .i64 0, .slice none 0 0]) 5 56 Try.underlying35 hj0 hy0 hy1 hy2 rfl (by decide) _ _ _ rfl (ho.alloc _) ⟨W2.heap.size, 0, none⟩ 1 1 (recCells [(⟨xp, xe, xt, xq, xv⟩, .slice pu xv.length cu)]) rfl rfl (rec_new W2 32 ⟨xp, xe, xt, xq, xv⟩ _) (rec_oneCell _ _ _ _) (by unfold maxLen; omega) (by omega) (by have := hbW.size; simp; omega) ?_; intro v' w1 hown' hgrow _ hloc; have hrr2' := hown'; rw [World.size_alloc] at hloc; replace hloc : v'.ownBlock = (Value.slice av L.length cvs).ownBlock ∨ v'.ownBlock = some (W2.heap.size + 1) := hloc; obtain ⟨g', cap', rfl⟩ := ownsRow_succ hown'; obtain ⟨hv1, hv2, hrr2, hk2, hb2⟩ := hv.appended (by decide) ho hsW2 (show w.heap.size ≤ w.heap.size + 1 by omega) hown' hgrow; have hc1 := hv1.cell; have hf1 := hv1.frozen; have hb1 := ((h1.alloc _).kept hgrow hnr1).cell)
      obtain ⟨f1, f2, f3⟩ := Fin.out w1 g' cap' (by rw [recCells_append]; exact hrr2') hgrow hloc
      refine ⟨hk2.from _, L ++ [_], _, hv2, ?_, fun k y hy => ⟨(f1 k y hy).1, (f1 k y hy).2.1⟩, h6.trans (hbW.trans hb2), ?_⟩
      · rw [recCells_append, List.length_append, List.length_singleton]
        exact hrr2
      · simp; omega
    · gi_wp2_with (gi_at_builtin; refine wpListIn_append_own_at _ rfl _ _ 35 rfl w.heap.size 32 j0 (.agg #[.int .i64 0, .int .i64 0, .int .i64 0, .int .i64 0, .slice none 0 0]) 5 56 Try.underlying35 hj0 hy0 hy1 hy2 rfl (by decide) _ _ _ rfl (ho.alloc _) ⟨W2.heap.size, 0, none⟩ 1 1 (recCells [(⟨xp, xe, xt, xq, xv⟩, .slice pu xv.length cu)]) rfl rfl (rec_new W2 32 ⟨xp, xe, xt, xq, xv⟩ _) (rec_oneCell _ _ _ _) (by unfold maxLen; omega) (by omega) (by have := hbW.size; simp; omega) ?_; intro v' w1 hown' hgrow _ hloc; have hrr2' := hown'; rw [World.size_alloc] at hloc; replace hloc : v'.ownBlock = (Value.slice av L.length cvs).ownBlock ∨ v'.ownBlock = some (W2.heap.size + 1) := hloc; obtain ⟨g', cap', rfl⟩ := ownsRow_succ hown'; obtain ⟨hv1, hv2, hrr2, hk2, hb2⟩ := hv.appended (by decide) ho hsW2 (show w.heap.size ≤ w.heap.size + 1 by omega) hown' hgrow; have hc1 := hv1.cell; have hf1 := hv1.frozen; have hb1 := ((h1.alloc _).kept hgrow hnr1).cell)
      obtain ⟨f1, f2, f3⟩ := Fin.out w1 g' cap' (by rw [recCells_append]; exact hrr2') hgrow hloc
      refine ⟨hk2.from _, (fun b => b = w.heap.size + 1 ∨ (Value.slice (some ⟨g', 0, none⟩) (L.length + 1) cap').ownBlock = some b), ⟨((h1.alloc _).kept hgrow hnr1).other (by omega) _, ⟨_, hv2, ?_, rfl⟩, f1, h6.trans (hbW.trans hb2), ?_⟩, f2, f3⟩
      · dsimp only; rw [recCells_append, List.length_append, List.length_singleton]
        exact hrr2
      · simp; omega
  case done =>
    rintro D xs O W hD hLN ⟨h1, ⟨v, hv, ho, hOO⟩, h5, h6, hlm⟩ hK
    dsimp only at hOO ho h5 hlm
    obtain ⟨av, cvs, rfl, hs1, hs2, hs3, hs4⟩ := owns_form ho
    have c4 := hv.cell
    gi_wp2
    refine ⟨by simp, .inl ⟨_, _, rfl, run_takeDeferred hK, ?_⟩⟩
    refine ⟨_, results_tmp rfl _ _ _, RetP.mk ?_ (h6.grown (grownBy_putObj' _ D _) h6.size (fun k e => by cases e; omega))⟩
    have hR := recs_of_owns (ownsRow_putObj ho (.deferred none) hK rfl) (fun x hx => by
      obtain ⟨k, hk, hy⟩ := List.mem_iff_getElem.1 hx
      exact (h5 k x (by rw [← hy]; exact List.getElem?_eq_getElem hk)).2.1.kept (grownBy_putObj' W D (.deferred none)) (fun r e => by cases e; exact ⟨_, hK, rfl⟩))
    rw [told_map fun k x hx => (h5 k x hx).1, hLN, List.take_length] at hR
    rwa [List.take_of_length_le (by omega)]
  case stop =>
    rintro D c W hD h hK
    match c, h with
    | .exit 0, ⟨L, v, hv, ho, h5, h6, hlm⟩ =>
      obtain ⟨av, cvs, rfl, hs1, hs2, hs3, hs4⟩ := owns_form ho
      have c4 := hv.cell
      gi_wp2
      refine ⟨by simp, .inl ⟨_, _, rfl, run_takeDeferred hK, ?_⟩⟩
      refine ⟨_, results_tmp rfl _ _ _, RetP.mk ?_ (h6.grown (grownBy_putObj' _ D _) h6.size (fun k e => by cases e; omega))⟩
      have hR := recs_of_owns (ownsRow_putObj ho (.deferred none) hK rfl) (fun x hx => by
        obtain ⟨k, hk, hy⟩ := List.mem_iff_getElem.1 hx
        exact (h5 k x (by rw [← hy]; exact List.getElem?_eq_getElem hk)).2.kept (grownBy_putObj' W D (.deferred none)) (fun r e => by cases e; exact ⟨_, hK, rfl⟩))
      rw [told_map fun k x hx => (h5 k x hx).1] at hR
      rwa [show most.toNat = L.length by omega]

end Go.Proofs.Ytjjlbancofkinaa
