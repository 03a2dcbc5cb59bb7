/-
  told (of law 11): all that an iterator hands over, in a row.
-/
import Derived.Test.YtjjlbancofkinaaPlogI
namespace Go.Proofs.Ytjjlbancofkinaa
open Go.RowKit
attribute [local go_sem] Oper.semAt_some

theorem boxed_keep {W W' : World} {row : Option Nat} {B : Nat} {t : TypeId} {v : Value} (h : Boxed W B t v) (hg : W.grownBy W' row) (hr : ∀ r, row = some r → ∃ o : Obj, W.heap[r]? = some o ∧ o.isCells = false) : Boxed W' B t v :=
  boxed_own B t (fun _ : Unit => v) () W W' row h hg hr

def ToldI (w : World) (s : PL.St) (m n₀ : Nat) (L : List Handed) (W : World) : Prop :=
  Boxed W w.heap.size 3 (.int .i64 m) ∧ Boxed W (w.heap.size + 1) 35 (.slice none 0 0) ∧ Boxed W (w.heap.size + 1 + 1) 4 (.bool false) ∧
      (∃ v, Boxed W (w.heap.size + 1 + 1 + 1) 35 v ∧ W.ownsRow w.heap.size 32 5 v L.length (recCells (L.map (·.2))) ∧ True) ∧
      (∀ k x, L[k]? = some x → Handed.ok s m n₀ k x W) ∧ Below w.heap.size w W

theorem recsFrom_of_owns {w : World} {base B : Nat} {v : Value} {L : List (PL.Rec × Value)} (h : w.ownsRow base 32 5 v L.length (recCells L)) (hB : B ≤ base) (hb : ∀ x ∈ L, BytesAt w x.2 x.1.v ∧ ∀ d, Value.blk x.2 = some d → B ≤ d) : RecsFrom B w v (L.map (·.1)) := by
  obtain ⟨a, c, hv, h1, h2, h3, h4⟩ := owns_form h
  refine ⟨a, c, by simpa using hv, by simpa using h1, h2, fun b e => Nat.le_trans hB (h.lt b e).1, fun i x hx => ?_⟩
  rw [List.getElem?_map] at hx
  cases hL : L[i]? with
  | none => simp [hL] at hx
  | some y =>
    simp [hL] at hx
    subst hx
    have hi : i < L.length := (List.getElem?_eq_some_iff.1 hL).1
    obtain ⟨z, hz⟩ := Option.ne_none_iff_exists'.1 (h4 (by omega))
    obtain ⟨g, rfl, hg⟩ := h3 z hz
    exact ⟨g, 0, y.2, hz, Nat.le_trans hB (h.lt g hg).1, by rw [Nat.zero_add]; exact rec_of_owns h hg hL, (hb y (List.mem_of_getElem? hL)).1, (hb y (List.mem_of_getElem? hL)).2⟩

theorem lv_recs {w : World} {b : Nat} {v : Value} (h : Boxed w b 35 v) : (loadVar 35 ⟨b, 0, none⟩).run Try.prog w = .ok v w := by
  have hc := h.cell
  simp [loadVar, go_sem, hc]
theorem lv_bool {w : World} {b : Nat} {v : Value} (h : Boxed w b 4 v) : (loadVar 4 ⟨b, 0, none⟩).run Try.prog w = .ok v w := by
  have hc := h.cell
  simp [loadVar, go_sem, hc]

theorem results_cells2 {fn : Func} {p q : Tmp} {t u : TypeId} (h : fn.results = #[.cell p t, .cell q u]) (tmps : Array Value) (P : Program) (w : World) {a b : Addr} {v x : Value}
    (hp : tmps.getD p undef = .pointer (some a)) (hq : tmps.getD q undef = .pointer (some b)) (hv : (loadVar t a).run P w = .ok v w) (hx : (loadVar u b).run P w = .ok x w) :
    (results fn tmps).run P w = .ok (.tuple #[v, x]) w := by
  have hp' : tmps[p]?.getD undef = .pointer (some a) := by simpa using hp
  have hq' : tmps[q]?.getD undef = .pointer (some b) := by simpa using hq
  simp [results, h, hp', hq', asAddr, Sem.run_bind, Result.andThen, hv, hx]

set_option maxRecDepth 100000 in
set_option maxHeartbeats 2000000 in
theorem told11_any (w : World) (lb : Array Value) (s : PL.St) (m n₀ kb N : Nat) (hf : Feeds 5 Try.prog 47 lb Handed.enc (Handed.ok s m n₀) n₀ kb N w) (hkb : kb < w.heap.size) (hn₀ : n₀ ≤ w.heap.size) (hN : N ≤ 128) (hm : m ≤ 1099511627776) :
    Calls Try.prog 18 #[.func (.func 47) #[] lb, .int .i64 m] w fun e w' =>
      ∃ v, e = .returned (.tuple #[v, .bool true]) ∧ (∃ L : List Handed, L.length = N ∧ RecsFrom n₀ w' v (L.map (·.2.1)) ∧ ∀ k x, L[k]? = some x → s.R[m + k]? = some x.2.1) ∧ Below w.heap.size w w' := by
  have hq : ∀ w : World, (binOp .eql 39 (.func (.func 47) #[] lb) .nilFunc).run Try.prog w = .ok (.bool false) w := fun w => by
    first | rfl | kernel_rfl | simp [binOp, go_sem]
  obtain ⟨j0, hj0, hy0, hy1, hy2⟩ := info_parts Try.infoRec
  refine (callsIn_wide (n := 6)).1 ?_
  refine callsIn_of_wp_marks Try.func18 rfl trivial ?_ rfl
  simp only [Try.ntmps18, List.size_toArray, List.length_cons, List.length_nil, Nat.reduceAdd, Nat.reduceSub, Array.replicate_succ, Array.replicate_zero, List.push_toArray, List.append_toArray, List.nil_append, List.cons_append]
  gi_wp2
  have hB0 : Below w.heap.size w ((((w.alloc (.cells #[.int .i64 m] 3)).alloc (.cells #[.slice none 0 0] 35)).alloc (.cells #[.bool false] 4)).alloc (.cells #[.slice none 0 0] 35)) :=
    below_alloc (below_alloc (below_alloc (below_alloc (below_refl w) _) _) _) _
  have b1 : Boxed ((((w.alloc (.cells #[.int .i64 m] 3)).alloc (.cells #[.slice none 0 0] 35)).alloc (.cells #[.bool false] 4)).alloc (.cells #[.slice none 0 0] 35)) w.heap.size 3 (.int .i64 m) := (((Boxed.new w _ _).alloc _).alloc _).alloc _
  have b2 : Boxed ((((w.alloc (.cells #[.int .i64 m] 3)).alloc (.cells #[.slice none 0 0] 35)).alloc (.cells #[.bool false] 4)).alloc (.cells #[.slice none 0 0] 35)) (w.heap.size + 1) 35 (.slice none 0 0) := by
    have := ((Boxed.new (w.alloc (.cells #[.int .i64 m] 3)) 35 (.slice none 0 0)).alloc (.cells #[.bool false] 4)).alloc (.cells #[.slice none 0 0] 35)
    simpa using this
  have b3 : Boxed ((((w.alloc (.cells #[.int .i64 m] 3)).alloc (.cells #[.slice none 0 0] 35)).alloc (.cells #[.bool false] 4)).alloc (.cells #[.slice none 0 0] 35)) (w.heap.size + 1 + 1) 4 (.bool false) := by
    have := (Boxed.new ((w.alloc (.cells #[.int .i64 m] 3)).alloc (.cells #[.slice none 0 0] 35)) 4 (.bool false)).alloc (.cells #[.slice none 0 0] 35)
    simpa using this
  have b4 : Boxed ((((w.alloc (.cells #[.int .i64 m] 3)).alloc (.cells #[.slice none 0 0] 35)).alloc (.cells #[.bool false] 4)).alloc (.cells #[.slice none 0 0] 35)) (w.heap.size + 1 + 1 + 1) 35 (.slice none 0 0) := by
    have := Boxed.new (((w.alloc (.cells #[.int .i64 m] 3)).alloc (.cells #[.slice none 0 0] 35)).alloc (.cells #[.bool false] 4)) 35 (.slice none 0 0)
    simpa using this
  have hsz : ((((w.alloc (.cells #[.int .i64 m] 3)).alloc (.cells #[.slice none 0 0] 35)).alloc (.cells #[.bool false] 4)).alloc (.cells #[.slice none 0 0] 35)).heap.size = w.heap.size + 4 := by simp
  generalize ((((w.alloc (.cells #[.int .i64 m] 3)).alloc (.cells #[.slice none 0 0] 35)).alloc (.cells #[.bool false] 4)).alloc (.cells #[.slice none 0 0] 35)) = W0 at *
  have hf0 := hf.grow hB0
  refine wpIn_feed (gf := 47) (lb := lb) rfl (enters_of Try.func47 (by kernel_rfl) rfl) hf0 (by omega) (by omega) (fun _ => rfl)
    (ToldI w s m n₀)
    (fun _ _ => False) ?own (fun _ _ _ _ h _ _ => h) ?start ?round ?done ?stop
  case own =>
    rintro L A A' row ⟨h1, h2, h3, h4, h5, h6⟩ hg hr
    have hr' := fun r e => (hr r e).2
    exact ⟨boxed_keep h1 hg hr', boxed_keep h2 hg hr', boxed_keep h3 hg hr',
      holdsRow_own w.heap.size _ _ 32 5 (fun L : List Handed => L.length) (fun L => recCells (L.map (·.2))) (fun _ _ => True) L A A' row h4 hg hr',
      fun k x hx => (h5 k x hx).kept hg hr',
      ownFrom_below (Nat.le_refl _) (by omega) L A A' row h6 hg hr⟩
  case start => exact ⟨b1, b2, b3, ⟨_, b4, World.ownsRow_nil _ _ _ _, trivial⟩, fun k x hx => by simp at hx, hB0⟩
  case round =>
    rintro l L x W o ⟨h1, h2, h3, ⟨v, hv, ho, -⟩, h5, h6⟩ hlen hok hl hlo hoc
    obtain ⟨i, ⟨xp, xe, xt, xq, xv⟩, u⟩ := x
    have hokk := Lib.hid hok
    obtain ⟨e1, e2, e3, e4⟩ := hok
    dsimp only at e1 e2 e3 e4
    have e3' := e3
    obtain ⟨pu, cu, rfl, -, -, -⟩ := e3'
    obtain ⟨av, cvs, rfl, hs1, hs2, hs3, hs4⟩ := owns_form ho
    dsimp only [Handed.enc, recV]
    have e1' := Lib.hid e1
    clear e1
    gi_wp2
    refine ⟨(KeepsOthers.alloc _ _).from _, fun o' => ?_⟩
    have hl2 : (W.alloc (.cells #[.int .i64 xp, .int .i64 xe, .int .i64 xt, .int .i64 xq, .slice pu xv.length cu] 32)).heap[l]? = some o := (Below.heap_alloc _ _ _ (Array.getElem?_eq_some_iff.1 hlo).1).trans hlo
    have hg2 := grownBy_putObj' (W.alloc (.cells #[.int .i64 xp, .int .i64 xe, .int .i64 xt, .int .i64 xq, .slice pu xv.length cu] 32)) l o'
    have hr2 : ∀ r, some l = some r → ∃ o : Obj, (W.alloc (.cells #[.int .i64 xp, .int .i64 xe, .int .i64 xt, .int .i64 xq, .slice pu xv.length cu] 32)).heap[r]? = some o ∧ o.isCells = false := fun r e => by cases e; exact ⟨o, hl2, hoc⟩
    have hg1 : W.grownBy (W.alloc (.cells #[.int .i64 xp, .int .i64 xe, .int .i64 xt, .int .i64 xq, .slice pu xv.length cu] 32)) none := World.grownBy_alloc W _ none
    have hr1 : ∀ r, (none : Option Nat) = some r → ∃ o : Obj, W.heap[r]? = some o ∧ o.isCells = false := fun r e => by cases e
    replace h1 := boxed_keep (boxed_keep h1 hg1 hr1) hg2 hr2
    replace h2 := boxed_keep (boxed_keep h2 hg1 hr1) hg2 hr2
    replace h3 := boxed_keep (boxed_keep h3 hg1 hr1) hg2 hr2
    replace hv := boxed_keep (boxed_keep hv hg1 hr1) hg2 hr2
    replace ho := ownsRow_putObj (ho.alloc (.cells #[.int .i64 xp, .int .i64 xe, .int .i64 xt, .int .i64 xq, .slice pu xv.length cu] 32)) o' hl2 hoc
    replace hokk := Lib.hid ((hokk.out.kept hg1 hr1).kept hg2 hr2)
    clear e3 e4 e2
    replace h5 : ∀ k x, L[k]? = some x → Handed.ok s m n₀ k x _ := fun k x hx => ((h5 k x hx).kept hg1 hr1).kept hg2 hr2
    have hlW : l < W.heap.size := (Array.getElem?_eq_some_iff.1 hlo).1
    have hd := (recAt_new W 32 ⟨xp, xe, xt, xq, xv⟩ (.slice pu xv.length cu)).same (World.putObj_heap_other (w := W.alloc (.cells #[.int .i64 xp, .int .i64 xe, .int .i64 xt, .int .i64 xq, .slice pu xv.length cu] 32)) (r := l) (k := W.heap.size) (o := o') (by omega))
    have hbW : Below w.heap.size W ((W.alloc (.cells #[.int .i64 xp, .int .i64 xe, .int .i64 xt, .int .i64 xq, .slice pu xv.length cu] 32)).putObj l o') := ((Below.refl _ W).alloc h6.size _).grown hg2 (by have := h6.size; simp; omega) (fun k e => by cases e; omega)
    have hsW : w.heap.size ≤ W.heap.size := h6.size
    clear hl2 hg2 hr2 hg1 hr1 hl hlo hoc hs3 hs4
    generalize (W.alloc (.cells #[.int .i64 xp, .int .i64 xe, .int .i64 xt, .int .i64 xq, .slice pu xv.length cu] 32)).putObj l o' = W2 at *
    obtain ⟨d0, d1, d2, d3, d4⟩ := hd
    have c1 := h1.cell
    have c4 := hv.cell
    have hLl : L.length < 128 := by omega
    have e1 : i = (m : Int) + (L.length : Int) := by rw [e1'.out]; simp
    subst e1
    clear e1'
    gi_wp2_with (gi_at_builtin; refine wpListIn_append_own _ rfl _ _ 35 rfl w.heap.size 32 j0 (.agg #[.int .i64 0, .int .i64 0, .int .i64 0, .int .i64 0, .slice none 0 0]) 5 56 Try.underlying35 hj0 hy0 hy1 hy2 rfl (by decide) _ _ _ rfl (ho.alloc _) ⟨W2.heap.size, 0, none⟩ 1 1 (recCells [(⟨xp, xe, xt, xq, xv⟩, .slice pu xv.length cu)]) rfl rfl (rec_new W2 32 ⟨xp, xe, xt, xq, xv⟩ _) (rec_oneCell _ _ _ _) (by unfold maxLen; omega) (by omega) (by have := hbW.size; simp; omega) ?_; intro v' w1 hown' hgrow _; obtain ⟨g', cap', rfl⟩ := ownsRow_succ hown'; obtain ⟨hv1, hv2, hrr2, hk2, hb2⟩ := hv.appended (by decide) ho (show w.heap.size ≤ W2.heap.size from Nat.le_trans hsW hbW.size) (show w.heap.size ≤ w.heap.size + 1 + 1 + 1 by omega) hown' hgrow; have hc1 := hv1.cell; have hf1 := hv1.frozen)
    have hgs := grownBy_setCell' w1 (w.heap.size + 1 + 1 + 1) (.slice (some ⟨g', 0, none⟩) (L.length + 1) cap')
    have hga := World.grownBy_alloc W2 (.cells #[.int .i64 xp, .int .i64 xe, .int .i64 xt, .int .i64 xq, .slice pu xv.length cu] 32) none
    have hrow : ∀ g, (Value.slice av L.length cvs).ownBlock = some g → ∃ cs fr, W2.heap[g]? = some (.cells cs 32 fr) := fun g hg => by obtain ⟨cur, h⟩ := owns_block ho hg; exact ⟨cur, _, h⟩
    have keep : ∀ b, (∃ o, W2.heap[b]? = some o) → (∀ cs fr, W2.heap[b]? ≠ some (.cells cs 32 fr)) → b ≠ w.heap.size + 1 + 1 + 1 → (w1.setCell ⟨w.heap.size + 1 + 1 + 1, 0, none⟩ (.slice (some ⟨g', 0, none⟩) (L.length + 1) cap')).heap[b]? = W2.heap[b]? := fun b hb hn hne => by
      obtain ⟨o, hb⟩ := hb
      have hlt := (Array.getElem?_eq_some_iff.1 hb).1
      refine (hgs.block b (by have := hgrow.size; simp at this; omega) (fun e => hne (by cases e; rfl))).trans ((hgrow.block b (by simp; omega) (fun e => ?_)).trans (hga.block b hlt (by simp)))
      obtain ⟨cs, fr, h⟩ := hrow b e.symm
      exact hn cs fr h
    have keepO : ∀ (k : Nat) (x : Handed), Handed.ok s m n₀ k x W2 → Handed.ok s m n₀ k x (w1.setCell ⟨w.heap.size + 1 + 1 + 1, 0, none⟩ (.slice (some ⟨g', 0, none⟩) (L.length + 1) cap')) := fun k x h => h.same fun b e => by
      obtain ⟨cs, fr, hb⟩ := h.2.2.2.2 b e
      exact keep b ⟨_, hb⟩ (fun cs' fr' h' => by rw [hb] at h'; cases h') (h.2.2.2.2.ne e hv (by decide))
    have keepB : ∀ (B : Nat) (t : TypeId) (v : Value), Boxed W2 B t v → t ≠ 32 → B ≠ w.heap.size + 1 + 1 + 1 → Boxed (w1.setCell ⟨w.heap.size + 1 + 1 + 1, 0, none⟩ (.slice (some ⟨g', 0, none⟩) (L.length + 1) cap')) B t v := fun B t v h ht hne =>
      (keep B ⟨_, h⟩ (fun cs fr h' => by rw [show W2.heap[B]? = _ from h] at h'; cases h'; exact ht rfl) hne).trans h
    refine ⟨hk2.from _, (hbW.trans hb2).mono hn₀, (hbW.trans hb2).block kb hkb, keepB _ _ _ h1 (by decide) (by omega), keepB _ _ _ h2 (by decide) (by omega), keepB _ _ _ h3 (by decide) (by omega), ⟨_, hv2, ?_, trivial⟩, fun k x hx => ?_, h6.trans (hbW.trans hb2)⟩
    · rw [List.map_append, List.map_singleton, recCells_append, List.length_append, List.length_singleton]
      exact hrr2
    · replace hx : (L ++ [((m : Int) + (L.length : Int), (⟨xp, xe, xt, xq, xv⟩ : PL.Rec), Value.slice pu xv.length cu)])[k]? = some x := hx
      rcases Nat.lt_trichotomy k L.length with hk | hk | hk
      · rw [List.getElem?_append_left hk] at hx
        exact keepO k x (h5 k x hx)
      · subst hk
        rw [List.getElem?_append_right (Nat.le_refl _)] at hx
        simp at hx
        subst hx
        exact keepO _ _ hokk.out
      · rw [List.getElem?_eq_none (by simp; omega)] at hx
        cases hx
  case done =>
    rintro D L W hD hLN ⟨h1, h2, h3, ⟨v, hv, ho, -⟩, h5, h6⟩ hK
    obtain ⟨av, cvs, rfl, hs1, hs2, hs3, hs4⟩ := owns_form ho
    have c1 := h1.cell
    have c2 := h2.cell
    have f2 := h2.frozen
    have c3 := h3.cell
    have f3 := h3.frozen
    have c4 := hv.cell
    gi_wp2
    refine ⟨by simp, .inl ⟨_, _, rfl, run_takeDeferred ((KeepsOthers.setCell _ _ _).same D _ ((KeepsOthers.setCell _ _ _).same D _ hK rfl) rfl), ?_⟩⟩
    have hW3 : W.grownBy (W.setCell ⟨w.heap.size + 1, 0, none⟩ (.slice av N cvs)) (some (w.heap.size + 1)) := grownBy_setCell' _ _ _
    have k1 : Boxed (((W.setCell ⟨w.heap.size + 1, 0, none⟩ (.slice av N cvs)).setCell ⟨w.heap.size + 1 + 1, 0, none⟩ (.bool true)).putObj D (.deferred none)) (w.heap.size + 1) 35 (.slice av N cvs) :=
      ((h2.set _).other (by omega) _).kept (grownBy_putObj' _ _ _) (fun e => by cases e; omega)
    have k2 : Boxed (((W.setCell ⟨w.heap.size + 1, 0, none⟩ (.slice av N cvs)).setCell ⟨w.heap.size + 1 + 1, 0, none⟩ (.bool true)).putObj D (.deferred none)) (w.heap.size + 1 + 1) 4 (.bool true) :=
      ((h3.other (by omega) _).set _).kept (grownBy_putObj' _ _ _) (fun e => by cases e; omega)
    refine ⟨_, results_cells2 rfl _ _ _ rfl rfl (lv_recs k1) (lv_bool k2), _, rfl, ⟨L, hLN, ?_, fun k x hx => (h5 k x hx).2.1⟩, ?_⟩
    · have hgf : ∀ b o, W.heap[b]? = some o → o.isCells = true → b ≠ w.heap.size + 1 → b ≠ w.heap.size + 1 + 1 → (((W.setCell ⟨w.heap.size + 1, 0, none⟩ (.slice av N cvs)).setCell ⟨w.heap.size + 1 + 1, 0, none⟩ (.bool true)).putObj D (.deferred none)).heap[b]? = W.heap[b]? := fun b o hb hc hn1 hn2 => by
        have hbD : b ≠ D := fun e => by subst e; rw [hK] at hb; cases hb; cases hc
        rw [World.putObj_heap_other hbD, heap_setCell_ne hn2, heap_setCell_ne hn1]
      have ho' : (((W.setCell ⟨w.heap.size + 1, 0, none⟩ (.slice av N cvs)).setCell ⟨w.heap.size + 1 + 1, 0, none⟩ (.bool true)).putObj D (.deferred none)).ownsRow w.heap.size 32 5 (.slice av N cvs) (L.map (·.2)).length (recCells (L.map (·.2))) := by
        rw [List.length_map]
        rw [hLN] at ho ⊢
        refine owns_same ho fun b e => ?_
        obtain ⟨cur, hb⟩ := owns_block ho e
        exact hgf b _ hb rfl (fun e' => by subst e'; rw [show W.heap[_]? = _ from h2] at hb; simp at hb) (fun e' => by subst e'; rw [show W.heap[_]? = _ from h3] at hb; simp at hb)
      have := recsFrom_of_owns (B := n₀) ho' hn₀ (fun x hx => by
        obtain ⟨y, hy, rfl⟩ := List.mem_map.1 hx
        obtain ⟨k, hk, hy⟩ := List.mem_iff_getElem.1 hy
        have hok := h5 k y (by rw [← hy]; exact List.getElem?_eq_getElem hk)
        exact ⟨hok.2.2.1.same fun b e => by
          obtain ⟨cs, fr, hb⟩ := hok.2.2.2.2 b e
          exact hgf b _ hb rfl (hok.2.2.2.2.ne e h2 (by decide)) (hok.2.2.2.2.ne e h3 (by decide)), hok.2.2.2.1⟩)
      rwa [List.map_map] at this
    · have hB1 : Below w.heap.size w ((W.setCell ⟨w.heap.size + 1, 0, none⟩ (.slice av N cvs)).setCell ⟨w.heap.size + 1 + 1, 0, none⟩ (.bool true)) := below_set (below_set h6 (by omega) _) (by omega) _
      exact hB1.grown (grownBy_putObj' _ D _) hB1.size (fun k e => by cases e; omega)
  case stop =>
    rintro D c W _ h _
    exact h.elim

end Go.Proofs.Ytjjlbancofkinaa
