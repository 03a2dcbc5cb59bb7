/-
  fetch.read: the first records that are meant.
-/
import Derived.Test.YtjjlbancofkinaaFetchA
namespace Go.Proofs.Ytjjlbancofkinaa
open Go.RowKit
attribute [local go_sem] Oper.semAt_some

/-- What is read, and where to go on. -/
def readOut (f : PL.Rec → Bool) (most end_ : Int) : List PL.Rec → Int → List PL.Rec → List PL.Rec × Int
  | [], i, out => (out, i)
  | r :: l, i, out => if end_ ≤ i ∨ most ≤ out.length then (out, i) else readOut f most end_ l (i + 1) (if f r then out ++ [r] else out)

def outL (f : PL.Rec → Bool) (L : List Handed) : List (PL.Rec × Value) := (L.map (·.2)).filter fun x => f x.1
theorem outL_snoc (f : PL.Rec → Bool) (L : List Handed) (x : Handed) : outL f (L ++ [x]) = if f x.2.1 then outL f L ++ [x.2] else outL f L := by
  unfold outL
  rw [List.map_append, List.filter_append]
  by_cases h : f x.2.1 = true
  · simp [h]
  · simp [h]
theorem outL_le (f : PL.Rec → Bool) (L : List Handed) : (outL f L).length ≤ L.length := by
  unfold outL
  exact Nat.le_trans (List.length_filter_le _ _) (by simp)

theorem drop_cons {R : List PL.Rec} {k : Nat} {r : PL.Rec} (h : R[k]? = some r) : R.drop k = r :: R.drop (k + 1) := by
  obtain ⟨hk, rfl⟩ := List.getElem?_eq_some_iff.1 h
  exact List.drop_eq_getElem_cons hk
theorem readOut_stop {f : PL.Rec → Bool} {most end_ : Int} {R : List PL.Rec} {k : Nat} {r : PL.Rec} {out : List PL.Rec} (h : R[k]? = some r) (hs : end_ ≤ (k : Int) ∨ most ≤ out.length) : readOut f most end_ (R.drop k) k out = (out, (k : Int)) := by
  rw [drop_cons h, readOut, if_pos hs]
theorem readOut_go {f : PL.Rec → Bool} {most end_ : Int} {R : List PL.Rec} {k : Nat} {r : PL.Rec} {out : List PL.Rec} (h : R[k]? = some r) (hs : ¬ (end_ ≤ (k : Int) ∨ most ≤ out.length)) :
    readOut f most end_ (R.drop k) k out = readOut f most end_ (R.drop (k + 1)) ((k + 1 : Nat) : Int) (if f r then out ++ [r] else out) := by
  rw [drop_cons h, readOut, if_neg hs]; rfl
theorem boxed_below {w w' : World} {B : Nat} {t : TypeId} {v : Value} (h : Boxed w B t v) (hb : Below w.heap.size w w') : Boxed w' B t v := (hb.block _ h.lt).trans h
theorem keeps_of_below {w w' : World} (hb : Below w.heap.size w w') : KeepsOthers w w' := KeepsOthers.of_grownBy (grown_of_below hb) (fun j o e => by cases e)

theorem handed_snoc {P : Nat → Handed → Prop} {L : List Handed} {x : Handed} (h : ∀ k y, L[k]? = some y → P k y) (hx : P L.length x) : ∀ k y, (L ++ [x])[k]? = some y → P k y := fun k y hy => by
  rcases Nat.lt_trichotomy k L.length with hk | hk | hk
  · rw [List.getElem?_append_left hk] at hy
    exact h k y hy
  · subst hk
    rw [List.getElem?_append_right (Nat.le_refl _)] at hy
    simp at hy
    subst hy
    exact hx
  · rw [List.getElem?_eq_none (by simp; omega)] at hy
    cases hy

def ReadI (w : World) (s : PL.St) (f : PL.Rec → Bool) (most end_ : Int) (fv : Value) (m n₀ kb : Nat) (pt : Option Addr) (L : List Handed) (W : World) : Prop :=
  Boxed W kb 24 (.pointer pt) ∧ Boxed W w.heap.size 3 (.int .i64 most) ∧ Boxed W (w.heap.size + 1) 3 (.int .i64 end_) ∧ Boxed W (w.heap.size + 1 + 1) 57 fv ∧
    Boxed W (w.heap.size + 1 + 1 + 1) 3 (.int .i64 (m + L.length : Nat)) ∧
    (∃ v, Boxed W (w.heap.size + 1 + 1 + 1 + 1) 35 v ∧ W.ownsRow w.heap.size 32 5 v (outL f L).length (recCells (outL f L)) ∧ True) ∧
    (∀ k x, L[k]? = some x → Handed.ok s m n₀ k x W) ∧ Below w.heap.size w W ∧
    readOut f most end_ (s.R.drop m) m [] = readOut f most end_ (s.R.drop (m + L.length)) (m + L.length : Nat) ((outL f L).map (·.1))
def ReadX (w : World) (s : PL.St) (f : PL.Rec → Bool) (most end_ : Int) (m n₀ : Nat) : Code → World → Prop
  | .exit 0, W => ∃ L : List Handed, Boxed W (w.heap.size + 1 + 1 + 1) 3 (.int .i64 (m + L.length : Nat)) ∧
      (∃ v, Boxed W (w.heap.size + 1 + 1 + 1 + 1) 35 v ∧ W.ownsRow w.heap.size 32 5 v (outL f L).length (recCells (outL f L)) ∧ True) ∧
      (∀ k x, L[k]? = some x → Handed.ok s m n₀ k x W) ∧ Below w.heap.size w W ∧
      readOut f most end_ (s.R.drop m) m [] = ((outL f L).map (·.1), ((m + L.length : Nat) : Int))
  | _, _ => False

/-- Five new variables. -/
theorem boxes5 (w : World) (t1 t2 t3 t4 t5 : TypeId) (a b c d e : Value) :
    ∃ W0, W0 = ((((w.alloc (.cells #[a] t1)).alloc (.cells #[b] t2)).alloc (.cells #[c] t3)).alloc (.cells #[d] t4)).alloc (.cells #[e] t5) ∧
      Boxed W0 w.heap.size t1 a ∧ Boxed W0 (w.heap.size + 1) t2 b ∧ Boxed W0 (w.heap.size + 1 + 1) t3 c ∧ Boxed W0 (w.heap.size + 1 + 1 + 1) t4 d ∧ Boxed W0 (w.heap.size + 1 + 1 + 1 + 1) t5 e ∧ Below w.heap.size w W0 ∧ W0.heap.size = w.heap.size + 5 := by
  refine ⟨_, rfl, ?_, ?_, ?_, ?_, ?_, ?_, by simp⟩
  · exact ((((Boxed.new w t1 a).alloc _).alloc _).alloc _).alloc _
  · have := (((Boxed.new (w.alloc (.cells #[a] t1)) t2 b).alloc (.cells #[c] t3)).alloc (.cells #[d] t4)).alloc (.cells #[e] t5)
    simpa using this
  · have := ((Boxed.new ((w.alloc (.cells #[a] t1)).alloc (.cells #[b] t2)) t3 c).alloc (.cells #[d] t4)).alloc (.cells #[e] t5)
    simpa using this
  · have := (Boxed.new (((w.alloc (.cells #[a] t1)).alloc (.cells #[b] t2)).alloc (.cells #[c] t3)) t4 d).alloc (.cells #[e] t5)
    simpa using this
  · have := Boxed.new ((((w.alloc (.cells #[a] t1)).alloc (.cells #[b] t2)).alloc (.cells #[c] t3)).alloc (.cells #[d] t4)) t5 e
    simpa using this
  · exact below_alloc (below_alloc (below_alloc (below_alloc (below_alloc (below_refl w) _) _) _) _) _

theorem read_end {w W : World} {s : PL.St} {f : PL.Rec → Bool} {m n₀ D : Nat} {L : List Handed} {v : Value} (hn₀ : n₀ ≤ w.heap.size) (ho : W.ownsRow w.heap.size 32 5 v (outL f L).length (recCells (outL f L)))
    (h6 : ∀ k x, L[k]? = some x → Handed.ok s m n₀ k x W) (h7 : Below w.heap.size w W) (hK : W.heap[D]? = some (.deferred (some []))) (hD : w.heap.size ≤ D) :
    RecsFrom n₀ (W.drew.putObj D (.deferred none)) v ((outL f L).map (·.1)) ∧ Below w.heap.size w (W.drew.putObj D (.deferred none)) := by
  have hK' : W.drew.heap[D]? = some (.deferred (some [])) := hK
  have hr : ∀ r, some D = some r → ∃ o : Obj, W.drew.heap[r]? = some o ∧ o.isCells = false := fun r e => by cases e; exact ⟨_, hK', rfl⟩
  have ho' : W.drew.ownsRow w.heap.size 32 5 v (outL f L).length (recCells (outL f L)) := ho
  refine ⟨recsFrom_of_owns (ownsRow_putObj ho' _ hK' rfl) hn₀ (fun x hx => ?_), (below_drew h7).grown (grownBy_putObj' _ D _) (below_drew h7).size (fun k e => by cases e; exact hD)⟩
  obtain ⟨y, hy, rfl⟩ := List.mem_map.1 (List.mem_filter.1 hx).1
  obtain ⟨k, hk, hy⟩ := List.mem_iff_getElem.1 hy
  have hok : Handed.ok s m n₀ k y W.drew := h6 k y (by rw [← hy]; exact List.getElem?_eq_getElem hk)
  have := hok.kept (grownBy_putObj' W.drew D (.deferred none)) hr
  exact ⟨this.2.2.1, this.2.2.2.1⟩

set_option maxRecDepth 100000 in
set_option maxHeartbeats 2000000 in
theorem read_any (w : World) (pt : Option Addr) (s : PL.St) (f : PL.Rec → Bool) (from_ most end_ : Int) (g : Nat) (cap : Array Value) (m n₀ N : Nat) (hm : max from_ 0 = m) (hm2 : m ≤ 1099511627776 ∨ N = 0) (hn₀ : n₀ ≤ w.heap.size) (hN : N = s.R.length - m) (hN2 : N ≤ 128)
    (eg : ∀ args w, (callFunc g args).run Try.prog w = .ok (.enter g args) w)
    (hf : ∀ (W : World) (b2 b3 : Nat), Below w.heap.size w W → W.cell? ⟨b2, 0, none⟩ = some (.pointer pt) → W.cell? ⟨b3, 0, none⟩ = some (.int .i64 m) → Feeds 5 Try.prog 47 #[.pointer (some ⟨b3, 0, none⟩), .pointer (some ⟨b2, 0, none⟩)] Handed.enc (Handed.ok s m n₀) n₀ b2 N W)
    (hme : ∀ (W : World) (r : PL.Rec) (v : Value), Below w.heap.size w W → Calls Try.prog g (#[recV r v] ++ cap) W (Ret (.bool (f r)) W)) :
    Calls Try.prog 59 #[.pointer pt, .int .i64 from_, .int .i64 most, .int .i64 end_, .func (.func g) #[] cap] w fun e w' =>
      ∃ v, e = .returned (.tuple #[v, .int .i64 (readOut f most end_ (s.R.drop m) m []).2]) ∧ RecsFrom n₀ w' v (readOut f most end_ (s.R.drop m) m []).1 ∧ Below w.heap.size w w' := by
  obtain ⟨j0, hj0, hy0, hy1, hy2⟩ := info_parts Try.infoRec
  refine (callsIn_wide (n := 6)).1 ?_
  refine callsIn_of_wp_marks Try.func59 rfl trivial ?_ rfl
  simp only [Try.ntmps59, List.size_toArray, List.length_cons, List.length_nil, Nat.reduceAdd, Nat.reduceSub, Array.replicate_succ, Array.replicate_zero, List.push_toArray, List.append_toArray, List.nil_append, List.cons_append]
  gi_wp2
  obtain ⟨W0, hW0, b1, b2, b3, b4, b5, hB0, hsz⟩ := boxes5 w 3 3 57 3 35 (.int .i64 most) (.int .i64 end_) (.func (.func g) #[] cap) (.int .i64 m) (.slice none 0 0)
  rw [← hW0]
  clear hW0
  refine ⟨trivial, (callsIn_wide.2 (records_any W0 pt m)).mono ?_⟩
  rintro e W1 ⟨rfl, hW1⟩
  have c2 : W1.cell? ⟨W0.heap.size, 0, none⟩ = some (.pointer pt) := by subst hW1; exact (((Boxed.new W0 _ _).alloc _)).cell
  have c3 : W1.cell? ⟨W0.heap.size + 1, 0, none⟩ = some (.int .i64 m) := by
    subst hW1
    have h := (Boxed.new (W0.alloc (.cells #[.pointer pt] 24)) 3 (.int .i64 m)).cell
    rw [World.size_alloc] at h
    exact h
  have hB1 : Below w.heap.size w W1 := by subst hW1; exact below_alloc (below_alloc hB0 _) _
  have keepW : ∀ {B : Nat} {t : TypeId} {v : Value}, Boxed W0 B t v → Boxed W1 B t v := fun h => by subst hW1; exact (h.alloc _).alloc _
  replace b1 := keepW b1
  replace b2 := keepW b2
  replace b3 := keepW b3
  replace b4 := keepW b4
  replace b5 := keepW b5
  have hsz1 : W1.heap.size = w.heap.size + 7 := by subst hW1; simp [hsz]
  have hf1 := hf W1 _ _ hB1 c2 c3
  have hkb0 := lt_of_cell c2
  have b0 : Boxed W1 W0.heap.size 24 (.pointer pt) := by subst hW1; exact (Boxed.new W0 _ _).alloc _
  have hkbv := Lib.hid hsz
  clear hW1 hsz hB0 hf c2 c3
  unfold recordsV
  gi_wp2
  refine wpIn_feed (gf := 47) (lb := #[.pointer (some ⟨W0.heap.size + 1, 0, none⟩), .pointer (some ⟨W0.heap.size, 0, none⟩)]) rfl (enters_of Try.func47 (by kernel_rfl) rfl) hf1 (by omega) hkb0 (fun _ => rfl)
    (ReadI w s f most end_ (.func (.func g) #[] cap) m n₀ W0.heap.size pt) (ReadX w s f most end_ m n₀) ?own ?ownx ?start ?round ?done ?stop
  case own =>
    rintro L A A' row ⟨h0, h1, h2, h3, h4, h5, h6, h7, h8⟩ hg hr
    have hr' := fun r e => (hr r e).2
    exact ⟨boxed_keep h0 hg hr', boxed_keep h1 hg hr', boxed_keep h2 hg hr', boxed_keep h3 hg hr', boxed_keep h4 hg hr',
      holdsRow_own w.heap.size _ _ 32 5 (fun L : List Handed => (outL f L).length) (fun L => recCells (outL f L)) (fun _ _ => True) L A A' row h5 hg hr',
      fun k x hx => (h6 k x hx).kept hg hr', ownFrom_below (Nat.le_refl _) (by omega) L A A' row h7 hg hr, h8⟩
  case ownx =>
    rintro c A A' row h hg hr
    have hr' := fun r e => (hr r e).2
    match c, h with
    | .exit 0, ⟨L, h4, h5, h6, h7, h8⟩ =>
      exact ⟨L, boxed_keep h4 hg hr',
        holdsRow_own w.heap.size _ _ 32 5 (fun L : List Handed => (outL f L).length) (fun L => recCells (outL f L)) (fun _ _ => True) L A A' row h5 hg hr',
        fun k x hx => (h6 k x hx).kept hg hr', ownFrom_below (Nat.le_refl _) (by omega) L A A' row h7 hg hr, h8⟩
  case start => exact ⟨b0, b1, b2, b3, b4, ⟨_, b5, World.ownsRow_nil _ _ _ _, trivial⟩, fun k x hx => by simp at hx, hB1, rfl⟩
  case round =>
    rintro l L x W o ⟨h0, h1, h2, h3, h4, ⟨v, hv, ho, -⟩, h6, h7, h8⟩ hlen hok hl hlo hoc
    obtain ⟨i, ⟨xp, xe, xt, xq, xv⟩, u⟩ := x
    have hokk := Lib.hid hok
    obtain ⟨e1, e2, e3, e4⟩ := hok
    dsimp only at e1 e2 e3 e4
    have e2' := Lib.hid e2
    have e3' := e3
    obtain ⟨pu, cu, rfl, -, -, -⟩ := e3'
    obtain ⟨av, cvs, rfl, hs1, hs2, hs3, hs4⟩ := owns_form ho
    dsimp only [Handed.enc, recV]
    have e1' := Lib.hid e1
    clear e1
    have hltW := hv.lt
    have hn1 : ¬ W.heap.size = w.heap.size + 1 + 1 + 1 := by omega
    have hn2 : ¬ w.heap.size + 1 + 1 + 1 = W.heap.size := by omega
    have hn3 : ¬ W.heap.size = w.heap.size + 1 + 1 + 1 + 1 := by omega
    have hn4 : ¬ w.heap.size + 1 + 1 + 1 + 1 = W.heap.size := by omega
    gi_wp2
    refine ⟨(KeepsOthers.alloc _ _).from _, fun o' => ?_⟩
    have hl2 : (W.alloc (.cells #[.int .i64 xp, .int .i64 xe, .int .i64 xt, .int .i64 xq, .slice pu xv.length cu] 32)).heap[l]? = some o := (Below.heap_alloc _ _ _ (Array.getElem?_eq_some_iff.1 hlo).1).trans hlo
    have hg2 := grownBy_putObj' (W.alloc (.cells #[.int .i64 xp, .int .i64 xe, .int .i64 xt, .int .i64 xq, .slice pu xv.length cu] 32)) l o'
    have hr2 : ∀ r, some l = some r → ∃ o : Obj, (W.alloc (.cells #[.int .i64 xp, .int .i64 xe, .int .i64 xt, .int .i64 xq, .slice pu xv.length cu] 32)).heap[r]? = some o ∧ o.isCells = false := fun r e => by cases e; exact ⟨o, hl2, hoc⟩
    have hg1 : W.grownBy (W.alloc (.cells #[.int .i64 xp, .int .i64 xe, .int .i64 xt, .int .i64 xq, .slice pu xv.length cu] 32)) none := World.grownBy_alloc W _ none
    have hr1 : ∀ r, (none : Option Nat) = some r → ∃ o : Obj, W.heap[r]? = some o ∧ o.isCells = false := fun r e => by cases e
    have h00 := h0
    replace h0 := boxed_keep (boxed_keep h0 hg1 hr1) hg2 hr2
    replace h1 := boxed_keep (boxed_keep h1 hg1 hr1) hg2 hr2
    replace h2 := boxed_keep (boxed_keep h2 hg1 hr1) hg2 hr2
    replace h3 := boxed_keep (boxed_keep h3 hg1 hr1) hg2 hr2
    replace h4 := boxed_keep (boxed_keep h4 hg1 hr1) hg2 hr2
    replace hv := boxed_keep (boxed_keep hv hg1 hr1) hg2 hr2
    replace ho := ownsRow_putObj (ho.alloc (.cells #[.int .i64 xp, .int .i64 xe, .int .i64 xt, .int .i64 xq, .slice pu xv.length cu] 32)) o' hl2 hoc
    replace hokk := Lib.hid ((hokk.out.kept hg1 hr1).kept hg2 hr2)
    clear e3 e4 e2
    replace h6 : ∀ k x, L[k]? = some x → Handed.ok s m n₀ k x _ := fun k x hx => ((h6 k x hx).kept hg1 hr1).kept hg2 hr2
    have hlW : l < W.heap.size := (Array.getElem?_eq_some_iff.1 hlo).1
    have hd := (recAt_new W 32 ⟨xp, xe, xt, xq, xv⟩ (.slice pu xv.length cu)).same (World.putObj_heap_other (w := W.alloc (.cells #[.int .i64 xp, .int .i64 xe, .int .i64 xt, .int .i64 xq, .slice pu xv.length cu] 32)) (r := l) (k := W.heap.size) (o := o') (by omega))
    have hbW : Below w.heap.size W ((W.alloc (.cells #[.int .i64 xp, .int .i64 xe, .int .i64 xt, .int .i64 xq, .slice pu xv.length cu] 32)).putObj l o') := ((Below.refl _ W).alloc h7.size _).grown hg2 (by have := h7.size; simp; omega) (fun k e => by cases e; omega)
    have hsW : w.heap.size ≤ W.heap.size := h7.size
    clear hl2 hg2 hr2 hg1 hr1 hl hlo hoc hs3 hs4
    generalize (W.alloc (.cells #[.int .i64 xp, .int .i64 xe, .int .i64 xt, .int .i64 xq, .slice pu xv.length cu] 32)).putObj l o' = W2 at *
    have c1 := h1.cell
    have c2 := h2.cell
    have c3 := h3.cell
    have c4 := h4.cell
    have c5 := hv.cell
    have f4 := h4.frozen
    have hLl : L.length < 128 := by omega
    have e1 : i = (m : Int) + (L.length : Int) := by rw [e1'.out]; simp
    subst e1
    clear e1'
    obtain ⟨d0, d1, d2, d3, d4⟩ := hd
    have hBW2 : Below w.heap.size w W2 := h7.trans hbW
    have hll : ((outL f L).map (·.1)).length = (outL f L).length := List.length_map _
    by_cases hA : end_ ≤ (m : Int) + (L.length : Int)
    · gi_wp2
      exact ⟨KeepsFrom.refl _ _, L, h4, ⟨_, hv, ho, trivial⟩, h6, hBW2, h8.trans (readOut_stop e2'.out (.inl (by simpa using hA)))⟩
    by_cases hC : most ≤ ((outL f L).length : Int)
    · gi_wp2
      exact ⟨KeepsFrom.refl _ _, L, h4, ⟨_, hv, ho, trivial⟩, h6, hBW2, h8.trans (readOut_stop e2'.out (.inr (by rw [hll]; exact hC)))⟩
    have h8' := Lib.hid (h8.trans (readOut_go e2'.out (by rw [hll]; simp; omega)))
    clear h8
    gi_wp2
    have hB3 : Below w.heap.size w (W2.setCell ⟨w.heap.size + 1 + 1 + 1, 0, none⟩ (.int .i64 ((m : Int) + (L.length : Int) + 1))) := below_set hBW2 (by omega) _
    refine ⟨trivial, (callsIn_wide.2 (hme _ ⟨xp, xe, xt, xq, xv⟩ (.slice pu xv.length cu) hB3)).mono ?_⟩
    rintro e w4 ⟨rfl, hb4⟩
    have hgs := grownBy_setCell' W2 (w.heap.size + 1 + 1 + 1) (.int .i64 ((m : Int) + (L.length : Int) + 1))
    have keep : ∀ b o, W2.heap[b]? = some o → b ≠ w.heap.size + 1 + 1 + 1 → w4.heap[b]? = W2.heap[b]? := fun b o hb hne => by
      have hlt := (Array.getElem?_eq_some_iff.1 hb).1
      have h1 := hgs.block b hlt (fun e => hne (by cases e; rfl))
      exact (hb4.block b (Nat.lt_of_lt_of_le hlt hgs.size)).trans h1
    have hB4 : Below w.heap.size w w4 := below_step hB3 hb4
    have hK4 : KeepsOthers W2 w4 := (KeepsOthers.setCell W2 _ _).trans (keeps_of_below hb4)
    have hBW4 : Below w.heap.size W w4 := hbW.trans ((((Below.refl _ W2).setCell (p := ⟨w.heap.size + 1 + 1 + 1, 0, none⟩) (show w.heap.size ≤ w.heap.size + 1 + 1 + 1 by omega) _)).trans (hb4.mono hB3.size))
    have keepO : ∀ (k : Nat) (x : Handed), Handed.ok s m n₀ k x W2 → Handed.ok s m n₀ k x w4 := fun k x h => h.same fun b e => by
      obtain ⟨cs, fr, hb⟩ := h.2.2.2.2 b e
      exact keep b _ hb (h.2.2.2.2.ne e h4 (by decide))
    have h4' := h4
    replace h4 : Boxed w4 (w.heap.size + 1 + 1 + 1) 3 (.int .i64 ((m : Int) + (L.length : Int) + 1)) := boxed_below (h4.set _) hb4
    have g0 : Boxed w4 W0.heap.size 24 (.pointer pt) := (keep _ _ h0 (by have := hkbv.out; omega)).trans h0
    have g1 : Boxed w4 w.heap.size 3 (.int .i64 most) := (keep _ _ h1 (by omega)).trans h1
    have g2 : Boxed w4 (w.heap.size + 1) 3 (.int .i64 end_) := (keep _ _ h2 (by omega)).trans h2
    have g3 : Boxed w4 (w.heap.size + 1 + 1) 57 (.func (.func g) #[] cap) := (keep _ _ h3 (by omega)).trans h3
    have g5 : Boxed w4 (w.heap.size + 1 + 1 + 1 + 1) 35 (.slice av (outL f L).length cvs) := (keep _ _ hv (by omega)).trans hv
    replace ho : w4.ownsRow w.heap.size 32 5 (.slice av (outL f L).length cvs) (outL f L).length (recCells (outL f L)) := owns_same ho fun b e => by
      obtain ⟨cur, hb⟩ := owns_block ho e
      exact keep b _ hb (fun e' => by subst e'; rw [show W2.heap[_]? = _ from h4'] at hb; simp at hb)
    have hd : RecAt w4 W.heap.size 0 ⟨xp, xe, xt, xq, xv⟩ (.slice pu xv.length cu) := RecAt.same ⟨d0, d1, d2, d3, d4⟩ (by
      obtain ⟨ob, hob, -⟩ := cells_of_cell d0
      exact keep _ _ hob hn1)
    have hLe := outL_le f L
    have hs4 : w.heap.size ≤ w4.heap.size := hB4.size
    have hcast : ∀ x : Handed, ((m + (L ++ [x]).length : Nat) : Int) = (m : Int) + (L.length : Int) + 1 := fun x => by simp; omega
    have hlen1 : ∀ x : Handed, m + (L ++ [x]).length = m + L.length + 1 := fun x => by simp; omega
    have hcN : ((m + L.length + 1 : Nat) : Int) = (m : Int) + (L.length : Int) + 1 := by omega
    by_cases hfr : f ⟨xp, xe, xt, xq, xv⟩ = true
    · rw [if_pos hfr] at h8'
      have hos : outL f (L ++ [((m : Int) + (L.length : Int), (⟨xp, xe, xt, xq, xv⟩ : PL.Rec), Value.slice pu xv.length cu)]) = outL f L ++ [((⟨xp, xe, xt, xq, xv⟩ : PL.Rec), Value.slice pu xv.length cu)] := by rw [outL_snoc]; exact if_pos hfr
      rw [hfr]
      clear hme eg
      obtain ⟨d0, d1, d2, d3, d4⟩ := hd
      have g5c := g5.cell
      have hNm : (outL f L).length ≤ 128 := by omega
      gi_wp2_with (gi_at_builtin; refine wpListIn_append_own _ rfl _ _ 35 rfl w.heap.size 32 j0 (.agg #[.int .i64 0, .int .i64 0, .int .i64 0, .int .i64 0, .slice none 0 0]) 5 56 Try.underlying35 hj0 hy0 hy1 hy2 rfl (by decide) _ _ _ rfl (ho.alloc _) ⟨w4.heap.size, 0, none⟩ 1 1 (recCells [(⟨xp, xe, xt, xq, xv⟩, .slice pu xv.length cu)]) rfl rfl (rec_new w4 32 ⟨xp, xe, xt, xq, xv⟩ _) (rec_oneCell _ _ _ _) (by unfold maxLen; omega) (by omega) (by simp; omega) ?_; intro v' w6 hown' hgrow _; obtain ⟨g', cap', rfl⟩ := ownsRow_succ hown'; obtain ⟨hv1, hv2, hrr2, hk2, hb2⟩ := g5.appended (by decide) ho hs4 (show w.heap.size ≤ w.heap.size + 1 + 1 + 1 + 1 by omega) hown' hgrow; have hc1 := hv1.cell; have hf1 := hv1.frozen)
      have hgs2 := grownBy_setCell' w6 (w.heap.size + 1 + 1 + 1 + 1) (.slice (some ⟨g', 0, none⟩) ((outL f L).length + 1) cap')
      have hga := World.grownBy_alloc w4 (.cells #[.int .i64 xp, .int .i64 xe, .int .i64 xt, .int .i64 xq, .slice pu xv.length cu] 32) none
      have hrow : ∀ g, (Value.slice av (outL f L).length cvs).ownBlock = some g → ∃ cs fr, w4.heap[g]? = some (.cells cs 32 fr) := fun g hg => by obtain ⟨cur, h⟩ := owns_block ho hg; exact ⟨cur, _, h⟩
      have keep2 : ∀ b, (∃ o, w4.heap[b]? = some o) → (∀ cs fr, w4.heap[b]? ≠ some (.cells cs 32 fr)) → b ≠ w.heap.size + 1 + 1 + 1 + 1 → (w6.setCell ⟨w.heap.size + 1 + 1 + 1 + 1, 0, none⟩ (.slice (some ⟨g', 0, none⟩) ((outL f L).length + 1) cap')).heap[b]? = w4.heap[b]? := fun b hb hn hne => by
        obtain ⟨o, hb⟩ := hb
        have hlt := (Array.getElem?_eq_some_iff.1 hb).1
        refine (hgs2.block b (by have := hgrow.size; simp at this; omega) (fun e => hne (by cases e; rfl))).trans ((hgrow.block b (by simp; omega) (fun e => ?_)).trans (hga.block b hlt (by simp)))
        obtain ⟨cs, fr, h⟩ := hrow b e.symm
        exact hn cs fr h
      have keepO2 : ∀ (k : Nat) (x : Handed), Handed.ok s m n₀ k x w4 → Handed.ok s m n₀ k x (w6.setCell ⟨w.heap.size + 1 + 1 + 1 + 1, 0, none⟩ (.slice (some ⟨g', 0, none⟩) ((outL f L).length + 1) cap')) := fun k x h => h.same fun b e => by
        obtain ⟨cs, fr, hb⟩ := h.2.2.2.2 b e
        exact keep2 b ⟨_, hb⟩ (fun cs' fr' h' => by rw [hb] at h'; cases h') (h.2.2.2.2.ne e g5 (by decide))
      have keepB : ∀ (B : Nat) (t : TypeId) (v : Value), Boxed w4 B t v → t ≠ 32 → B ≠ w.heap.size + 1 + 1 + 1 + 1 → Boxed (w6.setCell ⟨w.heap.size + 1 + 1 + 1 + 1, 0, none⟩ (.slice (some ⟨g', 0, none⟩) ((outL f L).length + 1) cap')) B t v := fun B t v h ht hne =>
        (keep2 B ⟨_, h⟩ (fun cs fr h' => by rw [show w4.heap[B]? = _ from h] at h'; cases h'; exact ht rfl) hne).trans h
      refine ⟨(hK4.trans hk2).from _, (hBW4.trans hb2).mono hn₀, (keepB _ _ _ g0 (by decide) (by have := hkbv.out; omega)).trans (Eq.symm h00), keepB _ _ _ g0 (by decide) (by have := hkbv.out; omega), keepB _ _ _ g1 (by decide) (by omega), keepB _ _ _ g2 (by decide) (by omega), keepB _ _ _ g3 (by decide) (by omega), by rw [hcast]; exact keepB _ _ _ h4 (by decide) (by omega), ⟨_, hv2, ?_, trivial⟩,
        handed_snoc (fun k x hx => keepO2 k x (keepO k x (h6 k x hx))) (keepO2 _ _ (keepO _ _ hokk.out)), hB4.trans hb2, ?_⟩
      · rw [hos, List.length_append, List.length_singleton, recCells_append]
        exact hrr2
      · rw [hos, hlen1, List.map_append, List.map_singleton]
        exact h8'.out
    · rw [if_neg hfr] at h8'
      have hos : outL f (L ++ [((m : Int) + (L.length : Int), (⟨xp, xe, xt, xq, xv⟩ : PL.Rec), Value.slice pu xv.length cu)]) = outL f L := by rw [outL_snoc]; exact if_neg hfr
      have hfr' : f ⟨xp, xe, xt, xq, xv⟩ = false := by simpa using hfr
      rw [hfr']
      clear hme eg
      gi_wp2
      refine ⟨hK4.from _, hBW4.mono hn₀, g0.trans (Eq.symm h00), g0, g1, g2, g3, by rw [hcast]; exact h4, ⟨_, g5, by rw [hos]; exact ho, trivial⟩, handed_snoc (fun k x hx => keepO k x (h6 k x hx)) (keepO _ _ hokk.out), hB4, ?_⟩
      rw [hos, hlen1]
      exact h8'.out
  case done =>
    rintro D L W hD hLN ⟨-, h1, h2, h3, h4, ⟨v, hv, ho, -⟩, h6, h7, h8⟩ hK
    obtain ⟨av, cvs, rfl, hs1, hs2, hs3, hs4⟩ := owns_form ho
    have c4 := h4.cell
    have c5 := hv.cell
    have h9 : readOut f most end_ (s.R.drop m) m [] = ((outL f L).map (·.1), ((m + L.length : Nat) : Int)) := by
      rw [h8, List.drop_eq_nil_of_le (by omega)]; rfl
    clear h8 hs3 hs4 hLN
    have hcN : ((m + L.length : Nat) : Int) = (m : Int) + (L.length : Int) := by omega
    rw [hcN] at h9 c4
    have hE := Lib.hid (read_end (D := D) hn₀ ho h6 h7 hK (by omega))
    clear h6 ho
    gi_wp2
    gi_region
    gi_wp2
    refine ⟨by simp, .inl ⟨_, _, rfl, run_takeDeferred (show W.drew.heap[D]? = _ from hK), ?_⟩⟩
    exact ⟨_, results_tmp2 rfl _ _ _, _, by rw [h9]; rfl, by rw [h9]; exact hE.out.1, hE.out.2⟩
  case stop =>
    rintro D c W hD h hK
    match c, h with
    | .exit 0, ⟨L, h4, ⟨v, hv, ho, _⟩, h6, h7, h9⟩ =>
      obtain ⟨av, cvs, rfl, hs1, hs2, hs3, hs4⟩ := owns_form ho
      have c4 := h4.cell
      have c5 := hv.cell
      clear hs3 hs4
      have hcN : ((m + L.length : Nat) : Int) = (m : Int) + (L.length : Int) := by omega
      rw [hcN] at h9 c4
      have hE := Lib.hid (read_end (D := D) hn₀ ho h6 h7 hK (by omega))
      clear h6 ho
      gi_wp2
      gi_region
      gi_wp2
      refine ⟨by simp, .inl ⟨_, _, rfl, run_takeDeferred (show W.drew.heap[D]? = _ from hK), ?_⟩⟩
      exact ⟨_, results_tmp2 rfl _ _ _, _, by rw [h9]; rfl, by rw [h9]; exact hE.out.1, hE.out.2⟩

end Go.Proofs.Ytjjlbancofkinaa
