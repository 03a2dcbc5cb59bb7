/-
  A script as an argument: what is read of it lies in memory as ActsAt says.
-/
import Derived.Test.YtjjlbancofkinaaJoint
import Derived.Test.YtjjlbancofkinaaActs
import Derived.Deep.Slices
namespace Go.Proofs.Ytjjlbancofkinaa
open Go.Joins Go.ChangeShapes Go.WideShapes Go.ChangeAt Go.RowKit Go.Deep

theorem cellsByte : Try.prog.cellsOf 5 = 1 := by kernel_rfl

theorem nums_of (zs : List Int) (h : ∀ n ∈ zs, 0 ≤ n ∧ n < 256) : nums (zs.map fun n => UInt8.ofNat n.toNat) = zs := by
  unfold nums
  rw [List.map_map]
  conv => rhs; rw [← List.map_id zs]
  apply List.map_congr_left
  intro n hn
  obtain ⟨h0, h1⟩ := h n hn
  simp [Nat.mod_eq_of_lt (show n.toNat < 256 by omega)]
  omega

theorem bytes_read {H : Type} {enc : TypeId × Value → H} {w : World} {base : Nat} {spare : Nat → Bool} {held : Bool} {fuel : Nat} {u : Value} {x : DataW H × List MemPlace}
    (h : DataW.trod enc Try.prog w base spare held fuel 30 [u] = some x) : ∃ bs, BytesAt w u bs := by
  rcases open_ints Try.underlying30 Try.underlying5 cellsByte h with ⟨hcs, -⟩ | ⟨a, len, cap, zs, hcs, -, hl, hm, hz, -, hcell, hwz⟩
  · cases hcs
    exact ⟨[], nilBytes w⟩
  · cases hcs
    have hzl : len ≤ zs.length := by rw [hz]; split <;> omega
    have hw : ∀ n ∈ zs, 0 ≤ n ∧ n < 256 := fun n hn => by
      have := hwz n hn
      simp [Lit.wf] at this
      have h0 : IntKind.u8.min = 0 := rfl
      have h1 : IntKind.u8.max = 255 := rfl
      omega
    refine ⟨(zs.take len).map fun n => UInt8.ofNat n.toNat, some a, cap, by simp [Nat.min_eq_left hzl], by simp [Nat.min_eq_left hzl]; exact hl, by unfold maxLen at hm; omega, ?_⟩
    intro hn
    have hn' : 0 < len := by simp at hn; omega
    obtain ⟨b, o, spot⟩ := a
    have hspot : spot = none := by simpa [Addr.add] using World.cell?_spot (hcell 0 (by omega))
    subst hspot
    refine ⟨b, o, rfl, fun i hi => ?_⟩
    have hi' : i < len := by simp at hi; omega
    have := hcell i (by omega)
    rw [add_plain] at this
    rw [this, nums_of _ (fun n hn => hw n (List.mem_of_mem_take hn))]
    simp [List.getD_eq_getElem?_getD, hi']

theorem seven {α : Type} (l : List α) (h : l.length = 7) : ∃ a b c d e f g, l = [a, b, c, d, e, f, g] := by
  match l, h with
  | [a, b, c, d, e, f, g], _ => exact ⟨a, b, c, d, e, f, g, rfl⟩
theorem three {α : Type} (l : List α) (h : l.length = 3) : ∃ a b c, l = [a, b, c] := by
  match l, h with
  | [a, b, c], _ => exact ⟨a, b, c, rfl⟩
theorem cells?_at {w : World} {base : Nat} {a : Addr} {n : Nat} {cs : List Value} (h : w.cells? base a n = some cs) : ∀ (j : Nat) v, cs[j]? = some v → w.cell? (a.add j) = some v := by
  unfold World.cells? at h
  split at h
  · intro j v hv
    have hl := mapM_some_length h
    have hj : j < n := by have := (List.getElem?_eq_some_iff.1 hv).1; simp at hl; omega
    have := mapM_some_get h j j (by simp [hj])
    rw [this, hv]
  · cases h
theorem choose_list {α : Type} {P : Nat → α → Prop} : ∀ n, (∀ i, i < n → ∃ x, P i x) → ∃ L : List α, L.length = n ∧ ∀ (i : Nat) x, L[i]? = some x → P i x
  | 0, _ => ⟨[], rfl, fun i x h => by simp at h⟩
  | n + 1, h => by
    obtain ⟨L, hl, hL⟩ := choose_list n fun i hi => h i (by omega)
    obtain ⟨x, hx⟩ := h n (by omega)
    refine ⟨L ++ [x], by simp [hl], fun i y hy => ?_⟩
    rcases PL.getElem?_snoc hy with hy | ⟨rfl, rfl⟩
    · exact hL i y hy
    · rw [hl]; exact hx

set_option maxRecDepth 100000 in
theorem act_read11 {H : Type} {enc : TypeId × Value → H} {w : World} {base : Nat} {spare : Nat → Bool} {held : Bool} {fuel : Nat} {cs : List Value} {x : DataW H × List MemPlace}
    (h : DataW.trod enc Try.prog w base spare held fuel 34 cs = some x) :
    ∃ (a : PL.Act) (u : Value), cs = [.int .i64 a.k, .int .i64 a.r.p, .int .i64 a.r.e, .int .i64 a.r.t, .int .i64 a.r.q, u, .bool a.c] ∧ BytesAt w u a.r.v := by
  obtain ⟨xs, n, -, -, hl, hxs, hf⟩ := DataW.trod_struct Try.underlying34 h
  have hl7 : cs.length = 7 := hl.trans (by kernel_rfl)
  have hi : Try.prog.cellsOf 3 = 1 := by kernel_rfl
  have hb : Try.prog.cellsOf 4 = 1 := by kernel_rfl
  have hx3 : xs.length = 3 := hxs
  clear hxs hl
  obtain ⟨c0, c1, c2, c3, c4, c5, c6, rfl⟩ := seven cs hl7
  obtain ⟨y0, y1, y2, rfl⟩ := three xs hx3
  have t0 : DataW.trod enc Try.prog w base spare held n 3 [c0] = some y0 := by simpa [hi] using hf 0 _ rfl
  have t1 : DataW.trod enc Try.prog w base spare held n 32 [c1, c2, c3, c4, c5] = some y1 := by simpa [Try.cellsRec] using hf 1 _ rfl
  have t2 : DataW.trod enc Try.prog w base spare held n 4 [c6] = some y2 := by simpa [hb] using hf 2 _ rfl
  obtain ⟨k, e0, -, -⟩ := DataW.trod_int Try.underlying3 t0
  obtain ⟨b, e2, -⟩ := DataW.trod_bool Try.underlying4 t2
  obtain ⟨a0, a1, a2, a3, u, n1, y, e1, -, t5, -⟩ := rec_read t1
  obtain ⟨bs, hbs⟩ := bytes_read t5
  cases e0; cases e1; cases e2
  exact ⟨⟨k, ⟨a0, a1, a2, a3, bs⟩, b⟩, c5, rfl, hbs⟩

theorem acts_read11 {H : Type} {enc : TypeId × Value → H} {w : World} {base : Nat} {spare : Nat → Bool} {held : Bool} {fuel : Nat} {v : Value} {x : DataW H × List MemPlace}
    (h : DataW.trod enc Try.prog w base spare held fuel 22 [v] = some x) : ∃ L, ActsAt w v L := by
  rcases open_slice Try.underlying22 h with ⟨hcs, -⟩ | ⟨a, len, cap, m, n, D, Pl, hcs, -, hl, hm, hmm, -, hx⟩
  · cases hcs
    exact ⟨[], none, 0, rfl, Nat.le_refl _, by omega, fun i x h => by simp at h⟩
  · cases hcs
    have hc7 : Try.prog.cellsOf 34 = 7 := by kernel_rfl
    have hlm : len ≤ m := by rw [hmm]; split <;> omega
    obtain ⟨b, o, spot⟩ := a
    obtain ⟨L, hL, hP⟩ := choose_list (P := fun i (x : PL.Act) => ∃ u, (∀ (j : Nat) v, ([.int .i64 x.k, .int .i64 x.r.p, .int .i64 x.r.e, .int .i64 x.r.t, .int .i64 x.r.q, u, .bool x.c] : List Value)[j]? = some v → w.cell? (((⟨b, o, spot⟩ : Addr).add (i * 7)).add j) = some v) ∧ BytesAt w u x.r.v) len (fun i hi => by
      obtain ⟨cs', h1, h2⟩ := hx i (by omega)
      rw [hc7] at h1
      obtain ⟨a, u, rfl, hu⟩ := act_read11 h2
      exact ⟨a, u, cells?_at h1, hu⟩)
    refine ⟨L, some ⟨b, o, spot⟩, cap, by rw [hL], by rw [hL]; exact hl, by unfold maxLen at hm; omega, fun i x hx => ?_⟩
    obtain ⟨u, hc, hu⟩ := hP i x hx
    have hspot : spot = none := by
      have hl0 : 0 < L.length := by have := (List.getElem?_eq_some_iff.1 hx).1; omega
      obtain ⟨u0, hc0, -⟩ := hP 0 _ (List.getElem?_eq_getElem hl0)
      simpa [Addr.add] using World.cell?_spot (hc0 0 _ rfl)
    subst hspot
    simp only [add_plain] at hc
    exact ⟨b, o, u, rfl, ⟨hc 0 _ rfl, hc 1 _ rfl, hc 2 _ rfl, hc 3 _ rfl, hc 4 _ rfl, hc 5 _ rfl, hc 6 _ rfl⟩, hu⟩

set_option maxRecDepth 100000 in
theorem act_read12 {H : Type} {enc : TypeId × Value → H} {w : World} {base : Nat} {spare : Nat → Bool} {held : Bool} {fuel : Nat} {cs : List Value} {x : DataW H × List MemPlace}
    (h : DataW.trod enc Try.prog w base spare held fuel 96 cs = some x) :
    ∃ (a : PL.Act) (u : Value), cs = [.int .i64 a.k, .int .i64 a.r.p, .int .i64 a.r.e, .int .i64 a.r.t, .int .i64 a.r.q, u, .bool a.c] ∧ BytesAt w u a.r.v := by
  obtain ⟨xs, n, -, -, hl, hxs, hf⟩ := DataW.trod_struct Try.underlying96 h
  have hl7 : cs.length = 7 := hl.trans (by kernel_rfl)
  have hi : Try.prog.cellsOf 3 = 1 := by kernel_rfl
  have hb : Try.prog.cellsOf 4 = 1 := by kernel_rfl
  have hx3 : xs.length = 3 := hxs
  clear hxs hl
  obtain ⟨c0, c1, c2, c3, c4, c5, c6, rfl⟩ := seven cs hl7
  obtain ⟨y0, y1, y2, rfl⟩ := three xs hx3
  have t0 : DataW.trod enc Try.prog w base spare held n 3 [c0] = some y0 := by simpa [hi] using hf 0 _ rfl
  have t1 : DataW.trod enc Try.prog w base spare held n 32 [c1, c2, c3, c4, c5] = some y1 := by simpa [Try.cellsRec] using hf 1 _ rfl
  have t2 : DataW.trod enc Try.prog w base spare held n 4 [c6] = some y2 := by simpa [hb] using hf 2 _ rfl
  obtain ⟨k, e0, -, -⟩ := DataW.trod_int Try.underlying3 t0
  obtain ⟨b, e2, -⟩ := DataW.trod_bool Try.underlying4 t2
  obtain ⟨a0, a1, a2, a3, u, n1, y, e1, -, t5, -⟩ := rec_read t1
  obtain ⟨bs, hbs⟩ := bytes_read t5
  cases e0; cases e1; cases e2
  exact ⟨⟨k, ⟨a0, a1, a2, a3, bs⟩, b⟩, c5, rfl, hbs⟩

theorem acts_read12 {H : Type} {enc : TypeId × Value → H} {w : World} {base : Nat} {spare : Nat → Bool} {held : Bool} {fuel : Nat} {v : Value} {x : DataW H × List MemPlace}
    (h : DataW.trod enc Try.prog w base spare held fuel 58 [v] = some x) : ∃ L, ActsAt w v L := by
  rcases open_slice Try.underlying58 h with ⟨hcs, -⟩ | ⟨a, len, cap, m, n, D, Pl, hcs, -, hl, hm, hmm, -, hx⟩
  · cases hcs
    exact ⟨[], none, 0, rfl, Nat.le_refl _, by omega, fun i x h => by simp at h⟩
  · cases hcs
    have hc7 : Try.prog.cellsOf 96 = 7 := by kernel_rfl
    have hlm : len ≤ m := by rw [hmm]; split <;> omega
    obtain ⟨b, o, spot⟩ := a
    obtain ⟨L, hL, hP⟩ := choose_list (P := fun i (x : PL.Act) => ∃ u, (∀ (j : Nat) v, ([.int .i64 x.k, .int .i64 x.r.p, .int .i64 x.r.e, .int .i64 x.r.t, .int .i64 x.r.q, u, .bool x.c] : List Value)[j]? = some v → w.cell? (((⟨b, o, spot⟩ : Addr).add (i * 7)).add j) = some v) ∧ BytesAt w u x.r.v) len (fun i hi => by
      obtain ⟨cs', h1, h2⟩ := hx i (by omega)
      rw [hc7] at h1
      obtain ⟨a, u, rfl, hu⟩ := act_read12 h2
      exact ⟨a, u, cells?_at h1, hu⟩)
    refine ⟨L, some ⟨b, o, spot⟩, cap, by rw [hL], by rw [hL]; exact hl, by unfold maxLen at hm; omega, fun i x hx => ?_⟩
    obtain ⟨u, hc, hu⟩ := hP i x hx
    have hspot : spot = none := by
      have hl0 : 0 < L.length := by have := (List.getElem?_eq_some_iff.1 hx).1; omega
      obtain ⟨u0, hc0, -⟩ := hP 0 _ (List.getElem?_eq_getElem hl0)
      simpa [Addr.add] using World.cell?_spot (hc0 0 _ rfl)
    subst hspot
    simp only [add_plain] at hc
    exact ⟨b, o, u, rfl, ⟨hc 0 _ rfl, hc 1 _ rfl, hc 2 _ rfl, hc 3 _ rfl, hc 4 _ rfl, hc 5 _ rfl, hc 6 _ rfl⟩, hu⟩

end Go.Proofs.Ytjjlbancofkinaa
