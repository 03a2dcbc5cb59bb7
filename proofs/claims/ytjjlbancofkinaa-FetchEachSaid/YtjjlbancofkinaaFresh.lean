/-
  append([]T{}, xs...): a row of its own; at a place of a region that draws its order too.
-/
import Derived.Test.YtjjlbancofkinaaDrawn
import Derived.Test.YtjjlbancofkinaaPlogI
import Derived.Laws.OwnMore
namespace Go.Proofs.Ytjjlbancofkinaa
open Go.RowKit

section
variable {P : Program}

/-- A row's source: nothing, or cells that lie in memory. -/
def Source (w : World) (sv : Value) (m : Nat) (news : List Value) : Prop :=
  ∃ ao c, sv = .slice ao m c ∧ (ao = none → m = 0) ∧ ∀ j u, news[j]? = some u → ∃ ad, ao = some ad ∧ w.cell? (ad.add j) = some u

theorem Source.same {w w' : World} {sv : Value} {m : Nat} {news : List Value} (h : Source w sv m news) (hb : Below w.heap.size w w') : Source w' sv m news := by
  obtain ⟨ao, c, h1, h2, h3⟩ := h
  refine ⟨ao, c, h1, h2, fun j u hu => ?_⟩
  obtain ⟨ad, h4, h5⟩ := h3 j u hu
  refine ⟨ad, h4, ?_⟩
  rw [World.cell?_of_block (w := w) (a := ad.add j) (hb.block _ (World.block_lt_of_cell? w _ h5))]
  exact h5

/-- An empty row that was made. -/
def Empty (w : World) (base : Nat) (e : TypeId) (v : Value) : Prop := ∃ g, v = .slice (some ⟨g, 0, none⟩) 0 0 ∧ base ≤ g ∧ w.heap[g]? = some (.cells #[] e (0, 0))
theorem Empty.made (w : World) (e : TypeId) {base : Nat} (h : base ≤ w.heap.size) : Empty (w.alloc (.cells #[] e)) base e (.slice (some ⟨w.heap.size, 0, none⟩) 0 0) := ⟨_, rfl, h, heap_alloc_new w _⟩
theorem Empty.same {w w' : World} {base : Nat} {e : TypeId} {v : Value} (h : Empty w base e v) (hb : Below w.heap.size w w') : Empty w' base e v := by
  obtain ⟨g, h1, h2, h3⟩ := h
  exact ⟨g, h1, h2, (hb.block g (Array.getElem?_eq_some_iff.1 h3).1).trans h3⟩

theorem run_append_zero (w : World) (t ty e : TypeId) (i : TypeInfo) (ht : P.underlying t = some (.slice e)) (hi : P.info? e = some i) (g : Nat) (ao : Option Addr) (c : Nat) :
    (Builtin.append_ #[t, t] ty #[.slice (some ⟨g, 0, none⟩) 0 0, .slice ao 0 c]).run P w = .ok (.slice (some ⟨g, 0, none⟩) 0 0) w := by
  cases ao with
  | none => simp [Builtin.append_, run_underlying ht, sizeOf, typeInfo, hi, Builtin.lenOf, Builtin.firstCells, storeCells]
  | some ad =>
    have hf := run_firstCells_some (P := P) w i.size 0 ad 0 c [] (by simp) (fun j u h => by simp at h)
    simp [Builtin.append_, run_underlying ht, sizeOf, typeInfo, hi, Builtin.lenOf, hf, storeCells]

theorem run_append_fresh (w : World) (base : Nat) (t ty e : TypeId) (i : TypeInfo) (z : Value) (size bytes : Nat) (ht : P.underlying t = some (.slice e)) (hi : P.info? e = some i) (hz : i.zero = some z)
    (hsize : i.size = size) (hby : i.bytes = bytes) (hzs : z.cells.size = size) (hsz : 0 < size)
    (v sv : Value) (m : Nat) (news : List Value) (hv : Empty w base e v) (hs : Source w sv m news) (hl : news.length = m * size) (h1 : ∀ u ∈ news, u.oneCell' = true) (hbytes : m * bytes ≤ 140737488355328) (hm : m ≤ maxLen) (hbase : base ≤ w.heap.size) :
    ∃ v' w', (Builtin.append_ #[t, t] ty #[v, sv]).run P w = .ok v' w' ∧ w'.ownsRow base e size v' m news ∧ Below w.heap.size w w' := by
  obtain ⟨g, rfl, hg, hc⟩ := hv
  obtain ⟨ao, c, rfl, hn, hcell⟩ := hs
  have hown : w.ownsRow base e size (.slice (some ⟨g, 0, none⟩) 0 0) 0 [] := ⟨by simp, .inr ⟨g, 0, #[], rfl, hg, hc, Nat.le_refl _, by unfold maxLen; omega, by simp, by simp⟩⟩
  rcases Nat.eq_zero_or_pos m with rfl | hpos
  · obtain rfl : news = [] := List.eq_nil_of_length_eq_zero (by simpa using hl)
    exact ⟨_, _, run_append_zero w t ty e i ht hi g ao c, hown, below_refl _⟩
  · cases ao with
    | none => exact absurd (hn rfl) (by omega)
    | some ad =>
      have hnews : ∀ j u, news[j]? = some u → w.cell? (ad.add j) = some u := fun j u hu => by
        obtain ⟨ad', h', h''⟩ := hcell j u hu
        cases h'; exact h''
      obtain ⟨v', w', hr, h2, -, -⟩ := run_append_own (P := P) w base t ty e i z size bytes ht hi hz hsize hby hzs hsz _ 0 [] hown ad m c news hl hnews h1 (by simpa using hm) (by simpa using hbytes) hbase
      have hr2 := run_append_grow (P := P) w t ty e i z ht hi hz ⟨g, 0, none⟩ 0 0 [] (by simp) (fun j v h => by simp at h) ad m c news (by rw [hl, hsize]) hnews (by omega) (by unfold maxLen at hm; omega) (by
        have := growslice_fits (need := 0 + m) (old := 0) (bytes := i.bytes) (by omega) (by rw [hby]; simpa using hbytes)
        exact this)
      rw [hr] at hr2
      refine ⟨v', w', hr, by simpa using h2, ?_⟩
      injection hr2 with _ e2
      rw [e2]
      exact below_alloc (below_drew (below_refl _)) _

theorem wp_append_fresh {w : World} {o : Oper} {a : Act} {K : Act → World → Prop} {Q : Exit → Act → World → Prop} (s x : Operand) (t : TypeId)
    (ho : o.op = .call { callee := .builtin .append, args := #[s, x], argTypes := #[t, t] })
    (base : Nat) (e : TypeId) (i : TypeInfo) (z : Value) (size bytes : Nat) (ht : P.underlying t = some (.slice e)) (hi : P.info? e = some i) (hz : i.zero = some z)
    (hsize : i.size = size) (hby : i.bytes = bytes) (hzs : z.cells.size = size) (hsz : 0 < size)
    (v sv : Value) (m : Nat) (news : List Value) (hs : a.eval s = v) (hx : a.eval x = sv) (hv : Empty w base e v) (hsrc : Source w sv m news) (hl : news.length = m * size) (h1 : ∀ u ∈ news, u.oneCell' = true) (hbytes : m * bytes ≤ 140737488355328) (hm : m ≤ maxLen) (hbase : base ≤ w.heap.size)
    (h : ∀ v' w', w'.ownsRow base e size v' m news → Below w.heap.size w w' → K (a.put o.dst v') w') : o.wp P a w K Q := by
  obtain ⟨v', w', hr, h2, h3⟩ := run_append_fresh (P := P) w base t o.type e i z size bytes ht hi hz hsize hby hzs hsz v sv m news hv hsrc hl h1 hbytes hm hbase
  unfold Oper.wp execOp
  simp only [ho, resolve, invoke, builtin, Sem.run_bind, Sem.run_pure, Result.andThen_ok, List.map_toArray, List.map_cons, List.map_nil, hs, hx, hr]
  exact h v' w' h2 h3

theorem wpList_append_fresh {w : World} {ops : Array Oper} {rest : List Oper} {o : Oper} {a : Act} {Q : Exit → Act → World → Prop} (hgd : o.guard = none) (s x : Operand) (t : TypeId)
    (ho : o.op = .call { callee := .builtin .append, args := #[s, x], argTypes := #[t, t] })
    (base : Nat) (e : TypeId) (i : TypeInfo) (z : Value) (size bytes : Nat) (ht : P.underlying t = some (.slice e)) (hi : P.info? e = some i) (hz : i.zero = some z)
    (hsize : i.size = size) (hby : i.bytes = bytes) (hzs : z.cells.size = size) (hsz : 0 < size)
    (v sv : Value) (m : Nat) (news : List Value) (hs : a.eval s = v) (hx : a.eval x = sv) (hv : Empty w base e v) (hsrc : Source w sv m news) (hl : news.length = m * size) (h1 : ∀ u ∈ news, u.oneCell' = true) (hbytes : m * bytes ≤ 140737488355328) (hm : m ≤ maxLen) (hbase : base ≤ w.heap.size)
    (h : ∀ v' w', w'.ownsRow base e size v' m news → Below w.heap.size w w' → wpList P ops Q rest (a.put o.dst v') w') : wpList P ops Q (o :: rest) a w :=
  wpList_plain hgd fun _ hK => wp_append_fresh s x t ho base e i z size bytes ht hi hz hsize hby hzs hsz v sv m news hs hx hv hsrc hl h1 hbytes hm hbase fun v' w' h2 h3 => hK _ _ (h v' w' h2 h3)

/-! ### three operations, the second behind the first, the third beside them -/
variable {ops : Array Oper} {Q : Exit → Act → World → Prop} {md : Region.Mode} {S : World → Prop} {z : Nat}

theorem wpZ_pick {n : Nat} {l : Array Bool} {a : Act} {w : World} (hne : Region.ready md ops l ≠ [])
    (h : ∀ i ∈ Region.ready md ops l, ∃ o, ops[i]? = some o ∧ o.guard = none ∧ ∀ K : Act → World → Prop, (∀ a' w', (i ≠ z → S w') → wpZ P md ops Q S z n (l.setIfInBounds i true) a' w' → K a' w') → o.wp P a w K Q) :
    wpZ P md ops Q S z (n + 1) l a w := by
  refine ⟨fun h0 => absurd h0 hne, fun i hi => ?_⟩
  obtain ⟨o, ho, hg, hw⟩ := h i hi
  have h' := hw _ (fun a' w' h1 h2 => (⟨h1, h2⟩ : (i ≠ z → S w') ∧ wpZ P md ops Q S z n (l.setIfInBounds i true) a' w'))
  unfold wpOp
  simp only [ho]
  rw [if_pos (by simp [Region.wanted, hg])]
  exact .inl h'

theorem put_comm {a : Act} {i j : Nat} (h : i ≠ j) (u v : Value) : (a.put (some i) u).put (some j) v = (a.put (some j) v).put (some i) u := by
  simp only [Act.put]
  rw [Array.setIfInBounds_comm _ _ h]

theorem wpZ_three {n : Nat} {l : Array Bool} {a : Act} {w : World} (i1 i2 i3 : Nat) {o1 o2 o3 : Oper} (hi1 : ops[i1]? = some o1) (hi2 : ops[i2]? = some o2) (hi3 : ops[i3]? = some o3) (hg1 : o1.guard = none) (hg2 : o2.guard = none) (hg3 : o3.guard = none)
    (n12 : i1 ≠ i2) (n13 : i1 ≠ i3) (n23 : i2 ≠ i3) (d1 d2 d3 : Nat) (m13 : d1 ≠ d3) (m23 : d2 ≠ d3)
    (r0 : Region.ready md ops l = [i1, i3]) (r1 : Region.ready md ops (l.setIfInBounds i1 true) = [i2, i3]) (r3 : Region.ready md ops (l.setIfInBounds i3 true) = [i1])
    (r13 : Region.ready md ops ((l.setIfInBounds i1 true).setIfInBounds i3 true) = [i2]) (r12 : Region.ready md ops ((l.setIfInBounds i1 true).setIfInBounds i2 true) = [i3])
    (F1 F2 F3 : Value → World → Prop) (m1 : ∀ v W W', F1 v W → Below W.heap.size W W' → F1 v W') (m2 : ∀ v W W', F2 v W → Below W.heap.size W W' → F2 v W') (m3 : ∀ v W W', F3 v W → Below W.heap.size W W' → F3 v W')
    (hS : ∀ W, Below w.heap.size w W → S W)
    (s1 : ∀ a' W (K : Act → World → Prop), Below w.heap.size w W → (∀ v W', F1 v W' → Below W.heap.size W W' → K (a'.put (some d1) v) W') → o1.wp P a' W K Q)
    (s2 : ∀ a' W (K : Act → World → Prop) v, Below w.heap.size w W → F1 v W → (a' = a.put (some d1) v ∨ ∃ v3, a' = (a.put (some d1) v).put (some d3) v3) → (∀ v2 W', F2 v2 W' → Below W.heap.size W W' → K (a'.put (some d2) v2) W') → o2.wp P a' W K Q)
    (s3 : ∀ a' W (K : Act → World → Prop), Below w.heap.size w W → (a' = a ∨ (∃ v, a' = a.put (some d1) v) ∨ ∃ v v2, a' = (a.put (some d1) v).put (some d2) v2) → (∀ v3 W', F3 v3 W' → Below W.heap.size W W' → K (a'.put (some d3) v3) W') → o3.wp P a' W K Q)
    (fin : ∀ v1 v2 v3 W', F1 v1 W' → F2 v2 W' → F3 v3 W' → Below w.heap.size w W' → wpZ P md ops Q S z n (((l.setIfInBounds i1 true).setIfInBounds i2 true).setIfInBounds i3 true) (((a.put (some d1) v1).put (some d2) v2).put (some d3) v3) W') :
    wpZ P md ops Q S z (n + 1 + 1 + 1) l a w := by
  refine wpZ_pick (by rw [r0]; simp) fun i hi => ?_
  rw [r0] at hi
  rcases List.mem_cons.1 hi with rfl | hi
  · refine ⟨o1, hi1, hg1, fun K hK => s1 a w K (below_refl _) fun v W h1 hb1 => hK _ _ (fun _ => hS _ hb1) ?_⟩
    refine wpZ_pick (by rw [r1]; simp) fun j hj => ?_
    rw [r1] at hj
    rcases List.mem_cons.1 hj with rfl | hj
    · refine ⟨o2, hi2, hg2, fun K hK => s2 _ W K v hb1 h1 (.inl rfl) fun v2 W2 h2 hb2 => hK _ _ (fun _ => hS _ (below_step hb1 hb2)) ?_⟩
      refine wpZ_pick (by rw [r12]; simp) fun k hk => ?_
      rw [r12] at hk
      obtain rfl := List.mem_singleton.1 hk
      refine ⟨o3, hi3, hg3, fun K hK => s3 _ W2 K (below_step hb1 hb2) (.inr (.inr ⟨v, v2, rfl⟩)) fun v3 W3 h3 hb3 => hK _ _ (fun _ => hS _ (below_step (below_step hb1 hb2) hb3)) ?_⟩
      exact fin v v2 v3 W3 (m1 _ _ _ (m1 _ _ _ h1 hb2) hb3) (m2 _ _ _ h2 hb3) h3 (below_step (below_step hb1 hb2) hb3)
    · obtain rfl := List.mem_singleton.1 hj
      refine ⟨o3, hi3, hg3, fun K hK => s3 _ W K hb1 (.inr (.inl ⟨v, rfl⟩)) fun v3 W2 h3 hb2 => hK _ _ (fun _ => hS _ (below_step hb1 hb2)) ?_⟩
      refine wpZ_pick (by rw [r13]; simp) fun k hk => ?_
      rw [r13] at hk
      obtain rfl := List.mem_singleton.1 hk
      refine ⟨o2, hi2, hg2, fun K hK => s2 _ W2 K v (below_step hb1 hb2) (m1 _ _ _ h1 hb2) (.inr ⟨v3, rfl⟩) fun v2 W3 h2 hb3 => hK _ _ (fun _ => hS _ (below_step (below_step hb1 hb2) hb3)) ?_⟩
      have := fin v v2 v3 W3 (m1 _ _ _ (m1 _ _ _ h1 hb2) hb3) h2 (m3 _ _ _ h3 hb3) (below_step (below_step hb1 hb2) hb3)
      rw [put_comm m23, Array.setIfInBounds_comm _ _ n23] at this
      exact this
  · obtain rfl := List.mem_singleton.1 hi
    refine ⟨o3, hi3, hg3, fun K hK => s3 a w K (below_refl _) (.inl rfl) fun v3 W h3 hb1 => hK _ _ (fun _ => hS _ hb1) ?_⟩
    refine wpZ_pick (by rw [r3]; simp) fun j hj => ?_
    rw [r3] at hj
    obtain rfl := List.mem_singleton.1 hj
    refine ⟨o1, hi1, hg1, fun K hK => s1 _ W K hb1 fun v W2 h1 hb2 => hK _ _ (fun _ => hS _ (below_step hb1 hb2)) ?_⟩
    rw [Array.setIfInBounds_comm _ _ (Ne.symm n13), put_comm (Ne.symm m13)]
    refine wpZ_pick (by rw [r13]; simp) fun k hk => ?_
    rw [r13] at hk
    obtain rfl := List.mem_singleton.1 hk
    refine ⟨o2, hi2, hg2, fun K hK => s2 _ W2 K v (below_step hb1 hb2) h1 (.inr ⟨v3, rfl⟩) fun v2 W3 h2 hb3 => hK _ _ (fun _ => hS _ (below_step (below_step hb1 hb2) hb3)) ?_⟩
    have := fin v v2 v3 W3 (m1 _ _ _ h1 hb3) h2 (m3 _ _ _ (m3 _ _ _ h3 hb2) hb3) (below_step (below_step hb1 hb2) hb3)
    rw [put_comm m23, Array.setIfInBounds_comm _ _ n23] at this
    exact this

end
end Go.Proofs.Ytjjlbancofkinaa
