/-
  A region that draws its order, whose last operation (number z) waits for all others: what S says of the world is asked behind every operation but that one.
-/
import Derived.OrdersHeld
import Derived.Deep.AppendLies
namespace Go.Proofs.Ytjjlbancofkinaa

variable {P : Program} {ops : Array Oper} {Q : Exit → Act → World → Prop} {md : Region.Mode} {S : World → Prop} {z : Nat}

/-- Whatever comes up next, and S behind all but number z. -/
def wpZ (P : Program) (md : Region.Mode) (ops : Array Oper) (Q : Exit → Act → World → Prop) (S : World → Prop) (z : Nat) : Nat → Array Bool → Act → World → Prop
  | 0, l, a, w => Region.ready md ops l = [] ∧ Q .normal a w
  | n + 1, l, a, w => (Region.ready md ops l = [] → Q .normal a w) ∧
      ∀ i ∈ Region.ready md ops l, wpOp P ops Q i (fun a' w' => (i ≠ z → S w') ∧ wpZ P md ops Q S z n (l.setIfInBounds i true) a' w') a w

theorem wpZ_any : ∀ (n : Nat) (l : Array Bool) (a : Act) (w : World), wpZ P md ops Q S z n l a w → wpAny P md ops Q n l a w
  | 0, _, _, _, h => h
  | n + 1, _, _, _, h => ⟨h.1, fun i hi => wpOp_mono (fun a' w' h' => wpZ_any n _ a' w' h'.2) (h.2 i hi)⟩

theorem region_wpZ {id : Nat} {a : Act} {w : World} (z : Nat) (S : World → Prop) (hm : P.follows .mixedOrders = true)
    (h : wpZ P .any ops Q S z ops.size (Array.replicate ops.size false) a w.drew) : (Code.region id ops true).wp P Q a w :=
  wp_region_any hm (wpZ_any _ _ _ _ h)

theorem wpZ_front {i : Nat} {oi oz : Oper} {v : Value} (hi : ops[i]? = some oi) (hsel : ∀ (j : Nat) (o : Oper) cs b, ops[j]? = some o → o.op ≠ .select cs b)
    (hQ : ∀ c a w, Q (.panic c) (a.put oi.dst v) w → Q (.panic c) a w) (hz : ops[z]? = some oz) (hiz : i ≠ z) (hzi : ∃ e ∈ oz.after, Region.binds md e = true ∧ e.on = i) :
    ∀ (n : Nat) (l : Array Bool) (a : Act) (w : World),
      (∀ j oj, ops[j]? = some oj → j ≠ i → l.getD j true = false → (∀ e ∈ oj.after, Region.binds md e = true → e.on ≠ i) → oi.apart ops oj = true) →
      i ∈ Region.ready md ops l → YieldsIf P ops S oi v a → S w → wpZ P md ops Q S z n (l.setIfInBounds i true) (a.put oi.dst v) w → wpZ P md ops Q S z (n + 1) l a w := by
  intro n
  induction n with
  | zero =>
    intro l a w _ hr hy hS H
    refine ⟨fun h => absurd hr (by simp [h]), fun j hj => ?_⟩
    rcases Nat.decEq j i with hji | rfl
    · exact absurd (ready_mono hj hji) (by simp [H.1])
    · exact hy.wpOp hi hS ⟨fun _ => hS, H⟩
  | succ n ih =>
    intro l a w hfr hr hy hS H
    refine ⟨fun h => absurd hr (by simp [h]), fun j hj => ?_⟩
    rcases Nat.decEq j i with hji | rfl
    · obtain ⟨hjl, oj, hoj, hall⟩ := mem_ready.1 hj
      have hni : ∀ e ∈ oj.after, Region.binds md e = true → e.on ≠ i := by
        intro e he hb heq
        have h1 := hall e he hb
        have h0 := (mem_ready.1 hr).1
        rw [heq] at h1
        rcases Nat.lt_or_ge i l.size with hlt | hge
        · simp [hlt] at h0 h1; rw [h0] at h1; cases h1
        · simp [Array.getElem?_eq_none hge] at h1
      have hjz : j ≠ z := by
        rintro rfl
        rw [hz] at hoj; cases hoj
        obtain ⟨e, he, hb, ho⟩ := hzi
        exact hni e he hb ho
      have step := wpOp_putIf hoj (hfr j oj hoj hji hjl hni) (fun cs b => hsel i oi cs b hi) (fun cs b => hsel j oj cs b hoj) hQ hy (H.2 j (ready_mono hj hji))
      refine wpOp_mono (fun a' w' hk => ?_) step
      have hS' := hk.2.1 hjz
      refine ⟨fun _ => hS', ih (l.setIfInBounds j true) a' w' (fun k ok hk' hki hun hno => hfr k ok hk' hki ?_ hno) (ready_mono hr (Ne.symm hji)) hk.1 hS' ?_⟩
      · rcases Nat.decEq j k with hjk | rfl
        · rwa [getD_set_ne true hjk] at hun
        · exact hjl
      · rw [Array.setIfInBounds_comm _ _ hji]; exact hk.2.2
    · exact hy.wpOp hi hS ⟨fun _ => hS, H⟩

/-- Does operation z wait for number i? -/
def waitsB (md : Region.Mode) (ops : Array Oper) (z i : Nat) : Bool := i != z && ((ops[z]?).map fun o => o.after.any fun e => Region.binds md e && e.on == i).getD false
theorem waitsB_spec {i : Nat} (h : waitsB md ops z i = true) : i ≠ z ∧ ∃ oz, ops[z]? = some oz ∧ ∃ e ∈ oz.after, Region.binds md e = true ∧ e.on = i := by
  unfold waitsB at h
  rw [Bool.and_eq_true, bne_iff_ne] at h
  refine ⟨h.1, ?_⟩
  cases hz : ops[z]? with
  | none => rw [hz] at h; simp at h
  | some oz =>
    have h2 := h.2
    rw [hz] at h2
    simp only [Option.map_some, Option.getD_some] at h2
    obtain ⟨e, he, hb⟩ := Array.any_eq_true'.1 h2
    rw [Bool.and_eq_true, beq_iff_eq] at hb
    exact ⟨oz, rfl, e, he, hb⟩

/-- Number i is taken first. -/
theorem wpZ_take {i : Nat} {oi : Oper} {v : Value} {n : Nat} {l : Array Bool} {a : Act} {w : World} (hi : ops[i]? = some oi) (hs : Region.noSelect ops = true) (hf : Region.free md ops l i = true)
    (hr : (Region.ready md ops l).contains i = true) (hw : waitsB md ops z i = true) (hQ : ∀ c a w, Q (.panic c) (a.put oi.dst v) w → Q (.panic c) a w) (hy : YieldsIf P ops S oi v a) (hS : S w)
    (h : wpZ P md ops Q S z n (l.setIfInBounds i true) (a.put oi.dst v) w) : wpZ P md ops Q S z (n + 1) l a w := by
  obtain ⟨h1, oz, hz, h2⟩ := waitsB_spec hw
  exact wpZ_front hi (Region.noSelect_spec hs) hQ hz h1 h2 n l a w (Region.free_spec hi hf) (by simpa using hr) hy hS h

/-- One alone may come up. -/
theorem wpZ_one {i : Nat} {o : Oper} {n : Nat} {l : Array Bool} {a : Act} {w : World} (hr : Region.ready md ops l = [i]) (hi : ops[i]? = some o)
    (h : ∀ K : Act → World → Prop, (∀ a' w', (i ≠ z → S w') → wpZ P md ops Q S z n (l.setIfInBounds i true) a' w' → K a' w') → if Region.wanted o (yielded ops a.tmps) = true then o.wp P a w K Q else K (a.put o.dst undef) w) :
    wpZ P md ops Q S z (n + 1) l a w := by
  refine ⟨(fun h0 => by rw [hr] at h0; cases h0), fun j hj => ?_⟩
  rw [hr] at hj
  obtain rfl := List.mem_singleton.1 hj
  have h' := h _ (fun a' w' h1 h2 => (⟨h1, h2⟩ : (j ≠ z → S w') ∧ wpZ P md ops Q S z n (l.setIfInBounds j true) a' w'))
  unfold wpOp
  simp only [hi]
  split
  · rename_i hw; rw [if_pos hw] at h'; exact .inl h'
  · rename_i hw; rw [if_neg hw] at h'; exact h'

/-- One alone may come up, and it has no guard. -/
theorem wpZ_op {i : Nat} {o : Oper} {n : Nat} {l : Array Bool} {a : Act} {w : World} (hr : Region.ready md ops l = [i]) (hi : ops[i]? = some o) (hg : o.guard = none)
    (h : ∀ K : Act → World → Prop, (∀ a' w', (i ≠ z → S w') → wpZ P md ops Q S z n (l.setIfInBounds i true) a' w' → K a' w') → o.wp P a w K Q) :
    wpZ P md ops Q S z (n + 1) l a w :=
  wpZ_one hr hi (fun K hK => by rw [if_pos (by simp [Region.wanted, hg])]; exact h K hK)

theorem at_zero {o : Oper} {l : List Oper} (h : 0 < (o :: l).toArray.size) : (o :: l).toArray[0]'h = o := rfl
theorem at_succ {o : Oper} {l : List Oper} {n : Nat} (h : n + 1 < (o :: l).toArray.size) : (o :: l).toArray[n + 1]'h = l.toArray[n]'(by simpa using h) := rfl

theorem wpZ_done {n : Nat} {l : Array Bool} {a : Act} {w : World} (hr : Region.ready md ops l = []) (h : Q .normal a w) : wpZ P md ops Q S z n l a w := by
  cases n with
  | zero => exact ⟨hr, h⟩
  | succ n => exact ⟨fun _ => h, by rw [hr]; simp⟩

end Go.Proofs.Ytjjlbancofkinaa
