/-
  A map whose keys are numbers: what it holds, a lookup, a store, a delete, its length.
-/
import Derived.Test.YtjjlbancofkinaaMem
namespace Go.Proofs.Ytjjlbancofkinaa
open Go.RowKit

/-- Block m is a map that holds just these keys, in this order, each once, with these values. -/
def MapI (w : World) (m : Nat) (L : List (Int × Value)) : Prop :=
  ∃ es clock, w.heap[m]? = some (.map es clock) ∧ es.toList.map (fun e => (e.key, e.val)) = L.map (fun x => (Value.int .i64 x.1, x.2)) ∧ (L.map (·.1)).Nodup

def fnd (k : Int) : List (Int × Value) → Nat → Option (Nat × Value)
  | [], _ => none
  | x :: l, i => if k = x.1 then some (i, x.2) else fnd k l (i + 1)

theorem findNow_int (k : Int) : ∀ (es : List MapEntry) (L : List (Int × Value)) (i : Nat), es.map (fun e => (e.key, e.val)) = L.map (fun x => (Value.int .i64 x.1, x.2)) →
    Instr.findNow (.int .i64) (.int .i64 k) es i = some (fnd k L i)
  | [], [], i, _ => rfl
  | [], x :: L, i, h => by simp at h
  | e :: es, [], i, h => by simp at h
  | e :: es, x :: L, i, h => by
    simp only [List.map_cons, List.cons.injEq, Prod.mk.injEq] at h
    obtain ⟨⟨hk, hv⟩, ht⟩ := h
    by_cases hx : k = x.1
    · simp [Instr.findNow, Instr.sameNow, hk, hv, fnd, hx]
    · have : (k == x.1) = false := by simpa using hx
      simp [Instr.findNow, Instr.sameNow, hk, fnd, hx, this, findNow_int k es L (i + 1) ht]

theorem MapI.same {w w' : World} {m : Nat} {L : List (Int × Value)} (h : MapI w m L) (hb : w'.heap[m]? = w.heap[m]?) : MapI w' m L := by
  obtain ⟨es, c, h1, h2⟩ := h
  exact ⟨es, c, hb.trans h1, h2⟩
theorem MapI.lt {w : World} {m : Nat} {L : List (Int × Value)} (h : MapI w m L) : m < w.heap.size := by
  obtain ⟨es, c, h1, h2⟩ := h
  exact (Array.getElem?_eq_some_iff.1 h1).1
theorem MapI.below {w w' : World} {m : Nat} {L : List (Int × Value)} (h : MapI w m L) (hb : Below w.heap.size w w') : MapI w' m L := h.same (hb.block m h.lt)
theorem MapI.made (w : World) : MapI (w.alloc (.map #[] 0)) w.heap.size [] := ⟨#[], 0, (MapKept.heap_alloc w _).1, rfl, by simp⟩

variable {P : Program}

theorem run_findKey_int {t : TypeId} (ht : P.underlying t = some (.int .i64)) (k : Int) (es : List MapEntry) (L : List (Int × Value)) (h : es.map (fun e => (e.key, e.val)) = L.map (fun x => (Value.int .i64 x.1, x.2))) (w : World) :
    (Instr.findKey t (.int .i64 k) es).run P w = .ok (fnd k L 0) w := by
  simp [Instr.findKey, run_underlying ht, findNow_int k es L 0 h]

theorem run_checkKey_int {t : TypeId} (ht : P.underlying t = some (.int .i64)) (b : Bool) (k : Int) (w : World) : (Instr.checkKey b 10000 t (.int .i64 k)).run P w = .ok () w := by
  show (Instr.checkKey b (9999 + 1) t (.int .i64 k)).run P w = .ok () w
  generalize 9999 = n
  simp [Instr.checkKey, run_underlying ht]

theorem MapI.lookup {w : World} {m : Nat} {L : List (Int × Value)} (h : MapI w m L) {t tk te : TypeId} (ht : P.underlying t = some (.map tk te)) (hk : P.underlying tk = some (.int .i64)) {z : Value} (hz : (zeroValue te).run P w = .ok z w) (k : Int) :
    (Instr.lookup t (.map (some m)) (.int .i64 k) true).run P w = .ok (.tuple #[((fnd k L 0).map (·.2)).getD z, .bool (fnd k L 0).isSome]) w := by
  obtain ⟨es, c, h1, h2, h3⟩ := h
  have hf := run_findKey_int (P := P) hk k es.toList L h2 w
  have hc := run_checkKey_int (P := P) hk es.isEmpty k w
  cases hx : fnd k L 0 with
  | none => rw [hx] at hf; simp [Instr.lookup, run_underlying ht, MapKept.run_getObj_map h1, hf, hc, hz, Result.andThen]
  | some y => obtain ⟨i, v⟩ := y; rw [hx] at hf; simp [Instr.lookup, run_underlying ht, MapKept.run_getObj_map h1, hf, hc, Result.andThen]
theorem MapI.lookup1 {w : World} {m : Nat} {L : List (Int × Value)} (h : MapI w m L) {t tk te : TypeId} (ht : P.underlying t = some (.map tk te)) (hk : P.underlying tk = some (.int .i64)) {z : Value} (hz : (zeroValue te).run P w = .ok z w) (k : Int) :
    (Instr.lookup t (.map (some m)) (.int .i64 k) false).run P w = .ok (((fnd k L 0).map (·.2)).getD z) w := by
  obtain ⟨es, c, h1, h2, h3⟩ := h
  have hf := run_findKey_int (P := P) hk k es.toList L h2 w
  have hc := run_checkKey_int (P := P) hk es.isEmpty k w
  cases hx : fnd k L 0 with
  | none => rw [hx] at hf; simp [Instr.lookup, run_underlying ht, MapKept.run_getObj_map h1, hf, hc, hz, Result.andThen]
  | some y => obtain ⟨i, v⟩ := y; rw [hx] at hf; simp [Instr.lookup, run_underlying ht, MapKept.run_getObj_map h1, hf, hc, Result.andThen]

/-- A store into a list of keys and values. -/
def put (k : Int) (v : Value) (L : List (Int × Value)) : List (Int × Value) :=
  match fnd k L 0 with
  | some (i, _) => L.modify i fun x => (x.1, v)
  | none => L ++ [(k, v)]

theorem fnd_some {k : Int} : ∀ {L : List (Int × Value)} {i j : Nat} {v : Value}, fnd k L i = some (j, v) → i ≤ j ∧ L[j - i]? = some (k, v)
  | [], i, j, v, h => by simp [fnd] at h
  | x :: L, i, j, v, h => by
    unfold fnd at h
    split at h
    · rename_i e; cases h; subst e; simp
    · obtain ⟨h1, h2⟩ := fnd_some h
      refine ⟨by omega, ?_⟩
      rw [show j - i = (j - (i + 1)) + 1 from by omega]
      simpa using h2
theorem fnd_none {k : Int} : ∀ {L : List (Int × Value)} {i : Nat}, fnd k L i = none ↔ ∀ x ∈ L, x.1 ≠ k
  | [], i => by simp [fnd]
  | x :: L, i => by
    unfold fnd
    split
    · rename_i e; simp [e]
    · rename_i e; rw [fnd_none]; simp; exact fun _ => (fun h => e h.symm)
theorem fnd_shift (k : Int) : ∀ (L : List (Int × Value)) (i : Nat), (fnd k L i).map (·.2) = (fnd k L 0).map (·.2)
  | [], i => rfl
  | x :: L, i => by
    unfold fnd
    split
    · rfl
    · rw [fnd_shift k L (i + 1), fnd_shift k L (0 + 1)]
theorem modify_keys (L : List (Int × Value)) (i : Nat) (v : Value) : (L.modify i fun x => (x.1, v)).map (·.1) = L.map (·.1) := by
  apply List.ext_getElem?
  intro j
  rw [List.getElem?_map, List.getElem?_map, List.getElem?_modify]
  cases L[j]? with
  | none => rfl
  | some y => by_cases e : i = j <;> simp [e]
theorem put_nodup {k : Int} {v : Value} {L : List (Int × Value)} (h : (L.map (·.1)).Nodup) : ((put k v L).map (·.1)).Nodup := by
  unfold put
  cases hx : fnd k L 0 with
  | some y => obtain ⟨i, u⟩ := y; simp only; rw [modify_keys]; exact h
  | none =>
    simp only [List.map_append, List.map_cons, List.map_nil]
    rw [fnd_none] at hx
    rw [List.nodup_append]
    refine ⟨h, by simp, ?_⟩
    intro a ha b hb
    simp at hb; subst hb
    obtain ⟨x, hx', rfl⟩ := List.mem_map.1 ha
    exact hx x hx'

/-- What a list of keys and values holds of a key. -/
def val (L : List (Int × Value)) (k : Int) : Option Value := (fnd k L 0).map (·.2)
theorem val_nil (k : Int) : val [] k = none := rfl
theorem val_cons (x : Int × Value) (L : List (Int × Value)) (k : Int) : val (x :: L) k = if k = x.1 then some x.2 else val L k := by
  unfold val
  rw [fnd]
  split
  · rfl
  · exact fnd_shift k L 1
theorem val_append (L : List (Int × Value)) (x : Int × Value) (k : Int) (h : ∀ y ∈ L, y.1 ≠ x.1) : val (L ++ [x]) k = if k = x.1 then some x.2 else val L k := by
  induction L with
  | nil => rw [List.nil_append, val_cons, val_nil]
  | cons y L ih =>
    rw [List.cons_append, val_cons, val_cons, ih (fun z hz => h z (List.mem_cons_of_mem _ hz))]
    have := h y (List.mem_cons_self ..)
    by_cases e : k = y.1
    · subst e; rw [if_pos rfl, if_neg this, if_pos rfl]
    · simp [e]
theorem val_modify (L : List (Int × Value)) : ∀ (i : Nat) (v : Value) (x : Int × Value), (L.map (·.1)).Nodup → L[i]? = some x → ∀ k, val (L.modify i fun y => (y.1, v)) k = if k = x.1 then some v else val L k := by
  induction L with
  | nil => intro i v x _ h; simp at h
  | cons y L ih =>
    intro i v x hn h k
    rw [List.map_cons, List.nodup_cons] at hn
    cases i with
    | zero =>
      simp at h; subst h
      rw [List.modify_zero_cons, val_cons, val_cons]
      by_cases e : k = y.1 <;> simp [e]
    | succ i =>
      rw [List.modify_succ_cons, val_cons, val_cons, ih i v x hn.2 (by simpa using h) k]
      by_cases e : k = y.1
      · subst e
        have hx : x ∈ L := List.mem_of_getElem? (by simpa using h)
        have : y.1 ≠ x.1 := fun e' => hn.1 (List.mem_map.2 ⟨x, hx, e'.symm⟩)
        simp [this]
      · simp [e]
theorem val_put {L : List (Int × Value)} (hn : (L.map (·.1)).Nodup) (k : Int) (v : Value) (j : Int) : val (put k v L) j = if j = k then some v else val L j := by
  unfold put
  cases hx : fnd k L 0 with
  | some y =>
    obtain ⟨i, u⟩ := y
    have := fnd_some hx
    exact val_modify L i v (k, u) hn (by simpa using this.2) j
  | none => exact val_append L (k, v) j (fnd_none.1 hx)
theorem val_some_mem {L : List (Int × Value)} {k : Int} {v : Value} (h : val L k = some v) : (k, v) ∈ L := by
  unfold val at h
  cases hx : fnd k L 0 with
  | none => simp [hx] at h
  | some y =>
    obtain ⟨i, u⟩ := y
    simp [hx] at h; subst h
    exact List.mem_of_getElem? (by simpa using (fnd_some hx).2)
theorem val_isSome {L : List (Int × Value)} {k : Int} : (val L k).isSome = (fnd k L 0).isSome := by unfold val; simp

/-- 'm[k] = v' -/
theorem MapI.update {w : World} {m : Nat} {L : List (Int × Value)} (h : MapI w m L) {t tk te : TypeId} (ht : P.underlying t = some (.map tk te)) (hk : P.underlying tk = some (.int .i64)) (k : Int) (v : Value) :
    ∃ o, (Instr.mapUpdate t (.map (some m)) (.int .i64 k) v).run P w = .ok () (ChangeMaps.setBlock w m o) ∧ MapI (ChangeMaps.setBlock w m o) m (put k v L) := by
  obtain ⟨es, c, h1, h2, h3⟩ := h
  have hf := run_findKey_int (P := P) hk k es.toList L h2 w
  have hc := run_checkKey_int (P := P) hk false k w
  cases hx : fnd k L 0 with
  | none =>
    rw [hx] at hf
    refine ⟨.map (es.push { key := .int .i64 k, val := v, born := c }) (c + 1), ?_, ?_⟩
    · simp [Instr.mapUpdate, run_underlying ht, MapKept.run_getObj_map h1, hf, hc, MapKept.run_setObj_map _ h1, Result.andThen, ChangeMaps.setBlock]
    · refine ⟨_, _, ChangeMaps.heap_setBlock_same h1 _, ?_, put_nodup h3⟩
      unfold put; rw [hx]; simp [h2]
  | some y =>
    obtain ⟨i, u⟩ := y
    rw [hx] at hf
    have hi := (fnd_some hx).2
    simp only [Nat.sub_zero] at hi
    have hes : (es.toList.map (fun e => (e.key, e.val)))[i]? = some (Value.int .i64 k, u) := by rw [h2, List.getElem?_map, hi]; rfl
    rw [List.getElem?_map] at hes
    cases he : es.toList[i]? with
    | none => simp [he] at hes
    | some e =>
      simp [he] at hes
      have he' : es[i]? = some e := by simpa using he
      refine ⟨.map (es.modify i fun e => { e with key := .int .i64 k, val := v }) c, ?_, ?_⟩
      · simp [Instr.mapUpdate, run_underlying ht, MapKept.run_getObj_map h1, hf, hc, MapKept.run_setObj_map _ h1, Result.andThen, ChangeMaps.setBlock, Instr.keyThatStays, he', hes.1, Instr.sameBits]
      · refine ⟨_, _, ChangeMaps.heap_setBlock_same h1 _, ?_, put_nodup h3⟩
        unfold put; rw [hx]
        simp only [Array.toList_modify]
        apply List.ext_getElem?
        intro j
        have hj : (es.toList.map (fun e => (e.key, e.val)))[j]? = (L.map (fun x => (Value.int .i64 x.1, x.2)))[j]? := by rw [h2]
        rw [List.getElem?_map, List.getElem?_map] at hj
        rw [List.getElem?_map, List.getElem?_map, List.getElem?_modify, List.getElem?_modify]
        by_cases e' : i = j
        · subst e'; simp [he, hi]
        · simp [e']; simpa using hj

end Go.Proofs.Ytjjlbancofkinaa
