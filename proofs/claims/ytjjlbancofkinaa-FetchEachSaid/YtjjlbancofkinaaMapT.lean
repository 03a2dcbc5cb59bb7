/-
  A map whose keys are transactions: producer, epoch, number; what it holds is true throughout: a set.
-/
import Derived.Test.YtjjlbancofkinaaMapI
namespace Go.Proofs.Ytjjlbancofkinaa
open Go.RowKit

abbrev Tri := Int × Int × Int
def triV (x : Tri) : Value := .agg #[.int .i64 x.1, .int .i64 x.2.1, .int .i64 x.2.2]

theorem Try.triEq (x y : Tri) (w : World) : (Op.equal 101 (triV x) (triV y)).run Try.prog w = .ok (decide (x = y)) w := by
  obtain ⟨a, b, c⟩ := x
  obtain ⟨a', b', c'⟩ := y
  unfold triV
  have hp : Try.prog.stoodInHeld 101 = false := by kernel_rfl
  have hu := Try.underlying101
  have ht : Try.prog.underlying 101 = some (.struct (Try.prog.fieldsOf 101)) := by unfold Program.fieldsOf; rw [hu]
  have h1 := run_equalIn_struct w (Op.maxDepth - 1) 101 #[.int .i64 a, .int .i64 b, .int .i64 c] #[.int .i64 a', .int .i64 b', .int .i64 c'] ht hp
  simp only [Op.equal]
  rw [show Op.equalIn Op.maxDepth = Op.equalIn (Op.maxDepth - 1 + 1) from rfl]
  rw [h1]
  unfold Program.fieldsOf
  rw [hu]
  have hi : ∀ (x y : Int) (w : World), (Op.equalIn (Op.maxDepth - 1) 3 (.int .i64 x) (.int .i64 y)).run Try.prog w = .ok (x == y) w := fun x y w => run_equalIn_int w 9998 3 .i64 .i64 x y Try.underlying3
  simp [Op.eqFields, go_sem, hi, Result.andThen]
  by_cases e1 : a = a' <;> by_cases e2 : b = b' <;> by_cases e3 : c = c' <;> simp [e1, e2, e3]

/-- Block m is a map that holds just these transactions; all of them true. -/
def MapT (w : World) (m : Nat) (T : List Tri) : Prop :=
  ∃ es clock, w.heap[m]? = some (.map es clock) ∧ es.toList.map (fun e => (e.key, e.val)) = T.map (fun x => (triV x, Value.bool true))

theorem MapT.same {w w' : World} {m : Nat} {T : List Tri} (h : MapT w m T) (hb : w'.heap[m]? = w.heap[m]?) : MapT w' m T := by
  obtain ⟨es, c, h1, h2⟩ := h
  exact ⟨es, c, hb.trans h1, h2⟩
theorem MapT.lt {w : World} {m : Nat} {T : List Tri} (h : MapT w m T) : m < w.heap.size := by
  obtain ⟨es, c, h1, h2⟩ := h
  exact (Array.getElem?_eq_some_iff.1 h1).1
theorem MapT.below {w w' : World} {m : Nat} {T : List Tri} (h : MapT w m T) (hb : Below w.heap.size w w') : MapT w' m T := h.same (hb.block m h.lt)
theorem MapT.made (w : World) : MapT (w.alloc (.map #[] 0)) w.heap.size [] := ⟨#[], 0, (MapKept.heap_alloc w _).1, rfl⟩

theorem triKey (k : Tri) (b : Bool) (w : World) : (Instr.checkKey b 10000 101 (triV k)).run Try.prog w = .ok () w := by
  obtain ⟨x, y, z⟩ := k
  unfold triV
  show (Instr.checkKey b (9998 + 1 + 1) 101 _).run Try.prog w = .ok () w
  generalize 9998 = n
  have hi : ∀ (x : Int) (w : World), (Instr.checkKey b (n + 1) 3 (.int .i64 x)).run Try.prog w = .ok () w := fun x w => by simp [Instr.checkKey, run_underlying Try.underlying3]
  rw [Instr.checkKey]
  simp [run_underlying Try.underlying101, go_sem, hi]

theorem findAsking_tri (k : Tri) (w : World) : ∀ (es : List MapEntry) (T : List Tri) (i : Nat), es.map (fun e => (e.key, e.val)) = T.map (fun x => (triV x, Value.bool true)) →
    ∃ r, (Instr.findAsking 101 (triV k) es i).run Try.prog w = .ok r w ∧ (k ∉ T ∧ r = none ∨ k ∈ T ∧ ∃ j, r = some (i + j, .bool true) ∧ T[j]? = some k)
  | [], [], i, _ => ⟨none, by simp [Instr.findAsking], .inl ⟨by simp, rfl⟩⟩
  | [], x :: T, i, h => by simp at h
  | e :: es, [], i, h => by simp at h
  | e :: es, x :: T, i, h => by
    simp only [List.map_cons, List.cons.injEq, Prod.mk.injEq] at h
    obtain ⟨⟨hk, hv⟩, ht⟩ := h
    by_cases hx : k = x
    · exact ⟨some (i, .bool true), by simp [Instr.findAsking, hk, hv, Try.triEq, hx], .inr ⟨by simp [hx], 0, rfl, by simp [hx]⟩⟩
    · obtain ⟨r, h1, h2⟩ := findAsking_tri k w es T (i + 1) ht
      refine ⟨r, by simp [Instr.findAsking, hk, Try.triEq, hx, h1], ?_⟩
      rcases h2 with ⟨h2, h3⟩ | ⟨h2, j, h3, h4⟩
      · exact .inl ⟨by simp [hx, h2], h3⟩
      · exact .inr ⟨by simp [h2], j + 1, by rw [h3, Nat.add_assoc, Nat.add_comm 1 j], by simpa using h4⟩

theorem findKey_tri (k : Tri) (w : World) (es : List MapEntry) (T : List Tri) (h : es.map (fun e => (e.key, e.val)) = T.map (fun x => (triV x, Value.bool true))) :
    ∃ r, (Instr.findKey 101 (triV k) es).run Try.prog w = .ok r w ∧ (k ∉ T ∧ r = none ∨ k ∈ T ∧ ∃ j, r = some (j, .bool true) ∧ T[j]? = some k) := by
  obtain ⟨r, h1, h2⟩ := findAsking_tri k w es T 0 h
  refine ⟨r, ?_, by simpa using h2⟩
  cases es with
  | nil =>
    cases T with
    | nil =>
      simp [Instr.findAsking] at h1
      simp [Instr.findKey, run_underlying Try.underlying101, Instr.findNow, h1]
    | cons x T => simp at h
  | cons e es => simp [Instr.findKey, run_underlying Try.underlying101, Instr.findNow, Instr.sameNow, h1]

theorem MapT.lookup1 {w : World} {m : Nat} {T : List Tri} (h : MapT w m T) (k : Tri) :
    (Instr.lookup 97 (.map (some m)) (triV k) false).run Try.prog w = .ok (.bool (decide (k ∈ T))) w := by
  obtain ⟨es, c, h1, h2⟩ := h
  obtain ⟨r, hf, hr⟩ := findKey_tri k w es.toList T h2
  have hc := triKey k es.isEmpty w
  have hz : (zeroValue 4).run Try.prog w = .ok (.bool false) w := by kernel_rfl
  rcases hr with ⟨hr, rfl⟩ | ⟨hr, j, rfl, -⟩
  · simp [Instr.lookup, run_underlying Try.underlying97, MapKept.run_getObj_map h1, hf, hc, hz, Result.andThen, hr]
  · simp [Instr.lookup, run_underlying Try.underlying97, MapKept.run_getObj_map h1, hf, hc, Result.andThen, hr]

/-- 'm[k] = true' -/
theorem MapT.update {w : World} {m : Nat} {T : List Tri} (h : MapT w m T) (k : Tri) :
    ∃ o, (Instr.mapUpdate 97 (.map (some m)) (triV k) (.bool true)).run Try.prog w = .ok () (ChangeMaps.setBlock w m o) ∧ MapT (ChangeMaps.setBlock w m o) m (if k ∈ T then T else T ++ [k]) := by
  obtain ⟨es, c, h1, h2⟩ := h
  obtain ⟨r, hf, hr⟩ := findKey_tri k w es.toList T h2
  have hc := triKey k false w
  rcases hr with ⟨hr, rfl⟩ | ⟨hr, j, rfl, hj⟩
  · refine ⟨.map (es.push { key := triV k, val := .bool true, born := c }) (c + 1), ?_, ?_⟩
    · simp [Instr.mapUpdate, run_underlying Try.underlying97, MapKept.run_getObj_map h1, hf, hc, MapKept.run_setObj_map _ h1, Result.andThen, ChangeMaps.setBlock]
    · rw [if_neg hr]
      exact ⟨_, _, ChangeMaps.heap_setBlock_same h1 _, by simp [h2]⟩
  · have hes : (es.toList.map (fun e => (e.key, e.val)))[j]? = some (triV k, .bool true) := by rw [h2, List.getElem?_map, hj]; rfl
    rw [List.getElem?_map] at hes
    cases he : es.toList[j]? with
    | none => simp [he] at hes
    | some e =>
      simp [he] at hes
      have he' : es[j]? = some e := by simpa using he
      have hb : Instr.sameBits 10000 (triV k) (triV k) = true := by
        obtain ⟨x, y, z⟩ := k
        unfold triV
        show Instr.sameBits (9999 + 1) _ _ = true
        generalize 9999 = n
        simp [Instr.sameBits]
      refine ⟨.map (es.modify j fun e => { e with key := triV k, val := .bool true }) c, ?_, ?_⟩
      · simp [Instr.mapUpdate, run_underlying Try.underlying97, MapKept.run_getObj_map h1, hf, hc, MapKept.run_setObj_map _ h1, Result.andThen, ChangeMaps.setBlock, Instr.keyThatStays, he', hes.1, hb]
      · rw [if_pos hr]
        refine ⟨_, _, ChangeMaps.heap_setBlock_same h1 _, ?_⟩
        simp only [Array.toList_modify]
        apply List.ext_getElem?
        intro i
        have hi : (es.toList.map (fun e => (e.key, e.val)))[i]? = (T.map (fun x => (triV x, Value.bool true)))[i]? := by rw [h2]
        rw [List.getElem?_map, List.getElem?_map] at hi
        rw [List.getElem?_map, List.getElem?_map, List.getElem?_modify]
        by_cases e' : j = i
        · subst e'; simp [he, hj]
        · simp [e']; simpa using hi

end Go.Proofs.Ytjjlbancofkinaa
