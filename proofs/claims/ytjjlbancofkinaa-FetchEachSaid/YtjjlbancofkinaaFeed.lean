/-
  A range over a function whose iterator hands over values that lie in memory: the round is told what the memory then holds of them.
-/
import Derived.RangeFuncNested
import Derived.RangeFuncBound
import Derived.RangeFuncCalls
import Derived.RangeFuncLeaves
import Derived.Shelf.Abstract
import Derived.Shelf.RegionOpen
import Derived.WalkKit
import Derived.OwnWalkIn
import Derived.TacticsInMore
import Derived.LoopNIn
import Derived.LoopIn
import Derived.Maps.AppendAt
import Derived.Test.YtjjlbancofkinaaPlogG
namespace Go.Proofs.Ytjjlbancofkinaa
open Go.RowKit

/-- What holds goes on to hold where the memory only grows. -/
def Stays {β : Type} (J : β → World → Prop) : Prop := ∀ s A B, J s A → Below A.heap.size A B → J s B

/-- The function g hands N values over, one behind the other: of the value at hand Px holds; what lay below n₀ it needs as it was, and block kb. -/
def Feeds {α : Type} (n : Nat) (P : Program) (g : Nat) (lb : Array Value) (encs : α → Array Value) (Px : Nat → α → World → Prop) (n₀ kb N : Nat) (w : World) : Prop :=
  ∀ (l : Nat) (J : List α → World → Prop) (Jx : Unit → World → Prop) (W : World), Below w.heap.size w W → Stays J → Stays Jx →
    (∀ pre x A, J pre A → pre.length < N → Px pre.length x A → YieldAt Fence.wide (n - 1) P l (encs x) A fun e B =>
      (e = .returned (.bool true) ∧ J (pre ++ [x]) B ∧ Below n₀ A B ∧ B.heap[kb]? = A.heap[kb]?) ∨ (e = .returned (.bool false) ∧ Jx () B)) →
    J [] W →
    CallsIn Fence.wide n P g (#[.func (.yield l) #[] #[]] ++ lb) W fun e W' => (∃ v, e = .returned v) ∧ ((∃ xs, xs.length = N ∧ J xs W') ∨ Jx () W')

/-- How a round may be left. -/
def feedPost {α : Type} (B n₀ kb : Nat) (I : List α → World → Prop) (Ix : Code → World → Prop) (xs : List α) (W0 W : World) : Exit → Act → World → Prop
  | .normal, _, W' => KeepsFrom B W W' ∧ Below n₀ W0 W' ∧ W'.heap[kb]? = W0.heap[kb]? ∧ I xs W'
  | .ret, _, W' => KeepsFrom B W W' ∧ Ix .ret W'
  | .exit id, _, W' => KeepsFrom B W W' ∧ Ix (.exit id) W'
  | .goto t, _, W' => KeepsFrom B W W' ∧ Ix (.goto t) W'
  | _, _, _ => False

theorem grown_of_below {A B : World} (h : Below A.heap.size A B) : A.grownBy B none := ⟨h.os, h.tape, h.output, h.size, fun k hk _ => h.block k hk⟩

/-- The statement 'for .. := range g { .. }' over such a function. -/
theorem wpIn_feed {α : Type} {n : Nat} {P : Program} {g : Operand} {ps : Array Tmp} {assign body : Code} {Q : Exit → Act → World → Prop} {a : Act} {w : World}
    {gf : Nat} {lb : Array Value} (hg : a.eval g = .func (.func gf) #[] lb) (eg : ∀ args w, (callFunc gf args).run P w = .ok (.enter gf args) w)
    {encs : α → Array Value} {Px : Nat → α → World → Prop} {n₀ kb N : Nat} (hseq : Feeds (n - 1) P gf lb encs Px n₀ kb N w) (hn0 : n₀ ≤ w.heap.size) (hkb : kb < w.heap.size) (hps : ∀ x, (encs x).size = ps.size)
    (I : List α → World → Prop) (Ix : Code → World → Prop) (hI : OwnFrom w.heap.size I) (hIx : OwnFrom w.heap.size Ix) (h0 : I [] w)
    (hround : ∀ (l : Nat) (pre : List α) (x : α) (W : World) (o : Obj), I pre W → pre.length < N → Px pre.length x W → w.heap.size ≤ l → W.heap[l]? = some o → o.isCells = false →
      assign.wpIn (Fence.wide.inRound l) (n - 1 - 1) P (Exit.then (fun a₁ W1 => KeepsFrom w.heap.size W W1 ∧ ∀ o', body.wpIn (Fence.wide.inRound l) (n - 1 - 1) P (feedPost w.heap.size n₀ kb I Ix (pre ++ [x]) W (W1.putObj l o')) a₁ (W1.putObj l o')) (fun _ _ _ => False))
        { tmps := (ps.zip (encs x)).foldl (fun t (p, v) => t.setIfInBounds p v) a.tmps, defers := [] } W)
    (hdone : ∀ (D : Nat) (xs : List α) (W : World), w.heap.size ≤ D → xs.length = N → I xs W → W.heap[D]? = some (.deferred (some [])) → Q .normal { a with defers := { target := .collected D, args := #[] } :: a.defers } W)
    (hstop : ∀ (D : Nat) (c : Code) (W : World), w.heap.size ≤ D → Ix c W → W.heap[D]? = some (.deferred (some [])) → c.wpIn Fence.wide n P Q { a with defers := { target := .collected D, args := #[] } :: a.defers } W) :
    (Code.rangeFunc g ps assign body).wpIn Fence.wide n P Q a w := by
  refine wpIn_rangeFunc (fun fn _ => ?_)
  let rec_ : LoopState → Option Code → Loop := fun st pe => { state := st, pending := pe, fn, tmps := a.tmps, params := ps, assign, body, defers := w.heap.size }
  let L := w.heap.size + 1
  have hA1 : Below w.heap.size w ((w.alloc (.deferred (some []))).alloc (.loop (rec_ .ready none))) := ((Below.refl _ w).alloc (Nat.le_refl _) _).alloc (by simp) _
  have hL1 : ((w.alloc (.deferred (some []))).alloc (.loop (rec_ .ready none))).heap[L]? = some (.loop (rec_ .ready none)) := by
    have := World.alloc_heap_new (w.alloc (.deferred (some []))) (.loop (rec_ .ready none)); rwa [World.size_alloc] at this
  have hD1 : ((w.alloc (.deferred (some []))).alloc (.loop (rec_ .ready none))).heap[w.heap.size]? = some (.deferred (some [])) :=
    (Below.heap_alloc _ _ _ (by simp)).trans (World.alloc_heap_new w _)
  have hI1 : I [] ((w.alloc (.deferred (some []))).alloc (.loop (rec_ .ready none))) := hI.alloc _ (hI.alloc _ h0)
  refine ⟨L, [{ target := .collected w.heap.size, args := #[] }], (w.alloc (.deferred (some []))).alloc (.loop (rec_ .ready none)), { target := .fn (.func gf) lb, args := #[.func (.yield L) #[] #[]] }, (w.alloc (.deferred (some []))).alloc (.loop (rec_ .ready none)), gf, #[.func (.yield L) #[] #[]] ++ lb, (w.alloc (.deferred (some []))).alloc (.loop (rec_ .ready none)),
    run_enterLoop_outer _ _ _ _ _, ?_, fun f' _ => trivial, ?_, fun h => by simp [Fence.wide] at h, ?_⟩
  · simp only [resolve, hg]; simp [go_sem, L]
  · simp [invoke, go_sem, eg]
  -- the two blocks of the loop lie through the function's own steps, and through the round's
  have stay : ∀ {A B : World} {k : Nat} {o : Obj}, Below A.heap.size A B → A.heap[k]? = some o → B.heap[k]? = some o := fun hb hk => (hb.block _ (Array.getElem?_eq_some_iff.1 hk).1).trans hk
  have ends : ∀ (J : Option Code) (W : World) (st : LoopState), W.heap[L]? = some (.loop (rec_ st none)) → W.heap[w.heap.size]? = some (.deferred (some [])) →
      (Instr.endRound L J).run P W = .ok (.bool J.isNone) (W.putObj L (.loop (rec_ (if J.isNone then .ready else .done) J))) ∧
      (W.putObj L (.loop (rec_ (if J.isNone then .ready else .done) J))).heap[L]? = some (.loop (rec_ (if J.isNone then .ready else .done) J)) ∧
      (W.putObj L (.loop (rec_ (if J.isNone then .ready else .done) J))).heap[w.heap.size]? = some (.deferred (some [])) := fun J W st hl hd =>
    ⟨run_endRound (P := P) J hl, World.putObj_heap_same (Array.getElem?_eq_some_iff.1 hl).1, (World.putObj_heap_other (by simp [L])).trans hd⟩
  refine (hseq L (fun pre W => I pre W ∧ W.heap[L]? = some (.loop (rec_ .ready none)) ∧ W.heap[w.heap.size]? = some (.deferred (some [])))
    (fun _ W => ∃ c, Ix c W ∧ W.heap[L]? = some (.loop (rec_ .done (some c))) ∧ W.heap[w.heap.size]? = some (.deferred (some []))) _ hA1
    (fun s A B h hb => ⟨hI s A B none h.1 (grown_of_below hb) (fun r e => by cases e), stay hb h.2.1, stay hb h.2.2⟩)
    (fun s A B h hb => by obtain ⟨c, h1, h2, h3⟩ := h; exact ⟨c, hIx c A B none h1 (grown_of_below hb) (fun r e => by cases e), stay hb h2, stay hb h3⟩) ?_ ⟨hI1, hL1, hD1⟩).mono ?_
  · rintro pre x A ⟨hi, hl, hd⟩ hlen hpx
    refine ⟨fn, _, assign, body, run_yield (P := P) hl (hps x), roundIn_of_wpIn trivial ?_⟩
    refine wpIn_mono (hround L pre x A _ hi hlen hpx (by simp [L]) hl rfl) ?_
    rintro e a1 W1 h1
    cases e with
    | normal =>
      obtain ⟨hk1, hb1⟩ := h1
      have hl1 := hk1.same _ _ (by simp [L]) hl rfl
      have hd1 := hk1.same _ _ (Nat.le_refl _) hd rfl
      refine ⟨_, run_beginRound hl1 rfl, wpIn_mono (hb1 _) ?_⟩
      have hl2 : (W1.putObj L (.loop { rec_ .ready none with state := .busy })).heap[L]? = some (.loop (rec_ .busy none)) := World.putObj_heap_same (Array.getElem?_eq_some_iff.1 hl1).1
      have hd2 : (W1.putObj L (.loop { rec_ .ready none with state := .busy })).heap[w.heap.size]? = some (.deferred (some [])) := (World.putObj_heap_other (by simp [L])).trans hd1
      rintro e2 a2 W3 hp
      cases e2 with
      | normal =>
        obtain ⟨hk3, hkp, hkq, hi3⟩ := hp
        have hl3 := hk3.same _ _ (by simp [L]) hl2 rfl
        have hd3 := hk3.same _ _ (Nat.le_refl _) hd2 rfl
        obtain ⟨hr, hl4, hd4⟩ := ends none W3 _ hl3 hd3
        exact ⟨_, _, hr, .inl ⟨rfl, ⟨hI.putObj _ hi3 (by simp [L]) hl3 rfl, hl4, hd4⟩, hkp.trans ((Below.refl n₀ W3).grown (grownBy_putObj' W3 L _) (by have := hk3.size; have := hk1.size; have := (Array.getElem?_eq_some_iff.1 hd3).1; omega) (fun k e => by cases e; simp [L]; omega)), (World.putObj_heap_other (by simp [L]; omega)).trans hkq⟩⟩
      | ret =>
        obtain ⟨hk3, hi3⟩ := hp
        have hl3 := hk3.same _ _ (by simp [L]) hl2 rfl
        have hd3 := hk3.same _ _ (Nat.le_refl _) hd2 rfl
        obtain ⟨hr, hl4, hd4⟩ := ends (some .ret) W3 _ hl3 hd3
        exact ⟨_, _, hr, .inr ⟨rfl, .ret, hIx.putObj _ hi3 (by simp [L]) hl3 rfl, hl4, hd4⟩⟩
      | exit id =>
        obtain ⟨hk3, hi3⟩ := hp
        have hl3 := hk3.same _ _ (by simp [L]) hl2 rfl
        have hd3 := hk3.same _ _ (Nat.le_refl _) hd2 rfl
        obtain ⟨hr, hl4, hd4⟩ := ends (some (.exit id)) W3 _ hl3 hd3
        exact ⟨_, _, hr, .inr ⟨rfl, .exit id, hIx.putObj _ hi3 (by simp [L]) hl3 rfl, hl4, hd4⟩⟩
      | goto t =>
        obtain ⟨hk3, hi3⟩ := hp
        have hl3 := hk3.same _ _ (by simp [L]) hl2 rfl
        have hd3 := hk3.same _ _ (Nat.le_refl _) hd2 rfl
        obtain ⟨hr, hl4, hd4⟩ := ends (some (.goto t)) W3 _ hl3 hd3
        exact ⟨_, _, hr, .inr ⟨rfl, .goto t, hIx.putObj _ hi3 (by simp [L]) hl3 rfl, hl4, hd4⟩⟩
      | panic _ => exact hp.elim
      | outgrown => exact hp.elim
    | _ => exact h1.elim
  · rintro e W2 ⟨⟨v, rfl⟩, ⟨xs, hN, hi, hl, hd⟩ | ⟨c, hi, hl, hd⟩⟩
    · exact ⟨none, _, run_endLoop (P := P) hl (by simp [rec_]), hdone _ xs _ (Nat.le_refl _) hN (hI.putObj _ hi (by simp [L]) hl rfl) ((World.putObj_heap_other (by simp [L])).trans hd)⟩
    · exact ⟨some c, _, run_endLoop (P := P) hl (by simp [rec_]), hstop _ c _ (Nat.le_refl _) (hIx.putObj _ hi (by simp [L]) hl rfl) ((World.putObj_heap_other (by simp [L])).trans hd)⟩

end Go.Proofs.Ytjjlbancofkinaa
