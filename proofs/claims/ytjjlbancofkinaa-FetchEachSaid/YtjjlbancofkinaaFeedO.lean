/-
  A range over a function whose iterator keeps memory of its own while it hands values over: a round turns blocks of its own alone.
-/
import Derived.Test.YtjjlbancofkinaaFeed
import Derived.Maps.OwnIn
namespace Go.Proofs.Ytjjlbancofkinaa
open Go.RowKit

/-- What holds goes on to hold where the memory only grows. -/
def StaysO {β : Type} (J : β → (Nat → Prop) → World → Prop) : Prop := ∀ s O A B, J s O A → Below A.heap.size A B → J s O B

/-- The function g hands N values over, one behind the other: of the value at hand Px holds, while the blocks O are the round's. -/
def FeedsO {α : Type} (n : Nat) (P : Program) (g : Nat) (lb : Array Value) (encs : α → Array Value) (Px : Nat → α → (Nat → Prop) → World → Prop) (N : Nat) (w : World) : Prop :=
  ∀ (l : Nat) (J : List α → (Nat → Prop) → World → Prop) (Jx : Unit → World → Prop) (W : World) (O : Nat → Prop), Below w.heap.size w W → StaysO J → Stays Jx → (∀ s O A, J s O A → ∀ b, O b → b < A.heap.size) →
    (∀ pre x O A, J pre O A → pre.length < N → Px pre.length x O A → YieldAt Fence.wide (n - 1) P l (encs x) A fun e B =>
      (e = .returned (.bool true) ∧ ∃ O', J (pre ++ [x]) O' B ∧ Fr O A B ∧ ∀ b, O' b → O b ∨ A.heap.size ≤ b) ∨ (e = .returned (.bool false) ∧ Jx () B)) →
    J [] O W →
    CallsIn Fence.wide n P g (#[.func (.yield l) #[] #[]] ++ lb) W fun e W' => (∃ v, e = .returned v) ∧ ((∃ xs O', xs.length = N ∧ J xs O' W') ∨ Jx () W')

/-- How a round may be left. -/
def feedPostO {α : Type} (B l : Nat) (O : Nat → Prop) (I : List α × (Nat → Prop) → World → Prop) (Ix : Code → World → Prop) (xs : List α) (W0 W : World) : Exit → Act → World → Prop
  | .normal, _, W' => KeepsFrom B W W' ∧ ∃ O', I (xs, O') W' ∧ Fr (fun b => O b ∨ b = l) W0 W' ∧ ∀ b, O' b → O b ∨ W0.heap.size ≤ b
  | .ret, _, W' => KeepsFrom B W W' ∧ Ix .ret W'
  | .exit id, _, W' => KeepsFrom B W W' ∧ Ix (.exit id) W'
  | .goto t, _, W' => KeepsFrom B W W' ∧ Ix (.goto t) W'
  | _, _, _ => False

/-- The statement 'for .. := range g { .. }' over such a function. -/
theorem wpIn_feedO {α : Type} {n : Nat} {P : Program} {g : Operand} {ps : Array Tmp} {assign body : Code} {Q : Exit → Act → World → Prop} {a : Act} {w : World}
    {gf : Nat} {lb : Array Value} (hg : a.eval g = .func (.func gf) #[] lb) (eg : ∀ args w, (callFunc gf args).run P w = .ok (.enter gf args) w)
    {encs : α → Array Value} {Px : Nat → α → (Nat → Prop) → World → Prop} {N : Nat} (hseq : FeedsO (n - 1) P gf lb encs Px N w) (hps : ∀ x, (encs x).size = ps.size)
    (I : List α × (Nat → Prop) → World → Prop) (Ix : Code → World → Prop) (O0 : Nat → Prop) (hI : OwnFrom w.heap.size I) (hIx : OwnFrom w.heap.size Ix) (hO : ∀ s W, I s W → ∀ b, s.2 b → b < W.heap.size) (h0 : I ([], O0) w)
    (hround : ∀ (l : Nat) (pre : List α) (x : α) (O : Nat → Prop) (W : World) (o : Obj), I (pre, O) W → pre.length < N → Px pre.length x (fun b => O b ∨ b = l) W → w.heap.size ≤ l → W.heap[l]? = some o → o.isCells = false →
      assign.wpIn (Fence.wide.inRound l) (n - 1 - 1) P (Exit.then (fun a₁ W1 => KeepsFrom w.heap.size W W1 ∧ ∀ o', body.wpIn (Fence.wide.inRound l) (n - 1 - 1) P (feedPostO w.heap.size l O I Ix (pre ++ [x]) W (W1.putObj l o')) a₁ (W1.putObj l o')) (fun _ _ _ => False))
        { tmps := (ps.zip (encs x)).foldl (fun t (p, v) => t.setIfInBounds p v) a.tmps, defers := [] } W)
    (hdone : ∀ (D : Nat) (xs : List α) (O : Nat → Prop) (W : World), w.heap.size ≤ D → xs.length = N → I (xs, O) W → W.heap[D]? = some (.deferred (some [])) → Q .normal { a with defers := { target := .collected D, args := #[] } :: a.defers } W)
    (hstop : ∀ (D : Nat) (c : Code) (W : World), w.heap.size ≤ D → Ix c W → W.heap[D]? = some (.deferred (some [])) → c.wpIn Fence.wide n P Q { a with defers := { target := .collected D, args := #[] } :: a.defers } W) :
    (Code.rangeFunc g ps assign body).wpIn Fence.wide n P Q a w := by
  refine wpIn_rangeFunc (fun fn _ => ?_)
  let rec_ : LoopState → Option Code → Loop := fun st pe => { state := st, pending := pe, fn, tmps := a.tmps, params := ps, assign, body, defers := w.heap.size }
  let L := w.heap.size + 1
  have hA1 : Below w.heap.size w ((w.alloc (.deferred (some []))).alloc (.loop (rec_ .ready none))) := ((Below.refl _ w).alloc (Nat.le_refl _) _).alloc (by simp) _
  have hL1 : ((w.alloc (.deferred (some []))).alloc (.loop (rec_ .ready none))).heap[L]? = some (.loop (rec_ .ready none)) := by
    have := World.alloc_heap_new (w.alloc (.deferred (some []))) (.loop (rec_ .ready none)); rwa [World.size_alloc] at this
  have hD1 : ((w.alloc (.deferred (some []))).alloc (.loop (rec_ .ready none))).heap[w.heap.size]? = some (.deferred (some [])) :=
    (Below.heap_alloc _ _ _ (by simp)).trans (World.alloc_heap_new w _)
  have hI1 : I ([], O0) ((w.alloc (.deferred (some []))).alloc (.loop (rec_ .ready none))) := hI.alloc _ (hI.alloc _ h0)
  refine ⟨L, [{ target := .collected w.heap.size, args := #[] }], (w.alloc (.deferred (some []))).alloc (.loop (rec_ .ready none)), { target := .fn (.func gf) lb, args := #[.func (.yield L) #[] #[]] }, (w.alloc (.deferred (some []))).alloc (.loop (rec_ .ready none)), gf, #[.func (.yield L) #[] #[]] ++ lb, (w.alloc (.deferred (some []))).alloc (.loop (rec_ .ready none)),
    run_enterLoop_outer _ _ _ _ _, ?_, fun f' _ => trivial, ?_, fun h => by simp [Fence.wide] at h, ?_⟩
  · simp only [resolve, hg]; simp [go_sem, L]
  · simp [invoke, go_sem, eg]
  -- the two blocks of the loop lie through the function's own steps, and through the round's
  have stay : ∀ {A B : World} {k : Nat} {o : Obj}, Below A.heap.size A B → A.heap[k]? = some o → B.heap[k]? = some o := fun hb hk => (hb.block _ (Array.getElem?_eq_some_iff.1 hk).1).trans hk
  have ends : ∀ (J : Option Code) (W : World) (st : LoopState), W.heap[L]? = some (.loop (rec_ st none)) → W.heap[w.heap.size]? = some (.deferred (some [])) →
      (Instr.endRound L J).run P W = .ok (.bool J.isNone) (W.putObj L (.loop (rec_ (if J.isNone then .ready else .done) J))) ∧
      (W.putObj L (.loop (rec_ (if J.isNone then .ready else .done) J))).heap[L]? = some (.loop (rec_ (if J.isNone then .ready else .done) J)) ∧
      (W.putObj L (.loop (rec_ (if J.isNone then .ready else .done) J))).heap[w.heap.size]? = some (.deferred (some [])) := fun J W st hl hd =>
    ⟨run_endRound (P := P) J hl, World.putObj_heap_same (Array.getElem?_eq_some_iff.1 hl).1, (World.putObj_heap_other (by simp [L])).trans hd⟩
  refine (hseq L (fun pre Q W => ∃ O, I (pre, O) W ∧ Q = (fun b => O b ∨ b = L) ∧ W.heap[L]? = some (.loop (rec_ .ready none)) ∧ W.heap[w.heap.size]? = some (.deferred (some [])))
    (fun _ W => ∃ c, Ix c W ∧ W.heap[L]? = some (.loop (rec_ .done (some c))) ∧ W.heap[w.heap.size]? = some (.deferred (some []))) _ (fun b => O0 b ∨ b = L) hA1
    (fun s Q A B h hb => by obtain ⟨O, h1, h2, h3, h4⟩ := h; exact ⟨O, hI _ A B none h1 (grown_of_below hb) (fun r e => by cases e), h2, stay hb h3, stay hb h4⟩)
    (fun s A B h hb => by obtain ⟨c, h1, h2, h3⟩ := h; exact ⟨c, hIx c A B none h1 (grown_of_below hb) (fun r e => by cases e), stay hb h2, stay hb h3⟩)
    (fun s Q A h b hb => by
      obtain ⟨O, h1, rfl, h3, h4⟩ := h
      rcases hb with hb | rfl
      · exact hO _ A h1 b hb
      · exact (Array.getElem?_eq_some_iff.1 h3).1) ?_ ⟨O0, hI1, rfl, hL1, hD1⟩).mono ?_
  · rintro pre x Q A ⟨O, hi, rfl, hl, hd⟩ hlen hpx
    refine ⟨fn, _, assign, body, run_yield (P := P) hl (hps x), roundIn_of_wpIn trivial ?_⟩
    refine wpIn_mono (hround L pre x O A _ hi hlen hpx (by simp [L]) hl rfl) ?_
    rintro e a1 W1 h1
    cases e with
    | normal =>
      obtain ⟨hk1, hb1⟩ := h1
      have hl1 := hk1.same _ _ (by simp [L]) hl rfl
      have hd1 := hk1.same _ _ (Nat.le_refl _) hd rfl
      refine ⟨_, run_beginRound hl1 rfl, wpIn_mono (hb1 _) ?_⟩
      have hl2 : (W1.putObj L (.loop { rec_ .ready none with state := .busy })).heap[L]? = some (.loop (rec_ .busy none)) := World.putObj_heap_same (Array.getElem?_eq_some_iff.1 hl1).1
      have hd2 : (W1.putObj L (.loop { rec_ .ready none with state := .busy })).heap[w.heap.size]? = some (.deferred (some [])) := (World.putObj_heap_other (by simp [L])).trans hd1
      rintro e2 a2 W3 hp
      cases e2 with
      | normal =>
        obtain ⟨hk3, O', hi3, hF3, hO3⟩ := hp
        have hl3 := hk3.same _ _ (by simp [L]) hl2 rfl
        have hd3 := hk3.same _ _ (Nat.le_refl _) hd2 rfl
        obtain ⟨hr, hl4, hd4⟩ := ends none W3 _ hl3 hd3
        refine ⟨_, _, hr, .inl ⟨rfl, (fun b => O' b ∨ b = L), ⟨O', hI.putObj _ hi3 (by simp [L]) hl3 rfl, rfl, hl4, hd4⟩, hF3.grown (grownBy_putObj' W3 L _) (fun k e => by cases e; exact .inl (.inr rfl)), fun b hb => ?_⟩⟩
        rcases hb with hb | rfl
        · rcases hO3 b hb with h | h
          · exact .inl (.inl h)
          · exact .inr h
        · exact .inl (.inr rfl)
      | ret =>
        obtain ⟨hk3, hi3⟩ := hp
        have hl3 := hk3.same _ _ (by simp [L]) hl2 rfl
        have hd3 := hk3.same _ _ (Nat.le_refl _) hd2 rfl
        obtain ⟨hr, hl4, hd4⟩ := ends (some .ret) W3 _ hl3 hd3
        exact ⟨_, _, hr, .inr ⟨rfl, .ret, hIx.putObj _ hi3 (by simp [L]) hl3 rfl, hl4, hd4⟩⟩
      | exit id =>
        obtain ⟨hk3, hi3⟩ := hp
        have hl3 := hk3.same _ _ (by simp [L]) hl2 rfl
        have hd3 := hk3.same _ _ (Nat.le_refl _) hd2 rfl
        obtain ⟨hr, hl4, hd4⟩ := ends (some (.exit id)) W3 _ hl3 hd3
        exact ⟨_, _, hr, .inr ⟨rfl, .exit id, hIx.putObj _ hi3 (by simp [L]) hl3 rfl, hl4, hd4⟩⟩
      | goto t =>
        obtain ⟨hk3, hi3⟩ := hp
        have hl3 := hk3.same _ _ (by simp [L]) hl2 rfl
        have hd3 := hk3.same _ _ (Nat.le_refl _) hd2 rfl
        obtain ⟨hr, hl4, hd4⟩ := ends (some (.goto t)) W3 _ hl3 hd3
        exact ⟨_, _, hr, .inr ⟨rfl, .goto t, hIx.putObj _ hi3 (by simp [L]) hl3 rfl, hl4, hd4⟩⟩
      | panic _ => exact hp.elim
      | outgrown => exact hp.elim
    | _ => exact h1.elim
  · rintro e W2 ⟨⟨v, rfl⟩, ⟨xs, Q, hN, O, hi, -, hl, hd⟩ | ⟨c, hi, hl, hd⟩⟩
    · exact ⟨none, _, run_endLoop (P := P) hl (by simp [rec_]), hdone _ xs O _ (Nat.le_refl _) hN (hI.putObj _ hi (by simp [L]) hl rfl) ((World.putObj_heap_other (by simp [L])).trans hd)⟩
    · exact ⟨some c, _, run_endLoop (P := P) hl (by simp [rec_]), hstop _ c _ (Nat.le_refl _) (hIx.putObj _ hi (by simp [L]) hl rfl) ((World.putObj_heap_other (by simp [L])).trans hd)⟩

end Go.Proofs.Ytjjlbancofkinaa
