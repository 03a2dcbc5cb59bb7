/-
  What a statement of a law asks beside the walk: what was there is as it was, so the arguments read as they did.
-/
import Derived.Test.YtjjlbancofkinaaRows
import Derived.WalkKit
import Derived.ProofKit
import Derived.OpenShut
import Derived.Carry
import Derived.Lib.SmallJoins
import Derived.Deep.Slices
import Derived.Deep.Fields
import Derived.ChangeSame
namespace Go.Proofs.Ytjjlbancofkinaa
open Go.Joins Go.ChangeShapes Go.WideShapes Go.ChangeAt Go.RowKit Go.Deep

theorem kept_of_below {w w' : World} (h : Below w.heap.size w w') (may : MemPlace → Prop) : w.keptBut w' may := by
  refine ⟨h.os, h.output, fun i hi => ?_⟩
  rw [h.block i hi]
  exact (World.keptBut_refl w may).2.2 i hi

theorem trodAll_below {H : Type} {enc : TypeId × Value → H} {P : Program} (hl : laidOutB P = true) {W W' : World} (hb : Below W.heap.size W W') :
    ∀ {ts : List TypeId} {vs : List Value} {ds : List (DataW H)} {ps : List MemPlace}, (∀ t ∈ ts, P.readableRec t = true ∧ t < P.types.size) → DataW.TrodAll enc P W 0 (fun _ => true) true ts vs ds ps → (∀ x ∈ ps, x.block < W.heap.size) →
      DataW.TrodAll enc P W' 0 (fun b => decide (b < W.heap.size)) true ts vs ds ps
  | [], _, _, _, _, h, _ => by obtain ⟨rfl, rfl, rfl⟩ := trodAll_nil h; exact trodAll_mk0
  | t :: ts, _, _, _, ht, h, hlt => by
    obtain ⟨v, vs, d, ds, p, q, rfl, rfl, rfl, h0, r0⟩ := trodAll_cons h
    exact trodAll_cons_mk (Below.trod hl (ht t (List.mem_cons_self ..)).1 (ht t (List.mem_cons_self ..)).2 h0 hb (fun x hx => hlt x (List.mem_append_left _ hx)))
      (trodAll_below hl hb (fun t' h' => ht t' (List.mem_cons_of_mem _ h')) r0 (fun x hx => hlt x (List.mem_append_right _ hx)))

/-- A law that returns true and leaves what was there as it was. -/
theorem post_below {H : Type} {enc : TypeId × Value → H} {P : Program} {f : Func} {s : ChangeSpec} {apart fresh handsOn : Bool} {W W' : World} {args : Array Value} {ds : List (DataW H)} {before : List MemPlace} {bt : TypeId}
    (hW : DataW.Whole enc P f.params.toList s.vars apart W args.toList ds [] before) (hv : s.vars = []) (hb : Below W.heap.size W W') (hl : laidOutB P = true) (hp : ∀ t ∈ f.params.toList, P.readableRec t = true ∧ t < P.types.size)
    (hr : f.resultTypes = #[bt]) (hbt : P.underlying bt = some .bool)
    (h1 : (s.fn H ds).results = [.lit (.bool true)]) (h2 : (s.fn H ds).args = ds) (h3 : (s.fn H ds).vars = []) :
    s.post enc P f apart fresh handsOn false W args (.bool true) W' := by
  have hlt : ∀ p ∈ before, p.block < W.heap.size := fun p hp => hW.lt p hp
  have hW' := hW
  obtain ⟨p, q, hA, hV, hpq, _, _⟩ := hW'
  rw [hv] at hV
  obtain ⟨_, rfl⟩ := trodVars_none hV
  rw [List.append_nil] at hpq
  subst hpq
  refine ⟨ds, [], before, [], before, [], hW, ?_, ?_, ?_, kept_of_below hb _, fun h => by cases h⟩
  · rw [List.append_nil, h1, hr]
    exact trodAll_cons_mk (shut_bool hbt _) trodAll_mk0
  · rw [List.append_nil, h2]
    exact trodAll_below hl hb hp hA hlt
  · rw [List.append_nil, h3, hv]
    rfl

theorem five {α : Type} (l : List α) (h : l.length = 5) : ∃ a b c d e, l = [a, b, c, d, e] := by
  match l, h with
  | [a, b, c, d, e], _ => exact ⟨a, b, c, d, e, rfl⟩

set_option maxRecDepth 100000 in
/-- A record as it is read: four numbers and a row of bytes. -/
theorem rec_read {H : Type} {enc : TypeId × Value → H} {w : World} {base : Nat} {spare : Nat → Bool} {held : Bool} {fuel : Nat} {cs : List Value} {x : DataW H × List MemPlace}
    (h : DataW.trod enc Try.prog w base spare held fuel 32 cs = some x) :
    ∃ (a0 a1 a2 a3 : Int) (u : Value) (n : Nat) (y : DataW H × List MemPlace), cs = [.int .i64 a0, .int .i64 a1, .int .i64 a2, .int .i64 a3, u] ∧
      ((Lit.int .i64 a0).wf = true ∧ (Lit.int .i64 a1).wf = true ∧ (Lit.int .i64 a2).wf = true ∧ (Lit.int .i64 a3).wf = true) ∧
      DataW.trod enc Try.prog w base spare held n 30 [u] = some y ∧ ∀ p ∈ y.2, p ∈ x.2 := by
  obtain ⟨xs, n, -, hx, hl, hxs, hf⟩ := DataW.trod_struct Try.underlying32 h
  have hl5 : cs.length = 5 := hl.trans (by kernel_rfl)
  have hi : Try.prog.cellsOf 3 = 1 := by kernel_rfl
  have hb : Try.prog.cellsOf 30 = 1 := by kernel_rfl
  have hx5 : xs.length = 5 := hxs
  clear hxs hl
  obtain ⟨c0, c1, c2, c3, c4, rfl⟩ := five cs hl5
  obtain ⟨y0, y1, y2, y3, y4, rfl⟩ := five xs hx5
  have t0 : DataW.trod enc Try.prog w base spare held n 3 [c0] = some y0 := by simpa [hi] using hf 0 _ rfl
  have t1 : DataW.trod enc Try.prog w base spare held n 3 [c1] = some y1 := by simpa [hi] using hf 1 _ rfl
  have t2 : DataW.trod enc Try.prog w base spare held n 3 [c2] = some y2 := by simpa [hi] using hf 2 _ rfl
  have t3 : DataW.trod enc Try.prog w base spare held n 3 [c3] = some y3 := by simpa [hi] using hf 3 _ rfl
  have t4 : DataW.trod enc Try.prog w base spare held n 30 [c4] = some y4 := by simpa [hb] using hf 4 _ rfl
  obtain ⟨a0, e0, -, w0⟩ := DataW.trod_int Try.underlying3 t0
  obtain ⟨a1, e1, -, w1⟩ := DataW.trod_int Try.underlying3 t1
  obtain ⟨a2, e2, -, w2⟩ := DataW.trod_int Try.underlying3 t2
  obtain ⟨a3, e3, -, w3⟩ := DataW.trod_int Try.underlying3 t3
  cases e0; cases e1; cases e2; cases e3
  exact ⟨a0, a1, a2, a3, c4, n, y4, rfl, ⟨w0, w1, w2, w3⟩, t4, fun p hp => by rw [hx]; simp [hp]⟩

end Go.Proofs.Ytjjlbancofkinaa
