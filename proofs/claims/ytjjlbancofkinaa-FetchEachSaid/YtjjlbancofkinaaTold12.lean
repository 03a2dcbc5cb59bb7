/-
  told (of law 12) of nothing.
-/
import Derived.Test.YtjjlbancofkinaaFetchF
namespace Go.Proofs.Ytjjlbancofkinaa
open Go.RowKit
attribute [local go_sem] Oper.semAt_some

set_option maxRecDepth 100000 in
set_option maxHeartbeats 2000000 in
theorem told12_nil (w : World) (lb : Array Value) (n₀ kb : Nat) (Px : Nat → PL.Rec × Value → World → Prop) (hf : Feeds 5 Try.prog 63 lb (fun x : PL.Rec × Value => #[recV x.1 x.2]) Px n₀ kb 0 w) (hkb : kb < w.heap.size) (hn₀ : n₀ ≤ w.heap.size) :
    Calls Try.prog 40 #[.func (.func 63) #[] lb, .int .i64 5] w (Ret (.slice none 0 0) w) := by
  have hq : ∀ w : World, (binOp .eql 73 (.func (.func 63) #[] lb) .nilFunc).run Try.prog w = .ok (.bool false) w := fun w => by
    first | rfl | kernel_rfl | simp [binOp, go_sem]
  refine (callsIn_wide (n := 6)).1 ?_
  refine callsIn_of_wp_marks Try.func40 rfl trivial ?_ rfl
  simp only [Try.ntmps40, List.size_toArray, List.length_cons, List.length_nil, Nat.reduceAdd, Nat.reduceSub, Array.replicate_succ, Array.replicate_zero, List.push_toArray, List.append_toArray, List.nil_append, List.cons_append]
  gi_wp2
  have hB0 : Below w.heap.size w ((w.alloc (.cells #[.int .i64 5] 3)).alloc (.cells #[.slice none 0 0] 35)) := below_alloc (below_alloc (below_refl w) _) _
  have b2 : Boxed ((w.alloc (.cells #[.int .i64 5] 3)).alloc (.cells #[.slice none 0 0] 35)) (w.heap.size + 1) 35 (.slice none 0 0) := by
    have := Boxed.new (w.alloc (.cells #[.int .i64 5] 3)) 35 (.slice none 0 0)
    rw [World.size_alloc] at this
    exact this
  have hsz : ((w.alloc (.cells #[.int .i64 5] 3)).alloc (.cells #[.slice none 0 0] 35)).heap.size = w.heap.size + 2 := by simp
  generalize ((w.alloc (.cells #[.int .i64 5] 3)).alloc (.cells #[.slice none 0 0] 35)) = W0 at *
  have hf0 := hf.grow hB0
  refine wpIn_feed (gf := 63) (lb := lb) rfl (enters_of Try.func63 (by kernel_rfl) rfl) hf0 (by omega) (by omega) (fun _ => rfl)
    (fun _ W => Boxed W (w.heap.size + 1) 35 (.slice none 0 0) ∧ Below w.heap.size w W) (fun _ _ => False) ?own (fun _ _ _ _ h _ _ => h) ⟨b2, hB0⟩ ?round ?done ?stop
  case own =>
    rintro L A A' row ⟨h1, h2⟩ hg hr
    exact ⟨boxed_keep h1 hg (fun r e => (hr r e).2), ownFrom_below (Nat.le_refl _) (by omega) L A A' row h2 hg hr⟩
  case round =>
    intro l pre x W o _ hlen
    exact absurd hlen (by omega)
  case done =>
    rintro D L W hD _ ⟨h1, h2⟩ hK
    have c1 := h1.cell
    gi_wp2
    refine ⟨by simp, .inl ⟨_, _, rfl, run_takeDeferred hK, ?_⟩⟩
    exact ⟨_, results_tmp rfl _ _ _, Ret.mk rfl (h2.grown (grownBy_putObj' _ D _) h2.size (fun k e => by cases e; omega))⟩
  case stop =>
    rintro D c W _ h _
    exact h.elim

end Go.Proofs.Ytjjlbancofkinaa
