/-
  fetch.Aborted, fetch.Each of nothing.
-/
import Derived.Test.YtjjlbancofkinaaKnown12
namespace Go.Proofs.Ytjjlbancofkinaa
open Go.RowKit

set_option maxRecDepth 100000 in
set_option maxHeartbeats 800000 in
theorem aborted_nil (w : World) (a b : Int) : Calls Try.prog 39 #[.pointer none, .int .i64 a, .int .i64 b] w (RetP (fun v w' => SpnsAt w' v []) w) := by
  go_enter Try.func39, Try.ntmps39
  go_wp2_with fail
  refine (spans_nil _).mono ?_
  rintro e w1 ⟨v, rfl, ⟨av, cv, rfl, -⟩, hb1⟩
  dsimp only [List.length_nil]
  go_wp2_with fail
  go_loopw [7, 9, 13] (fun o _ i wr => o = .slice none 0 0 ∧ i = .int .i64 0 ∧ wr = w1) (fun _ _ _ _ => 0)
  case atStart => exact ⟨rfl, rfl, rfl⟩
  case round =>
    obtain ⟨rfl, rfl, rfl⟩ := hrel
    go_wp2_with fail
    go_ret
    exact RetP.mk ⟨none, 0, rfl, Nat.le_refl _, by omega, fun i x hx => by simp at hx⟩ hb1

/-- The value that Each returns. -/
def eachV (b : Nat) : Value := .func (.func 63) #[] #[.pointer (some ⟨b, 0, none⟩), .pointer (some ⟨b + 1, 0, none⟩)]
theorem each_any (w : World) (pa : Option Addr) (only : Bool) :
    Calls Try.prog 41 #[.pointer pa, .bool only] w fun e w' => e = .returned (eachV w.heap.size) ∧ w' = (w.alloc (.cells #[.pointer pa] 24)).alloc (.cells #[.bool only] 4) := by
  go_enter Try.func41, Try.ntmps41
  go_wp2_with fail
  go_ret
  exact ⟨rfl, rfl⟩

end Go.Proofs.Ytjjlbancofkinaa
