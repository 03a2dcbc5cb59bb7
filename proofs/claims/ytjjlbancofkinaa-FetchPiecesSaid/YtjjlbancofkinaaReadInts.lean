/-
  A row of numbers as an argument.
-/
import Derived.Test.YtjjlbancofkinaaJoint
import Derived.Test.YtjjlbancofkinaaPieces
import Derived.Deep.Slices
namespace Go.Proofs.Ytjjlbancofkinaa
open Go.Joins Go.ChangeShapes Go.WideShapes Go.ChangeAt Go.RowKit Go.Deep

theorem cellsInt : Try.prog.cellsOf 3 = 1 := by kernel_rfl
theorem ints_read {H : Type} {enc : TypeId × Value → H} {w : World} {base : Nat} {spare : Nat → Bool} {held : Bool} {fuel : Nat} {u : Value} {x : DataW H × List MemPlace}
    (h : DataW.trod enc Try.prog w base spare held fuel 59 [u] = some x) : ∃ Z, IntsAt w u Z := by
  rcases open_ints Try.underlying59 Try.underlying3 cellsInt h with ⟨hcs, -⟩ | ⟨a, len, cap, zs, hcs, -, hl, hm, hz, -, hcell, -⟩
  · cases hcs
    exact ⟨[], none, 0, rfl, Nat.le_refl _, by omega, fun i x h => by simp at h⟩
  · cases hcs
    have hzl : len ≤ zs.length := by rw [hz]; split <;> omega
    refine ⟨zs.take len, some a, cap, by simp [Nat.min_eq_left hzl], by simp [Nat.min_eq_left hzl]; exact hl, by unfold maxLen at hm; omega, fun i z hi => ?_⟩
    have hi' : i < len := by have := (List.getElem?_eq_some_iff.1 hi).1; simp at this; omega
    obtain ⟨b, o, spot⟩ := a
    have hspot : spot = none := by simpa [Addr.add] using World.cell?_spot (hcell 0 (by omega))
    subst hspot
    refine ⟨b, o, rfl, ?_⟩
    have h1 := hcell i (by omega)
    rw [add_plain] at h1
    rw [h1]
    rw [List.getElem?_take, if_pos hi'] at hi
    rw [List.getD_eq_getElem?_getD, hi]
    rfl

end Go.Proofs.Ytjjlbancofkinaa
