/-
  PlogOfNothing: the walk.
-/
import Derived.Test.YtjjlbancofkinaaKnown11
namespace Go.Proofs.Ytjjlbancofkinaa
open Go.RowKit

set_option maxRecDepth 100000 in
set_option maxHeartbeats 1600000 in
theorem plogOfNothing_walk (w : World) (xp xe xt xq : Int) (pv : Option Addr) (n c : Nat) :
    Calls Try.prog 6 #[.agg #[.int .i64 xp, .int .i64 xe, .int .i64 xt, .int .i64 xq, .slice pv n c]] w (Ret (.bool true) w) := by
  have hap := fun W => append_nil W ⟨xp, xe, xt, xq, []⟩ (.slice pv n c)
  unfold recV at hap
  dsimp only at hap
  by_cases hn : 500 < n
  · go_enter Try.func6, Try.ntmps6
    go_wp2_with fail
    go_ret
    exact Ret.bool rfl (below_alloc (below_refl _) _)
  go_enter Try.func6, Try.ntmps6
  go_wp2_with fail
  refine (hap _).mono ?_
  rintro x w1 ⟨rfl, hb1⟩
  have hB1 := below_step (below_alloc (below_refl w) _) hb1
  clear hb1 hap
  go_wp2_with fail
  refine (records_any w1 none 0).mono ?_
  rintro x w2 ⟨rfl, hw2⟩
  have c2 : w2.cell? ⟨w1.heap.size, 0, none⟩ = some (.pointer none) := by subst hw2; exact (((Boxed.new w1 _ _).alloc _)).cell
  have c3 : w2.cell? ⟨w1.heap.size + 1, 0, none⟩ = some (.int .i64 0) := by
    subst hw2
    have h := (Boxed.new (w1.alloc (.cells #[.pointer none] 24)) 3 (.int .i64 0)).cell
    rw [World.size_alloc] at h
    exact h
  have hB2 : Below w.heap.size w w2 := by subst hw2; exact below_alloc (below_alloc hB1 _) _
  have hto := told11_any w2 #[.pointer (some ⟨w1.heap.size + 1, 0, none⟩), .pointer (some ⟨w1.heap.size, 0, none⟩)] PL.St.new 0 0 0 (records1_nil 5 (by decide) w2 w1.heap.size (w1.heap.size + 1) 0 c2 c3 _ _) (Nat.zero_le _) (by omega) (by omega)
  unfold recordsV
  clear hB1 c2 c3 hw2
  go_wp2_with fail
  refine hto.mono ?_
  rintro x w3 ⟨v, rfl, ⟨L, hL, hR, -⟩, hb3⟩
  obtain ⟨av, cv, rfl, -⟩ := hR
  rw [List.length_map, hL]
  have hB3 := below_step hB2 hb3
  clear hto hB2 hb3
  go_wp2_with fail
  refine (epoch_nil _ 0).mono ?_
  rintro x w4 ⟨rfl, hb4⟩
  have hB4 := below_step hB3 hb4
  clear hB3 hb4
  go_wp2_with fail
  refine (learn_nil _ 0 0).mono ?_
  rintro x w5 ⟨rfl, hb5⟩
  have hB5 := below_step hB4 hb5
  clear hB4 hb5
  go_wp2_with fail
  refine (ends_nil _ 0 0 1 true).mono ?_
  rintro x w6 ⟨rfl, hb6⟩
  have hB6 := below_step hB5 hb6
  clear hB5 hb6
  go_wp2_with fail
  refine (len_nil _).mono ?_
  rintro x w7 ⟨rfl, hb7⟩
  have hB7 := below_step hB6 hb7
  clear hB6 hb7
  go_wp2_with fail
  refine (stable_nil _).mono ?_
  rintro x w8 ⟨rfl, hb8⟩
  have hB8 := below_step hB7 hb8
  clear hB7 hb8
  go_wp2_with fail
  refine (spans_nil _).mono ?_
  rintro x w9 ⟨v9, rfl, hS9, hb9⟩
  obtain ⟨a9, c9, rfl, -⟩ := hS9
  have hB9 := below_step hB8 hb9
  clear hB8 hb9
  go_wp2_with fail
  refine (known11_any _).mono ?_
  rintro x w10 ⟨rfl, hb10⟩
  have hB10 := below_step hB9 hb10
  clear hB9 hb10
  go_wp2_with fail
  go_ret
  exact Ret.bool rfl hB10

end Go.Proofs.Ytjjlbancofkinaa
