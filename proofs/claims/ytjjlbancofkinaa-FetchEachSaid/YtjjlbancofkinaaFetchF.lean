/-
  Each of nothing hands nothing over.
-/
import Derived.Test.YtjjlbancofkinaaFetchE
namespace Go.Proofs.Ytjjlbancofkinaa
open Go.RowKit
attribute [local go_sem] Oper.semAt_some

set_option maxRecDepth 100000 in
set_option maxHeartbeats 2000000 in
theorem each1_nil (n : Nat) (hn : 2 ≤ n) (w : World) (b1 b2 : Nat) (c1 : w.cell? ⟨b1, 0, none⟩ = some (.pointer none)) (c2 : w.cell? ⟨b2, 0, none⟩ = some (.bool true)) (Px : Nat → PL.Rec × Value → World → Prop) (n₀ kb : Nat) :
    Feeds n Try.prog 63 #[.pointer (some ⟨b1, 0, none⟩), .pointer (some ⟨b2, 0, none⟩)] (fun x : PL.Rec × Value => #[recV x.1 x.2]) Px n₀ kb 0 w := by
  intro l J Jx W hW hJ hJx hY h0
  have c1' : W.drew.cell? ⟨b1, 0, none⟩ = some (.pointer none) := cell_below c1 (below_drew hW)
  have c2' : W.drew.cell? ⟨b2, 0, none⟩ = some (.bool true) := cell_below c2 (below_drew hW)
  have hlen := fun W => len_nil W
  have hany := fun W => fetchAny_nil W 0 0 0 (by decide)
  have hcom := fun W => fetchCommitted_nil W 0 0 0 (by decide)
  have hmx : Try.prog.follows .mixedOrders = true := by kernel_rfl
  have h0' : J [] W.drew := hJ _ _ _ h0 (below_drew (below_refl _))
  clear c1 c2 hW hY h0
  refine callsIn_of_wp Try.func63 rfl trivial ?_ rfl
  simp only [Try.ntmps63, List.size_toArray, List.length_cons, List.length_nil, Nat.reduceAdd, Nat.reduceSub, Array.replicate_succ, Array.replicate_zero, List.push_toArray, List.append_toArray, List.nil_append, List.cons_append]
  gi_wp2
  gi_region_with_o (first
    | (refine ⟨trivial, fun _ => by omega, (callsIn_wide.2 (hlen _)).mono ?_⟩; rintro e w1 ⟨rfl, hb1⟩; have c1a := cell_below c1' hb1; have c2a := cell_below c2' hb1)
    | (refine ⟨trivial, fun _ => by omega, (callsIn_wide.2 (hany _)).mono ?_⟩; rintro e w2 ⟨v2, rfl, ⟨a2, k2, rfl, -⟩, hb2⟩; dsimp only [List.length_nil]))
  all_goals
    have c1b := cell_below c1a hb2
    have c2b := cell_below c2a hb2
    have hB2 := below_step hb1 hb2
    clear c1' c2' c1a c2a hb1 hb2 hany
    gi_wp2
    have c1d : w2.drew.cell? ⟨b1, 0, none⟩ = some (.pointer none) := c1b
    have c2d : w2.drew.cell? ⟨b2, 0, none⟩ = some (.bool true) := c2b
    clear c1b c2b
    gi_region_with_o (first
      | (refine ⟨trivial, fun _ => by omega, (callsIn_wide.2 (hlen _)).mono ?_⟩; rintro e w3 ⟨rfl, hb3⟩; have c1e := cell_below c1d hb3; have c2e := cell_below c2d hb3)
      | (refine ⟨trivial, fun _ => by omega, (callsIn_wide.2 (hcom _)).mono ?_⟩; rintro e w4 ⟨v4, rfl, ⟨a4, k4, rfl, -⟩, hb4⟩; dsimp only [List.length_nil]))
  all_goals
    have hB4 := below_step (below_step (below_drew hB2) hb3) hb4
    have h4 : J [] w4 := hJ _ _ _ h0' hB4
    clear c1d c2d c1e c2e hb3 hb4 hB2 hB4 hcom hlen h0'
    gi_wp2
    gi_loopw [25] (fun i wr => i = .int .i64 0 ∧ wr = w4) (fun _ _ => 0)
    case atStart => exact ⟨rfl, rfl⟩
    case round =>
      obtain ⟨rfl, rfl⟩ := hrel
      gi_wp2
      go_end0
      exact ⟨⟨_, rfl⟩, .inl ⟨[], rfl, h4⟩⟩

end Go.Proofs.Ytjjlbancofkinaa
