/-
  known (of law 12): what is open is not read.
-/
import Derived.Test.YtjjlbancofkinaaFetchD
namespace Go.Proofs.Ytjjlbancofkinaa
open Go.RowKit

theorem k12a : readOut (isComm kS2.S) 5 kS2.stable (kS2.R.drop 0) (0 : Nat) [] = ([], 0) := by decide
theorem k12b : readOut (fun _ => true) 5 kS2.R.length (kS2.R.drop 0) (0 : Nat) [] = ([kR1], 1) := by decide

set_option maxRecDepth 100000 in
set_option maxHeartbeats 1600000 in
theorem known12_any (w : World) : Calls Try.prog 36 #[] w (Ret (.bool true) w) := by
  go_enter Try.func36, Try.ntmps36
  go_wp2_with fail
  refine (new_any _).mono ?_
  rintro x w1 ⟨p, rfl, hP1, hp, hB1⟩
  obtain ⟨M1, V1, hP1, hM1⟩ : ∃ M V, PRep w1 p PL.St.new M V ∧ ∀ b, M b → w.heap.size ≤ b := ⟨_, _, hP1, fun b h => h.1⟩
  go_wp2_with fail
  refine (show Calls _ _ _ _ (RetM M1 (.int .i64 0) (fun w' => PRep w' p kS1 M1 V1) w1) from learn_any w1 p _ M1 V1 hP1 0 0).mono ?_
  rintro x w2 ⟨rfl, hP2, hF2⟩
  have hB2 := hF2.to_below hB1 hM1
  clear hF2 hB1 hP1 hp
  go_wp2_with fail
  refine (show Calls _ _ _ _ (Turned p M1 V1 (.tuple #[.int .i64 0, .int .i64 0]) kS2 w2) from append_any w2 p kS1 M1 V1 hP2 (by decide) (by decide) (by decide) kR1 (.slice none 0 0) (nilBytes _) (fun b e => by cases e)).mono ?_
  intro x w3 hT
  obtain ⟨rfl, M2, V2, hP3, hB3, hM2⟩ := hT.out hB2 hM1
  clear hT hB2 hP2 hM1
  have ha := fun W (hb : Below w3.heap.size w3 W) => fetchCommitted_any W p kS2 M2 V2 (hP3.below hb) (by decide) (by decide) (by decide) 0 5 0 (by decide)
  have hb := fun W (hb : Below w3.heap.size w3 W) => fetchAny_any W p kS2 M2 V2 (hP3.below hb) (by decide) (by decide) 0 5 0 (by decide)
  rw [k12a] at ha
  rw [k12b] at hb
  clear hP3
  go_wp2_with fail
  refine (ha w3 (below_refl _)).mono ?_
  rintro x w4 ⟨v4, rfl, ⟨a4, c4, rfl, -⟩, hb4⟩
  clear ha
  have hB4 := below_step hB3 hb4
  dsimp only [List.length_nil]
  go_wp2_with fail
  refine (hb w4 hb4).mono ?_
  rintro x w5 ⟨v5, rfl, ⟨a5, c5, rfl, -⟩, hb5⟩
  clear hb
  have hB5 := below_step hB4 hb5
  dsimp only [List.length_cons, List.length_nil]
  clear hB4 hb5 hb4 hB3
  go_wp2_with fail
  go_ret
  exact Ret.bool rfl hB5

end Go.Proofs.Ytjjlbancofkinaa
