/-
  known (of law 11): two records of a transaction.
-/
import Derived.Test.YtjjlbancofkinaaTold
namespace Go.Proofs.Ytjjlbancofkinaa
open Go.RowKit

def kR1 : PL.Rec := ⟨0, 0, 1, 0, []⟩
def kR2 : PL.Rec := ⟨0, 0, 1, 1, []⟩
def kS1 : PL.St := (PL.St.new.learn 0 0).2
def kS2 : PL.St := (kS1.append kR1).2.2
def kS3 : PL.St := (kS2.append kR2).2.2
def kS4 : PL.St := (kS3.ends 0 0 1 true).2
theorem nilBytes (w : World) : BytesAt w (.slice none 0 0) [] := ⟨none, 0, rfl, Nat.le_refl _, by omega, Lib.BytesIn.nil _ _ _⟩

theorem Turned.out {p : Nat} {M V : Nat → Prop} {v : Value} {s : PL.St} {w w1 : World} {r : Ending} {w' : World} (h : Turned p M V v s w1 r w') (hB : Below w.heap.size w w1) (hM : ∀ b, M b → w.heap.size ≤ b) :
    r = .returned v ∧ ∃ M' V', PRep w' p s M' V' ∧ Below w.heap.size w w' ∧ ∀ b, M' b → w.heap.size ≤ b := by
  obtain ⟨M', V', h1, h2, h3, h4, h5⟩ := h
  exact ⟨h1, M', V', h2, h3.to_below hB hM, fun b hb => by
    rcases h4 b hb with h | h
    · exact hM b h
    · have := hB.size; omega⟩

set_option maxRecDepth 100000 in
set_option maxHeartbeats 1600000 in
theorem known11_any (w : World) : Calls Try.prog 21 #[] w (Ret (.bool true) w) := by
  go_enter Try.func21, Try.ntmps21
  go_wp2_with fail
  refine (new_any _).mono ?_
  rintro x w1 ⟨p, rfl, hP1, hp, hB1⟩
  obtain ⟨M1, V1, hP1, hM1⟩ : ∃ M V, PRep w1 p PL.St.new M V ∧ ∀ b, M b → w.heap.size ≤ b := ⟨_, _, hP1, fun b h => h.1⟩
  go_wp2_with fail
  refine (show Calls _ _ _ _ (RetM M1 (.int .i64 0) (fun w' => PRep w' p kS1 M1 V1) w1) from learn_any w1 p _ M1 V1 hP1 0 0).mono ?_
  rintro x w2 ⟨rfl, hP2, hF2⟩
  have hB2 := hF2.to_below hB1 hM1
  clear hF2 hB1 hP1 hp
  go_wp2_with fail
  refine (show Calls _ _ _ _ (Turned p M1 V1 (.tuple #[.int .i64 0, .int .i64 0]) kS2 w2) from append_any w2 p kS1 M1 V1 hP2 (by decide) (by decide) (by decide) kR1 (.slice none 0 0) (nilBytes _) (fun b e => by cases e)).mono ?_
  intro x w3 hT
  obtain ⟨rfl, M2, V2, hP3, hB3, hM2⟩ := hT.out hB2 hM1
  clear hT hB2 hP2 hM1
  go_wp2_with fail
  refine (show Calls _ _ _ _ (Turned p M2 V2 (.tuple #[.int .i64 1, .int .i64 0]) kS3 w3) from append_any w3 p kS2 M2 V2 hP3 (by decide) (by decide) (by decide) kR2 (.slice none 0 0) (nilBytes _) (fun b e => by cases e)).mono ?_
  intro x w4 hT
  obtain ⟨rfl, M3, V3, hP4, hB4, hM3⟩ := hT.out hB3 hM2
  clear hT hB3 hP3 hM2
  go_wp2_with fail
  refine (show Calls _ _ _ _ (Ret (.int .i64 0) w4) from stable_any w4 p kS3 M3 V3 hP4 (by decide)).mono ?_
  rintro x w5 ⟨rfl, hb5⟩
  have hP5 := hP4.below hb5
  have hB5 := below_step hB4 hb5
  clear hP4 hb5 hB4
  go_wp2_with fail
  refine (show Calls _ _ _ _ (Turned p M3 V3 (.int .i64 0) kS4 w5) from ends_any w5 p kS3 M3 V3 hP5 (by decide) 0 0 1 true).mono ?_
  intro x w6 hT
  obtain ⟨rfl, M4, V4, hP6, hB6, hM4⟩ := hT.out hB5 hM3
  clear hT hB5 hP5 hM3
  go_wp2_with fail
  refine (show Calls _ _ _ _ (Ret (.int .i64 2) w6) from stable_any w6 p kS4 M4 V4 hP6 (by decide)).mono ?_
  rintro x w7 ⟨rfl, hb7⟩
  have hB7 := below_step hB6 hb7
  clear hP6 hb7 hB6
  go_wp2_with fail
  go_ret
  exact Ret.bool rfl hB7

end Go.Proofs.Ytjjlbancofkinaa
