/-
  FetchOfNothing: of a nil log nothing is read, whatever is asked: for every input the law returns true, and the inputs read as they did. No condition.
-/
import Derived.Test.YtjjlbancofkinaaJoint
import Derived.Test.YtjjlbancofkinaaTold12
namespace Go.Proofs.Ytjjlbancofkinaa
open Go.RowKit

set_option maxRecDepth 100000 in
set_option maxHeartbeats 1600000 in
theorem fetchOfNothing_walk (w : World) (from_ most : Int) (w0 : (Lit.int .i64 from_).wf = true) :
    Calls Try.prog 9 #[.int .i64 from_, .int .i64 most] w (Ret (.bool true) w) := by
  obtain ⟨m, hm⟩ : ∃ m : Nat, max from_ 0 = m := ⟨(max from_ 0).toNat, by omega⟩
  have hcom := fun W => fetchCommitted_nil W from_ most m hm
  have hany := fun W => fetchAny_nil W from_ most m hm
  go_enter Try.func9, Try.ntmps9
  go_wp2_with fail
  refine (hcom _).mono ?_
  rintro x w1 ⟨v1, rfl, ⟨a1, c1, rfl, -⟩, hB1⟩
  clear hcom
  dsimp only [List.length_nil]
  go_wp2_with fail
  refine (hany _).mono ?_
  rintro x w2 ⟨v2, rfl, ⟨a2, c2, rfl, -⟩, hb2⟩
  have hB2 := below_step hB1 hb2
  clear hany hB1 hb2
  dsimp only [List.length_nil]
  go_wp2_with fail
  refine (aborted_nil _ 0 9).mono ?_
  rintro x w3 ⟨v3, rfl, ⟨a3, c3, rfl, -⟩, hb3⟩
  have hB3 := below_step hB2 hb3
  clear hB2 hb3
  dsimp only [List.length_nil]
  go_wp2_with fail
  refine (each_any w3 none true).mono ?_
  rintro x w4 ⟨rfl, hw4⟩
  have k2 : w4.cell? ⟨w3.heap.size, 0, none⟩ = some (.pointer none) := by subst hw4; exact ((Boxed.new w3 _ _).alloc _).cell
  have k3 : w4.cell? ⟨w3.heap.size + 1, 0, none⟩ = some (.bool true) := by
    subst hw4
    have h := (Boxed.new (w3.alloc (.cells #[.pointer none] 24)) 4 (.bool true)).cell
    rw [World.size_alloc] at h
    exact h
  have hB4 : Below w.heap.size w w4 := by subst hw4; exact below_alloc (below_alloc hB3 _) _
  have hto := told12_nil w4 #[.pointer (some ⟨w3.heap.size, 0, none⟩), .pointer (some ⟨w3.heap.size + 1, 0, none⟩)] 0 w3.heap.size (fun _ _ _ => True) (each1_nil 5 (by decide) w4 w3.heap.size (w3.heap.size + 1) k2 k3 _ _ _) (lt_of_cell k2) (Nat.zero_le _)
  unfold eachV
  clear hB3 k2 k3 hw4
  go_wp2_with fail
  refine hto.mono ?_
  rintro x w5 ⟨rfl, hb5⟩
  have hB5 := below_step hB4 hb5
  clear hto hB4 hb5
  go_wp2_with fail
  refine (known12_any _).mono ?_
  rintro x w6 ⟨rfl, hb6⟩
  have hB6 := below_step hB5 hb6
  clear hB5 hb6
  go_wp2_with fail
  go_ret
  exact Ret.bool rfl hB6
end Go.Proofs.Ytjjlbancofkinaa

namespace Go.Proofs.Ytjjlbancofkinaa.fetchOfNothing
open Go.ChangeShapes Go.WideShapes Go.ChangeAt Go.RowKit
set_option linter.unusedVariables false

theorem own : ownKnob Try.prog.godebug = none := by kernel_rfl

set_option maxRecDepth 100000 in
theorem lifted (os : Os) (started : os.Started) (H : Type) (enc : TypeId × Value → H) :
    ReturnsInHanded {} Try.checked os 9 .any (Rows.fetchOfNothingSpec.pre6 enc Try.prog Try.f9 Rows.fetchOfNothingRow.domain false) (Rows.fetchOfNothingSpec.post enc Try.prog Try.f9 false true false false) := by
  refine returnsInHanded_of_change (C := Try.checked) own started (by kernel_rfl) Try.func9
    (ChangeSpec.witness6 (enc := enc) (C := Try.checked) false ⟨#[], #[.int .i64 0, .int .i64 0], []⟩ 8 (by kernel_rfl) (by kernel_rfl) (by kernel_rfl) (by kernel_rfl)) ?_
  intro W base args ds gs before hval0 hW hcnd _
  have hval : ∀ (j : Nat) t v, Try.f9.params[j]? = some t → args[j]? = some v → Value.okWide Try.prog W .any base t v := hval0
  have hW' := hW
  obtain ⟨p, q, hA0, hV, rfl, hfz, hnd⟩ := hW
  have hA : DataW.TrodAll enc Try.prog W 0 (fun _ => true) true Try.f9.params.toList args.toList ds p := hA0
  rw [Try.params9] at hA hval
  obtain ⟨v0, vs0, d0, ds0, p0, q0, hargs, rfl, rfl, h0, r0⟩ := trodAll_cons hA
  obtain ⟨v1, vs1, d1, ds1, p1, q1, rfl, rfl, rfl, h1, r1⟩ := trodAll_cons r0
  obtain ⟨rfl, rfl, rfl⟩ := trodAll_nil r1
  obtain rfl : args = #[v0, v1] := by cases args; simp_all
  obtain ⟨rfl, rfl⟩ := trodVars_none hV
  obtain ⟨a0, rfl, rfl, rfl, w0⟩ := open_int Try.underlying3 (hval 0 3 v0 rfl rfl) h0
  obtain ⟨a1, rfl, rfl, rfl, w1⟩ := open_int Try.underlying3 (hval 1 3 v1 rfl rfl) h1
  refine (fetchOfNothing_walk W a0 a1 w0).mono fun e W' ⟨he, hb⟩ => ?_
  subst he
  exact ⟨_, rfl, post_below (bt := 4) hW' rfl hb (by kernel_rfl) (by rw [Try.params9]; decide +kernel) rfl Try.underlying4 rfl rfl rfl⟩

theorem over : Rows.fetchOfNothingRow.holds Try.pinned (OpenSpec.ofChange Rows.fetchOfNothingSpec) :=
  OpenClaim.holds_of_wide 9 Try.f9 rfl rfl rfl rfl rfl rfl rfl ⟨rfl, rfl, rfl, rfl, rfl⟩ rfl rfl rfl rfl rfl (by kernel_rfl) Try.func9 (by kernel_rfl)
    (of_decide_eq_true (by kernel_rfl)) (by unfold Func.isWrapper; first | (rw [if_pos (by decide +kernel)]; kernel_rfl) | (rw [if_neg (by decide +kernel)]; exact ⟨rfl, rfl⟩))
    (fun os started H enc _ => lifted os started H enc)

/-- The statement. -/
theorem proved : Rows.FetchOfNothingSaid :=
  over
end Go.Proofs.Ytjjlbancofkinaa.fetchOfNothing
