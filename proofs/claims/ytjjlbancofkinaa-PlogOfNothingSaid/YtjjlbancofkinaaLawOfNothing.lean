/-
  PlogOfNothing: of a nil log nothing is told, whatever record is offered to it: for every input the law returns true, and the input reads as it did. No condition.
-/
import Derived.Test.YtjjlbancofkinaaJoint
import Derived.Test.YtjjlbancofkinaaLaw11d
namespace Go.Proofs.Ytjjlbancofkinaa.plogOfNothing
open Go.Joins Go.ChangeShapes Go.WideShapes Go.ChangeAt Go.RowKit Go.Deep
set_option linter.unusedVariables false

theorem own : ownKnob Try.prog.godebug = none := by kernel_rfl

set_option maxRecDepth 100000 in
theorem lifted (os : Os) (started : os.Started) (H : Type) (enc : TypeId × Value → H) :
    ReturnsInHanded {} Try.checked os 6 .any (Rows.plogOfNothingSpec.pre6 enc Try.prog Try.f6 Rows.plogOfNothingRow.domain false) (Rows.plogOfNothingSpec.post enc Try.prog Try.f6 false true false false) := by
  refine returnsInHanded_of_change (C := Try.checked) own started (by kernel_rfl) Try.func6
    (ChangeSpec.witness6 (enc := enc) (C := Try.checked) false ⟨#[], #[.agg #[.int .i64 0, .int .i64 0, .int .i64 0, .int .i64 0, .slice none 0 0]], []⟩ 8 (by kernel_rfl) (by kernel_rfl) (by kernel_rfl) (by kernel_rfl)) ?_
  intro W base args ds gs before hval0 hW hcnd _
  have hval : ∀ (j : Nat) t v, Try.f6.params[j]? = some t → args[j]? = some v → Value.okWide Try.prog W .any base t v := hval0
  have hW' := hW
  obtain ⟨p, q, hA0, hV, rfl, hfz, hnd⟩ := hW
  have hA : DataW.TrodAll enc Try.prog W 0 (fun _ => true) true Try.f6.params.toList args.toList ds p := hA0
  rw [Try.params6] at hA hval
  obtain ⟨v0, vs0, d0, ds0, p0, q0, hargs, rfl, rfl, h0, r0⟩ := trodAll_cons hA
  obtain ⟨rfl, rfl, rfl⟩ := trodAll_nil r0
  obtain rfl : args = #[v0] := by cases args; simp_all
  obtain ⟨rfl, rfl⟩ := trodVars_none hV
  obtain ⟨cs, rfl, hsz⟩ := okWide_struct Try.underlying32 (hval 0 32 v0 rfl rfl)
  obtain ⟨fuel, hf⟩ := h0
  obtain ⟨a0, a1, a2, a3, u4, n, y, hcs, -, t4, -⟩ := rec_read hf
  obtain ⟨cs⟩ := cs
  replace hcs : cs = _ := hcs
  subst hcs
  have hsl : ∃ pv n c, u4 = .slice pv n c := by
    rcases open_slice Try.underlying30 t4 with ⟨h, -⟩ | ⟨a, len, cap, m, n, D, Pl, h, -⟩
    · cases h; exact ⟨_, _, _, rfl⟩
    · cases h; exact ⟨_, _, _, rfl⟩
  obtain ⟨pv, l, c, rfl⟩ := hsl
  refine (plogOfNothing_walk W a0 a1 a2 a3 pv l c).mono fun e W' ⟨he, hb⟩ => ?_
  subst he
  exact ⟨_, rfl, post_below (bt := 4) hW' rfl hb (by kernel_rfl) (by rw [Try.params6]; decide +kernel) rfl Try.underlying4 rfl rfl rfl⟩

theorem over : Rows.plogOfNothingRow.holds Try.pinned (OpenSpec.ofChange Rows.plogOfNothingSpec) :=
  OpenClaim.holds_of_wide 6 Try.f6 rfl rfl rfl rfl rfl rfl rfl ⟨rfl, rfl, rfl, rfl, rfl⟩ rfl rfl rfl rfl rfl (by kernel_rfl) Try.func6 (by kernel_rfl)
    (of_decide_eq_true (by kernel_rfl)) (by unfold Func.isWrapper; first | (rw [if_pos (by decide +kernel)]; kernel_rfl) | (rw [if_neg (by decide +kernel)]; exact ⟨rfl, rfl⟩))
    (fun os started H enc _ => lifted os started H enc)

/-- The statement. -/
theorem proved : Rows.PlogOfNothingSaid :=
  over
end Go.Proofs.Ytjjlbancofkinaa.plogOfNothing
