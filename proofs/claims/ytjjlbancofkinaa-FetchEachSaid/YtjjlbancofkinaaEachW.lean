/-
  FetchEach: one by one it is the same as at once, and whoever stops is told no more.
-/
import Derived.Test.YtjjlbancofkinaaAnyW
namespace Go.Proofs.Ytjjlbancofkinaa
open Go.RowKit
attribute [local go_sem] Oper.semAt_some

set_option maxRecDepth 100000 in
theorem fetchEach_out (w : World) (v : Value) (L : List PL.Act) (h : ActsAt w v L) (most : Int) (b : Bool) (hm : most < 0 ∨ ¬ most < 0 ∧ 200 < most) :
    Calls Try.prog 12 #[v, .int .i64 most, .bool b] w (Ret (.bool true) w) := by
  have hlong := long12_any w v L h
  obtain ⟨a, c, rfl, -⟩ := h
  go_enter Try.func12, Try.ntmps12
  go_wp2_with fail
  refine hlong.mono ?_
  rintro x w1 ⟨y, rfl, rfl⟩
  clear hlong
  cases y <;> rcases hm with hm | ⟨hm, hm2⟩
  all_goals
    go_wp2_with fail
    go_ret
    exact Ret.bool rfl (below_refl _)

set_option maxRecDepth 100000 in
set_option maxHeartbeats 3200000 in
theorem fetchEach_in (w : World) (v : Value) (L : List PL.Act) (h : ActsAt w v L) (m : Nat) (hm : m ≤ 200) (b : Bool) :
    Calls Try.prog 12 #[v, .int .i64 m, .bool b] w (Ret (.bool true) w) := by
  have hlong := long12_any w v L h
  have hlaid := laid_any w v L h
  obtain ⟨hO, hS, hR⟩ := laid_facts L
  generalize PL.St.new.plays (L.take 80) = s at *
  obtain ⟨a, c, rfl, -⟩ := h
  have HO := Lib.hid hO
  have n1 : ¬ (m : Int) < 0 := by omega
  have n2 : ¬ 200 < (m : Int) := by omega
  clear hO
  go_enter Try.func12, Try.ntmps12
  go_wp2_with fail
  refine hlong.mono ?_
  rintro x w1 ⟨y, rfl, rfl⟩
  clear hlong
  cases y
  case true =>
    go_wp2_with fail
    go_ret
    exact Ret.bool rfl (below_refl _)
  go_wp2_with fail
  refine hlaid.mono ?_
  rintro x w1 ⟨p, q, rfl, hT⟩
  clear hlaid
  have hB := hT.below
  obtain ⟨M, V, N, U, hBo, -⟩ := hT
  obtain ⟨hP, hX, -⟩ := hBo
  have hra := fun W (hb : Below w1.heap.size w1 W) => any12_any W q s N U (hX.below hb) (by omega) 0 m 0 (by decide)
  have hrc := fun W (hb : Below w1.heap.size w1 W) => committed12_any W q s N U (hX.below hb) (by omega) (stable_le s) 0 m 0 (by decide)
  have htold := fun X (hb : Below w1.heap.size w1 X) => toldEach_any X p s M V (hP.below hb) (by omega) hS HO.out.vals b m m rfl
  rw [isComm_X HO.out] at htold
  have heach := fun X => each_any X (some ⟨p, 0, none⟩) b
  unfold eachV at heach
  generalize readOut (isCommX s) m s.stable (s.R.drop 0) (0 : Nat) [] = rc at *
  generalize readOut (fun _ => true) m s.R.length (s.R.drop 0) (0 : Nat) [] = ra at *
  obtain ⟨rc1, rc2⟩ := rc
  obtain ⟨ra1, ra2⟩ := ra
  dsimp only at *
  clear hP hX
  go_wp2_with fail
  refine (hra _ (below_refl _)).mono ?_
  rintro x w2 ⟨v2, rfl, hR2, hb2⟩
  have hR2' := hR2
  obtain ⟨a2, c2, rfl, -⟩ := hR2'
  clear hra
  cases b
  case false =>
    simp only [Bool.false_eq_true, if_false] at htold
    clear hrc
    go_wp2_with fail
    refine (heach _).mono ?_
    rintro x w4 ⟨rfl, hw4⟩
    have hB4 : Below w1.heap.size w1 w4 := by subst hw4; exact below_alloc (below_alloc hb2 _) _
    have ht := htold _ hb2 _ hw4
    replace hR2 := hR2.below (by subst hw4; exact below_alloc (below_alloc (below_refl _) _) _ : Below w2.heap.size w2 w4)
    clear hw4 htold heach
    go_wp2_with fail
    refine ht.mono ?_
    rintro x w5 ⟨v5, rfl, hR5, hb5⟩
    have hR5' := hR5
    obtain ⟨a5, c5, rfl, -⟩ := hR5'
    have hr := records11_any w5 ra1 ra1 _ _ hR5 (hR2.below hb5)
    rw [show decide (ra1 = ra1) = true from decide_eq_true rfl] at hr
    have hB5 := below_step hB4 hb5
    clear ht hR2 hR5 hb5
    go_wp2_with fail
    refine hr.mono ?_
    rintro x w6 ⟨rfl, hb6⟩
    have hB6 := below_step hB5 hb6
    clear hr
    go_wp2_with fail
    refine (known12_any _).mono ?_
    rintro x w7 ⟨rfl, hb7⟩
    go_wp2_with fail
    go_ret
    exact Ret.bool rfl (below_step hB (below_step hB6 hb7))
  case true =>
    simp only [if_true] at htold
    clear hR2
    go_wp2_with fail
    refine (hrc _ hb2).mono ?_
    rintro x w3 ⟨v3, rfl, hR3, hb3⟩
    have hR3' := hR3
    obtain ⟨a3, c3, rfl, -⟩ := hR3'
    have hB3 := below_step hb2 hb3
    clear hrc
    go_wp2_with fail
    refine (heach _).mono ?_
    rintro x w4 ⟨rfl, hw4⟩
    have hB4 : Below w1.heap.size w1 w4 := by subst hw4; exact below_alloc (below_alloc hB3 _) _
    have ht := htold _ hB3 _ hw4
    replace hR3 := hR3.below (by subst hw4; exact below_alloc (below_alloc (below_refl _) _) _ : Below w3.heap.size w3 w4)
    clear hw4 htold heach
    go_wp2_with fail
    refine ht.mono ?_
    rintro x w5 ⟨v5, rfl, hR5, hb5⟩
    have hR5' := hR5
    obtain ⟨a5, c5, rfl, -⟩ := hR5'
    have hr := records11_any w5 rc1 rc1 _ _ hR5 (hR3.below hb5)
    rw [show decide (rc1 = rc1) = true from decide_eq_true rfl] at hr
    have hB5 := below_step hB4 hb5
    clear ht hR3 hR5 hb5
    go_wp2_with fail
    refine hr.mono ?_
    rintro x w6 ⟨rfl, hb6⟩
    have hB6 := below_step hB5 hb6
    clear hr
    go_wp2_with fail
    refine (known12_any _).mono ?_
    rintro x w7 ⟨rfl, hb7⟩
    go_wp2_with fail
    go_ret
    exact Ret.bool rfl (below_step hB (below_step hB6 hb7))

theorem fetchEach_walk (w : World) (v : Value) (L : List PL.Act) (h : ActsAt w v L) (most : Int) (_ : (Lit.int .i64 most).wf = true) (b : Bool) :
    Calls Try.prog 12 #[v, .int .i64 most, .bool b] w (Ret (.bool true) w) := by
  by_cases h1 : most < 0
  · exact fetchEach_out w v L h most b (.inl h1)
  · by_cases h2 : 200 < most
    · exact fetchEach_out w v L h most b (.inr ⟨h1, h2⟩)
    · obtain ⟨m, rfl⟩ : ∃ m : Nat, most = m := ⟨most.toNat, by omega⟩
      exact fetchEach_in w v L h m (by omega) b

end Go.Proofs.Ytjjlbancofkinaa
