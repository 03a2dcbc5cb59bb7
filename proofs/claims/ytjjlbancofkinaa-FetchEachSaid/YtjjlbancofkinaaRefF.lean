/-
  The reference's log: Append: what is refused, and what comes again.
-/
import Derived.Test.YtjjlbancofkinaaRefE
namespace Go.Proofs.Ytjjlbancofkinaa
open Go.RowKit

theorem turnedX_same {w : World} {q : Nat} {s : PL.St} {M V : Nat → Prop} {w' : World} {v v' : Value} {s' : PL.St} (h : XRep w q s M V) (hb : Below w.heap.size w w') (hv : v = v') (hs : s' = s) : TurnedX q M V v' s' w (.returned v) w' := by
  subst hv hs
  exact ⟨M, V, rfl, h.below hb, Fr.of_below hb, fun b hb => .inl hb, fun b hb => .inl hb⟩
theorem tup2 {a0 a1 b0 b1 : Int} (h0 : a0 = b0) (h1 : a1 = b1) : Value.tuple #[.int .i64 a0, .int .i64 a1] = .tuple #[.int .i64 b0, .int .i64 b1] := by rw [h0, h1]

set_option maxRecDepth 100000 in
set_option maxHeartbeats 1600000 in
theorem append11_bad (w : World) (q : Nat) (s : PL.St) (M V : Nat → Prop) (h : XRep w q s M V) (r : PL.Rec) (v : Value) (hv : BytesAt w v r.v) (hok : ¬ PL.okRec r) :
    Calls Try.prog 45 #[.pointer (some ⟨q, 0, none⟩), recV r v] w (TurnedX q M V (.tuple #[.int .i64 0, .int .i64 1]) s w) := by
  obtain ⟨xp, xe, xt, xq, xv⟩ := r
  obtain ⟨pv, cv, rfl, hv1, hv2, -⟩ := hv
  unfold recV PL.okRec PL.okPE PL.okT at *
  dsimp only at *
  have h1 := in_any xp 0 7
  have h2 := in_any xe 0 100
  have h3 := in_any xt 1 100
  have h4 := in_any xq 0 1048576
  have HX := Lib.hid h
  clear h
  by_cases o1 : 0 ≤ xp ∧ xp ≤ 7
  · rw [show decide (0 ≤ xp ∧ xp ≤ 7) = true by simpa using o1] at h1
    by_cases o2 : 0 ≤ xe ∧ xe ≤ 100
    · rw [show decide (0 ≤ xe ∧ xe ≤ 100) = true by simpa using o2] at h2
      by_cases o3 : 1 ≤ xt ∧ xt ≤ 100
      · rw [show decide (1 ≤ xt ∧ xt ≤ 100) = true by simpa using o3] at h3
        by_cases o4 : 0 ≤ xq ∧ xq ≤ 1048576
        · rw [show decide (0 ≤ xq ∧ xq ≤ 1048576) = true by simpa using o4] at h4
          have h5 : 200 < xv.length := by omega
          clear hok o1 o2 o3 o4
          go_enter Try.func45, Try.ntmps45
          go_wp2_with fail
          refine (h1 _).mono ?_
          rintro x w1 ⟨rfl, rfl⟩
          go_wp2_with fail
          refine (h2 _).mono ?_
          rintro x w1 ⟨rfl, rfl⟩
          go_wp2_with fail
          refine (h3 _).mono ?_
          rintro x w1 ⟨rfl, rfl⟩
          go_wp2_with fail
          refine (h4 _).mono ?_
          rintro x w1 ⟨rfl, rfl⟩
          go_wp2_with fail
          go_ret2
          exact turnedX_same HX.out (below_alloc (below_refl _) _) rfl rfl
        · rw [show decide (0 ≤ xq ∧ xq ≤ 1048576) = false by simpa using o4] at h4
          clear hok o1 o2 o3 o4
          go_enter Try.func45, Try.ntmps45
          go_wp2_with fail
          refine (h1 _).mono ?_
          rintro x w1 ⟨rfl, rfl⟩
          go_wp2_with fail
          refine (h2 _).mono ?_
          rintro x w1 ⟨rfl, rfl⟩
          go_wp2_with fail
          refine (h3 _).mono ?_
          rintro x w1 ⟨rfl, rfl⟩
          go_wp2_with fail
          refine (h4 _).mono ?_
          rintro x w1 ⟨rfl, rfl⟩
          go_wp2_with fail
          go_ret2
          exact turnedX_same HX.out (below_alloc (below_refl _) _) rfl rfl
      · rw [show decide (1 ≤ xt ∧ xt ≤ 100) = false by simpa using o3] at h3
        clear hok o1 o2 o3
        go_enter Try.func45, Try.ntmps45
        go_wp2_with fail
        refine (h1 _).mono ?_
        rintro x w1 ⟨rfl, rfl⟩
        go_wp2_with fail
        refine (h2 _).mono ?_
        rintro x w1 ⟨rfl, rfl⟩
        go_wp2_with fail
        refine (h3 _).mono ?_
        rintro x w1 ⟨rfl, rfl⟩
        go_wp2_with fail
        go_ret2
        exact turnedX_same HX.out (below_alloc (below_refl _) _) rfl rfl
    · rw [show decide (0 ≤ xe ∧ xe ≤ 100) = false by simpa using o2] at h2
      clear hok o1 o2
      go_enter Try.func45, Try.ntmps45
      go_wp2_with fail
      refine (h1 _).mono ?_
      rintro x w1 ⟨rfl, rfl⟩
      go_wp2_with fail
      refine (h2 _).mono ?_
      rintro x w1 ⟨rfl, rfl⟩
      go_wp2_with fail
      go_ret2
      exact turnedX_same HX.out (below_alloc (below_refl _) _) rfl rfl
  · rw [show decide (0 ≤ xp ∧ xp ≤ 7) = false by simpa using o1] at h1
    clear hok o1
    go_enter Try.func45, Try.ntmps45
    go_wp2_with fail
    refine (h1 _).mono ?_
    rintro x w1 ⟨rfl, rfl⟩
    go_wp2_with fail
    go_ret2
    exact turnedX_same HX.out (below_alloc (below_refl _) _) rfl rfl

/-- The case that a record may be: the walk up to the place where its kind is known; a is the epoch that is known. -/
def PreX (w W : World) (q : Nat) (s : PL.St) (M V : Nat → Prop) (r : PL.Rec) (v : Value) : Prop :=
  XRep W q s M V ∧ RecAt W w.heap.size 0 r v ∧ W.frozen? ⟨w.heap.size, 4, none⟩ = false ∧ Below w.heap.size w W

end Go.Proofs.Ytjjlbancofkinaa
