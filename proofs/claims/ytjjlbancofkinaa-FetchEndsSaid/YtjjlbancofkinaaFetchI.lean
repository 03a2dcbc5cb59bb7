/-
  FetchEnds: the walk.
-/
import Derived.Test.YtjjlbancofkinaaJoint
import Derived.Test.YtjjlbancofkinaaFetchH
namespace Go.Proofs.Ytjjlbancofkinaa
open Go.RowKit

set_option maxRecDepth 100000 in
set_option maxHeartbeats 800000 in
/-- Out of bounds: the known case alone. -/
theorem fetchEnds_out (w : World) (n kind : Int) (o : Bool) (h : n < 1 ∨ ¬ n < 1 ∧ 30 < n ∨ ¬ n < 1 ∧ ¬ 30 < n ∧ kind < 0 ∨ ¬ n < 1 ∧ ¬ 30 < n ∧ ¬ kind < 0 ∧ 2 < kind) :
    Calls Try.prog 11 #[.int .i64 n, .int .i64 kind, .bool o] w (Ret (.bool true) w) := by
  rcases h with h | ⟨h, h2⟩ | ⟨h, h2, h3⟩ | ⟨h, h2, h3, h4⟩
  all_goals
    go_enter Try.func11, Try.ntmps11
    go_wp2_with fail
    refine (known12_any _).mono ?_
    rintro x w1 ⟨rfl, hb1⟩
    go_wp2_with fail
    go_ret
    exact Ret.bool rfl hb1

/-- The first part: the log is there, with another transaction or without. -/
theorem byteAt_new (w : World) (i : Nat) (h : i < 256) : BytesAt (w.alloc (.cells #[.int .u8 i] 5)) (.slice (some ⟨w.heap.size, 0, none⟩) 1 1) [UInt8.ofNat i] := by
  refine ⟨_, 1, rfl, by simp, by omega, fun _ => ⟨w.heap.size, 0, rfl, fun j hj => ?_⟩⟩
  have hj : j = 0 := by simp at hj; omega
  subst hj
  rw [(Boxed.new w 5 (.int .u8 i)).cell]
  simp [nums, Nat.mod_eq_of_lt h]

theorem map_one {l : List PL.Spn} {c : Int} (h : l.map (·.f) = [c]) : ∃ y, l = [y] ∧ y.f = c := by
  match l, h with
  | [y], h => exact ⟨y, rfl, by simpa using h⟩

set_option maxRecDepth 100000 in
set_option maxHeartbeats 6400000 in
theorem fetchEnds_in_false (w : World) (n : Nat) (k : Nat) (h1 : 1 ≤ n) (h2 : n ≤ 30) (h3 : k ≤ 2) :
    Calls Try.prog 11 #[.int .i64 n, .int .i64 k, .bool false] w (Ret (.bool true) w) := by
  have g1 : (1 : Int) ≤ n := by omega
  have g2 : (n : Int) ≤ 30 := by omega
  have g3 : (k : Int) ≤ 2 := by omega
  go_enter Try.func11, Try.ntmps11
  go_wp2_with fail
  refine (new_any _).mono ?_
  rintro x w1 ⟨p, rfl, hP1, hp, hB1⟩
  obtain ⟨M1, V1, hP1, hM1⟩ : ∃ M V, PRep w1 p PL.St.new M V ∧ ∀ b, M b → w.heap.size ≤ b := ⟨_, _, hP1, fun b h => h.1⟩
  go_wp2_with fail
  refine (show Calls _ _ _ _ (RetM M1 (.int .i64 0) (fun w' => PRep w' p (PL.St.new.learn 0 0).2 M1 V1) w1) from learn_any w1 p _ M1 V1 hP1 0 0).mono ?_
  rintro x w2 ⟨rfl, hP2, hF2⟩
  have hB2 := hF2.to_below hB1 hM1
  clear hF2 hB1 hP1 hp
  go_wp2_with fail
  refine (show Calls _ _ _ _ (RetM M1 (.int .i64 0) (fun w' => PRep w' p feB M1 V1) w2) from learn_any w2 p _ M1 V1 hP2 1 0).mono ?_
  rintro x w3 ⟨rfl, hP3, hF3⟩
  have hB3 := hF3.to_below hB2 hM1
  clear hF3 hB2 hP2
  replace hP3 : PRep w3 p (feS false 0) M1 V1 := hP3
  have hst := feS_small false
  go_wp2_with fail
  refine (show Calls _ _ _ _ (Ret (.int .i64 0) w3) from len_any w3 p (feS false 0) M1 V1 hP3).mono ?_
  rintro x w6 ⟨rfl, hb6⟩
  have hP6 := hP3.below hb6
  have hB6 := below_step hB3 hb6
  clear hP3 hB3 hb6
  go_wp2_with fail
  go_loopw [9] (fun iv wr => ∃ (j : Nat) (M V : Nat → Prop), j ≤ n ∧ iv = .int .i64 j ∧ PRep wr p (feS false j) M V ∧ Below w.heap.size w wr ∧ ∀ b, M b → w.heap.size ≤ b) (fun iv _ => n - (intOf iv).toNat)
  case atStart => exact ⟨0, M1, V1, Nat.zero_le _, rfl, hP6, hB6, hM1⟩
  case round =>
    obtain ⟨j, M7, V7, hj, rfl, hP7, hB7, hM7⟩ := hrel
    by_cases hlt : j < n
    · have hs7 := hst ⟨j, by omega⟩
      have hs7a : (feS false j).S.length ≤ 2 := hs7.1
      have hs7b : (feS false j).R.length = 0 + j := hs7.2.1
      have hal := below_alloc (below_refl wr) (.cells #[.int .u8 j] 5)
      have hap := append_any _ p (feS false j) M7 V7 (hP7.below hal) (by omega) (by omega) (fun r hr => ⟨(hs7.2.2 r hr).1, (hs7.2.2 r hr).2.1⟩) (feR j) (.slice (some ⟨wr.heap.size, 0, none⟩) 1 1) (byteAt_new wr j (by omega)) (fun b e hm => by cases e; exact Nat.lt_irrefl _ (hP7.bound _ (.inl hm)))
      have hBa := below_step hB7 hal
      clear hP7 hB7 hal hs7 hs7a hs7b
      generalize ((feS false j).append (feR j)).1 = z1 at hap
      generalize ((feS false j).append (feR j)).2.1 = z2 at hap
      have hu8 : IntKind.u8.wrap (j : Int) = j := by rw [IntKind.wrap_u8]; omega
      unfold recV feR at hap
      dsimp only at hap
      go_wp2_with fail
      refine hap.mono ?_
      intro x w7 hT
      obtain ⟨rfl, M8, V8, hP8, hB8, hM8⟩ := hT.out hBa hM7
      clear hT hBa hap hM7
      go_wp2_with fail
      go_roundw
      case rel => exact ⟨j + 1, M8, V8, by omega, by go_num, hP8, hB8, hM8⟩
      case measure => first | (simp [intOf]; done) | (simp [intOf]; omega)
    · obtain rfl : n = j := by omega
      clear hP6 hB6
      have hkk : k = 0 ∨ k = 1 ∨ k = 2 := by omega
      rcases hkk with rfl | rfl | rfl
      · have hP8 : PRep wr p (feK false n 0) M7 V7 := hP7
        clear hP7
        obtain ⟨hk1, hk2, hk3⟩ := feK_small false ⟨n, by omega⟩ ⟨0, by omega⟩
        obtain ⟨hr1, hr2, hr3⟩ := feK_reads false ⟨n, by omega⟩ ⟨0, by omega⟩ h1
        dsimp only at hk1 hk2 hk3 hr1 hr2 hr3
        replace hr1 : _ = 0 := hr1
        replace hr2 : _ = (0 : Int) := hr2.trans (by unfold feN; simp)
        have hRl : (feK false n 0).R.length = n := by rw [hk2]; unfold feN; simp
        have hfc := fetchCommitted_any wr p (feK false n 0) M7 V7 hP8 (by omega) (by omega) (fun r hr => by have := hk3 r hr; omega) 0 100 0 (by decide)
        have hab := fun W (hb : Below wr.heap.size wr W) => aborted_any W p (feK false n 0) M7 V7 (hP8.below hb) (by omega) 0 100
        have hle := fun W (hb : Below wr.heap.size wr W) => len_any W p (feK false n 0) M7 V7 (hP8.below hb)
        rw [hRl] at hle
        generalize readOut (isComm (feK false n 0).S) 100 (feK false n 0).stable ((feK false n 0).R.drop 0) (0 : Nat) [] = rr at *
        obtain ⟨rr1, rr2⟩ := rr
        dsimp only at hr1 hr2 hfc
        subst hr2
        generalize abS 0 100 (feK false n 0).S = sa at *
        have HB := Lib.hid hB7
        have hAs := Lib.hid hr3
        have hn30 : n ≤ 30 := h2
        clear hk1 hk2 hk3 hRl hr3 hP8 hB7 hM7 hst
        go_wp2_with fail
        refine hfc.mono ?_
        rintro x w20 ⟨v20, rfl, hR20, hb20⟩
        obtain ⟨a20, c20, rfl, -⟩ := hR20
        rw [hr1]
        clear hfc
        go_wp2_with fail
        refine (hab _ hb20).mono ?_
        rintro x w21 ⟨v21, rfl, ⟨hS21, -⟩, hb21⟩
        have hB21 := below_step hb20 hb21
        have hsa : sa = [] := by
          have h := hAs.out
          rw [if_neg (by decide)] at h
          simpa using h
        subst hsa
        obtain ⟨a21, c21, rfl, -⟩ := hS21
        clear hAs
        clear hab hb20 hb21
        go_wp2_with fail
        refine (hle _ hB21).mono ?_
        rintro x w22 ⟨rfl, hb22⟩
        have hB22 := below_step hB21 hb22

        clear hle hb22 hB21
        go_wp2_with fail
        refine (known12_any _).mono ?_
        rintro x w23 ⟨rfl, hb23⟩
        go_wp2_with fail
        go_ret
        exact Ret.bool rfl (below_step HB.out (below_step hB22 hb23))
      · have hen : Calls Try.prog 27 #[.pointer (some ⟨p, 0, none⟩), .int .i64 0, .int .i64 0, .int .i64 1, .bool true] wr (Turned p M7 V7 (.int .i64 ((feS false n).ends 0 0 1 true).1) (feK false n 1) wr) := ends_any wr p (feS false n) M7 V7 hP7 (by have := (hst ⟨n, by omega⟩).1; dsimp only at this; omega) 0 0 1 true
        generalize ((feS false n).ends 0 0 1 true).1 = z3 at hen
        go_wp2_with fail
        refine hen.mono ?_
        intro x w8 hT
        obtain ⟨rfl, M8, V8, hP8, hB8, hM8⟩ := hT.out hB7 hM7
        clear hT hen hP7 hB7 hM7
        obtain ⟨hk1, hk2, hk3⟩ := feK_small false ⟨n, by omega⟩ ⟨1, by omega⟩
        obtain ⟨hr1, hr2, hr3⟩ := feK_reads false ⟨n, by omega⟩ ⟨1, by omega⟩ h1
        dsimp only at hk1 hk2 hk3 hr1 hr2 hr3
        replace hr1 : _ = n := hr1.trans (by unfold feN; simp)
        replace hr2 : _ = ((n : Nat) : Int) := hr2.trans (by unfold feN; simp)
        have hRl : (feK false n 1).R.length = n := by rw [hk2]; unfold feN; simp
        have hfc := fetchCommitted_any w8 p (feK false n 1) M8 V8 hP8 (by omega) (by omega) (fun r hr => by have := hk3 r hr; omega) 0 100 0 (by decide)
        have hab := fun W (hb : Below w8.heap.size w8 W) => aborted_any W p (feK false n 1) M8 V8 (hP8.below hb) (by omega) 0 100
        have hle := fun W (hb : Below w8.heap.size w8 W) => len_any W p (feK false n 1) M8 V8 (hP8.below hb)
        rw [hRl] at hle
        generalize readOut (isComm (feK false n 1).S) 100 (feK false n 1).stable ((feK false n 1).R.drop 0) (0 : Nat) [] = rr at *
        obtain ⟨rr1, rr2⟩ := rr
        dsimp only at hr1 hr2 hfc
        subst hr2
        generalize abS 0 100 (feK false n 1).S = sa at *
        have HB := Lib.hid hB8
        have hAs := Lib.hid hr3
        have hn30 : n ≤ 30 := h2
        clear hk1 hk2 hk3 hRl hr3 hP8 hB8 hM8 hst
        go_wp2_with fail
        refine hfc.mono ?_
        rintro x w20 ⟨v20, rfl, hR20, hb20⟩
        obtain ⟨a20, c20, rfl, -⟩ := hR20
        rw [hr1]
        clear hfc
        go_wp2_with fail
        refine (hab _ hb20).mono ?_
        rintro x w21 ⟨v21, rfl, ⟨hS21, -⟩, hb21⟩
        have hB21 := below_step hb20 hb21
        have hsa : sa = [] := by
          have h := hAs.out
          rw [if_neg (by decide)] at h
          simpa using h
        subst hsa
        obtain ⟨a21, c21, rfl, -⟩ := hS21
        clear hAs
        clear hab hb20 hb21
        go_wp2_with fail
        refine (hle _ hB21).mono ?_
        rintro x w22 ⟨rfl, hb22⟩
        have hB22 := below_step hB21 hb22

        clear hle hb22 hB21
        go_wp2_with fail
        refine (known12_any _).mono ?_
        rintro x w23 ⟨rfl, hb23⟩
        go_wp2_with fail
        go_ret
        exact Ret.bool rfl (below_step HB.out (below_step hB22 hb23))
      · have hen : Calls Try.prog 27 #[.pointer (some ⟨p, 0, none⟩), .int .i64 0, .int .i64 0, .int .i64 1, .bool false] wr (Turned p M7 V7 (.int .i64 ((feS false n).ends 0 0 1 false).1) (feK false n 2) wr) := ends_any wr p (feS false n) M7 V7 hP7 (by have := (hst ⟨n, by omega⟩).1; dsimp only at this; omega) 0 0 1 false
        generalize ((feS false n).ends 0 0 1 false).1 = z3 at hen
        go_wp2_with fail
        refine hen.mono ?_
        intro x w8 hT
        obtain ⟨rfl, M8, V8, hP8, hB8, hM8⟩ := hT.out hB7 hM7
        clear hT hen hP7 hB7 hM7
        obtain ⟨hk1, hk2, hk3⟩ := feK_small false ⟨n, by omega⟩ ⟨2, by omega⟩
        obtain ⟨hr1, hr2, hr3⟩ := feK_reads false ⟨n, by omega⟩ ⟨2, by omega⟩ h1
        dsimp only at hk1 hk2 hk3 hr1 hr2 hr3
        replace hr1 : _ = 0 := hr1
        replace hr2 : _ = ((n : Nat) : Int) := hr2.trans (by unfold feN; simp)
        have hRl : (feK false n 2).R.length = n := by rw [hk2]; unfold feN; simp
        have hfc := fetchCommitted_any w8 p (feK false n 2) M8 V8 hP8 (by omega) (by omega) (fun r hr => by have := hk3 r hr; omega) 0 100 0 (by decide)
        have hab := fun W (hb : Below w8.heap.size w8 W) => aborted_any W p (feK false n 2) M8 V8 (hP8.below hb) (by omega) 0 100
        have hle := fun W (hb : Below w8.heap.size w8 W) => len_any W p (feK false n 2) M8 V8 (hP8.below hb)
        rw [hRl] at hle
        generalize readOut (isComm (feK false n 2).S) 100 (feK false n 2).stable ((feK false n 2).R.drop 0) (0 : Nat) [] = rr at *
        obtain ⟨rr1, rr2⟩ := rr
        dsimp only at hr1 hr2 hfc
        subst hr2
        generalize abS 0 100 (feK false n 2).S = sa at *
        have HB := Lib.hid hB8
        have hAs := Lib.hid hr3
        have hn30 : n ≤ 30 := h2
        clear hk1 hk2 hk3 hRl hr3 hP8 hB8 hM8 hst
        go_wp2_with fail
        refine hfc.mono ?_
        rintro x w20 ⟨v20, rfl, hR20, hb20⟩
        obtain ⟨a20, c20, rfl, -⟩ := hR20
        rw [hr1]
        clear hfc
        go_wp2_with fail
        refine (hab _ hb20).mono ?_
        rintro x w21 ⟨v21, rfl, ⟨hS21, -⟩, hb21⟩
        have hB21 := below_step hb20 hb21
        have hsa : ∃ y, sa = [y] ∧ y.f = 0 := by
          have h := hAs.out
          simp only [if_true] at h
          exact map_one (by simpa [feN] using h)
        obtain ⟨y, rfl, hyf⟩ := hsa
        obtain ⟨a21, c21, rfl, -, -, hS21c⟩ := hS21
        obtain ⟨b21, o21, rfl, hat21⟩ := hS21c 0 y rfl
        obtain ⟨e0, e1, e2, e3, e4⟩ := hat21
        rw [hyf] at e3
        simp only [List.length_singleton, Nat.zero_mul, Nat.add_zero] at *
        clear e0 e1 e2 e4 hS21c hyf hAs
        clear hab hb20 hb21
        go_wp2_with fail
        refine (hle _ hB21).mono ?_
        rintro x w22 ⟨rfl, hb22⟩
        have hB22 := below_step hB21 hb22
        replace e3 := cell_below e3 hb22
        clear hle hb22 hB21
        go_wp2_with fail
        refine (known12_any _).mono ?_
        rintro x w23 ⟨rfl, hb23⟩
        go_wp2_with fail
        go_ret
        exact Ret.bool rfl (below_step HB.out (below_step hB22 hb23))

set_option maxRecDepth 100000 in
set_option maxHeartbeats 6400000 in
theorem fetchEnds_in_true (w : World) (n : Nat) (k : Nat) (h1 : 1 ≤ n) (h2 : n ≤ 30) (h3 : k ≤ 2) :
    Calls Try.prog 11 #[.int .i64 n, .int .i64 k, .bool true] w (Ret (.bool true) w) := by
  have g1 : (1 : Int) ≤ n := by omega
  have g2 : (n : Int) ≤ 30 := by omega
  have g3 : (k : Int) ≤ 2 := by omega
  go_enter Try.func11, Try.ntmps11
  go_wp2_with fail
  refine (new_any _).mono ?_
  rintro x w1 ⟨p, rfl, hP1, hp, hB1⟩
  obtain ⟨M1, V1, hP1, hM1⟩ : ∃ M V, PRep w1 p PL.St.new M V ∧ ∀ b, M b → w.heap.size ≤ b := ⟨_, _, hP1, fun b h => h.1⟩
  go_wp2_with fail
  refine (show Calls _ _ _ _ (RetM M1 (.int .i64 0) (fun w' => PRep w' p (PL.St.new.learn 0 0).2 M1 V1) w1) from learn_any w1 p _ M1 V1 hP1 0 0).mono ?_
  rintro x w2 ⟨rfl, hP2, hF2⟩
  have hB2 := hF2.to_below hB1 hM1
  clear hF2 hB1 hP1 hp
  go_wp2_with fail
  refine (show Calls _ _ _ _ (RetM M1 (.int .i64 0) (fun w' => PRep w' p feB M1 V1) w2) from learn_any w2 p _ M1 V1 hP2 1 0).mono ?_
  rintro x w3 ⟨rfl, hP3, hF3⟩
  have hB3 := hF3.to_below hB2 hM1
  clear hF3 hB2 hP2
  go_wp2_with fail
  refine (show Calls _ _ _ _ (Turned p M1 V1 (.tuple #[.int .i64 0, .int .i64 0]) feA w3) from append_any w3 p feB M1 V1 hP3 (by decide) (by decide) (by decide) feO (.slice none 0 0) (nilBytes _) (fun b e => by cases e)).mono ?_
  intro x w4 hT
  obtain ⟨rfl, M2, V2, hP4, hB4, hM2⟩ := hT.out hB3 hM1
  clear hT hB3 hP3 hM1
  go_wp2_with fail
  refine (show Calls _ _ _ _ (Turned p M2 V2 (.int .i64 0) feE w4) from ends_any w4 p feA M2 V2 hP4 (by decide) 1 0 1 true).mono ?_
  intro x w5 hT
  obtain ⟨rfl, M3, V3, hP5, hB5, hM3⟩ := hT.out hB4 hM2
  clear hT hB4 hP4 hM2
  replace hP5 : PRep w5 p (feS true 0) M3 V3 := hP5
  have hst := feS_small true
  go_wp2_with fail
  refine (show Calls _ _ _ _ (Ret (.int .i64 1) w5) from len_any w5 p (feS true 0) M3 V3 hP5).mono ?_
  rintro x w6 ⟨rfl, hb6⟩
  have hP6 := hP5.below hb6
  have hB6 := below_step hB5 hb6
  clear hP5 hB5 hb6
  go_wp2_with fail
  go_loopw [9] (fun iv wr => ∃ (j : Nat) (M V : Nat → Prop), j ≤ n ∧ iv = .int .i64 j ∧ PRep wr p (feS true j) M V ∧ Below w.heap.size w wr ∧ ∀ b, M b → w.heap.size ≤ b) (fun iv _ => n - (intOf iv).toNat)
  case atStart => exact ⟨0, M3, V3, Nat.zero_le _, rfl, hP6, hB6, hM3⟩
  case round =>
    obtain ⟨j, M7, V7, hj, rfl, hP7, hB7, hM7⟩ := hrel
    by_cases hlt : j < n
    · have hs7 := hst ⟨j, by omega⟩
      have hs7a : (feS true j).S.length ≤ 2 := hs7.1
      have hs7b : (feS true j).R.length = 1 + j := hs7.2.1
      have hal := below_alloc (below_refl wr) (.cells #[.int .u8 j] 5)
      have hap := append_any _ p (feS true j) M7 V7 (hP7.below hal) (by omega) (by omega) (fun r hr => ⟨(hs7.2.2 r hr).1, (hs7.2.2 r hr).2.1⟩) (feR j) (.slice (some ⟨wr.heap.size, 0, none⟩) 1 1) (byteAt_new wr j (by omega)) (fun b e hm => by cases e; exact Nat.lt_irrefl _ (hP7.bound _ (.inl hm)))
      have hBa := below_step hB7 hal
      clear hP7 hB7 hal hs7 hs7a hs7b
      generalize ((feS true j).append (feR j)).1 = z1 at hap
      generalize ((feS true j).append (feR j)).2.1 = z2 at hap
      have hu8 : IntKind.u8.wrap (j : Int) = j := by rw [IntKind.wrap_u8]; omega
      unfold recV feR at hap
      dsimp only at hap
      go_wp2_with fail
      refine hap.mono ?_
      intro x w7 hT
      obtain ⟨rfl, M8, V8, hP8, hB8, hM8⟩ := hT.out hBa hM7
      clear hT hBa hap hM7
      go_wp2_with fail
      go_roundw
      case rel => exact ⟨j + 1, M8, V8, by omega, by go_num, hP8, hB8, hM8⟩
      case measure => first | (simp [intOf]; done) | (simp [intOf]; omega)
    · obtain rfl : n = j := by omega
      clear hP6 hB6
      have hkk : k = 0 ∨ k = 1 ∨ k = 2 := by omega
      rcases hkk with rfl | rfl | rfl
      · have hP8 : PRep wr p (feK true n 0) M7 V7 := hP7
        clear hP7
        obtain ⟨hk1, hk2, hk3⟩ := feK_small true ⟨n, by omega⟩ ⟨0, by omega⟩
        obtain ⟨hr1, hr2, hr3⟩ := feK_reads true ⟨n, by omega⟩ ⟨0, by omega⟩ h1
        dsimp only at hk1 hk2 hk3 hr1 hr2 hr3
        replace hr1 : _ = 1 := hr1
        replace hr2 : _ = (1 : Int) := hr2.trans (by unfold feN; simp)
        have hRl : (feK true n 0).R.length = (n + 1) := by rw [hk2]; unfold feN; simp; omega
        have hfc := fetchCommitted_any wr p (feK true n 0) M7 V7 hP8 (by omega) (by omega) (fun r hr => by have := hk3 r hr; omega) 0 100 0 (by decide)
        have hab := fun W (hb : Below wr.heap.size wr W) => aborted_any W p (feK true n 0) M7 V7 (hP8.below hb) (by omega) 0 100
        have hle := fun W (hb : Below wr.heap.size wr W) => len_any W p (feK true n 0) M7 V7 (hP8.below hb)
        rw [hRl] at hle
        generalize readOut (isComm (feK true n 0).S) 100 (feK true n 0).stable ((feK true n 0).R.drop 0) (0 : Nat) [] = rr at *
        obtain ⟨rr1, rr2⟩ := rr
        dsimp only at hr1 hr2 hfc
        subst hr2
        generalize abS 0 100 (feK true n 0).S = sa at *
        have HB := Lib.hid hB7
        have hAs := Lib.hid hr3
        have hn30 : n ≤ 30 := h2
        clear hk1 hk2 hk3 hRl hr3 hP8 hB7 hM7 hst
        go_wp2_with fail
        refine hfc.mono ?_
        rintro x w20 ⟨v20, rfl, hR20, hb20⟩
        obtain ⟨a20, c20, rfl, -⟩ := hR20
        rw [hr1]
        clear hfc
        go_wp2_with fail
        refine (hab _ hb20).mono ?_
        rintro x w21 ⟨v21, rfl, ⟨hS21, -⟩, hb21⟩
        have hB21 := below_step hb20 hb21
        have hsa : sa = [] := by
          have h := hAs.out
          rw [if_neg (by decide)] at h
          simpa using h
        subst hsa
        obtain ⟨a21, c21, rfl, -⟩ := hS21
        clear hAs
        clear hab hb20 hb21
        go_wp2_with fail
        refine (hle _ hB21).mono ?_
        rintro x w22 ⟨rfl, hb22⟩
        have hB22 := below_step hB21 hb22

        clear hle hb22 hB21
        go_wp2_with fail
        refine (known12_any _).mono ?_
        rintro x w23 ⟨rfl, hb23⟩
        go_wp2_with fail
        go_ret
        exact Ret.bool rfl (below_step HB.out (below_step hB22 hb23))
      · have hen : Calls Try.prog 27 #[.pointer (some ⟨p, 0, none⟩), .int .i64 0, .int .i64 0, .int .i64 1, .bool true] wr (Turned p M7 V7 (.int .i64 ((feS true n).ends 0 0 1 true).1) (feK true n 1) wr) := ends_any wr p (feS true n) M7 V7 hP7 (by have := (hst ⟨n, by omega⟩).1; dsimp only at this; omega) 0 0 1 true
        generalize ((feS true n).ends 0 0 1 true).1 = z3 at hen
        go_wp2_with fail
        refine hen.mono ?_
        intro x w8 hT
        obtain ⟨rfl, M8, V8, hP8, hB8, hM8⟩ := hT.out hB7 hM7
        clear hT hen hP7 hB7 hM7
        obtain ⟨hk1, hk2, hk3⟩ := feK_small true ⟨n, by omega⟩ ⟨1, by omega⟩
        obtain ⟨hr1, hr2, hr3⟩ := feK_reads true ⟨n, by omega⟩ ⟨1, by omega⟩ h1
        dsimp only at hk1 hk2 hk3 hr1 hr2 hr3
        replace hr1 : _ = (n + 1) := hr1.trans (by unfold feN; simp; omega)
        replace hr2 : _ = (((n + 1) : Nat) : Int) := hr2.trans (by unfold feN; simp; omega)
        have hRl : (feK true n 1).R.length = (n + 1) := by rw [hk2]; unfold feN; simp; omega
        have hfc := fetchCommitted_any w8 p (feK true n 1) M8 V8 hP8 (by omega) (by omega) (fun r hr => by have := hk3 r hr; omega) 0 100 0 (by decide)
        have hab := fun W (hb : Below w8.heap.size w8 W) => aborted_any W p (feK true n 1) M8 V8 (hP8.below hb) (by omega) 0 100
        have hle := fun W (hb : Below w8.heap.size w8 W) => len_any W p (feK true n 1) M8 V8 (hP8.below hb)
        rw [hRl] at hle
        generalize readOut (isComm (feK true n 1).S) 100 (feK true n 1).stable ((feK true n 1).R.drop 0) (0 : Nat) [] = rr at *
        obtain ⟨rr1, rr2⟩ := rr
        dsimp only at hr1 hr2 hfc
        subst hr2
        generalize abS 0 100 (feK true n 1).S = sa at *
        have HB := Lib.hid hB8
        have hAs := Lib.hid hr3
        have hn30 : n ≤ 30 := h2
        clear hk1 hk2 hk3 hRl hr3 hP8 hB8 hM8 hst
        go_wp2_with fail
        refine hfc.mono ?_
        rintro x w20 ⟨v20, rfl, hR20, hb20⟩
        obtain ⟨a20, c20, rfl, -⟩ := hR20
        rw [hr1]
        clear hfc
        go_wp2_with fail
        refine (hab _ hb20).mono ?_
        rintro x w21 ⟨v21, rfl, ⟨hS21, -⟩, hb21⟩
        have hB21 := below_step hb20 hb21
        have hsa : sa = [] := by
          have h := hAs.out
          rw [if_neg (by decide)] at h
          simpa using h
        subst hsa
        obtain ⟨a21, c21, rfl, -⟩ := hS21
        clear hAs
        clear hab hb20 hb21
        go_wp2_with fail
        refine (hle _ hB21).mono ?_
        rintro x w22 ⟨rfl, hb22⟩
        have hB22 := below_step hB21 hb22

        clear hle hb22 hB21
        go_wp2_with fail
        refine (known12_any _).mono ?_
        rintro x w23 ⟨rfl, hb23⟩
        go_wp2_with fail
        go_ret
        exact Ret.bool rfl (below_step HB.out (below_step hB22 hb23))
      · have hen : Calls Try.prog 27 #[.pointer (some ⟨p, 0, none⟩), .int .i64 0, .int .i64 0, .int .i64 1, .bool false] wr (Turned p M7 V7 (.int .i64 ((feS true n).ends 0 0 1 false).1) (feK true n 2) wr) := ends_any wr p (feS true n) M7 V7 hP7 (by have := (hst ⟨n, by omega⟩).1; dsimp only at this; omega) 0 0 1 false
        generalize ((feS true n).ends 0 0 1 false).1 = z3 at hen
        go_wp2_with fail
        refine hen.mono ?_
        intro x w8 hT
        obtain ⟨rfl, M8, V8, hP8, hB8, hM8⟩ := hT.out hB7 hM7
        clear hT hen hP7 hB7 hM7
        obtain ⟨hk1, hk2, hk3⟩ := feK_small true ⟨n, by omega⟩ ⟨2, by omega⟩
        obtain ⟨hr1, hr2, hr3⟩ := feK_reads true ⟨n, by omega⟩ ⟨2, by omega⟩ h1
        dsimp only at hk1 hk2 hk3 hr1 hr2 hr3
        replace hr1 : _ = 1 := hr1
        replace hr2 : _ = (((n + 1) : Nat) : Int) := hr2.trans (by unfold feN; simp; omega)
        have hRl : (feK true n 2).R.length = (n + 1) := by rw [hk2]; unfold feN; simp; omega
        have hfc := fetchCommitted_any w8 p (feK true n 2) M8 V8 hP8 (by omega) (by omega) (fun r hr => by have := hk3 r hr; omega) 0 100 0 (by decide)
        have hab := fun W (hb : Below w8.heap.size w8 W) => aborted_any W p (feK true n 2) M8 V8 (hP8.below hb) (by omega) 0 100
        have hle := fun W (hb : Below w8.heap.size w8 W) => len_any W p (feK true n 2) M8 V8 (hP8.below hb)
        rw [hRl] at hle
        generalize readOut (isComm (feK true n 2).S) 100 (feK true n 2).stable ((feK true n 2).R.drop 0) (0 : Nat) [] = rr at *
        obtain ⟨rr1, rr2⟩ := rr
        dsimp only at hr1 hr2 hfc
        subst hr2
        generalize abS 0 100 (feK true n 2).S = sa at *
        have HB := Lib.hid hB8
        have hAs := Lib.hid hr3
        have hn30 : n ≤ 30 := h2
        clear hk1 hk2 hk3 hRl hr3 hP8 hB8 hM8 hst
        go_wp2_with fail
        refine hfc.mono ?_
        rintro x w20 ⟨v20, rfl, hR20, hb20⟩
        obtain ⟨a20, c20, rfl, -⟩ := hR20
        rw [hr1]
        clear hfc
        go_wp2_with fail
        refine (hab _ hb20).mono ?_
        rintro x w21 ⟨v21, rfl, ⟨hS21, -⟩, hb21⟩
        have hB21 := below_step hb20 hb21
        have hsa : ∃ y, sa = [y] ∧ y.f = 1 := by
          have h := hAs.out
          simp only [if_true] at h
          exact map_one (by simpa [feN] using h)
        obtain ⟨y, rfl, hyf⟩ := hsa
        obtain ⟨a21, c21, rfl, -, -, hS21c⟩ := hS21
        obtain ⟨b21, o21, rfl, hat21⟩ := hS21c 0 y rfl
        obtain ⟨e0, e1, e2, e3, e4⟩ := hat21
        rw [hyf] at e3
        simp only [List.length_singleton, Nat.zero_mul, Nat.add_zero] at *
        clear e0 e1 e2 e4 hS21c hyf hAs
        clear hab hb20 hb21
        go_wp2_with fail
        refine (hle _ hB21).mono ?_
        rintro x w22 ⟨rfl, hb22⟩
        have hB22 := below_step hB21 hb22
        replace e3 := cell_below e3 hb22
        clear hle hb22 hB21
        go_wp2_with fail
        refine (known12_any _).mono ?_
        rintro x w23 ⟨rfl, hb23⟩
        go_wp2_with fail
        go_ret
        exact Ret.bool rfl (below_step HB.out (below_step hB22 hb23))

theorem fetchEnds_walk (w : World) (n : Int) (_ : (Lit.int .i64 n).wf = true) (kind : Int) (_ : (Lit.int .i64 kind).wf = true) (o : Bool) : Calls Try.prog 11 #[.int .i64 n, .int .i64 kind, .bool o] w (Ret (.bool true) w) := by
  by_cases h : n < 1 ∨ ¬ n < 1 ∧ 30 < n ∨ ¬ n < 1 ∧ ¬ 30 < n ∧ kind < 0 ∨ ¬ n < 1 ∧ ¬ 30 < n ∧ ¬ kind < 0 ∧ 2 < kind
  · exact fetchEnds_out w n kind o h
  · obtain ⟨m, rfl⟩ : ∃ m : Nat, n = m := ⟨n.toNat, by omega⟩
    obtain ⟨k, rfl⟩ : ∃ k : Nat, kind = k := ⟨kind.toNat, by omega⟩
    cases o
    · exact fetchEnds_in_false w m k (by omega) (by omega) (by omega)
    · exact fetchEnds_in_true w m k (by omega) (by omega) (by omega)

end Go.Proofs.Ytjjlbancofkinaa
