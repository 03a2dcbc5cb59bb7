/-
  FetchAny: a read from below the beginning gives all that was laid, and so does Each.
-/
import Derived.Test.YtjjlbancofkinaaEachO
import Derived.Test.YtjjlbancofkinaaTellsW
import Derived.Deep.RegionHeld3
namespace Go.Proofs.Ytjjlbancofkinaa
open Go.RowKit
attribute [local go_sem] Oper.semAt_some

theorem readOut_all (most e : Int) : ∀ (l : List PL.Rec) (i : Int) (out : List PL.Rec), i + l.length ≤ e → (out.length : Int) + l.length ≤ most → readOut (fun _ => true) most e l i out = (out ++ l, i + l.length)
  | [], i, out, _, _ => by simp [readOut]
  | r :: l, i, out, h1, h2 => by
    simp only [List.length_cons] at h1 h2
    rw [readOut, if_neg (by omega), if_pos rfl, readOut_all most e l (i + 1) (out ++ [r]) (by omega) (by simp; omega)]
    simp; omega

theorem readOut_pre (f : PL.Rec → Bool) (most e : Int) : ∀ (l : List PL.Rec) (i : Int) (out : List PL.Rec), ∃ t, (readOut f most e l i out).1 = out ++ t
  | [], i, out => ⟨[], by simp [readOut]⟩
  | r :: l, i, out => by
    rw [readOut]
    split
    · exact ⟨[], by simp⟩
    · obtain ⟨t, ht⟩ := readOut_pre f most e l (i + 1) (if f r then out ++ [r] else out)
      rw [ht]
      split
      · exact ⟨r :: t, by simp⟩
      · exact ⟨t, rfl⟩

theorem readOut_len (f : PL.Rec → Bool) (most e : Int) : ∀ (l : List PL.Rec) (i : Int) (out : List PL.Rec), (readOut f most e l i out).1.length ≤ out.length + l.length
  | [], i, out => by simp [readOut]
  | r :: l, i, out => by
    rw [readOut]
    split
    · simp
    · refine Nat.le_trans (readOut_len f most e l (i + 1) _) ?_
      split <;> simp <;> omega

theorem readOut_take (f : PL.Rec → Bool) (m : Nat) (big e : Int) : ∀ (l : List PL.Rec) (i : Int) (out : List PL.Rec), out.length ≤ m → (out.length : Int) + l.length ≤ big → (readOut f m e l i out).1 = (readOut f big e l i out).1.take m
  | [], i, out, h1, _ => by simp only [readOut]; rw [List.take_of_length_le h1]
  | r :: l, i, out, h1, h2 => by
    simp only [List.length_cons] at h2
    by_cases he : e ≤ i
    · rw [readOut, if_pos (.inl he), readOut, if_pos (.inl he)]
      exact (List.take_of_length_le h1).symm
    · by_cases hm : (m : Int) ≤ out.length
      · obtain ⟨t, ht⟩ := readOut_pre f big e (r :: l) i out
        rw [ht, readOut, if_pos (.inr hm)]
        obtain rfl : m = out.length := by omega
        simp
      · rw [readOut, if_neg (show ¬ (e ≤ i ∨ (m : Int) ≤ out.length) by omega), readOut, if_neg (show ¬ (e ≤ i ∨ big ≤ out.length) by omega)]
        refine readOut_take f m big e l (i + 1) _ ?_ ?_
        · split <;> (try simp) <;> omega
        · split <;> (try simp) <;> omega

/-- What Each hands over, told. -/
theorem toldEach_any (w : World) (p : Nat) (s : PL.St) (M V : Nat → Prop) (h : PRep w p s M V) (hs : s.R.length ≤ 128) (hS : s.S.length ≤ 1099511627776) (hv : ∀ r ∈ s.R, r.v.length ≤ 140737488351232) (only : Bool) (m : Nat) (z : Int) (hz : z = m) (W : World)
    (hW : W = (w.alloc (.cells #[.pointer (some ⟨p, 0, none⟩)] 24)).alloc (.cells #[.bool only] 4)) :
    Calls Try.prog 40 #[.func (.func 63) #[] #[.pointer (some ⟨w.heap.size, 0, none⟩), .pointer (some ⟨w.heap.size + 1, 0, none⟩)], .int .i64 z] W
      (RetP (fun v w' => RecsAt w' v (if only then (readOut (isComm s.S) z s.stable (s.R.drop 0) (0 : Nat) []).1 else (readOut (fun _ => true) z s.R.length (s.R.drop 0) (0 : Nat) []).1)) W) := by
  subst hz
  have hP : PRep W p s M V := h.below (by subst hW; exact below_alloc (below_alloc (below_refl w) _) _)
  have c1 : W.cell? ⟨w.heap.size, 0, none⟩ = some (.pointer (some ⟨p, 0, none⟩)) := by
    subst hW; exact ((Boxed.new w _ _).alloc _).cell
  have c2 : W.cell? ⟨w.heap.size + 1, 0, none⟩ = some (.bool only) := by
    subst hW
    have := Boxed.new (w.alloc (.cells #[.pointer (some ⟨p, 0, none⟩)] 24)) 4 (.bool only)
    rw [World.size_alloc] at this
    exact this.cell
  clear hW
  cases only with
  | false =>
    have hl := readOut_len (fun _ => true) s.R.length s.R.length (s.R.drop 0) (0 : Nat) []
    rw [List.drop_zero, List.length_nil] at hl
    have ht := readOut_take (fun _ => true) m s.R.length s.R.length s.R (0 : Nat) [] (Nat.zero_le _) (by simp)
    have hf := each1_false 5 (by decide) W _ _ p s M V hP hs hS hv c1 c2 _ rfl (by rw [List.drop_zero]; omega)
    rw [List.drop_zero] at hf ⊢
    simp only [Bool.false_eq_true, if_false]
    rw [ht]
    by_cases hm : (m : Int) ≤ 0
    · rw [show m = 0 by omega, List.take_zero]
      exact told12_none W _ _ (by omega)
    · have := told12_any W _ _ m (by omega) hf (by omega)
      rwa [Int.toNat_natCast] at this
  | true =>
    have hl := readOut_len (isComm s.S) s.R.length s.stable (s.R.drop 0) (0 : Nat) []
    rw [List.drop_zero, List.length_nil] at hl
    have ht := readOut_take (isComm s.S) m s.R.length s.stable s.R (0 : Nat) [] (Nat.zero_le _) (by simp)
    have hf := each1_true 5 (by decide) W _ _ p s M V hP hs hS hv c1 c2 _ rfl (by rw [List.drop_zero]; omega)
    rw [List.drop_zero] at hf ⊢
    simp only [if_true]
    rw [ht]
    by_cases hm : (m : Int) ≤ 0
    · rw [show m = 0 by omega, List.take_zero]
      exact told12_none W _ _ (by omega)
    · have := told12_any W _ _ m (by omega) hf (by omega)
      rwa [Int.toNat_natCast] at this

set_option maxRecDepth 100000 in
set_option maxHeartbeats 3200000 in
theorem fetchAnyLaw_walk (w : World) (v : Value) (L : List PL.Act) (h : ActsAt w v L) : Calls Try.prog 13 #[v] w (Ret (.bool true) w) := by
  have hlong := long12_any w v L h
  have hlaid := laid_any w v L h
  obtain ⟨hO, hS, hR⟩ := laid_facts L
  generalize PL.St.new.plays (L.take 80) = s at *
  obtain ⟨a, c, rfl, -⟩ := h
  have HO := Lib.hid hO
  clear hO
  go_enter Try.func13, Try.ntmps13
  go_wp2_with fail
  refine hlong.mono ?_
  rintro x w1 ⟨b, rfl, rfl⟩
  clear hlong
  cases b
  case true =>
    go_wp2_with fail
    go_ret
    exact Ret.bool rfl (below_refl _)
  go_wp2_with fail
  refine hlaid.mono ?_
  rintro x w1 ⟨p, q, rfl, hT⟩
  clear hlaid
  have hB := hT.below
  obtain ⟨M, V, N, U, hBo, -⟩ := hT
  obtain ⟨hP, hX, -⟩ := hBo
  obtain ⟨vr, a1, a2, x0, hRx⟩ : ∃ vr a1 a2, w1.cell? ⟨q, 0, none⟩ = some vr ∧ RecsAt w1 vr s.R ∧ a1 = 0 ∧ a2 = 0 := by
    obtain ⟨a1, a2, b0, b1, b2, b3, b4, b5⟩ := hX.opened
    exact ⟨_, 0, 0, b0, b4, rfl, rfl⟩
  obtain ⟨hRx, -, -⟩ := hRx
  have hfa := fetchAny_any w1 p s M V hP (by omega) HO.out.vals (-5) 1000 0 (by decide)
  rw [List.drop_zero, readOut_all 1000 s.R.length s.R (0 : Nat) [] (by simp) (by simp; omega), List.nil_append] at hfa
  have htold := fun X (hb : Below w1.heap.size w1 X) => toldEach_any X p s M V (hP.below hb) (by omega) hS HO.out.vals false 1000 1000 rfl
  simp only [Bool.false_eq_true, if_false] at htold
  rw [List.drop_zero, readOut_all 1000 s.R.length s.R (0 : Nat) [] (by simp) (by simp; omega), List.nil_append] at htold
  have hlen : (((0 : Nat) : Int) + (s.R.length : Int)) = (s.R.length : Int) := by omega
  rw [hlen] at hfa
  clear hP hX
  go_wp2_with fail
  refine hfa.mono ?_
  rintro x w2 ⟨v2, rfl, hR2, hb2⟩
  replace hR2 := recsFrom_at hR2
  have hR2' := hR2
  obtain ⟨a2, c2, rfl, -⟩ := hR2'
  clear hfa
  go_wp2_with fail
  have hB2 := below_drew hb2
  have y0 := cell_below x0 hB2
  have hRx2 := hRx.below hB2
  have hr1 := records11_any w2.drew s.R s.R _ _ (hR2.below (below_drew (below_refl _))) hRx2
  rw [show decide (s.R = s.R) = true from decide_eq_true rfl] at hr1
  have hrw := fun X (hb : Below w2.drew.heap.size w2.drew X) v' hv' => records11_any X s.R s.R v' _ hv' (hRx2.below hb)
  rw [show decide (s.R = s.R) = true from decide_eq_true rfl] at hrw
  obtain ⟨ar, cr, rfl, -⟩ := hRx
  have hBf := below_step hB hB2
  clear hR2 x0 hlen hRx2
  have heach := fun X => each_any X (some ⟨p, 0, none⟩) false
  unfold eachV at heach
  go_region_held3 (fun w' => w'.cell? ⟨q, 0, none⟩ = some (.slice ar s.R.length cr)) (first | exact y0 | exact cell_below y0 (by assumption))
    (first
      | (go_at_call 20; refine (hrw _ hB5 _ hR5).mono ?_; rintro e w6 ⟨rfl, hb6⟩; have hB6 := below_step hB5 hb6)
      | (go_at_call 20; refine hr1.mono ?_; rintro e w3 ⟨rfl, hb3⟩)
      | (go_at_call 41; refine (heach _).mono ?_; rintro e w4 ⟨rfl, hw4⟩; have hB4 : Below w2.drew.heap.size w2.drew w4 := (by subst hw4; exact below_alloc (below_alloc hb3 _) _); have Hw4 := Lib.hid hw4; clear hw4)
      | (go_at_call 40; refine (htold _ (below_step hB2 hb3) _ Hw4.out).mono ?_; rintro e w5 ⟨v5, rfl, hR5, hb5⟩; have hR5' := hR5; obtain ⟨a5, c5, rfl, -⟩ := hR5'; have hB5 := below_step hB4 hb5)
      | (go_at_call 36; refine (known12_any _).mono ?_; rintro e w7 ⟨rfl, hb7⟩; have hB67 := below_step hB6 hb7; have hB7 := below_step hBf hB67))
  all_goals
    go_wp2_with fail
    go_ret
    exact Ret.bool rfl hB7

end Go.Proofs.Ytjjlbancofkinaa
