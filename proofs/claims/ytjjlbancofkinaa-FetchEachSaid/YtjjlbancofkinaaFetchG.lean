/-
  fetch.Aborted.
-/
import Derived.Test.YtjjlbancofkinaaTold12
namespace Go.Proofs.Ytjjlbancofkinaa
open Go.RowKit

/-- The transactions that were aborted and began from a on, before b. -/
def abTest (a b : Int) (s : PL.Spn) : Bool := s.k == 3 && decide (max a 0 ≤ s.f) && decide (s.f < b)
def abS (a b : Int) (S : List PL.Spn) : List PL.Spn := S.filter (abTest a b)
theorem abS_snoc (a b : Int) (S : List PL.Spn) (s : PL.Spn) : abS a b (S ++ [s]) = if abTest a b s then abS a b S ++ [s] else abS a b S := by
  unfold abS
  rw [List.filter_append]
  by_cases h : abTest a b s = true <;> simp [h]
theorem abS_le (a b : Int) (S : List PL.Spn) : (abS a b S).length ≤ S.length := List.length_filter_le _ _

/-- A row of transactions, all of it beyond B. -/
def SpnsFrom (B : Nat) (w : World) (v : Value) (S : List PL.Spn) : Prop := SpnsAt w v S ∧ ∃ base, B ≤ base ∧ w.ownsRow base 68 5 v S.length (spnCells S)

set_option maxRecDepth 100000 in
set_option maxHeartbeats 1600000 in
theorem aborted_core (S : List PL.Spn) (hn : S.length ≤ 1099511627776) (pt : Value) (w0 : World) (a b : Int) (hsp : Calls Try.prog 29 #[pt] w0 (RetP (fun v w' => SpnsAt w' v S) w0)) (hp : ∃ x, pt = .pointer x) :
    Calls Try.prog 39 #[pt, .int .i64 a, .int .i64 b] w0 (RetP (fun v w' => SpnsFrom w0.heap.size w' v (abS a b S)) w0) := by
  obtain ⟨ap, rfl⟩ := hp
  obtain ⟨i0, hi0, hz0, hz1, hz2⟩ := info_parts Try.infoSpan
  go_enter Try.func39, Try.ntmps39
  go_wp2_with fail
  refine hsp.mono ?_
  rintro e w2 ⟨u, rfl, ⟨pu, cu, rfl, hu1, hu2, hu3⟩, hb2⟩
  clear hsp
  go_wp2_with fail
  go_loopw [7, 9, 13] (fun o _ i wr => ∃ (k : Nat), k ≤ S.length ∧ i = .int .i64 k ∧ wr.ownsRow w2.heap.size 68 5 o (abS a b (S.take k)).length (spnCells (abS a b (S.take k))) ∧ Below w2.heap.size w2 wr) (fun _ _ i _ => S.length - (intOf i).toNat)
  case atStart => exact ⟨0, Nat.zero_le _, rfl, World.ownsRow_nil _ _ _ _, below_refl _⟩
  case round =>
    obtain ⟨k, hk, rfl, ho, hF⟩ := hrel
    obtain ⟨ao, co, rfl, ho1, ho2, -, -⟩ := owns_form ho
    by_cases hlt : k < S.length
    · obtain ⟨b0, o, rfl, hat⟩ := hu3 k _ (List.getElem?_eq_getElem hlt)
      obtain ⟨c0, c1, c2, c3, c4⟩ := hat.below hF
      have htk : RowKit.Hid (S.take (k + 1) = S.take k ++ [S[k]]) := Lib.hid (by simp)
      have hle := abS_le a b (S.take k)
      have hlk : (S.take k).length ≤ S.length := by simp; omega
      clear hu3 hat
      generalize S[k] = x at *
      generalize S.take k = Sk at *
      have hsz := hF.size
      by_cases h1 : ¬ x.k = 3
      · have h1'' : (x.k == 3) = false := by simpa using h1
        have hab : RowKit.Hid (abS a b (Sk ++ [x]) = abS a b Sk) := Lib.hid (by rw [abS_snoc, if_neg (by simp [abTest, h1''])])
        clear h1
        go_wp2_with fail
        go_roundw
        case rel => exact ⟨k + 1, by omega, by go_num, by rw [htk.out, hab.out]; exact ho.alloc _, below_alloc hF _⟩
        case measure => first | (simp [intOf]; done) | (simp [intOf]; omega)
      replace h1 : x.k = 3 := Decidable.of_not_not h1
      have h1'' : (x.k == 3) = true := by simpa using h1
      by_cases h2 : ¬ max a 0 ≤ x.f
      · have hab : RowKit.Hid (abS a b (Sk ++ [x]) = abS a b Sk) := Lib.hid (by rw [abS_snoc, if_neg (by simp [abTest, h2])])
        clear h1
        go_wp2_with fail
        go_roundw
        case rel => exact ⟨k + 1, by omega, by go_num, by rw [htk.out, hab.out]; exact ho.alloc _, below_alloc hF _⟩
        case measure => first | (simp [intOf]; done) | (simp [intOf]; omega)
      replace h2 : max a 0 ≤ x.f := Decidable.of_not_not h2
      by_cases h3 : ¬ x.f < b
      · have hab : RowKit.Hid (abS a b (Sk ++ [x]) = abS a b Sk) := Lib.hid (by rw [abS_snoc, if_neg (by simp [abTest, h3])])
        clear h1
        go_wp2_with fail
        go_roundw
        case rel => exact ⟨k + 1, by omega, by go_num, by rw [htk.out, hab.out]; exact ho.alloc _, below_alloc hF _⟩
        case measure => first | (simp [intOf]; done) | (simp [intOf]; omega)
      replace h3 : x.f < b := Decidable.of_not_not h3
      have hab : RowKit.Hid (abS a b (Sk ++ [x]) = abS a b Sk ++ [x]) := Lib.hid (by rw [abS_snoc, if_pos (by simp [abTest, h1, h2, h3])])
      clear h1
      have hnw := spn_new (wr.alloc (.cells #[.int .i64 x.p, .int .i64 x.e, .int .i64 x.t, .int .i64 x.f, .int .i64 x.k] 68)) 68 x
      rw [World.size_alloc] at hnw
      go_wp2_with (at_builtin; refine wpList_append_own _ rfl _ _ _ rfl w2.heap.size 68 i0 (.agg #[.int .i64 0, .int .i64 0, .int .i64 0, .int .i64 0, .int .i64 0]) 5 40 Try.underlying42 hi0 hz0 hz1 hz2 rfl (by decide) _ _ _ (by rfl) ((ho.alloc _).alloc _) ⟨wr.heap.size + 1, 0, none⟩ 1 1 (spnCells [x]) (by rfl) rfl hnw (spn_oneCell _) (by unfold maxLen; omega) (by omega) (by simp; omega) ?_)
      intro v' w6 hown' hgrow _
      obtain ⟨g', cap', rfl⟩ := ownsRow_succ hown'
      rw [← spnCells_append] at hown'
      have hB6 : RowKit.Hid (Below w2.heap.size w2 w6) := Lib.hid ((below_alloc (below_alloc hF _) _).grown hgrow (by simp; omega) (fun j e => by
        have := (ho.lt j e).1
        exact this))
      have hO6 := Lib.hid hown'
      clear hnw hown' hgrow ho hF c0 c1 c2 c3 c4
      go_wp2_with fail
      go_roundw
      case rel => exact ⟨k + 1, by omega, by go_num, by rw [htk.out, hab.out, List.length_append]; exact hO6.out, hB6.out⟩
      case measure => first | (simp [intOf]; done) | (simp [intOf]; omega)
    · have hT : RowKit.Hid (abS a b (S.take k) = abS a b S) := Lib.hid (by rw [List.take_of_length_le (by omega)])
      clear hu3
      have hfin : SpnsFrom w0.heap.size wr (.slice ao (abS a b (S.take k)).length co) (abS a b S) := by
        rw [← hT.out]; exact ⟨spns_of_owns ho, _, hb2.size, ho⟩
      have hfin' := Lib.hid hfin
      clear hfin ho
      go_wp2_with fail
      go_ret
      exact RetP.mk hfin'.out (below_step hb2 hF)

theorem aborted_any (w : World) (p : Nat) (s : PL.St) (M V : Nat → Prop) (h : PRep w p s M V) (hn : s.S.length ≤ 1099511627776) (a b : Int) :
    Calls Try.prog 39 #[.pointer (some ⟨p, 0, none⟩), .int .i64 a, .int .i64 b] w (RetP (fun v w' => SpnsFrom w.heap.size w' v (abS a b s.S)) w) :=
  aborted_core s.S hn _ w a b (spans_any w p s M V h hn) ⟨_, rfl⟩

end Go.Proofs.Ytjjlbancofkinaa
