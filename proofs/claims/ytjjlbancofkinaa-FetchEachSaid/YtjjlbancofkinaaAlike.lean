/-
  alike: all that both logs tell is the same.
-/
import Derived.Test.YtjjlbancofkinaaTwin
import Derived.Deep.RegionHeld3
namespace Go.Proofs.Ytjjlbancofkinaa
open Go.RowKit

theorem handed_list {s : PL.St} {m : Nat} {L : List Handed} (hL : L.length = s.R.length - m) (h : ∀ (k : Nat) x, L[k]? = some x → s.R[m + k]? = some x.2.1) : L.map (·.2.1) = s.R.drop m := by
  apply List.ext_getElem?
  intro k
  rw [List.getElem?_map, List.getElem?_drop]
  cases hk : L[k]? with
  | none =>
    have := List.getElem?_eq_none_iff.1 hk
    simp
    omega
  | some x => simp [h k x hk]

theorem recsFrom_at {B : Nat} {w : World} {v : Value} {R : List PL.Rec} (h : RecsFrom B w v R) : RecsAt w v R := by
  obtain ⟨a, c, h1, h2, h3, h4, h5⟩ := h
  exact ⟨a, c, h1, h2, h3, fun i r hr => by
    obtain ⟨b, o, val, k1, k2, k3, k4, k5⟩ := h5 i r hr
    exact ⟨b, o, val, k1, k3, k4⟩⟩

/-- All that p tells from m on, in a row. -/
def Tolds (R : List PL.Rec) (w : World) (e : Ending) (w' : World) : Prop := ∃ v, e = .returned (.tuple #[v, .bool true]) ∧ RecsAt w' v R ∧ Below w.heap.size w w'
theorem told_log (w : World) (p : Nat) (s : PL.St) (M V : Nat → Prop) (h : PRep w p s M V) (hO : PL.Ok s) (m : Nat) (hm : m ≤ 1099511627776) (w2 : World) (hw2 : w2 = (w.alloc (.cells #[.pointer (some ⟨p, 0, none⟩)] 24)).alloc (.cells #[.int .i64 m] 3)) :
    Calls Try.prog 18 #[recordsV w.heap.size, .int .i64 m] w2 (Tolds (s.R.drop m) w2) := by
  have c2 : w2.cell? ⟨w.heap.size, 0, none⟩ = some (.pointer (some ⟨p, 0, none⟩)) := by subst hw2; exact (((Boxed.new w _ _).alloc _)).cell
  have c3 : w2.cell? ⟨w.heap.size + 1, 0, none⟩ = some (.int .i64 m) := by
    subst hw2
    have h := (Boxed.new (w.alloc (.cells #[.pointer (some ⟨p, 0, none⟩)] 24)) 3 (.int .i64 m)).cell
    rw [World.size_alloc] at h
    exact h
  have hB2 : Below w.heap.size w w2 := by subst hw2; exact below_alloc (below_alloc (below_refl w) _) _
  have hz2 : w2.heap.size = w.heap.size + 2 := by subst hw2; simp
  have hf := records1_any 5 (by decide) w2 p s M V (h.below hB2) w.heap.size h.bound (by have := hO.len; omega) hO.vals w.heap.size (w.heap.size + 1) m c2 c3 (by omega) m (by omega)
  refine (told11_any w2 _ s m w.heap.size w.heap.size (s.R.length - m) hf (by omega) (by omega) (by have := hO.len; omega) hm).mono ?_
  rintro e w3 ⟨v, rfl, ⟨L, h1, h2, h3⟩, hb⟩
  refine ⟨v, rfl, ?_, hb⟩
  rw [← handed_list h1 h3]
  exact recsFrom_at h2

set_option maxRecDepth 100000 in
set_option maxHeartbeats 3200000 in
theorem alike_any (w : World) (p q : Nat) (s : PL.St) (M V N U : Nat → Prop) (h : PRep w p s M V) (hX : XRep w q s N U) (hO : PL.Ok s) (hn : s.S.length ≤ 1099511627776) :
    Calls Try.prog 22 #[.pointer (some ⟨p, 0, none⟩), .pointer (some ⟨q, 0, none⟩)] w (Ret (.bool true) w) := by
  have hlen := fun W (hb : Below w.heap.size w W) => len_any W p s M V (h.below hb)
  have hst := fun W (hb : Below w.heap.size w W) => stable_any W p s M V (h.below hb) hn
  have hsx := fun W (hb : Below w.heap.size w W) => stable11_any W q s N U (hX.below hb)
  have hsp := fun W (hb : Below w.heap.size w W) => spans_any W p s M V (h.below hb) hn
  have hep := fun W (hb : Below w.heap.size w W) k => epoch_any W p s M V (h.below hb) k
  obtain ⟨vr, vs, x0, x1, xe, xz, hR, hS⟩ := hX.opened
  have hrec : ∀ W (_ : Below w.heap.size w W) v (_ : RecsAt W v s.R), Calls Try.prog 20 #[v, vr] W (Ret (.bool true) W) := fun W hb v hv => by have := records11_any W s.R s.R v vr hv (hR.below hb); rwa [show decide (s.R = s.R) = true from decide_eq_true rfl] at this
  have hspx : ∀ W (_ : Below w.heap.size w W) v (_ : SpnsAt W v s.S), Calls Try.prog 42 #[v, vs] W (Ret (.bool true) W) := fun W hb v hv => by have := spans11_any W s.S s.S v vs hv (hS.below hb); rwa [show decide (s.S = s.S) = true from decide_eq_true rfl] at this
  have hto := told_log w p s M V h hO 0 (by omega)
  obtain ⟨pr, cr, rfl, hr1, hr2, -⟩ := hR
  obtain ⟨ps, cs, rfl, hs1, hs2, -⟩ := hS
  rw [List.drop_zero] at hto
  go_enter Try.func22, Try.ntmps22
  go_wp2_with fail
  refine (records_any w (some ⟨p, 0, none⟩) 0).mono ?_
  rintro x w2 ⟨rfl, hw2⟩
  replace hto := hto w2 hw2
  have hB2 : Below w.heap.size w w2 := by subst hw2; exact below_alloc (below_alloc (below_refl w) _) _
  unfold recordsV at *
  have Hw2 := Lib.hid hw2
  clear hw2
  go_wp2_with fail
  refine hto.mono ?_
  rintro x w3 ⟨v3, rfl, hR3, hb3⟩
  have hB3 := below_step hB2 hb3
  have hrec3 := hrec w3.drew (below_drew hB3) v3 (hR3.below (below_drew (below_refl _)))
  obtain ⟨p3, c3, rfl, -⟩ := hR3
  clear hto hB2 hb3
  go_wp2_with fail
  have hBd := below_drew hB3
  have y0 := cell_below x0 hBd
  have y1 := cell_below x1 hBd
  have H := Lib.hid h
  have HX := Lib.hid hX
  have HE := Lib.hid xe
  have HP := Lib.hid hep
  clear hrec h hX xe xz hep hB3 hO
  go_region_held3 (fun w' => w'.cell? ⟨q, 0, none⟩ = some (.slice pr s.R.length cr) ∧ w'.cell? ⟨q, 1, none⟩ = some (.slice ps s.S.length cs)) (first | exact ⟨y0, y1⟩ | exact ⟨cell_below x0 (by assumption), cell_below x1 (by assumption)⟩)
    (first
      | (go_at_call 20; refine hrec3.mono ?_; rintro e w4 ⟨rfl, hb4⟩; have hB4 := below_step hBd hb4; clear hb4)
      | (go_at_call 25; refine (hlen _ (by assumption)).mono ?_; rintro e w5 ⟨rfl, hb5⟩; have hB5 := below_step (show Below w.heap.size w _ by assumption) hb5; clear hb5)
      | (go_at_call 28; refine (hst _ (by assumption)).mono ?_; rintro e w6 ⟨rfl, hb6⟩; have hB6 := below_step (show Below w.heap.size w _ by assumption) hb6; clear hb6)
      | (go_at_call 37; refine (hsx _ (by assumption)).mono ?_; rintro e w7 ⟨rfl, rfl⟩)
      | (go_at_call 29; refine (hsp _ (by assumption)).mono ?_; rintro e w8 ⟨v8, rfl, hS8, hb8⟩; have hB8 := below_step (show Below w.heap.size w _ by assumption) hb8; have hspx8 := hspx _ hB8 _ hS8; obtain ⟨p8, c8, rfl, -⟩ := hS8; clear hb8)
      | (go_at_call 42; refine hspx8.mono ?_; rintro e w9 ⟨rfl, hb9⟩; have hB9 := below_step (show Below w.heap.size w _ by assumption) hb9; clear hb9))
  go_wp2_with fail
  have hBw : Below w.heap.size w _ := hB9
  clear hlen hst hsx hsp hspx hrec3 hspx8 y0 y1 x0 x1 hBd hB4 hB5 hB6 hB8 hB9
  go_loopw [7] (fun i wr => ∃ k : Nat, k ≤ 8 ∧ i = .int .i64 k ∧ Below w.heap.size w wr) (fun i _ => 8 - (intOf i).toNat)
  case atStart => exact ⟨0, by omega, rfl, hBw⟩
  case round =>
    obtain ⟨k, hk, rfl, hB⟩ := hrel
    by_cases hlt : k < 8
    · have hck := cell_below (HE.out k hlt) hB
      have hepk := HP.out wr hB k
      have hE : RowKit.Hid (0 ≤ s.E k → epVal s.E k = s.E k) := Lib.hid (fun h => by unfold epVal; rw [if_pos h])
      have g0 : (0 : Int) ≤ k := by omega
      have g1 : (k : Int) < 8 := by omega
      generalize epVal s.E k = ev at *
      generalize s.E k = ek at *
      by_cases h0 : 0 ≤ ek
      · obtain rfl := hE.out h0
        rw [show decide (0 ≤ ev) = true by simpa using h0] at hepk
        go_wp2_with fail
        refine hepk.mono ?_
        rintro x w1 ⟨rfl, hb1⟩
        have hck1 := cell_below hck hb1
        have hB1 := below_step hB hb1
        clear hepk hb1 hck
        go_wp2_with fail
        go_roundw
        case rel => exact ⟨k + 1, by omega, by go_num, hB1⟩
        case measure => first | (simp [intOf]; done) | (simp [intOf]; omega)
      · rw [show decide (0 ≤ ek) = false by simpa using h0] at hepk
        have h0' : ek < 0 := by omega
        go_wp2_with fail
        refine hepk.mono ?_
        rintro x w1 ⟨rfl, hb1⟩
        have hck1 := cell_below hck hb1
        have hB1 := below_step hB hb1
        clear hepk hb1 hck
        go_wp2_with fail
        go_roundw
        case rel => exact ⟨k + 1, by omega, by go_num, hB1⟩
        case measure => first | (simp [intOf]; done) | (simp [intOf]; omega)
    · obtain rfl : k = 8 := by omega
      go_wp2_with fail
      go_ret
      exact Ret.bool rfl hB

end Go.Proofs.Ytjjlbancofkinaa
