/-
  A record is laid.
-/
import Derived.Test.YtjjlbancofkinaaPlogD
namespace Go.Proofs.Ytjjlbancofkinaa
open Go.RowKit

set_option maxRecDepth 100000 in
theorem append_bad (w : World) (p : Nat) (s : PL.St) (M V : Nat → Prop) (h : PRep w p s M V) (r : PL.Rec) (v : Value) (hv : BytesAt w v r.v) (hok : ¬ PL.okRec r) :
    Calls Try.prog 23 #[.pointer (some ⟨p, 0, none⟩), recV r v] w (Turned p M V (.tuple #[.int .i64 0, .int .i64 1]) s w) := by
  have hrec := fun W hb => isRecord_any r v W (hv.below hb)
  rw [show decide (PL.okRec r) = false by simpa using hok] at hrec
  obtain ⟨pv, cv, rfl, hv1, hv2, hv3⟩ := hv
  clear hv3 hok
  unfold recV at *
  go_enter Try.func23, Try.ntmps23
  go_wp2_with fail
  refine (hrec _ (below_alloc (below_refl w) _)).mono ?_
  rintro x w1 ⟨rfl, hb1⟩
  have hb := below_step (below_alloc (below_refl w) _) hb1
  clear hb1 hrec
  go_wp2_with fail
  go_ret2
  exact ⟨M, V, rfl, h.below hb, Fr.of_below hb, fun b hb => .inl hb, fun b hb => .inl hb⟩

set_option maxRecDepth 100000 in
set_option maxHeartbeats 800000 in
theorem append_ep (w : World) (p : Nat) (s : PL.St) (M V : Nat → Prop) (h : PRep w p s M V) (r : PL.Rec) (v : Value) (hv : BytesAt w v r.v) (hok : PL.okRec r) (c : Int)
    (hc : s.E r.p < 0 ∧ c = 4 ∨ 0 ≤ s.E r.p ∧ r.e < s.E r.p ∧ c = 5 ∨ 0 ≤ s.E r.p ∧ s.E r.p < r.e ∧ c = 6) :
    Calls Try.prog 23 #[.pointer (some ⟨p, 0, none⟩), recV r v] w (Turned p M V (.tuple #[.int .i64 0, .int .i64 c]) s w) := by
  have hrec := fun W hb => isRecord_any r v W (hv.below hb)
  rw [show decide (PL.okRec r) = true by simpa using hok] at hrec
  obtain ⟨pv, cv, rfl, hv1, hv2, hv3⟩ := hv
  have hnew := recAt_new w 32 r (.slice pv r.v.length cv)
  clear hv3 hok
  unfold recV at *
  go_enter Try.func23, Try.ntmps23
  go_wp2_with fail
  refine (hrec _ (below_alloc (below_refl w) _)).mono ?_
  rintro x w1 ⟨rfl, hb1⟩
  have hb := below_step (below_alloc (below_refl w) _) hb1
  have hr1 := hnew.below hb1
  clear hb1 hrec hnew
  go_wp2_with fail
  refine wp_region_still_lit (by kernel_rfl) (by kernel_rfl) ?_
  change wpStill _ _ w1.drew (fun a' => Exit.then _ _ Exit.normal a' w1.drew) _ _
  have hbW : Below w.heap.size w w1.drew := below_drew hb
  have hrW : RecAt w1.drew w.heap.size 0 r (.slice pv r.v.length cv) := hr1
  generalize w1.drew = W at *
  obtain ⟨vr, vs, m, G, k0, k1, k2, -, -, -, -, -, hM, hE, -⟩ := (h.below hbW).opened
  have hl := ep_lookup hM hE r.p
  obtain ⟨d0, d1, d2, d3, d4⟩ := hrW
  have hP := Lib.hid (h.below hbW)
  have hF := Lib.hid hbW
  clear hb hr1 w1 hM hE k0 k1 h hbW
  have hl' : ∃ x b, epVal s.E r.p = x ∧ decide (0 ≤ s.E r.p) = b := ⟨_, _, rfl, rfl⟩
  obtain ⟨x, b, hx, hbb⟩ := hl'
  rw [hx, hbb] at hl
  have hcc : b = false ∧ c = 4 ∨ b = true ∧ r.e < x ∧ c = 5 ∨ b = true ∧ x < r.e ∧ c = 6 := by
    rcases hc with ⟨h1, h2⟩ | ⟨h0, h1, h2⟩ | ⟨h0, h1, h2⟩
    · exact .inl ⟨by rw [← hbb]; simpa using h1, h2⟩
    · exact .inr (.inl ⟨by rw [← hbb]; simpa using h0, by rw [← hx]; unfold epVal; rw [if_pos h0]; exact h1, h2⟩)
    · exact .inr (.inr ⟨by rw [← hbb]; simpa using h0, by rw [← hx]; unfold epVal; rw [if_pos h0]; exact h1, h2⟩)
  clear hx hbb hc
  rcases hcc with ⟨rfl, rfl⟩ | ⟨rfl, h1, rfl⟩ | ⟨rfl, h1, rfl⟩
  · repeat (refine wpStill_step (fun K hK => ?_); go_simp; refine hK _ ?_; clear hK K)
    refine wpStill_nil ?_
    go_wp2_with fail
    go_ret2
    exact ⟨M, V, rfl, hP.out, Fr.of_below hF.out, fun b hb => .inl hb, fun b hb => .inl hb⟩
  · repeat (refine wpStill_step (fun K hK => ?_); go_simp; refine hK _ ?_; clear hK K)
    refine wpStill_nil ?_
    go_wp2_with fail
    go_ret2
    exact ⟨M, V, rfl, hP.out, Fr.of_below hF.out, fun b hb => .inl hb, fun b hb => .inl hb⟩
  · have h1' : ¬ r.e < x := by omega
    repeat (refine wpStill_step (fun K hK => ?_); go_simp; refine hK _ ?_; clear hK K)
    refine wpStill_nil ?_
    go_wp2_with fail
    go_ret2
    exact ⟨M, V, rfl, hP.out, Fr.of_below hF.out, fun b hb => .inl hb, fun b hb => .inl hb⟩

theorem turned_ret {a0 a1 b0 b1 : Int} (h0 : a0 = b0) (h1 : a1 = b1) : Ending.returned (.tuple #[.int .i64 b0, .int .i64 b1]) = .returned (.tuple #[.int .i64 a0, .int .i64 a1]) := by rw [h0, h1]

/-- bytes.Equal leaves the world as it is. -/
theorem bytesEqual_same (u v : Value) (bs cs : List UInt8) (w : World) (hu : BytesAt w u bs) (hv : BytesAt w v cs) :
    Calls Try.prog 52 #[u, v] w (fun e w' => e = .returned (.bool (decide (bs = cs))) ∧ w' = w) := bytesEqual_same' u v bs cs w hu hv

set_option maxRecDepth 100000 in
set_option maxHeartbeats 1600000 in
theorem append_again (w : World) (p : Nat) (s : PL.St) (M V : Nat → Prop) (h : PRep w p s M V) (r : PL.Rec) (v : Value) (hv : BytesAt w v r.v) (hok : PL.okRec r) (he : s.E r.p = r.e) (he0 : 0 ≤ r.e) (j : Nat) (hj : j < s.R.length) (hi : s.again r.p r.e r.q = (j : Int)) :
    Calls Try.prog 23 #[.pointer (some ⟨p, 0, none⟩), recV r v] w
      (Turned p M V (.tuple #[.int .i64 (if s.R[j].t ≠ r.t ∨ s.R[j].v ≠ r.v then 0 else j), .int .i64 (if s.R[j].t ≠ r.t ∨ s.R[j].v ≠ r.v then 1 else 0)]) s w) := by
  have hrec := fun W hb => isRecord_any r v W (hv.below hb)
  have hag := fun W (hb : Below w.heap.size w W) => again_any W p s M V (h.below hb) r v (hv.below hb)
  have hv' := hv
  rw [show decide (PL.okRec r) = true by simpa using hok] at hrec
  rw [hi] at hag
  obtain ⟨pv, cv, rfl, hv1, hv2, hv3⟩ := hv
  have hnew := recAt_new w 32 r (.slice pv r.v.length cv)
  clear hv3 hok hi
  generalize hr0 : (if s.R[j].t ≠ r.t ∨ s.R[j].v ≠ r.v then (0 : Int) else j) = a0
  generalize hr1 : (if s.R[j].t ≠ r.t ∨ s.R[j].v ≠ r.v then (1 : Int) else 0) = a1
  have Hr0 := Lib.hid hr0
  have Hr1 := Lib.hid hr1
  clear hr0 hr1
  unfold recV at *
  go_enter Try.func23, Try.ntmps23
  go_wp2_with fail
  refine (hrec _ (below_alloc (below_refl w) _)).mono ?_
  rintro x w1 ⟨rfl, hb1⟩
  have hb := below_step (below_alloc (below_refl w) _) hb1
  have hr1 := hnew.below hb1
  clear hb1 hrec hnew
  go_wp2_with fail
  refine wp_region_still_lit (by kernel_rfl) (by kernel_rfl) ?_
  change wpStill _ _ w1.drew (fun a' => Exit.then _ _ Exit.normal a' w1.drew) _ _
  have hbW : Below w.heap.size w w1.drew := below_drew hb
  have hrW : RecAt w1.drew w.heap.size 0 r (.slice pv r.v.length cv) := hr1
  generalize w1.drew = W at *
  obtain ⟨vr, vs, m, G, k0, k1, k2, -, -, -, -, -, hM, hE, -⟩ := (h.below hbW).opened
  have hl := ep_lookup hM hE r.p
  rw [show epVal s.E r.p = r.e by unfold epVal; rw [he, if_pos he0], show decide (0 ≤ s.E r.p) = true by rw [he]; simpa using he0] at hl
  obtain ⟨d0, d1, d2, d3, d4⟩ := hrW
  clear hb hr1 w1 hM hE k0 k1 he he0
  repeat (refine wpStill_step (fun K hK => ?_); go_simp; refine hK _ ?_; clear hK K)
  refine wpStill_nil ?_
  clear hl k2
  go_wp2_with fail
  refine (hag W hbW).mono ?_
  rintro x w2 ⟨rfl, hb2⟩
  have hb2' := below_step hbW hb2
  clear hag
  have hr2 : RecAt w2 w.heap.size 0 r (.slice pv r.v.length cv) := RecAt.below ⟨d0, d1, d2, d3, d4⟩ hb2
  clear d0 d1 d2 d3 d4
  go_wp2_with fail
  refine wp_region_still_lit (by kernel_rfl) (by kernel_rfl) ?_
  change wpStill _ _ w2.drew (fun a' => Exit.then _ _ Exit.normal a' w2.drew) _ _
  have hb3 : Below w.heap.size w w2.drew := below_drew hb2'
  have hr3 : RecAt w2.drew w.heap.size 0 r (.slice pv r.v.length cv) := hr2
  generalize w2.drew = W3 at *
  have hv3 := hv'.below hb3
  have hP := Lib.hid (h.below hb3)
  have hF := Lib.hid hb3
  obtain ⟨vr', vs', m', G', k0, k1, k2, -, -, -, hR, -, -, -, -⟩ := (h.below hb3).opened
  obtain ⟨pr, cr, rfl, hR1, hR2, hR3⟩ := hR
  obtain ⟨b, o, u, rfl, hat, hu⟩ := hR3 j _ (List.getElem?_eq_getElem hj)
  have hbe := bytesEqual_same u _ _ _ W3 hu hv3
  obtain ⟨pu, cu, rfl, _, _, _⟩ := hu
  obtain ⟨q0, q1, q2, q3, q4⟩ := hat
  obtain ⟨d0, d1, d2, d3, d4⟩ := hr3
  clear hb2 hb2' hr2 w2 hb3 hv3 hv' h hbW W k1 k2 hR3 q0 q1 q3 d0 d1 d3
  generalize s.R[j] = x at *
  obtain ⟨xp, xe, xt, xq, xv⟩ := x
  dsimp only at *
  by_cases h1 : xt = r.t
  · have h1' := bne_f h1
    by_cases h2 : xv = r.v
    · rw [show decide (xv = r.v) = true by simpa using h2] at hbe
      have hno : ¬ (xt ≠ r.t ∨ xv ≠ r.v) := by rintro (h | h); exact h h1; exact h h2
      have HA : a0 = j ∧ a1 = 0 := ⟨by rw [← Hr0.out, if_neg hno], by rw [← Hr1.out, if_neg hno]⟩
      have HA := Lib.hid HA
      clear h1 h2 hno Hr0 Hr1
      iterate 22 (refine wpStill_step (fun K hK => ?_); go_simp; refine hK _ ?_; clear hK K)
      refine wpStill_step (fun K hK => ?_)
      go_simp
      refine ⟨_, hbe, hK _ ?_⟩
      clear hK K
      iterate 2 (refine wpStill_step (fun K hK => ?_); go_simp; refine hK _ ?_; clear hK K)
      refine wpStill_nil ?_
      go_wp2_with fail
      go_ret2
      exact ⟨M, V, turned_ret HA.out.1 HA.out.2, hP.out, Fr.of_below hF.out, fun b hb => .inl hb, fun b hb => .inl hb⟩
    · rw [show decide (xv = r.v) = false by simpa using h2] at hbe
      have HA : a0 = 0 ∧ a1 = 1 := ⟨by rw [← Hr0.out, if_pos (.inr h2)], by rw [← Hr1.out, if_pos (.inr h2)]⟩
      have HA := Lib.hid HA
      clear h1 h2 Hr0 Hr1
      iterate 22 (refine wpStill_step (fun K hK => ?_); go_simp; refine hK _ ?_; clear hK K)
      refine wpStill_step (fun K hK => ?_)
      go_simp
      refine ⟨_, hbe, hK _ ?_⟩
      clear hK K
      iterate 2 (refine wpStill_step (fun K hK => ?_); go_simp; refine hK _ ?_; clear hK K)
      refine wpStill_nil ?_
      go_wp2_with fail
      go_ret2
      exact ⟨M, V, turned_ret HA.out.1 HA.out.2, hP.out, Fr.of_below hF.out, fun b hb => .inl hb, fun b hb => .inl hb⟩
  · have h1' := bne_t h1
    have HA : a0 = 0 ∧ a1 = 1 := ⟨by rw [← Hr0.out, if_pos (.inl h1)], by rw [← Hr1.out, if_pos (.inl h1)]⟩
    have HA := Lib.hid HA
    clear h1 hbe Hr0 Hr1
    iterate 12 (refine wpStill_step (fun K hK => ?_); go_simp; refine hK _ ?_; clear hK K)
    generalize hops : (List.toArray _) = OO
    iterate 12 (refine wpStill_skip (by rw [← hops]; rfl) (by rfl) ?_)
    subst hops
    refine wpStill_step (fun K hK => ?_); go_simp; refine hK _ ?_; clear hK K
    refine wpStill_nil ?_
    go_wp2_with fail
    go_ret2
    exact ⟨M, V, turned_ret HA.out.1 HA.out.2, hP.out, Fr.of_below hF.out, fun b hb => .inl hb, fun b hb => .inl hb⟩

end Go.Proofs.Ytjjlbancofkinaa
