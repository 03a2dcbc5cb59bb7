/-
  A new record is laid.
-/
import Derived.Test.YtjjlbancofkinaaPlogE
import Derived.Test.YtjjlbancofkinaaDrawn
namespace Go.Proofs.Ytjjlbancofkinaa
open Go.RowKit

set_option maxRecDepth 100000 in
set_option maxHeartbeats 800000 in
/-- The way of 'Append' as far as the call of 'fits'. -/
theorem append_unfit (w : World) (p : Nat) (s : PL.St) (M V : Nat → Prop) (h : PRep w p s M V) (hq : ∀ r ∈ s.R, 0 ≤ r.q ∧ r.q ≤ 1048576) (r : PL.Rec) (v : Value) (hv : BytesAt w v r.v) (hok : PL.okRec r) (he : s.E r.p = r.e) (he0 : 0 ≤ r.e) (hi : s.again r.p r.e r.q < 0) (c : Int) (hc : c ≠ 0) (hf : fitsOf s r = c) :
    Calls Try.prog 23 #[.pointer (some ⟨p, 0, none⟩), recV r v] w (Turned p M V (.tuple #[.int .i64 0, .int .i64 c]) s w) := by
  have hrec := fun W hb => isRecord_any r v W (hv.below hb)
  have hag := fun W (hb : Below w.heap.size w W) => again_any W p s M V (h.below hb) r v (hv.below hb)
  have hfi := fun W (hb : Below w.heap.size w W) => fits_any W p s M V (h.below hb) hq r v (hv.below hb)
  rw [show decide (PL.okRec r) = true by simpa using hok] at hrec
  rw [hf] at hfi
  generalize s.again r.p r.e r.q = i at *
  obtain ⟨pv, cv, rfl, hv1, hv2, hv3⟩ := hv
  have hnew := recAt_new w 32 r (.slice pv r.v.length cv)
  have hc' := bne_t hc
  clear hv3 hok hq hf hc
  unfold recV at *
  go_enter Try.func23, Try.ntmps23
  go_wp2_with fail
  refine (hrec _ (below_alloc (below_refl w) _)).mono ?_
  rintro x w1 ⟨rfl, hb1⟩
  have hb := below_step (below_alloc (below_refl w) _) hb1
  have hr1 := hnew.below hb1
  clear hb1 hrec hnew
  go_wp2_with fail
  refine wp_region_still_lit (by kernel_rfl) (by kernel_rfl) ?_
  change wpStill _ _ w1.drew (fun a' => Exit.then _ _ Exit.normal a' w1.drew) _ _
  have hbW : Below w.heap.size w w1.drew := below_drew hb
  have hrW : RecAt w1.drew w.heap.size 0 r (.slice pv r.v.length cv) := hr1
  generalize w1.drew = W at *
  obtain ⟨vr, vs, m, G, k0, k1, k2, -, -, -, -, -, hM, hE, -⟩ := (h.below hbW).opened
  have hl := ep_lookup hM hE r.p
  rw [show epVal s.E r.p = r.e by unfold epVal; rw [he, if_pos he0], show decide (0 ≤ s.E r.p) = true by rw [he]; simpa using he0] at hl
  obtain ⟨d0, d1, d2, d3, d4⟩ := hrW
  clear hb hr1 w1 hM hE k0 k1 he he0
  repeat (refine wpStill_step (fun K hK => ?_); go_simp; refine hK _ ?_; clear hK K)
  refine wpStill_nil ?_
  clear hl k2
  go_wp2_with fail
  refine (hag W hbW).mono ?_
  rintro x w2 ⟨rfl, hb2⟩
  have hb2' := below_step hbW hb2
  clear hag
  obtain ⟨d0, d1, d2, d3, d4⟩ : RecAt w2 w.heap.size 0 r (.slice pv r.v.length cv) := RecAt.below ⟨d0, d1, d2, d3, d4⟩ hb2
  go_wp2_with fail
  refine (hfi w2 hb2').mono ?_
  rintro x w3 ⟨rfl, hb3⟩
  have hb3' := below_step hb2' hb3
  have hP := Lib.hid (h.below hb3')
  have hF := Lib.hid hb3'
  clear hfi d0 d1 d2 d3 d4 hb2 hb2' hb3 hb3' h hbW
  go_wp2_with fail
  go_ret2
  exact ⟨M, V, rfl, hP.out, Fr.of_below hF.out, fun b hb => .inl hb, fun b hb => .inl hb⟩

theorem PRep.bound {w : World} {p : Nat} {s : PL.St} {M V : Nat → Prop} (h : PRep w p s M V) : ∀ b, M b ∨ V b → b < w.heap.size := by
  obtain ⟨vr, vs, m, L, G, h1, h2, h3, h4, h5, h6, h7, h8, h9, h10, h11, h12, h13⟩ := h
  exact h13

theorem grown_frozen {a b : World} {row : Option Nat} {k o : Nat} {v : Bool} (h : a.grownBy b row) (hf : a.frozen? ⟨k, o, none⟩ = v) (hk : k < a.heap.size) (hne : some k ≠ row) : b.frozen? ⟨k, o, none⟩ = v := frozen_same hf (h.block k hk hne)

theorem rec_new (w : World) (T : TypeId) (r : PL.Rec) (v : Value) : ∀ j u, (recCells [(r, v)])[j]? = some u → (w.alloc (.cells #[.int .i64 r.p, .int .i64 r.e, .int .i64 r.t, .int .i64 r.q, v] T)).cell? ((⟨w.heap.size, 0, none⟩ : Addr).add j) = some u := by
  intro j u hu
  exact World.news_of_block (heap_alloc_new w _) j u hu
theorem rec_oneCell (r : PL.Rec) (a : Option Addr) (n c : Nat) : ∀ u ∈ recCells [(r, .slice a n c)], u.oneCell' = true := by
  intro u hu
  simp [recCells] at hu
  rcases hu with rfl | rfl | rfl | rfl | rfl <;> rfl
theorem recCells_append (L : List (PL.Rec × Value)) (x : PL.Rec × Value) : recCells (L ++ [x]) = recCells L ++ recCells [x] := by simp [recCells]

theorem frozen_alloc (w : World) (cs : Array Value) (T k : Nat) : (w.alloc (.cells cs T)).frozen? ⟨w.heap.size, k, none⟩ = false := by
  unfold World.frozen?
  rw [heap_alloc_new]
  simp

set_option maxRecDepth 100000 in
set_option maxHeartbeats 1600000 in
theorem append_new1 (w : World) (p : Nat) (s : PL.St) (M V : Nat → Prop) (h : PRep w p s M V) (hn : s.S.length ≤ 1099511627776) (hn2 : s.R.length ≤ 1099511627776) (hq : ∀ r ∈ s.R, 0 ≤ r.q ∧ r.q ≤ 1048576) (r : PL.Rec) (v : Value) (hv : BytesAt w v r.v) (hok : PL.okRec r) (he : s.E r.p = r.e) (he0 : 0 ≤ r.e) (hi : s.again r.p r.e r.q < 0) (hf : fitsOf s r = 0) (hsp : s.span r.p r.e r.t < 0) (hvM : ∀ b, Value.blk v = some b → ¬ M b) :
    Calls Try.prog 23 #[.pointer (some ⟨p, 0, none⟩), recV r v] w (Turned p M V (.tuple #[.int .i64 s.R.length, .int .i64 0]) { s with R := s.R ++ [r], S := s.S ++ [⟨r.p, r.e, r.t, s.R.length, 0⟩] } w) := by
  have hrec := fun W hb => isRecord_any r v W (hv.below hb)
  have hag := fun W (hb : Below w.heap.size w W) => again_any W p s M V (h.below hb) r v (hv.below hb)
  have hfi := fun W (hb : Below w.heap.size w W) => fits_any W p s M V (h.below hb) hq r v (hv.below hb)
  have hspan := fun W (hb : Below w.heap.size w W) => span_any W p s M V (h.below hb) r.p r.e r.t
  rw [show decide (PL.okRec r) = true by simpa using hok] at hrec
  rw [hf] at hfi
  generalize s.again r.p r.e r.q = i at *
  generalize s.span r.p r.e r.t = i2 at *
  have hvv := hv
  obtain ⟨pv, cv, rfl, hv1, hv2, hv3⟩ := hv
  have hnew := recAt_new w 32 r (.slice pv r.v.length cv)
  clear hv3 hq hf
  unfold recV at *
  obtain ⟨i0, hi0, hz0, hz1, hz2⟩ := info_parts Try.infoSpan
  obtain ⟨j0, hj0, hy0, hy1, hy2⟩ := info_parts Try.infoRec
  go_enter Try.func23, Try.ntmps23
  go_wp2_with fail
  refine (hrec _ (below_alloc (below_refl w) _)).mono ?_
  rintro x w1 ⟨rfl, hb1⟩
  have hb := below_step (below_alloc (below_refl w) _) hb1
  have hr1 := hnew.below hb1
  have hz := frozen_same (frozen_alloc w #[.int .i64 r.p, .int .i64 r.e, .int .i64 r.t, .int .i64 r.q, .slice pv r.v.length cv] 32 4) (hb1.block w.heap.size (by simp))
  clear hb1 hrec hnew
  go_wp2_with fail
  refine wp_region_still_lit (by kernel_rfl) (by kernel_rfl) ?_
  change wpStill _ _ w1.drew (fun a' => Exit.then _ _ Exit.normal a' w1.drew) _ _
  have hbW : Below w.heap.size w w1.drew := below_drew hb
  have hrW : RecAt w1.drew w.heap.size 0 r (.slice pv r.v.length cv) := hr1
  replace hz : w1.drew.frozen? ⟨w.heap.size, 4, none⟩ = false := hz
  generalize w1.drew = W at *
  obtain ⟨vr, vs, m, G, k0, k1, k2, -, -, -, -, -, hM, hE, -⟩ := (h.below hbW).opened
  have hl := ep_lookup hM hE r.p
  rw [show epVal s.E r.p = r.e by unfold epVal; rw [he, if_pos he0], show decide (0 ≤ s.E r.p) = true by rw [he]; simpa using he0] at hl
  obtain ⟨d0, d1, d2, d3, d4⟩ := hrW
  clear hb hr1 w1 hM hE k0 k1 he he0
  repeat (refine wpStill_step (fun K hK => ?_); go_simp; refine hK _ ?_; clear hK K)
  refine wpStill_nil ?_
  clear hl k2
  go_wp2_with fail
  refine (hag W hbW).mono ?_
  rintro x w2 ⟨rfl, hb2⟩
  have hb2' := below_step hbW hb2
  clear hag
  have hd : RecAt w2 w.heap.size 0 r (.slice pv r.v.length cv) := RecAt.below ⟨d0, d1, d2, d3, d4⟩ hb2
  replace hz := frozen_same hz (hb2.block w.heap.size (lt_of_cell d0))
  clear d0 d1 d2 d3 d4
  obtain ⟨d0, d1, d2, d3, d4⟩ := hd
  go_wp2_with fail
  refine (hfi w2 hb2').mono ?_
  rintro x w3 ⟨rfl, hb3⟩
  have hb3' := below_step hb2' hb3
  have hd : RecAt w3 w.heap.size 0 r (.slice pv r.v.length cv) := RecAt.below ⟨d0, d1, d2, d3, d4⟩ hb3
  replace hz := frozen_same hz (hb3.block w.heap.size (lt_of_cell d0))
  clear d0 d1 d2 d3 d4
  obtain ⟨d0, d1, d2, d3, d4⟩ := hd
  clear hfi hb2 hb2' hb3 hbW W w2
  obtain ⟨vr0, vs0, m0, G0, k0, k1, k2, -, -, -, hR0, -⟩ := (h.below hb3').opened
  obtain ⟨pr0, cr0, rfl, hR1, hR2, -⟩ := hR0
  clear k1 k2
  go_wp2_with fail
  refine (hspan w3 hb3').mono ?_
  rintro x w4 ⟨rfl, hb4⟩
  have hb4' := below_step hb3' hb4
  have hd : RecAt w4 w.heap.size 0 r (.slice pv r.v.length cv) := RecAt.below ⟨d0, d1, d2, d3, d4⟩ hb4
  replace hz := frozen_same hz (hb4.block w.heap.size (lt_of_cell d0))
  clear d0 d1 d2 d3 d4
  obtain ⟨d0, d1, d2, d3, d4⟩ := hd
  clear hb4 hb3' k0 hspan w3
  have hlt1 : p < w4.heap.size := (h.below hb4').bound p (.inl (h.below hb4').spn_put.choose_spec.2.2.2.1)
  go_wp2_with fail
  obtain ⟨vs, c1, f1, hown, hMp, hvM2, hlt, hput⟩ := (h.below (below_drew hb4')).spn_put
  obtain ⟨av, cvs, rfl, hs1, hs2, hs3, hs4⟩ := owns_form hown
  refine region_wpZ 17 (fun w' => w'.cell? ⟨p, 1, none⟩ = some (.slice av s.S.length cvs) ∧ w'.cell? ⟨w.heap.size, 0, none⟩ = some (.int .i64 r.p) ∧ w'.cell? ⟨w.heap.size, 1, none⟩ = some (.int .i64 r.e) ∧ w'.cell? ⟨w.heap.size, 2, none⟩ = some (.int .i64 r.t)) (by kernel_rfl) ?_
  have hS : (fun w' : World => w'.cell? ⟨p, 1, none⟩ = some (.slice av s.S.length cvs) ∧ w'.cell? ⟨w.heap.size, 0, none⟩ = some (.int .i64 r.p) ∧ w'.cell? ⟨w.heap.size, 1, none⟩ = some (.int .i64 r.e) ∧ w'.cell? ⟨w.heap.size, 2, none⟩ = some (.int .i64 r.t)) w4.drew := ⟨c1, d0, d1, d2⟩
  have hd : RecAt w4.drew w.heap.size 0 r (.slice pv r.v.length cv) := ⟨d0, d1, d2, d3, d4⟩
  replace hz : w4.drew.frozen? ⟨w.heap.size, 4, none⟩ = false := hz
  clear d0 d1 d2 d3 d4 hs3 hs4 hlt1
  obtain ⟨d0, d1, d2, d3, d4⟩ := hd
  have hb5 : Below w.heap.size w w4.drew := below_drew hb4'
  clear hb4'
  generalize w4.drew = W at *
  clear w4
  have hwl : w.heap.size < W.heap.size := lt_of_cell d0
  have hne1 : some p ≠ (Value.slice av s.S.length cvs).ownBlock := fun e => (hvM2 _ e.symm).2 rfl
  have hne2 : some w.heap.size ≠ (Value.slice av s.S.length cvs).ownBlock := fun e => by have := h.bound _ (.inl (hvM2 _ e.symm).1); omega
  have hbO := below_alloc (below_refl W) (.cells #[.int .i64 r.p, .int .i64 r.e, .int .i64 r.t, .int .i64 s.R.length, .int .i64 0] 68)
  have E1 := cell_below c1 hbO
  have E2 := cell_below d0 hbO
  have E3 := cell_below d1 hbO
  have E4 := cell_below d2 hbO
  have F1 := frozen_same f1 (hbO.block p hlt)
  refine wpZ_take (i := 0) (v := ?v1_0) rfl (by kernel_rfl) (by kernel_rfl) (by kernel_rfl) (by kernel_rfl) (fun _ _ _ h => h) (Or.inl ⟨by rfl, ?hy1_0⟩) hS ?rest1_0
  case hy1_0 =>
    intro w9 hS9
    (try dsimp only at hS9)
    simp only [at_zero]
    go_simp <;> with_reducible rfl
  simp only [at_zero, Act.put, List.setIfInBounds_toArray, List.set_cons_zero, List.set_cons_succ]
  refine wpZ_take (i := 1) (v := ?v1_1) rfl (by kernel_rfl) (by kernel_rfl) (by kernel_rfl) (by kernel_rfl) (fun _ _ _ h => h) (Or.inl ⟨by rfl, ?hy1_1⟩) hS ?rest1_1
  case hy1_1 =>
    intro w9 hS9
    (try dsimp only at hS9)
    simp only [at_zero, at_succ]
    go_simp <;> with_reducible rfl
  simp only [at_zero, at_succ, Act.put, List.setIfInBounds_toArray, List.set_cons_zero, List.set_cons_succ]
  refine wpZ_take (i := 2) (v := ?v1_2) rfl (by kernel_rfl) (by kernel_rfl) (by kernel_rfl) (by kernel_rfl) (fun _ _ _ h => h) (Or.inl ⟨by rfl, ?hy1_2⟩) hS ?rest1_2
  case hy1_2 =>
    intro w9 hS9
    (try dsimp only at hS9)
    simp only [at_zero, at_succ]
    go_simp <;> with_reducible rfl
  simp only [at_zero, at_succ, Act.put, List.setIfInBounds_toArray, List.set_cons_zero, List.set_cons_succ]
  refine wpZ_take (i := 3) (v := ?v1_3) rfl (by kernel_rfl) (by kernel_rfl) (by kernel_rfl) (by kernel_rfl) (fun _ _ _ h => h) (Or.inl ⟨by rfl, ?hy1_3⟩) hS ?rest1_3
  case hy1_3 =>
    intro w9 hS9
    (try dsimp only at hS9)
    simp only [at_zero, at_succ]
    go_simp <;> with_reducible rfl
  simp only [at_zero, at_succ, Act.put, List.setIfInBounds_toArray, List.set_cons_zero, List.set_cons_succ]
  refine wpZ_take (i := 4) (v := ?v1_4) rfl (by kernel_rfl) (by kernel_rfl) (by kernel_rfl) (by kernel_rfl) (fun _ _ _ h => h) (Or.inl ⟨by rfl, ?hy1_4⟩) hS ?rest1_4
  case hy1_4 =>
    intro w9 hS9
    (try dsimp only at hS9)
    simp only [at_zero, at_succ]
    go_simp <;> with_reducible rfl
  simp only [at_zero, at_succ, Act.put, List.setIfInBounds_toArray, List.set_cons_zero, List.set_cons_succ]
  refine wpZ_take (i := 5) (v := ?v1_5) rfl (by kernel_rfl) (by kernel_rfl) (by kernel_rfl) (by kernel_rfl) (fun _ _ _ h => h) (Or.inl ⟨by rfl, ?hy1_5⟩) hS ?rest1_5
  case hy1_5 =>
    intro w9 hS9
    (try dsimp only at hS9)
    simp only [at_zero, at_succ]
    go_simp <;> with_reducible rfl
  simp only [at_zero, at_succ, Act.put, List.setIfInBounds_toArray, List.set_cons_zero, List.set_cons_succ]
  refine wpZ_take (i := 6) (v := ?v1_6) rfl (by kernel_rfl) (by kernel_rfl) (by kernel_rfl) (by kernel_rfl) (fun _ _ _ h => h) (Or.inl ⟨by rfl, ?hy1_6⟩) hS ?rest1_6
  case hy1_6 =>
    intro w9 hS9
    (try dsimp only at hS9)
    simp only [at_zero, at_succ]
    go_simp <;> with_reducible rfl
  simp only [at_zero, at_succ, Act.put, List.setIfInBounds_toArray, List.set_cons_zero, List.set_cons_succ]
  refine wpZ_take (i := 7) (v := ?v1_7) rfl (by kernel_rfl) (by kernel_rfl) (by kernel_rfl) (by kernel_rfl) (fun _ _ _ h => h) (Or.inl ⟨by rfl, ?hy1_7⟩) hS ?rest1_7
  case hy1_7 =>
    intro w9 hS9
    (try dsimp only at hS9)
    simp only [at_zero, at_succ]
    go_simp <;> with_reducible rfl
  simp only [at_zero, at_succ, Act.put, List.setIfInBounds_toArray, List.set_cons_zero, List.set_cons_succ]
  refine wpZ_take (i := 8) (v := ?v1_8) rfl (by kernel_rfl) (by kernel_rfl) (by kernel_rfl) (by kernel_rfl) (fun _ _ _ h => h) (Or.inl ⟨by rfl, ?hy1_8⟩) hS ?rest1_8
  case hy1_8 =>
    intro w9 hS9
    (try dsimp only at hS9)
    simp only [at_zero, at_succ]
    go_simp <;> with_reducible rfl
  simp only [at_zero, at_succ, Act.put, List.setIfInBounds_toArray, List.set_cons_zero, List.set_cons_succ]
  refine wpZ_take (i := 9) (v := ?v1_9) rfl (by kernel_rfl) (by kernel_rfl) (by kernel_rfl) (by kernel_rfl) (fun _ _ _ h => h) (Or.inl ⟨by rfl, ?hy1_9⟩) hS ?rest1_9
  case hy1_9 =>
    intro w9 hS9
    (try dsimp only at hS9)
    simp only [at_zero, at_succ]
    go_simp <;> with_reducible rfl
  simp only [at_zero, at_succ, Act.put, List.setIfInBounds_toArray, List.set_cons_zero, List.set_cons_succ]
  refine wpZ_take (i := 10) (v := ?v1_10) rfl (by kernel_rfl) (by kernel_rfl) (by kernel_rfl) (by kernel_rfl) (fun _ _ _ h => h) (Or.inl ⟨by rfl, ?hy1_10⟩) hS ?rest1_10
  case hy1_10 =>
    intro w9 hS9
    (try dsimp only at hS9)
    simp only [at_zero, at_succ]
    go_simp <;> with_reducible rfl
  simp only [at_zero, at_succ, Act.put, List.setIfInBounds_toArray, List.set_cons_zero, List.set_cons_succ]
  refine wpZ_take (i := 11) (v := ?v1_11) rfl (by kernel_rfl) (by kernel_rfl) (by kernel_rfl) (by kernel_rfl) (fun _ _ _ h => h) (Or.inl ⟨by rfl, ?hy1_11⟩) hS ?rest1_11
  case hy1_11 =>
    intro w9 hS9
    (try dsimp only at hS9)
    simp only [at_zero, at_succ]
    go_simp <;> with_reducible rfl
  simp only [at_zero, at_succ, Act.put, List.setIfInBounds_toArray, List.set_cons_zero, List.set_cons_succ]
  refine wpZ_take (i := 12) (v := ?v1_12) rfl (by kernel_rfl) (by kernel_rfl) (by kernel_rfl) (by kernel_rfl) (fun _ _ _ h => h) (Or.inl ⟨by rfl, ?hy1_12⟩) hS ?rest1_12
  case hy1_12 =>
    intro w9 hS9
    (try dsimp only at hS9)
    simp only [at_zero, at_succ]
    go_simp <;> with_reducible rfl
  simp only [at_zero, at_succ, Act.put, List.setIfInBounds_toArray, List.set_cons_zero, List.set_cons_succ]
  refine wpZ_one (i := 13) (by kernel_rfl) rfl (fun K hK => ?_)
  simp only [at_zero, at_succ]
  go_simp
  refine hK _ _ (fun _ => ⟨E1, E2, E3, E4⟩) ?_
  clear hK K
  refine wpZ_op (i := 14) (by kernel_rfl) rfl rfl (fun K hK => ?_)
  simp only [at_zero, at_succ]
  refine wp_append_lies _ _ _ _ (by rfl) 0 68 i0 (.agg #[.int .i64 0, .int .i64 0, .int .i64 0, .int .i64 0, .int .i64 0]) 5 40 Try.underlying42 hi0 hz0 hz1 hz2 rfl (by decide) _ _ _ (by rfl) (hown.alloc _) ⟨W.heap.size, 0, none⟩ 1 1 (spnCells [⟨r.p, r.e, r.t, s.R.length, 0⟩]) (by rfl) rfl (spn_new W 68 ⟨r.p, r.e, r.t, s.R.length, 0⟩) (spn_oneCell _) (by omega) (by unfold maxLen; omega) (by omega) (Nat.zero_le _) (W.heap.size + 1) (by simp) ?_
  intro g cap w5 hown5 hgrow hat hlt5
  have hg3 := grown_trans (World.grownBy_alloc W _ none) hgrow
  have hpO : p < (W.alloc (.cells #[.int .i64 r.p, .int .i64 r.e, .int .i64 r.t, .int .i64 s.R.length, .int .i64 0] 68)).heap.size := by simp; omega
  have hwO : w.heap.size < (W.alloc (.cells #[.int .i64 r.p, .int .i64 r.e, .int .i64 r.t, .int .i64 s.R.length, .int .i64 0] 68)).heap.size := by simp; omega
  have G1 := (hgrow.cell_far ⟨p, 1, none⟩ hpO hne1).trans E1
  have G2 := (hgrow.cell_far ⟨w.heap.size, 0, none⟩ hwO hne2).trans E2
  have G3 := (hgrow.cell_far ⟨w.heap.size, 1, none⟩ hwO hne2).trans E3
  have G4 := (hgrow.cell_far ⟨w.heap.size, 2, none⟩ hwO hne2).trans E4
  have G5 := (hgrow.frozen_far ⟨p, 1, none⟩ hpO hne1).trans F1
  replace hz := frozen_same hz (hg3.block w.heap.size hwl hne2)
  have hd : RecAt w5 w.heap.size 0 r (.slice pv r.v.length cv) := RecAt.same ⟨d0, d1, d2, d3, d4⟩ (hg3.block w.heap.size hwl hne2)
  clear d0 d1 d2 d3 d4 E1 E2 E3 E4 F1 hbO
  refine hK _ _ (fun _ => ⟨G1, G2, G3, G4⟩) ?_
  clear hK K
  refine wpZ_op (i := 15) (by kernel_rfl) rfl rfl (fun K hK => ?_)
  simp only [at_zero, at_succ]
  go_simp
  refine hK _ _ (fun _ => ⟨G1, G2, G3, G4⟩) ?_
  clear hK K
  refine wpZ_op (i := 16) (by kernel_rfl) rfl rfl (fun K hK => ?_)
  simp only [at_zero, at_succ]
  go_simp
  refine hK _ _ (fun _ => ⟨G1, G2, G3, G4⟩) ?_
  clear hK K
  refine wpZ_op (i := 17) (by kernel_rfl) rfl rfl (fun K hK => ?_)
  simp only [at_zero, at_succ]
  go_simp
  refine hK _ _ (fun e => absurd rfl e) ?_
  clear hK K G2 G3 G4
  refine wpZ_done (by kernel_rfl) ?_
  rw [← spnCells_append] at hown5
  have hP := hput w5 _ (s.S ++ [⟨r.p, r.e, r.t, s.R.length, 0⟩]) hg3 (by simpa using hown5) (fun g' e => by
    cases e
    rcases hat with h | h
    · exact .inl h
    · exact .inr (show W.heap.size ≤ g by omega))
  have hF : Fr M w (w5.setCell ⟨p, 1, none⟩ (.slice (some ⟨g, 0, none⟩) (s.S.length + 1) cap)) := ((Fr.of_below hb5).grown hg3 (fun k e => .inl (hvM2 k e).1)).setCell (.inl hMp) _
  have hps : w.heap.size ≠ p := fun e => by have := h.bound _ (.inl hMp); omega
  replace hz := frozen_same hz (heap_setCell_ne (W := w5) (b := p) (k := w.heap.size) hps : (w5.setCell ⟨p, 1, none⟩ (.slice (some ⟨g, 0, none⟩) (s.S.length + 1) cap)).heap[w.heap.size]? = _)
  replace hd := RecAt.same hd (heap_setCell_ne (W := w5) (b := p) (k := w.heap.size) hps : (w5.setCell ⟨p, 1, none⟩ (.slice (some ⟨g, 0, none⟩) (s.S.length + 1) cap)).heap[w.heap.size]? = _)
  have hszw := lt_of_cell hd.1
  obtain ⟨M2, hP2, hM'⟩ : ∃ M2 : Nat → Prop, PRep (w5.setCell ⟨p, 1, none⟩ (.slice (some ⟨g, 0, none⟩) (s.S.length + 1) cap)) p { s with S := s.S ++ [⟨r.p, r.e, r.t, s.R.length, 0⟩] } M2 V ∧ RowKit.Hid (∀ b, M2 b → M b ∨ w.heap.size < b) := ⟨_, hP, Lib.hid (fun b hb => by
    rcases hb with h | ⟨h, _⟩
    · exact .inl h
    · exact .inr (by omega))⟩
  generalize w5.setCell ⟨p, 1, none⟩ (.slice (some ⟨g, 0, none⟩) (s.S.length + 1) cap) = W2 at *
  clear hP hput hgrow hg3 hown5 hown hwO hlt5 G1 G5 hpO hne1 hne2 hs1 hs2 hvM2 hb5 hS hat
  clear w5
  obtain ⟨d0, d1, d2, d3, d4⟩ := hd
  have hcl := bytesClone_any (.slice pv r.v.length cv) r.v W2 (hvv.same (fun b e => hF.block b (hvv.lt e) (hvM b e))) (by have := hok; unfold PL.okRec at this; omega)
  clear hvv
  go_wp2_with fail
  refine hcl.mono ?_
  rintro x w6 ⟨u, rfl, ⟨hu1, hu2, -⟩, hb6⟩
  replace hz := frozen_same hz (hb6.block w.heap.size (lt_of_cell d0))
  have hd : RecAt w6 w.heap.size 0 r (.slice pv r.v.length cv) := RecAt.below ⟨d0, d1, d2, d3, d4⟩ hb6
  clear d0 d1 d2 d3 d4
  obtain ⟨d0, d1, d2, d3, d4⟩ := hd
  have hu := hu1
  obtain ⟨pu, cu, rfl, hu3, hu4, -⟩ := hu1
  go_wp2_with fail
  have hMn : ∀ b, M2 b ∨ V b → b ≠ w.heap.size := fun b hb e => by
    rcases hb with hb | hb
    · rcases hM'.out b hb with hb | hb
      · have := h.bound _ (.inl hb); omega
      · omega
    · have := h.bound _ (.inr hb); omega
  have hP6 : PRep (w6.setCell ⟨w.heap.size, 4, none⟩ (.slice pu r.v.length cu)).drew p { s with S := s.S ++ [⟨r.p, r.e, r.t, s.R.length, 0⟩] } M2 V :=
    (hP2.below hb6).same (by simp [World.setCell]) (fun b hb => heap_setCell_ne (hMn b hb))
  have hR6 : RecAt (w6.setCell ⟨w.heap.size, 4, none⟩ (.slice pu r.v.length cu)).drew w.heap.size 0 r (.slice pu r.v.length cu) :=
    ⟨(World.cell?_setCell_other _ _ _ _ (by simp)).trans d0, (World.cell?_setCell_other _ _ _ _ (by simp)).trans d1, (World.cell?_setCell_other _ _ _ _ (by simp)).trans d2, (World.cell?_setCell_other _ _ _ _ (by simp)).trans d3, World.cell?_setCell_same _ _ _ d4⟩
  have hF6 : RowKit.Hid (Fr M w (w6.setCell ⟨w.heap.size, 4, none⟩ (.slice pu r.v.length cu)).drew) := Lib.hid (((hF.step hb6).setCell (.inr (Nat.le_refl _)) _).drew)
  have hU6 : BytesAt (w6.setCell ⟨w.heap.size, 4, none⟩ (.slice pu r.v.length cu)).drew (.slice pu r.v.length cu) r.v := hu.same (fun b e => heap_setCell_ne (by have := hu2 b e; omega))
  have hM2s := hP2.bound
  have hUM : RowKit.Hid (∀ b, Value.blk (.slice pu r.v.length cu) = some b → w.heap.size ≤ b ∧ ¬ M2 b) := Lib.hid (fun b e => ⟨by have := hu2 b e; omega, fun hb => by have := hu2 b e; have := hM2s b (.inl hb); omega⟩)
  obtain ⟨vr, L, c1, f1, hown, hLm, hMp2, hvM3, hlt3, hput⟩ := hP6.rec_put
  obtain ⟨ar, cr, rfl, hs1, hs2, hs3, hs4⟩ := owns_form hown
  have hS : (fun w' : World => w'.cell? ⟨p, 0, none⟩ = some (.slice ar s.R.length cr) ∧ RecAt w' w.heap.size 0 r (.slice pu r.v.length cu)) (w6.setCell ⟨w.heap.size, 4, none⟩ (.slice pu r.v.length cu)).drew := ⟨c1, hR6⟩
  refine region_wpZ 10 (fun w' => w'.cell? ⟨p, 0, none⟩ = some (.slice ar s.R.length cr) ∧ RecAt w' w.heap.size 0 r (.slice pu r.v.length cu)) (by kernel_rfl) ?_
  clear d0 d1 d2 d3 d4 hs3 hs4 hu2 hu hP2 hP6 hM2s hF hb6 hz hcl
  generalize (w6.setCell ⟨w.heap.size, 4, none⟩ (.slice pu r.v.length cu)).drew = W at *
  have hlt1 := lt_of_cell hR6.1
  have hne1 : some p ≠ (Value.slice ar s.R.length cr).ownBlock := fun e => (hvM3 _ e.symm).2 rfl
  have hne2 : some w.heap.size ≠ (Value.slice ar s.R.length cr).ownBlock := fun e => (hMn _ (.inl (hvM3 _ e.symm).1)) rfl
  have hbO := below_alloc (below_refl W) (.cells #[.int .i64 r.p, .int .i64 r.e, .int .i64 r.t, .int .i64 r.q, .slice pu r.v.length cu] 32)
  have E1 := cell_below c1 hbO
  have E2 := hR6.below hbO
  have F1 := frozen_same f1 (hbO.block p hlt3)
  obtain ⟨d0, d1, d2, d3, d4⟩ := hR6
  refine wpZ_take (i := 0) (v := ?v2_0) rfl (by kernel_rfl) (by kernel_rfl) (by kernel_rfl) (by kernel_rfl) (fun _ _ _ h => h) (Or.inl ⟨by rfl, ?hy2_0⟩) hS ?rest2_0
  case hy2_0 =>
    intro w9 hS9
    (try dsimp only at hS9)
    simp only [at_zero]
    go_simp <;> with_reducible rfl
  simp only [at_zero, Act.put, List.setIfInBounds_toArray, List.set_cons_zero, List.set_cons_succ]
  refine wpZ_take (i := 1) (v := ?v2_1) rfl (by kernel_rfl) (by kernel_rfl) (by kernel_rfl) (by kernel_rfl) (fun _ _ _ h => h) (Or.inl ⟨by rfl, ?hy2_1⟩) hS ?rest2_1
  case hy2_1 =>
    intro w9 hS9
    (try dsimp only at hS9)
    simp only [at_zero, at_succ]
    go_simp <;> with_reducible rfl
  simp only [at_zero, at_succ, Act.put, List.setIfInBounds_toArray, List.set_cons_zero, List.set_cons_succ]
  refine wpZ_take (i := 2) (v := ?v2_2) rfl (by kernel_rfl) (by kernel_rfl) (by kernel_rfl) (by kernel_rfl) (fun _ _ _ h => h) (Or.inl ⟨by rfl, ?hy2_2⟩) hS ?rest2_2
  case hy2_2 =>
    intro w9 hS9
    (try dsimp only at hS9)
    simp only [at_zero, at_succ]
    go_simp <;> with_reducible rfl
  simp only [at_zero, at_succ, Act.put, List.setIfInBounds_toArray, List.set_cons_zero, List.set_cons_succ]
  refine wpZ_take (i := 3) (v := ?v2_3) rfl (by kernel_rfl) (by kernel_rfl) (by kernel_rfl) (by kernel_rfl) (fun _ _ _ h => h) (Or.inl ⟨by rfl, ?hy2_3⟩) hS ?rest2_3
  case hy2_3 =>
    intro w9 hS9
    (try dsimp only at hS9)
    simp only [at_zero, at_succ]
    go_simp <;> with_reducible rfl
  simp only [at_zero, at_succ, Act.put, List.setIfInBounds_toArray, List.set_cons_zero, List.set_cons_succ]
  refine wpZ_take (i := 4) (v := ?v2_4) rfl (by kernel_rfl) (by kernel_rfl) (by kernel_rfl) (by kernel_rfl) (fun _ _ _ h => h) (Or.inl ⟨by rfl, ?hy2_4⟩) hS ?rest2_4
  case hy2_4 =>
    intro w9 hS9
    (try dsimp only at hS9)
    simp only [at_zero, at_succ]
    go_simp <;> with_reducible rfl
  simp only [at_zero, at_succ, Act.put, List.setIfInBounds_toArray, List.set_cons_zero, List.set_cons_succ]
  refine wpZ_take (i := 5) (v := ?u5) rfl (by kernel_rfl) (by kernel_rfl) (by kernel_rfl) (by kernel_rfl) (fun _ _ _ h => h) (Or.inl ⟨by rfl, ?ux5⟩) hS ?ur5
  case ux5 =>
    intro w9 hS9
    obtain ⟨-, k0, k1, k2, k3, k4⟩ := hS9
    simp only [at_zero, at_succ]
    go_simp <;> with_reducible rfl
  simp only [at_zero, at_succ, Act.put, List.setIfInBounds_toArray, List.set_cons_zero, List.set_cons_succ]
  refine wpZ_op (i := 6) (by kernel_rfl) rfl rfl (fun K hK => ?_)
  simp only [at_zero, at_succ]
  go_simp
  refine hK _ _ (fun _ => ⟨E1, E2⟩) ?_
  clear hK K
  refine wpZ_op (i := 7) (by kernel_rfl) rfl rfl (fun K hK => ?_)
  simp only [at_zero, at_succ]
  replace hown : W.ownsRow 0 32 5 (.slice ar s.R.length cr) s.R.length (recCells L) := hown
  refine wp_append_lies _ _ _ _ (by rfl) 0 32 j0 (.agg #[.int .i64 0, .int .i64 0, .int .i64 0, .int .i64 0, .slice none 0 0]) 5 56 Try.underlying35 hj0 hy0 hy1 hy2 rfl (by decide) _ _ _ (by rfl) (hown.alloc _) ⟨W.heap.size, 0, none⟩ 1 1 (recCells [(r, .slice pu r.v.length cu)]) (by rfl) rfl (rec_new W 32 r _) (rec_oneCell _ _ _ _) (by omega) (by unfold maxLen; omega) (by omega) (Nat.zero_le _) (W.heap.size + 1) (by simp) ?_
  intro g2 cap2 w7 hown7 hgrow hat2 hlt7
  have hg3 := grown_trans (World.grownBy_alloc W _ none) hgrow
  have hpO : p < (W.alloc (.cells #[.int .i64 r.p, .int .i64 r.e, .int .i64 r.t, .int .i64 r.q, .slice pu r.v.length cu] 32)).heap.size := by simp; omega
  have hwO : w.heap.size < (W.alloc (.cells #[.int .i64 r.p, .int .i64 r.e, .int .i64 r.t, .int .i64 r.q, .slice pu r.v.length cu] 32)).heap.size := by simp; omega
  have G1 := (hgrow.cell_far ⟨p, 0, none⟩ hpO hne1).trans E1
  have G2 := E2.same (hgrow.block w.heap.size hwO hne2)
  have G5 := (hgrow.frozen_far ⟨p, 0, none⟩ hpO hne1).trans F1
  clear d0 d1 d2 d3 d4 E1 E2 F1 hbO
  refine hK _ _ (fun _ => ⟨G1, G2⟩) ?_
  clear hK K
  refine wpZ_op (i := 8) (by kernel_rfl) rfl rfl (fun K hK => ?_)
  simp only [at_zero, at_succ]
  go_simp
  refine hK _ _ (fun _ => ⟨G1, G2⟩) ?_
  clear hK K
  refine wpZ_op (i := 9) (by kernel_rfl) rfl rfl (fun K hK => ?_)
  simp only [at_zero, at_succ]
  go_simp
  refine hK _ _ (fun _ => ⟨G1, G2⟩) ?_
  clear hK K
  refine wpZ_op (i := 10) (by kernel_rfl) rfl rfl (fun K hK => ?_)
  simp only [at_zero, at_succ]
  go_simp
  refine hK _ _ (fun e => absurd rfl e) ?_
  clear hK K G2
  refine wpZ_done (by kernel_rfl) ?_
  rw [← recCells_append] at hown7
  have hP := hput w7 _ r _ hg3 hown7 (fun g' e => by
    cases e
    rcases hat2 with h | h
    · exact .inl h
    · exact .inr (show W.heap.size ≤ g2 by omega)) hU6 (fun b e => (hUM.out b e).2)
  have hF := (hF6.out.grown hg3 (fun k e => (hM'.out k (hvM3 k e).1).imp id Nat.le_of_lt)).setCell (k := p) (o := 0) (.inl hMp) (.slice (some ⟨g2, 0, none⟩) (s.R.length + 1) cap2)
  have HT : RowKit.Hid (Turned p M V (.tuple #[.int .i64 s.R.length, .int .i64 0]) { s with R := s.R ++ [r], S := s.S ++ [⟨r.p, r.e, r.t, s.R.length, 0⟩] } w (.returned (.tuple #[.int .i64 s.R.length, .int .i64 0])) (w7.setCell ⟨p, 0, none⟩ (.slice (some ⟨g2, 0, none⟩) (s.R.length + 1) cap2))) := Lib.hid ⟨_, _, rfl, hP, hF, fun b hb => by
    have hWw := hF6.out.size
    rcases hb with hb | hb
    · exact (hM'.out b hb).imp id Nat.le_of_lt
    · exact .inr (by omega), fun b hb => hb.imp id (fun e => (hUM.out b e).1)⟩
  clear hP hF hput hgrow hg3 hown7 hown hF6 hUM hvM3 hM' hMn hU6 hat2 hne1 hne2 hs1 hs2 hS G1 G5 c1 f1
  go_wp2_with fail
  go_ret2
  exact HT.out

set_option maxRecDepth 100000 in
set_option maxHeartbeats 1600000 in
theorem append_new2 (w : World) (p : Nat) (s : PL.St) (M V : Nat → Prop) (h : PRep w p s M V) (hn2 : s.R.length ≤ 1099511627776) (hq : ∀ r ∈ s.R, 0 ≤ r.q ∧ r.q ≤ 1048576) (r : PL.Rec) (v : Value) (hv : BytesAt w v r.v) (hok : PL.okRec r) (he : s.E r.p = r.e) (he0 : 0 ≤ r.e) (hi : s.again r.p r.e r.q < 0) (hf : fitsOf s r = 0) (hsp : 0 ≤ s.span r.p r.e r.t) (hvM : ∀ b, Value.blk v = some b → ¬ M b) :
    Calls Try.prog 23 #[.pointer (some ⟨p, 0, none⟩), recV r v] w (Turned p M V (.tuple #[.int .i64 s.R.length, .int .i64 0]) { s with R := s.R ++ [r] } w) := by
  have hrec := fun W hb => isRecord_any r v W (hv.below hb)
  have hag := fun W (hb : Below w.heap.size w W) => again_any W p s M V (h.below hb) r v (hv.below hb)
  have hfi := fun W (hb : Below w.heap.size w W) => fits_any W p s M V (h.below hb) hq r v (hv.below hb)
  have hspan := fun W (hb : Below w.heap.size w W) => span_any W p s M V (h.below hb) r.p r.e r.t
  rw [show decide (PL.okRec r) = true by simpa using hok] at hrec
  rw [hf] at hfi
  generalize s.again r.p r.e r.q = i at *
  generalize s.span r.p r.e r.t = i2 at *
  have hvv := hv
  obtain ⟨pv, cv, rfl, hv1, hv2, hv3⟩ := hv
  have hnew := recAt_new w 32 r (.slice pv r.v.length cv)
  clear hv3 hq hf
  unfold recV at *
  obtain ⟨j0, hj0, hy0, hy1, hy2⟩ := info_parts Try.infoRec
  go_enter Try.func23, Try.ntmps23
  go_wp2_with fail
  refine (hrec _ (below_alloc (below_refl w) _)).mono ?_
  rintro x w1 ⟨rfl, hb1⟩
  have hb := below_step (below_alloc (below_refl w) _) hb1
  have hr1 := hnew.below hb1
  have hz := frozen_same (frozen_alloc w #[.int .i64 r.p, .int .i64 r.e, .int .i64 r.t, .int .i64 r.q, .slice pv r.v.length cv] 32 4) (hb1.block w.heap.size (by simp))
  clear hb1 hrec hnew
  go_wp2_with fail
  refine wp_region_still_lit (by kernel_rfl) (by kernel_rfl) ?_
  change wpStill _ _ w1.drew (fun a' => Exit.then _ _ Exit.normal a' w1.drew) _ _
  have hbW : Below w.heap.size w w1.drew := below_drew hb
  have hrW : RecAt w1.drew w.heap.size 0 r (.slice pv r.v.length cv) := hr1
  replace hz : w1.drew.frozen? ⟨w.heap.size, 4, none⟩ = false := hz
  generalize w1.drew = W at *
  obtain ⟨vr, vs, m, G, k0, k1, k2, -, -, -, -, -, hM, hE, -⟩ := (h.below hbW).opened
  have hl := ep_lookup hM hE r.p
  rw [show epVal s.E r.p = r.e by unfold epVal; rw [he, if_pos he0], show decide (0 ≤ s.E r.p) = true by rw [he]; simpa using he0] at hl
  obtain ⟨d0, d1, d2, d3, d4⟩ := hrW
  clear hb hr1 w1 hM hE k0 k1 he he0
  repeat (refine wpStill_step (fun K hK => ?_); go_simp; refine hK _ ?_; clear hK K)
  refine wpStill_nil ?_
  clear hl k2
  go_wp2_with fail
  refine (hag W hbW).mono ?_
  rintro x w2 ⟨rfl, hb2⟩
  have hb2' := below_step hbW hb2
  clear hag
  have hd : RecAt w2 w.heap.size 0 r (.slice pv r.v.length cv) := RecAt.below ⟨d0, d1, d2, d3, d4⟩ hb2
  replace hz := frozen_same hz (hb2.block w.heap.size (lt_of_cell d0))
  clear d0 d1 d2 d3 d4
  obtain ⟨d0, d1, d2, d3, d4⟩ := hd
  go_wp2_with fail
  refine (hfi w2 hb2').mono ?_
  rintro x w3 ⟨rfl, hb3⟩
  have hb3' := below_step hb2' hb3
  have hd : RecAt w3 w.heap.size 0 r (.slice pv r.v.length cv) := RecAt.below ⟨d0, d1, d2, d3, d4⟩ hb3
  replace hz := frozen_same hz (hb3.block w.heap.size (lt_of_cell d0))
  clear d0 d1 d2 d3 d4
  obtain ⟨d0, d1, d2, d3, d4⟩ := hd
  clear hfi hb2 hb2' hb3 hbW W w2
  obtain ⟨vr0, vs0, m0, G0, k0, k1, k2, -, -, -, hR0, -⟩ := (h.below hb3').opened
  obtain ⟨pr0, cr0, rfl, hR1, hR2, -⟩ := hR0
  clear k1 k2
  go_wp2_with fail
  refine (hspan w3 hb3').mono ?_
  rintro x w4 ⟨rfl, hb4⟩
  have hb4' := below_step hb3' hb4
  have hd : RecAt w4 w.heap.size 0 r (.slice pv r.v.length cv) := RecAt.below ⟨d0, d1, d2, d3, d4⟩ hb4
  replace hz := frozen_same hz (hb4.block w.heap.size (lt_of_cell d0))
  clear d0 d1 d2 d3 d4
  obtain ⟨d0, d1, d2, d3, d4⟩ := hd
  clear hb4 hb3' k0 hspan w3
  have hP2 := h.below hb4'
  have hF : Fr M w w4 := Fr.of_below hb4'
  have hMp : M p := hP2.spn_put.choose_spec.2.2.2.1
  have hM' : RowKit.Hid (∀ b, M b → M b ∨ w.heap.size < b) := Lib.hid (fun b hb => .inl hb)
  have hszw := lt_of_cell d0
  clear hb4'
  have hcl := bytesClone_any (.slice pv r.v.length cv) r.v w4 (hvv.same (fun b e => hF.block b (hvv.lt e) (hvM b e))) (by have := hok; unfold PL.okRec at this; omega)
  clear hvv
  go_wp2_with fail
  refine hcl.mono ?_
  rintro x w6 ⟨u, rfl, ⟨hu1, hu2, -⟩, hb6⟩
  replace hz := frozen_same hz (hb6.block w.heap.size (lt_of_cell d0))
  have hd : RecAt w6 w.heap.size 0 r (.slice pv r.v.length cv) := RecAt.below ⟨d0, d1, d2, d3, d4⟩ hb6
  clear d0 d1 d2 d3 d4
  obtain ⟨d0, d1, d2, d3, d4⟩ := hd
  have hu := hu1
  obtain ⟨pu, cu, rfl, hu3, hu4, -⟩ := hu1
  go_wp2_with fail
  have hMn : ∀ b, M b ∨ V b → b ≠ w.heap.size := fun b hb e => by
    rcases hb with hb | hb
    · rcases hM'.out b hb with hb | hb
      · have := h.bound _ (.inl hb); omega
      · omega
    · have := h.bound _ (.inr hb); omega
  have hP6 : PRep (w6.setCell ⟨w.heap.size, 4, none⟩ (.slice pu r.v.length cu)).drew p s M V :=
    (hP2.below hb6).same (by simp [World.setCell]) (fun b hb => heap_setCell_ne (hMn b hb))
  have hR6 : RecAt (w6.setCell ⟨w.heap.size, 4, none⟩ (.slice pu r.v.length cu)).drew w.heap.size 0 r (.slice pu r.v.length cu) :=
    ⟨(World.cell?_setCell_other _ _ _ _ (by simp)).trans d0, (World.cell?_setCell_other _ _ _ _ (by simp)).trans d1, (World.cell?_setCell_other _ _ _ _ (by simp)).trans d2, (World.cell?_setCell_other _ _ _ _ (by simp)).trans d3, World.cell?_setCell_same _ _ _ d4⟩
  have hF6 : RowKit.Hid (Fr M w (w6.setCell ⟨w.heap.size, 4, none⟩ (.slice pu r.v.length cu)).drew) := Lib.hid (((hF.step hb6).setCell (.inr (Nat.le_refl _)) _).drew)
  have hU6 : BytesAt (w6.setCell ⟨w.heap.size, 4, none⟩ (.slice pu r.v.length cu)).drew (.slice pu r.v.length cu) r.v := hu.same (fun b e => heap_setCell_ne (by have := hu2 b e; omega))
  have hM2s := hP2.bound
  have hUM : RowKit.Hid (∀ b, Value.blk (.slice pu r.v.length cu) = some b → w.heap.size ≤ b ∧ ¬ M b) := Lib.hid (fun b e => ⟨by have := hu2 b e; omega, fun hb => by have := hu2 b e; have := hM2s b (.inl hb); omega⟩)
  obtain ⟨vr, L, c1, f1, hown, hLm, hMp2, hvM3, hlt3, hput⟩ := hP6.rec_put
  obtain ⟨ar, cr, rfl, hs1, hs2, hs3, hs4⟩ := owns_form hown
  have hS : (fun w' : World => w'.cell? ⟨p, 0, none⟩ = some (.slice ar s.R.length cr) ∧ RecAt w' w.heap.size 0 r (.slice pu r.v.length cu)) (w6.setCell ⟨w.heap.size, 4, none⟩ (.slice pu r.v.length cu)).drew := ⟨c1, hR6⟩
  refine region_wpZ 10 (fun w' => w'.cell? ⟨p, 0, none⟩ = some (.slice ar s.R.length cr) ∧ RecAt w' w.heap.size 0 r (.slice pu r.v.length cu)) (by kernel_rfl) ?_
  clear d0 d1 d2 d3 d4 hs3 hs4 hu2 hu hP2 hP6 hM2s hF hb6 hz hcl
  generalize (w6.setCell ⟨w.heap.size, 4, none⟩ (.slice pu r.v.length cu)).drew = W at *
  have hlt1 := lt_of_cell hR6.1
  have hne1 : some p ≠ (Value.slice ar s.R.length cr).ownBlock := fun e => (hvM3 _ e.symm).2 rfl
  have hne2 : some w.heap.size ≠ (Value.slice ar s.R.length cr).ownBlock := fun e => (hMn _ (.inl (hvM3 _ e.symm).1)) rfl
  have hbO := below_alloc (below_refl W) (.cells #[.int .i64 r.p, .int .i64 r.e, .int .i64 r.t, .int .i64 r.q, .slice pu r.v.length cu] 32)
  have E1 := cell_below c1 hbO
  have E2 := hR6.below hbO
  have F1 := frozen_same f1 (hbO.block p hlt3)
  obtain ⟨d0, d1, d2, d3, d4⟩ := hR6
  refine wpZ_take (i := 0) (v := ?v3_0) rfl (by kernel_rfl) (by kernel_rfl) (by kernel_rfl) (by kernel_rfl) (fun _ _ _ h => h) (Or.inl ⟨by rfl, ?hy3_0⟩) hS ?rest3_0
  case hy3_0 =>
    intro w9 hS9
    (try dsimp only at hS9)
    simp only [at_zero]
    go_simp <;> with_reducible rfl
  simp only [at_zero, Act.put, List.setIfInBounds_toArray, List.set_cons_zero, List.set_cons_succ]
  refine wpZ_take (i := 1) (v := ?v3_1) rfl (by kernel_rfl) (by kernel_rfl) (by kernel_rfl) (by kernel_rfl) (fun _ _ _ h => h) (Or.inl ⟨by rfl, ?hy3_1⟩) hS ?rest3_1
  case hy3_1 =>
    intro w9 hS9
    (try dsimp only at hS9)
    simp only [at_zero, at_succ]
    go_simp <;> with_reducible rfl
  simp only [at_zero, at_succ, Act.put, List.setIfInBounds_toArray, List.set_cons_zero, List.set_cons_succ]
  refine wpZ_take (i := 2) (v := ?v3_2) rfl (by kernel_rfl) (by kernel_rfl) (by kernel_rfl) (by kernel_rfl) (fun _ _ _ h => h) (Or.inl ⟨by rfl, ?hy3_2⟩) hS ?rest3_2
  case hy3_2 =>
    intro w9 hS9
    (try dsimp only at hS9)
    simp only [at_zero, at_succ]
    go_simp <;> with_reducible rfl
  simp only [at_zero, at_succ, Act.put, List.setIfInBounds_toArray, List.set_cons_zero, List.set_cons_succ]
  refine wpZ_take (i := 3) (v := ?v3_3) rfl (by kernel_rfl) (by kernel_rfl) (by kernel_rfl) (by kernel_rfl) (fun _ _ _ h => h) (Or.inl ⟨by rfl, ?hy3_3⟩) hS ?rest3_3
  case hy3_3 =>
    intro w9 hS9
    (try dsimp only at hS9)
    simp only [at_zero, at_succ]
    go_simp <;> with_reducible rfl
  simp only [at_zero, at_succ, Act.put, List.setIfInBounds_toArray, List.set_cons_zero, List.set_cons_succ]
  refine wpZ_take (i := 4) (v := ?v3_4) rfl (by kernel_rfl) (by kernel_rfl) (by kernel_rfl) (by kernel_rfl) (fun _ _ _ h => h) (Or.inl ⟨by rfl, ?hy3_4⟩) hS ?rest3_4
  case hy3_4 =>
    intro w9 hS9
    (try dsimp only at hS9)
    simp only [at_zero, at_succ]
    go_simp <;> with_reducible rfl
  simp only [at_zero, at_succ, Act.put, List.setIfInBounds_toArray, List.set_cons_zero, List.set_cons_succ]
  refine wpZ_take (i := 5) (v := ?u5) rfl (by kernel_rfl) (by kernel_rfl) (by kernel_rfl) (by kernel_rfl) (fun _ _ _ h => h) (Or.inl ⟨by rfl, ?ux5⟩) hS ?ur5
  case ux5 =>
    intro w9 hS9
    obtain ⟨-, k0, k1, k2, k3, k4⟩ := hS9
    simp only [at_zero, at_succ]
    go_simp <;> with_reducible rfl
  simp only [at_zero, at_succ, Act.put, List.setIfInBounds_toArray, List.set_cons_zero, List.set_cons_succ]
  refine wpZ_op (i := 6) (by kernel_rfl) rfl rfl (fun K hK => ?_)
  simp only [at_zero, at_succ]
  go_simp
  refine hK _ _ (fun _ => ⟨E1, E2⟩) ?_
  clear hK K
  refine wpZ_op (i := 7) (by kernel_rfl) rfl rfl (fun K hK => ?_)
  simp only [at_zero, at_succ]
  replace hown : W.ownsRow 0 32 5 (.slice ar s.R.length cr) s.R.length (recCells L) := hown
  refine wp_append_lies _ _ _ _ (by rfl) 0 32 j0 (.agg #[.int .i64 0, .int .i64 0, .int .i64 0, .int .i64 0, .slice none 0 0]) 5 56 Try.underlying35 hj0 hy0 hy1 hy2 rfl (by decide) _ _ _ (by rfl) (hown.alloc _) ⟨W.heap.size, 0, none⟩ 1 1 (recCells [(r, .slice pu r.v.length cu)]) (by rfl) rfl (rec_new W 32 r _) (rec_oneCell _ _ _ _) (by omega) (by unfold maxLen; omega) (by omega) (Nat.zero_le _) (W.heap.size + 1) (by simp) ?_
  intro g2 cap2 w7 hown7 hgrow hat2 hlt7
  have hg3 := grown_trans (World.grownBy_alloc W _ none) hgrow
  have hpO : p < (W.alloc (.cells #[.int .i64 r.p, .int .i64 r.e, .int .i64 r.t, .int .i64 r.q, .slice pu r.v.length cu] 32)).heap.size := by simp; omega
  have hwO : w.heap.size < (W.alloc (.cells #[.int .i64 r.p, .int .i64 r.e, .int .i64 r.t, .int .i64 r.q, .slice pu r.v.length cu] 32)).heap.size := by simp; omega
  have G1 := (hgrow.cell_far ⟨p, 0, none⟩ hpO hne1).trans E1
  have G2 := E2.same (hgrow.block w.heap.size hwO hne2)
  have G5 := (hgrow.frozen_far ⟨p, 0, none⟩ hpO hne1).trans F1
  clear d0 d1 d2 d3 d4 E1 E2 F1 hbO
  refine hK _ _ (fun _ => ⟨G1, G2⟩) ?_
  clear hK K
  refine wpZ_op (i := 8) (by kernel_rfl) rfl rfl (fun K hK => ?_)
  simp only [at_zero, at_succ]
  go_simp
  refine hK _ _ (fun _ => ⟨G1, G2⟩) ?_
  clear hK K
  refine wpZ_op (i := 9) (by kernel_rfl) rfl rfl (fun K hK => ?_)
  simp only [at_zero, at_succ]
  go_simp
  refine hK _ _ (fun _ => ⟨G1, G2⟩) ?_
  clear hK K
  refine wpZ_op (i := 10) (by kernel_rfl) rfl rfl (fun K hK => ?_)
  simp only [at_zero, at_succ]
  go_simp
  refine hK _ _ (fun e => absurd rfl e) ?_
  clear hK K G2
  refine wpZ_done (by kernel_rfl) ?_
  rw [← recCells_append] at hown7
  have hP := hput w7 _ r _ hg3 hown7 (fun g' e => by
    cases e
    rcases hat2 with h | h
    · exact .inl h
    · exact .inr (show W.heap.size ≤ g2 by omega)) hU6 (fun b e => (hUM.out b e).2)
  have hF := (hF6.out.grown hg3 (fun k e => (hM'.out k (hvM3 k e).1).imp id Nat.le_of_lt)).setCell (k := p) (o := 0) (.inl hMp) (.slice (some ⟨g2, 0, none⟩) (s.R.length + 1) cap2)
  have HT : RowKit.Hid (Turned p M V (.tuple #[.int .i64 s.R.length, .int .i64 0]) { s with R := s.R ++ [r] } w (.returned (.tuple #[.int .i64 s.R.length, .int .i64 0])) (w7.setCell ⟨p, 0, none⟩ (.slice (some ⟨g2, 0, none⟩) (s.R.length + 1) cap2))) := Lib.hid ⟨_, _, rfl, hP, hF, fun b hb => by
    have hWw := hF6.out.size
    rcases hb with hb | hb
    · exact (hM'.out b hb).imp id Nat.le_of_lt
    · exact .inr (by omega), fun b hb => hb.imp id (fun e => (hUM.out b e).1)⟩
  clear hP hF hput hgrow hg3 hown7 hown hF6 hUM hvM3 hM' hMn hU6 hat2 hne1 hne2 hs1 hs2 hS G1 G5 c1 f1
  go_wp2_with fail
  go_ret2
  exact HT.out

end Go.Proofs.Ytjjlbancofkinaa
