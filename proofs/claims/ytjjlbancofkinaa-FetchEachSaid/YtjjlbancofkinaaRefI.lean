/-
  The reference's log: Append: a new record of a transaction that is there; Append whole.
-/
import Derived.Test.YtjjlbancofkinaaRefH
namespace Go.Proofs.Ytjjlbancofkinaa
open Go.RowKit

set_option maxRecDepth 100000 in
set_option maxHeartbeats 1600000 in
theorem append11_new2 (w : World) (q : Nat) (s : PL.St) (M V : Nat → Prop) (h : XRep w q s M V) (hOk : PL.Ok s) (_hn : s.S.length ≤ 1099511627776) (r : PL.Rec) (v : Value) (hv : BytesAt w v r.v) (hok : PL.okRec r) (he : s.E r.p = r.e) (hj : s.again r.p r.e r.q < 0) (hqn : r.q = PL.nextOf r.p r.e s.R 0) (hba : s.S.any (PL.bars r) = false) (hfu : s.R.length < 128) (hsp : 0 ≤ s.span r.p r.e r.t) :
    Calls Try.prog 45 #[.pointer (some ⟨q, 0, none⟩), recV r v] w (TurnedX q M V (.tuple #[.int .i64 s.R.length, .int .i64 0]) { s with R := s.R ++ [r] } w) := by
  obtain ⟨xp, xe, xt, xq, xv⟩ := r
  have hvv := Lib.hid hv
  obtain ⟨pv, cv, rfl, hv1, hv2, -⟩ := hv
  have hok' := hok
  unfold PL.okRec PL.okPE PL.okT at hok'
  unfold recV
  rw [hOk.bars_eq] at hba
  have Hqn := Lib.hid hqn
  have Hba := Lib.hid hba
  have Hsp := Lib.hid hsp
  clear hqn hba hsp
  dsimp only at *
  have h1 := in_any xp 0 7
  have h2 := in_any xe 0 100
  have h3 := in_any xt 1 100
  have h4 := in_any xq 0 1048576
  rw [show decide (0 ≤ xp ∧ xp ≤ 7) = true by simp; omega] at h1
  rw [show decide (0 ≤ xe ∧ xe ≤ 100) = true by simp; omega] at h2
  rw [show decide (1 ≤ xt ∧ xt ≤ 100) = true by simp; omega] at h3
  rw [show decide (0 ≤ xq ∧ xq ≤ 1048576) = true by simp; omega] at h4
  have hxe : ¬ xe < 0 := by omega
  have h5 : ¬ 200 < xv.length := by omega
  have g0 : 0 ≤ xp := by omega
  have g1 : xp < 8 := by omega
  have hq0 : 0 ≤ xq := by omega
  have hq1 : xq ≤ 1048576 := by omega
  obtain ⟨k, rfl⟩ : ∃ k : Nat, xp = k := ⟨xp.toNat, by omega⟩
  have hk : k < 8 := by omega
  have hBW0 : Below w.heap.size w (w.alloc (.cells #[.int .i64 k, .int .i64 xe, .int .i64 xt, .int .i64 xq, .slice pv xv.length cv] 32)) := below_alloc (below_refl w) _
  have hX := h.below hBW0
  have hr := recAt_new w 32 ⟨k, xe, xt, xq, xv⟩ (.slice pv xv.length cv)
  have hz4 : (w.alloc (.cells #[.int .i64 k, .int .i64 xe, .int .i64 xt, .int .i64 xq, .slice pv xv.length cv] 32)).frozen? ⟨w.heap.size, 4, none⟩ = false := frozen_alloc w #[.int .i64 k, .int .i64 xe, .int .i64 xt, .int .i64 xq, .slice pv xv.length cv] 32 4
  have HK := Lib.hid hok
  have H := Lib.hid h
  have HX := Lib.hid hX
  have HR := Lib.hid hr
  clear hok hok' h hX hr
  go_enter Try.func45, Try.ntmps45
  go_wp2_with fail
  refine (h1 _).mono ?_
  rintro x w1 ⟨rfl, rfl⟩
  go_wp2_with fail
  refine (h2 _).mono ?_
  rintro x w1 ⟨rfl, rfl⟩
  go_wp2_with fail
  refine (h3 _).mono ?_
  rintro x w1 ⟨rfl, rfl⟩
  go_wp2_with fail
  refine (h4 _).mono ?_
  rintro x w1 ⟨rfl, rfl⟩
  clear h1 h2 h3 h4
  go_wp2_with fail
  generalize (w.alloc (.cells #[.int .i64 k, .int .i64 xe, .int .i64 xt, .int .i64 xq, .slice pv xv.length cv] 32)) = W0 at *
  refine wp_region_still_tail 7 (by kernel_rfl) (by kernel_rfl) ?_
  simp only [List.take_succ_cons, List.take_zero, List.drop_succ_cons, List.drop_zero]
  change wpStill _ _ W0.drew (fun a' => wpList _ _ _ _ a' W0.drew) _ _
  have hBW := below_drew hBW0
  replace HX := Lib.hid HX.out.drew
  replace hz4 : W0.drew.frozen? ⟨w.heap.size, 4, none⟩ = false := hz4
  have hr : RecAt W0.drew w.heap.size 0 ⟨k, xe, xt, xq, xv⟩ (.slice pv xv.length cv) := HR.out
  clear HR hBW0
  generalize W0.drew = W at *
  obtain ⟨d0, d1, d2, d3, d4⟩ := hr
  have c2 : W.cell? ⟨q, 2 + k, none⟩ = some (.int .i64 xe) := by rw [← he]; obtain ⟨_, _, _, _, ce, _⟩ := HX.out.opened; exact ce k hk
  repeat still_step
  refine wpStill_nil ?_
  dsimp only at *
  clear c2
  have hnext := next11_any W q s M V HX.out hOk.seqs k xe xq
  have hspan := span11_any W q s M V HX.out k xe xt
  have hoth := other11_any W q s M V HX.out k xe xt
  rw [hOk.last_again] at hnext
  have hbd := PL.again_bd s k xe xq
  have hj1 : s.again k xe xq = -1 := by omega
  rw [hj1] at hnext
  have hsb := PL.span_bd s k xe xt
  obtain ⟨x, hx, -⟩ := PL.span_at s k xe xt Hsp.out
  have hkd := PL.kind_of_some Hsp.out hx
  obtain ⟨i, hi⟩ : ∃ i : Nat, s.span k xe xt = i := ⟨(s.span k xe xt).toNat, by have := Hsp.out; omega⟩
  rw [hi, Int.toNat_natCast] at hx
  rw [hi] at hspan
  have hil : i < s.S.length := (List.getElem?_eq_some_iff.1 hx).1
  have hba := Hba.out
  rw [Bool.or_eq_false_iff] at hba
  rw [hba.2] at hoth
  have hk0 : x.k = 0 := by have := hba.1; rw [hkd] at this; simpa using this
  have hk0' := bne_f hk0
  rw [← Hqn.out] at hnext
  obtain ⟨vr, vs, c0, c1, -, -, hR, hS⟩ := HX.out.opened
  obtain ⟨ar, cr, rfl, hr1, hr2, -⟩ := hR
  obtain ⟨sa, cs, rfl, hs1, hs2, hs3⟩ := hS
  obtain ⟨b9, o9, rfl, hat⟩ := hs3 _ _ hx
  obtain ⟨z0, z1, z2, z3, z4⟩ := hat
  have He := Lib.hid he
  clear he hj hj1 hbd hsb hba hs3 hi hkd hk0 hx
  go_wp2_with fail
  refine hnext.mono ?_
  rintro y w1 ⟨rfl, rfl⟩
  go_wp2_with fail
  refine hspan.mono ?_
  rintro y w1 ⟨rfl, rfl⟩
  go_wp2_with fail
  refine hoth.mono ?_
  rintro y w1 ⟨rfl, rfl⟩
  clear hoth hspan hnext z0 z1 z2 z3 z4 hk0' c1 hs1 hs2
  obtain ⟨b0, hb0, hb1, hb2, hb3⟩ := info_parts Try.infoByte
  have hwW := lt_of_cell d0
  have hqW := lt_of_cell c0
  simp only [Nat.zero_add] at d1 d2 d3 d4
  have hsrc := (source_of_bytes (hvv.out.below hBW)).same (below_alloc (below_refl W) (.cells #[] 5))
  have hem := Empty.made W 5 (Nat.le_refl W.heap.size)
  go_wp2_with (at_builtin; refine wpList_append_fresh rfl _ _ _ rfl W.heap.size 5 b0 (.int .u8 0) 1 1 Try.underlying30 hb0 hb1 hb2 hb3 rfl (by decide) _ _ xv.length ((nums xv).map (Value.int .u8)) (by rfl) (by rfl) hem hsrc (by simp [nums]) (oneCell_int _ _) (by omega) (by unfold maxLen; omega) (by simp) ?_)
  intro v2 w2 hown2 hb2
  have hbb := (below_alloc (below_refl W) (.cells #[] 5)).trans (hb2.mono (by omega))
  have hU2 : BytesAt w2 v2 xv := bytes_of_owns hown2
  have hUb := fun b (e : Value.blk v2 = some b) => (owns_blk hown2 e).1
  have hUi := isBytes_owns hown2
  obtain ⟨a2, k2, rfl, -, -, -, -⟩ := owns_form hown2
  have c4 := cell_below d4 hbb
  have f4 := frozen_same hz4 (hbb.block w.heap.size hwW)
  have hr2' : RecAt w2 w.heap.size 0 ⟨k, xe, xt, xq, xv⟩ (.slice pv xv.length cv) := RecAt.below ⟨d0, d1, d2, d3, d4⟩ hbb
  have HB2 := Lib.hid (hBW.trans (hbb.mono hBW.size))
  have HU2 := Lib.hid hU2
  have HUb := Lib.hid (fun b e => Nat.lt_of_lt_of_le hwW (hUb b e))
  have HUi := Lib.hid hUi
  clear d0 d1 d2 d3 d4 hz4 c0 hr1 hr2 hsrc hem hown2 hb2 hbb hU2 hUb hUi
  go_wp2_with fail
  have hqw : ∀ b, M b ∨ V b → b ≠ w.heap.size := fun b hb e => by have := H.out.bound b hb; omega
  have hB3 : Below w.heap.size w (w2.setCell ⟨w.heap.size, 4, none⟩ (.slice a2 xv.length k2)).drew := below_drew (below_set HB2.out (Nat.le_refl _) _)
  have hX3 := H.out.below hB3
  obtain ⟨e0, e1, e2, e3, e4⟩ := hr2'
  have hR3 : RecAt (w2.setCell ⟨w.heap.size, 4, none⟩ (.slice a2 xv.length k2)).drew w.heap.size 0 ⟨k, xe, xt, xq, xv⟩ (.slice a2 xv.length k2) :=
    ⟨(World.cell?_setCell_other _ _ _ _ (by simp)).trans e0, (World.cell?_setCell_other _ _ _ _ (by simp)).trans e1, (World.cell?_setCell_other _ _ _ _ (by simp)).trans e2, (World.cell?_setCell_other _ _ _ _ (by simp)).trans e3, World.cell?_setCell_same _ _ _ e4⟩
  have hU3 : BytesAt (w2.setCell ⟨w.heap.size, 4, none⟩ (.slice a2 xv.length k2)).drew (.slice a2 xv.length k2) xv := HU2.out.same (fun b e => heap_setCell_ne (by have := HUb.out b e; omega))
  have hUM : ∀ b, Value.blk (.slice a2 xv.length k2) = some b → ¬ M b := fun b e hb => by have := HUb.out b e; have := H.out.bound b (.inl hb); omega
  obtain ⟨vr, L, x0, hown, hLm, hLs, hput⟩ := hX3.rec_put
  obtain ⟨ar, cr, rfl, hs1, hs2, hs3, hs4⟩ := owns_form hown
  have hS : (fun w' : World => w'.cell? ⟨q, 0, none⟩ = some (.slice ar L.length cr) ∧ RecAt w' w.heap.size 0 ⟨k, xe, xt, xq, xv⟩ (.slice a2 xv.length k2)) (w2.setCell ⟨w.heap.size, 4, none⟩ (.slice a2 xv.length k2)).drew := ⟨x0, hR3⟩
  refine region_wpZ 12 (fun w' => w'.cell? ⟨q, 0, none⟩ = some (.slice ar L.length cr) ∧ RecAt w' w.heap.size 0 ⟨k, xe, xt, xq, xv⟩ (.slice a2 xv.length k2)) (by kernel_rfl) ?_
  clear e0 e1 e2 e3 e4 hs3 hs4 c4 f4 HX hBW hwW hqW HU2 HUi
  generalize (w2.setCell ⟨w.heap.size, 4, none⟩ (.slice a2 xv.length k2)).drew = W3 at *
  obtain ⟨j0, hj0, hy0, hy1, hy2⟩ := info_parts Try.infoRec
  have hwl := lt_of_cell hR3.1
  have hql := lt_of_cell x0
  obtain ⟨d0, d1, d2, d3, d4⟩ := hR3
  have hLl : L.length = s.R.length := by rw [← hLm, List.length_map]
  have hLl' : L.length < 128 := by omega
  have HLl := Lib.hid hLl
  clear hLl
  refine wpZ_take (i := 0) (v := ?v1_0) rfl (by kernel_rfl) (by kernel_rfl) (by kernel_rfl) (by kernel_rfl) (fun _ _ _ h => h) (Or.inl ⟨by rfl, ?hy1_0⟩) hS ?rest1_0
  case hy1_0 =>
    intro w9 hS9
    (try dsimp only at hS9)
    simp only [at_zero]
    go_simp <;> with_reducible rfl
  simp only [at_zero, Act.put, List.setIfInBounds_toArray, List.set_cons_zero, List.set_cons_succ]
  refine wpZ_take (i := 2) (v := ?v1_2) rfl (by kernel_rfl) (by kernel_rfl) (by kernel_rfl) (by kernel_rfl) (fun _ _ _ h => h) (Or.inl ⟨by rfl, ?hy1_2⟩) hS ?rest1_2
  case hy1_2 =>
    intro w9 hS9
    (try dsimp only at hS9)
    simp only [at_zero, at_succ]
    go_simp <;> with_reducible rfl
  simp only [at_zero, at_succ, Act.put, List.setIfInBounds_toArray, List.set_cons_zero, List.set_cons_succ]
  refine wpZ_take (i := 3) (v := ?v1_3) rfl (by kernel_rfl) (by kernel_rfl) (by kernel_rfl) (by kernel_rfl) (fun _ _ _ h => h) (Or.inl ⟨by rfl, ?hy1_3⟩) hS ?rest1_3
  case hy1_3 =>
    intro w9 hS9
    (try dsimp only at hS9)
    simp only [at_zero, at_succ]
    go_simp <;> with_reducible rfl
  simp only [at_zero, at_succ, Act.put, List.setIfInBounds_toArray, List.set_cons_zero, List.set_cons_succ]
  refine wpZ_take (i := 4) (v := ?v1_4) rfl (by kernel_rfl) (by kernel_rfl) (by kernel_rfl) (by kernel_rfl) (fun _ _ _ h => h) (Or.inl ⟨by rfl, ?hy1_4⟩) hS ?rest1_4
  case hy1_4 =>
    intro w9 hS9
    (try dsimp only at hS9)
    simp only [at_zero, at_succ]
    go_simp <;> with_reducible rfl
  simp only [at_zero, at_succ, Act.put, List.setIfInBounds_toArray, List.set_cons_zero, List.set_cons_succ]
  refine wpZ_take (i := 5) (v := ?v1_5) rfl (by kernel_rfl) (by kernel_rfl) (by kernel_rfl) (by kernel_rfl) (fun _ _ _ h => h) (Or.inl ⟨by rfl, ?hy1_5⟩) hS ?rest1_5
  case hy1_5 =>
    intro w9 hS9
    (try dsimp only at hS9)
    simp only [at_zero, at_succ]
    go_simp <;> with_reducible rfl
  simp only [at_zero, at_succ, Act.put, List.setIfInBounds_toArray, List.set_cons_zero, List.set_cons_succ]
  refine wpZ_take (i := 7) (v := ?u7) rfl (by kernel_rfl) (by kernel_rfl) (by kernel_rfl) (by kernel_rfl) (fun _ _ _ h => h) (Or.inl ⟨by rfl, ?ux7⟩) hS ?ur7
  case ux7 =>
    intro w9 hS9
    obtain ⟨-, k0, k1, k2, k3, k4⟩ := hS9
    simp only [at_zero, at_succ]
    go_simp <;> with_reducible rfl
  simp only [at_zero, at_succ, Act.put, List.setIfInBounds_toArray, List.set_cons_zero, List.set_cons_succ]
  refine wpZ_three (n := 4) 1 6 8 rfl rfl rfl rfl rfl rfl (by decide) (by decide) (by decide) 148 153 155 (by decide) (by decide) (by kernel_rfl) (by kernel_rfl) (by kernel_rfl) (by kernel_rfl) (by kernel_rfl)
    (fun v W' => Empty W' W3.heap.size 32 v) (fun v W' => W'.ownsRow W3.heap.size 32 5 v L.length (recCells L))
    (fun v W' => ∃ g, v = .slice (some ⟨g, 0, none⟩) 1 1 ∧ ∀ j u, (recCells [(⟨k, xe, xt, xq, xv⟩, .slice a2 xv.length k2)])[j]? = some u → W'.cell? ((⟨g, 0, none⟩ : Addr).add j) = some u)
    (fun v W W' h hb => h.same hb) (fun v W W' h hb => owns_same h fun b e => hb.block b (h.lt b e).2) ?m3 (fun W hb => ⟨cell_below x0 hb, RecAt.below ⟨d0, d1, d2, d3, d4⟩ hb⟩) ?s1 ?s2 ?s3 ?fin
  case m3 =>
    rintro v W W' ⟨g, rfl, h⟩ hb
    refine ⟨g, rfl, fun j u hu => ?_⟩
    have h' := h j u hu
    rw [World.cell?_of_block (w := W) (a := (⟨g, 0, none⟩ : Addr).add j) (hb.block _ (World.block_lt_of_cell? W _ h'))]
    exact h'
  case s1 =>
    intro a' W K hb hK
    simp only [at_zero, at_succ]
    go_simp
    exact hK _ _ (Empty.made _ _ (by have := hb.size; omega)) (below_alloc (below_refl _) _)
  case s2 =>
    intro a' W K v hb h1 ha hK
    simp only [at_zero, at_succ]
    refine wp_append_fresh _ _ _ (by rfl) W3.heap.size 32 j0 (.agg #[.int .i64 0, .int .i64 0, .int .i64 0, .int .i64 0, .slice none 0 0]) 5 56 Try.underlying35 hj0 hy0 hy1 hy2 rfl (by decide) v (.slice ar L.length cr) L.length (recCells L) (by rcases ha with rfl | ⟨v3, rfl⟩ <;> rfl) (by rcases ha with rfl | ⟨v3, rfl⟩ <;> rfl) h1 ((source_of_owns hown).same hb) (flat5_length _ (fun _ => rfl) L) (rec_oneCells hLs) (by omega) (by unfold maxLen; omega) (by have := hb.size; omega) (fun v' w' h2 h3 => hK v' w' h2 h3)
  case s3 =>
    intro a' W K hb ha hK
    simp only [at_zero, at_succ]
    rcases ha with rfl | ⟨v, rfl⟩ | ⟨v, v2, rfl⟩
    all_goals
      (try simp only [Act.put, List.setIfInBounds_toArray, List.set_cons_zero, List.set_cons_succ])
      go_simp
      exact hK _ _ ⟨_, rfl, rec_new W 32 ⟨k, xe, xt, xq, xv⟩ _⟩ (below_alloc (below_refl _) _)
  case fin =>
    rintro v1 v2 v3 W5 - h2 ⟨g5, rfl, h3⟩ hb5
    have x0' := cell_below x0 hb5
    have hR5 : RecAt W5 w.heap.size 0 ⟨k, xe, xt, xq, xv⟩ (.slice a2 xv.length k2) := RecAt.below ⟨d0, d1, d2, d3, d4⟩ hb5
    obtain ⟨a5, c5, rfl, q1, q2, q3, q4⟩ := owns_form h2
    simp only [Act.put, List.setIfInBounds_toArray, List.set_cons_zero, List.set_cons_succ]
    refine wpZ_op (i := 9) (by kernel_rfl) rfl rfl (fun K hK => ?_)
    simp only [at_zero, at_succ]
    refine wp_append_lies _ _ _ _ (by rfl) W3.heap.size 32 j0 (.agg #[.int .i64 0, .int .i64 0, .int .i64 0, .int .i64 0, .slice none 0 0]) 5 56 Try.underlying35 hj0 hy0 hy1 hy2 rfl (by decide) _ _ _ (by rfl) h2 ⟨g5, 0, none⟩ 1 1 (recCells [(⟨k, xe, xt, xq, xv⟩, .slice a2 xv.length k2)]) (by rfl) rfl h3 (rec_oneCell _ _ _ _) (by omega) (by unfold maxLen; omega) (by omega) (by have := hb5.size; omega) W5.heap.size rfl ?_
    intro g6 cap6 w6 hown6 hgrow hat6 hlt6
    rw [← recCells_append] at hown6
    have hBW6 : Below W3.heap.size W3 w6 := hb5.grown hgrow hb5.size (fun b e => (h2.lt b e).1)
    have hX6 := hput w6 (.slice (some ⟨g6, 0, none⟩) (L.length + 1) cap6) ⟨k, xe, xt, xq, xv⟩ (.slice a2 xv.length k2) hBW6 hown6 hU3 hUM
    have x6 := cell_same x0 (hBW6.block q hql)
    have f6 : w6.frozen? ⟨q, 0, none⟩ = false := by obtain ⟨_, _, _, _, _, fz, _⟩ := hX3.opened; exact frozen_same (fz 0) (hBW6.block q hql)
    have hR6 : RecAt w6 w.heap.size 0 ⟨k, xe, xt, xq, xv⟩ (.slice a2 xv.length k2) := RecAt.same ⟨d0, d1, d2, d3, d4⟩ (hBW6.block w.heap.size hwl)
    refine hK _ _ (fun _ => ⟨x6, hR6⟩) ?_
    clear hK K
    refine wpZ_op (i := 10) (by kernel_rfl) rfl rfl (fun K hK => ?_)
    simp only [at_zero, at_succ]
    go_simp
    refine hK _ _ (fun _ => ⟨x6, hR6⟩) ?_
    clear hK K
    refine wpZ_op (i := 11) (by kernel_rfl) rfl rfl (fun K hK => ?_)
    simp only [at_zero, at_succ]
    go_simp
    refine hK _ _ (fun _ => ⟨x6, hR6⟩) ?_
    clear hK K
    refine wpZ_op (i := 12) (by kernel_rfl) rfl rfl (fun K hK => ?_)
    simp only [at_zero, at_succ]
    go_simp
    refine hK _ _ (fun e => absurd rfl e) ?_
    clear hK K
    refine wpZ_done (by kernel_rfl) ?_
    have hMq := H.out.self
    have hqw' : w.heap.size ≠ q := fun e => hqw q (.inl hMq) e.symm
    have hRF := hR6.same (heap_setCell_ne (W := w6) (b := q) (k := w.heap.size) hqw' : (w6.setCell ⟨q, 0, none⟩ (.slice (some ⟨g6, 0, none⟩) (L.length + 1) cap6)).heap[w.heap.size]? = _)
    have hF6 : Fr M w (w6.setCell ⟨q, 0, none⟩ (.slice (some ⟨g6, 0, none⟩) (L.length + 1) cap6)) := (Fr.of_below (hB3.trans (hBW6.mono hB3.size))).setCell (.inl hMq) _
    have hM6 : ∀ b, (M b ∨ W3.heap.size ≤ b ∧ (Value.slice (some ⟨g6, 0, none⟩) (L.length + 1) cap6).ownBlock = some b) → M b ∨ w.heap.size ≤ b := fun b hb => hb.imp id (fun h => by have := hB3.size; omega)
    have hV6 : ∀ b, (V b ∨ Value.blk (.slice a2 xv.length k2) = some b) → V b ∨ w.heap.size ≤ b := fun b hb => hb.imp id (fun h => by have := HUb.out b h; omega)
    obtain ⟨M6, V6, hX6', hM6', hV6'⟩ : ∃ M6 V6 : Nat → Prop, XRep (w6.setCell ⟨q, 0, none⟩ (.slice (some ⟨g6, 0, none⟩) (L.length + 1) cap6)) q { s with R := s.R ++ [⟨k, xe, xt, xq, xv⟩] } M6 V6 ∧ RowKit.Hid (∀ b, M6 b → M b ∨ w.heap.size ≤ b) ∧ RowKit.Hid (∀ b, V6 b → V b ∨ w.heap.size ≤ b) := ⟨_, _, hX6, Lib.hid hM6, Lib.hid hV6⟩
    have HF6 := Lib.hid hF6
    have HX6 := Lib.hid hX6'
    clear hX6 hX6' hM6 hV6 hF6 hput hgrow hown6 hBW6 x6 f6 hR6 hat6 hlt6 hb5 h2 h3 x0' hR5 q1 q2 q3 q4 d0 d1 d2 d3 d4 x0 hown hS hX3 hB3 hU3 hUM
    generalize w6.setCell ⟨q, 0, none⟩ (.slice (some ⟨g6, 0, none⟩) (L.length + 1) cap6) = W7 at *
    obtain ⟨vr9, x0, hR9⟩ : ∃ vr9, W7.cell? ⟨q, 0, none⟩ = some vr9 ∧ RecsAt W7 vr9 (s.R ++ [⟨k, xe, xt, xq, xv⟩]) := by
      obtain ⟨a, b, c, d, e, f, g, i⟩ := HX6.out.opened
      exact ⟨a, c, g⟩
    obtain ⟨pr9, cr9, rfl, hr9, hr10, -⟩ := hR9
    rw [List.length_append, List.length_singleton] at x0 hr9
    clear hRF
    go_wp2_with fail
    go_ret2
    exact ⟨M6, V6, rfl, HX6.out, HF6.out, hM6'.out, hV6'.out⟩

theorem append11_any (w : World) (q : Nat) (s : PL.St) (M V : Nat → Prop) (h : XRep w q s M V) (hOk : PL.Ok s) (hn : s.S.length ≤ 1099511627776) (r : PL.Rec) (v : Value) (hv : BytesAt w v r.v) :
    Calls Try.prog 45 #[.pointer (some ⟨q, 0, none⟩), recV r v] w (TurnedX q M V (.tuple #[.int .i64 (s.append r).1, .int .i64 (s.append r).2.1]) (s.append r).2.2 w) := by
  unfold PL.St.append
  by_cases hok : ¬ PL.okRec r
  · rw [if_pos hok]; exact append11_bad w q s M V h r v hv hok
  rw [if_neg hok]
  replace hok : PL.okRec r := Decidable.byContradiction hok
  by_cases h1 : s.E r.p < 0
  · rw [if_pos h1]; exact append11_ep w q s M V h r v hv hok 4 (.inl ⟨h1, rfl⟩)
  rw [if_neg h1]
  by_cases h2 : r.e < s.E r.p
  · rw [if_pos h2]; exact append11_ep w q s M V h r v hv hok 5 (.inr (.inl ⟨by omega, h2, rfl⟩))
  rw [if_neg h2]
  by_cases h3 : s.E r.p < r.e
  · rw [if_pos h3]; exact append11_ep w q s M V h r v hv hok 6 (.inr (.inr ⟨by omega, h3, rfl⟩))
  rw [if_neg h3]
  have he : s.E r.p = r.e := by omega
  simp only
  by_cases h4 : 0 ≤ s.again r.p r.e r.q
  · rw [if_pos h4]
    obtain ⟨x, hx, -⟩ := PL.again_at s r.p r.e r.q h4
    have hgd : s.R.getD (s.again r.p r.e r.q).toNat r = x := by rw [List.getD_eq_getElem?_getD, hx]; rfl
    obtain ⟨j, hj⟩ : ∃ j : Nat, s.again r.p r.e r.q = j := ⟨(s.again r.p r.e r.q).toNat, by omega⟩
    rw [hgd]
    rw [hj, Int.toNat_natCast] at hx
    by_cases hb : x.t ≠ r.t ∨ x.v ≠ r.v
    · rw [if_pos hb]
      exact append11_again w q s M V h hOk r v hv hok he j x hx hj 0 1 (Lib.hid (by rw [if_pos hb]; exact ⟨rfl, rfl⟩))
    · rw [if_neg hb, hj]
      exact append11_again w q s M V h hOk r v hv hok he j x hx hj j 0 (Lib.hid (by rw [if_neg hb]; exact ⟨rfl, rfl⟩))
  rw [if_neg h4]
  by_cases h5 : r.q ≠ PL.nextOf r.p r.e s.R 0
  · rw [if_pos h5]; exact append11_unfit w q s M V h hOk r v hv hok he (by omega) 8 (.inl ⟨h5, rfl⟩)
  rw [if_neg h5]
  replace h5 := Decidable.of_not_not h5
  by_cases h6 : s.S.any (PL.bars r) = true
  · rw [if_pos h6]; exact append11_unfit w q s M V h hOk r v hv hok he (by omega) 6 (.inr (.inl ⟨h5, h6, rfl⟩))
  rw [if_neg h6]
  replace h6 : s.S.any (PL.bars r) = false := by simpa using h6
  by_cases h7 : 128 ≤ s.R.length
  · rw [if_pos h7]; exact append11_unfit w q s M V h hOk r v hv hok he (by omega) 3 (.inr (.inr ⟨h5, h6, h7, rfl⟩))
  rw [if_neg h7]
  by_cases h8 : s.span r.p r.e r.t < 0
  · rw [if_pos h8]; exact append11_new1 w q s M V h hOk hn r v hv hok he (by omega) h5 h6 (by omega) h8
  · rw [if_neg h8]; exact append11_new2 w q s M V h hOk hn r v hv hok he (by omega) h5 h6 (by omega) (by omega)

end Go.Proofs.Ytjjlbancofkinaa
