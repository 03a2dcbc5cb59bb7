/-
  The reference's log: Append: a new record.
-/
import Derived.Test.YtjjlbancofkinaaRefG
namespace Go.Proofs.Ytjjlbancofkinaa
open Go.RowKit

theorem XRep.rec_put {W : World} {q : Nat} {s : PL.St} {M V : Nat → Prop} (h : XRep W q s M V) :
    ∃ vr L, W.cell? ⟨q, 0, none⟩ = some vr ∧ W.ownsRow 0 32 5 vr L.length (recCells L) ∧ L.map (·.1) = s.R ∧ (∀ x ∈ L, ∃ a n c, x.2 = .slice a n c) ∧
      ∀ W' vr' r u, Below W.heap.size W W' → W'.ownsRow W.heap.size 32 5 vr' (L.length + 1) (recCells (L ++ [(r, u)])) → BytesAt W u r.v → (∀ b, Value.blk u = some b → ¬ M b) →
        XRep (W'.setCell ⟨q, 0, none⟩ vr') q { s with R := s.R ++ [r] } (fun b => M b ∨ W.heap.size ≤ b ∧ vr'.ownBlock = some b) (fun b => V b ∨ Value.blk u = some b) := by
  obtain ⟨vr, vs, L, h1, h2, h3, h4, h7, h8, h10, h11, h12, h13⟩ := h
  refine ⟨vr, L, by simp [World.cell?, h1, xCells], h2, h3, fun x hx => ?_, fun W' vr' r u hb hw hu hun => ?_⟩
  · obtain ⟨p, c, e, -⟩ := (h7 x hx).1
    exact ⟨p, _, c, e⟩
  have hz : (W'.setCell ⟨q, 0, none⟩ vr').heap.size = W'.heap.size := by simp [World.setCell]
  have hq' : W'.heap[q]? = some (.cells (xCells vr vs s.E) 45 (0, 0)) := (hb.block q (h13 q (.inl h8))).trans h1
  have hk : ∀ k, k < W.heap.size → k ≠ q → (W'.setCell ⟨q, 0, none⟩ vr').heap[k]? = W.heap[k]? := fun k hk hn => by
    rw [heap_setCell_ne hn]; exact hb.block k hk
  have hvs : ∀ b, vr'.ownBlock = some b → W.heap.size ≤ b ∧ b < W'.heap.size := fun b e => hw.lt b e
  have hql := h13 q (.inl h8)
  have hval : ∀ v bs, BytesAt W v bs → (∀ b, Value.blk v = some b → ¬ M b) → BytesAt (W'.setCell ⟨q, 0, none⟩ vr') v bs := fun v bs hv hn =>
    hv.same fun b e => hk b (hv.lt e) (fun e' => hn b e (e' ▸ h8))
  refine ⟨vr', vs, L ++ [(r, u)], ?_, ?_, by simp [h3], owns_same h4 fun b e => hk b (h13 b (.inl (h11 b e).1)) (h11 b e).2,
    fun x hx => ?_, .inl h8, fun b e => ⟨.inr ⟨(hvs b e).1, e⟩, by have := hvs b e; omega⟩, fun b e => ⟨.inl (h11 b e).1, (h11 b e).2⟩, ?_, ?_⟩
  · rw [heap_setCell_self hq']; rfl
  · rw [List.length_append]
    refine owns_same ?_ fun b e => heap_setCell_ne (by have := hvs b e; omega)
    obtain ⟨hl, hw2⟩ := hw
    refine ⟨hl, ?_⟩
    rcases hw2 with h' | ⟨g, cap, cur, e1, e2, e3⟩
    · exact .inl h'
    · exact .inr ⟨g, cap, cur, e1, Nat.zero_le _, e3⟩
  · rcases List.mem_append.1 hx with hx | hx
    · exact ⟨hval _ _ (h7 x hx).1 (fun b e hb => h12 b hb ((h7 x hx).2 b e)), fun b e => .inl ((h7 x hx).2 b e)⟩
    · simp at hx; subst hx
      exact ⟨hval _ _ hu hun, fun b e => .inr e⟩
  · rintro b (h' | ⟨h', _⟩) (hv | hv)
    · exact h12 b h' hv
    · exact hun b hv h'
    · have := h13 b (.inr hv); omega
    · have := hu.lt hv; omega
  · intro b hb'
    rw [hz]
    rcases hb' with (h' | ⟨_, h'⟩) | (h' | h')
    · exact Nat.lt_of_lt_of_le (h13 b (.inl h')) hb.size
    · exact (hvs b h').2
    · exact Nat.lt_of_lt_of_le (h13 b (.inr h')) hb.size
    · exact Nat.lt_of_lt_of_le (hu.lt h') hb.size

theorem rec_oneCells {L : List (PL.Rec × Value)} (h : ∀ x ∈ L, ∃ a n c, x.2 = .slice a n c) : ∀ u ∈ recCells L, u.oneCell' = true := by
  intro u hu
  obtain ⟨x, hx, hxu⟩ := List.mem_flatMap.1 hu
  obtain ⟨a, n, c, e⟩ := h x hx
  rw [e] at hxu
  simp at hxu
  rcases hxu with rfl | rfl | rfl | rfl | rfl <;> rfl

set_option maxRecDepth 100000 in
set_option maxHeartbeats 1600000 in
theorem append11_new1 (w : World) (q : Nat) (s : PL.St) (M V : Nat → Prop) (h : XRep w q s M V) (hOk : PL.Ok s) (hn : s.S.length ≤ 1099511627776) (r : PL.Rec) (v : Value) (hv : BytesAt w v r.v) (hok : PL.okRec r) (he : s.E r.p = r.e) (hj : s.again r.p r.e r.q < 0) (hqn : r.q = PL.nextOf r.p r.e s.R 0) (hba : s.S.any (PL.bars r) = false) (hfu : s.R.length < 128) (hsp : s.span r.p r.e r.t < 0) :
    Calls Try.prog 45 #[.pointer (some ⟨q, 0, none⟩), recV r v] w (TurnedX q M V (.tuple #[.int .i64 s.R.length, .int .i64 0]) { s with R := s.R ++ [r], S := s.S ++ [⟨r.p, r.e, r.t, s.R.length, 0⟩] } w) := by
  obtain ⟨xp, xe, xt, xq, xv⟩ := r
  have hvv := Lib.hid hv
  obtain ⟨pv, cv, rfl, hv1, hv2, -⟩ := hv
  have hok' := hok
  unfold PL.okRec PL.okPE PL.okT at hok'
  unfold recV
  rw [hOk.bars_eq] at hba
  have Hqn := Lib.hid hqn
  have Hba := Lib.hid hba
  have Hsp := Lib.hid hsp
  clear hqn hba hsp
  dsimp only at *
  have h1 := in_any xp 0 7
  have h2 := in_any xe 0 100
  have h3 := in_any xt 1 100
  have h4 := in_any xq 0 1048576
  rw [show decide (0 ≤ xp ∧ xp ≤ 7) = true by simp; omega] at h1
  rw [show decide (0 ≤ xe ∧ xe ≤ 100) = true by simp; omega] at h2
  rw [show decide (1 ≤ xt ∧ xt ≤ 100) = true by simp; omega] at h3
  rw [show decide (0 ≤ xq ∧ xq ≤ 1048576) = true by simp; omega] at h4
  have hxe : ¬ xe < 0 := by omega
  have h5 : ¬ 200 < xv.length := by omega
  have g0 : 0 ≤ xp := by omega
  have g1 : xp < 8 := by omega
  have hq0 : 0 ≤ xq := by omega
  have hq1 : xq ≤ 1048576 := by omega
  obtain ⟨k, rfl⟩ : ∃ k : Nat, xp = k := ⟨xp.toNat, by omega⟩
  have hk : k < 8 := by omega
  have hBW0 : Below w.heap.size w (w.alloc (.cells #[.int .i64 k, .int .i64 xe, .int .i64 xt, .int .i64 xq, .slice pv xv.length cv] 32)) := below_alloc (below_refl w) _
  have hX := h.below hBW0
  have hr := recAt_new w 32 ⟨k, xe, xt, xq, xv⟩ (.slice pv xv.length cv)
  have hz4 : (w.alloc (.cells #[.int .i64 k, .int .i64 xe, .int .i64 xt, .int .i64 xq, .slice pv xv.length cv] 32)).frozen? ⟨w.heap.size, 4, none⟩ = false := frozen_alloc w #[.int .i64 k, .int .i64 xe, .int .i64 xt, .int .i64 xq, .slice pv xv.length cv] 32 4
  have HK := Lib.hid hok
  have H := Lib.hid h
  have HX := Lib.hid hX
  have HR := Lib.hid hr
  clear hok hok' h hX hr
  go_enter Try.func45, Try.ntmps45
  go_wp2_with fail
  refine (h1 _).mono ?_
  rintro x w1 ⟨rfl, rfl⟩
  go_wp2_with fail
  refine (h2 _).mono ?_
  rintro x w1 ⟨rfl, rfl⟩
  go_wp2_with fail
  refine (h3 _).mono ?_
  rintro x w1 ⟨rfl, rfl⟩
  go_wp2_with fail
  refine (h4 _).mono ?_
  rintro x w1 ⟨rfl, rfl⟩
  clear h1 h2 h3 h4
  go_wp2_with fail
  generalize (w.alloc (.cells #[.int .i64 k, .int .i64 xe, .int .i64 xt, .int .i64 xq, .slice pv xv.length cv] 32)) = W0 at *
  refine wp_region_still_tail 7 (by kernel_rfl) (by kernel_rfl) ?_
  simp only [List.take_succ_cons, List.take_zero, List.drop_succ_cons, List.drop_zero]
  change wpStill _ _ W0.drew (fun a' => wpList _ _ _ _ a' W0.drew) _ _
  have hBW := below_drew hBW0
  replace HX := Lib.hid HX.out.drew
  replace hz4 : W0.drew.frozen? ⟨w.heap.size, 4, none⟩ = false := hz4
  have hr : RecAt W0.drew w.heap.size 0 ⟨k, xe, xt, xq, xv⟩ (.slice pv xv.length cv) := HR.out
  clear HR hBW0
  generalize W0.drew = W at *
  obtain ⟨d0, d1, d2, d3, d4⟩ := hr
  have c2 : W.cell? ⟨q, 2 + k, none⟩ = some (.int .i64 xe) := by rw [← he]; obtain ⟨_, _, _, _, ce, _⟩ := HX.out.opened; exact ce k hk
  repeat still_step
  refine wpStill_nil ?_
  dsimp only at *
  clear c2
  have hnext := next11_any W q s M V HX.out hOk.seqs k xe xq
  have hspan := span11_any W q s M V HX.out k xe xt
  have hoth := other11_any W q s M V HX.out k xe xt
  rw [hOk.last_again] at hnext
  have hbd := PL.again_bd s k xe xq
  have hj1 : s.again k xe xq = -1 := by omega
  rw [hj1] at hnext
  have hsb := PL.span_bd s k xe xt
  have hs1 : s.span k xe xt = -1 := by have := Hsp.out; omega
  rw [hs1] at hspan
  have hba := Hba.out
  rw [Bool.or_eq_false_iff] at hba
  rw [hba.2] at hoth
  rw [← Hqn.out] at hnext
  obtain ⟨vr, vs, c0, c1, -, -, hR, hS⟩ := HX.out.opened
  obtain ⟨ar, cr, rfl, hr1, hr2, -⟩ := hR
  have He := Lib.hid he
  clear he hj hj1 hbd hsb hs1 hba hS
  go_wp2_with fail
  refine hnext.mono ?_
  rintro y w1 ⟨rfl, rfl⟩
  go_wp2_with fail
  refine hspan.mono ?_
  rintro y w1 ⟨rfl, rfl⟩
  go_wp2_with fail
  refine hoth.mono ?_
  rintro y w1 ⟨rfl, rfl⟩
  clear hoth hspan hnext
  obtain ⟨b0, hb0, hb1, hb2, hb3⟩ := info_parts Try.infoByte
  have hwW := lt_of_cell d0
  have hqW := lt_of_cell c0
  simp only [Nat.zero_add] at d1 d2 d3 d4
  have hsrc := (source_of_bytes (hvv.out.below hBW)).same (below_alloc (below_refl W) (.cells #[] 5))
  have hem := Empty.made W 5 (Nat.le_refl W.heap.size)
  go_wp2_with (at_builtin; refine wpList_append_fresh rfl _ _ _ rfl W.heap.size 5 b0 (.int .u8 0) 1 1 Try.underlying30 hb0 hb1 hb2 hb3 rfl (by decide) _ _ xv.length ((nums xv).map (Value.int .u8)) (by rfl) (by rfl) hem hsrc (by simp [nums]) (oneCell_int _ _) (by omega) (by unfold maxLen; omega) (by simp) ?_)
  intro v2 w2 hown2 hb2
  have hbb := (below_alloc (below_refl W) (.cells #[] 5)).trans (hb2.mono (by omega))
  have hU2 : BytesAt w2 v2 xv := bytes_of_owns hown2
  have hUb := fun b (e : Value.blk v2 = some b) => (owns_blk hown2 e).1
  have hUi := isBytes_owns hown2
  obtain ⟨a2, k2, rfl, -, -, -, -⟩ := owns_form hown2
  have c4 := cell_below d4 hbb
  have f4 := frozen_same hz4 (hbb.block w.heap.size hwW)
  have hr2' : RecAt w2 w.heap.size 0 ⟨k, xe, xt, xq, xv⟩ (.slice pv xv.length cv) := RecAt.below ⟨d0, d1, d2, d3, d4⟩ hbb
  have HB2 := Lib.hid (hBW.trans (hbb.mono hBW.size))
  have HU2 := Lib.hid hU2
  have HUb := Lib.hid (fun b e => Nat.lt_of_lt_of_le hwW (hUb b e))
  have HUi := Lib.hid hUi
  clear d0 d1 d2 d3 d4 hz4 c0 hr1 hr2 hsrc hem hown2 hb2 hbb hU2 hUb hUi
  go_wp2_with fail
  have hqw : ∀ b, M b ∨ V b → b ≠ w.heap.size := fun b hb e => by have := H.out.bound b hb; omega
  have hB3 : Below w.heap.size w (w2.setCell ⟨w.heap.size, 4, none⟩ (.slice a2 xv.length k2)).drew := below_drew (below_set HB2.out (Nat.le_refl _) _)
  have hX3 := H.out.below hB3
  obtain ⟨e0, e1, e2, e3, e4⟩ := hr2'
  have hR3 : RecAt (w2.setCell ⟨w.heap.size, 4, none⟩ (.slice a2 xv.length k2)).drew w.heap.size 0 ⟨k, xe, xt, xq, xv⟩ (.slice a2 xv.length k2) :=
    ⟨(World.cell?_setCell_other _ _ _ _ (by simp)).trans e0, (World.cell?_setCell_other _ _ _ _ (by simp)).trans e1, (World.cell?_setCell_other _ _ _ _ (by simp)).trans e2, (World.cell?_setCell_other _ _ _ _ (by simp)).trans e3, World.cell?_setCell_same _ _ _ e4⟩
  have hU3 : BytesAt (w2.setCell ⟨w.heap.size, 4, none⟩ (.slice a2 xv.length k2)).drew (.slice a2 xv.length k2) xv := HU2.out.same (fun b e => heap_setCell_ne (by have := HUb.out b e; omega))
  have hUM : ∀ b, Value.blk (.slice a2 xv.length k2) = some b → ¬ M b := fun b e hb => by have := HUb.out b e; have := H.out.bound b (.inl hb); omega
  obtain ⟨vr, L, x0, hown, hLm, hLs, hput⟩ := hX3.rec_put
  obtain ⟨ar, cr, rfl, hs1, hs2, hs3, hs4⟩ := owns_form hown
  have hS : (fun w' : World => w'.cell? ⟨q, 0, none⟩ = some (.slice ar L.length cr) ∧ RecAt w' w.heap.size 0 ⟨k, xe, xt, xq, xv⟩ (.slice a2 xv.length k2)) (w2.setCell ⟨w.heap.size, 4, none⟩ (.slice a2 xv.length k2)).drew := ⟨x0, hR3⟩
  refine region_wpZ 12 (fun w' => w'.cell? ⟨q, 0, none⟩ = some (.slice ar L.length cr) ∧ RecAt w' w.heap.size 0 ⟨k, xe, xt, xq, xv⟩ (.slice a2 xv.length k2)) (by kernel_rfl) ?_
  clear e0 e1 e2 e3 e4 hs3 hs4 c4 f4 HX hBW hwW hqW HU2 HUi
  generalize (w2.setCell ⟨w.heap.size, 4, none⟩ (.slice a2 xv.length k2)).drew = W3 at *
  obtain ⟨j0, hj0, hy0, hy1, hy2⟩ := info_parts Try.infoRec
  have hwl := lt_of_cell hR3.1
  have hql := lt_of_cell x0
  obtain ⟨d0, d1, d2, d3, d4⟩ := hR3
  have hLl : L.length = s.R.length := by rw [← hLm, List.length_map]
  have hLl' : L.length < 128 := by omega
  have HLl := Lib.hid hLl
  clear hLl
  refine wpZ_take (i := 0) (v := ?v1_0) rfl (by kernel_rfl) (by kernel_rfl) (by kernel_rfl) (by kernel_rfl) (fun _ _ _ h => h) (Or.inl ⟨by rfl, ?hy1_0⟩) hS ?rest1_0
  case hy1_0 =>
    intro w9 hS9
    (try dsimp only at hS9)
    simp only [at_zero]
    go_simp <;> with_reducible rfl
  simp only [at_zero, Act.put, List.setIfInBounds_toArray, List.set_cons_zero, List.set_cons_succ]
  refine wpZ_take (i := 2) (v := ?v1_2) rfl (by kernel_rfl) (by kernel_rfl) (by kernel_rfl) (by kernel_rfl) (fun _ _ _ h => h) (Or.inl ⟨by rfl, ?hy1_2⟩) hS ?rest1_2
  case hy1_2 =>
    intro w9 hS9
    (try dsimp only at hS9)
    simp only [at_zero, at_succ]
    go_simp <;> with_reducible rfl
  simp only [at_zero, at_succ, Act.put, List.setIfInBounds_toArray, List.set_cons_zero, List.set_cons_succ]
  refine wpZ_take (i := 3) (v := ?v1_3) rfl (by kernel_rfl) (by kernel_rfl) (by kernel_rfl) (by kernel_rfl) (fun _ _ _ h => h) (Or.inl ⟨by rfl, ?hy1_3⟩) hS ?rest1_3
  case hy1_3 =>
    intro w9 hS9
    (try dsimp only at hS9)
    simp only [at_zero, at_succ]
    go_simp <;> with_reducible rfl
  simp only [at_zero, at_succ, Act.put, List.setIfInBounds_toArray, List.set_cons_zero, List.set_cons_succ]
  refine wpZ_take (i := 4) (v := ?v1_4) rfl (by kernel_rfl) (by kernel_rfl) (by kernel_rfl) (by kernel_rfl) (fun _ _ _ h => h) (Or.inl ⟨by rfl, ?hy1_4⟩) hS ?rest1_4
  case hy1_4 =>
    intro w9 hS9
    (try dsimp only at hS9)
    simp only [at_zero, at_succ]
    go_simp <;> with_reducible rfl
  simp only [at_zero, at_succ, Act.put, List.setIfInBounds_toArray, List.set_cons_zero, List.set_cons_succ]
  refine wpZ_take (i := 5) (v := ?v1_5) rfl (by kernel_rfl) (by kernel_rfl) (by kernel_rfl) (by kernel_rfl) (fun _ _ _ h => h) (Or.inl ⟨by rfl, ?hy1_5⟩) hS ?rest1_5
  case hy1_5 =>
    intro w9 hS9
    (try dsimp only at hS9)
    simp only [at_zero, at_succ]
    go_simp <;> with_reducible rfl
  simp only [at_zero, at_succ, Act.put, List.setIfInBounds_toArray, List.set_cons_zero, List.set_cons_succ]
  refine wpZ_take (i := 7) (v := ?u7) rfl (by kernel_rfl) (by kernel_rfl) (by kernel_rfl) (by kernel_rfl) (fun _ _ _ h => h) (Or.inl ⟨by rfl, ?ux7⟩) hS ?ur7
  case ux7 =>
    intro w9 hS9
    obtain ⟨-, k0, k1, k2, k3, k4⟩ := hS9
    simp only [at_zero, at_succ]
    go_simp <;> with_reducible rfl
  simp only [at_zero, at_succ, Act.put, List.setIfInBounds_toArray, List.set_cons_zero, List.set_cons_succ]
  refine wpZ_three (n := 4) 1 6 8 rfl rfl rfl rfl rfl rfl (by decide) (by decide) (by decide) 148 153 155 (by decide) (by decide) (by kernel_rfl) (by kernel_rfl) (by kernel_rfl) (by kernel_rfl) (by kernel_rfl)
    (fun v W' => Empty W' W3.heap.size 32 v) (fun v W' => W'.ownsRow W3.heap.size 32 5 v L.length (recCells L))
    (fun v W' => ∃ g, v = .slice (some ⟨g, 0, none⟩) 1 1 ∧ ∀ j u, (recCells [(⟨k, xe, xt, xq, xv⟩, .slice a2 xv.length k2)])[j]? = some u → W'.cell? ((⟨g, 0, none⟩ : Addr).add j) = some u)
    (fun v W W' h hb => h.same hb) (fun v W W' h hb => owns_same h fun b e => hb.block b (h.lt b e).2) ?m3 (fun W hb => ⟨cell_below x0 hb, RecAt.below ⟨d0, d1, d2, d3, d4⟩ hb⟩) ?s1 ?s2 ?s3 ?fin
  case m3 =>
    rintro v W W' ⟨g, rfl, h⟩ hb
    refine ⟨g, rfl, fun j u hu => ?_⟩
    have h' := h j u hu
    rw [World.cell?_of_block (w := W) (a := (⟨g, 0, none⟩ : Addr).add j) (hb.block _ (World.block_lt_of_cell? W _ h'))]
    exact h'
  case s1 =>
    intro a' W K hb hK
    simp only [at_zero, at_succ]
    go_simp
    exact hK _ _ (Empty.made _ _ (by have := hb.size; omega)) (below_alloc (below_refl _) _)
  case s2 =>
    intro a' W K v hb h1 ha hK
    simp only [at_zero, at_succ]
    refine wp_append_fresh _ _ _ (by rfl) W3.heap.size 32 j0 (.agg #[.int .i64 0, .int .i64 0, .int .i64 0, .int .i64 0, .slice none 0 0]) 5 56 Try.underlying35 hj0 hy0 hy1 hy2 rfl (by decide) v (.slice ar L.length cr) L.length (recCells L) (by rcases ha with rfl | ⟨v3, rfl⟩ <;> rfl) (by rcases ha with rfl | ⟨v3, rfl⟩ <;> rfl) h1 ((source_of_owns hown).same hb) (flat5_length _ (fun _ => rfl) L) (rec_oneCells hLs) (by omega) (by unfold maxLen; omega) (by have := hb.size; omega) (fun v' w' h2 h3 => hK v' w' h2 h3)
  case s3 =>
    intro a' W K hb ha hK
    simp only [at_zero, at_succ]
    rcases ha with rfl | ⟨v, rfl⟩ | ⟨v, v2, rfl⟩
    all_goals
      (try simp only [Act.put, List.setIfInBounds_toArray, List.set_cons_zero, List.set_cons_succ])
      go_simp
      exact hK _ _ ⟨_, rfl, rec_new W 32 ⟨k, xe, xt, xq, xv⟩ _⟩ (below_alloc (below_refl _) _)
  case fin =>
    rintro v1 v2 v3 W5 - h2 ⟨g5, rfl, h3⟩ hb5
    have x0' := cell_below x0 hb5
    have hR5 : RecAt W5 w.heap.size 0 ⟨k, xe, xt, xq, xv⟩ (.slice a2 xv.length k2) := RecAt.below ⟨d0, d1, d2, d3, d4⟩ hb5
    obtain ⟨a5, c5, rfl, q1, q2, q3, q4⟩ := owns_form h2
    simp only [Act.put, List.setIfInBounds_toArray, List.set_cons_zero, List.set_cons_succ]
    refine wpZ_op (i := 9) (by kernel_rfl) rfl rfl (fun K hK => ?_)
    simp only [at_zero, at_succ]
    refine wp_append_lies _ _ _ _ (by rfl) W3.heap.size 32 j0 (.agg #[.int .i64 0, .int .i64 0, .int .i64 0, .int .i64 0, .slice none 0 0]) 5 56 Try.underlying35 hj0 hy0 hy1 hy2 rfl (by decide) _ _ _ (by rfl) h2 ⟨g5, 0, none⟩ 1 1 (recCells [(⟨k, xe, xt, xq, xv⟩, .slice a2 xv.length k2)]) (by rfl) rfl h3 (rec_oneCell _ _ _ _) (by omega) (by unfold maxLen; omega) (by omega) (by have := hb5.size; omega) W5.heap.size rfl ?_
    intro g6 cap6 w6 hown6 hgrow hat6 hlt6
    rw [← recCells_append] at hown6
    have hBW6 : Below W3.heap.size W3 w6 := hb5.grown hgrow hb5.size (fun b e => (h2.lt b e).1)
    have hX6 := hput w6 (.slice (some ⟨g6, 0, none⟩) (L.length + 1) cap6) ⟨k, xe, xt, xq, xv⟩ (.slice a2 xv.length k2) hBW6 hown6 hU3 hUM
    have x6 := cell_same x0 (hBW6.block q hql)
    have f6 : w6.frozen? ⟨q, 0, none⟩ = false := by obtain ⟨_, _, _, _, _, fz, _⟩ := hX3.opened; exact frozen_same (fz 0) (hBW6.block q hql)
    have hR6 : RecAt w6 w.heap.size 0 ⟨k, xe, xt, xq, xv⟩ (.slice a2 xv.length k2) := RecAt.same ⟨d0, d1, d2, d3, d4⟩ (hBW6.block w.heap.size hwl)
    refine hK _ _ (fun _ => ⟨x6, hR6⟩) ?_
    clear hK K
    refine wpZ_op (i := 10) (by kernel_rfl) rfl rfl (fun K hK => ?_)
    simp only [at_zero, at_succ]
    go_simp
    refine hK _ _ (fun _ => ⟨x6, hR6⟩) ?_
    clear hK K
    refine wpZ_op (i := 11) (by kernel_rfl) rfl rfl (fun K hK => ?_)
    simp only [at_zero, at_succ]
    go_simp
    refine hK _ _ (fun _ => ⟨x6, hR6⟩) ?_
    clear hK K
    refine wpZ_op (i := 12) (by kernel_rfl) rfl rfl (fun K hK => ?_)
    simp only [at_zero, at_succ]
    go_simp
    refine hK _ _ (fun e => absurd rfl e) ?_
    clear hK K
    refine wpZ_done (by kernel_rfl) ?_
    have hMq := H.out.self
    have hqw' : w.heap.size ≠ q := fun e => hqw q (.inl hMq) e.symm
    have hRF := hR6.same (heap_setCell_ne (W := w6) (b := q) (k := w.heap.size) hqw' : (w6.setCell ⟨q, 0, none⟩ (.slice (some ⟨g6, 0, none⟩) (L.length + 1) cap6)).heap[w.heap.size]? = _)
    have hF6 : Fr M w (w6.setCell ⟨q, 0, none⟩ (.slice (some ⟨g6, 0, none⟩) (L.length + 1) cap6)) := (Fr.of_below (hB3.trans (hBW6.mono hB3.size))).setCell (.inl hMq) _
    have hM6 : ∀ b, (M b ∨ W3.heap.size ≤ b ∧ (Value.slice (some ⟨g6, 0, none⟩) (L.length + 1) cap6).ownBlock = some b) → M b ∨ w.heap.size ≤ b := fun b hb => hb.imp id (fun h => by have := hB3.size; omega)
    have hV6 : ∀ b, (V b ∨ Value.blk (.slice a2 xv.length k2) = some b) → V b ∨ w.heap.size ≤ b := fun b hb => hb.imp id (fun h => by have := HUb.out b h; omega)
    obtain ⟨M6, V6, hX6', hM6', hV6'⟩ : ∃ M6 V6 : Nat → Prop, XRep (w6.setCell ⟨q, 0, none⟩ (.slice (some ⟨g6, 0, none⟩) (L.length + 1) cap6)) q { s with R := s.R ++ [⟨k, xe, xt, xq, xv⟩] } M6 V6 ∧ RowKit.Hid (∀ b, M6 b → M b ∨ w.heap.size ≤ b) ∧ RowKit.Hid (∀ b, V6 b → V b ∨ w.heap.size ≤ b) := ⟨_, _, hX6, Lib.hid hM6, Lib.hid hV6⟩
    have HF6 := Lib.hid hF6
    have HX6 := Lib.hid hX6'
    clear hX6 hX6' hM6 hV6 hF6 hput hgrow hown6 hBW6 x6 f6 hR6 hat6 hlt6 hb5 h2 h3 x0' hR5 q1 q2 q3 q4 d0 d1 d2 d3 d4 x0 hown hS hX3 hB3 hU3 hUM
    generalize w6.setCell ⟨q, 0, none⟩ (.slice (some ⟨g6, 0, none⟩) (L.length + 1) cap6) = W7 at *
    obtain ⟨d0, d1, d2, d3, d4⟩ := hRF
    go_wp2_with fail
    obtain ⟨vs9, x1, hown, hput⟩ := HX6.out.drew.spn_put
    obtain ⟨vr9, x0, hR9⟩ : ∃ vr9, W7.drew.cell? ⟨q, 0, none⟩ = some vr9 ∧ RecsAt W7.drew vr9 (s.R ++ [⟨k, xe, xt, xq, xv⟩]) := by
      obtain ⟨a, b, c, d, e, f, g, i⟩ := HX6.out.drew.opened
      exact ⟨a, c, g⟩
    have f1 : W7.drew.frozen? ⟨q, 1, none⟩ = false := by obtain ⟨_, _, _, _, _, fz, _⟩ := HX6.out.drew.opened; exact fz 1
    obtain ⟨pr9, cr9, rfl, hr9, hr10, -⟩ := hR9
    obtain ⟨as9, cs9, rfl, hs9, hs10, -, -⟩ := owns_form hown
    rw [List.length_append, List.length_singleton] at x0 hr9
    have hS : (fun w' : World => w'.cell? ⟨q, 0, none⟩ = some (.slice pr9 (s.R.length + 1) cr9) ∧ w'.cell? ⟨q, 1, none⟩ = some (.slice as9 s.S.length cs9) ∧ w'.cell? ⟨w.heap.size, 0, none⟩ = some (.int .i64 k) ∧ w'.cell? ⟨w.heap.size, 1, none⟩ = some (.int .i64 xe) ∧ w'.cell? ⟨w.heap.size, 2, none⟩ = some (.int .i64 xt)) W7.drew := ⟨x0, x1, d0, d1, d2⟩
    refine region_wpZ 24 (fun w' => w'.cell? ⟨q, 0, none⟩ = some (.slice pr9 (s.R.length + 1) cr9) ∧ w'.cell? ⟨q, 1, none⟩ = some (.slice as9 s.S.length cs9) ∧ w'.cell? ⟨w.heap.size, 0, none⟩ = some (.int .i64 k) ∧ w'.cell? ⟨w.heap.size, 1, none⟩ = some (.int .i64 xe) ∧ w'.cell? ⟨w.heap.size, 2, none⟩ = some (.int .i64 xt)) (by kernel_rfl) ?_
    have e0 : W7.drew.cell? ⟨w.heap.size, 0, none⟩ = some (.int .i64 k) := d0
    have e1 : W7.drew.cell? ⟨w.heap.size, 1, none⟩ = some (.int .i64 xe) := d1
    have e2 : W7.drew.cell? ⟨w.heap.size, 2, none⟩ = some (.int .i64 xt) := d2
    have HF9 := Lib.hid HF6.out.drew
    have HX9 := Lib.hid HX6.out.drew
    clear d0 d1 d2 d3 d4 HF6 HX6
    generalize W7.drew = W9 at *
    obtain ⟨i0, hi0, hz0, hz1, hz2⟩ := info_parts Try.infoSpan
    have hwl := lt_of_cell e0
    have hql := lt_of_cell x0
    have hwr : IntKind.i64.wrap (s.R.length : Int) = s.R.length := IntWalk.i64_in _ (by omega)
    refine wpZ_take (i := 0) (v := ?v2_0) rfl (by kernel_rfl) (by kernel_rfl) (by kernel_rfl) (by kernel_rfl) (fun _ _ _ h => h) (Or.inl ⟨by rfl, ?hy2_0⟩) hS ?rest2_0
    case hy2_0 =>
      intro w9 hS9
      (try dsimp only at hS9)
      simp only [at_zero]
      go_simp <;> with_reducible rfl
    simp only [at_zero, Act.put, List.setIfInBounds_toArray, List.set_cons_zero, List.set_cons_succ]
    refine wpZ_take (i := 2) (v := ?v2_2) rfl (by kernel_rfl) (by kernel_rfl) (by kernel_rfl) (by kernel_rfl) (fun _ _ _ h => h) (Or.inl ⟨by rfl, ?hy2_2⟩) hS ?rest2_2
    case hy2_2 =>
      intro w9 hS9
      (try dsimp only at hS9)
      simp only [at_zero, at_succ]
      go_simp <;> with_reducible rfl
    simp only [at_zero, at_succ, Act.put, List.setIfInBounds_toArray, List.set_cons_zero, List.set_cons_succ]
    refine wpZ_take (i := 3) (v := ?v2_3) rfl (by kernel_rfl) (by kernel_rfl) (by kernel_rfl) (by kernel_rfl) (fun _ _ _ h => h) (Or.inl ⟨by rfl, ?hy2_3⟩) hS ?rest2_3
    case hy2_3 =>
      intro w9 hS9
      (try dsimp only at hS9)
      simp only [at_zero, at_succ]
      go_simp <;> with_reducible rfl
    simp only [at_zero, at_succ, Act.put, List.setIfInBounds_toArray, List.set_cons_zero, List.set_cons_succ]
    refine wpZ_take (i := 4) (v := ?v2_4) rfl (by kernel_rfl) (by kernel_rfl) (by kernel_rfl) (by kernel_rfl) (fun _ _ _ h => h) (Or.inl ⟨by rfl, ?hy2_4⟩) hS ?rest2_4
    case hy2_4 =>
      intro w9 hS9
      (try dsimp only at hS9)
      simp only [at_zero, at_succ]
      go_simp <;> with_reducible rfl
    simp only [at_zero, at_succ, Act.put, List.setIfInBounds_toArray, List.set_cons_zero, List.set_cons_succ]
    refine wpZ_take (i := 5) (v := ?v2_5) rfl (by kernel_rfl) (by kernel_rfl) (by kernel_rfl) (by kernel_rfl) (fun _ _ _ h => h) (Or.inl ⟨by rfl, ?hy2_5⟩) hS ?rest2_5
    case hy2_5 =>
      intro w9 hS9
      (try dsimp only at hS9)
      simp only [at_zero, at_succ]
      go_simp <;> with_reducible rfl
    simp only [at_zero, at_succ, Act.put, List.setIfInBounds_toArray, List.set_cons_zero, List.set_cons_succ]
    refine wpZ_take (i := 7) (v := ?v2_7) rfl (by kernel_rfl) (by kernel_rfl) (by kernel_rfl) (by kernel_rfl) (fun _ _ _ h => h) (Or.inl ⟨by rfl, ?hy2_7⟩) hS ?rest2_7
    case hy2_7 =>
      intro w9 hS9
      (try dsimp only at hS9)
      simp only [at_zero, at_succ]
      go_simp <;> with_reducible rfl
    simp only [at_zero, at_succ, Act.put, List.setIfInBounds_toArray, List.set_cons_zero, List.set_cons_succ]
    refine wpZ_take (i := 8) (v := ?v2_8) rfl (by kernel_rfl) (by kernel_rfl) (by kernel_rfl) (by kernel_rfl) (fun _ _ _ h => h) (Or.inl ⟨by rfl, ?hy2_8⟩) hS ?rest2_8
    case hy2_8 =>
      intro w9 hS9
      (try dsimp only at hS9)
      simp only [at_zero, at_succ]
      go_simp <;> with_reducible rfl
    simp only [at_zero, at_succ, Act.put, List.setIfInBounds_toArray, List.set_cons_zero, List.set_cons_succ]
    refine wpZ_take (i := 9) (v := ?v2_9) rfl (by kernel_rfl) (by kernel_rfl) (by kernel_rfl) (by kernel_rfl) (fun _ _ _ h => h) (Or.inl ⟨by rfl, ?hy2_9⟩) hS ?rest2_9
    case hy2_9 =>
      intro w9 hS9
      (try dsimp only at hS9)
      simp only [at_zero, at_succ]
      go_simp <;> with_reducible rfl
    simp only [at_zero, at_succ, Act.put, List.setIfInBounds_toArray, List.set_cons_zero, List.set_cons_succ]
    refine wpZ_take (i := 10) (v := ?v2_10) rfl (by kernel_rfl) (by kernel_rfl) (by kernel_rfl) (by kernel_rfl) (fun _ _ _ h => h) (Or.inl ⟨by rfl, ?hy2_10⟩) hS ?rest2_10
    case hy2_10 =>
      intro w9 hS9
      (try dsimp only at hS9)
      simp only [at_zero, at_succ]
      go_simp <;> with_reducible rfl
    simp only [at_zero, at_succ, Act.put, List.setIfInBounds_toArray, List.set_cons_zero, List.set_cons_succ]
    refine wpZ_take (i := 11) (v := ?v2_11) rfl (by kernel_rfl) (by kernel_rfl) (by kernel_rfl) (by kernel_rfl) (fun _ _ _ h => h) (Or.inl ⟨by rfl, ?hy2_11⟩) hS ?rest2_11
    case hy2_11 =>
      intro w9 hS9
      (try dsimp only at hS9)
      simp only [at_zero, at_succ]
      go_simp <;> with_reducible rfl
    simp only [at_zero, at_succ, Act.put, List.setIfInBounds_toArray, List.set_cons_zero, List.set_cons_succ]
    refine wpZ_take (i := 12) (v := ?v2_12) rfl (by kernel_rfl) (by kernel_rfl) (by kernel_rfl) (by kernel_rfl) (fun _ _ _ h => h) (Or.inl ⟨by rfl, ?hy2_12⟩) hS ?rest2_12
    case hy2_12 =>
      intro w9 hS9
      (try dsimp only at hS9)
      simp only [at_zero, at_succ]
      go_simp <;> with_reducible rfl
    simp only [at_zero, at_succ, Act.put, List.setIfInBounds_toArray, List.set_cons_zero, List.set_cons_succ]
    refine wpZ_take (i := 13) (v := ?v2_13) rfl (by kernel_rfl) (by kernel_rfl) (by kernel_rfl) (by kernel_rfl) (fun _ _ _ h => h) (Or.inl ⟨by rfl, ?hy2_13⟩) hS ?rest2_13
    case hy2_13 =>
      intro w9 hS9
      (try dsimp only at hS9)
      simp only [at_zero, at_succ]
      go_simp <;> with_reducible rfl
    simp only [at_zero, at_succ, Act.put, List.setIfInBounds_toArray, List.set_cons_zero, List.set_cons_succ]
    refine wpZ_take (i := 14) (v := ?v2_14) rfl (by kernel_rfl) (by kernel_rfl) (by kernel_rfl) (by kernel_rfl) (fun _ _ _ h => h) (Or.inl ⟨by rfl, ?hy2_14⟩) hS ?rest2_14
    case hy2_14 =>
      intro w9 hS9
      (try dsimp only at hS9)
      simp only [at_zero, at_succ]
      go_simp <;> with_reducible rfl
    simp only [at_zero, at_succ, Act.put, List.setIfInBounds_toArray, List.set_cons_zero, List.set_cons_succ]
    refine wpZ_take (i := 15) (v := ?v2_15) rfl (by kernel_rfl) (by kernel_rfl) (by kernel_rfl) (by kernel_rfl) (fun _ _ _ h => h) (Or.inl ⟨by rfl, ?hy2_15⟩) hS ?rest2_15
    case hy2_15 =>
      intro w9 hS9
      (try dsimp only at hS9)
      simp only [at_zero, at_succ]
      go_simp <;> with_reducible rfl
    simp only [at_zero, at_succ, Act.put, List.setIfInBounds_toArray, List.set_cons_zero, List.set_cons_succ]
    refine wpZ_take (i := 16) (v := ?v2_16) rfl (by kernel_rfl) (by kernel_rfl) (by kernel_rfl) (by kernel_rfl) (fun _ _ _ h => h) (Or.inl ⟨by rfl, ?hy2_16⟩) hS ?rest2_16
    case hy2_16 =>
      intro w9 hS9
      (try dsimp only at hS9)
      simp only [at_zero, at_succ]
      go_simp <;> with_reducible rfl
    simp only [at_zero, at_succ, Act.put, List.setIfInBounds_toArray, List.set_cons_zero, List.set_cons_succ]
    refine wpZ_take (i := 17) (v := ?v2_17) rfl (by kernel_rfl) (by kernel_rfl) (by kernel_rfl) (by kernel_rfl) (fun _ _ _ h => h) (Or.inl ⟨by rfl, ?hy2_17⟩) hS ?rest2_17
    case hy2_17 =>
      intro w9 hS9
      (try dsimp only at hS9)
      simp only [at_zero, at_succ]
      go_simp <;> with_reducible rfl
    simp only [at_zero, at_succ, Act.put, List.setIfInBounds_toArray, List.set_cons_zero, List.set_cons_succ]
    refine wpZ_take (i := 18) (v := ?v2_18) rfl (by kernel_rfl) (by kernel_rfl) (by kernel_rfl) (by kernel_rfl) (fun _ _ _ h => h) (Or.inl ⟨by rfl, ?hy2_18⟩) hS ?rest2_18
    case hy2_18 =>
      intro w9 hS9
      (try dsimp only at hS9)
      simp only [at_zero, at_succ]
      go_simp <;> with_reducible rfl
    simp only [at_zero, at_succ, Act.put, List.setIfInBounds_toArray, List.set_cons_zero, List.set_cons_succ]
    refine wpZ_take (i := 19) (v := ?v2_19) rfl (by kernel_rfl) (by kernel_rfl) (by kernel_rfl) (by kernel_rfl) (fun _ _ _ h => h) (Or.inl ⟨by rfl, ?hy2_19⟩) hS ?rest2_19
    case hy2_19 =>
      intro w9 hS9
      (try dsimp only at hS9)
      simp only [at_zero, at_succ]
      go_simp <;> with_reducible rfl
    simp only [at_zero, at_succ, Act.put, List.setIfInBounds_toArray, List.set_cons_zero, List.set_cons_succ]
    refine wpZ_three (n := 4) 1 6 20 rfl rfl rfl rfl rfl rfl (by decide) (by decide) (by decide) 162 167 181 (by decide) (by decide) (by kernel_rfl) (by kernel_rfl) (by kernel_rfl) (by kernel_rfl) (by kernel_rfl)
      (fun v W' => Empty W' W9.heap.size 68 v) (fun v W' => W'.ownsRow W9.heap.size 68 5 v s.S.length (spnCells s.S))
      (fun v W' => ∃ g, v = .slice (some ⟨g, 0, none⟩) 1 1 ∧ ∀ j u, (spnCells [(⟨k, xe, xt, s.R.length, 0⟩ : PL.Spn)])[j]? = some u → W'.cell? ((⟨g, 0, none⟩ : Addr).add j) = some u)
      (fun v W W' h hb => h.same hb) (fun v W W' h hb => owns_same h fun b e => hb.block b (h.lt b e).2) ?m3 (fun W hb => ⟨cell_below x0 hb, cell_below x1 hb, cell_below e0 hb, cell_below e1 hb, cell_below e2 hb⟩) ?s1 ?s2 ?s3 ?fin
    case m3 =>
      rintro v W W' ⟨g, rfl, h⟩ hb
      refine ⟨g, rfl, fun j u hu => ?_⟩
      have h' := h j u hu
      rw [World.cell?_of_block (w := W) (a := (⟨g, 0, none⟩ : Addr).add j) (hb.block _ (World.block_lt_of_cell? W _ h'))]
      exact h'
    case s1 =>
      intro a' W K hb hK
      simp only [at_zero, at_succ]
      go_simp
      exact hK _ _ (Empty.made _ _ (by have := hb.size; omega)) (below_alloc (below_refl _) _)
    case s2 =>
      intro a' W K v hb h1 ha hK
      simp only [at_zero, at_succ]
      refine wp_append_fresh _ _ _ (by rfl) W9.heap.size 68 i0 (.agg #[.int .i64 0, .int .i64 0, .int .i64 0, .int .i64 0, .int .i64 0]) 5 40 Try.underlying42 hi0 hz0 hz1 hz2 rfl (by decide) v (.slice as9 s.S.length cs9) s.S.length (spnCells s.S) (by rcases ha with rfl | ⟨v3, rfl⟩ <;> rfl) (by rcases ha with rfl | ⟨v3, rfl⟩ <;> rfl) h1 ((source_of_owns hown).same hb) (spnCells_length _) (spn_oneCell _) (by omega) (by unfold maxLen; omega) (by have := hb.size; omega) (fun v' w' h2 h3 => hK v' w' h2 h3)
    case s3 =>
      intro a' W K hb ha hK
      simp only [at_zero, at_succ]
      rcases ha with rfl | ⟨v, rfl⟩ | ⟨v, v2, rfl⟩
      all_goals
        (try simp only [Act.put, List.setIfInBounds_toArray, List.set_cons_zero, List.set_cons_succ])
        go_simp
        exact hK _ _ ⟨_, rfl, spn_new W 68 ⟨k, xe, xt, s.R.length, 0⟩⟩ (below_alloc (below_refl _) _)
    case fin =>
      rintro v1 v2 v3 W5 - h2 ⟨g5, rfl, h3⟩ hb5
      obtain ⟨a5, c5, rfl, q1, q2, q3, q4⟩ := owns_form h2
      simp only [Act.put, List.setIfInBounds_toArray, List.set_cons_zero, List.set_cons_succ]
      refine wpZ_op (i := 21) (by kernel_rfl) rfl rfl (fun K hK => ?_)
      simp only [at_zero, at_succ]
      refine wp_append_lies _ _ _ _ (by rfl) W9.heap.size 68 i0 (.agg #[.int .i64 0, .int .i64 0, .int .i64 0, .int .i64 0, .int .i64 0]) 5 40 Try.underlying42 hi0 hz0 hz1 hz2 rfl (by decide) _ _ _ (by rfl) h2 ⟨g5, 0, none⟩ 1 1 (spnCells [⟨k, xe, xt, s.R.length, 0⟩]) (by rfl) rfl h3 (spn_oneCell _) (by omega) (by unfold maxLen; omega) (by omega) (by have := hb5.size; omega) W5.heap.size rfl ?_
      intro g6 cap6 w6 hown6 hgrow hat6 hlt6
      rw [← spnCells_append] at hown6
      have hBW6 : Below W9.heap.size W9 w6 := hb5.grown hgrow hb5.size (fun b e => (h2.lt b e).1)
      have hX6 := hput w6 (.slice (some ⟨g6, 0, none⟩) (s.S.length + 1) cap6) (s.S ++ [⟨k, xe, xt, s.R.length, 0⟩]) hBW6 (by simpa using hown6)
      have x6 := cell_same x0 (hBW6.block q hql)
      have x7 := cell_same x1 (hBW6.block q hql)
      have f7 := frozen_same f1 (hBW6.block q hql)
      have e6 := cell_same e0 (hBW6.block w.heap.size hwl)
      have e7 := cell_same e1 (hBW6.block w.heap.size hwl)
      have e8 := cell_same e2 (hBW6.block w.heap.size hwl)
      refine hK _ _ (fun _ => ⟨x6, x7, e6, e7, e8⟩) ?_
      clear hK K
      refine wpZ_op (i := 22) (by kernel_rfl) rfl rfl (fun K hK => ?_)
      simp only [at_zero, at_succ]
      go_simp
      refine hK _ _ (fun _ => ⟨x6, x7, e6, e7, e8⟩) ?_
      clear hK K
      refine wpZ_op (i := 23) (by kernel_rfl) rfl rfl (fun K hK => ?_)
      simp only [at_zero, at_succ]
      go_simp
      refine hK _ _ (fun _ => ⟨x6, x7, e6, e7, e8⟩) ?_
      clear hK K
      refine wpZ_op (i := 24) (by kernel_rfl) rfl rfl (fun K hK => ?_)
      simp only [at_zero, at_succ]
      go_simp
      refine hK _ _ (fun e => absurd rfl e) ?_
      clear hK K
      refine wpZ_done (by kernel_rfl) ?_
      have hMq := H.out.self
      have hM9 := HX9.out.self
      have y0 : (w6.setCell ⟨q, 1, none⟩ (.slice (some ⟨g6, 0, none⟩) (s.S.length + 1) cap6)).cell? ⟨q, 0, none⟩ = some (.slice pr9 (s.R.length + 1) cr9) := (World.cell?_setCell_other _ _ _ _ (by simp)).trans x6
      have hF := Lib.hid ((HF9.out.step (hBW6.mono (Nat.le_refl _))).setCell (.inl hMq) (o := 1) (.slice (some ⟨g6, 0, none⟩) (s.S.length + 1) cap6))
      have hM6 := Lib.hid (fun b (hb : M6 b ∨ W9.heap.size ≤ b ∧ (Value.slice (some ⟨g6, 0, none⟩) (s.S.length + 1) cap6).ownBlock = some b) => hb.elim (fun h => hM6'.out b h) (fun h => Or.inr (by have := HF9.out.size; omega : w.heap.size ≤ b)))
      have hX7 := Lib.hid hX6
      clear hX6 hput hgrow hown6 hBW6 x6 x7 f7 e6 e7 e8 hat6 hlt6 hb5 h2 h3 q1 q2 q3 q4 x0 x1 e0 e1 e2 hown hS f1
      generalize w6.setCell ⟨q, 1, none⟩ (.slice (some ⟨g6, 0, none⟩) (s.S.length + 1) cap6) = W10 at *
      go_wp2_with fail
      go_ret2
      exact ⟨_, V6, rfl, hX7.out, hF.out, hM6.out, hV6'.out⟩

end Go.Proofs.Ytjjlbancofkinaa
