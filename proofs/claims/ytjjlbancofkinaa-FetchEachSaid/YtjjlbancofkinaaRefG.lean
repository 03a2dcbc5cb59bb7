/-
  The reference's log: Append: what is refused, and what comes again.
-/
import Derived.Test.YtjjlbancofkinaaRefF
namespace Go.Proofs.Ytjjlbancofkinaa
open Go.RowKit

set_option maxRecDepth 100000 in
set_option maxHeartbeats 1600000 in
theorem append11_ep (w : World) (q : Nat) (s : PL.St) (M V : Nat → Prop) (h : XRep w q s M V) (r : PL.Rec) (v : Value) (hv : BytesAt w v r.v) (hok : PL.okRec r) (c : Int) (hc : s.E r.p < 0 ∧ c = 4 ∨ 0 ≤ s.E r.p ∧ r.e < s.E r.p ∧ c = 5 ∨ 0 ≤ s.E r.p ∧ s.E r.p < r.e ∧ c = 6) :
    Calls Try.prog 45 #[.pointer (some ⟨q, 0, none⟩), recV r v] w (TurnedX q M V (.tuple #[.int .i64 0, .int .i64 c]) s w) := by
  obtain ⟨xp, xe, xt, xq, xv⟩ := r
  have hvv := Lib.hid hv
  obtain ⟨pv, cv, rfl, hv1, hv2, -⟩ := hv
  have hok' := hok
  unfold PL.okRec PL.okPE PL.okT at hok'
  unfold recV
  dsimp only at *
  have h1 := in_any xp 0 7
  have h2 := in_any xe 0 100
  have h3 := in_any xt 1 100
  have h4 := in_any xq 0 1048576
  rw [show decide (0 ≤ xp ∧ xp ≤ 7) = true by simp; omega] at h1
  rw [show decide (0 ≤ xe ∧ xe ≤ 100) = true by simp; omega] at h2
  rw [show decide (1 ≤ xt ∧ xt ≤ 100) = true by simp; omega] at h3
  rw [show decide (0 ≤ xq ∧ xq ≤ 1048576) = true by simp; omega] at h4
  have h5 : ¬ 200 < xv.length := by omega
  have g0 : 0 ≤ xp := by omega
  have g1 : xp < 8 := by omega
  have hq0 : 0 ≤ xq := by omega
  have hq1 : xq ≤ 1048576 := by omega
  obtain ⟨k, rfl⟩ : ∃ k : Nat, xp = k := ⟨xp.toNat, by omega⟩
  have hk : k < 8 := by omega
  have hBW0 : Below w.heap.size w (w.alloc (.cells #[.int .i64 k, .int .i64 xe, .int .i64 xt, .int .i64 xq, .slice pv xv.length cv] 32)) := below_alloc (below_refl w) _
  have hX := h.below hBW0
  have hr := recAt_new w 32 ⟨k, xe, xt, xq, xv⟩ (.slice pv xv.length cv)
  have hz4 : (w.alloc (.cells #[.int .i64 k, .int .i64 xe, .int .i64 xt, .int .i64 xq, .slice pv xv.length cv] 32)).frozen? ⟨w.heap.size, 4, none⟩ = false := frozen_alloc w #[.int .i64 k, .int .i64 xe, .int .i64 xt, .int .i64 xq, .slice pv xv.length cv] 32 4
  have HK := Lib.hid hok
  have H := Lib.hid h
  have HX := Lib.hid hX
  have HR := Lib.hid hr
  clear hok hok' h hX hr
  go_enter Try.func45, Try.ntmps45
  go_wp2_with fail
  refine (h1 _).mono ?_
  rintro x w1 ⟨rfl, rfl⟩
  go_wp2_with fail
  refine (h2 _).mono ?_
  rintro x w1 ⟨rfl, rfl⟩
  go_wp2_with fail
  refine (h3 _).mono ?_
  rintro x w1 ⟨rfl, rfl⟩
  go_wp2_with fail
  refine (h4 _).mono ?_
  rintro x w1 ⟨rfl, rfl⟩
  clear h1 h2 h3 h4
  go_wp2_with fail
  generalize (w.alloc (.cells #[.int .i64 k, .int .i64 xe, .int .i64 xt, .int .i64 xq, .slice pv xv.length cv] 32)) = W0 at *
  refine wp_region_still_tail 7 (by kernel_rfl) (by kernel_rfl) ?_
  simp only [List.take_succ_cons, List.take_zero, List.drop_succ_cons, List.drop_zero]
  change wpStill _ _ W0.drew (fun a' => wpList _ _ _ _ a' W0.drew) _ _
  have hBW := below_drew hBW0
  replace HX := Lib.hid HX.out.drew
  replace hz4 : W0.drew.frozen? ⟨w.heap.size, 4, none⟩ = false := hz4
  have hr : RecAt W0.drew w.heap.size 0 ⟨k, xe, xt, xq, xv⟩ (.slice pv xv.length cv) := HR.out
  clear HR hBW0
  generalize W0.drew = W at *
  obtain ⟨d0, d1, d2, d3, d4⟩ := hr
  have c2 : W.cell? ⟨q, 2 + k, none⟩ = some (.int .i64 (s.E k)) := by obtain ⟨_, _, _, _, ce, _⟩ := HX.out.opened; exact ce k hk
  repeat still_step
  refine wpStill_nil ?_
  dsimp only at *
  clear c2
  rcases hc with ⟨e1, rfl⟩ | ⟨e0, e1, rfl⟩ | ⟨e0, e1, rfl⟩
  · go_wp2_with fail
    go_ret2
    exact turnedX_same H.out hBW rfl rfl
  · have e0' : ¬ s.E k < 0 := by omega
    go_wp2_with fail
    go_ret2
    exact turnedX_same H.out hBW rfl rfl
  · have e0' : ¬ s.E k < 0 := by omega
    have e1' : ¬ xe < s.E k := by omega
    go_wp2_with fail
    go_ret2
    exact turnedX_same H.out hBW rfl rfl

set_option maxRecDepth 100000 in
set_option maxHeartbeats 1600000 in
theorem append11_again (w : World) (q : Nat) (s : PL.St) (M V : Nat → Prop) (h : XRep w q s M V) (hOk : PL.Ok s) (r : PL.Rec) (v : Value) (hv : BytesAt w v r.v) (hok : PL.okRec r) (he : s.E r.p = r.e) (j : Nat) (x : PL.Rec) (hx : s.R[j]? = some x) (hj : s.again r.p r.e r.q = (j : Int)) (z1 z2 : Int) (hz : RowKit.Hid (if x.t ≠ r.t ∨ x.v ≠ r.v then z1 = 0 ∧ z2 = 1 else z1 = j ∧ z2 = 0)) :
    Calls Try.prog 45 #[.pointer (some ⟨q, 0, none⟩), recV r v] w (TurnedX q M V (.tuple #[.int .i64 z1, .int .i64 z2]) s w) := by
  obtain ⟨xp, xe, xt, xq, xv⟩ := r
  have hvv := Lib.hid hv
  obtain ⟨pv, cv, rfl, hv1, hv2, -⟩ := hv
  have hok' := hok
  unfold PL.okRec PL.okPE PL.okT at hok'
  unfold recV
  dsimp only at *
  have h1 := in_any xp 0 7
  have h2 := in_any xe 0 100
  have h3 := in_any xt 1 100
  have h4 := in_any xq 0 1048576
  rw [show decide (0 ≤ xp ∧ xp ≤ 7) = true by simp; omega] at h1
  rw [show decide (0 ≤ xe ∧ xe ≤ 100) = true by simp; omega] at h2
  rw [show decide (1 ≤ xt ∧ xt ≤ 100) = true by simp; omega] at h3
  rw [show decide (0 ≤ xq ∧ xq ≤ 1048576) = true by simp; omega] at h4
  have hxe : ¬ xe < 0 := by omega
  have h5 : ¬ 200 < xv.length := by omega
  have g0 : 0 ≤ xp := by omega
  have g1 : xp < 8 := by omega
  have hq0 : 0 ≤ xq := by omega
  have hq1 : xq ≤ 1048576 := by omega
  obtain ⟨k, rfl⟩ : ∃ k : Nat, xp = k := ⟨xp.toNat, by omega⟩
  have hk : k < 8 := by omega
  have hBW0 : Below w.heap.size w (w.alloc (.cells #[.int .i64 k, .int .i64 xe, .int .i64 xt, .int .i64 xq, .slice pv xv.length cv] 32)) := below_alloc (below_refl w) _
  have hX := h.below hBW0
  have hr := recAt_new w 32 ⟨k, xe, xt, xq, xv⟩ (.slice pv xv.length cv)
  have hz4 : (w.alloc (.cells #[.int .i64 k, .int .i64 xe, .int .i64 xt, .int .i64 xq, .slice pv xv.length cv] 32)).frozen? ⟨w.heap.size, 4, none⟩ = false := frozen_alloc w #[.int .i64 k, .int .i64 xe, .int .i64 xt, .int .i64 xq, .slice pv xv.length cv] 32 4
  have HK := Lib.hid hok
  have H := Lib.hid h
  have HX := Lib.hid hX
  have HR := Lib.hid hr
  clear hok hok' h hX hr
  go_enter Try.func45, Try.ntmps45
  go_wp2_with fail
  refine (h1 _).mono ?_
  rintro x w1 ⟨rfl, rfl⟩
  go_wp2_with fail
  refine (h2 _).mono ?_
  rintro x w1 ⟨rfl, rfl⟩
  go_wp2_with fail
  refine (h3 _).mono ?_
  rintro x w1 ⟨rfl, rfl⟩
  go_wp2_with fail
  refine (h4 _).mono ?_
  rintro x w1 ⟨rfl, rfl⟩
  clear h1 h2 h3 h4
  go_wp2_with fail
  generalize (w.alloc (.cells #[.int .i64 k, .int .i64 xe, .int .i64 xt, .int .i64 xq, .slice pv xv.length cv] 32)) = W0 at *
  refine wp_region_still_tail 7 (by kernel_rfl) (by kernel_rfl) ?_
  simp only [List.take_succ_cons, List.take_zero, List.drop_succ_cons, List.drop_zero]
  change wpStill _ _ W0.drew (fun a' => wpList _ _ _ _ a' W0.drew) _ _
  have hBW := below_drew hBW0
  replace HX := Lib.hid HX.out.drew
  replace hz4 : W0.drew.frozen? ⟨w.heap.size, 4, none⟩ = false := hz4
  have hr : RecAt W0.drew w.heap.size 0 ⟨k, xe, xt, xq, xv⟩ (.slice pv xv.length cv) := HR.out
  clear HR hBW0
  generalize W0.drew = W at *
  obtain ⟨d0, d1, d2, d3, d4⟩ := hr
  have c2 : W.cell? ⟨q, 2 + k, none⟩ = some (.int .i64 xe) := by rw [← he]; obtain ⟨_, _, _, _, ce, _⟩ := HX.out.opened; exact ce k hk
  repeat still_step
  refine wpStill_nil ?_
  dsimp only at *
  clear c2
  have hnext := next11_any W q s M V HX.out hOk.seqs k xe xq
  rw [hOk.last_again, hj] at hnext
  have hrow := fun (w' : World) (h' : XRep w' q s M V) => h'.opened
  have Hj := Lib.hid hj
  have Hx := Lib.hid hx
  have hjl := (List.getElem?_eq_some_iff.1 hx).1
  have Hrow := Lib.hid hrow
  have He := Lib.hid he
  clear hj hx hrow he
  go_wp2_with fail
  refine hnext.mono ?_
  rintro y w1 ⟨rfl, rfl⟩
  clear hnext
  go_wp2_with fail
  refine wp_region_still_tail 25 (by kernel_rfl) (by kernel_rfl) ?_
  simp only [List.take_succ_cons, List.take_zero, List.drop_succ_cons, List.drop_zero]
  change wpStill _ _ W.drew (fun a' => wpList _ _ _ _ a' W.drew) _ _
  replace HX := Lib.hid HX.out.drew
  replace hBW := below_drew hBW
  have hr : RecAt W.drew w.heap.size 0 ⟨k, xe, xt, xq, xv⟩ (.slice pv xv.length cv) := ⟨d0, d1, d2, d3, d4⟩
  clear d0 d1 d2 d3 d4 hz4
  generalize W.drew = W2 at *
  obtain ⟨d0, d1, d2, d3, d4⟩ := hr
  obtain ⟨vr, vs, c0, -, -, -, hR, -⟩ := Hrow.out W2 HX.out
  obtain ⟨ar, cr, rfl, hr1, hr2, hr3⟩ := hR
  obtain ⟨b, o, u, rfl, hat, hu⟩ := hr3 j x Hx.out
  obtain ⟨e0, e1, e2, e3, e4⟩ := hat
  have cv1 := conv_bytes hu
  have cv2 := conv_bytes (hvv.out.below hBW)
  have hs := str_eq x.v xv
  obtain ⟨pu, cu, rfl, hu1, hu2, -⟩ := hu
  generalize strOfNums (nums x.v) = s1 at *
  generalize strOfNums (nums xv) = s2 at *
  have Hs := Lib.hid hs
  clear hs hr3
  by_cases ht : x.t = xt
  · have ht' : (x.t == xt) = true := by simpa using ht
    by_cases hxv : x.v = xv
    · have hs' : (s1.toList == s2.toList) = true := by rw [Hs.out]; simpa using hxv
      have Hb : RowKit.Hid (¬ (x.t ≠ xt ∨ x.v ≠ xv)) := Lib.hid (fun y => y.elim (fun y => y ht) (fun y => y hxv))
      clear ht hxv
      repeat still_step
      refine wpStill_nil ?_
      go_wp2_with fail
      go_ret2
      have hzz := hz.out
      rw [if_neg Hb.out] at hzz
      exact turnedX_same H.out hBW (tup2 hzz.1.symm hzz.2.symm) rfl
    · have hs' : (s1.toList == s2.toList) = false := by rw [Hs.out]; simpa using hxv
      have Hb : RowKit.Hid ((x.t ≠ xt ∨ x.v ≠ xv)) := Lib.hid (.inr hxv)
      clear ht hxv
      repeat still_step
      refine wpStill_nil ?_
      go_wp2_with fail
      go_ret2
      have hzz := hz.out
      rw [if_pos Hb.out] at hzz
      exact turnedX_same H.out hBW (tup2 hzz.1.symm hzz.2.symm) rfl
  · have ht' : (x.t == xt) = false := by simpa using ht
    have Hb : RowKit.Hid ((x.t ≠ xt ∨ x.v ≠ xv)) := Lib.hid (.inl ht)
    clear ht
    iterate 12 still_step
    generalize hops : (List.toArray _) = OO
    iterate 13 (refine wpStill_skip (by rw [← hops]; rfl) (by rfl) ?_)
    subst hops
    refine wpStill_nil ?_
    go_wp2_with fail
    go_ret2
    have hzz := hz.out
    rw [if_pos Hb.out] at hzz
    exact turnedX_same H.out hBW (tup2 hzz.1.symm hzz.2.symm) rfl

set_option maxRecDepth 100000 in
set_option maxHeartbeats 1600000 in
theorem append11_unfit (w : World) (q : Nat) (s : PL.St) (M V : Nat → Prop) (h : XRep w q s M V) (hOk : PL.Ok s) (r : PL.Rec) (v : Value) (hv : BytesAt w v r.v) (hok : PL.okRec r) (he : s.E r.p = r.e) (hj : s.again r.p r.e r.q < 0) (c : Int) (hc : r.q ≠ PL.nextOf r.p r.e s.R 0 ∧ c = 8 ∨ r.q = PL.nextOf r.p r.e s.R 0 ∧ s.S.any (PL.bars r) = true ∧ c = 6 ∨ r.q = PL.nextOf r.p r.e s.R 0 ∧ s.S.any (PL.bars r) = false ∧ 128 ≤ s.R.length ∧ c = 3) :
    Calls Try.prog 45 #[.pointer (some ⟨q, 0, none⟩), recV r v] w (TurnedX q M V (.tuple #[.int .i64 0, .int .i64 c]) s w) := by
  obtain ⟨xp, xe, xt, xq, xv⟩ := r
  have hvv := Lib.hid hv
  obtain ⟨pv, cv, rfl, hv1, hv2, -⟩ := hv
  have hok' := hok
  unfold PL.okRec PL.okPE PL.okT at hok'
  unfold recV
  rw [hOk.bars_eq] at hc
  dsimp only at *
  have h1 := in_any xp 0 7
  have h2 := in_any xe 0 100
  have h3 := in_any xt 1 100
  have h4 := in_any xq 0 1048576
  rw [show decide (0 ≤ xp ∧ xp ≤ 7) = true by simp; omega] at h1
  rw [show decide (0 ≤ xe ∧ xe ≤ 100) = true by simp; omega] at h2
  rw [show decide (1 ≤ xt ∧ xt ≤ 100) = true by simp; omega] at h3
  rw [show decide (0 ≤ xq ∧ xq ≤ 1048576) = true by simp; omega] at h4
  have hxe : ¬ xe < 0 := by omega
  have h5 : ¬ 200 < xv.length := by omega
  have g0 : 0 ≤ xp := by omega
  have g1 : xp < 8 := by omega
  have hq0 : 0 ≤ xq := by omega
  have hq1 : xq ≤ 1048576 := by omega
  obtain ⟨k, rfl⟩ : ∃ k : Nat, xp = k := ⟨xp.toNat, by omega⟩
  have hk : k < 8 := by omega
  have hBW0 : Below w.heap.size w (w.alloc (.cells #[.int .i64 k, .int .i64 xe, .int .i64 xt, .int .i64 xq, .slice pv xv.length cv] 32)) := below_alloc (below_refl w) _
  have hX := h.below hBW0
  have hr := recAt_new w 32 ⟨k, xe, xt, xq, xv⟩ (.slice pv xv.length cv)
  have hz4 : (w.alloc (.cells #[.int .i64 k, .int .i64 xe, .int .i64 xt, .int .i64 xq, .slice pv xv.length cv] 32)).frozen? ⟨w.heap.size, 4, none⟩ = false := frozen_alloc w #[.int .i64 k, .int .i64 xe, .int .i64 xt, .int .i64 xq, .slice pv xv.length cv] 32 4
  have HK := Lib.hid hok
  have H := Lib.hid h
  have HX := Lib.hid hX
  have HR := Lib.hid hr
  clear hok hok' h hX hr
  go_enter Try.func45, Try.ntmps45
  go_wp2_with fail
  refine (h1 _).mono ?_
  rintro x w1 ⟨rfl, rfl⟩
  go_wp2_with fail
  refine (h2 _).mono ?_
  rintro x w1 ⟨rfl, rfl⟩
  go_wp2_with fail
  refine (h3 _).mono ?_
  rintro x w1 ⟨rfl, rfl⟩
  go_wp2_with fail
  refine (h4 _).mono ?_
  rintro x w1 ⟨rfl, rfl⟩
  clear h1 h2 h3 h4
  go_wp2_with fail
  generalize (w.alloc (.cells #[.int .i64 k, .int .i64 xe, .int .i64 xt, .int .i64 xq, .slice pv xv.length cv] 32)) = W0 at *
  refine wp_region_still_tail 7 (by kernel_rfl) (by kernel_rfl) ?_
  simp only [List.take_succ_cons, List.take_zero, List.drop_succ_cons, List.drop_zero]
  change wpStill _ _ W0.drew (fun a' => wpList _ _ _ _ a' W0.drew) _ _
  have hBW := below_drew hBW0
  replace HX := Lib.hid HX.out.drew
  replace hz4 : W0.drew.frozen? ⟨w.heap.size, 4, none⟩ = false := hz4
  have hr : RecAt W0.drew w.heap.size 0 ⟨k, xe, xt, xq, xv⟩ (.slice pv xv.length cv) := HR.out
  clear HR hBW0
  generalize W0.drew = W at *
  obtain ⟨d0, d1, d2, d3, d4⟩ := hr
  have c2 : W.cell? ⟨q, 2 + k, none⟩ = some (.int .i64 xe) := by rw [← he]; obtain ⟨_, _, _, _, ce, _⟩ := HX.out.opened; exact ce k hk
  repeat still_step
  refine wpStill_nil ?_
  dsimp only at *
  clear c2
  have hnext := next11_any W q s M V HX.out hOk.seqs k xe xq
  have hspan := span11_any W q s M V HX.out k xe xt
  have hoth := other11_any W q s M V HX.out k xe xt
  rw [hOk.last_again] at hnext
  have hbd := PL.again_bd s k xe xq
  have hj1 : s.again k xe xq = -1 := by omega
  rw [hj1] at hnext
  have hsb := PL.span_bd s k xe xt
  have hkn := fun h => PL.kind_of_none (s := s) (p := k) (e := xe) (t := xt) h
  have hks := fun x h hx => PL.kind_of_some (s := s) (p := k) (e := xe) (t := xt) (x := x) h hx
  have hsat := PL.span_at s k xe xt
  obtain ⟨vr, vs, c0, c1, -, -, hR, hS⟩ := HX.out.opened
  obtain ⟨ar, cr, rfl, hr1, hr2, -⟩ := hR
  obtain ⟨sa, cs, rfl, hs1, hs2, hs3⟩ := hS
  generalize PL.nextOf k xe s.R 0 = nx at *
  generalize s.S.any (PL.otherS k xe xt) = ob at *
  generalize hkd : s.kind k xe xt = kd at *
  have Hkd := Lib.hid hkd
  have He := Lib.hid he
  clear hkd he hj hj1 hbd
  rcases hc with ⟨c1', rfl⟩ | ⟨c1', c2', rfl⟩ | ⟨c1', c2', c3', rfl⟩
  · have c1n := bne_t c1'
    clear hs3 hsat hkn hks
    go_wp2_with fail
    refine hnext.mono ?_
    rintro y w1 ⟨rfl, rfl⟩
    go_wp2_with fail
    refine hspan.mono ?_
    rintro y w1 ⟨rfl, rfl⟩
    go_wp2_with fail
    go_ret2
    exact turnedX_same H.out hBW rfl rfl
  · subst c1'
    rcases hsb with hn | ⟨hs0, hsl⟩
    · rw [hn] at hspan
      have hkd := hkn (by omega)
      subst hkd
      have hob : ob = true := by simpa using c2'
      subst hob
      clear hs3 hsat hkn hks c2'
      go_wp2_with fail
      refine hnext.mono ?_
      rintro y w1 ⟨rfl, rfl⟩
      go_wp2_with fail
      refine hspan.mono ?_
      rintro y w1 ⟨rfl, rfl⟩
      go_wp2_with fail
      refine hoth.mono ?_
      rintro y w1 ⟨rfl, rfl⟩
      go_wp2_with fail
      go_ret2
      exact turnedX_same H.out hBW rfl rfl
    · obtain ⟨x, hx, -⟩ := hsat hs0
      have hkd := hks x hs0 hx
      obtain ⟨i, hi⟩ : ∃ i : Nat, s.span k xe xt = i := ⟨(s.span k xe xt).toNat, by omega⟩
      rw [hi, Int.toNat_natCast] at hx
      rw [hi] at hspan
      have hil : i < s.S.length := by omega
      obtain ⟨b, o, rfl, hat⟩ := hs3 _ _ hx
      obtain ⟨e0, e1, e2, e3, e4⟩ := hat
      subst hkd
      clear hs3 hsat hkn hks hs0 hsl hi hx
      by_cases hk0 : x.k = 0
      · have hob : ob = true := by simpa [hk0] using c2'
        subst hob
        have hk0' := bne_f hk0
        clear c2' hk0
        go_wp2_with fail
        refine hnext.mono ?_
        rintro y w1 ⟨rfl, rfl⟩
        go_wp2_with fail
        refine hspan.mono ?_
        rintro y w1 ⟨rfl, rfl⟩
        go_wp2_with fail
        refine hoth.mono ?_
        rintro y w1 ⟨rfl, rfl⟩
        go_wp2_with fail
        go_ret2
        exact turnedX_same H.out hBW rfl rfl
      · have hk0' := bne_t hk0
        clear c2' hk0
        go_wp2_with fail
        refine hnext.mono ?_
        rintro y w1 ⟨rfl, rfl⟩
        go_wp2_with fail
        refine hspan.mono ?_
        rintro y w1 ⟨rfl, rfl⟩
        go_wp2_with fail
        go_ret2
        exact turnedX_same H.out hBW rfl rfl
  · subst c1'
    rw [Bool.or_eq_false_iff] at c2'
    obtain ⟨c2a, hob⟩ := c2'
    subst hob
    have hk0 : kd = 0 := by simpa using c2a
    clear c2a
    rcases hsb with hn | ⟨hs0, hsl⟩
    · rw [hn] at hspan
      clear hs3 hsat hkn hks hk0
      go_wp2_with fail
      refine hnext.mono ?_
      rintro y w1 ⟨rfl, rfl⟩
      go_wp2_with fail
      refine hspan.mono ?_
      rintro y w1 ⟨rfl, rfl⟩
      go_wp2_with fail
      refine hoth.mono ?_
      rintro y w1 ⟨rfl, rfl⟩
      go_wp2_with fail
      go_ret2
      exact turnedX_same H.out hBW rfl rfl
    · obtain ⟨x, hx, -⟩ := hsat hs0
      have hkd := hks x hs0 hx
      obtain ⟨i, hi⟩ : ∃ i : Nat, s.span k xe xt = i := ⟨(s.span k xe xt).toNat, by omega⟩
      rw [hi, Int.toNat_natCast] at hx
      rw [hi] at hspan
      have hil : i < s.S.length := by omega
      obtain ⟨b, o, rfl, hat⟩ := hs3 _ _ hx
      obtain ⟨e0, e1, e2, e3, e4⟩ := hat
      have hk0' : (x.k != 0) = false := bne_f (hkd ▸ hk0)
      clear hs3 hsat hkn hks hs0 hsl hi hx hk0 hkd
      go_wp2_with fail
      refine hnext.mono ?_
      rintro y w1 ⟨rfl, rfl⟩
      go_wp2_with fail
      refine hspan.mono ?_
      rintro y w1 ⟨rfl, rfl⟩
      go_wp2_with fail
      refine hoth.mono ?_
      rintro y w1 ⟨rfl, rfl⟩
      go_wp2_with fail
      go_ret2
      exact turnedX_same H.out hBW rfl rfl

end Go.Proofs.Ytjjlbancofkinaa
