/-
  The reference's log: End.
-/
import Derived.Test.YtjjlbancofkinaaRefD
import Derived.Test.YtjjlbancofkinaaFresh
namespace Go.Proofs.Ytjjlbancofkinaa
open Go.RowKit

theorem source_of_owns {w : World} {base e size n : Nat} {v : Value} {xs : List Value} (h : w.ownsRow base e size v n xs) : Source w v n xs := by
  obtain ⟨a, c, hv, h1, h2, h3, h4⟩ := owns_form h
  refine ⟨a, c, hv, fun e => ?_, fun j u hu => ?_⟩
  · rcases Nat.eq_zero_or_pos n with h0 | h0
    · exact h0
    · exact absurd e (h4 h0)
  · cases a with
    | none =>
      have hn : n = 0 := by
        rcases Nat.eq_zero_or_pos n with h0 | h0
        · exact h0
        · exact absurd rfl (h4 h0)
      have h0 := h.1
      rw [hn, Nat.zero_mul] at h0
      rw [List.eq_nil_of_length_eq_zero h0] at hu
      simp at hu
    | some ad =>
      obtain ⟨g, rfl, hg⟩ := h3 ad rfl
      exact ⟨_, rfl, h.cells hg j u hu⟩
theorem source_of_bytes {w : World} {v : Value} {bs : List UInt8} (h : BytesAt w v bs) : Source w v bs.length ((nums bs).map (Value.int .u8)) := by
  obtain ⟨p, c, rfl, h1, h2, h3⟩ := h
  cases p with
  | none =>
    have h0 : bs = [] := by
      cases bs with
      | nil => rfl
      | cons x l => obtain ⟨b, o, e, _⟩ := h3 (by simp); cases e
    subst h0
    exact ⟨none, c, rfl, fun _ => rfl, fun j u hu => by simp [nums] at hu⟩
  | some a => exact ⟨some a, c, rfl, (fun e => by cases e), fun j u hu => ⟨a, rfl, bytes_news h3 j u hu⟩⟩

/-- The spans of the reference's log, and the log where another row of them stands. -/
theorem XRep.spn_put {W : World} {q : Nat} {s : PL.St} {M V : Nat → Prop} (h : XRep W q s M V) :
    ∃ vs, W.cell? ⟨q, 1, none⟩ = some vs ∧ W.ownsRow 0 68 5 vs s.S.length (spnCells s.S) ∧
      ∀ W' vs' S', Below W.heap.size W W' → W'.ownsRow W.heap.size 68 5 vs' S'.length (spnCells S') →
        XRep (W'.setCell ⟨q, 1, none⟩ vs') q { s with S := S' } (fun b => M b ∨ W.heap.size ≤ b ∧ vs'.ownBlock = some b) V := by
  obtain ⟨vr, vs, L, h1, h2, h3, h4, h7, h8, h10, h11, h12, h13⟩ := h
  refine ⟨vs, by simp [World.cell?, h1, xCells], h4, fun W' vs' S' hb hw => ?_⟩
  have hz : (W'.setCell ⟨q, 1, none⟩ vs').heap.size = W'.heap.size := by simp [World.setCell]
  have hq' : W'.heap[q]? = some (.cells (xCells vr vs s.E) 45 (0, 0)) := (hb.block q (h13 q (.inl h8))).trans h1
  have hk : ∀ k, k < W.heap.size → k ≠ q → (W'.setCell ⟨q, 1, none⟩ vs').heap[k]? = W.heap[k]? := fun k hk hn => by
    rw [heap_setCell_ne hn]; exact hb.block k hk
  have hvs : ∀ b, vs'.ownBlock = some b → W.heap.size ≤ b ∧ b < W'.heap.size := fun b e => hw.lt b e
  have hql := h13 q (.inl h8)
  refine ⟨vr, vs', L, ?_, owns_same h2 fun b e => hk b (h13 b (.inl (h10 b e).1)) (h10 b e).2, h3, owns_same ?_ fun b e => heap_setCell_ne (by have := hvs b e; omega),
    fun x hx => ⟨(h7 x hx).1.same fun b e => hk b ((h7 x hx).1.lt e) (fun e' => h12 b (e' ▸ h8) ((h7 x hx).2 b e)), (h7 x hx).2⟩, .inl h8, fun b e => ⟨.inl (h10 b e).1, (h10 b e).2⟩, fun b e => ⟨.inr ⟨(hvs b e).1, e⟩, by have := hvs b e; omega⟩, ?_, ?_⟩
  · rw [heap_setCell_self hq']; rfl
  · obtain ⟨hl, hw2⟩ := hw
    refine ⟨hl, ?_⟩
    rcases hw2 with h' | ⟨g, cap, cur, e1, e2, e3⟩
    · exact .inl h'
    · exact .inr ⟨g, cap, cur, e1, Nat.zero_le _, e3⟩
  · rintro b (h' | ⟨h', _⟩) hv
    · exact h12 b h' hv
    · have := h13 b (.inr hv); omega
  · intro b hb'
    rw [hz]
    rcases hb' with (h' | ⟨_, h'⟩) | h'
    · exact Nat.lt_of_lt_of_le (h13 b (.inl h')) hb.size
    · exact (hvs b h').2
    · exact Nat.lt_of_lt_of_le (h13 b (.inr h')) hb.size

/-- The log where the kind of a span is written. -/
theorem XRep.kind_put {W : World} {q : Nat} {s : PL.St} {M V : Nat → Prop} (h : XRep W q s M V) {i : Nat} (hi : i < s.S.length) :
    ∃ g c, W.cell? ⟨q, 1, none⟩ = some (.slice (some ⟨g, 0, none⟩) s.S.length c) ∧ s.S.length ≤ c ∧ c ≤ 9223372036854775807 ∧ SpnAt W g (i * 5) s.S[i] ∧ W.frozen? ⟨g, i * 5 + 4, none⟩ = false ∧ M g ∧
      ∀ k, XRep (W.setCell ⟨g, i * 5 + 4, none⟩ (.int .i64 k)) q { s with S := PL.setK s.S i k } M V := by
  obtain ⟨vr, vs, L, h1, h2, h3, h4, h7, h8, h10, h11, h12, h13⟩ := h
  obtain ⟨a, c, hv, hc1, hc2, hc3, hc4⟩ := owns_form h4
  obtain ⟨y, hy⟩ := Option.ne_none_iff_exists'.1 (hc4 (by omega))
  obtain ⟨g, rfl, hg⟩ := hc3 y hy
  subst hy
  subst hv
  obtain ⟨cur, hcur⟩ := owns_block h4 hg
  refine ⟨g, c, by simp [World.cell?, h1, xCells], hc1, hc2, spn_of_owns h4 hg (List.getElem?_eq_getElem hi), by simp [World.frozen?, hcur], (h11 g hg).1, fun k => ?_⟩
  obtain ⟨hs1, hs2⟩ := h4.stored (i * 5 + 4) (.int .i64 k)
  have hk : ∀ b, b ≠ g → (W.setCell ⟨g, i * 5 + 4, none⟩ (.int .i64 k)).heap[b]? = W.heap[b]? := fun b hb => heap_setCell_ne hb
  have hz : (W.setCell ⟨g, i * 5 + 4, none⟩ (.int .i64 k)).heap.size = W.heap.size := by simp [World.setCell]
  refine ⟨vr, _, L, (hk q (Ne.symm (h11 g hg).2)).trans h1, owns_same h2 fun b e => hk b fun e' => ?_, h3, ?_,
    fun x hx => ⟨(h7 x hx).1.same fun b e => hk b fun e' => h12 b (e' ▸ (h11 g hg).1) ((h7 x hx).2 b e), (h7 x hx).2⟩, h8, h10, h11, h12, fun b e => by rw [hz]; exact h13 b e⟩
  · subst e'; obtain ⟨cur', hc'⟩ := owns_block h2 e; rw [hcur] at hc'; cases hc'
  · rw [spnCells_set]; simp only [setK_length]; exact hs1

theorem XRep.drew {w : World} {q : Nat} {s : PL.St} {M V : Nat → Prop} (h : XRep w q s M V) : XRep w.drew q s M V := h.below (below_drew (below_refl _))

set_option maxRecDepth 100000 in
theorem end11_bad (w : World) (q : Nat) (s : PL.St) (M V : Nat → Prop) (h : XRep w q s M V) (a e t : Int) (c : Bool) (hok : ¬ (PL.okPE a e ∧ PL.okT t)) :
    Calls Try.prog 46 #[.pointer (some ⟨q, 0, none⟩), .int .i64 a, .int .i64 e, .int .i64 t, .bool c] w (TurnedX q M V (.int .i64 1) s w) := by
  have h1 := in_any a 0 7
  have h2 := in_any e 0 100
  have h3 := in_any t 1 100
  by_cases o1 : 0 ≤ a ∧ a ≤ 7
  · rw [show decide (0 ≤ a ∧ a ≤ 7) = true by simpa using o1] at h1
    by_cases o2 : 0 ≤ e ∧ e ≤ 100
    · rw [show decide (0 ≤ e ∧ e ≤ 100) = true by simpa using o2] at h2
      rw [show decide (1 ≤ t ∧ t ≤ 100) = false by simp; unfold PL.okPE PL.okT at hok; omega] at h3
      go_enter Try.func46, Try.ntmps46
      go_wp2_with fail
      refine (h1 _).mono ?_
      rintro x w1 ⟨rfl, rfl⟩
      go_wp2_with fail
      refine (h2 _).mono ?_
      rintro x w1 ⟨rfl, rfl⟩
      go_wp2_with fail
      refine (h3 _).mono ?_
      rintro x w1 ⟨rfl, rfl⟩
      go_wp2_with fail
      go_ret
      exact ⟨M, V, rfl, h, Fr.refl _ _, fun b hb => .inl hb, fun b hb => .inl hb⟩
    · rw [show decide (0 ≤ e ∧ e ≤ 100) = false by simpa using o2] at h2
      go_enter Try.func46, Try.ntmps46
      go_wp2_with fail
      refine (h1 _).mono ?_
      rintro x w1 ⟨rfl, rfl⟩
      go_wp2_with fail
      refine (h2 _).mono ?_
      rintro x w1 ⟨rfl, rfl⟩
      go_wp2_with fail
      go_ret
      exact ⟨M, V, rfl, h, Fr.refl _ _, fun b hb => .inl hb, fun b hb => .inl hb⟩
  · rw [show decide (0 ≤ a ∧ a ≤ 7) = false by simpa using o1] at h1
    go_enter Try.func46, Try.ntmps46
    go_wp2_with fail
    refine (h1 _).mono ?_
    rintro x w1 ⟨rfl, rfl⟩
    go_wp2_with fail
    go_ret
    exact ⟨M, V, rfl, h, Fr.refl _ _, fun b hb => .inl hb, fun b hb => .inl hb⟩

set_option maxRecDepth 100000 in
set_option maxHeartbeats 1600000 in
theorem end11_new (w : World) (q : Nat) (s : PL.St) (M V : Nat → Prop) (h : XRep w q s M V) (hn : s.S.length ≤ 1099511627776) (a e t : Int) (c : Bool) (hok : PL.okPE a e) (hot : PL.okT t) (hi : s.span a e t < 0) :
    Calls Try.prog 46 #[.pointer (some ⟨q, 0, none⟩), .int .i64 a, .int .i64 e, .int .i64 t, .bool c] w (TurnedX q M V (.int .i64 0) { s with S := s.S ++ [⟨a, e, t, -1, kindOf c⟩] } w) := by
  have h1 := in_any a 0 7
  have h2 := in_any e 0 100
  have h3 := in_any t 1 100
  have hsp := span11_any w q s M V h a e t
  rw [show decide (0 ≤ a ∧ a ≤ 7) = true by simp; unfold PL.okPE at hok; omega] at h1
  rw [show decide (0 ≤ e ∧ e ≤ 100) = true by simp; unfold PL.okPE at hok; omega] at h2
  rw [show decide (1 ≤ t ∧ t ≤ 100) = true by simp; unfold PL.okT at hot; omega] at h3
  generalize s.span a e t = i at *
  obtain ⟨i0, hi0, hz0, hz1, hz2⟩ := info_parts Try.infoSpan
  obtain ⟨vs, c1, hown, hput⟩ := h.spn_put
  have hM := h.self
  have hlt := h.bound q (.inl hM)
  have f1 : w.frozen? ⟨q, 1, none⟩ = false := by obtain ⟨_, _, _, _, _, fz, _⟩ := h.opened; exact fz 1
  obtain ⟨av, cv, rfl, hv1, hv2, hv3, hv4⟩ := owns_form hown
  have hkc := kindOf_cases c
  generalize kindOf c = kd at *
  have hsrc := (source_of_owns hown).same (below_alloc (below_refl w) (.cells #[] 68))
  have hem := Empty.made w 68 (Nat.le_refl w.heap.size)
  have hPut := Lib.hid hput
  clear hok hot hown hput h hv3 hv4
  go_enter Try.func46, Try.ntmps46
  go_wp2_with fail
  refine (h1 _).mono ?_
  rintro x w1 ⟨rfl, rfl⟩
  go_wp2_with fail
  refine (h2 _).mono ?_
  rintro x w1 ⟨rfl, rfl⟩
  go_wp2_with fail
  refine (h3 _).mono ?_
  rintro x w1 ⟨rfl, rfl⟩
  clear h1 h2 h3
  rcases hkc with ⟨rfl, rfl⟩ | ⟨rfl, rfl⟩
  all_goals
    go_wp2_with fail
    refine hsp.mono ?_
    rintro x w1 ⟨rfl, rfl⟩
    go_wp2_with (at_builtin; refine wpList_append_fresh rfl _ _ _ rfl w.heap.size 68 i0 (.agg #[.int .i64 0, .int .i64 0, .int .i64 0, .int .i64 0, .int .i64 0]) 5 40 Try.underlying42 hi0 hz0 hz1 hz2 rfl (by decide) _ _ s.S.length (spnCells s.S) (by rfl) (by rfl) hem hsrc (spnCells_length _) (spn_oneCell _) (by omega) (by unfold maxLen; omega) (by simp) ?_)
    intro v2 w2 hown2 hb2
    have hbb := (below_alloc (below_refl w) (.cells #[] 68)).trans (hb2.mono (by omega))
    have hz2' := hbb.size
    obtain ⟨a2, c2, rfl, k1, k2, k3, k4⟩ := owns_form hown2
    have hlt2 := fun b e => (hown2.lt b e).1
    have hq2 := Lib.hid c1
    have fq2 := Lib.hid f1
    have HB := Lib.hid hbb
    have H2 := Lib.hid hlt2
    clear hsrc hem k3 k4 hb2 hlt2 c1 f1 hbb
    go_wp2_with (at_builtin; refine wpList_append_lies _ rfl _ _ _ rfl w.heap.size 68 i0 (.agg #[.int .i64 0, .int .i64 0, .int .i64 0, .int .i64 0, .int .i64 0]) 5 40 Try.underlying42 hi0 hz0 hz1 hz2 rfl (by decide) _ _ _ (by rfl) (hown2.alloc _) ⟨w2.heap.size, 0, none⟩ 1 1 (spnCells [⟨a, e, t, -1, _⟩]) (by rfl) rfl (spn_new w2 68 ⟨a, e, t, -1, _⟩) (spn_oneCell _) (by omega) (by unfold maxLen; omega) (by omega) (by simp; omega) (w2.heap.size + 1) (by simp) ?_)
    intro g cap w3 hown3 hgrow hat hlt3
    rw [← spnCells_append] at hown3
    have hB3 := (below_alloc HB.out (.cells #[.int .i64 a, .int .i64 e, .int .i64 t, .int .i64 (-1), .int .i64 _] 68)).grown hgrow (by simp; omega) (fun b e => H2.out b e)
    have hX := Lib.hid (hPut.out w3 (.slice (some ⟨g, 0, none⟩) (s.S.length + 1) cap) (s.S ++ [⟨a, e, t, -1, _⟩]) hB3 (by simpa using hown3))
    have hq3 := cell_same hq2.out (hB3.block q hlt)
    have fq3 := frozen_same fq2.out (hB3.block q hlt)
    have hFin := Lib.hid ((Fr.of_below (M := M) hB3).setCell (.inl hM) (o := 1) (.slice (some ⟨g, 0, none⟩) (s.S.length + 1) cap))
    clear hPut hgrow hown3 hB3 hat hown2 H2 HB hsp
    go_wp2_with fail
    go_ret
    exact ⟨_, _, rfl, hX.out, hFin.out, fun b hb => hb.imp id (fun h => h.1), fun b hb => .inl hb⟩

set_option maxRecDepth 100000 in
set_option maxHeartbeats 1600000 in
theorem end11_old (w : World) (q : Nat) (s : PL.St) (M V : Nat → Prop) (h : XRep w q s M V) (hn : s.S.length ≤ 1099511627776) (a e t : Int) (c : Bool) (hok : PL.okPE a e) (hot : PL.okT t) (j : Nat) (hj : j < s.S.length) (hi : s.span a e t = (j : Int)) :
    Calls Try.prog 46 #[.pointer (some ⟨q, 0, none⟩), .int .i64 a, .int .i64 e, .int .i64 t, .bool c] w
      (TurnedX q M V (.int .i64 (if s.S[j].k ≠ 0 ∧ s.S[j].k ≠ kindOf c then 6 else 0)) (if s.S[j].k ≠ 0 ∧ s.S[j].k ≠ kindOf c then s else { s with S := PL.setK s.S j (kindOf c) }) w) := by
  have h1 := in_any a 0 7
  have h2 := in_any e 0 100
  have h3 := in_any t 1 100
  have hsp := span11_any w q s M V h a e t
  rw [hi] at hsp
  rw [show decide (0 ≤ a ∧ a ≤ 7) = true by simp; unfold PL.okPE at hok; omega] at h1
  rw [show decide (0 ≤ e ∧ e ≤ 100) = true by simp; unfold PL.okPE at hok; omega] at h2
  rw [show decide (1 ≤ t ∧ t ≤ 100) = true by simp; unfold PL.okT at hot; omega] at h3
  clear hok hot hi
  have hc : ∀ k : Int, k = s.S[j].k → (k = 0 ∨ k ≠ 0 ∧ (k = kindOf c ∨ k ≠ kindOf c)) := fun k _ => by omega
  have hc := Lib.hid (hc _ rfl)
  have hkc := kindOf_cases c
  generalize kindOf c = kd at *
  generalize hst : (if s.S[j].k ≠ 0 ∧ s.S[j].k ≠ kd then s else { s with S := PL.setK s.S j kd }) = st
  generalize hrv : (if s.S[j].k ≠ 0 ∧ s.S[j].k ≠ kd then (6 : Int) else 0) = rv
  have Hst := Lib.hid hst
  have Hrv := Lib.hid hrv
  clear hst hrv
  obtain ⟨i0, hi0, hz0, hz1, hz2⟩ := info_parts Try.infoSpan
  obtain ⟨vs, c1, hown, hput⟩ := h.spn_put
  have hM := h.self
  have hlt := h.bound q (.inl hM)
  have f1 : w.frozen? ⟨q, 1, none⟩ = false := by obtain ⟨_, _, _, _, _, fz, _⟩ := h.opened; exact fz 1
  have hat := fun g hg => spn_of_owns hown (g := g) hg (List.getElem?_eq_getElem hj)
  obtain ⟨av, cv, rfl, hv1, hv2, hv3, hv4⟩ := owns_form hown
  obtain ⟨y, rfl⟩ := Option.ne_none_iff_exists'.1 (hv4 (by omega))
  obtain ⟨g0, rfl, hg0⟩ := hv3 y rfl
  obtain ⟨d0, d1, d2, d3, d4⟩ := hat g0 hg0
  have hsrc := (source_of_owns hown).same (below_alloc (below_refl w) (.cells #[] 68))
  have hem := Empty.made w 68 (Nat.le_refl w.heap.size)
  have hPut := Lib.hid hput
  have hX0 := Lib.hid h
  clear hown hput h hv3 hv4 hat hg0 d0 d1 d2 d3
  have Hgk := Lib.hid (rfl : s.S[j].k = s.S[j].k)
  generalize hgk : s.S[j].k = k at d4 hc Hst Hrv
  replace Hgk := Lib.hid hgk
  clear hgk
  go_enter Try.func46, Try.ntmps46
  go_wp2_with fail
  refine (h1 _).mono ?_
  rintro x w1 ⟨rfl, rfl⟩
  go_wp2_with fail
  refine (h2 _).mono ?_
  rintro x w1 ⟨rfl, rfl⟩
  go_wp2_with fail
  refine (h3 _).mono ?_
  rintro x w1 ⟨rfl, rfl⟩
  clear h1 h2 h3
  rcases hkc with ⟨rfl, rfl⟩ | ⟨rfl, rfl⟩
  all_goals
    go_wp2_with fail
    refine hsp.mono ?_
    rintro x w1 ⟨rfl, rfl⟩
    clear hsp
    rcases hc.out with h0 | ⟨h0, h1 | h1⟩
    rotate_left 2
    · have g1' := bne_t h0
      have g2' := bne_t h1
      have H1 := Lib.hid h0
      have H2 := Lib.hid h1
      clear h0 h1 hPut hem hsrc hc
      go_wp2_with fail
      go_ret
      refine ⟨M, V, ?_, ?_, Fr.refl _ _, fun b hb => .inl hb, fun b hb => .inl hb⟩
      · rw [← Hrv.out, if_pos ⟨H1.out, H2.out⟩]; rfl
      · rw [← Hst.out, if_pos ⟨H1.out, H2.out⟩]; exact hX0.out
    · have g1' : (k != 0) = false := bne_f h0
      have HK := Lib.hid h0
      clear h0 hc
      go_wp2_with (at_builtin; refine wpList_append_fresh rfl _ _ _ rfl w.heap.size 68 i0 (.agg #[.int .i64 0, .int .i64 0, .int .i64 0, .int .i64 0, .int .i64 0]) 5 40 Try.underlying42 hi0 hz0 hz1 hz2 rfl (by decide) _ _ s.S.length (spnCells s.S) (by rfl) (by rfl) hem hsrc (spnCells_length _) (spn_oneCell _) (by omega) (by unfold maxLen; omega) (by simp) ?_)
      intro v2 w2 hown2 hb2
      have hbb := (below_alloc (below_refl w) (.cells #[] 68)).trans (hb2.mono (by omega))
      have hX := hPut.out w2 v2 s.S hbb hown2
      have hat2 := fun g hg => spn_of_owns hown2 (g := g) hg (List.getElem?_eq_getElem hj)
      have hlt2 := fun b e => (hown2.lt b e).1
      obtain ⟨a2, c2, rfl, k1, k2, k3, k4⟩ := owns_form hown2
      obtain ⟨y, rfl⟩ := Option.ne_none_iff_exists'.1 (k4 (by omega))
      obtain ⟨g2, rfl, hg2⟩ := k3 y rfl
      obtain ⟨e0, e1, e2, e3, e4⟩ := hat2 g2 hg2
      rw [Hgk.out] at e4
      have hgq : ¬ g2 = q := by have := hlt2 g2 hg2; omega
      have hqg : ¬ q = g2 := fun e => hgq e.symm
      obtain ⟨cur, hcur⟩ := owns_block hown2 hg2
      have fg : w2.frozen? ⟨g2, j * 5 + 4, none⟩ = false := by simp [World.frozen?, hcur]
      have c5 := cell_same c1 (hbb.block q hlt)
      have f5 := frozen_same f1 (hbb.block q hlt)
      obtain ⟨g', c', r1, rc1, rc2, rat, rf, rM, rput⟩ := hX.kind_put (i := j) hj
      have hc5 : (w2.setCell ⟨q, 1, none⟩ (.slice (some ⟨g2, 0, none⟩) s.S.length c2)).cell? ⟨q, 1, none⟩ = some (.slice (some ⟨g2, 0, none⟩) s.S.length c2) := World.cell?_setCell_same' _ _ _ (by rw [c5]; rfl)
      rw [r1] at hc5
      simp only [Option.some.injEq, Value.slice.injEq, Addr.mk.injEq, and_true, true_and] at hc5
      obtain ⟨rfl, -⟩ := hc5
      have HX := Lib.hid rput
      have HF := Lib.hid (((Fr.of_below (M := M) hbb).setCell (.inl hM) (o := 1) (.slice (some ⟨g', 0, none⟩) s.S.length c2)).setCell (k := g') (o := j * 5 + 4) (.inr (hlt2 g' hg2)))
      clear r1 rc1 rc2 rat rf rM rput e0 e1 e2 e3 hcur k3 k4 hX hat2 hlt2 hbb hb2 hown2 hPut hem hsrc c1 f1 d4 hg2
      go_wp2_with fail
      go_ret
      refine ⟨(fun b => M b ∨ w.heap.size ≤ b ∧ (Value.slice (some ⟨g', 0, none⟩) s.S.length c2).ownBlock = some b), V, ?_, ?_, HF.out _, fun b hb => hb.imp id (fun h => h.1), fun b hb => .inl hb⟩
      · rw [← Hrv.out, if_neg (fun x => x.1 HK.out)]; rfl
      · rw [← Hst.out, if_neg (fun x => x.1 HK.out)]; exact HX.out _
    · have g1' := bne_t h0
      have g2' := bne_f h1
      have HK := Lib.hid h1
      clear h0 h1 hc
      go_wp2_with (at_builtin; refine wpList_append_fresh rfl _ _ _ rfl w.heap.size 68 i0 (.agg #[.int .i64 0, .int .i64 0, .int .i64 0, .int .i64 0, .int .i64 0]) 5 40 Try.underlying42 hi0 hz0 hz1 hz2 rfl (by decide) _ _ s.S.length (spnCells s.S) (by rfl) (by rfl) hem hsrc (spnCells_length _) (spn_oneCell _) (by omega) (by unfold maxLen; omega) (by simp) ?_)
      intro v2 w2 hown2 hb2
      have hbb := (below_alloc (below_refl w) (.cells #[] 68)).trans (hb2.mono (by omega))
      have hX := hPut.out w2 v2 s.S hbb hown2
      have hat2 := fun g hg => spn_of_owns hown2 (g := g) hg (List.getElem?_eq_getElem hj)
      have hlt2 := fun b e => (hown2.lt b e).1
      obtain ⟨a2, c2, rfl, k1, k2, k3, k4⟩ := owns_form hown2
      obtain ⟨y, rfl⟩ := Option.ne_none_iff_exists'.1 (k4 (by omega))
      obtain ⟨g2, rfl, hg2⟩ := k3 y rfl
      obtain ⟨e0, e1, e2, e3, e4⟩ := hat2 g2 hg2
      rw [Hgk.out] at e4
      have hgq : ¬ g2 = q := by have := hlt2 g2 hg2; omega
      have hqg : ¬ q = g2 := fun e => hgq e.symm
      obtain ⟨cur, hcur⟩ := owns_block hown2 hg2
      have fg : w2.frozen? ⟨g2, j * 5 + 4, none⟩ = false := by simp [World.frozen?, hcur]
      have c5 := cell_same c1 (hbb.block q hlt)
      have f5 := frozen_same f1 (hbb.block q hlt)
      obtain ⟨g', c', r1, rc1, rc2, rat, rf, rM, rput⟩ := hX.kind_put (i := j) hj
      have hc5 : (w2.setCell ⟨q, 1, none⟩ (.slice (some ⟨g2, 0, none⟩) s.S.length c2)).cell? ⟨q, 1, none⟩ = some (.slice (some ⟨g2, 0, none⟩) s.S.length c2) := World.cell?_setCell_same' _ _ _ (by rw [c5]; rfl)
      rw [r1] at hc5
      simp only [Option.some.injEq, Value.slice.injEq, Addr.mk.injEq, and_true, true_and] at hc5
      obtain ⟨rfl, -⟩ := hc5
      have HX := Lib.hid rput
      have HF := Lib.hid (((Fr.of_below (M := M) hbb).setCell (.inl hM) (o := 1) (.slice (some ⟨g', 0, none⟩) s.S.length c2)).setCell (k := g') (o := j * 5 + 4) (.inr (hlt2 g' hg2)))
      clear r1 rc1 rc2 rat rf rM rput e0 e1 e2 e3 hcur k3 k4 hX hat2 hlt2 hbb hb2 hown2 hPut hem hsrc c1 f1 d4 hg2
      go_wp2_with fail
      go_ret
      refine ⟨(fun b => M b ∨ w.heap.size ≤ b ∧ (Value.slice (some ⟨g', 0, none⟩) s.S.length c2).ownBlock = some b), V, ?_, ?_, HF.out _, fun b hb => hb.imp id (fun h => h.1), fun b hb => .inl hb⟩
      · rw [← Hrv.out, if_neg (fun x => x.2 HK.out)]; rfl
      · rw [← Hst.out, if_neg (fun x => x.2 HK.out)]; exact HX.out _

theorem end11_any (w : World) (q : Nat) (s : PL.St) (M V : Nat → Prop) (h : XRep w q s M V) (hn : s.S.length ≤ 1099511627776) (a e t : Int) (c : Bool) :
    Calls Try.prog 46 #[.pointer (some ⟨q, 0, none⟩), .int .i64 a, .int .i64 e, .int .i64 t, .bool c] w (TurnedX q M V (.int .i64 (s.ends a e t c).1) (s.ends a e t c).2 w) := by
  by_cases hok : PL.okPE a e ∧ PL.okT t
  · have hb := idx_ge (PL.isSpn a e t) s.S 0
    by_cases hi : s.span a e t < 0
    · have he : s.ends a e t c = (0, { s with S := s.S ++ [⟨a, e, t, -1, kindOf c⟩] }) := by
        unfold PL.St.ends; rw [if_neg (fun x => x hok)]; simp only; rw [if_pos hi]; rfl
      rw [he]
      exact end11_new w q s M V h hn a e t c hok.1 hok.2 hi
    · have hj : (s.span a e t).toNat < s.S.length := by
        have : s.span a e t = PL.idx (PL.isSpn a e t) s.S (0 : Nat) := rfl
        omega
      have hi' : s.span a e t = ((s.span a e t).toNat : Int) := by omega
      have he : s.ends a e t c = (if s.S[(s.span a e t).toNat].k ≠ 0 ∧ s.S[(s.span a e t).toNat].k ≠ kindOf c then 6 else 0, if s.S[(s.span a e t).toNat].k ≠ 0 ∧ s.S[(s.span a e t).toNat].k ≠ kindOf c then s else { s with S := PL.setK s.S (s.span a e t).toNat (kindOf c) }) := by
        unfold PL.St.ends kindOf; rw [if_neg (fun x => x hok)]; simp only; rw [if_neg hi]
        have : s.S.getD (s.span a e t).toNat ⟨a, e, t, -1, 0⟩ = s.S[(s.span a e t).toNat] := by simp [List.getD, hj]
        rw [this]
        exact ite_pair _ _ _ _ _
      rw [he]
      exact end11_old w q s M V h hn a e t c hok.1 hok.2 _ hj hi'
  · have he : s.ends a e t c = (1, s) := by unfold PL.St.ends; rw [if_pos hok]
    rw [he]
    exact end11_bad w q s M V h a e t c hok

end Go.Proofs.Ytjjlbancofkinaa
