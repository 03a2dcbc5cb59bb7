/-
  The functions of a partition's log that only read it, more.
-/
import Derived.Test.YtjjlbancofkinaaPlogA
import Derived.Deep.RegionHeld3
namespace Go.Proofs.Ytjjlbancofkinaa
open Go.RowKit

theorem recAt_new (w : World) (t : TypeId) (r : PL.Rec) (v : Value) : RecAt (w.alloc (.cells #[.int .i64 r.p, .int .i64 r.e, .int .i64 r.t, .int .i64 r.q, v] t)) w.heap.size 0 r v := by
  refine ⟨?_, ?_, ?_, ?_, ?_⟩ <;> simp [go_sem]

set_option maxHeartbeats 400000 in
theorem isRecord_any (r : PL.Rec) (v : Value) (w : World) (hv : BytesAt w v r.v) :
    Calls Try.prog 50 #[recV r v] w (Ret (.bool (decide (PL.okRec r))) w) := by
  obtain ⟨p, e, t, q, bs⟩ := r
  obtain ⟨pv, cv, rfl, hv1, hv2, hv3⟩ := hv
  clear hv3
  have h0 := fun W => isProducer_any p e W
  have h1 := fun W => isTxn_any t W
  have hd : decide (PL.okRec ⟨p, e, t, q, bs⟩) = (decide (PL.okPE p e) && (decide (PL.okT t) && (decide (0 ≤ q) && (decide (q ≤ 1048576) && decide (bs.length ≤ 200))))) := by
    rw [Bool.eq_iff_iff]
    simp only [Bool.and_eq_true, decide_eq_true_eq]
    rfl
  rw [hd]
  clear hd
  generalize decide (PL.okPE p e) = d0 at *
  generalize decide (PL.okT t) = d1 at *
  unfold recV
  dsimp only at *
  have hc : d0 = false ∨ d0 = true ∧ (d1 = false ∨ d1 = true ∧ (¬ 0 ≤ q ∨ 0 ≤ q ∧ (¬ q ≤ 1048576 ∨ q ≤ 1048576 ∧ (¬ bs.length ≤ 200 ∨ bs.length ≤ 200)))) := by cases d0 <;> cases d1 <;> simp <;> omega
  rcases hc with rfl | ⟨rfl, rfl | ⟨rfl, h3 | ⟨h3, h4 | ⟨h4, h5 | h5⟩⟩⟩⟩
  all_goals
    go_enter Try.func50, Try.ntmps50
    go_wp2_with fail
    refine (h0 _).mono ?_
    rintro e' w1 ⟨rfl, hb1⟩
    have c0 := (recAt_new w 32 ⟨p, e, t, q, bs⟩ (.slice pv bs.length cv)).below hb1
    obtain ⟨c0, c1, c2, c3, c4⟩ := c0
    clear h0
    go_wp2_with (go_at_call 56; refine (h1 _).mono ?_; rintro e' w2 ⟨rfl, hb2⟩; replace c3 := cell_below c3 hb2; replace c4 := cell_below c4 hb2; clear h1)
    all_goals
      go_ret
      first
        | exact Ret.bool (by first | (simp_all; done) | (simp_all; omega)) (below_step (below_step (below_alloc (below_refl _) _) hb1) hb2)
        | exact Ret.bool (by simp_all) (below_step (below_alloc (below_refl _) _) hb1)

theorem again_any (w : World) (p : Nat) (s : PL.St) (M V : Nat → Prop) (h : PRep w p s M V) (r : PL.Rec) (v : Value) (hv : BytesAt w v r.v) :
    Calls Try.prog 51 #[.pointer (some ⟨p, 0, none⟩), recV r v] w (Ret (.int .i64 (s.again r.p r.e r.q)) w) := by
  obtain ⟨vr, vs, m, G, c0, c1, c2, f0, f1, f2, hR, hS, hM, hE, hm⟩ := h.opened
  have hlt := lt_of_cell c0
  obtain ⟨ps, cs, rfl, hs1, hs2, hs3⟩ := hR
  have hR : RecsAt w _ s.R := ⟨ps, cs, rfl, hs1, hs2, hs3⟩
  clear c1 c2 hS hM hE hm h hs3
  have hcon := fun W (hb : Below w.heap.size w W) h1 => indexRec_any s.R _ 68 #[.pointer (some ⟨w.heap.size, 0, none⟩)] W (hR.below hb) (PL.isSeq r.p r.e r.q)
    (enters_of Try.func68 (by kernel_rfl) rfl) (fun x u W' hb' hu => again1_any x u r v _ W' (RecAt.below h1 hb') hu)
  clear hR
  have hnew := recAt_new w 32 r v
  obtain ⟨pv, cv, rfl, _, _, _⟩ := hv
  unfold recV
  go_enter Try.func51, Try.ntmps51
  go_wp2_with fail
  refine (hcon _ (below_alloc (below_refl _) _) hnew).mono ?_
  rintro e w1 ⟨rfl, hb1⟩
  go_wp2_with fail
  go_ret
  exact Ret.int rfl (below_step (below_alloc (below_refl _) _) hb1)

theorem len_any (w : World) (p : Nat) (s : PL.St) (M V : Nat → Prop) (h : PRep w p s M V) :
    Calls Try.prog 25 #[.pointer (some ⟨p, 0, none⟩)] w (Ret (.int .i64 s.R.length) w) := by
  obtain ⟨vr, vs, m, G, c0, c1, c2, f0, f1, f2, hR, hS, hM, hE, hm⟩ := h.opened
  obtain ⟨ps, cs, rfl, hs1, hs2, hs3⟩ := hR
  clear c1 c2 hS hM hE hm h hs3
  go_enter Try.func25, Try.ntmps25
  go_wp2
  go_ret
  exact Ret.int rfl (below_refl _)
theorem len_nil (w : World) : Calls Try.prog 25 #[.pointer none] w (Ret (.int .i64 0) w) := by
  go_enter Try.func25, Try.ntmps25
  go_wp2
  go_ret
  exact Ret.int rfl (below_refl _)

theorem Try.infoByte : (Try.prog.info? 5).map (fun i => (i.zero, i.size, i.bytes)) = some (some (.int .u8 0), 1, 1) := by kernel_rfl
theorem Try.infoSpan : (Try.prog.info? 68).map (fun i => (i.zero, i.size, i.bytes)) = some (some (.agg #[.int .i64 0, .int .i64 0, .int .i64 0, .int .i64 0, .int .i64 0]), 5, 40) := by kernel_rfl
theorem Try.infoRec : (Try.prog.info? 32).map (fun i => (i.zero, i.size, i.bytes)) = some (some (.agg #[.int .i64 0, .int .i64 0, .int .i64 0, .int .i64 0, .slice none 0 0]), 5, 56) := by kernel_rfl

theorem bytesEqual_same' (u v : Value) (bs cs : List UInt8) (w : World) (hu : BytesAt w u bs) (hv : BytesAt w v cs) :
    Calls Try.prog 52 #[u, v] w (fun e w' => e = .returned (.bool (decide (bs = cs))) ∧ w' = w) := by
  obtain ⟨pu, cu, rfl, hu1, hu2, hu3⟩ := hu
  obtain ⟨pv, cv, rfl, hv1, hv2, hv3⟩ := hv
  have hcu : (convert 30 9 (.slice pu bs.length cu)).run Try.prog w = .ok (.string (strOfNums (nums bs))) w := by
    rcases Nat.eq_zero_or_pos bs.length with h0 | h0
    · have : bs = [] := List.eq_nil_of_length_eq_zero h0
      subst this
      exact run_convert_bytes_zero w _ _ Try.underlying30 Try.underlying5 pu cu _ Try.underlying9
    · obtain ⟨b, o, rfl, hc⟩ := hu3.at h0
      exact run_convert_bytes_arg (P := Try.prog) w _ _ Try.underlying30 Try.underlying5 b o bs.length cu (nums bs) (nums_length bs) hc _ Try.underlying9
  have hcv : (convert 30 9 (.slice pv cs.length cv)).run Try.prog w = .ok (.string (strOfNums (nums cs))) w := by
    rcases Nat.eq_zero_or_pos cs.length with h0 | h0
    · have : cs = [] := List.eq_nil_of_length_eq_zero h0
      subst this
      exact run_convert_bytes_zero w _ _ Try.underlying30 Try.underlying5 pv cv _ Try.underlying9
    · obtain ⟨b, o, rfl, hc⟩ := hv3.at h0
      exact run_convert_bytes_arg (P := Try.prog) w _ _ Try.underlying30 Try.underlying5 b o cs.length cv (nums cs) (nums_length cs) hc _ Try.underlying9
  have he : ((strOfNums (nums bs)).toList == (strOfNums (nums cs)).toList) = decide (bs = cs) := by
    rw [strOfNums_nums, strOfNums_nums, ByteArray.toList_mk, ByteArray.toList_mk, Bool.eq_iff_iff]
    simp
  clear hu3 hv3
  go_enter Try.func52, Try.ntmps52
  go_wp2
  go_ret
  exact ⟨rfl, rfl⟩

theorem bytesEqual_any (u v : Value) (bs cs : List UInt8) (w : World) (hu : BytesAt w u bs) (hv : BytesAt w v cs) :
    Calls Try.prog 52 #[u, v] w (Ret (.bool (decide (bs = cs))) w) :=
  (bytesEqual_same' u v bs cs w hu hv).mono fun _ _ h => ⟨h.1, h.2 ▸ below_refl w⟩

/-! ### copies -/
theorem bytes_of_owns {w : World} {base e : Nat} {v : Value} {bs : List UInt8} (h : w.ownsRow base e 1 v bs.length ((nums bs).map (Value.int .u8))) : BytesAt w v bs := by
  obtain ⟨a, c, hv, h1, h2, h3, h4⟩ := owns_form h
  refine ⟨a, c, hv, h1, h2, fun hn => ?_⟩
  obtain ⟨y, hy⟩ := Option.ne_none_iff_exists'.1 (h4 hn)
  obtain ⟨g, rfl, hg⟩ := h3 y hy
  refine ⟨g, 0, hy, fun i hi => ?_⟩
  have hl : i < (nums bs).length := by rw [nums_length]; exact hi
  have := h.cells hg i (.int .u8 ((nums bs).getD i 0)) (by rw [List.getElem?_map, List.getD_eq_getElem?_getD, List.getElem?_eq_getElem hl]; rfl)
  rw [add_zero_block] at this
  rw [Nat.zero_add]
  exact this
theorem owns_blk {w : World} {base e size n : Nat} {v : Value} {xs : List Value} (h : w.ownsRow base e size v n xs) {b : Nat} (hb : Value.blk v = some b) : base ≤ b ∧ b < w.heap.size := by
  refine h.lt b ?_
  rcases h.2 with ⟨rfl, _⟩ | ⟨g, cap, cur, rfl, _⟩
  · cases hb
  · cases n with
    | zero => cases hb
    | succ n => exact hb
theorem oneCell_int (k : IntKind) (xs : List Int) : ∀ u ∈ xs.map (Value.int k), u.oneCell' = true := by
  intro u hu
  obtain ⟨x, _, rfl⟩ := List.mem_map.1 hu
  rfl
theorem bytes_news {w : World} {a : Addr} {bs : List UInt8} (h : Lib.BytesIn w (some a) bs.length (nums bs)) : ∀ j u, ((nums bs).map (Value.int .u8))[j]? = some u → w.cell? (a.add j) = some u := by
  intro j u hu
  have hj : j < (nums bs).length := by have := (List.getElem?_eq_some_iff.1 hu).1; simpa using this
  obtain ⟨b, o, e, hc⟩ := h (by rw [nums_length] at hj; omega)
  cases e
  rw [List.getElem?_map, List.getElem?_eq_getElem hj] at hu
  cases hu
  have := hc j (by rw [nums_length] at hj; exact hj)
  rw [List.getD_eq_getElem?_getD, List.getElem?_eq_getElem hj] at this
  rw [Go.WideShapes.add_plain]
  exact this

/-- The block of a row of bytes is one of bytes. -/
def IsBytes (w : World) (v : Value) : Prop := ∀ b, Value.blk v = some b → ∃ cs fr, w.heap[b]? = some (.cells cs 5 fr)
theorem IsBytes.same {w w' : World} {v : Value} (h : IsBytes w v) (hb : ∀ b, Value.blk v = some b → w'.heap[b]? = w.heap[b]?) : IsBytes w' v := fun b e => by
  obtain ⟨cs, fr, hc⟩ := h b e; exact ⟨cs, fr, (hb b e).trans hc⟩
theorem isBytes_owns {w : World} {base size n : Nat} {v : Value} {xs : List Value} (h : w.ownsRow base 5 size v n xs) : IsBytes w v := fun b hb => by
  rcases h.2 with ⟨rfl, _⟩ | ⟨g, cap, cur, rfl, _, hg, _⟩
  · cases hb
  · cases n with
    | zero => cases hb
    | succ n => simp [Value.blk] at hb; subst hb; exact ⟨cur, _, hg⟩
/-- A copy: the same bytes, in new memory. -/
def Copied (w : World) (bs : List UInt8) (v : Value) (w' : World) : Prop := BytesAt w' v bs ∧ (∀ b, Value.blk v = some b → w.heap.size ≤ b) ∧ IsBytes w' v
theorem bytesClone_any (u : Value) (bs : List UInt8) (w : World) (hu : BytesAt w u bs) (hn : bs.length ≤ 140737488351232) :
    Calls Try.prog 48 #[u] w (RetP (Copied w bs) w) := by
  obtain ⟨pu, cu, rfl, hu1, hu2, hu3⟩ := hu
  have hq : ∀ (w : World) a n c, (binOp .eql 30 (.slice a n c) (.slice none 0 0)).run Try.prog w = .ok (.bool a.isNone) w := fun w a n c => Lib.run_eql_slice_nil w _ _ a n c 0 0 Try.underlying30
  cases pu with
  | none =>
    have h0 : bs = [] := by
      cases bs with
      | nil => rfl
      | cons x l => obtain ⟨b, o, e, _⟩ := hu3 (by simp); cases e
    subst h0
    go_enter Try.func48, Try.ntmps48
    go_wp2_with fail
    go_ret
    exact RetP.mk ⟨⟨none, 0, rfl, Nat.le_refl _, by omega, Lib.BytesIn.nil _ _ _⟩, (fun b hb => by cases hb), fun b hb => by cases hb⟩ (below_refl _)
  | some a =>
    have hnews := bytes_news (BytesIn_same (w' := w.alloc (.cells #[] 5)) hu3 fun x e h0 => (below_alloc (below_refl w) _).block _ (BytesIn_lt (e ▸ hu3) h0))
    clear hu3
    obtain ⟨i0, hi, hz0, hz1, hz2⟩ := info_parts Try.infoByte
    have hown := World.ownsRow_made (size := 1) (e := 5) w #[] 0 (Nat.le_refl w.heap.size) (by unfold maxLen; omega) rfl
    go_enter Try.func48, Try.ntmps48
    go_wp2_with (at_builtin; refine wpList_append_own _ rfl _ _ _ rfl w.heap.size 5 i0 (.int .u8 0) 1 1 Try.underlying30 hi hz0 hz1 hz2 rfl (by decide) _ _ _ (by rfl) hown a bs.length cu ((nums bs).map (Value.int .u8)) (by rfl) (by simp [nums]) hnews (oneCell_int _ _) (by unfold maxLen; omega) (by omega) (by simp) ?_)
    intro v' w1 hown1 hgrow _
    clear hown hnews
    have Hb : Below w.heap.size w w1 := (below_alloc (below_refl w) _).grown hgrow (by simp) (fun k e => by cases e; exact Nat.le_refl _)
    have Hc : BytesAt w1 v' bs := bytes_of_owns hown1
    have Hf := fun b (hb : Value.blk v' = some b) => (owns_blk hown1 hb).1
    have HF := Lib.hid Hf
    have HB := Lib.hid (isBytes_owns hown1)
    clear Hf hown1 hgrow
    go_wp2_with fail
    go_ret
    exact RetP.mk ⟨Hc, HF.out, HB.out⟩ Hb

theorem spn_news {w : World} {a : Addr} {S : List PL.Spn} (h : ∀ i x, S[i]? = some x → ∃ b o, some a = some ⟨b, o, none⟩ ∧ SpnAt w b (o + i * 5) x) : ∀ j u, (spnCells S)[j]? = some u → w.cell? (a.add j) = some u := by
  intro j u hu
  have hj : j < S.length * 5 := by have := (List.getElem?_eq_some_iff.1 hu).1; rwa [spnCells, flat5_length _ (fun _ => rfl)] at this
  have hi : j / 5 < S.length := by omega
  obtain ⟨b, o, e, c0, c1, c2, c3, c4⟩ := h _ _ (List.getElem?_eq_getElem hi)
  cases e
  rw [Go.WideShapes.add_plain]
  have hf := flat5 (fun x : PL.Spn => [.int .i64 x.p, .int .i64 x.e, .int .i64 x.t, .int .i64 x.f, .int .i64 x.k]) (fun _ => rfl) S (j / 5) _ (j % 5) (List.getElem?_eq_getElem hi) (by omega)
  rw [show j / 5 * 5 + j % 5 = j from by omega] at hf
  rw [spnCells, hf] at hu
  have hm : j % 5 = 0 ∨ j % 5 = 1 ∨ j % 5 = 2 ∨ j % 5 = 3 ∨ j % 5 = 4 := by omega
  rcases hm with hm | hm | hm | hm | hm <;> rw [hm] at hu <;> cases hu
  · rw [show o + j = o + j / 5 * 5 from by omega]; exact c0
  · rw [show o + j = o + j / 5 * 5 + 1 from by omega]; exact c1
  · rw [show o + j = o + j / 5 * 5 + 2 from by omega]; exact c2
  · rw [show o + j = o + j / 5 * 5 + 3 from by omega]; exact c3
  · rw [show o + j = o + j / 5 * 5 + 4 from by omega]; exact c4
theorem spn_oneCell (S : List PL.Spn) : ∀ u ∈ spnCells S, u.oneCell' = true := by
  intro u hu
  obtain ⟨x, _, hx⟩ := List.mem_flatMap.1 hu
  simp at hx
  rcases hx with rfl | rfl | rfl | rfl | rfl <;> rfl
theorem spnCells_length (S : List PL.Spn) : (spnCells S).length = S.length * 5 := flat5_length _ (fun _ => rfl) S

/-- It returns these spans. -/
theorem spansClone_any (u : Value) (S : List PL.Spn) (w : World) (hu : SpnsAt w u S) (hn : S.length ≤ 1099511627776) :
    Calls Try.prog 57 #[u] w (RetP (fun v w' => SpnsAt w' v S) w) := by
  obtain ⟨pu, cu, rfl, hu1, hu2, hu3⟩ := hu
  have hq : ∀ (w : World) a n c, (binOp .eql 42 (.slice a n c) (.slice none 0 0)).run Try.prog w = .ok (.bool a.isNone) w := fun w a n c => Lib.run_eql_slice_nil w _ _ a n c 0 0 Try.underlying42
  cases pu with
  | none =>
    have h0 : S = [] := by
      cases S with
      | nil => rfl
      | cons x l => obtain ⟨b, o, e, _⟩ := hu3 0 x rfl; cases e
    subst h0
    go_enter Try.func57, Try.ntmps57
    go_wp2_with fail
    go_ret
    exact RetP.mk ⟨none, 0, rfl, Nat.le_refl _, by omega, fun i x hx => by simp at hx⟩ (below_refl _)
  | some a =>
    have hnews := spn_news (w := w.alloc (.cells #[] 68)) fun i x hx => by
      obtain ⟨b, o, e, h⟩ := hu3 i x hx
      exact ⟨b, o, e, h.below (below_alloc (below_refl w) _)⟩
    clear hu3
    obtain ⟨i0, hi, hz0, hz1, hz2⟩ := info_parts Try.infoSpan
    have hown := World.ownsRow_made (size := 5) (e := 68) w #[] 0 (Nat.le_refl w.heap.size) (by unfold maxLen; omega) rfl
    go_enter Try.func57, Try.ntmps57
    go_wp2_with (at_builtin; refine wpList_append_own _ rfl _ _ _ rfl w.heap.size 68 i0 (.agg #[.int .i64 0, .int .i64 0, .int .i64 0, .int .i64 0, .int .i64 0]) 5 40 Try.underlying42 hi hz0 hz1 hz2 rfl (by decide) _ _ _ (by rfl) hown a S.length cu (spnCells S) (by rfl) (spnCells_length S) hnews (spn_oneCell S) (by unfold maxLen; omega) (by omega) (by simp) ?_)
    intro v' w1 hown1 hgrow _
    clear hown hnews
    have Hb : Below w.heap.size w w1 := (below_alloc (below_refl w) _).grown hgrow (by simp) (fun k e => by cases e; exact Nat.le_refl _)
    have Hc : SpnsAt w1 v' S := spns_of_owns (by simpa using hown1)
    clear hown1 hgrow
    go_wp2_with fail
    go_ret
    exact RetP.mk Hc Hb

theorem spans_any (w : World) (p : Nat) (s : PL.St) (M V : Nat → Prop) (h : PRep w p s M V) (hn : s.S.length ≤ 1099511627776) :
    Calls Try.prog 29 #[.pointer (some ⟨p, 0, none⟩)] w (RetP (fun v w' => SpnsAt w' v s.S) w) := by
  obtain ⟨vr, vs, m, G, c0, c1, c2, f0, f1, f2, hR, hS, hM, hE, hm⟩ := h.opened
  have hcon := spansClone_any vs s.S w hS hn
  obtain ⟨ps, cs, rfl, hs1, hs2, hs3⟩ := hS
  clear c0 c2 hR hM hE hm h hs3
  go_enter Try.func29, Try.ntmps29
  go_wp2_with fail
  refine hcon.mono ?_
  rintro e w1 ⟨v, rfl, hv, hb⟩
  clear hcon
  go_wp2_with fail
  go_ret
  exact RetP.mk hv hb
theorem spans_nil (w : World) : Calls Try.prog 29 #[.pointer none] w (RetP (fun v w' => SpnsAt w' v []) w) := by
  go_enter Try.func29, Try.ntmps29
  go_wp2_with fail
  go_ret
  exact RetP.mk ⟨none, 0, rfl, Nat.le_refl _, by omega, fun i x hx => by simp at hx⟩ (below_refl _)

theorem down_succ {α : Type} (f : α → Bool) (l : List α) (k : Nat) (h : k < l.length) : PL.down f l (k + 1) = if f l[k] then (k : Int) else PL.down f l k := by
  rw [PL.down, List.getElem?_eq_getElem h]; rfl
theorem down_bd {α : Type} (f : α → Bool) (l : List α) : ∀ k, -1 ≤ PL.down f l k ∧ PL.down f l k < k
  | 0 => by simp [PL.down]
  | k + 1 => by
    rw [PL.down]
    split
    · omega
    · have := down_bd f l k; omega

set_option maxHeartbeats 400000 in
theorem last_any (w : World) (p : Nat) (s : PL.St) (M V : Nat → Prop) (h : PRep w p s M V) (a e : Int) :
    Calls Try.prog 69 #[.pointer (some ⟨p, 0, none⟩), .int .i64 a, .int .i64 e] w (Ret (.int .i64 (PL.down (PL.isPE a e) s.R s.R.length)) w) := by
  obtain ⟨vr, vs, m, G, c0, c1, c2, f0, f1, f2, hR, hS, hM, hE, hm⟩ := h.opened
  obtain ⟨ps, cs, rfl, hs1, hs2, hc⟩ := hR
  clear c1 c2 hS hM hE hm h
  generalize s.R = R at *
  generalize hi : PL.down (PL.isPE a e) R R.length = i0
  have Hi := Lib.hid hi
  clear hi
  go_enter Try.func69, Try.ntmps69
  go_wp2_with fail
  go_loop [6, 7] (fun _ i => ∃ k : Nat, k ≤ R.length ∧ i = .int .i64 ((k : Int) - 1) ∧ i0 = PL.down (PL.isPE a e) R k) (fun _ i => (intOf i + 1).toNat)
  case atStart => exact ⟨R.length, Nat.le_refl _, rfl, Hi.out.symm⟩
  case round =>
    obtain ⟨k, hk, rfl, hidx⟩ := hrel
    cases k with
    | zero =>
      have Hx := Lib.hid hidx
      clear hidx hc
      go_wp2_with fail
      go_ret
      exact Ret.int (by rw [Hx.out]; rfl) (below_refl _)
    | succ k =>
      obtain ⟨b, o, u, rfl, hat, hu⟩ := hc k _ (List.getElem?_eq_getElem hk)
      obtain ⟨d0, d1, d2, d3, d4⟩ := hat
      rw [down_succ _ R k hk] at hidx
      generalize R[k] = x at *
      have Hx := Lib.hid hidx
      clear hidx hc hu d2 d3 d4
      have e1 : ((k + 1 : Nat) : Int) - 1 = (k : Int) := by omega
      rw [e1]
      clear e1
      by_cases h1 : x.p = a
      · by_cases h2 : x.e = e
        · have h1' : (x.p == a) = true := by simpa using h1
          have h2' : (x.e == e) = true := by simpa using h2
          have Hf : RowKit.Hid (PL.isPE a e x = true) := Lib.hid (by simp [PL.isPE, h1, h2])
          clear h1 h2
          go_wp2_with fail
          go_ret
          exact Ret.int (by rw [Hx.out, Hf.out]; rfl) (below_refl _)
        · have h1' : (x.p == a) = true := by simpa using h1
          have h2' : (x.e == e) = false := by simpa using h2
          have Hf : RowKit.Hid (PL.isPE a e x = false) := Lib.hid (by simp [PL.isPE, h2])
          clear h1 h2
          go_wp2_with fail
          go_round
          case rel => exact ⟨k, by omega, rfl, by rw [Hx.out, Hf.out]; rfl⟩
          case measure => first | (simp [intOf]; done) | (simp [intOf]; omega)
      · have h1' : (x.p == a) = false := by simpa using h1
        have Hf : RowKit.Hid (PL.isPE a e x = false) := Lib.hid (by simp [PL.isPE, h1])
        clear h1
        go_wp2_with fail
        go_round
        case rel => exact ⟨k, by omega, rfl, by rw [Hx.out, Hf.out]; rfl⟩
        case measure => first | (simp [intOf]; done) | (simp [intOf]; omega)

end Go.Proofs.Ytjjlbancofkinaa
