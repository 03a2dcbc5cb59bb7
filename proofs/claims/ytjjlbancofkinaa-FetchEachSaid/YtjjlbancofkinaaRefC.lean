/-
  Are two rows of records one? Are two rows of transactions one?
-/
import Derived.Test.YtjjlbancofkinaaRefB
namespace Go.Proofs.Ytjjlbancofkinaa
open Go.RowKit

/-- Bytes as a string. -/
theorem conv_bytes {u : Value} {bs : List UInt8} {w : World} (hu : BytesAt w u bs) : (convert 30 9 u).run Try.prog w = .ok (.string (strOfNums (nums bs))) w := by
  obtain ⟨pu, cu, rfl, hu1, hu2, hu3⟩ := hu
  rcases Nat.eq_zero_or_pos bs.length with h0 | h0
  · have : bs = [] := List.eq_nil_of_length_eq_zero h0
    subst this
    exact run_convert_bytes_zero w _ _ Try.underlying30 Try.underlying5 pu cu _ Try.underlying9
  · obtain ⟨b, o, rfl, hc⟩ := hu3.at h0
    exact run_convert_bytes_arg (P := Try.prog) w _ _ Try.underlying30 Try.underlying5 b o bs.length cu (nums bs) (nums_length bs) hc _ Try.underlying9
theorem str_eq (bs cs : List UInt8) : ((strOfNums (nums bs)).toList == (strOfNums (nums cs)).toList) = decide (bs = cs) := by
  rw [strOfNums_nums, strOfNums_nums, ByteArray.toList_mk, ByteArray.toList_mk, Bool.eq_iff_iff]
  simp

set_option maxRecDepth 100000 in
set_option maxHeartbeats 800000 in
theorem same11_any (w : World) (a b : PL.Rec) (u v : Value) (hu : BytesAt w u a.v) (hv : BytesAt w v b.v) :
    Calls Try.prog 49 #[recV a u, recV b v] w (Ret (.bool (decide (a = b))) w) := by
  obtain ⟨ap, ae, at_, aq, av⟩ := a
  obtain ⟨bp, be, bt, bq, bv⟩ := b
  dsimp only at *
  have hb1 := below_alloc (below_refl w) (.cells #[.int .i64 ap, .int .i64 ae, .int .i64 at_, .int .i64 aq, u] 32)
  have hb2 := below_alloc hb1 (.cells #[.int .i64 bp, .int .i64 be, .int .i64 bt, .int .i64 bq, v] 32)
  have c1 := conv_bytes (hu.below hb2)
  have c2 := conv_bytes (hv.below hb2)
  have hs := str_eq av bv
  obtain ⟨pu, cu, rfl, hu1, hu2, -⟩ := hu
  obtain ⟨pv, cv, rfl, hv1, hv2, -⟩ := hv
  unfold recV
  dsimp only
  generalize strOfNums (nums av) = s1 at *
  generalize strOfNums (nums bv) = s2 at *
  have hB := Lib.hid hb2
  clear hb1 hb2
  by_cases h1 : ap = bp
  · by_cases h2 : ae = be
    · by_cases h3 : at_ = bt
      · by_cases h4 : aq = bq
        · subst h1 h2 h3 h4
          have hd : RowKit.Hid ((s1.toList == s2.toList) = decide ((⟨ap, ae, at_, aq, av⟩ : PL.Rec) = ⟨ap, ae, at_, aq, bv⟩)) := Lib.hid (by rw [hs]; simp)
          clear hs
          go_enter Try.func49, Try.ntmps49
          go_wp2_with fail
          go_ret
          exact Ret.bool hd.out hB.out
        · have hd : RowKit.Hid (decide ((⟨ap, ae, at_, aq, av⟩ : PL.Rec) = ⟨bp, be, bt, bq, bv⟩) = false) := Lib.hid (by simp [h4])
          subst h1 h2 h3
          clear hs
          go_enter Try.func49, Try.ntmps49
          go_wp2_with fail
          go_ret
          exact Ret.bool hd.out.symm hB.out
      · have hd : RowKit.Hid (decide ((⟨ap, ae, at_, aq, av⟩ : PL.Rec) = ⟨bp, be, bt, bq, bv⟩) = false) := Lib.hid (by simp [h3])
        subst h1 h2
        clear hs
        go_enter Try.func49, Try.ntmps49
        go_wp2_with fail
        go_ret
        exact Ret.bool hd.out.symm hB.out
    · have hd : RowKit.Hid (decide ((⟨ap, ae, at_, aq, av⟩ : PL.Rec) = ⟨bp, be, bt, bq, bv⟩) = false) := Lib.hid (by simp [h2])
      subst h1
      clear hs
      go_enter Try.func49, Try.ntmps49
      go_wp2_with fail
      go_ret
      exact Ret.bool hd.out.symm hB.out
  · have hd : RowKit.Hid (decide ((⟨ap, ae, at_, aq, av⟩ : PL.Rec) = ⟨bp, be, bt, bq, bv⟩) = false) := Lib.hid (by simp [h1])
    clear hs
    go_enter Try.func49, Try.ntmps49
    go_wp2_with fail
    go_ret
    exact Ret.bool hd.out.symm hB.out

/-! ### rows -/
theorem rows_eq {α : Type} [DecidableEq α] (a b : List α) (hl : a.length = b.length) (h : ∀ (i : Nat) x y, a[i]? = some x → b[i]? = some y → x = y) : a = b := by
  apply List.ext_getElem? 
  intro i
  rcases Nat.lt_or_ge i a.length with hi | hi
  · rw [List.getElem?_eq_getElem hi, List.getElem?_eq_getElem (by omega), h i _ _ (List.getElem?_eq_getElem hi) (List.getElem?_eq_getElem (by omega))]
  · rw [List.getElem?_eq_none hi, List.getElem?_eq_none (by omega)]

set_option maxRecDepth 100000 in
set_option maxHeartbeats 800000 in
theorem records11_any (w : World) (a b : List PL.Rec) (u v : Value) (hu : RecsAt w u a) (hv : RecsAt w v b) :
    Calls Try.prog 20 #[u, v] w (Ret (.bool (decide (a = b))) w) := by
  obtain ⟨pu, cu, rfl, hu1, hu2, hu3⟩ := hu
  obtain ⟨pv, cv, rfl, hv1, hv2, hv3⟩ := hv
  by_cases hl : a.length = b.length
  · have hlen := Lib.hid hl
    have hlt' : b.length ≤ a.length := by omega
    have hlb : (a.length : Int) = (b.length : Int) := by omega
    clear hl
    go_enter Try.func20, Try.ntmps20
    go_wp2_with fail
    have hlb' := Lib.hid hlb
    clear hlb
    go_loopw [5] (fun i wr => ∃ k : Nat, k ≤ a.length ∧ i = .int .i64 k ∧ Below w.heap.size w wr ∧ ∀ j x y, j < k → a[j]? = some x → b[j]? = some y → x = y) (fun i _ => a.length - (intOf i).toNat)
    case atStart => exact ⟨0, Nat.zero_le _, rfl, below_refl _, fun j x y h => by omega⟩
    case round =>
      obtain ⟨k, hk, rfl, hB, heq⟩ := hrel
      by_cases hlt : k < a.length
      · have hlt2 : k < b.length := by have := hlen.out; omega
        obtain ⟨b1, o1, x1, rfl, hat, hx⟩ := hu3 k _ (List.getElem?_eq_getElem hlt)
        obtain ⟨b2, o2, x2, rfl, hat2, hx2⟩ := hv3 k _ (List.getElem?_eq_getElem hlt2)
        obtain ⟨d0, d1, d2, d3, d4⟩ := hat.below hB
        obtain ⟨e0, e1, e2, e3, e4⟩ := hat2.below hB
        have hsame := fun W (hb : Below wr.heap.size wr W) => same11_any W a[k] b[k] x1 x2 ((hx.below hB).below hb) ((hx2.below hB).below hb)
        have hA : RowKit.Hid (a[k]? = some a[k]) := Lib.hid (List.getElem?_eq_getElem hlt)
        have hBk : RowKit.Hid (b[k]? = some b[k]) := Lib.hid (List.getElem?_eq_getElem hlt2)
        have hEq := Lib.hid heq
        clear hu3 hv3 hat hat2 heq
        obtain ⟨p1, c1, rfl, -⟩ := hx
        obtain ⟨p2, c2, rfl, -⟩ := hx2
        generalize a[k] = r1 at *
        generalize b[k] = r2 at *
        unfold recV at hsame
        go_wp2_with fail
        go_still_tail 8, (by kernel_rfl)
        change wpList _ _ _ _ _ wr.drew
        have hBd : Below wr.heap.size wr wr.drew := below_drew (below_refl _)
        generalize wr.drew = w2 at *
        clear d0 d1 d2 d3 d4 e0 e1 e2 e3 e4
        go_wp2_with fail
        refine (hsame _ hBd).mono ?_
        rintro e w3 ⟨rfl, hb3⟩
        clear hsame
        by_cases hr : r1 = r2
        · have hN : RowKit.Hid (∀ j x y, j < k + 1 → a[j]? = some x → b[j]? = some y → x = y) := Lib.hid (fun j x y hj h1 h2 => by
            rcases Nat.lt_or_ge j k with h | h
            · exact hEq.out j x y h h1 h2
            · obtain rfl : j = k := by omega
              rw [hA.out] at h1; rw [hBk.out] at h2; cases h1; cases h2; exact hr)
          have hd : decide (r1 = r2) = true := by simpa using hr
          clear hr
          rw [hd]
          clear hd
          go_wp2_with fail
          go_roundw
          case rel => exact ⟨k + 1, by omega, by go_num, below_step (below_step hB hBd) hb3, hN.out⟩
          case measure => first | (simp [intOf]; done) | (simp [intOf]; omega)
        · have hN : RowKit.Hid (decide (a = b) = false) := Lib.hid (decide_eq_false (fun e => hr (by
            subst e
            have := hA.out; rw [hBk.out] at this; cases this; rfl)))
          have hd : decide (r1 = r2) = false := by simpa using hr
          clear hr
          rw [hd]
          clear hd
          go_wp2_with fail
          go_ret
          exact Ret.bool hN.out.symm (below_step (below_step hB hBd) hb3)
      · have hN : RowKit.Hid (decide (a = b) = true) := Lib.hid (decide_eq_true (rows_eq a b hlen.out (fun i x y h1 h2 => heq i x y (by have := (List.getElem?_eq_some_iff.1 h1).1; omega) h1 h2)))
        clear heq hu3 hv3
        go_wp2_with fail
        go_ret
        exact Ret.bool hN.out.symm hB
  · have hN : RowKit.Hid (decide (a = b) = false) := Lib.hid (decide_eq_false (fun e => hl (by rw [e])))
    have hl2 : ((a.length : Int) != (b.length : Int)) = true := by simpa using (by omega : ¬ (a.length : Int) = (b.length : Int))
    go_enter Try.func20, Try.ntmps20
    go_wp2_with fail
    go_ret
    exact Ret.bool hN.out.symm (below_refl _)

end Go.Proofs.Ytjjlbancofkinaa
