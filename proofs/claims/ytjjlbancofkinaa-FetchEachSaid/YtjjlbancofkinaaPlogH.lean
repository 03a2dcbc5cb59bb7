/-
  Records: the iterator hands the records over, each with its own copy of the value.
-/
import Derived.Test.YtjjlbancofkinaaFeed
namespace Go.Proofs.Ytjjlbancofkinaa
open Go.RowKit
attribute [local go_sem] Oper.semAt_some

/-- What the log's blocks are is as it was where all below n₀ is. -/
theorem PRep.low {w w' : World} {p : Nat} {s : PL.St} {M V : Nat → Prop} {n₀ : Nat} (h : PRep w p s M V) (hn : ∀ b, M b ∨ V b → b < n₀) (hb : Below n₀ w w') : PRep w' p s M V :=
  h.same hb.size fun b e => hb.block b (hn b e)

/-- What is handed over: the offset, the record, a copy of its value. -/
abbrev Handed := Int × PL.Rec × Value
def Handed.enc (x : Handed) : Array Value := #[.int .i64 x.1, recV x.2.1 x.2.2]
def Handed.ok (s : PL.St) (at_ : Nat) (n₀ : Nat) (k : Nat) (x : Handed) (A : World) : Prop :=
  x.1 = (at_ + k : Nat) ∧ s.R[at_ + k]? = some x.2.1 ∧ BytesAt A x.2.2 x.2.1.v ∧ (∀ b, Value.blk x.2.2 = some b → n₀ ≤ b) ∧ IsBytes A x.2.2

set_option maxRecDepth 100000 in
set_option maxHeartbeats 2000000 in
theorem records1_any (n : Nat) (hn : 2 ≤ n) (w : World) (p : Nat) (s : PL.St) (M V : Nat → Prop) (h : PRep w p s M V) (n₀ : Nat) (hM : ∀ b, M b ∨ V b → b < n₀) (hs : s.R.length ≤ 1099511627776) (hv : ∀ r ∈ s.R, r.v.length ≤ 140737488351232)
    (b2 b3 : Nat) (from_ : Int) (c2 : w.cell? ⟨b2, 0, none⟩ = some (.pointer (some ⟨p, 0, none⟩))) (c3 : w.cell? ⟨b3, 0, none⟩ = some (.int .i64 from_)) (hn₀ : n₀ ≤ w.heap.size) (m : Nat) (hm : max from_ 0 = m) :
    Feeds n Try.prog 47 #[.pointer (some ⟨b3, 0, none⟩), .pointer (some ⟨b2, 0, none⟩)] Handed.enc (Handed.ok s m n₀) n₀ b2 (s.R.length - m) w := by
  intro l J Jx W hW hJ hJx hY h0
  have c3' := cell_below c3 hW
  have c2' := cell_below c2 hW
  have hPW := h.below hW
  have hnW : n₀ ≤ W.heap.size := Nat.le_trans hn₀ hW.size
  refine callsIn_of_wp Try.func47 rfl trivial ?_ rfl
  simp only [Try.ntmps47, List.size_toArray, List.length_cons, List.length_nil, Nat.reduceAdd, Nat.reduceSub, Array.replicate_succ, Array.replicate_zero, List.push_toArray, List.append_toArray, List.nil_append, List.cons_append]
  gi_wp2
  clear c3 c2 h hW c3' hm
  gi_loopw [4] (fun iv wr => ∃ (k : Nat) (pre : List Handed), iv = .int .i64 (k : Int) ∧ k = m + pre.length ∧ pre.length ≤ s.R.length - m ∧ J pre wr ∧ Below n₀ W wr ∧ wr.heap[b2]? = W.heap[b2]?)
    (fun iv _ => s.R.length - (intOf iv).toNat)
  case atStart => exact ⟨m, [], rfl, by simp, Nat.zero_le _, h0, Below.refl _ _, rfl⟩
  case round =>
    obtain ⟨k, pre, rfl, hk0, hpre, hJs, hnx, hkb⟩ := hrel
    have hk := Lib.hid hk0
    clear hk0
    have c2r : wr.cell? ⟨b2, 0, none⟩ = some (.pointer (some ⟨p, 0, none⟩)) := cell_same c2' hkb
    have hP := hPW.low hM hnx
    have hlen := len_any wr p s M V hP
    by_cases hlt : k < s.R.length
    · gi_wp2
      refine ⟨trivial, fun _ => by omega, (callsIn_wide.2 hlen).mono ?_⟩
      clear hlen
      rintro e w1 ⟨rfl, hb1⟩
      have c2s := cell_below c2r hb1
      obtain ⟨vr, vs, m1, G, k0, -, -, -, -, -, hR, -, -, -, -⟩ := (hP.below hb1).opened
      obtain ⟨pr, cr, rfl, hR1, hR2, hR3⟩ := hR
      obtain ⟨b, o, u, rfl, hat, hu⟩ := hR3 k _ (List.getElem?_eq_getElem hlt)
      obtain ⟨q0, q1, q2, q3, q4⟩ := hat
      have hvl : (s.R[k]).v.length ≤ 140737488351232 := hv _ (List.getElem_mem _)
      have hkr : RowKit.Hid (s.R[m + pre.length]? = some s.R[k]) := Lib.hid <| by rw [← hk.out]; exact List.getElem?_eq_getElem hlt
      have hcl := fun W hb => bytesClone_any u _ W (hu.below hb) hvl
      clear hR3 hP
      have hu' := hu
      obtain ⟨pu, cu, rfl, -, -, -⟩ := hu'
      generalize s.R[k] = x at *
      obtain ⟨xp, xe, xt, xq, xv⟩ := x
      dsimp only at *
      gi_wp2
      refine ⟨trivial, fun _ => by omega, (callsIn_wide.2 (hcl _ (below_alloc (below_refl _) _))).mono ?_⟩
      clear hcl
      rintro e w2 ⟨uc, rfl, ⟨hu1, hu2, hu8⟩, hb2⟩
      have hbb : Below w1.heap.size w1 w2 := below_step (below_alloc (below_refl _) _) hb2
      have hd := (recAt_new w1 32 ⟨xp, xe, xt, xq, xv⟩ (.slice pu xv.length cu)).below hb2
      have hz := frozen_same (frozen_alloc w1 #[.int .i64 xp, .int .i64 xe, .int .i64 xt, .int .i64 xq, .slice pu xv.length cu] 32 4) (hb2.block w1.heap.size (by simp))
      obtain ⟨d0, d1, d2, d3, d4⟩ := hd
      have hu3 := hu1
      obtain ⟨pc, cc, rfl, -, -, -⟩ := hu3
      have hwr : wr.heap.size ≤ w1.heap.size := hb1.size
      have hJ5 : J pre (w2.setCell ⟨w1.heap.size, 4, none⟩ (.slice pc xv.length cc)) := hJ _ _ _ hJs (below_set (below_step hb1 hbb) hwr _)
      obtain ⟨fn, tmps, assign, body, hy, hR⟩ := hY pre (k, ⟨xp, xe, xt, xq, xv⟩, .slice pc xv.length cc) _ hJ5 (by have := hk.out; omega) ⟨by rw [hk.out], hkr.out, hu1.same (fun b e => heap_setCell_ne (by have := hu2 b e; simp at this; omega)), (fun b e => by have := hu2 b e; have := hnx.size; have := hb1.size; simp at *; omega), hu8.same (fun b e => heap_setCell_ne (by have := hu2 b e; simp at this; omega))⟩
      dsimp only [Handed.enc, recV] at hy
      gi_wp2
      refine ⟨fun _ => by omega, hR.mono ?_⟩
      rintro e W3 (⟨rfl, hJ3, hk3, hkq⟩ | ⟨rfl, hJx3⟩)
      · gi_wp2
        go_roundw
        case rel => exact ⟨k + 1, _, by simp, by rw [List.length_append, hk.out]; rfl, by simp; have := hk.out; omega, hJ3, ((hnx.trans ((below_step hb1 hbb).mono (Nat.le_trans hnW hnx.size))).setCell (p := ⟨w1.heap.size, 4, none⟩) (show n₀ ≤ w1.heap.size by have := hnx.size; have := hb1.size; omega) _).trans hk3, hkq.trans ((heap_setCell_ne (by have := lt_of_cell c2r; have := hb1.size; omega)).trans (((below_step hb1 hbb).block b2 (lt_of_cell c2r)).trans hkb))⟩
        case measure => simp [intOf]; omega
      · gi_wp2
        refine bodyPost_ret (results_none rfl _ _ _) rfl ?_
        exact ⟨⟨_, rfl⟩, .inr hJx3⟩
    · gi_wp2
      refine ⟨trivial, fun _ => by omega, (callsIn_wide.2 hlen).mono ?_⟩
      clear hlen
      rintro e w1 ⟨rfl, hb1⟩
      gi_wp2
      go_end0
      exact ⟨⟨_, rfl⟩, .inl ⟨pre, by have := hk.out; omega, hJ _ _ _ hJs hb1⟩⟩
end Go.Proofs.Ytjjlbancofkinaa
