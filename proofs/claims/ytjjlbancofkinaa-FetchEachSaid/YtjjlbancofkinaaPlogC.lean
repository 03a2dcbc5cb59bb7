/-
  Whether a record fits, a log's epochs, how far all is stable, a new log.
-/
import Derived.Test.YtjjlbancofkinaaPlogB
namespace Go.Proofs.Ytjjlbancofkinaa
open Go.RowKit

theorem idx_any {α : Type} (f : α → Bool) : ∀ (l : List α) (n : Nat), decide (0 ≤ PL.idx f l n) = l.any f
  | [], n => by simp [PL.idx]
  | x :: l, n => by
    unfold PL.idx
    rw [List.any_cons]
    by_cases h : f x
    · simp [h]
    · simp only [h, Bool.false_eq_true, if_false, Bool.false_or]
      exact idx_any f l (n + 1)

/-- Why a record that is new does not fit. -/
def fitsOf (s : PL.St) (r : PL.Rec) : Int :=
  if r.q ≠ PL.nextDown r.p r.e s.R then 8 else if s.S.any (PL.bars r) then 6 else if 128 ≤ s.R.length then 3 else 0

set_option maxRecDepth 100000 in
set_option maxHeartbeats 800000 in
theorem fits_any (w : World) (p : Nat) (s : PL.St) (M V : Nat → Prop) (h : PRep w p s M V) (hq : ∀ r ∈ s.R, 0 ≤ r.q ∧ r.q ≤ 1048576) (r : PL.Rec) (v : Value) (hv : BytesAt w v r.v) :
    Calls Try.prog 53 #[.pointer (some ⟨p, 0, none⟩), recV r v] w (Ret (.int .i64 (fitsOf s r)) w) := by
  obtain ⟨vr, vs, m, G, c0, c1, c2, f0, f1, f2, hR, hS, hM, hE, hm⟩ := h.opened
  have hlt := lt_of_cell c0
  have hnew := recAt_new w 32 r v
  have hlast := last_any (w.alloc (.cells #[.int .i64 r.p, .int .i64 r.e, .int .i64 r.t, .int .i64 r.q, v] 32)) p s M V (h.below (below_alloc (below_refl w) _)) r.p r.e
  have hcont := fun W (hb : Below w.heap.size w W) h1 => containsSpan_any s.S vs 70 #[.pointer (some ⟨w.heap.size, 0, none⟩)] W (hS.below hb) (PL.bars r)
    (enters_of Try.func70 (by kernel_rfl) rfl) (fun x W' hb' => fits1_any x r v _ W' (RecAt.below h1 hb'))
  rw [show PL.idx (PL.bars r) s.S 0 = PL.idx (PL.bars r) s.S (0 : Nat) from rfl, idx_any] at hcont
  have hdb := down_bd (PL.isPE r.p r.e) s.R s.R.length
  have hnd : ∀ k, PL.down (PL.isPE r.p r.e) s.R s.R.length = (k : Nat) → ∀ hk : k < s.R.length, PL.nextDown r.p r.e s.R = (s.R[k]).q + 1 := fun k e hk => by
    unfold PL.nextDown; rw [e]; simp [hk]
  have hnd' : PL.down (PL.isPE r.p r.e) s.R s.R.length < 0 → PL.nextDown r.p r.e s.R = 0 := fun e => by
    unfold PL.nextDown
    split
    · rw [if_neg (by omega)]
    · rfl
  have hfo : ∀ nx an, PL.nextDown r.p r.e s.R = nx → s.S.any (PL.bars r) = an → fitsOf s r = if r.q ≠ nx then 8 else if an then 6 else if 128 ≤ s.R.length then 3 else 0 := fun nx an h1 h2 => by
    unfold fitsOf; rw [h1, h2]
  obtain ⟨ps, cs, rfl, hs1, hs2, hs3⟩ := hR
  obtain ⟨pt, ct, rfl, ht1, ht2, ht3⟩ := hS
  obtain ⟨pv, cv, rfl, hv1, hv2, hv3⟩ := hv
  have hqb : ∀ k (hk : k < s.R.length), 0 ≤ (s.R[k]).q ∧ (s.R[k]).q ≤ 1048576 := fun k hk => hq _ (List.getElem_mem hk)
  clear hM hE hm h hv3 ht3 hq
  generalize PL.nextDown r.p r.e s.R = nx at *
  generalize PL.down (PL.isPE r.p r.e) s.R s.R.length = i0 at *
  generalize s.S.any (PL.bars r) = an at *
  generalize fitsOf s r = fo at *
  replace hfo := hfo nx an rfl rfl
  generalize s.R = R at *
  unfold recV
  obtain ⟨d0, d1, d2, d3, d4⟩ := hnew
  have Hfo := Lib.hid hfo
  clear hfo
  -- the way behind the call of last
  have tail : ∀ (W : World), Below w.heap.size w W → RecAt W w.heap.size 0 r (.slice pv r.v.length cv) →
      W.cell? ⟨p, 0, none⟩ = some (.slice ps R.length cs) ∧ W.cell? ⟨p, 1, none⟩ = some (.slice pt s.S.length ct) := fun W hb _ => ⟨cell_below c0 hb, cell_below c1 hb⟩
  have hrn := recAt_new w 32 r (.slice pv r.v.length cv)
  rcases Int.lt_or_le i0 0 with hi | hi
  · have hz := hnd' hi
    subst hz
    clear hnd hnd' hqb hs3
    have hc : ¬ r.q = 0 ∨ r.q = 0 ∧ (an = true ∨ an = false ∧ (128 ≤ R.length ∨ R.length < 128)) := by cases an <;> simp <;> omega
    have Hc := Lib.hid hc
    clear hc
    go_enter Try.func53, Try.ntmps53
    go_wp2_with fail
    refine hlast.mono ?_
    rintro e w1 ⟨rfl, hb1⟩
    have hb1' := below_step (below_alloc (below_refl w) _) hb1
    obtain ⟨k0, k1⟩ := tail w1 hb1' (hrn.below hb1)
    obtain ⟨d0, d1, d2, d3, d4⟩ := hrn.below hb1
    have hr1 := hrn.below hb1
    clear hlast tail c0 c1
    rcases Hc.out with hqz | ⟨hqz, ha | ⟨ha, hl⟩⟩
    · have hq1 : (r.q != 0) = true := by simpa using hqz
      have Hq := Lib.hid hqz
      clear hqz Hc
      go_wp2_with fail
      go_ret
      exact Ret.int (by rw [Hfo.out, if_pos Hq.out]) hb1'
    · have hq1 : (r.q != 0) = false := by simpa using hqz
      have Hq := Lib.hid hqz
      subst ha
      clear hqz Hc
      go_wp2_with fail
      refine (hcont _ hb1' hr1).mono ?_
      rintro e w2 ⟨rfl, hb2⟩
      go_wp2_with fail
      go_ret
      exact Ret.int (by rw [Hfo.out, if_neg (by simpa using Hq.out)]; rfl) (below_step hb1' hb2)
    · have hq1 : (r.q != 0) = false := by simpa using hqz
      have Hq := Lib.hid hqz
      subst ha
      clear hqz Hc
      rcases hl with hl | hl
      all_goals
        go_wp2_with fail
        refine (hcont _ hb1' hr1).mono ?_
        rintro e w2 ⟨rfl, hb2⟩
        have k0' := cell_below k0 hb2
        go_wp2_with fail
        go_ret
        first
          | exact Ret.int (by rw [Hfo.out, if_neg (by simpa using Hq.out), if_neg (by simp), if_pos (by omega)]) (below_step hb1' hb2)
          | exact Ret.int (by rw [Hfo.out, if_neg (by simpa using Hq.out), if_neg (by simp), if_neg (by omega)]) (below_step hb1' hb2)
  · obtain ⟨k, rfl⟩ := Int.eq_ofNat_of_zero_le hi
    have hk : k < R.length := by omega
    have hz := hnd k rfl hk
    have hb := hqb k hk
    obtain ⟨b, o, u, rfl, hat, hu⟩ := hs3 k _ (List.getElem?_eq_getElem hk)
    clear hnd hnd' hqb hs3 hu
    generalize R[k] = x at *
    subst hz
    have hc : ¬ r.q = x.q + 1 ∨ r.q = x.q + 1 ∧ (an = true ∨ an = false ∧ (128 ≤ R.length ∨ R.length < 128)) := by cases an <;> simp <;> omega
    have Hc := Lib.hid hc
    clear hc
    go_enter Try.func53, Try.ntmps53
    go_wp2_with fail
    refine hlast.mono ?_
    rintro e w1 ⟨rfl, hb1⟩
    have hb1' := below_step (below_alloc (below_refl w) _) hb1
    obtain ⟨k0, k1⟩ := tail w1 hb1' (hrn.below hb1)
    obtain ⟨d0, d1, d2, d3, d4⟩ := hrn.below hb1
    obtain ⟨q0, q1, q2, q3, q4⟩ := hat.below hb1'
    have hr1 := hrn.below hb1
    clear hlast tail c0 c1 q0 q1 q2 q4 hat
    rcases Hc.out with hqz | ⟨hqz, ha | ⟨ha, hl⟩⟩
    · have hq1 : (r.q != x.q + 1) = true := by simpa using hqz
      have Hq := Lib.hid hqz
      clear hqz Hc
      go_wp2_with fail
      go_ret
      exact Ret.int (by rw [Hfo.out, if_pos Hq.out]) hb1'
    · have hq1 : (r.q != x.q + 1) = false := by simpa using hqz
      have Hq := Lib.hid hqz
      subst ha
      clear hqz Hc
      go_wp2_with fail
      refine (hcont _ hb1' hr1).mono ?_
      rintro e w2 ⟨rfl, hb2⟩
      go_wp2_with fail
      go_ret
      exact Ret.int (by rw [Hfo.out, if_neg (by simpa using Hq.out)]; rfl) (below_step hb1' hb2)
    · have hq1 : (r.q != x.q + 1) = false := by simpa using hqz
      have Hq := Lib.hid hqz
      subst ha
      clear hqz Hc
      rcases hl with hl | hl
      all_goals
        go_wp2_with fail
        refine (hcont _ hb1' hr1).mono ?_
        rintro e w2 ⟨rfl, hb2⟩
        have k0' := cell_below k0 hb2
        go_wp2_with fail
        go_ret
        first
          | exact Ret.int (by rw [Hfo.out, if_neg (by simpa using Hq.out), if_neg (by simp), if_pos (by omega)]) (below_step hb1' hb2)
          | exact Ret.int (by rw [Hfo.out, if_neg (by simpa using Hq.out), if_neg (by simp), if_neg (by omega)]) (below_step hb1' hb2)

theorem stab_drop (S : List PL.Spn) (k : Nat) (h : k < S.length) (n : Int) : PL.stab (S.drop k) n = PL.stab (S.drop (k + 1)) (if S[k].k = 0 then min n S[k].f else n) := by
  rw [List.drop_eq_getElem_cons h]; rfl

set_option maxRecDepth 100000 in
set_option maxHeartbeats 800000 in
theorem stable_core (S : List PL.Spn) (n0 : Int) (pt : Value) (w0 : World)
    (hlen : Calls Try.prog 25 #[pt] w0 (Ret (.int .i64 n0) w0)) (hsp : ∀ W, Below w0.heap.size w0 W → Calls Try.prog 29 #[pt] W (RetP (fun v w' => SpnsAt w' v S) W)) (hp : ∃ a, pt = .pointer a) :
    Calls Try.prog 28 #[pt] w0 (Ret (.int .i64 (PL.stab S n0)) w0) := by
  obtain ⟨ap, rfl⟩ := hp
  generalize hi : PL.stab S n0 = i0
  have Hi := Lib.hid hi
  clear hi
  go_enter Try.func28, Try.ntmps28
  go_wp2_with fail
  refine hlen.mono ?_
  rintro e w1 ⟨rfl, hb1⟩
  go_wp2_with fail
  refine (hsp w1 hb1).mono ?_
  rintro e w2 ⟨u, rfl, hu, hb2⟩
  obtain ⟨pu, cu, rfl, hu1, hu2, hu3⟩ := hu
  clear hlen hsp
  have hb := below_step hb1 hb2
  clear hb1 hb2
  go_wp2_with fail
  go_loopw [3, 5, 11] (fun at_ _ i wr => ∃ (k : Nat) (a : Int), k ≤ S.length ∧ i = .int .i64 k ∧ at_ = .int .i64 a ∧ Below w2.heap.size w2 wr ∧ i0 = PL.stab (S.drop k) a) (fun _ _ i _ => S.length - (intOf i).toNat)
  case atStart => exact ⟨0, n0, Nat.zero_le _, rfl, rfl, below_refl _, by rw [← Hi.out]; rfl⟩
  case round =>
    obtain ⟨k, a, hk, rfl, rfl, hbr, hidx⟩ := hrel
    by_cases hlt : k < S.length
    · obtain ⟨b, o, rfl, hat⟩ := hu3 k _ (List.getElem?_eq_getElem hlt)
      obtain ⟨c0, c1, c2, c3, c4⟩ := hat.below hbr
      rw [stab_drop S k hlt] at hidx
      clear hu3 hat
      generalize S[k] = x at *
      have Hx := Lib.hid hidx
      clear hidx
      by_cases h0 : x.k = 0
      · have h0' : (x.k == 0) = true := by simpa using h0
        have H0 := Lib.hid h0
        clear h0
        go_wp2_with fail
        go_roundw
        case rel => exact ⟨k + 1, _, by omega, by go_num, rfl, below_alloc hbr _, by rw [Hx.out, if_pos H0.out]⟩
        case measure => first | (simp [intOf]; done) | (simp [intOf]; omega)
      · have h0' : (x.k == 0) = false := by simpa using h0
        have H0 := Lib.hid h0
        clear h0
        go_wp2_with fail
        go_roundw
        case rel => exact ⟨k + 1, _, by omega, by go_num, rfl, below_alloc hbr _, by rw [Hx.out, if_neg H0.out]⟩
        case measure => first | (simp [intOf]; done) | (simp [intOf]; omega)
    · have Hx : RowKit.Hid (i0 = a) := Lib.hid (by rw [hidx, List.drop_eq_nil_of_le (by omega)]; rfl)
      clear hidx hu3
      go_wp2_with fail
      go_ret
      exact Ret.int (by rw [Hx.out]) (below_step hb hbr)

theorem stable_any (w : World) (p : Nat) (s : PL.St) (M V : Nat → Prop) (h : PRep w p s M V) (hn : s.S.length ≤ 1099511627776) :
    Calls Try.prog 28 #[.pointer (some ⟨p, 0, none⟩)] w (Ret (.int .i64 s.stable) w) := by
  exact stable_core s.S s.R.length _ w (len_any w p s M V h) (fun W hb => spans_any W p s M V (h.below hb) hn) ⟨_, rfl⟩
theorem stable_nil (w : World) : Calls Try.prog 28 #[.pointer none] w (Ret (.int .i64 0) w) :=
  stable_core [] 0 _ w (len_nil w) (fun W _ => spans_nil W) ⟨_, rfl⟩

theorem Try.zeroInt (w : World) : (zeroValue 3).run Try.prog w = .ok (.int .i64 0) w := by kernel_rfl

/-- What a lookup of an epoch says. -/
def epVal (E : Int → Int) (k : Int) : Int := if 0 ≤ E k then E k else 0
theorem ep_lookup {w : World} {m : Nat} {G : List (Int × Value)} {E : Int → Int} (hM : MapI w m G) (hE : EpOf G E) (k : Int) :
    (Instr.lookup 81 (.map (some m)) (.int .i64 k) true).run Try.prog w = .ok (.tuple #[.int .i64 (epVal E k), .bool (decide (0 ≤ E k))]) w := by
  have h := hM.lookup (P := Try.prog) Try.underlying81 Try.underlying3 (Try.zeroInt w) k
  rw [h]
  have e1 : (fnd k G 0).map (·.2) = val G k := rfl
  rw [e1, ← val_isSome]
  by_cases h0 : 0 ≤ E k
  · rw [(hE k).1 h0]; simp [epVal, h0]
  · rw [(hE k).2 (by omega)]; simp [epVal, h0]
theorem ep_lookup1 {w : World} {m : Nat} {G : List (Int × Value)} {E : Int → Int} (hM : MapI w m G) (hE : EpOf G E) (k : Int) :
    (Instr.lookup 81 (.map (some m)) (.int .i64 k) false).run Try.prog w = .ok (.int .i64 (epVal E k)) w := by
  have h := hM.lookup1 (P := Try.prog) Try.underlying81 Try.underlying3 (Try.zeroInt w) k
  rw [h]
  have e1 : (fnd k G 0).map (·.2) = val G k := rfl
  rw [e1]
  by_cases h0 : 0 ≤ E k
  · rw [(hE k).1 h0]; simp [epVal, h0]
  · rw [(hE k).2 (by omega)]; simp [epVal, h0]

theorem epoch_any (w : World) (p : Nat) (s : PL.St) (M V : Nat → Prop) (h : PRep w p s M V) (k : Int) :
    Calls Try.prog 24 #[.pointer (some ⟨p, 0, none⟩), .int .i64 k] w (Ret (.tuple #[.int .i64 (epVal s.E k), .bool (decide (0 ≤ s.E k))]) w) := by
  obtain ⟨vr, vs, m, G, c0, c1, c2, f0, f1, f2, hR, hS, hM, hE, hm⟩ := h.opened
  have hl := ep_lookup hM hE k
  clear c0 c1 hR hS hM hE hm h
  go_enter Try.func24, Try.ntmps24
  go_wp2_with fail
  go_ret2
  exact Ret.mk rfl (below_refl _)
theorem epoch_nil (w : World) (k : Int) : Calls Try.prog 24 #[.pointer none, .int .i64 k] w (Ret (.tuple #[.int .i64 0, .bool false]) w) := by
  go_enter Try.func24, Try.ntmps24
  go_wp2_with fail
  go_ret2
  exact Ret.mk rfl (below_refl _)

/-- A new log. -/
def IsNew (w : World) (r : Ending) (w' : World) : Prop :=
  ∃ p, r = .returned (.pointer (some ⟨p, 0, none⟩)) ∧ PRep w' p PL.St.new (fun b => w.heap.size ≤ b ∧ b < w'.heap.size) (fun _ => False) ∧ w.heap.size ≤ p ∧ Below w.heap.size w w'
theorem new_any (w : World) : Calls Try.prog 15 #[] w (IsNew w) := by
  have hmm := @run_makeMap Try.prog
  go_enter Try.func15, Try.ntmps15
  go_wp2
  go_ret
  have h0 : ((w.alloc (.map #[] 0)).alloc (.cells #[.slice none 0 0, .slice none 0 0, .map (some w.heap.size)] 83)).heap[w.heap.size + 1]? = some (.cells #[.slice none 0 0, .slice none 0 0, .map (some w.heap.size)] 83 (0, 0)) := by
    have := heap_alloc_new (w.alloc (.map #[] 0)) (.cells #[.slice none 0 0, .slice none 0 0, .map (some w.heap.size)] 83)
    simpa using this
  have hb : Below w.heap.size w ((w.alloc (.map #[] 0)).alloc (.cells #[.slice none 0 0, .slice none 0 0, .map (some w.heap.size)] 83)) := below_alloc (below_alloc (below_refl w) _) _
  refine ⟨w.heap.size + 1, rfl, ⟨_, _, w.heap.size, [], [], h0, World.ownsRow_nil _ _ _ _, rfl, World.ownsRow_nil _ _ _ _, (MapI.made w).below (below_alloc (below_refl _) _), ?_, by simp, ⟨by omega, by simp⟩, ⟨Nat.le_refl _, by simp; omega⟩, by simp [Value.ownBlock], by simp [Value.ownBlock], by simp, by simp⟩, by omega, hb⟩
  intro k
  simp [PL.St.new, val_nil]

theorem heap_setBlock_other' {w : World} {m k : Nat} {o : Obj} (h : k ≠ m) : (ChangeMaps.setBlock w m o).heap[k]? = w.heap[k]? := by
  simp only [ChangeMaps.setBlock, Array.getElem?_setIfInBounds]
  rw [if_neg (fun e => h e.symm)]
theorem ep_put {G : List (Int × Value)} {E : Int → Int} (hn : (G.map (·.1)).Nodup) (hE : EpOf G E) (k v : Int) (hv : 0 ≤ v) : EpOf (put k (.int .i64 v) G) (fun x => if x = k then v else E x) := by
  intro j
  rw [val_put hn]
  by_cases e : j = k
  · simp [e]; omega
  · simp only [e, if_false]; exact hE j

theorem PRep.map_put {W : World} {p : Nat} {s : PL.St} {M V : Nat → Prop} (h : PRep W p s M V) :
    ∃ m G, W.cell? ⟨p, 2, none⟩ = some (.map (some m)) ∧ MapI W m G ∧ EpOf G s.E ∧ (G.map (·.1)).Nodup ∧ M m ∧
      ∀ o G' E', MapI (ChangeMaps.setBlock W m o) m G' → EpOf G' E' → PRep (ChangeMaps.setBlock W m o) p { s with E := E' } M V := by
  obtain ⟨vr, vs, m, L, G, h1, h2, h3, h4, h5, h6, h7, h8, h9, h10, h11, h12, h13⟩ := h
  refine ⟨m, G, by simp [World.cell?, h1], h5, h6, by obtain ⟨_, _, _, _, hn⟩ := h5; exact hn, h9, fun o G' E' hM' hE' => ?_⟩
  obtain ⟨es, clock, hm, _⟩ := h5
  have hk : ∀ k, k ≠ m → (ChangeMaps.setBlock W m o).heap[k]? = W.heap[k]? := fun k hk => heap_setBlock_other' hk
  refine ⟨vr, vs, m, L, G', (hk p (fun e => by subst e; rw [hm] at h1; cases h1)).trans h1, owns_same h2 fun b e => hk b fun e' => ?_, h3, owns_same h4 fun b e => hk b fun e' => ?_, hM', hE',
    fun x hx => ⟨(h7 x hx).1.same fun b e => hk b fun e' => h12 b (e' ▸ h9) ((h7 x hx).2 b e), (h7 x hx).2⟩, h8, h9, h10, h11, h12, fun b e => by simpa [ChangeMaps.setBlock] using h13 b e⟩
  · subst e'
    rcases h2.2 with ⟨e2, _⟩ | ⟨g, cap, cur, e2, _, e3, _⟩
    · rw [e2] at e; cases e
    · rw [e2] at e; cases e; rw [hm] at e3; cases e3
  · subst e'
    rcases h4.2 with ⟨e2, _⟩ | ⟨g, cap, cur, e2, _, e3, _⟩
    · rw [e2] at e; cases e
    · rw [e2] at e; cases e; rw [hm] at e3; cases e3

theorem Fr.setBlock {M : Nat → Prop} {a b : World} (h : Fr M a b) {m : Nat} (hm : M m ∨ a.heap.size ≤ m) (o : Obj) : Fr M a (ChangeMaps.setBlock b m o) := by
  refine ⟨h.os, h.tape, h.output, by simpa [ChangeMaps.setBlock] using h.size, fun i hi hn => ?_⟩
  rw [heap_setBlock_other' (fun e => by subst e; rcases hm with hm | hm; exact hn hm; omega)]
  exact h.block i hi hn

set_option maxRecDepth 100000 in
theorem learn_any (w : World) (p : Nat) (s : PL.St) (M V : Nat → Prop) (h : PRep w p s M V) (a e : Int) :
    Calls Try.prog 26 #[.pointer (some ⟨p, 0, none⟩), .int .i64 a, .int .i64 e] w (RetM M (.int .i64 (s.learn a e).1) (fun w' => PRep w' p (s.learn a e).2 M V) w) := by
  have hpe := fun W => isProducer_any a e W
  by_cases hok : PL.okPE a e
  · have hd : decide (PL.okPE a e) = true := by simpa using hok
    rw [hd] at hpe
    have hpos := hok
    unfold PL.okPE at hpos
    obtain ⟨p0, p1, p2, p3⟩ := hpos
    clear hd
    go_enter Try.func26, Try.ntmps26
    go_wp2_with fail
    refine (hpe _).mono ?_
    rintro r w1 ⟨rfl, hb1⟩
    clear hpe
    go_wp2_with fail
    refine wp_region_still_tail 13 (by kernel_rfl) (by kernel_rfl) ?_
    change wpStill _ _ w1.drew (fun a' => wpList _ _ _ _ a' w1.drew) _ _
    have hbW : Below w.heap.size w w1.drew := below_drew hb1
    generalize w1.drew = W at *
    obtain ⟨m, G, k2, hM, hE, hn, hm, hput⟩ := (h.below hbW).map_put
    have hl := ep_lookup1 hM hE a
    obtain ⟨o, hrun, hM'⟩ := hM.update (P := Try.prog) Try.underlying81 Try.underlying3 a (.int .i64 (max (epVal s.E a) e))
    have hE' := ep_put hn hE a (max (epVal s.E a) e) (by omega)
    have hP := hput o _ _ hM' hE'
    have hx : (fun x => if x = a then max (epVal s.E a) e else s.E x) = (fun x => if x = a then max (s.E a) e else s.E x) := by
      funext x
      split
      · unfold epVal; split <;> omega
      · rfl
    rw [hx] at hP
    have HP := Lib.hid hP
    have hF : Fr M w (ChangeMaps.setBlock W m o) := (Fr.of_below hbW).setBlock (.inl hm) o
    have HF := Lib.hid hF
    clear hb1 w1 hM hE hn hput hM' hE' hP hx hF hbW h hm
    simp only [List.take_succ_cons, List.take_zero, List.drop_succ_cons, List.drop_zero]
    repeat (refine wpStill_step (fun K hK => ?_); go_simp; refine hK _ ?_; clear hK K)
    refine wpStill_nil ?_
    go_wp2_with fail
    go_ret
    have hs : s.learn a e = (0, { s with E := fun x => if x = a then max (s.E a) e else s.E x }) := by unfold PL.St.learn; rw [if_pos hok]
    exact RetM.mk (by rw [hs]; rfl) (by rw [hs]; exact HP.out) HF.out
  · have hd : decide (PL.okPE a e) = false := by simpa using hok
    rw [hd] at hpe
    clear hd
    have hs : s.learn a e = (1, s) := by unfold PL.St.learn; rw [if_neg hok]
    rw [hs]
    go_enter Try.func26, Try.ntmps26
    go_wp2_with fail
    refine (hpe _).mono ?_
    rintro r w1 ⟨rfl, hb1⟩
    clear hpe
    go_wp2_with fail
    go_ret
    exact RetM.mk rfl (h.below hb1) (Fr.of_below hb1)

end Go.Proofs.Ytjjlbancofkinaa
