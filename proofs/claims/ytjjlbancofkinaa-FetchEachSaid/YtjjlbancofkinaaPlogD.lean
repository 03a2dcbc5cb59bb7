/-
  A log whose spans or records are written; the end of a transaction.
-/
import Derived.Test.YtjjlbancofkinaaPlogC
import Derived.Deep.AppendLies
namespace Go.Proofs.Ytjjlbancofkinaa
open Go.RowKit

/-- An operation of a drawn region that is passed over. -/
theorem wpStill_skip {P : Program} {ops : Array Oper} {w : World} {Q : Act → Prop} {a : Act} {o : Oper} {rest : List Oper} (hw : Region.wanted o (yielded ops a.tmps) = false) (ha : a.put o.dst undef = a) (h : wpStill P ops w Q rest a) : wpStill P ops w Q (o :: rest) a := by
  unfold wpStill
  rw [if_neg (by rw [hw]; simp), ha]
  exact h

theorem heap_setCell_self {W : World} {b : Nat} {cs : Array Value} {T : TypeId} {fr : Nat × Nat} (h : W.heap[b]? = some (.cells cs T fr)) (o : Nat) (v : Value) : (W.setCell ⟨b, o, none⟩ v).heap[b]? = some (.cells (cs.setIfInBounds o v) T fr) := by
  have hlt := lt_of_block h
  have h' : W.heap[b] = .cells cs T fr := by simpa [Array.getElem?_eq_getElem hlt] using h
  show (W.heap.modify b _)[b]? = _
  rw [Array.getElem?_eq_getElem (by simpa using hlt), Array.getElem_modify_self, h']
  rfl
theorem heap_setCell_ne {W : World} {b k o : Nat} {v : Value} (h : k ≠ b) : (W.setCell ⟨b, o, none⟩ v).heap[k]? = W.heap[k]? := Below.heap_setCell W ⟨b, o, none⟩ v k h
theorem owns_block {w : World} {base e size n : Nat} {v : Value} {xs : List Value} (h : w.ownsRow base e size v n xs) {b : Nat} (hb : v.ownBlock = some b) : ∃ cur, w.heap[b]? = some (.cells cur e (0, 0)) := by
  rcases h.2 with ⟨e2, _⟩ | ⟨g, cap, cur, e2, _, e3, _⟩
  · rw [e2] at hb; cases hb
  · rw [e2] at hb; cases hb; exact ⟨cur, e3⟩

/-- The spans of a log, and the log where another row of spans stands in their place. -/
theorem PRep.spn_put {W : World} {p : Nat} {s : PL.St} {M V : Nat → Prop} (h : PRep W p s M V) :
    ∃ vs, W.cell? ⟨p, 1, none⟩ = some vs ∧ W.frozen? ⟨p, 1, none⟩ = false ∧ W.ownsRow 0 68 5 vs s.S.length (spnCells s.S) ∧ M p ∧ (∀ b, vs.ownBlock = some b → M b ∧ b ≠ p) ∧ p < W.heap.size ∧
      ∀ W' vs' S', W.grownBy W' vs.ownBlock → W'.ownsRow 0 68 5 vs' S'.length (spnCells S') → (∀ g, vs'.ownBlock = some g → vs.ownBlock = some g ∨ W.heap.size ≤ g) →
        PRep (W'.setCell ⟨p, 1, none⟩ vs') p { s with S := S' } (fun b => M b ∨ W.heap.size ≤ b ∧ vs'.ownBlock = some b) V := by
  obtain ⟨vr, vs, m, L, G, h1, h2, h3, h4, h5, h6, h7, h8, h9, h10, h11, h12, h13⟩ := h
  have hps : ∀ b, vs.ownBlock = some b → b ≠ p := fun b e e' => by
    subst e'; obtain ⟨cur, h⟩ := owns_block h4 e; rw [h] at h1; cases h1
  refine ⟨vs, by simp [World.cell?, h1], by simp [World.frozen?, h1], h4, h8, fun b e => ⟨h11 b e, hps b e⟩, lt_of_block h1, fun W' vs' S' hg hw hf => ?_⟩
  have hsz := hg.size
  have hk : ∀ k, k < W.heap.size → k ≠ p → vs.ownBlock ≠ some k → (W'.setCell ⟨p, 1, none⟩ vs').heap[k]? = W.heap[k]? := fun k hk hn ho => by
    rw [heap_setCell_ne hn]; exact hg.block k hk (fun e => ho e.symm)
  have hp' : W'.heap[p]? = some (.cells #[vr, vs, .map (some m)] 83 (0, 0)) := (hg.block p (lt_of_block h1) (fun e => hps p e.symm rfl)).trans h1
  have hr : ∀ b, vr.ownBlock = some b → b ≠ p ∧ vs.ownBlock ≠ some b := fun b e => by
    obtain ⟨cur, hc⟩ := owns_block h2 e
    exact ⟨(fun e' => by subst e'; rw [hc] at h1; cases h1), fun e' => by obtain ⟨cur', hc'⟩ := owns_block h4 e'; rw [hc] at hc'; cases hc'⟩
  have hm : m ≠ p ∧ vs.ownBlock ≠ some m := by
    obtain ⟨es, c, hc, _⟩ := h5
    exact ⟨(fun e' => by subst e'; rw [hc] at h1; cases h1), fun e' => by obtain ⟨cur', hc'⟩ := owns_block h4 e'; rw [hc] at hc'; cases hc'⟩
  have hnew : ∀ b, vs'.ownBlock = some b → b ≠ p := fun b e e' => by
    subst e'
    obtain ⟨cur, hc⟩ := owns_block hw e
    rw [hc] at hp'; cases hp'
  refine ⟨vr, vs', m, L, G, heap_setCell_self hp' 1 vs', owns_same h2 fun b e => hk b (h13 b (.inl (h10 b e))) (hr b e).1 (hr b e).2, h3, owns_same hw fun b e => heap_setCell_ne (hnew b e), h5.same (hk m (h13 m (.inl h9)) hm.1 hm.2), h6,
    fun x hx => ⟨(h7 x hx).1.same fun b e => hk b (h13 b (.inr ((h7 x hx).2 b e))) (fun e' => h12 b (e' ▸ h8) ((h7 x hx).2 b e)) (fun e' => h12 b (h11 b e') ((h7 x hx).2 b e)), (h7 x hx).2⟩,
    .inl h8, .inl h9, fun b e => .inl (h10 b e), fun b e => ?_, ?_, ?_⟩
  · rcases hf b e with h' | h'
    · exact .inl (h11 b h')
    · exact .inr ⟨h', e⟩
  · rintro b (h' | ⟨h', _⟩) hv
    · exact h12 b h' hv
    · have := h13 b (.inr hv); omega
  · intro b hb
    have h0 : (W'.setCell ⟨p, 1, none⟩ vs').heap.size = W'.heap.size := by simp [World.setCell]
    rw [h0]
    rcases hb with (h' | ⟨_, h'⟩) | h'
    · exact Nat.lt_of_lt_of_le (h13 b (.inl h')) hsz
    · obtain ⟨cur, hc⟩ := owns_block hw h'; exact lt_of_block hc
    · exact Nat.lt_of_lt_of_le (h13 b (.inr h')) hsz

theorem spnCells_set (S : List PL.Spn) (i : Nat) (k : Int) : spnCells (PL.setK S i k) = (spnCells S).set (i * 5 + 4) (.int .i64 k) := by
  unfold PL.setK spnCells
  induction S generalizing i with
  | nil => cases i <;> rfl
  | cons x S ih =>
    cases i with
    | zero => rfl
    | succ i =>
      rw [List.modify_succ_cons, List.flatMap_cons, List.flatMap_cons, ih, show (i + 1) * 5 + 4 = (i * 5 + 4) + 5 from by omega]
      rfl
theorem setK_length (S : List PL.Spn) (i : Nat) (k : Int) : (PL.setK S i k).length = S.length := by simp [PL.setK]

/-- The log where the kind of a span is written. -/
theorem PRep.kind_put {W : World} {p : Nat} {s : PL.St} {M V : Nat → Prop} (h : PRep W p s M V) {i : Nat} (hi : i < s.S.length) :
    ∃ g c, W.cell? ⟨p, 1, none⟩ = some (.slice (some ⟨g, 0, none⟩) s.S.length c) ∧ s.S.length ≤ c ∧ c ≤ 9223372036854775807 ∧ SpnAt W g (i * 5) s.S[i] ∧ W.frozen? ⟨g, i * 5 + 4, none⟩ = false ∧ M g ∧
      ∀ k, PRep (W.setCell ⟨g, i * 5 + 4, none⟩ (.int .i64 k)) p { s with S := PL.setK s.S i k } M V := by
  obtain ⟨vr, vs, m, L, G, h1, h2, h3, h4, h5, h6, h7, h8, h9, h10, h11, h12, h13⟩ := h
  obtain ⟨a, c, hv, hc1, hc2, hc3, hc4⟩ := owns_form h4
  obtain ⟨y, hy⟩ := Option.ne_none_iff_exists'.1 (hc4 (by omega))
  obtain ⟨g, rfl, hg⟩ := hc3 y hy
  subst hy
  subst hv
  obtain ⟨cur, hcur⟩ := owns_block h4 hg
  refine ⟨g, c, by simp [World.cell?, h1], hc1, hc2, spn_of_owns h4 hg (List.getElem?_eq_getElem hi), by simp [World.frozen?, hcur], h11 g hg, fun k => ?_⟩
  obtain ⟨hs1, hs2⟩ := h4.stored (i * 5 + 4) (.int .i64 k)
  have hk : ∀ b, b ≠ g → (W.setCell ⟨g, i * 5 + 4, none⟩ (.int .i64 k)).heap[b]? = W.heap[b]? := fun b hb => heap_setCell_ne hb
  have hz : (W.setCell ⟨g, i * 5 + 4, none⟩ (.int .i64 k)).heap.size = W.heap.size := by simp [World.setCell]
  refine ⟨vr, _, m, L, G, (hk p fun e => by subst e; rw [hcur] at h1; cases h1).trans h1, owns_same h2 fun b e => hk b fun e' => ?_, h3, ?_, h5.same (hk m fun e => ?_), h6,
    fun x hx => ⟨(h7 x hx).1.same fun b e => hk b fun e' => h12 b (e' ▸ h11 g hg) ((h7 x hx).2 b e), (h7 x hx).2⟩, h8, h9, h10, h11, h12, fun b e => by rw [hz]; exact h13 b e⟩
  · subst e'; obtain ⟨cur', hc'⟩ := owns_block h2 e; rw [hcur] at hc'; cases hc'
  · rw [spnCells_set]; simp only [setK_length]; exact hs1
  · subst e; obtain ⟨es, cl, hc', _⟩ := h5; rw [hcur] at hc'; cases hc'

/-- The records of a log, and the log where a row of one record more stands in their place. -/
theorem PRep.rec_put {W : World} {p : Nat} {s : PL.St} {M V : Nat → Prop} (h : PRep W p s M V) :
    ∃ vr L, W.cell? ⟨p, 0, none⟩ = some vr ∧ W.frozen? ⟨p, 0, none⟩ = false ∧ W.ownsRow 0 32 5 vr s.R.length (recCells L) ∧ L.map (·.1) = s.R ∧ M p ∧ (∀ b, vr.ownBlock = some b → M b ∧ b ≠ p) ∧ p < W.heap.size ∧
      ∀ W' vr' r u, W.grownBy W' vr.ownBlock → W'.ownsRow 0 32 5 vr' (s.R.length + 1) (recCells (L ++ [(r, u)])) → (∀ g, vr'.ownBlock = some g → vr.ownBlock = some g ∨ W.heap.size ≤ g) →
        BytesAt W u r.v → (∀ b, Value.blk u = some b → ¬ M b) →
        PRep (W'.setCell ⟨p, 0, none⟩ vr') p { s with R := s.R ++ [r] } (fun b => M b ∨ W.heap.size ≤ b ∧ vr'.ownBlock = some b) (fun b => V b ∨ Value.blk u = some b) := by
  obtain ⟨vr, vs, m, L, G, h1, h2, h3, h4, h5, h6, h7, h8, h9, h10, h11, h12, h13⟩ := h
  have hLl : L.length = s.R.length := by rw [← h3, List.length_map]
  have hps : ∀ b, vr.ownBlock = some b → b ≠ p := fun b e e' => by
    subst e'; obtain ⟨cur, h⟩ := owns_block h2 e; rw [h] at h1; cases h1
  refine ⟨vr, L, by simp [World.cell?, h1], by simp [World.frozen?, h1], hLl ▸ h2, h3, h8, fun b e => ⟨h10 b e, hps b e⟩, lt_of_block h1, fun W' vr' r u hg hw hf hu hun => ?_⟩
  have hsz := hg.size
  have hk : ∀ k, k < W.heap.size → k ≠ p → vr.ownBlock ≠ some k → (W'.setCell ⟨p, 0, none⟩ vr').heap[k]? = W.heap[k]? := fun k hk hn ho => by
    rw [heap_setCell_ne hn]; exact hg.block k hk (fun e => ho e.symm)
  have hp' : W'.heap[p]? = some (.cells #[vr, vs, .map (some m)] 83 (0, 0)) := (hg.block p (lt_of_block h1) (fun e => hps p e.symm rfl)).trans h1
  have hr : ∀ b, vs.ownBlock = some b → b ≠ p ∧ vr.ownBlock ≠ some b := fun b e => by
    obtain ⟨cur, hc⟩ := owns_block h4 e
    exact ⟨(fun e' => by subst e'; rw [hc] at h1; cases h1), fun e' => by obtain ⟨cur', hc'⟩ := owns_block h2 e'; rw [hc] at hc'; cases hc'⟩
  have hm : m ≠ p ∧ vr.ownBlock ≠ some m := by
    obtain ⟨es, c, hc, _⟩ := h5
    exact ⟨(fun e' => by subst e'; rw [hc] at h1; cases h1), fun e' => by obtain ⟨cur', hc'⟩ := owns_block h2 e'; rw [hc] at hc'; cases hc'⟩
  have hnew : ∀ b, vr'.ownBlock = some b → b ≠ p := fun b e e' => by
    subst e'
    obtain ⟨cur, hc⟩ := owns_block hw e
    rw [hc] at hp'; cases hp'
  have hval : ∀ v bs, BytesAt W v bs → (∀ b, Value.blk v = some b → ¬ M b) → BytesAt (W'.setCell ⟨p, 0, none⟩ vr') v bs := fun v bs hv hn =>
    hv.same fun b e => hk b (hv.lt e) (fun e' => hn b e (e' ▸ h8)) (fun e' => hn b e (h10 b e'))
  refine ⟨vr', vs, m, L ++ [(r, u)], G, heap_setCell_self hp' 0 vr', ?_, by simp [h3], owns_same h4 fun b e => hk b (h13 b (.inl (h11 b e))) (hr b e).1 (hr b e).2, h5.same (hk m (h13 m (.inl h9)) hm.1 hm.2), h6,
    fun x hx => ?_, .inl h8, .inl h9, fun b e => ?_, fun b e => .inl (h11 b e), ?_, ?_⟩
  · rw [List.length_append, hLl]; exact owns_same hw fun b e => heap_setCell_ne (hnew b e)
  · rcases List.mem_append.1 hx with hx | hx
    · exact ⟨hval _ _ (h7 x hx).1 (fun b e hb => h12 b hb ((h7 x hx).2 b e)), fun b e => .inl ((h7 x hx).2 b e)⟩
    · simp at hx; subst hx
      exact ⟨hval _ _ hu hun, fun b e => .inr e⟩
  · rcases hf b e with h' | h'
    · exact .inl (h10 b h')
    · exact .inr ⟨h', e⟩
  · rintro b (h' | ⟨h', _⟩) (hv | hv)
    · exact h12 b h' hv
    · exact hun b hv h'
    · have := h13 b (.inr hv); omega
    · have := hu.lt hv; omega
  · intro b hb
    have h0 : (W'.setCell ⟨p, 0, none⟩ vr').heap.size = W'.heap.size := by simp [World.setCell]
    rw [h0]
    rcases hb with (h' | ⟨_, h'⟩) | (h' | h')
    · exact Nat.lt_of_lt_of_le (h13 b (.inl h')) hsz
    · obtain ⟨cur, hc⟩ := owns_block hw h'; exact lt_of_block hc
    · exact Nat.lt_of_lt_of_le (h13 b (.inr h')) hsz
    · exact Nat.lt_of_lt_of_le (hu.lt h') hsz

theorem grown_trans {a b c : World} {row : Option Nat} (h : a.grownBy b none) (k : b.grownBy c row) : a.grownBy c row :=
  ⟨k.os.trans h.os, k.tape.trans h.tape, k.output.trans h.output, Nat.le_trans h.size k.size, fun i hi hn => (k.block i (Nat.lt_of_lt_of_le hi h.size) hn).trans (h.block i hi (by simp))⟩
theorem spn_new (w : World) (T : TypeId) (x : PL.Spn) : ∀ j u, (spnCells [x])[j]? = some u → (w.alloc (.cells #[.int .i64 x.p, .int .i64 x.e, .int .i64 x.t, .int .i64 x.f, .int .i64 x.k] T)).cell? ((⟨w.heap.size, 0, none⟩ : Addr).add j) = some u := by
  intro j u hu
  exact World.news_of_block (heap_alloc_new w _) j u hu
theorem spnCells_append (S : List PL.Spn) (x : PL.Spn) : spnCells (S ++ [x]) = spnCells S ++ spnCells [x] := by simp [spnCells]
theorem frozen_same {w w' : World} {b o : Nat} {v : Bool} (h : w.frozen? ⟨b, o, none⟩ = v) (hb : w'.heap[b]? = w.heap[b]?) : w'.frozen? ⟨b, o, none⟩ = v := by rw [World.frozen?_of_block (w := w) (a := ⟨b, o, none⟩) hb]; exact h

theorem setK_last (S : List PL.Spn) (x : PL.Spn) (k : Int) : PL.setK (S ++ [x]) S.length k = S ++ [{ x with k := k }] := by
  unfold PL.setK
  apply List.ext_getElem?
  intro j
  rw [List.getElem?_modify]
  by_cases e : S.length = j
  · subst e; simp
  · rcases Nat.lt_or_ge j S.length with hj | hj
    · simp [List.getElem?_append_left hj, e]
    · rw [List.getElem?_append_right hj, List.getElem?_append_right hj]
      have h1 : j - S.length = (j - S.length - 1) + 1 := by omega
      rw [h1]
      simp [e]

def kindOf (c : Bool) : Int := if c then 2 else 3
theorem kindOf_cases (c : Bool) : (c = true ∧ kindOf c = 2) ∨ (c = false ∧ kindOf c = 3) := by cases c <;> simp [kindOf]
theorem ite_pair {α β : Type} (c : Prop) [Decidable c] (a a' : α) (b b' : β) : (if c then (a, b) else (a', b')) = (if c then a else a', if c then b else b') := by by_cases h : c <;> simp [h]
theorem bne_f {a b : Int} (h : a = b) : (a != b) = false := by simpa using h
theorem bne_t {a b : Int} (h : a ≠ b) : (a != b) = true := by simpa using h
/-- It returns this value, and the log is another one. -/
def Turned (p : Nat) (M V : Nat → Prop) (v : Value) (s : PL.St) (w : World) (r : Ending) (w' : World) : Prop :=
  ∃ M' V', r = .returned v ∧ PRep w' p s M' V' ∧ Fr M w w' ∧ (∀ b, M' b → M b ∨ w.heap.size ≤ b) ∧ ∀ b, V' b → V b ∨ w.heap.size ≤ b

set_option maxRecDepth 100000 in
set_option maxHeartbeats 800000 in
theorem ends_new (w : World) (p : Nat) (s : PL.St) (M V : Nat → Prop) (h : PRep w p s M V) (hn : s.S.length ≤ 1099511627776) (a e t : Int) (c : Bool) (hok : PL.okPE a e) (hot : PL.okT t) (hi : s.span a e t < 0) :
    Calls Try.prog 27 #[.pointer (some ⟨p, 0, none⟩), .int .i64 a, .int .i64 e, .int .i64 t, .bool c] w (Turned p M V (.int .i64 0) { s with S := s.S ++ [⟨a, e, t, -1, kindOf c⟩] } w) := by
  have hpe : ∀ W, Calls Try.prog 55 #[.int .i64 a, .int .i64 e] W (Ret (.bool true) W) := fun W => by have := isProducer_any a e W; rwa [show decide (PL.okPE a e) = true by simpa using hok] at this
  have htx : ∀ W, Calls Try.prog 56 #[.int .i64 t] W (Ret (.bool true) W) := fun W => by have := isTxn_any t W; rwa [show decide (PL.okT t) = true by simpa using hot] at this
  obtain ⟨i0, hi0, hz0, hz1, hz2⟩ := info_parts Try.infoSpan
  generalize hx : s.span a e t = i at *
  have Hx := Lib.hid hx
  clear hx hok hot
  have hkc := kindOf_cases c
  generalize kindOf c = kd at *
  rcases hkc with ⟨rfl, rfl⟩ | ⟨rfl, rfl⟩
  all_goals
    go_enter Try.func27, Try.ntmps27
    go_wp2_with fail
    refine (hpe _).mono ?_
    rintro r w1 ⟨rfl, hb1⟩
    go_wp2_with fail
    refine (htx _).mono ?_
    rintro r w2 ⟨rfl, hb2⟩
    have hb2' := below_step hb1 hb2
    clear hb1 hb2 hpe htx
    go_wp2_with fail
    have hsp := span_any w2 p s M V (h.below hb2') a e t
    rw [Hx.out] at hsp
    refine hsp.mono ?_
    rintro r w3 ⟨rfl, hb3⟩
    have hb3' := below_step hb2' hb3
    clear hb2' hb3 hsp
    obtain ⟨vs, c1, f1, hown, hMp, hvM, hlt, hput⟩ := (h.below hb3').spn_put
    have hlt1 : p < w3.heap.size + 1 := by omega
    obtain ⟨av, cv, rfl, hv1, hv2, hv3, hv4⟩ := owns_form hown
    go_wp2_with (at_builtin; refine wpList_append_lies _ rfl _ _ _ rfl 0 68 i0 (.agg #[.int .i64 0, .int .i64 0, .int .i64 0, .int .i64 0, .int .i64 0]) 5 40 Try.underlying42 hi0 hz0 hz1 hz2 rfl (by decide) _ _ _ (by rfl) (hown.alloc _) ⟨w3.heap.size, 0, none⟩ 1 1 (spnCells [⟨a, e, t, -1, 0⟩]) (by rfl) rfl (spn_new w3 68 ⟨a, e, t, -1, 0⟩) (spn_oneCell _) (by omega) (by unfold maxLen; omega) (by omega) (Nat.zero_le _) (w3.heap.size + 1) (by simp) ?_)
    intro g cap w4 hown4 hgrow hat hlt4
    have hg3 := grown_trans (World.grownBy_alloc w3 _ none) hgrow
    rw [← spnCells_append] at hown4
    have hP := hput w4 _ (s.S ++ [⟨a, e, t, -1, 0⟩]) hg3 (by simpa using hown4) (fun g' e => by
      cases e
      rcases hat with h | h
      · exact .inl h
      · exact .inr (show w3.heap.size ≤ g by omega))
    have hp4 : w4.heap[p]? = w3.heap[p]? := hg3.block p hlt (fun e => (hvM p e.symm).2 rfl)
    have c4 := cell_same c1 hp4
    have f4 := frozen_same f1 hp4
    obtain ⟨g', c', k1, kc1, kc2, kat, kf, kM, kput⟩ := hP.kind_put (i := s.S.length) (by simp)
    have hc5 : (w4.setCell ⟨p, 1, none⟩ (.slice (some ⟨g, 0, none⟩) (s.S.length + 1) cap)).cell? ⟨p, 1, none⟩ = some (.slice (some ⟨g, 0, none⟩) (s.S.length + 1) cap) := World.cell?_setCell_same' _ _ _ (by rw [c4]; rfl)
    rw [k1] at hc5
    simp only [Option.some.injEq, Value.slice.injEq, Addr.mk.injEq, and_true] at hc5
    obtain ⟨rfl, -, rfl⟩ := hc5
    have hkp := fun k => kput k
    simp only [setK_last] at hkp
    have hsp4 := spn_of_owns hown4 (g := g') rfl (i := s.S.length) (x := ⟨a, e, t, -1, 0⟩) (by simp)
    obtain ⟨d0, d1, d2, d3, d4⟩ := hsp4
    obtain ⟨cur, hcur⟩ := owns_block hown4 (b := g') rfl
    have fg : w4.frozen? ⟨g', s.S.length * 5 + 4, none⟩ = false := by simp [World.frozen?, hcur]
    have hgp : g' ≠ p := by
      rintro rfl
      rcases hat with h | h
      · exact (hvM _ h).2 rfl
      · omega
    have hcl : s.S.length + 1 ≤ c' := by simpa using kc1
    have HF : RowKit.Hid (Fr M w (w4.setCell ⟨p, 1, none⟩ (.slice (some ⟨g', 0, none⟩) (s.S.length + 1) c'))) :=
      Lib.hid (((Fr.of_below hb3').grown hg3 (fun k e => .inl (hvM k e).1)).setCell (.inl hMp) _)
    have HM : RowKit.Hid (∀ b, (M b ∨ w3.heap.size ≤ b ∧ (Value.slice (some ⟨g', 0, none⟩) (s.S.length + 1) c').ownBlock = some b) → M b ∨ w.heap.size ≤ b) := Lib.hid (fun b hb => by
      have := hb3'.size
      rcases hb with h | ⟨h, _⟩
      · exact .inl h
      · exact .inr (by omega))
    have HG : RowKit.Hid (M g' ∨ w.heap.size ≤ g') := Lib.hid (by
      have := hb3'.size
      rcases hat with h | h
      · exact .inl (hvM _ h).1
      · exact .inr (by omega))
    have HP := Lib.hid hkp
    clear hkp kput kM kf kat kc1 kc2 k1 hP hput hvM hat hv3 hv4 hgrow hg3 hcur hown4 hown c1 f1 hp4 h hb3' Hx d0 d1 d2 d3
    go_wp2_with fail
    go_ret
    exact ⟨_, _, rfl, HP.out _, HF.out.setCell HG.out _, HM.out, fun b hb => .inl hb⟩

set_option maxRecDepth 100000 in
set_option maxHeartbeats 1600000 in
theorem ends_old (w : World) (p : Nat) (s : PL.St) (M V : Nat → Prop) (h : PRep w p s M V) (a e t : Int) (c : Bool) (hok : PL.okPE a e) (hot : PL.okT t) (j : Nat) (hj : j < s.S.length) (hi : s.span a e t = (j : Int)) :
    Calls Try.prog 27 #[.pointer (some ⟨p, 0, none⟩), .int .i64 a, .int .i64 e, .int .i64 t, .bool c] w
      (Turned p M V (.int .i64 (if s.S[j].k ≠ 0 ∧ s.S[j].k ≠ kindOf c then 6 else 0)) (if s.S[j].k ≠ 0 ∧ s.S[j].k ≠ kindOf c then s else { s with S := PL.setK s.S j (kindOf c) }) w) := by
  have hpe : ∀ W, Calls Try.prog 55 #[.int .i64 a, .int .i64 e] W (Ret (.bool true) W) := fun W => by have := isProducer_any a e W; rwa [show decide (PL.okPE a e) = true by simpa using hok] at this
  have htx : ∀ W, Calls Try.prog 56 #[.int .i64 t] W (Ret (.bool true) W) := fun W => by have := isTxn_any t W; rwa [show decide (PL.okT t) = true by simpa using hot] at this
  have Hx := Lib.hid hi
  clear hi hok hot
  have hc : ∀ k : Int, k = s.S[j].k → (k = 0 ∨ k ≠ 0 ∧ (k = kindOf c ∨ k ≠ kindOf c)) := fun k _ => by omega
  have hc := Lib.hid (hc _ rfl)
  have hkc := kindOf_cases c
  generalize kindOf c = kd at *
  generalize hst : (if s.S[j].k ≠ 0 ∧ s.S[j].k ≠ kd then s else { s with S := PL.setK s.S j kd }) = st
  generalize hrv : (if s.S[j].k ≠ 0 ∧ s.S[j].k ≠ kd then (6 : Int) else 0) = rv
  have Hst := Lib.hid hst
  have Hrv := Lib.hid hrv
  clear hst hrv
  go_enter Try.func27, Try.ntmps27
  go_wp2_with fail
  refine (hpe _).mono ?_
  rintro r w1 ⟨rfl, hb1⟩
  go_wp2_with fail
  refine (htx _).mono ?_
  rintro r w2 ⟨rfl, hb2⟩
  have hb2' := below_step hb1 hb2
  clear hb1 hb2 hpe htx
  rcases hkc with ⟨rfl, rfl⟩ | ⟨rfl, rfl⟩
  all_goals
    go_wp2_with fail
    have hsp := span_any w2 p s M V (h.below hb2') a e t
    rw [Hx.out] at hsp
    refine hsp.mono ?_
    rintro r w3 ⟨rfl, hb3⟩
    have hb3' := below_step hb2' hb3
    clear hb2' hb3 hsp
    obtain ⟨g, cp, k1, kc1, kc2, kat, kf, kM, kput⟩ := (h.below hb3').kind_put hj
    obtain ⟨d0, d1, d2, d3, d4⟩ := kat
    have hP0 := h.below hb3'
    have HP0 := Lib.hid hP0
    have HF0 := Lib.hid hb3'
    have HP := Lib.hid kput
    clear kput hP0 hb3' d0 d1 d2 d3 h Hx
    generalize s.S[j].k = k at *
    rcases hc.out with h0 | ⟨h0, h1 | h1⟩
    · have h0' : (k != 0) = false := by simpa using h0
      have H0 := Lib.hid h0
      clear h0 hc
      go_wp2_with fail
      go_ret
      refine ⟨M, V, ?_, ?_, (Fr.of_below HF0.out).setCell (.inl kM) _, fun b hb => .inl hb, fun b hb => .inl hb⟩
      · rw [← Hrv.out, if_neg (fun x => x.1 H0.out)]; rfl
      · rw [← Hst.out, if_neg (fun x => x.1 H0.out)]; exact HP.out _
    · have h0' : (k != 0) = true := by simpa using h0
      have h1' := bne_f h1
      have H1 := Lib.hid h1
      clear h0 h1 hc
      go_wp2_with fail
      go_ret
      refine ⟨M, V, ?_, ?_, (Fr.of_below HF0.out).setCell (.inl kM) _, fun b hb => .inl hb, fun b hb => .inl hb⟩
      · rw [← Hrv.out, if_neg (fun x => x.2 H1.out)]; rfl
      · rw [← Hst.out, if_neg (fun x => x.2 H1.out)]; exact HP.out _
    · have h0' : (k != 0) = true := by simpa using h0
      have h1' := bne_t h1
      have H0 := Lib.hid h0
      have H1 := Lib.hid h1
      clear h0 h1 hc
      go_wp2_with fail
      go_ret
      refine ⟨M, V, ?_, ?_, Fr.of_below HF0.out, fun b hb => .inl hb, fun b hb => .inl hb⟩
      · rw [← Hrv.out, if_pos ⟨H0.out, H1.out⟩]; rfl
      · rw [← Hst.out, if_pos ⟨H0.out, H1.out⟩]; exact HP0.out

set_option maxRecDepth 100000 in
theorem ends_bad (w : World) (p : Nat) (s : PL.St) (M V : Nat → Prop) (h : PRep w p s M V) (a e t : Int) (c : Bool) (hok : ¬ (PL.okPE a e ∧ PL.okT t)) :
    Calls Try.prog 27 #[.pointer (some ⟨p, 0, none⟩), .int .i64 a, .int .i64 e, .int .i64 t, .bool c] w (Turned p M V (.int .i64 1) s w) := by
  by_cases hpe : PL.okPE a e
  · have hpe' : ∀ W, Calls Try.prog 55 #[.int .i64 a, .int .i64 e] W (Ret (.bool true) W) := fun W => by have := isProducer_any a e W; rwa [show decide (PL.okPE a e) = true by simpa using hpe] at this
    have htx : ∀ W, Calls Try.prog 56 #[.int .i64 t] W (Ret (.bool false) W) := fun W => by have := isTxn_any t W; rwa [show decide (PL.okT t) = false by simpa using fun h => hok ⟨hpe, h⟩] at this
    clear hok hpe
    go_enter Try.func27, Try.ntmps27
    go_wp2_with fail
    refine (hpe' _).mono ?_
    rintro r w1 ⟨rfl, hb1⟩
    go_wp2_with fail
    refine (htx _).mono ?_
    rintro r w2 ⟨rfl, hb2⟩
    have hb := below_step hb1 hb2
    clear hb1 hb2 htx hpe'
    go_wp2_with fail
    go_ret
    exact ⟨M, V, rfl, h.below hb, Fr.of_below hb, fun b hb => .inl hb, fun b hb => .inl hb⟩
  · have hpe' : ∀ W, Calls Try.prog 55 #[.int .i64 a, .int .i64 e] W (Ret (.bool false) W) := fun W => by have := isProducer_any a e W; rwa [show decide (PL.okPE a e) = false by simpa using hpe] at this
    clear hok hpe
    go_enter Try.func27, Try.ntmps27
    go_wp2_with fail
    refine (hpe' _).mono ?_
    rintro r w1 ⟨rfl, hb1⟩
    clear hpe'
    go_wp2_with fail
    go_ret
    exact ⟨M, V, rfl, h.below hb1, Fr.of_below hb1, fun b hb => .inl hb, fun b hb => .inl hb⟩

theorem ends_any (w : World) (p : Nat) (s : PL.St) (M V : Nat → Prop) (h : PRep w p s M V) (hn : s.S.length ≤ 1099511627776) (a e t : Int) (c : Bool) :
    Calls Try.prog 27 #[.pointer (some ⟨p, 0, none⟩), .int .i64 a, .int .i64 e, .int .i64 t, .bool c] w (Turned p M V (.int .i64 (s.ends a e t c).1) (s.ends a e t c).2 w) := by
  by_cases hok : PL.okPE a e ∧ PL.okT t
  · have hb := idx_ge (PL.isSpn a e t) s.S 0
    by_cases hi : s.span a e t < 0
    · have he : s.ends a e t c = (0, { s with S := s.S ++ [⟨a, e, t, -1, kindOf c⟩] }) := by
        unfold PL.St.ends; rw [if_neg (fun x => x hok)]; simp only; rw [if_pos hi]; rfl
      rw [he]
      exact ends_new w p s M V h hn a e t c hok.1 hok.2 hi
    · have hj : (s.span a e t).toNat < s.S.length := by
        have : s.span a e t = PL.idx (PL.isSpn a e t) s.S (0 : Nat) := rfl
        omega
      have hi' : s.span a e t = ((s.span a e t).toNat : Int) := by omega
      have he : s.ends a e t c = (if s.S[(s.span a e t).toNat].k ≠ 0 ∧ s.S[(s.span a e t).toNat].k ≠ kindOf c then 6 else 0, if s.S[(s.span a e t).toNat].k ≠ 0 ∧ s.S[(s.span a e t).toNat].k ≠ kindOf c then s else { s with S := PL.setK s.S (s.span a e t).toNat (kindOf c) }) := by
        unfold PL.St.ends kindOf; rw [if_neg (fun x => x hok)]; simp only; rw [if_neg hi]
        have : s.S.getD (s.span a e t).toNat ⟨a, e, t, -1, 0⟩ = s.S[(s.span a e t).toNat] := by simp [List.getD, hj]
        rw [this]
        exact ite_pair _ _ _ _ _
      rw [he]
      exact ends_old w p s M V h a e t c hok.1 hok.2 _ hj hi'
  · have he : s.ends a e t c = (1, s) := by unfold PL.St.ends; rw [if_pos hok]
    rw [he]
    exact ends_bad w p s M V h a e t c hok

end Go.Proofs.Ytjjlbancofkinaa
