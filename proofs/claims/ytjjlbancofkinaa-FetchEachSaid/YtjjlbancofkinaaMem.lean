/-
  What lies in memory: bytes, records, spans, a partition's log; and what stays as it was.
-/
import Derived.Test.YtjjlbancofkinaaProg
import Derived.Test.YtjjlbancofkinaaPlogPure
import Derived.WalkKit
import Derived.Lib.Hide
import Derived.WalkLawsBesides
import Derived.WalkSpells
import Derived.BigQuiet
import Derived.Deep.QuietTactic
import Derived.Outline
import Derived.StillTailTactics
import Derived.Shelf.Bytes.SlSmallAll
import Derived.Maps.Own
import Derived.Laws.Entries
namespace Go.Proofs.Ytjjlbancofkinaa
open Go.RowKit

/-! ### what stays -/
theorem below_refl (w : World) : Below w.heap.size w w := Below.refl _ _
theorem below_alloc {w W : World} (h : Below w.heap.size w W) (o : Obj) : Below w.heap.size w (W.alloc o) := h.alloc h.size o
theorem below_drew {w W : World} (h : Below w.heap.size w W) : Below w.heap.size w W.drew := ⟨h.os, h.tape, h.output, h.size, h.block⟩
theorem below_drewN {w W : World} (h : Below w.heap.size w W) (n : Nat) : Below w.heap.size w (W.drewN n) := ⟨h.os, h.tape, h.output, h.size, h.block⟩
theorem below_step {w W W' : World} (h : Below w.heap.size w W) (h' : Below W.heap.size W W') : Below w.heap.size w W' := h.trans (h'.mono h.size)
theorem below_set {w W : World} (h : Below w.heap.size w W) {b o : Nat} (hb : w.heap.size ≤ b) (v : Value) : Below w.heap.size w (W.setCell ⟨b, o, none⟩ v) := h.setCell (p := ⟨b, o, none⟩) hb v

/-- What was there, but for the blocks M, is as it was. -/
structure Fr (M : Nat → Prop) (w w' : World) : Prop where
  os : w'.os = w.os
  tape : w'.tape = w.tape
  output : w'.output = w.output
  size : w.heap.size ≤ w'.heap.size
  block : ∀ k, k < w.heap.size → ¬ M k → w'.heap[k]? = w.heap[k]?

theorem Fr.refl (M : Nat → Prop) (w : World) : Fr M w w := ⟨rfl, rfl, rfl, Nat.le_refl _, fun _ _ _ => rfl⟩
theorem Fr.trans {M : Nat → Prop} {a b c : World} (h : Fr M a b) (k : Fr M b c) : Fr M a c :=
  ⟨k.os.trans h.os, k.tape.trans h.tape, k.output.trans h.output, Nat.le_trans h.size k.size, fun i hi hn => (k.block i (Nat.lt_of_lt_of_le hi h.size) hn).trans (h.block i hi hn)⟩
theorem Fr.mono {M M' : Nat → Prop} {a b : World} (h : Fr M a b) (hm : ∀ k, k < a.heap.size → M k → M' k) : Fr M' a b := ⟨h.os, h.tape, h.output, h.size, fun i hi hn => h.block i hi fun x => hn (hm i hi x)⟩
theorem Fr.of_below {M : Nat → Prop} {a b : World} (h : Below a.heap.size a b) : Fr M a b := ⟨h.os, h.tape, h.output, h.size, fun i hi _ => h.block i hi⟩
theorem Fr.below {M : Nat → Prop} {B : Nat} {a b : World} (h : Fr M a b) (hB : B ≤ a.heap.size) (hM : ∀ k, k < a.heap.size → M k → B ≤ k) : Below B a b :=
  ⟨h.os, h.tape, h.output, h.size, fun i hi => h.block i (by omega) fun x => by have := hM i (by omega) x; omega⟩
theorem Fr.to_below {M : Nat → Prop} {w a b : World} (hw : Below w.heap.size w a) (h : Fr M a b) (hM : ∀ k, M k → w.heap.size ≤ k) : Below w.heap.size w b :=
  hw.trans (h.below hw.size fun k _ x => hM k x)
theorem Fr.drew {M : Nat → Prop} {a b : World} (h : Fr M a b) : Fr M a b.drew := ⟨h.os, h.tape, h.output, h.size, h.block⟩
theorem Fr.drewN {M : Nat → Prop} {a b : World} (h : Fr M a b) (n : Nat) : Fr M a (b.drewN n) := ⟨h.os, h.tape, h.output, h.size, h.block⟩
theorem Fr.alloc {M : Nat → Prop} {a b : World} (h : Fr M a b) (o : Obj) : Fr M a (b.alloc o) := h.trans (Fr.of_below (below_alloc (below_refl _) o))
theorem Fr.step {M : Nat → Prop} {a b c : World} (h : Fr M a b) (k : Below b.heap.size b c) : Fr M a c := h.trans (Fr.of_below k)
theorem Fr.setCell {M : Nat → Prop} {a b : World} (h : Fr M a b) {k o : Nat} (hk : M k ∨ a.heap.size ≤ k) (v : Value) : Fr M a (b.setCell ⟨k, o, none⟩ v) := by
  refine ⟨h.os, h.tape, h.output, by simpa [World.setCell] using h.size, fun i hi hn => ?_⟩
  rw [Below.heap_setCell _ _ _ _ (fun e => by subst e; rcases hk with hk | hk; exact hn hk; omega)]
  exact h.block i hi hn
theorem Fr.grown {M : Nat → Prop} {a b c : World} {row : Option Nat} (h : Fr M a b) (hg : b.grownBy c row) (hr : ∀ k, row = some k → M k ∨ a.heap.size ≤ k) : Fr M a c :=
  ⟨hg.os.trans h.os, hg.tape.trans h.tape, hg.output.trans h.output, Nat.le_trans h.size hg.size, fun i hi hn => by
    rw [hg.block i (Nat.lt_of_lt_of_le hi h.size) (fun e => by rcases hr i e.symm with h' | h'; exact hn h'; omega)]; exact h.block i hi hn⟩
theorem cell_same {w w' : World} {b o : Nat} {v : Value} (h : w.cell? ⟨b, o, none⟩ = some v) (hb : w'.heap[b]? = w.heap[b]?) : w'.cell? ⟨b, o, none⟩ = some v := by rw [World.cell?_of_block (w := w) (a := ⟨b, o, none⟩) hb]; exact h
theorem lt_of_cell {w : World} {b o : Nat} {v : Value} (h : w.cell? ⟨b, o, none⟩ = some v) : b < w.heap.size := World.block_lt_of_cell? w ⟨b, o, none⟩ h
theorem cell_below {w w' : World} {b o : Nat} {v : Value} (h : w.cell? ⟨b, o, none⟩ = some v) (hb : Below w.heap.size w w') : w'.cell? ⟨b, o, none⟩ = some v := cell_same h (hb.block b (lt_of_cell h))

/-- It returns this value, and what was there is as it was. -/
def Ret (v : Value) (w : World) (r : Ending) (w' : World) : Prop := r = .returned v ∧ Below w.heap.size w w'
theorem Ret.mk {v u : Value} {w w' : World} (h : u = v) (hb : Below w.heap.size w w') : Ret v w (.returned u) w' := ⟨by rw [h], hb⟩
theorem Ret.bool {a b : Bool} {w w' : World} (h : a = b) (hb : Below w.heap.size w w') : Ret (.bool b) w (.returned (.bool a)) w' := ⟨by rw [h], hb⟩
theorem Ret.int {a b : Int} {k : IntKind} {w w' : World} (h : a = b) (hb : Below w.heap.size w w') : Ret (.int k b) w (.returned (.int k a)) w' := ⟨by rw [h], hb⟩
/-- It returns a value of which this holds, and what was there is as it was. -/
def RetP (R : Value → World → Prop) (w : World) (r : Ending) (w' : World) : Prop := ∃ v, r = .returned v ∧ R v w' ∧ Below w.heap.size w w'
theorem RetP.mk {R : Value → World → Prop} {v : Value} {w w' : World} (h : R v w') (hb : Below w.heap.size w w') : RetP R w (.returned v) w' := ⟨v, rfl, h, hb⟩
/-- It returns this value, of the blocks M alone something may have turned, and this holds behind it. -/
def RetM (M : Nat → Prop) (v : Value) (R : World → Prop) (w : World) (r : Ending) (w' : World) : Prop := r = .returned v ∧ R w' ∧ Fr M w w'
theorem RetM.mk {M : Nat → Prop} {u v : Value} {R : World → Prop} {w w' : World} (h : u = v) (hr : R w') (hb : Fr M w w') : RetM M v R w (.returned u) w' := ⟨by rw [h], hr, hb⟩

/-! ### bytes -/
def nums (bs : List UInt8) : List Int := bs.map fun b => (b.toNat : Int)
theorem nums_length (bs : List UInt8) : (nums bs).length = bs.length := by simp [nums]
theorem strOfNums_nums (bs : List UInt8) : strOfNums (nums bs) = ⟨bs.toArray⟩ := by
  simp [strOfNums, nums, List.map_map, Function.comp_def]

/-- The bytes of a slice. -/
def BytesAt (w : World) (v : Value) (bs : List UInt8) : Prop := ∃ p c, v = .slice p bs.length c ∧ bs.length ≤ c ∧ c ≤ 9223372036854775807 ∧ Lib.BytesIn w p bs.length (nums bs)

theorem BytesIn_same {w w' : World} {p : Option Addr} {n : Nat} {xs : List Int} (h : Lib.BytesIn w p n xs) (hb : ∀ a, p = some a → 0 < n → w'.heap[a.block]? = w.heap[a.block]?) : Lib.BytesIn w' p n xs := by
  intro hn
  obtain ⟨b, o, rfl, hc⟩ := h hn
  exact ⟨b, o, rfl, fun i hi => cell_same (hc i hi) (hb _ rfl hn)⟩
theorem BytesIn_lt {w : World} {a : Addr} {n : Nat} {xs : List Int} (h : Lib.BytesIn w (some a) n xs) (hn : 0 < n) : a.block < w.heap.size := by
  obtain ⟨b, o, e, hc⟩ := h hn
  cases e
  exact lt_of_cell (hc 0 hn)
theorem BytesAt.below {w w' : World} {v : Value} {bs : List UInt8} (h : BytesAt w v bs) (hb : Below w.heap.size w w') : BytesAt w' v bs := by
  obtain ⟨p, c, rfl, h1, h2, h3⟩ := h
  exact ⟨p, c, rfl, h1, h2, BytesIn_same h3 fun a e hn => hb.block _ (BytesIn_lt (e ▸ h3) hn)⟩
/-- The block of a slice that has an element. -/
def Value.blk : Value → Option Nat
  | .slice (some a) (_ + 1) _ => some a.block
  | _ => none
theorem BytesAt.same {w w' : World} {v : Value} {bs : List UInt8} (h : BytesAt w v bs) (hb : ∀ b, Value.blk v = some b → w'.heap[b]? = w.heap[b]?) : BytesAt w' v bs := by
  obtain ⟨p, c, rfl, h1, h2, h3⟩ := h
  refine ⟨p, c, rfl, h1, h2, BytesIn_same h3 fun a e hn => hb _ ?_⟩
  subst e
  cases h : bs.length with
  | zero => omega
  | succ n => rfl
theorem BytesAt.lt {w : World} {v : Value} {bs : List UInt8} (h : BytesAt w v bs) {b : Nat} (hb : Value.blk v = some b) : b < w.heap.size := by
  obtain ⟨p, c, rfl, h1, h2, h3⟩ := h
  cases p with
  | none => simp [Value.blk] at hb
  | some a =>
    cases hl : bs.length with
    | zero => rw [hl] at hb; simp [Value.blk] at hb
    | succ n => rw [hl] at hb; simp [Value.blk] at hb; subst hb; exact BytesIn_lt h3 (by omega)

/-! ### spans and records -/
def SpnAt (w : World) (b o : Nat) (x : PL.Spn) : Prop :=
  w.cell? ⟨b, o, none⟩ = some (.int .i64 x.p) ∧ w.cell? ⟨b, o + 1, none⟩ = some (.int .i64 x.e) ∧ w.cell? ⟨b, o + 2, none⟩ = some (.int .i64 x.t) ∧
  w.cell? ⟨b, o + 3, none⟩ = some (.int .i64 x.f) ∧ w.cell? ⟨b, o + 4, none⟩ = some (.int .i64 x.k)
def SpnsAt (w : World) (v : Value) (S : List PL.Spn) : Prop :=
  ∃ a c, v = .slice a S.length c ∧ S.length ≤ c ∧ c ≤ 9223372036854775807 ∧ ∀ i x, S[i]? = some x → ∃ b o, a = some ⟨b, o, none⟩ ∧ SpnAt w b (o + i * 5) x
def RecAt (w : World) (b o : Nat) (r : PL.Rec) (val : Value) : Prop :=
  w.cell? ⟨b, o, none⟩ = some (.int .i64 r.p) ∧ w.cell? ⟨b, o + 1, none⟩ = some (.int .i64 r.e) ∧ w.cell? ⟨b, o + 2, none⟩ = some (.int .i64 r.t) ∧
  w.cell? ⟨b, o + 3, none⟩ = some (.int .i64 r.q) ∧ w.cell? ⟨b, o + 4, none⟩ = some val
def RecsAt (w : World) (v : Value) (R : List PL.Rec) : Prop :=
  ∃ a c, v = .slice a R.length c ∧ R.length ≤ c ∧ c ≤ 9223372036854775807 ∧ ∀ i r, R[i]? = some r → ∃ b o val, a = some ⟨b, o, none⟩ ∧ RecAt w b (o + i * 5) r val ∧ BytesAt w val r.v

theorem SpnAt.same {w w' : World} {b o : Nat} {x : PL.Spn} (h : SpnAt w b o x) (hb : w'.heap[b]? = w.heap[b]?) : SpnAt w' b o x :=
  ⟨cell_same h.1 hb, cell_same h.2.1 hb, cell_same h.2.2.1 hb, cell_same h.2.2.2.1 hb, cell_same h.2.2.2.2 hb⟩
theorem SpnAt.below {w w' : World} {b o : Nat} {x : PL.Spn} (h : SpnAt w b o x) (hb : Below w.heap.size w w') : SpnAt w' b o x := h.same (hb.block b (lt_of_cell h.1))
theorem RecAt.same {w w' : World} {b o : Nat} {r : PL.Rec} {v : Value} (h : RecAt w b o r v) (hb : w'.heap[b]? = w.heap[b]?) : RecAt w' b o r v :=
  ⟨cell_same h.1 hb, cell_same h.2.1 hb, cell_same h.2.2.1 hb, cell_same h.2.2.2.1 hb, cell_same h.2.2.2.2 hb⟩
theorem RecAt.below {w w' : World} {b o : Nat} {r : PL.Rec} {v : Value} (h : RecAt w b o r v) (hb : Below w.heap.size w w') : RecAt w' b o r v := h.same (hb.block b (lt_of_cell h.1))
theorem SpnsAt.below {w w' : World} {v : Value} {S : List PL.Spn} (h : SpnsAt w v S) (hb : Below w.heap.size w w') : SpnsAt w' v S := by
  obtain ⟨a, c, rfl, h1, h2, h3⟩ := h
  refine ⟨a, c, rfl, h1, h2, fun i x hx => ?_⟩
  obtain ⟨b, o, ha, h4⟩ := h3 i x hx
  exact ⟨b, o, ha, h4.below hb⟩
theorem RecsAt.below {w w' : World} {v : Value} {R : List PL.Rec} (h : RecsAt w v R) (hb : Below w.heap.size w w') : RecsAt w' v R := by
  obtain ⟨a, c, rfl, h1, h2, h3⟩ := h
  refine ⟨a, c, rfl, h1, h2, fun i x hx => ?_⟩
  obtain ⟨b, o, val, ha, h4, h5⟩ := h3 i x hx
  exact ⟨b, o, val, ha, h4.below hb, h5.below hb⟩

/-! ### rows of five cells that are owned -/
def spnCells (S : List PL.Spn) : List Value := S.flatMap fun x => [.int .i64 x.p, .int .i64 x.e, .int .i64 x.t, .int .i64 x.f, .int .i64 x.k]
def recCells (L : List (PL.Rec × Value)) : List Value := L.flatMap fun x => [.int .i64 x.1.p, .int .i64 x.1.e, .int .i64 x.1.t, .int .i64 x.1.q, x.2]
theorem flat5 {α : Type} (f : α → List Value) (hf : ∀ x, (f x).length = 5) : ∀ (L : List α) (i : Nat) (x : α) (j : Nat), L[i]? = some x → j < 5 → (L.flatMap f)[i * 5 + j]? = (f x)[j]?
  | [], i, x, j, h, _ => by simp at h
  | y :: L, 0, x, j, h, hj => by
    simp at h; subst h
    rw [List.flatMap_cons, List.getElem?_append_left (by rw [hf]; omega)]
    simp
  | y :: L, i + 1, x, j, h, hj => by
    rw [List.flatMap_cons, List.getElem?_append_right (by rw [hf]; omega), hf]
    rw [show (i + 1) * 5 + j - 5 = i * 5 + j from by omega]
    exact flat5 f hf L i x j (by simpa using h) hj
theorem flat5_length {α : Type} (f : α → List Value) (hf : ∀ x, (f x).length = 5) (L : List α) : (L.flatMap f).length = L.length * 5 := by
  induction L with
  | nil => rfl
  | cons x L ih => rw [List.flatMap_cons, List.length_append, ih, hf, List.length_cons]; omega
theorem add_zero_block (g j : Nat) : (⟨g, 0, none⟩ : Addr).add j = ⟨g, j, none⟩ := by unfold Addr.add; split <;> simp_all

theorem spn_of_owns {w : World} {base e g n : Nat} {v : Value} {S : List PL.Spn} (h : w.ownsRow base e 5 v n (spnCells S)) (hg : v.ownBlock = some g) {i : Nat} {x : PL.Spn} (hx : S[i]? = some x) : SpnAt w g (i * 5) x := by
  have hc := h.cells hg
  have hf : ∀ j, j < 5 → (spnCells S)[i * 5 + j]? = ([.int .i64 x.p, .int .i64 x.e, .int .i64 x.t, .int .i64 x.f, .int .i64 x.k] : List Value)[j]? := fun j hj => flat5 _ (fun _ => rfl) S i x j hx hj
  refine ⟨?_, ?_, ?_, ?_, ?_⟩
  · have := hc (i * 5 + 0) _ (hf 0 (by omega)); rw [add_zero_block] at this; simpa using this
  · have := hc (i * 5 + 1) _ (hf 1 (by omega)); rw [add_zero_block] at this; simpa using this
  · have := hc (i * 5 + 2) _ (hf 2 (by omega)); rw [add_zero_block] at this; simpa using this
  · have := hc (i * 5 + 3) _ (hf 3 (by omega)); rw [add_zero_block] at this; simpa using this
  · have := hc (i * 5 + 4) _ (hf 4 (by omega)); rw [add_zero_block] at this; simpa using this
theorem rec_of_owns {w : World} {base e g n : Nat} {v : Value} {L : List (PL.Rec × Value)} (h : w.ownsRow base e 5 v n (recCells L)) (hg : v.ownBlock = some g) {i : Nat} {x : PL.Rec × Value} (hx : L[i]? = some x) : RecAt w g (i * 5) x.1 x.2 := by
  have hc := h.cells hg
  have hf : ∀ j, j < 5 → (recCells L)[i * 5 + j]? = ([.int .i64 x.1.p, .int .i64 x.1.e, .int .i64 x.1.t, .int .i64 x.1.q, x.2] : List Value)[j]? := fun j hj => flat5 _ (fun _ => rfl) L i x j hx hj
  refine ⟨?_, ?_, ?_, ?_, ?_⟩
  · have := hc (i * 5 + 0) _ (hf 0 (by omega)); rw [add_zero_block] at this; simpa using this
  · have := hc (i * 5 + 1) _ (hf 1 (by omega)); rw [add_zero_block] at this; simpa using this
  · have := hc (i * 5 + 2) _ (hf 2 (by omega)); rw [add_zero_block] at this; simpa using this
  · have := hc (i * 5 + 3) _ (hf 3 (by omega)); rw [add_zero_block] at this; simpa using this
  · have := hc (i * 5 + 4) _ (hf 4 (by omega)); rw [add_zero_block] at this; simpa using this
/-- An owned row's value: nil, or at the head of its block. -/
theorem owns_form {w : World} {base e size n : Nat} {v : Value} {xs : List Value} (h : w.ownsRow base e size v n xs) :
    ∃ a c, v = .slice a n c ∧ n ≤ c ∧ c ≤ 9223372036854775807 ∧ (∀ x, a = some x → ∃ g, x = ⟨g, 0, none⟩ ∧ v.ownBlock = some g) ∧ (0 < n → a ≠ none) := by
  rcases h.2 with ⟨rfl, rfl⟩ | ⟨g, cap, cur, rfl, _, _, h1, h2, _⟩
  · exact ⟨none, 0, rfl, Nat.le_refl _, by omega, (fun x e => by cases e), (fun h => by omega)⟩
  · refine ⟨_, cap, rfl, h1, by unfold maxLen at h2; omega, fun x e => ?_, fun _ => by simp⟩
    cases e
    exact ⟨g, rfl, rfl⟩
theorem spns_of_owns {w : World} {base e : Nat} {v : Value} {S : List PL.Spn} (h : w.ownsRow base e 5 v S.length (spnCells S)) : SpnsAt w v S := by
  obtain ⟨a, c, hv, h1, h2, h3, h4⟩ := owns_form h
  refine ⟨a, c, hv, h1, h2, fun i x hx => ?_⟩
  have hi : i < S.length := (List.getElem?_eq_some_iff.1 hx).1
  obtain ⟨y, hy⟩ := Option.ne_none_iff_exists'.1 (h4 (by omega))
  obtain ⟨g, rfl, hg⟩ := h3 y hy
  exact ⟨g, 0, hy, by rw [Nat.zero_add]; exact spn_of_owns h hg hx⟩
theorem recs_of_owns {w : World} {base e : Nat} {v : Value} {L : List (PL.Rec × Value)} (h : w.ownsRow base e 5 v L.length (recCells L)) (hb : ∀ x ∈ L, BytesAt w x.2 x.1.v) : RecsAt w v (L.map (·.1)) := by
  obtain ⟨a, c, hv, h1, h2, h3, h4⟩ := owns_form h
  refine ⟨a, c, by simpa using hv, by simpa using h1, h2, fun i x hx => ?_⟩
  rw [List.getElem?_map] at hx
  cases hL : L[i]? with
  | none => simp [hL] at hx
  | some y =>
    simp [hL] at hx
    subst hx
    have hi : i < L.length := (List.getElem?_eq_some_iff.1 hL).1
    obtain ⟨z, hz⟩ := Option.ne_none_iff_exists'.1 (h4 (by omega))
    obtain ⟨g, rfl, hg⟩ := h3 z hz
    exact ⟨g, 0, y.2, hz, by rw [Nat.zero_add]; exact rec_of_owns h hg hL, hb y (List.mem_of_getElem? hL)⟩

end Go.Proofs.Ytjjlbancofkinaa
