/-
  The reference's log (of chapter 11) in memory, and the functions that only read it.
-/
import Derived.Test.YtjjlbancofkinaaPlogInv
import Derived.Test.YtjjlbancofkinaaPlogI
namespace Go.Proofs.Ytjjlbancofkinaa
open Go.RowKit

/-- It returns this value, and nothing has turned. -/
def Still (v : Value) (w : World) (r : Ending) (w' : World) : Prop := r = .returned v ∧ w = w'
theorem Still.mk {v u : Value} {w : World} (h : u = v) : Still v w (.returned u) w := ⟨by rw [h], rfl⟩
theorem Still.bool {a b : Bool} {w : World} (h : a = b) : Still (.bool b) w (.returned (.bool a)) w := ⟨by rw [h], rfl⟩
theorem Still.int {a b : Int} {k : IntKind} {w : World} (h : a = b) : Still (.int k b) w (.returned (.int k a)) w := ⟨by rw [h], rfl⟩
theorem Still.ret {v : Value} {w : World} {r : Ending} {w' : World} (h : Still v w r w') : Ret v w r w' := by obtain ⟨h1, rfl⟩ := h; exact ⟨h1, below_refl _⟩

def xCells (vr vs : Value) (E : Int → Int) : Array Value := #[vr, vs, .int .i64 (E 0), .int .i64 (E 1), .int .i64 (E 2), .int .i64 (E 3), .int .i64 (E 4), .int .i64 (E 5), .int .i64 (E 6), .int .i64 (E 7)]

/-- Block q is the reference's log that holds s; M: its blocks; V: the blocks of its values. -/
def XRep (w : World) (q : Nat) (s : PL.St) (M V : Nat → Prop) : Prop :=
  ∃ (vr vs : Value) (L : List (PL.Rec × Value)),
    w.heap[q]? = some (.cells (xCells vr vs s.E) 45 (0, 0)) ∧
    w.ownsRow 0 32 5 vr L.length (recCells L) ∧ L.map (·.1) = s.R ∧
    w.ownsRow 0 68 5 vs s.S.length (spnCells s.S) ∧
    (∀ x ∈ L, BytesAt w x.2 x.1.v ∧ ∀ b, Value.blk x.2 = some b → V b) ∧
    M q ∧ (∀ b, vr.ownBlock = some b → M b ∧ b ≠ q) ∧ (∀ b, vs.ownBlock = some b → M b ∧ b ≠ q) ∧ (∀ b, M b → ¬ V b) ∧ ∀ b, M b ∨ V b → b < w.heap.size

theorem XRep.same {w w' : World} {q : Nat} {s : PL.St} {M V : Nat → Prop} (h : XRep w q s M V) (hz : w.heap.size ≤ w'.heap.size) (hb : ∀ b, M b ∨ V b → w'.heap[b]? = w.heap[b]?) : XRep w' q s M V := by
  obtain ⟨vr, vs, L, h1, h2, h3, h4, h7, h8, h10, h11, h12, h13⟩ := h
  exact ⟨vr, vs, L, (hb _ (.inl h8)).trans h1, owns_same h2 fun b e => hb b (.inl (h10 b e).1), h3, owns_same h4 fun b e => hb b (.inl (h11 b e).1),
    fun x hx => ⟨(h7 x hx).1.same fun b e => hb b (.inr ((h7 x hx).2 b e)), (h7 x hx).2⟩, h8, h10, h11, h12, fun b e => Nat.lt_of_lt_of_le (h13 b e) hz⟩
theorem XRep.bound {w : World} {q : Nat} {s : PL.St} {M V : Nat → Prop} (h : XRep w q s M V) : ∀ b, M b ∨ V b → b < w.heap.size := by
  obtain ⟨vr, vs, L, h1, h2, h3, h4, h7, h8, h10, h11, h12, h13⟩ := h
  exact h13
theorem XRep.self {w : World} {q : Nat} {s : PL.St} {M V : Nat → Prop} (h : XRep w q s M V) : M q := by
  obtain ⟨vr, vs, L, h1, h2, h3, h4, h7, h8, h10, h11, h12, h13⟩ := h
  exact h8
theorem XRep.below {w w' : World} {q : Nat} {s : PL.St} {M V : Nat → Prop} (h : XRep w q s M V) (hb : Below w.heap.size w w') : XRep w' q s M V :=
  h.same hb.size fun b e => hb.block b (h.bound b e)

/-- What one reads of it. -/
theorem XRep.opened {w : World} {q : Nat} {s : PL.St} {M V : Nat → Prop} (h : XRep w q s M V) :
    ∃ (vr vs : Value), w.cell? ⟨q, 0, none⟩ = some vr ∧ w.cell? ⟨q, 1, none⟩ = some vs ∧ (∀ k : Nat, k < 8 → w.cell? ⟨q, 2 + k, none⟩ = some (.int .i64 (s.E k))) ∧
      (∀ o, w.frozen? ⟨q, o, none⟩ = false) ∧ RecsAt w vr s.R ∧ SpnsAt w vs s.S := by
  obtain ⟨vr, vs, L, h1, h2, h3, h4, h7, h8, h10, h11, h12, h13⟩ := h
  refine ⟨vr, vs, by simp [World.cell?, h1, xCells], by simp [World.cell?, h1, xCells], fun k hk => ?_, fun o => by simp [World.frozen?, h1], h3 ▸ recs_of_owns h2 (fun x hx => (h7 x hx).1), spns_of_owns h4⟩
  match k, hk with
  | 0, _ | 1, _ | 2, _ | 3, _ | 4, _ | 5, _ | 6, _ | 7, _ => simp [World.cell?, h1, xCells]

theorem in_any (a b c : Int) (w : World) : Calls Try.prog 64 #[.int .i64 a, .int .i64 b, .int .i64 c] w (Still (.bool (decide (b ≤ a ∧ a ≤ c))) w) := by
  go_enter Try.func64, Try.ntmps64
  go_wp2
  all_goals
    go_ret
    exact Still.bool (by first | (simp_all; done) | (simp_all; omega))

theorem span11_any (w : World) (q : Nat) (s : PL.St) (M V : Nat → Prop) (h : XRep w q s M V) (a e t : Int) :
    Calls Try.prog 62 #[.pointer (some ⟨q, 0, none⟩), .int .i64 a, .int .i64 e, .int .i64 t] w (Still (.int .i64 (s.span a e t)) w) := by
  obtain ⟨vr, vs, c0, c1, ce, fz, hR, hS⟩ := h.opened
  obtain ⟨ps, cs, rfl, hs1, hs2, hs3⟩ := hS
  have hfin : ∀ k, k ≤ s.S.length → s.span a e t = PL.idx (PL.isSpn a e t) (s.S.drop k) k → s.S.length ≤ k → s.span a e t = -1 := fun k _ h hk => by rw [h, List.drop_eq_nil_of_le hk]; rfl
  have hst : s.span a e t = PL.idx (PL.isSpn a e t) (s.S.drop 0) (0 : Nat) := rfl
  generalize s.span a e t = i0 at *
  generalize hSS : s.S = S at *
  clear c0 ce fz hR h hSS s
  have Hst := Lib.hid hst
  clear hst
  go_enter Try.func62, Try.ntmps62
  go_wp2_with fail
  go_loop [9] (fun i => ∃ k : Nat, k ≤ S.length ∧ i = .int .i64 k ∧ i0 = PL.idx (PL.isSpn a e t) (S.drop k) k) (fun i => S.length - (intOf i).toNat)
  case atStart => exact ⟨0, Nat.zero_le _, rfl, Hst.out⟩
  case round =>
    obtain ⟨k, hk, rfl, hidx⟩ := hrel
    by_cases hlt : k < S.length
    · obtain ⟨b, o, rfl, hat⟩ := hs3 k _ (List.getElem?_eq_getElem hlt)
      obtain ⟨d0, d1, d2, d3, d4⟩ := hat
      rw [idx_drop _ S k hlt] at hidx
      generalize S[k] = x at *
      clear hs3 hfin
      have Hx := Lib.hid hidx
      clear hidx
      by_cases h1 : x.p = a
      · by_cases h2 : x.e = e
        · by_cases h3 : x.t = t
          · have hf : PL.isSpn a e t x = true := by simp [PL.isSpn, h1, h2, h3]
            have Hr : RowKit.Hid (i0 = (k : Int)) := Lib.hid (by rw [Hx.out, hf]; rfl)
            subst h1 h2 h3
            clear hf
            go_wp2_with fail
            go_ret
            exact Still.int (by rw [Hr.out])
          · have Hr : RowKit.Hid (i0 = PL.idx (PL.isSpn a e t) (S.drop (k + 1)) (k + 1 : Nat)) := Lib.hid (by rw [Hx.out, if_neg (by simp [PL.isSpn, h3])])
            subst h1 h2
            go_wp2_with fail
            go_round
            case rel => exact ⟨k + 1, by omega, by go_num, Hr.out⟩
            case measure => simp [intOf]; omega
        · have Hr : RowKit.Hid (i0 = PL.idx (PL.isSpn a e t) (S.drop (k + 1)) (k + 1 : Nat)) := Lib.hid (by rw [Hx.out, if_neg (by simp [PL.isSpn, h2])])
          subst h1
          go_wp2_with fail
          go_round
          case rel => exact ⟨k + 1, by omega, by go_num, Hr.out⟩
          case measure => simp [intOf]; omega
      · have Hr : RowKit.Hid (i0 = PL.idx (PL.isSpn a e t) (S.drop (k + 1)) (k + 1 : Nat)) := Lib.hid (by rw [Hx.out, if_neg (by simp [PL.isSpn, h1])])
        go_wp2_with fail
        go_round
        case rel => exact ⟨k + 1, by omega, by go_num, Hr.out⟩
        case measure => simp [intOf]; omega
    · have Hx := Lib.hid (hfin k hk hidx (by omega))
      clear hfin hidx hs3
      go_wp2_with fail
      go_ret
      exact Still.int (by rw [Hx.out])

end Go.Proofs.Ytjjlbancofkinaa
