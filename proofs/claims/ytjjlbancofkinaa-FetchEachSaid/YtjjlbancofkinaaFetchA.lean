/-
  fetch.committed: the set of the transactions that were committed.
-/
import Derived.Test.YtjjlbancofkinaaMapT
import Derived.Test.YtjjlbancofkinaaKnown11
namespace Go.Proofs.Ytjjlbancofkinaa
open Go.RowKit

/-- T holds just the transactions that were committed. -/
def Comm (T : List Tri) (S : List PL.Spn) : Prop := ∀ x : Tri, x ∈ T ↔ ∃ s ∈ S, s.k = 2 ∧ (s.p, s.e, s.t) = x
theorem Comm.snoc {T : List Tri} {S : List PL.Spn} {s : PL.Spn} (h : Comm T S) : Comm (if s.k = 2 then (if (s.p, s.e, s.t) ∈ T then T else T ++ [(s.p, s.e, s.t)]) else T) (S ++ [s]) := by
  intro x
  by_cases hk : s.k = 2
  · rw [if_pos hk]
    by_cases ht : (s.p, s.e, s.t) ∈ T
    · rw [if_pos ht, h x]
      constructor
      · rintro ⟨y, hy, h1, h2⟩; exact ⟨y, List.mem_append_left _ hy, h1, h2⟩
      · rintro ⟨y, hy, h1, h2⟩
        rcases List.mem_append.1 hy with hy | hy
        · exact ⟨y, hy, h1, h2⟩
        · rw [List.mem_singleton] at hy; subst hy; rw [← h2]; exact (h _).1 ht
    · rw [if_neg ht, List.mem_append, h x, List.mem_singleton]
      constructor
      · rintro (⟨y, hy, h1, h2⟩ | rfl)
        · exact ⟨y, List.mem_append_left _ hy, h1, h2⟩
        · exact ⟨s, by simp, hk, rfl⟩
      · rintro ⟨y, hy, h1, h2⟩
        rcases List.mem_append.1 hy with hy | hy
        · exact .inl ⟨y, hy, h1, h2⟩
        · rw [List.mem_singleton] at hy; subst hy; exact .inr h2.symm
  · rw [if_neg hk, h x]
    constructor
    · rintro ⟨y, hy, h1, h2⟩; exact ⟨y, List.mem_append_left _ hy, h1, h2⟩
    · rintro ⟨y, hy, h1, h2⟩
      rcases List.mem_append.1 hy with hy | hy
      · exact ⟨y, hy, h1, h2⟩
      · rw [List.mem_singleton] at hy; subst hy; exact absurd h1 hk

/-- The set of the committed, in new memory. -/
def CommV (S : List PL.Spn) (B : Nat) (v : Value) (w' : World) : Prop := ∃ m T, v = .map (some m) ∧ MapT w' m T ∧ Comm T S ∧ B ≤ m

set_option maxRecDepth 100000 in
set_option maxHeartbeats 800000 in
theorem committed_core (S : List PL.Spn) (pt : Value) (w0 : World) (hsp : ∀ W, Below w0.heap.size w0 W → Calls Try.prog 29 #[pt] W (RetP (fun v w' => SpnsAt w' v S) W)) (hp : ∃ a, pt = .pointer a) :
    Calls Try.prog 58 #[pt] w0 (RetP (CommV S w0.heap.size) w0) := by
  have hmm := @run_makeMap Try.prog
  obtain ⟨ap, rfl⟩ := hp
  go_enter Try.func58, Try.ntmps58
  go_wp2_with fail
  have hb1 : Below w0.heap.size w0 (w0.alloc (.map #[] 0)) := below_alloc (below_refl _) _
  refine (hsp _ hb1).mono ?_
  rintro e w2 ⟨u, rfl, hu, hb2⟩
  obtain ⟨pu, cu, rfl, hu1, hu2, hu3⟩ := hu
  have hM := (MapT.made w0).below hb2
  have hb := below_step hb1 hb2
  have hne : ∀ b o v, w2.cell? ⟨b, o, none⟩ = some v → b ≠ w0.heap.size := fun b o v hc e => by
    subst e
    obtain ⟨ob, h1, h2⟩ := cells_of_cell hc
    obtain ⟨es, c, h3, -⟩ := hM
    rw [show w2.heap[w0.heap.size]? = _ from h3] at h1
    cases h1; cases h2
  clear hsp hb1 hb2
  go_wp2_with fail
  go_loopw [5, 10] (fun _ i wr => ∃ (k : Nat) (T : List Tri), k ≤ S.length ∧ i = .int .i64 k ∧ MapT wr w0.heap.size T ∧ Comm T (S.take k) ∧ Fr (fun b => b = w0.heap.size) w2 wr) (fun _ i _ => S.length - (intOf i).toNat)
  case atStart => exact ⟨0, [], Nat.zero_le _, rfl, hM, fun x => by simp, Fr.refl _ _⟩
  case round =>
    obtain ⟨k, T, hk, rfl, hMr, hT, hF⟩ := hrel
    by_cases hlt : k < S.length
    · obtain ⟨b, o, rfl, hat⟩ := hu3 k _ (List.getElem?_eq_getElem hlt)
      obtain ⟨c0, c1, c2, c3, c4⟩ := hat.same (hF.block b (lt_of_cell hat.1) (hne b _ _ hat.1))
      have hT' := Lib.hid (hT.snoc (s := S[k]))
      have htk : RowKit.Hid (S.take k ++ [S[k]] = S.take (k + 1)) := Lib.hid (by simp)
      clear hu3 hat hT
      generalize S[k] = x at *
      by_cases h0 : x.k = 2
      · have h0' : (x.k == 2) = true := by simpa using h0
        have H0 := Lib.hid h0
        clear h0
        obtain ⟨ob, hrun, hM2⟩ := (hMr.below (below_alloc (below_refl wr) (.cells #[.int .i64 x.p, .int .i64 x.e, .int .i64 x.t, .int .i64 x.f, .int .i64 x.k] 68))).update (x.p, x.e, x.t)
        unfold triV at hrun
        dsimp only at hrun
        go_wp2_with fail
        go_roundw
        case rel => exact ⟨k + 1, _, by omega, by go_num, hM2, by rw [← htk.out]; have := hT'.out; rw [if_pos H0.out] at this; exact this, ((hF.alloc _).setBlock (.inl rfl) _)⟩
        case measure => first | (simp [intOf]; done) | (simp [intOf]; omega)
      · have h0' : (x.k == 2) = false := by simpa using h0
        have H0 := Lib.hid h0
        clear h0
        go_wp2_with fail
        go_roundw
        case rel => exact ⟨k + 1, _, by omega, by go_num, hMr.below (below_alloc (below_refl _) _), by rw [← htk.out]; have := hT'.out; rw [if_neg H0.out] at this; exact this, hF.alloc _⟩
        case measure => first | (simp [intOf]; done) | (simp [intOf]; omega)
    · have hT2 : Comm T S := by rwa [List.take_of_length_le (by omega)] at hT
      clear hu3
      go_wp2_with fail
      go_ret
      exact RetP.mk ⟨_, T, rfl, hMr, hT2, Nat.le_refl _⟩ (hF.to_below hb (fun b e => by omega))

theorem committed_any (w : World) (p : Nat) (s : PL.St) (M V : Nat → Prop) (h : PRep w p s M V) (hn : s.S.length ≤ 1099511627776) :
    Calls Try.prog 58 #[.pointer (some ⟨p, 0, none⟩)] w (RetP (CommV s.S w.heap.size) w) :=
  committed_core s.S _ w (fun W hb => spans_any W p s M V (h.below hb) hn) ⟨_, rfl⟩
theorem committed_nil (w : World) : Calls Try.prog 58 #[.pointer none] w (RetP (CommV [] w.heap.size) w) :=
  committed_core [] _ w (fun W _ => spans_nil W) ⟨_, rfl⟩

end Go.Proofs.Ytjjlbancofkinaa
