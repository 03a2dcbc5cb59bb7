/-
  Append, whatever it is given; the nil log.
-/
import Derived.Test.YtjjlbancofkinaaPlogF
namespace Go.Proofs.Ytjjlbancofkinaa
open Go.RowKit

namespace PL
theorem nextOf_snoc (p e : Int) : ∀ (l : List Rec) (r : Rec) (n : Int), nextOf p e (l ++ [r]) n = if isPE p e r then r.q + 1 else nextOf p e l n
  | [], r, n => rfl
  | x :: l, r, n => by
    show nextOf p e (l ++ [r]) _ = if _ then _ else nextOf p e l _
    exact nextOf_snoc p e l r _
theorem down_take {α : Type} (f : α → Bool) (l : List α) (x : α) : ∀ k, k ≤ l.length → down f (l ++ [x]) k = down f l k
  | 0, _ => rfl
  | k + 1, h => by
    rw [down, down, down_take f l x k (by omega), List.getElem?_append_left (by omega)]
theorem down_snoc {α : Type} (f : α → Bool) (l : List α) (x : α) : down f (l ++ [x]) (l ++ [x]).length = if f x then (l.length : Int) else down f l l.length := by
  rw [List.length_append, List.length_singleton, down, down_take f l x _ (Nat.le_refl _)]
  simp
theorem nextDown_nil (p e : Int) : nextDown p e [] = 0 := by simp [nextDown]
theorem nextDown_snoc (p e : Int) (l : List Rec) (r : Rec) : nextDown p e (l ++ [r]) = if isPE p e r then r.q + 1 else nextDown p e l := by
  unfold nextDown
  rw [down_snoc]
  by_cases h : isPE p e r
  · simp [h]
  · simp only [h, if_false, Bool.false_eq_true]
    have hb := down_bd (isPE p e) l l.length
    by_cases h0 : 0 ≤ down (isPE p e) l l.length
    · rw [List.getElem?_append_left (by omega)]
    · simp only [h0, if_false]
      split <;> split <;> rfl
theorem snoc_ind {α : Type} {m : List α → Prop} (h0 : m []) (h1 : ∀ l x, m l → m (l ++ [x])) (l : List α) : m l := by
  have h : ∀ k : List α, m k.reverse := fun k => by
    induction k with
    | nil => exact h0
    | cons x k ih => rw [List.reverse_cons]; exact h1 _ x ih
  have := h l.reverse
  rwa [List.reverse_reverse] at this
theorem nextDown_eq (p e : Int) (l : List Rec) : nextDown p e l = nextOf p e l 0 := by
  refine snoc_ind (m := fun l => nextDown p e l = nextOf p e l 0) (nextDown_nil p e) (fun l r ih => ?_) l
  show nextDown p e (l ++ [r]) = nextOf p e (l ++ [r]) 0
  rw [nextDown_snoc, nextOf_snoc, ih]
end PL

theorem fits_cases (s : PL.St) (r : PL.Rec) : fitsOf s r = if r.q ≠ PL.nextOf r.p r.e s.R 0 then 8 else if s.S.any (PL.bars r) then 6 else if 128 ≤ s.R.length then 3 else 0 := by
  unfold fitsOf; rw [PL.nextDown_eq]

/-- 'Append', whatever it is given. -/
theorem append_any (w : World) (p : Nat) (s : PL.St) (M V : Nat → Prop) (h : PRep w p s M V) (hn : s.S.length ≤ 1099511627776) (hn2 : s.R.length ≤ 1099511627776) (hq : ∀ r ∈ s.R, 0 ≤ r.q ∧ r.q ≤ 1048576) (r : PL.Rec) (v : Value) (hv : BytesAt w v r.v)
    (hvM : ∀ b, Value.blk v = some b → ¬ M b) :
    Calls Try.prog 23 #[.pointer (some ⟨p, 0, none⟩), recV r v] w (Turned p M V (.tuple #[.int .i64 (s.append r).1, .int .i64 (s.append r).2.1]) (s.append r).2.2 w) := by
  unfold PL.St.append
  by_cases hok : ¬ PL.okRec r
  · rw [if_pos hok]; exact append_bad w p s M V h r v hv hok
  rw [if_neg hok]
  replace hok : PL.okRec r := Decidable.byContradiction hok
  by_cases h1 : s.E r.p < 0
  · rw [if_pos h1]; exact append_ep w p s M V h r v hv hok 4 (.inl ⟨h1, rfl⟩)
  rw [if_neg h1]
  by_cases h2 : r.e < s.E r.p
  · rw [if_pos h2]; exact append_ep w p s M V h r v hv hok 5 (.inr (.inl ⟨by omega, h2, rfl⟩))
  rw [if_neg h2]
  by_cases h3 : s.E r.p < r.e
  · rw [if_pos h3]; exact append_ep w p s M V h r v hv hok 6 (.inr (.inr ⟨by omega, h3, rfl⟩))
  rw [if_neg h3]
  have he : s.E r.p = r.e := by omega
  have he0 : 0 ≤ r.e := by omega
  simp only
  have hb := idx_ge (PL.isSeq r.p r.e r.q) s.R 0
  by_cases h4 : 0 ≤ s.again r.p r.e r.q
  · rw [if_pos h4]
    have hj : (s.again r.p r.e r.q).toNat < s.R.length := by
      have : s.again r.p r.e r.q = PL.idx (PL.isSeq r.p r.e r.q) s.R (0 : Nat) := rfl
      omega
    have := append_again w p s M V h r v hv hok he he0 (s.again r.p r.e r.q).toNat hj (by omega)
    have hg : s.R.getD (s.again r.p r.e r.q).toNat r = s.R[(s.again r.p r.e r.q).toNat] := by simp [List.getD, hj]
    rw [hg]
    by_cases h5 : (s.R[(s.again r.p r.e r.q).toNat]).t ≠ r.t ∨ (s.R[(s.again r.p r.e r.q).toNat]).v ≠ r.v
    · rw [if_pos h5, if_pos h5] at this; rw [if_pos h5]; exact this
    · rw [if_neg h5, if_neg h5] at this; rw [if_neg h5]
      rw [show (((s.again r.p r.e r.q).toNat : Nat) : Int) = s.again r.p r.e r.q by omega] at this
      exact this
  rw [if_neg h4]
  have h4' : s.again r.p r.e r.q < 0 := by omega
  have hf := fits_cases s r
  by_cases h5 : r.q ≠ PL.nextOf r.p r.e s.R 0
  · rw [if_pos h5] at hf ⊢; exact append_unfit w p s M V h hq r v hv hok he he0 h4' 8 (by decide) hf
  rw [if_neg h5] at hf ⊢
  by_cases h6 : s.S.any (PL.bars r) = true
  · rw [if_pos h6] at hf ⊢; exact append_unfit w p s M V h hq r v hv hok he he0 h4' 6 (by decide) hf
  rw [if_neg h6] at hf ⊢
  by_cases h7 : 128 ≤ s.R.length
  · rw [if_pos h7] at hf ⊢; exact append_unfit w p s M V h hq r v hv hok he he0 h4' 3 (by decide) hf
  rw [if_neg h7] at hf ⊢
  by_cases h8 : s.span r.p r.e r.t < 0
  · rw [if_pos h8]; exact append_new1 w p s M V h hn hn2 hq r v hv hok he he0 h4' hf h8 hvM
  · rw [if_neg h8]; exact append_new2 w p s M V h hn2 hq r v hv hok he he0 h4' hf (by omega) hvM

/-! ### nothing -/
theorem learn_nil (w : World) (a e : Int) : Calls Try.prog 26 #[.pointer none, .int .i64 a, .int .i64 e] w (Ret (.int .i64 1) w) := by
  go_enter Try.func26, Try.ntmps26
  go_wp2_with fail
  go_ret
  exact Ret.int rfl (below_refl _)
theorem ends_nil (w : World) (a e t : Int) (c : Bool) : Calls Try.prog 27 #[.pointer none, .int .i64 a, .int .i64 e, .int .i64 t, .bool c] w (Ret (.int .i64 1) w) := by
  go_enter Try.func27, Try.ntmps27
  go_wp2_with fail
  go_ret
  exact Ret.int rfl (below_refl _)
set_option maxRecDepth 100000 in
theorem append_nil (w : World) (r : PL.Rec) (v : Value) : Calls Try.prog 23 #[.pointer none, recV r v] w (Ret (.tuple #[.int .i64 0, .int .i64 1]) w) := by
  unfold recV
  go_enter Try.func23, Try.ntmps23
  go_wp2_with fail
  go_ret2
  exact Ret.mk rfl (below_alloc (below_refl _) _)

end Go.Proofs.Ytjjlbancofkinaa
