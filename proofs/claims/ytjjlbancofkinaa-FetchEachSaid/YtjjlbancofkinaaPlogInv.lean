/-
  Plain laws of a partition's log: what holds behind every script. No program, no memory.
-/
import Derived.Test.YtjjlbancofkinaaPlogPure
namespace Go.Proofs.Ytjjlbancofkinaa
namespace PL

/-- What holds of every log. -/
structure Ok (s : St) : Prop where
  good : ∀ r ∈ s.R, okRec r ∧ r.e ≤ s.E r.p
  uni : ∀ (i j : Nat) (a b : Rec), s.R[i]? = some a → s.R[j]? = some b → a.p = b.p → a.e = b.e → a.q = b.q → i = j
  spn : ∀ (i j : Nat) (a b : Spn), s.S[i]? = some a → s.S[j]? = some b → a.p = b.p → a.e = b.e → a.t = b.t → i = j
  len : s.R.length ≤ 128
  eps : ∀ p, -1 ≤ s.E p ∧ s.E p ≤ 100

/-! ### the first place, and the last -/
theorem idx_none {α : Type} (f : α → Bool) : ∀ (l : List α) (n : Int), (∀ x ∈ l, f x = false) → idx f l n = -1
  | [], _, _ => rfl
  | x :: l, n, h => by
    rw [idx, h x (List.mem_cons_self ..)]
    exact idx_none f l (n + 1) fun y hy => h y (List.mem_cons_of_mem _ hy)
theorem idx_bd {α : Type} (f : α → Bool) : ∀ (l : List α) (n : Int), 0 ≤ n → idx f l n = -1 ∨ n ≤ idx f l n ∧ idx f l n < n + l.length
  | [], _, _ => .inl rfl
  | x :: l, n, hn => by
    unfold idx
    split
    · exact .inr ⟨Int.le_refl _, by rw [List.length_cons]; omega⟩
    · rcases idx_bd f l (n + 1) (by omega) with h | h
      · exact .inl h
      · refine .inr ⟨by omega, ?_⟩
        rw [List.length_cons]; omega
theorem idx_at {α : Type} (f : α → Bool) : ∀ (l : List α) (n : Int) (x : α), 0 ≤ n → n ≤ idx f l n → l[(idx f l n - n).toNat]? = some x → f x = true
  | [], n, x, hn, h, _ => by unfold idx at h; omega
  | y :: l, n, x, hn, h, hx => by
    unfold idx at h hx
    by_cases hy : f y = true
    · rw [if_pos hy] at hx
      simp at hx
      rw [← hx]; exact hy
    · rw [if_neg hy] at h hx
      have hb := idx_bd f l (n + 1) (by omega)
      have h1 : (idx f l (n + 1) - n).toNat = (idx f l (n + 1) - (n + 1)).toNat + 1 := by omega
      rw [h1, List.getElem?_cons_succ] at hx
      exact idx_at f l (n + 1) x (by omega) (by omega) hx
theorem idx_neg {α : Type} (f : α → Bool) (l : List α) (n : Int) (hn : 0 ≤ n) (h : idx f l n < 0) : ∀ x ∈ l, f x = false := by
  intro x hx
  induction l generalizing n with
  | nil => cases hx
  | cons y l ih =>
    unfold idx at h
    by_cases hy : f y = true
    · rw [if_pos hy] at h; omega
    · rw [if_neg hy] at h
      rcases List.mem_cons.1 hx with rfl | hx
      · simpa using hy
      · exact ih (n + 1) (by omega) h hx
theorem idx_one {α : Type} (f : α → Bool) : ∀ (l : List α) (n : Int) (j : Nat) (x : α), l[j]? = some x → f x = true → (∀ k y, l[k]? = some y → f y = true → k = j) → idx f l n = n + j
  | [], _, _, _, h, _, _ => by simp at h
  | y :: l, n, 0, x, h, hx, _ => by
    simp at h; subst h
    rw [idx, if_pos hx]; simp
  | y :: l, n, j + 1, x, h, hx, hu => by
    have hy : f y = false := by
      by_cases hy : f y = true
      · have := hu 0 y (by simp) hy; omega
      · simpa using hy
    rw [idx, hy]
    have := idx_one f l (n + 1) j x (by simpa using h) hx fun k z hz hfz => by
      have := hu (k + 1) z (by simpa using hz) hfz; omega
    simp only [Bool.false_eq_true, if_false]
    rw [this]; omega

theorem lastOf_none (p e q : Int) : ∀ (l : List Rec) (i a : Int), (∀ x ∈ l, isSeq p e q x = false) → lastOf p e q l i a = a
  | [], _, _, _ => rfl
  | x :: l, i, a, h => by
    rw [lastOf, h x (List.mem_cons_self ..)]
    exact lastOf_none p e q l (i + 1) a fun y hy => h y (List.mem_cons_of_mem _ hy)
theorem lastOf_one (p e q : Int) : ∀ (l : List Rec) (i a : Int) (j : Nat) (x : Rec), l[j]? = some x → isSeq p e q x = true → (∀ k y, l[k]? = some y → isSeq p e q y = true → k = j) → lastOf p e q l i a = i + j
  | [], _, _, _, _, h, _, _ => by simp at h
  | y :: l, i, a, 0, x, h, hx, hu => by
    simp at h; subst h
    rw [lastOf, if_pos hx, lastOf_none]
    · simp
    · intro z hz
      obtain ⟨k, hk, rfl⟩ := List.mem_iff_getElem.1 hz
      by_cases hzf : isSeq p e q l[k] = true
      · have := hu (k + 1) l[k] (by simp [List.getElem?_eq_getElem hk]) hzf; omega
      · simpa using hzf
  | y :: l, i, a, j + 1, x, h, hx, hu => by
    rw [lastOf, lastOf_one p e q l (i + 1) _ j x (by simpa using h) hx fun k z hz hfz => by
      have := hu (k + 1) z (by simpa using hz) hfz; omega]
    omega

theorem isSeq_eq {p e q : Int} {r : Rec} (h : isSeq p e q r = true) : r.p = p ∧ r.e = e ∧ r.q = q := by
  simpa [isSeq, and_assoc] using h
theorem isSpn_eq {p e t : Int} {s : Spn} (h : isSpn p e t s = true) : s.p = p ∧ s.e = e ∧ s.t = t := by
  simpa [isSpn, and_assoc] using h

theorem again_bd (s : St) (p e q : Int) : s.again p e q = -1 ∨ 0 ≤ s.again p e q ∧ s.again p e q < s.R.length := by
  have := idx_bd (isSeq p e q) s.R 0 (Int.le_refl _)
  unfold St.again; omega
theorem span_bd (s : St) (p e t : Int) : s.span p e t = -1 ∨ 0 ≤ s.span p e t ∧ s.span p e t < s.S.length := by
  have := idx_bd (isSpn p e t) s.S 0 (Int.le_refl _)
  unfold St.span; omega

/-- Where a number stands, it stands once. -/
theorem Ok.last_again {s : St} (h : Ok s) (p e q : Int) : lastOf p e q s.R 0 (-1) = s.again p e q := by
  rcases again_bd s p e q with hn | ⟨h0, h1⟩
  · rw [hn, lastOf_none]
    exact idx_neg (isSeq p e q) s.R 0 (Int.le_refl _) (by unfold St.again at hn; omega)
  · have hj : (s.again p e q).toNat < s.R.length := by omega
    have hx := idx_at (isSeq p e q) s.R 0 _ (Int.le_refl _) h0 (by rw [show (idx (isSeq p e q) s.R 0 - 0).toNat = (s.again p e q).toNat from by simp [St.again]]; exact List.getElem?_eq_getElem hj)
    rw [lastOf_one p e q s.R 0 (-1) _ _ (List.getElem?_eq_getElem hj) hx fun k y hy hfy => by
      obtain ⟨a1, a2, a3⟩ := isSeq_eq hx
      obtain ⟨b1, b2, b3⟩ := isSeq_eq hfy
      exact h.uni k _ y _ hy (List.getElem?_eq_getElem hj) (b1.trans a1.symm) (b2.trans a2.symm) (b3.trans a3.symm)]
    omega
theorem Ok.again_of {s : St} (h : Ok s) {j : Nat} {r : Rec} (hr : s.R[j]? = some r) : s.again r.p r.e r.q = j := by
  have := idx_one (isSeq r.p r.e r.q) s.R 0 j r hr (by simp [isSeq]) fun k y hy hfy => by
    obtain ⟨b1, b2, b3⟩ := isSeq_eq hfy
    exact h.uni k j y r hy hr b1 b2 b3
  unfold St.again; omega
theorem Ok.span_of {s : St} (h : Ok s) {j : Nat} {x : Spn} (hx : s.S[j]? = some x) : s.span x.p x.e x.t = j := by
  have := idx_one (isSpn x.p x.e x.t) s.S 0 j x hx (by simp [isSpn]) fun k y hy hfy => by
    obtain ⟨b1, b2, b3⟩ := isSpn_eq hfy
    exact h.spn k j y x hy hx b1 b2 b3
  unfold St.span; omega
theorem span_at (s : St) (p e t : Int) (h : 0 ≤ s.span p e t) : ∃ x, s.S[(s.span p e t).toNat]? = some x ∧ x.p = p ∧ x.e = e ∧ x.t = t := by
  rcases span_bd s p e t with hn | ⟨h0, h1⟩
  · omega
  · have hj : (s.span p e t).toNat < s.S.length := by omega
    refine ⟨_, List.getElem?_eq_getElem hj, ?_⟩
    exact isSpn_eq (idx_at (isSpn p e t) s.S 0 _ (Int.le_refl _) h0 (by rw [show (idx (isSpn p e t) s.S 0 - 0).toNat = (s.span p e t).toNat from by simp [St.span]]; exact List.getElem?_eq_getElem hj))
theorem again_at (s : St) (p e q : Int) (h : 0 ≤ s.again p e q) : ∃ x, s.R[(s.again p e q).toNat]? = some x ∧ x.p = p ∧ x.e = e ∧ x.q = q := by
  rcases again_bd s p e q with hn | ⟨h0, h1⟩
  · omega
  · have hj : (s.again p e q).toNat < s.R.length := by omega
    refine ⟨_, List.getElem?_eq_getElem hj, ?_⟩
    exact isSeq_eq (idx_at (isSeq p e q) s.R 0 _ (Int.le_refl _) h0 (by rw [show (idx (isSeq p e q) s.R 0 - 0).toNat = (s.again p e q).toNat from by simp [St.again]]; exact List.getElem?_eq_getElem hj))
theorem again_no (s : St) (p e q : Int) (h : s.again p e q < 0) : ∀ x ∈ s.R, ¬ (x.p = p ∧ x.e = e ∧ x.q = q) := fun x hx hh => by
  have := idx_neg (isSeq p e q) s.R 0 (Int.le_refl _) h x hx
  simp [isSeq, hh.1, hh.2.1, hh.2.2] at this
theorem span_no (s : St) (p e t : Int) (h : s.span p e t < 0) : ∀ x ∈ s.S, ¬ (x.p = p ∧ x.e = e ∧ x.t = t) := fun x hx hh => by
  have := idx_neg (isSpn p e t) s.S 0 (Int.le_refl _) h x hx
  simp [isSpn, hh.1, hh.2.1, hh.2.2] at this

/-- Another transaction is open. -/
def otherS (p e t : Int) (s : Spn) : Bool := s.p == p && s.e == e && s.t != t && s.k == 0
/-- How the transaction of a record was ended (0: it is open, or none). -/
def St.kind (s : St) (p e t : Int) : Int := if 0 ≤ s.span p e t then (s.S.getD (s.span p e t).toNat ⟨p, e, t, -1, 0⟩).k else 0

theorem kind_of_none {s : St} {p e t : Int} (h : s.span p e t < 0) : s.kind p e t = 0 := by unfold St.kind; rw [if_neg (by omega)]
theorem kind_of_some {s : St} {p e t : Int} {x : Spn} (h : 0 ≤ s.span p e t) (hx : s.S[(s.span p e t).toNat]? = some x) : s.kind p e t = x.k := by
  unfold St.kind; rw [if_pos h, List.getD_eq_getElem?_getD, hx]; rfl
theorem Ok.kind_mem {s : St} (h : Ok s) {x : Spn} (hx : x ∈ s.S) : s.kind x.p x.e x.t = x.k := by
  obtain ⟨j, hj⟩ := List.getElem?_of_mem hx
  have hs := h.span_of hj
  exact kind_of_some (by omega) (by rw [hs]; simpa using hj)

theorem Ok.bars_eq {s : St} (h : Ok s) (r : Rec) : s.S.any (bars r) = (decide (s.kind r.p r.e r.t ≠ 0) || s.S.any (otherS r.p r.e r.t)) := by
  rw [Bool.eq_iff_iff, Bool.or_eq_true, List.any_eq_true, List.any_eq_true, decide_eq_true_iff]
  constructor
  · rintro ⟨x, hx, hb⟩
    simp only [bars, Bool.and_eq_true, beq_iff_eq] at hb
    obtain ⟨⟨h1, h2⟩, h3⟩ := hb
    by_cases ht : x.t = r.t
    · left
      have := h.kind_mem hx
      rw [h1, h2, ht] at this
      rw [this]
      simp [ht] at h3
      exact h3
    · right
      refine ⟨x, hx, ?_⟩
      have ht' : (x.t == r.t) = false := by simpa using ht
      rw [ht'] at h3
      have h4 : x.k = 0 := by simpa using h3.symm
      simp [otherS, h1, h2, ht, h4]
  · rintro (hk | ⟨x, hx, ho⟩)
    · rcases span_bd s r.p r.e r.t with hn | ⟨h0, h1⟩
      · exact absurd (kind_of_none (by omega)) hk
      · obtain ⟨x, hx, e1, e2, e3⟩ := span_at s r.p r.e r.t h0
        refine ⟨x, List.mem_of_getElem? hx, ?_⟩
        rw [kind_of_some h0 hx] at hk
        simp [bars, e1, e2, e3, hk]
    · refine ⟨x, hx, ?_⟩
      simp only [otherS, Bool.and_eq_true, beq_iff_eq, bne_iff_ne] at ho
      obtain ⟨⟨⟨h1, h2⟩, h3⟩, h4⟩ := ho
      simp [bars, h1, h2, h3, h4]

/-! ### what keeps it -/
theorem Ok.new : Ok St.new := by
  refine ⟨?_, ?_, ?_, ?_, ?_⟩
  · intro r hr; simp [St.new] at hr
  · intro i j a b ha; simp [St.new] at ha
  · intro i j a b ha; simp [St.new] at ha
  · simp [St.new]
  · intro p; simp [St.new]

theorem Ok.learn {s : St} (h : Ok s) (p e : Int) : Ok (s.learn p e).2 := by
  unfold St.learn
  split
  · rename_i hok
    refine ⟨fun r hr => ?_, h.uni, h.spn, h.len, fun x => ?_⟩
    · have := h.good r hr
      refine ⟨this.1, ?_⟩
      dsimp only
      split
      · rename_i he; rw [← he]; omega
      · exact this.2
    · dsimp only
      have := h.eps p
      have := h.eps x
      have := hok.2.2
      split <;> omega
  · exact h

theorem getElem?_snoc {α : Type} {l : List α} {x y : α} {i : Nat} (h : (l ++ [x])[i]? = some y) : l[i]? = some y ∨ i = l.length ∧ x = y := by
  rcases Nat.lt_trichotomy i l.length with hi | hi | hi
  · rw [List.getElem?_append_left hi] at h; exact .inl h
  · subst hi; simp at h; exact .inr ⟨rfl, h⟩
  · rw [List.getElem?_eq_none (by simp; omega)] at h; cases h

theorem uni_snoc {α : Type} {l : List α} {x : α} {R : α → α → Prop} (hs : ∀ a b, R a b → R b a) (h : ∀ (i j : Nat) a b, l[i]? = some a → l[j]? = some b → R a b → i = j) (hx : ∀ y ∈ l, ¬ R y x) :
    ∀ (i j : Nat) a b, (l ++ [x])[i]? = some a → (l ++ [x])[j]? = some b → R a b → i = j := by
  intro i j a b ha hb hr
  rcases getElem?_snoc ha with ha | ⟨hi, rfl⟩
  · rcases getElem?_snoc hb with hb | ⟨hj, rfl⟩
    · exact h i j a b ha hb hr
    · exact absurd hr (hx _ (List.mem_of_getElem? ha))
  · rcases getElem?_snoc hb with hb | ⟨hj, rfl⟩
    · exact absurd (hs _ _ hr) (hx _ (List.mem_of_getElem? hb))
    · omega

theorem Ok.append {s : St} (h : Ok s) (r : Rec) : Ok (s.append r).2.2 := by
  unfold St.append
  split
  · exact h
  rename_i hok
  replace hok := Decidable.of_not_not hok
  split
  · exact h
  split
  · exact h
  split
  · exact h
  dsimp only
  split
  · split <;> exact h
  rename_i ha
  split
  · exact h
  split
  · exact h
  split
  · exact h
  rename_i h1 h2 h3 h4 h5 h6
  refine ⟨fun x hx => ?_, ?_, ?_, by simp; omega, h.eps⟩
  · rcases List.mem_append.1 hx with hx | hx
    · exact h.good x hx
    · simp at hx; subst hx
      exact ⟨hok, by dsimp only; omega⟩
  · have := uni_snoc (l := s.R) (x := r) (R := fun a b => a.p = b.p ∧ a.e = b.e ∧ a.q = b.q) (fun a b h => ⟨h.1.symm, h.2.1.symm, h.2.2.symm⟩)
      (fun i j a b ha hb hr => h.uni i j a b ha hb hr.1 hr.2.1 hr.2.2) (fun y hy => again_no s r.p r.e r.q (by omega) y hy)
    exact fun i j a b ha hb p1 p2 p3 => this i j a b ha hb ⟨p1, p2, p3⟩
  · dsimp only
    split
    · rename_i hsp
      have := uni_snoc (l := s.S) (x := ⟨r.p, r.e, r.t, s.R.length, 0⟩) (R := fun a b => a.p = b.p ∧ a.e = b.e ∧ a.t = b.t) (fun a b h => ⟨h.1.symm, h.2.1.symm, h.2.2.symm⟩)
        (fun i j a b ha hb hr => h.spn i j a b ha hb hr.1 hr.2.1 hr.2.2) (fun y hy => span_no s r.p r.e r.t hsp y hy)
      exact fun i j a b ha hb p1 p2 p3 => this i j a b ha hb ⟨p1, p2, p3⟩
    · exact h.spn

theorem setK_at {l : List Spn} {i : Nat} {k : Int} {j : Nat} {x : Spn} (h : (setK l i k)[j]? = some x) : ∃ y, l[j]? = some y ∧ y.p = x.p ∧ y.e = x.e ∧ y.t = x.t := by
  unfold setK at h
  rw [List.getElem?_modify] at h
  cases hl : l[j]? with
  | none => simp [hl] at h
  | some y =>
    rw [hl] at h
    by_cases hij : i = j
    · simp [hij] at h; subst h; exact ⟨y, rfl, rfl, rfl, rfl⟩
    · simp [hij] at h; subst h; exact ⟨y, rfl, rfl, rfl, rfl⟩

theorem Ok.ends {s : St} (h : Ok s) (p e t : Int) (c : Bool) : Ok (s.ends p e t c).2 := by
  unfold St.ends
  split
  · exact h
  dsimp only
  generalize (if c = true then (2 : Int) else 3) = k
  split
  · rename_i hsp
    refine ⟨h.good, h.uni, ?_, h.len, h.eps⟩
    have := uni_snoc (l := s.S) (x := ⟨p, e, t, -1, k⟩) (R := fun a b => a.p = b.p ∧ a.e = b.e ∧ a.t = b.t) (fun a b h => ⟨h.1.symm, h.2.1.symm, h.2.2.symm⟩)
      (fun i j a b ha hb hr => h.spn i j a b ha hb hr.1 hr.2.1 hr.2.2) (fun y hy => span_no s p e t hsp y hy)
    exact fun i j a b ha hb p1 p2 p3 => this i j a b ha hb ⟨p1, p2, p3⟩
  · split
    · exact h
    · refine ⟨h.good, h.uni, fun i j a b ha hb p1 p2 p3 => ?_, h.len, h.eps⟩
      obtain ⟨a', ha', q1, q2, q3⟩ := setK_at ha
      obtain ⟨b', hb', r1, r2, r3⟩ := setK_at hb
      exact h.spn i j a' b' ha' hb' (by rw [q1, r1, p1]) (by rw [q2, r2, p2]) (by rw [q3, r3, p3])

/-! ### scripts -/
structure Act where
  k : Int
  r : Rec
  c : Bool

def St.step (s : St) (a : Act) : St :=
  if a.k = 1 then (s.learn a.r.p a.r.e).2 else if a.k = 2 then (s.append a.r).2.2 else (s.ends a.r.p a.r.e a.r.t a.c).2
def St.plays (s : St) (l : List Act) : St := l.foldl St.step s

theorem Ok.step {s : St} (h : Ok s) (a : Act) : Ok (s.step a) := by
  unfold St.step
  split
  · exact h.learn _ _
  · split
    · exact h.append _
    · exact h.ends _ _ _ _
theorem Ok.plays {s : St} (h : Ok s) (l : List Act) : Ok (s.plays l) := by
  induction l generalizing s with
  | nil => exact h
  | cons a l ih => exact ih (h.step a)
theorem plays_snoc (s : St) (l : List Act) (a : Act) : s.plays (l ++ [a]) = (s.plays l).step a := by simp [St.plays]
theorem learn_sz (s : St) (p e : Int) : (s.learn p e).2.S = s.S ∧ (s.learn p e).2.R = s.R := by
  unfold St.learn
  split <;> exact ⟨rfl, rfl⟩
theorem append_sz (s : St) (r : Rec) : (s.append r).2.2.S.length ≤ s.S.length + 1 ∧ (s.append r).2.2.R.length ≤ s.R.length + 1 := by
  unfold St.append
  split
  · simp
  split
  · simp
  split
  · simp
  split
  · simp
  dsimp only
  split
  · split <;> simp
  split
  · simp
  split
  · simp
  split
  · simp
  dsimp only
  split <;> simp
theorem ends_sz (s : St) (p e t : Int) (c : Bool) : (s.ends p e t c).2.S.length ≤ s.S.length + 1 ∧ (s.ends p e t c).2.R = s.R := by
  unfold St.ends
  split
  · simp
  dsimp only
  generalize (if c = true then (2 : Int) else 3) = k
  split
  · simp
  split <;> simp [setK]
theorem step_sz (s : St) (a : Act) : (s.step a).S.length ≤ s.S.length + 1 ∧ (s.step a).R.length ≤ s.R.length + 1 := by
  unfold St.step
  split
  · have := learn_sz s a.r.p a.r.e
    rw [this.1, this.2]; omega
  split
  · exact append_sz s a.r
  · have := ends_sz s a.r.p a.r.e a.r.t a.c
    rw [this.2]; omega
theorem plays_len (l : List Act) (s : St) : (s.plays l).S.length ≤ s.S.length + l.length ∧ (s.plays l).R.length ≤ s.R.length + l.length := by
  induction l generalizing s with
  | nil => exact ⟨Nat.le_refl _, Nat.le_refl _⟩
  | cons a l ih =>
    have h1 := ih (s.step a)
    have h2 := step_sz s a
    constructor
    · show ((s.step a).plays l).S.length ≤ _; simp; omega
    · show ((s.step a).plays l).R.length ≤ _; simp; omega

theorem Ok.vals {s : St} (h : Ok s) : ∀ r ∈ s.R, r.v.length ≤ 140737488351232 := fun r hr => by have := (h.good r hr).1.2.2.2.2; omega
theorem Ok.seqs {s : St} (h : Ok s) : ∀ r ∈ s.R, 0 ≤ r.q ∧ r.q ≤ 1048576 := fun r hr => ⟨(h.good r hr).1.2.2.1, (h.good r hr).1.2.2.2.1⟩

theorem stab_le : ∀ (l : List Spn) (n : Int), stab l n ≤ n
  | [], _ => Int.le_refl _
  | s :: l, n => by
    unfold stab
    have := stab_le l (if s.k = 0 then min n s.f else n)
    have h2 : (if s.k = 0 then min n s.f else n) ≤ n := by split <;> omega
    omega

end PL
end Go.Proofs.Ytjjlbancofkinaa
