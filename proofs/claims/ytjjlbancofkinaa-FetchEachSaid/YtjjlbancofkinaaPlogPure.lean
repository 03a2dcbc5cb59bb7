/-
  Plain laws of a partition's log (chapter 11): lists and numbers alone; no program, no memory.
-/
namespace Go.Proofs.Ytjjlbancofkinaa
namespace PL

/-- A record. -/
structure Rec where
  p : Int
  e : Int
  t : Int
  q : Int
  v : List UInt8
  deriving DecidableEq

/-- A transaction of a partition. -/
structure Spn where
  p : Int
  e : Int
  t : Int
  f : Int
  k : Int
  deriving DecidableEq

/-- A log: records, transactions, epochs (below 0: not known). -/
structure St where
  R : List Rec
  S : List Spn
  E : Int → Int

def St.new : St := { R := [], S := [], E := fun _ => -1 }

def okPE (p e : Int) : Prop := 0 ≤ p ∧ p < 8 ∧ 0 ≤ e ∧ e ≤ 100
def okT (t : Int) : Prop := 1 ≤ t ∧ t ≤ 100
def okRec (r : Rec) : Prop := okPE r.p r.e ∧ okT r.t ∧ 0 ≤ r.q ∧ r.q ≤ 1048576 ∧ r.v.length ≤ 200
instance (p e : Int) : Decidable (okPE p e) := inferInstanceAs (Decidable (_ ∧ _))
instance (t : Int) : Decidable (okT t) := inferInstanceAs (Decidable (_ ∧ _))
instance (r : Rec) : Decidable (okRec r) := inferInstanceAs (Decidable (_ ∧ _))

/-- The first place from n on at which a test holds, or -1. -/
def idx {α : Type} (f : α → Bool) : List α → Int → Int
  | [], _ => -1
  | x :: l, n => if f x then n else idx f l (n + 1)

def isSpn (p e t : Int) (s : Spn) : Bool := s.p == p && s.e == e && s.t == t
def isSeq (p e q : Int) (r : Rec) : Bool := r.p == p && r.e == e && r.q == q
def isPE (p e : Int) (r : Rec) : Bool := r.p == p && r.e == e

def St.span (s : St) (p e t : Int) : Int := idx (isSpn p e t) s.S 0
def St.again (s : St) (p e q : Int) : Int := idx (isSeq p e q) s.R 0

/-- The number that the next record of a producer's epoch has. -/
def nextOf (p e : Int) : List Rec → Int → Int
  | [], n => n
  | r :: l, n => nextOf p e l (if isPE p e r then r.q + 1 else n)

/-- Where a number stands last. -/
def lastOf (p e q : Int) : List Rec → Int → Int → Int
  | [], _, at_ => at_
  | r :: l, i, at_ => lastOf p e q l (i + 1) (if isSeq p e q r then i else at_)

/-- The last place below k at which a test holds, or -1. -/
def down {α : Type} (f : α → Bool) (l : List α) : Nat → Int
  | 0 => -1
  | k + 1 => if (l[k]?.map f).getD false then k else down f l k
/-- What follows the last number of a producer's epoch. -/
def nextDown (p e : Int) (l : List Rec) : Int :=
  match l[(down (isPE p e) l l.length).toNat]? with
  | some r => if 0 ≤ down (isPE p e) l l.length then r.q + 1 else 0
  | none => 0

def St.learn (s : St) (p e : Int) : Int × St :=
  if okPE p e then (0, { s with E := fun x => if x = p then max (s.E p) e else s.E x }) else (1, s)

/-- Is there a transaction that stands in the way of a record: the same one, ended, or another one, open? -/
def bars (r : Rec) (s : Spn) : Bool := s.p == r.p && s.e == r.e && ((s.t == r.t) == (s.k != 0))

def St.append (s : St) (r : Rec) : Int × Int × St :=
  if ¬ okRec r then (0, 1, s)
  else if s.E r.p < 0 then (0, 4, s)
  else if r.e < s.E r.p then (0, 5, s)
  else if s.E r.p < r.e then (0, 6, s)
  else
    let i := s.again r.p r.e r.q
    if 0 ≤ i then
      (if (s.R.getD i.toNat r).t ≠ r.t ∨ (s.R.getD i.toNat r).v ≠ r.v then (0, 1, s) else (i, 0, s))
    else if r.q ≠ nextOf r.p r.e s.R 0 then (0, 8, s)
    else if s.S.any (bars r) then (0, 6, s)
    else if 128 ≤ s.R.length then (0, 3, s)
    else (s.R.length, 0, { s with
      R := s.R ++ [r],
      S := if s.span r.p r.e r.t < 0 then s.S ++ [⟨r.p, r.e, r.t, s.R.length, 0⟩] else s.S })

def setK (l : List Spn) (i : Nat) (k : Int) : List Spn := l.modify i fun s => { s with k := k }

def St.ends (s : St) (p e t : Int) (c : Bool) : Int × St :=
  if ¬ (okPE p e ∧ okT t) then (1, s)
  else
    let k : Int := if c then 2 else 3
    let i := s.span p e t
    if i < 0 then (0, { s with S := s.S ++ [⟨p, e, t, -1, k⟩] })
    else
      let o := (s.S.getD i.toNat ⟨p, e, t, -1, 0⟩).k
      if o ≠ 0 ∧ o ≠ k then (6, s) else (0, { s with S := setK s.S i.toNat k })

/-- The first record of a transaction that is open. -/
def stab : List Spn → Int → Int
  | [], n => n
  | s :: l, n => stab l (if s.k = 0 then min n s.f else n)
def St.stable (s : St) : Int := stab s.S s.R.length

/-! ### what holds of every log -/

/-- How many records of a producer's epoch there are. -/
def cnt (p e : Int) (l : List Rec) : Nat := (l.filter (isPE p e)).length

structure Inv (s : St) : Prop where
  len : s.R.length ≤ 128
  good : ∀ r ∈ s.R, okRec r ∧ r.e ≤ s.E r.p
  seq : ∀ i (h : i < s.R.length), (s.R[i]).q = cnt (s.R[i]).p (s.R[i]).e (s.R.take i)
  eps : ∀ p, -1 ≤ s.E p ∧ s.E p ≤ 100
  epo : ∀ p, (p < 0 ∨ 8 ≤ p) → s.E p = -1
  spn : ∀ i j (hi : i < s.S.length) (hj : j < s.S.length), s.S[i].p = s.S[j].p → s.S[i].e = s.S[j].e → s.S[i].t = s.S[j].t → i = j
  spf : ∀ x ∈ s.S, -1 ≤ x.f ∧ x.f < s.R.length ∧ (x.k = 0 → 0 ≤ x.f) ∧ (x.k = 0 ∨ x.k = 2 ∨ x.k = 3)
  own : ∀ r ∈ s.R, ∃ x ∈ s.S, x.p = r.p ∧ x.e = r.e ∧ x.t = r.t

end PL
end Go.Proofs.Ytjjlbancofkinaa
