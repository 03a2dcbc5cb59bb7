/-
  FetchEnds: the plain part: what the logs hold.
-/
import Derived.Test.YtjjlbancofkinaaFetchG
namespace Go.Proofs.Ytjjlbancofkinaa
open Go.RowKit

def feR (i : Nat) : PL.Rec := ⟨0, 0, 1, i, [UInt8.ofNat i]⟩
def feO : PL.Rec := ⟨1, 0, 1, 0, []⟩
def feB : PL.St := ((PL.St.new.learn 0 0).2.learn 1 0).2
def feA : PL.St := (feB.append feO).2.2
def feE : PL.St := (feA.ends 1 0 1 true).2
/-- The log behind so many records; with another transaction ahead of them, or without. -/
def feS (o : Bool) : Nat → PL.St
  | 0 => if o then feE else feB
  | n + 1 => ((feS o n).append (feR n)).2.2
/-- .. and behind the end of it. -/
def feK (o : Bool) (n : Nat) (k : Nat) : PL.St := if k = 0 then feS o n else ((feS o n).ends 0 0 1 (decide (k = 1))).2
def feN (o : Bool) : Nat := if o then 1 else 0

theorem feS_small : ∀ (o : Bool) (n : Fin 31), (feS o n).S.length ≤ 2 ∧ (feS o n).R.length = feN o + n ∧ (∀ r ∈ (feS o n).R, 0 ≤ r.q ∧ r.q ≤ 1048576 ∧ r.v.length ≤ 1) := by decide +kernel
theorem feK_small : ∀ (o : Bool) (n : Fin 31) (k : Fin 3), (feK o n k).S.length ≤ 2 ∧ (feK o n k).R.length = feN o + n ∧ (∀ r ∈ (feK o n k).R, r.v.length ≤ 1) := by decide +kernel
theorem feK_reads : ∀ (o : Bool) (n : Fin 31) (k : Fin 3), 1 ≤ (n : Nat) →
    (readOut (isComm (feK o n k).S) 100 (feK o n k).stable ((feK o n k).R.drop 0) (0 : Nat) []).1.length = (if (k : Nat) = 1 then feN o + n else feN o) ∧
    (readOut (isComm (feK o n k).S) 100 (feK o n k).stable ((feK o n k).R.drop 0) (0 : Nat) []).2 = (if (k : Nat) = 0 then (feN o : Int) else ((feN o + n : Nat) : Int)) ∧
    (abS 0 100 (feK o n k).S).map (·.f) = (if (k : Nat) = 2 then [(feN o : Int)] else []) := by decide +kernel

end Go.Proofs.Ytjjlbancofkinaa
