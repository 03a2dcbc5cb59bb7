/-
  fetch.Committed, fetch.Any of a log and of nothing.
-/
import Derived.Test.YtjjlbancofkinaaFetchC
namespace Go.Proofs.Ytjjlbancofkinaa
open Go.RowKit

def isComm (S : List PL.Spn) (r : PL.Rec) : Bool := decide (∃ s ∈ S, s.k = 2 ∧ (s.p, s.e, s.t) = (r.p, r.e, r.t))
theorem isComm_eq {T : List Tri} {S : List PL.Spn} (h : Comm T S) (r : PL.Rec) : decide ((r.p, r.e, r.t) ∈ T) = isComm S r := decide_eq_decide.2 (h _)

set_option maxRecDepth 100000 in
set_option maxHeartbeats 800000 in
theorem fetchCommitted_core (w : World) (pt : Option Addr) (from_ most n : Int) (S : List PL.Spn) (R : List PL.Rec) (at_ : Int) (hcom : Calls Try.prog 58 #[.pointer pt] w (RetP (CommV S w.heap.size) w))
    (hst : ∀ W, Below w.heap.size w W → Calls Try.prog 28 #[.pointer pt] W (Ret (.int .i64 n) W))
    (hr : ∀ W b m T, Below w.heap.size w W → W.cell? ⟨b, 0, none⟩ = some (.map (some m)) → MapT W m T → Comm T S →
      Calls Try.prog 59 #[.pointer pt, .int .i64 from_, .int .i64 most, .int .i64 n, .func (.func 60) #[] #[.pointer (some ⟨b, 0, none⟩)]] W (ReadV W R at_)) :
    Calls Try.prog 32 #[.pointer pt, .int .i64 from_, .int .i64 most] w (ReadV w R at_) := by
  go_enter Try.func32, Try.ntmps32
  go_wp2_with fail
  refine hcom.mono ?_
  rintro e w1 ⟨v, rfl, ⟨m, T, rfl, hT, hC, -⟩, hb1⟩
  clear hcom
  have hx : Below w1.heap.size w1 (w1.alloc (.cells #[.map (some m)] 97)) := below_alloc (below_refl _) _
  have hc0 := (Boxed.new w1 97 (.map (some m))).cell
  have hs0 := hst _ (below_step hb1 hx)
  have hT0 := hT.below hx
  clear hst
  go_wp2_with fail
  refine hs0.mono ?_
  rintro e w2 ⟨rfl, hb2⟩
  have hB2 := below_step (below_step hb1 hx) hb2
  have hr2 := hr w2 w1.heap.size m T hB2 (cell_below hc0 hb2) (hT0.below hb2) hC
  clear hs0 hr hT hx hc0 hT0 hb2 hb1 hC
  go_wp2_with fail
  refine hr2.mono ?_
  rintro e w3 ⟨v, rfl, hR, hb3⟩
  have hB := below_step hB2 hb3
  have hR' := Lib.hid (hR.mono hB2.size)
  clear hR hr2 hb3 hB2
  go_wp2_with fail
  go_ret2
  exact ⟨v, rfl, hR'.out, hB⟩

/-- 'Committed' of a log. -/
theorem fetchCommitted_any (w : World) (p : Nat) (s : PL.St) (M V : Nat → Prop) (h : PRep w p s M V) (hs : s.R.length ≤ 128) (hS : s.S.length ≤ 1099511627776) (hv : ∀ r ∈ s.R, r.v.length ≤ 140737488351232) (from_ most : Int) (m : Nat) (hm : max from_ 0 = m) :
    Calls Try.prog 32 #[.pointer (some ⟨p, 0, none⟩), .int .i64 from_, .int .i64 most] w
      (ReadV w (readOut (isComm s.S) most s.stable (s.R.drop m) m []).1 (readOut (isComm s.S) most s.stable (s.R.drop m) m []).2) :=
  fetchCommitted_core w _ from_ most s.stable s.S _ _ (committed_any w p s M V h hS) (fun W hb => stable_any W p s M V (h.below hb) hS)
    (fun W b k T hb hc hT hC => read_log W p s M V (h.below hb) hs hv (isComm s.S) from_ most s.stable 60 _ m hm (enters_of Try.func60 (by kernel_rfl) rfl)
      (fun W' r v hb' => by rw [← isComm_eq hC]; exact committed1_any W' r v b k T (cell_below hc hb') (hT.below hb')))
/-- 'Committed' of nothing. -/
theorem fetchCommitted_nil (w : World) (from_ most : Int) (m : Nat) (hm : max from_ 0 = m) :
    Calls Try.prog 32 #[.pointer none, .int .i64 from_, .int .i64 most] w (ReadV w [] m) :=
  fetchCommitted_core w none from_ most 0 [] [] m (committed_nil w) (fun W _ => stable_nil W)
    (fun W b k T hb hc hT hC => read_nil W (isComm []) from_ most 0 60 _ m hm (enters_of Try.func60 (by kernel_rfl) rfl)
      (fun W' r v hb' => by rw [← isComm_eq hC]; exact committed1_any W' r v b k T (cell_below hc hb') (hT.below hb')))

/-- 'Any' of a log. -/
theorem fetchAny_any (w : World) (p : Nat) (s : PL.St) (M V : Nat → Prop) (h : PRep w p s M V) (hs : s.R.length ≤ 128) (hv : ∀ r ∈ s.R, r.v.length ≤ 140737488351232) (from_ most : Int) (m : Nat) (hm : max from_ 0 = m) :
    Calls Try.prog 33 #[.pointer (some ⟨p, 0, none⟩), .int .i64 from_, .int .i64 most] w
      (ReadV w (readOut (fun _ => true) most s.R.length (s.R.drop m) m []).1 (readOut (fun _ => true) most s.R.length (s.R.drop m) m []).2) :=
  fetchAny_core w _ from_ most s.R.length _ _ (len_any w p s M V h)
    (fun W hb => read_log W p s M V (h.below hb) hs hv (fun _ => true) from_ most s.R.length 61 #[] m hm (enters_of Try.func61 (by kernel_rfl) rfl) (fun W' r v _ => any1_any W' r v))
/-- 'Any' of nothing. -/
theorem fetchAny_nil (w : World) (from_ most : Int) (m : Nat) (hm : max from_ 0 = m) :
    Calls Try.prog 33 #[.pointer none, .int .i64 from_, .int .i64 most] w (ReadV w [] m) :=
  fetchAny_core w none from_ most 0 _ _ (len_nil w)
    (fun W _ => read_nil W (fun _ => true) from_ most 0 61 #[] m hm (enters_of Try.func61 (by kernel_rfl) rfl) (fun W' r v _ => any1_any W' r v))

end Go.Proofs.Ytjjlbancofkinaa
