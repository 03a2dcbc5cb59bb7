/-
  fetch.Any, fetch.Committed.
-/
import Derived.Test.YtjjlbancofkinaaFetchB
namespace Go.Proofs.Ytjjlbancofkinaa
open Go.RowKit

theorem any1_any (W : World) (r : PL.Rec) (v : Value) : Calls Try.prog 61 (#[recV r v] ++ #[]) W (Ret (.bool true) W) := by
  unfold recV
  show Calls Try.prog 61 #[.agg #[.int .i64 r.p, .int .i64 r.e, .int .i64 r.t, .int .i64 r.q, v]] W (Ret (.bool true) W)
  go_enter Try.func61, Try.ntmps61
  go_wp2_with fail
  go_ret
  exact Ret.bool rfl (below_alloc (below_refl _) _)

theorem committed1_any (W : World) (r : PL.Rec) (v : Value) (b m : Nat) (T : List Tri) (hb : W.cell? ⟨b, 0, none⟩ = some (.map (some m))) (hT : MapT W m T) :
    Calls Try.prog 60 (#[recV r v] ++ #[.pointer (some ⟨b, 0, none⟩)]) W (Ret (.bool (decide ((r.p, r.e, r.t) ∈ T))) W) := by
  have hB := below_alloc (below_refl W) (.cells #[.int .i64 r.p, .int .i64 r.e, .int .i64 r.t, .int .i64 r.q, v] 32)
  have hl := (hT.below hB).lookup1 (r.p, r.e, r.t)
  have hc := cell_below hb hB
  unfold triV at hl
  dsimp only at hl
  generalize decide ((r.p, r.e, r.t) ∈ T) = d at *
  unfold recV
  show Calls Try.prog 60 #[.agg #[.int .i64 r.p, .int .i64 r.e, .int .i64 r.t, .int .i64 r.q, v], .pointer (some ⟨b, 0, none⟩)] W (Ret (.bool d) W)
  go_enter Try.func60, Try.ntmps60
  go_wp2_with fail
  go_ret
  exact Ret.bool rfl hB

/-- What is read of a log, and where to go on. -/
def ReadV (w : World) (R : List PL.Rec) (at_ : Int) (e : Ending) (w' : World) : Prop :=
  ∃ v, e = .returned (.tuple #[v, .int .i64 at_]) ∧ RecsFrom w.heap.size w' v R ∧ Below w.heap.size w w'

theorem RecsFrom.mono {B B' : Nat} {w : World} {v : Value} {R : List PL.Rec} (h : RecsFrom B w v R) (hb : B' ≤ B) : RecsFrom B' w v R := by
  obtain ⟨a, c, h1, h2, h3, h4, h5⟩ := h
  exact ⟨a, c, h1, h2, h3, fun b e => Nat.le_trans hb (h4 b e), fun i r hr => by
    obtain ⟨b, o, val, k1, k2, k3, k4, k5⟩ := h5 i r hr
    exact ⟨b, o, val, k1, Nat.le_trans hb k2, k3, k4, fun d e => Nat.le_trans hb (k5 d e)⟩⟩

/-- 'read' of a log. -/
theorem read_log (w : World) (p : Nat) (s : PL.St) (M V : Nat → Prop) (h : PRep w p s M V) (hs : s.R.length ≤ 128) (hv : ∀ r ∈ s.R, r.v.length ≤ 140737488351232) (f : PL.Rec → Bool) (from_ most end_ : Int) (g : Nat) (cap : Array Value) (m : Nat) (hm : max from_ 0 = m)
    (eg : ∀ args w, (callFunc g args).run Try.prog w = .ok (.enter g args) w)
    (hme : ∀ (W : World) (r : PL.Rec) (v : Value), Below w.heap.size w W → Calls Try.prog g (#[recV r v] ++ cap) W (Ret (.bool (f r)) W)) :
    Calls Try.prog 59 #[.pointer (some ⟨p, 0, none⟩), .int .i64 from_, .int .i64 most, .int .i64 end_, .func (.func g) #[] cap] w
      (ReadV w (readOut f most end_ (s.R.drop m) m []).1 (readOut f most end_ (s.R.drop m) m []).2) :=
  (read_any w (some ⟨p, 0, none⟩) s f from_ most end_ g cap m w.heap.size (s.R.length - m) hm (by omega) (Nat.le_refl _) rfl (by omega) eg
    (fun W b2 b3 hb c2 c3 => records1_any 5 (by decide) W p s M V (h.below hb) w.heap.size h.bound (by omega) hv b2 b3 m c2 c3 hb.size m (by omega)) hme).mono fun e w' ⟨v, h1, h2, h3⟩ => ⟨v, h1, h2, h3⟩
/-- 'read' of nothing. -/
theorem read_nil (w : World) (f : PL.Rec → Bool) (from_ most end_ : Int) (g : Nat) (cap : Array Value) (m : Nat) (hm : max from_ 0 = m)
    (eg : ∀ args w, (callFunc g args).run Try.prog w = .ok (.enter g args) w)
    (hme : ∀ (W : World) (r : PL.Rec) (v : Value), Below w.heap.size w W → Calls Try.prog g (#[recV r v] ++ cap) W (Ret (.bool (f r)) W)) :
    Calls Try.prog 59 #[.pointer none, .int .i64 from_, .int .i64 most, .int .i64 end_, .func (.func g) #[] cap] w (ReadV w [] m) :=
  (read_any w none PL.St.new f from_ most end_ g cap m w.heap.size 0 hm (.inr rfl) (Nat.le_refl _) (by simp [PL.St.new]) (by omega) eg
    (fun W b2 b3 hb c2 c3 => records1_nil 5 (by decide) W b2 b3 m c2 c3 _ _ _) hme).mono fun e w' ⟨v, h1, h2, h3⟩ => by
      have hr : readOut f most end_ (PL.St.new.R.drop m) m [] = ([], (m : Int)) := by simp [PL.St.new, readOut]
      rw [hr] at h1 h2
      exact ⟨v, h1, h2, h3⟩

set_option maxRecDepth 100000 in
set_option maxHeartbeats 800000 in
theorem fetchAny_core (w : World) (pt : Option Addr) (from_ most n : Int) (R : List PL.Rec) (at_ : Int) (hlen : Calls Try.prog 25 #[.pointer pt] w (Ret (.int .i64 n) w))
    (hr : ∀ W, Below w.heap.size w W → Calls Try.prog 59 #[.pointer pt, .int .i64 from_, .int .i64 most, .int .i64 n, .func (.func 61) #[] #[]] W (ReadV W R at_)) :
    Calls Try.prog 33 #[.pointer pt, .int .i64 from_, .int .i64 most] w (ReadV w R at_) := by
  go_enter Try.func33, Try.ntmps33
  go_wp2_with fail
  refine hlen.mono ?_
  rintro e w1 ⟨rfl, hb1⟩
  go_wp2_with fail
  refine (hr w1 hb1).mono ?_
  rintro e w2 ⟨v, rfl, hR, hb2⟩
  have hB := below_step hb1 hb2
  have hR' := Lib.hid (hR.mono hb1.size)
  clear hR hlen hr hb1 hb2
  go_wp2_with fail
  go_ret2
  exact ⟨v, rfl, hR'.out, hB⟩

end Go.Proofs.Ytjjlbancofkinaa
