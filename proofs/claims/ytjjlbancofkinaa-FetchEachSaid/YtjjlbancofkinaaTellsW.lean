/-
  FetchTells: the walk.
-/
import Derived.Test.YtjjlbancofkinaaLaid
import Derived.Test.YtjjlbancofkinaaRef12
import Derived.Test.YtjjlbancofkinaaKnown12
namespace Go.Proofs.Ytjjlbancofkinaa
open Go.RowKit

theorem isComm_X {s : PL.St} (hO : PL.Ok s) : isComm s.S = isCommX s := by
  funext r
  unfold isComm isCommX
  rw [decide_eq_decide]
  constructor
  · rintro ⟨x, hx, hk, he⟩
    injection he with e1 he
    injection he with e2 e3
    have := hO.kind_mem hx
    rw [e1, e2, e3] at this
    rw [this, hk]
  · intro hk
    rcases PL.span_bd s r.p r.e r.t with hn | ⟨h0, h1⟩
    · rw [PL.kind_of_none (by omega)] at hk; omega
    · obtain ⟨x, hx, e1, e2, e3⟩ := PL.span_at s r.p r.e r.t h0
      rw [PL.kind_of_some h0 hx] at hk
      exact ⟨x, List.mem_of_getElem? hx, hk, by rw [e1, e2, e3]⟩
theorem stable_le (s : PL.St) : s.stable ≤ s.R.length := PL.stab_le _ _

/-- What is known of both logs behind a script. -/
theorem laid_facts (L : List PL.Act) : PL.Ok (PL.St.new.plays (L.take 80)) ∧ (PL.St.new.plays (L.take 80)).S.length ≤ 1099511627776 ∧ (PL.St.new.plays (L.take 80)).R.length ≤ 80 :=
  ⟨PL.Ok.new.plays _, plays_S L 80 (Nat.le_refl _)⟩

set_option maxRecDepth 100000 in
set_option maxHeartbeats 3200000 in
theorem fetchTells_walk (w : World) (v : Value) (L : List PL.Act) (h : ActsAt w v L) (from_ : Int) (_ : (Lit.int .i64 from_).wf = true) (most : Int) (_ : (Lit.int .i64 most).wf = true) (to : Int) (_ : (Lit.int .i64 to).wf = true) :
    Calls Try.prog 10 #[v, .int .i64 from_, .int .i64 most, .int .i64 to] w (Ret (.bool true) w) := by
  have hlong := long12_any w v L h
  have hlaid := laid_any w v L h
  obtain ⟨hO, hS, hR⟩ := laid_facts L
  generalize PL.St.new.plays (L.take 80) = s at *
  obtain ⟨a, c, rfl, -⟩ := h
  obtain ⟨m, hm⟩ : ∃ m : Nat, max from_ 0 = m := ⟨(max from_ 0).toNat, by omega⟩
  have Hm := Lib.hid hm
  have HO := Lib.hid hO
  clear hm hO
  go_enter Try.func10, Try.ntmps10
  go_wp2_with fail
  refine hlong.mono ?_
  rintro x w1 ⟨b, rfl, rfl⟩
  clear hlong
  cases b
  case true =>
    go_wp2_with fail
    go_ret
    exact Ret.bool rfl (below_refl _)
  go_wp2_with fail
  refine hlaid.mono ?_
  rintro x w1 ⟨p, q, rfl, hT⟩
  clear hlaid
  have hB := hT.below
  obtain ⟨M, V, N, U, hBo, -⟩ := hT
  obtain ⟨hP, hX, -⟩ := hBo
  have hfc := fetchCommitted_any w1 p s M V hP (by omega) hS HO.out.vals from_ most m Hm.out
  have hrc := fun W (hb : Below w1.heap.size w1 W) => committed12_any W q s N U (hX.below hb) (by omega) (stable_le s) from_ most m Hm.out
  have hfa := fun W (hb : Below w1.heap.size w1 W) => fetchAny_any W p s M V (hP.below hb) (by omega) HO.out.vals from_ most m Hm.out
  have hra := fun W (hb : Below w1.heap.size w1 W) => any12_any W q s N U (hX.below hb) (by omega) from_ most m Hm.out
  have hab := fun W (hb : Below w1.heap.size w1 W) => aborted_any W p s M V (hP.below hb) hS from_ to
  have hrb := fun W (hb : Below w1.heap.size w1 W) => aborted12_any W q s N U (hX.below hb) hS from_ to
  rw [isComm_X HO.out] at hfc
  generalize readOut (isCommX s) most s.stable (s.R.drop m) m [] = ra at *
  generalize readOut (fun _ => true) most s.R.length (s.R.drop m) m [] = rb at *
  generalize abS from_ to s.S = rs at *
  obtain ⟨ra1, ra2⟩ := ra
  obtain ⟨rb1, rb2⟩ := rb
  dsimp only at *
  clear hP hX
  go_wp2_with fail
  refine hfc.mono ?_
  rintro x w2 ⟨v2, rfl, hR2, hb2⟩
  replace hR2 := recsFrom_at hR2
  have hR2' := hR2
  obtain ⟨a2, c2, rfl, -⟩ := hR2'
  clear hfc
  go_wp2_with fail
  refine (hrc _ hb2).mono ?_
  rintro x w3 ⟨v3, rfl, hR3, hb3⟩
  have hR3' := hR3
  obtain ⟨a3, c3, rfl, -⟩ := hR3'
  have hB3 := below_step hb2 hb3
  replace hR2 := hR2.below hb3
  clear hrc hb3 hb2
  go_wp2_with fail
  refine (hfa _ hB3).mono ?_
  rintro x w4 ⟨v4, rfl, hR4, hb4⟩
  replace hR4 := recsFrom_at hR4
  have hR4' := hR4
  obtain ⟨a4, c4, rfl, -⟩ := hR4'
  have hB4 := below_step hB3 hb4
  replace hR2 := hR2.below hb4
  replace hR3 := hR3.below hb4
  clear hfa hb4 hB3
  go_wp2_with fail
  refine (hra _ hB4).mono ?_
  rintro x w5 ⟨v5, rfl, hR5, hb5⟩
  have hR5' := hR5
  obtain ⟨a5, c5, rfl, -⟩ := hR5'
  have hB5 := below_step hB4 hb5
  replace hR2 := hR2.below hb5
  replace hR3 := hR3.below hb5
  replace hR4 := hR4.below hb5
  have hr1 := records11_any w5 ra1 ra1 _ _ hR2 hR3
  rw [show decide (ra1 = ra1) = true from decide_eq_true rfl] at hr1
  clear hra hb5 hB4 hR2 hR3
  go_wp2_with fail
  refine hr1.mono ?_
  rintro x w6 ⟨rfl, hb6⟩
  have hB6 := below_step hB5 hb6
  have hr2 := records11_any w6 rb1 rb1 _ _ (hR4.below hb6) (hR5.below hb6)
  rw [show decide (rb1 = rb1) = true from decide_eq_true rfl] at hr2
  clear hr1 hb6 hB5 hR4 hR5
  go_wp2_with fail
  refine hr2.mono ?_
  rintro x w7 ⟨rfl, hb7⟩
  have hB7 := below_step hB6 hb7
  clear hr2 hb7 hB6
  go_wp2_with fail
  refine (hab _ hB7).mono ?_
  rintro x w8 ⟨v8, rfl, ⟨hS8, -⟩, hb8⟩
  have hS8' := hS8
  obtain ⟨a8, c8, rfl, -⟩ := hS8'
  have hB8 := below_step hB7 hb8
  clear hab hb8 hB7
  go_wp2_with fail
  refine (hrb _ hB8).mono ?_
  rintro x w9 ⟨v9, rfl, hS9, hb9⟩
  have hS9' := hS9
  obtain ⟨a9, c9, rfl, -⟩ := hS9'
  have hB9 := below_step hB8 hb9
  have hr3 := spans11_any w9 rs rs _ _ (hS8.below hb9) hS9
  rw [show decide (rs = rs) = true from decide_eq_true rfl] at hr3
  clear hrb hb9 hB8 hS8 hS9
  go_wp2_with fail
  refine hr3.mono ?_
  rintro x w10 ⟨rfl, hb10⟩
  have hB10 := below_step hB9 hb10
  clear hr3 hb10 hB9
  go_wp2_with fail
  refine (known12_any _).mono ?_
  rintro x w11 ⟨rfl, hb11⟩
  go_wp2_with fail
  go_ret
  exact Ret.bool rfl (below_step hB (below_step hB10 hb11))

end Go.Proofs.Ytjjlbancofkinaa
