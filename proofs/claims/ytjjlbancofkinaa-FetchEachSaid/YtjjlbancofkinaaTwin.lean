/-
  Both logs beside one another; an act in both.
-/
import Derived.Test.YtjjlbancofkinaaRefI
import Derived.Test.YtjjlbancofkinaaKnown11
namespace Go.Proofs.Ytjjlbancofkinaa
open Go.RowKit

/-- The program's log at p holds s, the reference's at q holds t; both lie beyond what was there in w0, and apart. -/
def Both (w0 w : World) (p q : Nat) (s t : PL.St) (M V N U : Nat → Prop) : Prop :=
  PRep w p s M V ∧ XRep w q t N U ∧ (∀ b, M b → w0.heap.size ≤ b) ∧ (∀ b, N b → w0.heap.size ≤ b) ∧ (∀ b, M b → ¬ (N b ∨ U b)) ∧ (∀ b, N b → ¬ (M b ∨ V b)) ∧ Below w0.heap.size w0 w
/-- .. and the blocks K (of the caller's own) are none of theirs. -/
def Twin (w0 : World) (K : Nat → Prop) (w : World) (p q : Nat) (s t : PL.St) : Prop := ∃ M V N U, Both w0 w p q s t M V N U ∧ ∀ b, K b → b < w.heap.size ∧ ¬ M b ∧ ¬ N b
def Kept (K : Nat → Prop) (w w' : World) : Prop := ∀ b, K b → w'.heap[b]? = w.heap[b]?

theorem Both.step {w0 w w' : World} {p q : Nat} {s t : PL.St} {M V N U : Nat → Prop} (h : Both w0 w p q s t M V N U) (hb : Below w.heap.size w w') : Both w0 w' p q s t M V N U := by
  obtain ⟨h1, h2, h3, h4, h5, h6, h7⟩ := h
  exact ⟨h1.below hb, h2.below hb, h3, h4, h5, h6, below_step h7 hb⟩
theorem Twin.step {w0 w w' : World} {K : Nat → Prop} {p q : Nat} {s t : PL.St} (h : Twin w0 K w p q s t) (hb : Below w.heap.size w w') (K' : Nat → Prop) (hK : ∀ b, K' b → K b ∨ w.heap.size ≤ b ∧ b < w'.heap.size) : Twin w0 K' w' p q s t := by
  obtain ⟨M, V, N, U, h, hk⟩ := h
  refine ⟨M, V, N, U, h.step hb, fun b hb' => ?_⟩
  rcases hK b hb' with h1 | h1
  · have := hk b h1
    exact ⟨Nat.lt_of_lt_of_le this.1 hb.size, this.2⟩
  · exact ⟨h1.2, fun hm => by have := h.1.bound b (.inl hm); omega, fun hm => by have := h.2.1.bound b (.inl hm); omega⟩
theorem Twin.below {w0 w : World} {K : Nat → Prop} {p q : Nat} {s t : PL.St} (h : Twin w0 K w p q s t) : Below w0.heap.size w0 w := by
  obtain ⟨M, V, N, U, h, hk⟩ := h
  exact h.2.2.2.2.2.2
theorem Twin.turn {w0 w w' : World} {K : Nat → Prop} {p q : Nat} {s s' t : PL.St} {M V N U : Nat → Prop} {v : Value} {r : Ending} (h : Both w0 w p q s t M V N U) (hk : ∀ b, K b → b < w.heap.size ∧ ¬ M b ∧ ¬ N b) (hT : Turned p M V v s' w r w') : r = .returned v ∧ Twin w0 K w' p q s' t ∧ Kept K w w' := by
  obtain ⟨h1, h2, h3, h4, h5, h6, h7⟩ := h
  obtain ⟨M', V', e, k1, k2, k3, k4⟩ := hT
  have hz := h7.size
  refine ⟨e, ⟨M', V', N, U, ⟨k1, h2.same k2.size fun b hb => k2.block b (h2.bound b hb) (fun hm => h5 b hm hb), fun b hb => ?_, h4, fun b hb hn => ?_, fun b hn hb => ?_, k2.to_below h7 h3⟩, fun b hb => ⟨Nat.lt_of_lt_of_le (hk b hb).1 k2.size, fun hm => ?_, (hk b hb).2.2⟩⟩, fun b hb => k2.block b (hk b hb).1 (hk b hb).2.1⟩
  · rcases k3 b hb with h | h
    · exact h3 b h
    · omega
  · rcases k3 b hb with h | h
    · exact h5 b h hn
    · have := h2.bound b hn; omega
  · rcases hb with hb | hb
    · rcases k3 b hb with h | h
      · exact h6 b hn (.inl h)
      · have := h2.bound b (.inl hn); omega
    · rcases k4 b hb with h | h
      · exact h6 b hn (.inr h)
      · have := h2.bound b (.inl hn); omega
  · rcases k3 b hm with h | h
    · exact (hk b hb).2.1 h
    · have := (hk b hb).1; omega
theorem Twin.turnX {w0 w w' : World} {K : Nat → Prop} {p q : Nat} {s t t' : PL.St} {M V N U : Nat → Prop} {v : Value} {r : Ending} (h : Both w0 w p q s t M V N U) (hk : ∀ b, K b → b < w.heap.size ∧ ¬ M b ∧ ¬ N b) (hT : TurnedX q N U v t' w r w') : r = .returned v ∧ Twin w0 K w' p q s t' ∧ Kept K w w' := by
  obtain ⟨h1, h2, h3, h4, h5, h6, h7⟩ := h
  obtain ⟨M', V', e, k1, k2, k3, k4⟩ := hT
  have hz := h7.size
  refine ⟨e, ⟨M, V, M', V', ⟨h1.same k2.size fun b hb => k2.block b (h1.bound b hb) (fun hm => h6 b hm hb), k1, h3, fun b hb => ?_, fun b hn hb => ?_, fun b hb hn => ?_, k2.to_below h7 h4⟩, fun b hb => ⟨Nat.lt_of_lt_of_le (hk b hb).1 k2.size, (hk b hb).2.1, fun hm => ?_⟩⟩, fun b hb => k2.block b (hk b hb).1 (hk b hb).2.2⟩
  · rcases k3 b hb with h | h
    · exact h4 b h
    · omega
  · rcases hb with hb | hb
    · rcases k3 b hb with h | h
      · exact h5 b hn (.inl h)
      · have := h1.bound b (.inl hn); omega
    · rcases k4 b hb with h | h
      · exact h5 b hn (.inr h)
      · have := h1.bound b (.inl hn); omega
  · rcases k3 b hb with h | h
    · exact h6 b h hn
    · have := h1.bound b hn; omega
  · rcases k3 b hm with h | h
    · exact (hk b hb).2.2 h
    · have := (hk b hb).1; omega
theorem turned_learn {w w' : World} {p : Nat} {s : PL.St} {M V : Nat → Prop} {v : Value} {r : Ending} (h : RetM M v (fun w' => PRep w' p s M V) w r w') : Turned p M V v s w r w' :=
  ⟨M, V, h.1, h.2.1, h.2.2, fun _ hb => .inl hb, fun _ hb => .inl hb⟩

/-- It returns this, and both hold on. -/
def Twins (w0 : World) (K : Nat → Prop) (p q : Nat) (v : Value) (s t : PL.St) (w : World) (r : Ending) (w' : World) : Prop := r = .returned v ∧ Twin w0 K w' p q s t ∧ Kept K w w'

section
variable {w0 w : World} {K : Nat → Prop} {p q : Nat} {s t : PL.St}
theorem learn_twin (h : Twin w0 K w p q s t) (a e : Int) :
    Calls Try.prog 26 #[.pointer (some ⟨p, 0, none⟩), .int .i64 a, .int .i64 e] w (Twins w0 K p q (.int .i64 (s.learn a e).1) (s.learn a e).2 t w) := by
  obtain ⟨M, V, N, U, h, hk⟩ := h
  exact (learn_any w p s M V h.1 a e).mono fun r w' hr => Twin.turn h hk (turned_learn hr)
theorem learnX_twin (h : Twin w0 K w p q s t) (a e : Int) :
    Calls Try.prog 44 #[.pointer (some ⟨q, 0, none⟩), .int .i64 a, .int .i64 e] w (Twins w0 K p q (.int .i64 (t.learn a e).1) s (t.learn a e).2 w) := by
  obtain ⟨M, V, N, U, h, hk⟩ := h
  exact (learn11_any w q t N U h.2.1 a e).mono fun r w' hr => Twin.turnX h hk hr
theorem append_twin (h : Twin w0 K w p q s t) (hn : s.S.length ≤ 1099511627776) (hO : PL.Ok s) (r : PL.Rec) (v : Value) (hv : BytesAt w0 v r.v) :
    Calls Try.prog 23 #[.pointer (some ⟨p, 0, none⟩), recV r v] w (Twins w0 K p q (.tuple #[.int .i64 (s.append r).1, .int .i64 (s.append r).2.1]) (s.append r).2.2 t w) := by
  obtain ⟨M, V, N, U, h, hk⟩ := h
  exact (append_any w p s M V h.1 hn (by have := hO.len; omega) hO.seqs r v (hv.below h.2.2.2.2.2.2) (fun b e hm => by have := hv.lt e; have := h.2.2.1 b hm; omega)).mono fun r w' hr => Twin.turn h hk hr
theorem appendX_twin (h : Twin w0 K w p q s t) (hn : t.S.length ≤ 1099511627776) (hO : PL.Ok t) (r : PL.Rec) (v : Value) (hv : BytesAt w0 v r.v) :
    Calls Try.prog 45 #[.pointer (some ⟨q, 0, none⟩), recV r v] w (Twins w0 K p q (.tuple #[.int .i64 (t.append r).1, .int .i64 (t.append r).2.1]) s (t.append r).2.2 w) := by
  obtain ⟨M, V, N, U, h, hk⟩ := h
  exact (append11_any w q t N U h.2.1 hO hn r v (hv.below h.2.2.2.2.2.2)).mono fun r w' hr => Twin.turnX h hk hr
theorem ends_twin (h : Twin w0 K w p q s t) (hn : s.S.length ≤ 1099511627776) (a e n : Int) (c : Bool) :
    Calls Try.prog 27 #[.pointer (some ⟨p, 0, none⟩), .int .i64 a, .int .i64 e, .int .i64 n, .bool c] w (Twins w0 K p q (.int .i64 (s.ends a e n c).1) (s.ends a e n c).2 t w) := by
  obtain ⟨M, V, N, U, h, hk⟩ := h
  exact (ends_any w p s M V h.1 hn a e n c).mono fun r w' hr => Twin.turn h hk hr
theorem endsX_twin (h : Twin w0 K w p q s t) (hn : t.S.length ≤ 1099511627776) (a e n : Int) (c : Bool) :
    Calls Try.prog 46 #[.pointer (some ⟨q, 0, none⟩), .int .i64 a, .int .i64 e, .int .i64 n, .bool c] w (Twins w0 K p q (.int .i64 (t.ends a e n c).1) s (t.ends a e n c).2 w) := by
  obtain ⟨M, V, N, U, h, hk⟩ := h
  exact (end11_any w q t N U h.2.1 hn a e n c).mono fun r w' hr => Twin.turnX h hk hr
end

/-- It returns something and true, and both hold t. -/
def Acted (w0 : World) (p q : Nat) (t : PL.St) (e : Ending) (w' : World) : Prop := ∃ z : Int, e = .returned (.tuple #[.int .i64 z, .bool true]) ∧ Twin w0 (fun _ => False) w' p q t t

def actV (a : PL.Act) (u : Value) : Value := .agg #[.int .i64 a.k, .int .i64 a.r.p, .int .i64 a.r.e, .int .i64 a.r.t, .int .i64 a.r.q, u, .bool a.c]
theorem acted_mk {w0 w' : World} {K : Nat → Prop} {p q : Nat} {t : PL.St} {z : Int} {b : Bool} (hb : b = true) (h : Twin w0 K w' p q t t) : Acted w0 p q t (.returned (.tuple #[.int .i64 z, .bool b])) w' := by
  subst hb
  exact ⟨z, rfl, h.step (below_refl _) _ (fun _ h => h.elim)⟩

set_option maxRecDepth 100000 in
set_option maxHeartbeats 1600000 in
theorem act_any (w0 w : World) (p q : Nat) (s : PL.St) (h : Twin w0 (fun _ => False) w p q s s) (hO : PL.Ok s) (hn : s.S.length ≤ 1099511627776) (a : PL.Act) (u : Value) (hu : BytesAt w0 u a.r.v) :
    Calls Try.prog 17 #[.pointer (some ⟨p, 0, none⟩), .pointer (some ⟨q, 0, none⟩), actV a u] w (Acted w0 p q (s.step a)) := by
  obtain ⟨ak, ⟨xp, xe, xt, xq, xv⟩, ac⟩ := a
  have hlr := fun K (t : PL.St) W (h : Twin w0 K W p q s t) => learn_twin h xp xe
  have hlx := fun K W (h : Twin w0 K W p q s s) => learnX_twin h xp xe
  have har := fun K (t : PL.St) W (h : Twin w0 K W p q s t) => append_twin h hn hO ⟨xp, xe, xt, xq, xv⟩ u hu
  have hax := fun K W (h : Twin w0 K W p q s s) => appendX_twin h hn hO ⟨xp, xe, xt, xq, xv⟩ u hu
  have her := fun K (t : PL.St) W (h : Twin w0 K W p q s t) => ends_twin h hn xp xe xt ac
  have hex := fun K W (h : Twin w0 K W p q s s) => endsX_twin h hn xp xe xt ac
  obtain ⟨pu, cu, rfl, hu1, hu2, -⟩ := hu
  unfold actV PL.St.step
  unfold recV at har hax
  dsimp only at *
  have hB2 : Below w.heap.size w ((w.alloc (.cells #[.int .i64 ak, .int .i64 xp, .int .i64 xe, .int .i64 xt, .int .i64 xq, .slice pu xv.length cu, .bool ac] 34)).alloc (.cells #[.int .i64 xp, .int .i64 xe, .int .i64 xt, .int .i64 xq, .slice pu xv.length cu] 32)) := below_alloc (below_alloc (below_refl w) _) _
  have hT := h.step hB2 (fun b => b = w.heap.size ∨ b = w.heap.size + 1) (fun b hb => .inr (by simp; omega))
  have hr := recAt_new (w.alloc (.cells #[.int .i64 ak, .int .i64 xp, .int .i64 xe, .int .i64 xt, .int .i64 xq, .slice pu xv.length cu, .bool ac] 34)) 32 ⟨xp, xe, xt, xq, xv⟩ (.slice pu xv.length cu)
  rw [World.size_alloc] at hr
  have hc : ((w.alloc (.cells #[.int .i64 ak, .int .i64 xp, .int .i64 xe, .int .i64 xt, .int .i64 xq, .slice pu xv.length cu, .bool ac] 34)).alloc (.cells #[.int .i64 xp, .int .i64 xe, .int .i64 xt, .int .i64 xq, .slice pu xv.length cu] 32)).cell? ⟨w.heap.size, 6, none⟩ = some (.bool ac) := by
    exact cell_below (by simp [go_sem]) (below_alloc (below_refl _) _)
  have HT := Lib.hid hT
  have HR := Lib.hid hr
  have HC := Lib.hid hc
  clear hT h hB2 hr hc
  by_cases h1 : ak = 1
  · rw [if_pos h1]
    generalize s.learn xp xe = sl at *
    subst h1
    clear har hax her hex
    go_enter Try.func17, Try.ntmps17
    go_wp2_with fail
    refine (hlx _ _ HT.out).mono ?_
    rintro x w1 ⟨rfl, hT1, hK1⟩
    obtain ⟨d0, d1, d2, d3, d4⟩ := HR.out.same (hK1 _ (.inr rfl))
    clear hlx hK1
    go_wp2_with fail
    refine (hlr _ _ _ hT1).mono ?_
    rintro x w2 ⟨rfl, hT2, hK2⟩
    clear hlr hK2
    go_wp2_with fail
    go_ret2
    exact acted_mk (by simp) hT2
  by_cases h2 : ak = 2
  · rw [if_neg h1, if_pos h2]
    generalize s.append ⟨xp, xe, xt, xq, xv⟩ = sa at *
    subst h2
    clear hlr hlx her hex h1
    go_enter Try.func17, Try.ntmps17
    go_wp2_with fail
    refine (hax _ _ HT.out).mono ?_
    rintro x w1 ⟨rfl, hT1, hK1⟩
    obtain ⟨d0, d1, d2, d3, d4⟩ := HR.out.same (hK1 _ (.inr rfl))
    clear hax hK1
    go_wp2_with fail
    refine (har _ _ _ hT1).mono ?_
    rintro x w2 ⟨rfl, hT2, hK2⟩
    clear har hK2
    go_wp2_with fail
    go_ret2
    exact acted_mk (by simp) hT2
  · rw [if_neg h1, if_neg h2]
    generalize s.ends xp xe xt ac = sa at *
    clear hlr hlx har hax
    go_enter Try.func17, Try.ntmps17
    go_wp2_with fail
    refine (hex _ _ HT.out).mono ?_
    rintro x w1 ⟨rfl, hT1, hK1⟩
    obtain ⟨d0, d1, d2, d3, d4⟩ := HR.out.same (hK1 _ (.inr rfl))
    have d6 := cell_same HC.out (hK1 _ (.inl rfl))
    clear hex hK1
    go_wp2_with fail
    refine (her _ _ _ hT1).mono ?_
    rintro x w2 ⟨rfl, hT2, hK2⟩
    clear her hK2
    go_wp2_with fail
    go_ret2
    exact acted_mk (by simp) hT2

end Go.Proofs.Ytjjlbancofkinaa
