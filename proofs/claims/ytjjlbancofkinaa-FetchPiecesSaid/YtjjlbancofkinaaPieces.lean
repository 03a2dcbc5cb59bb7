/-
  Reading piece by piece: plain laws; rows of records as sources; append of such a row.
-/
import Derived.Test.YtjjlbancofkinaaTellsW
import Derived.Test.YtjjlbancofkinaaFresh
import Derived.Maps.AppendAt
namespace Go.Proofs.Ytjjlbancofkinaa
open Go.RowKit

theorem readOut_piece (f : PL.Rec → Bool) (n big e : Int) (R : List PL.Rec) : ∀ (d k : Nat) (acc out : List PL.Rec), R.length - k = d → ((out.length + acc.length + d : Nat) : Int) < big →
    ∃ (acc' : List PL.Rec) (k' : Nat), readOut f n e (R.drop k) k acc = (acc', (k' : Int)) ∧ readOut f big e (R.drop k) k (out ++ acc) = readOut f big e (R.drop k') k' (out ++ acc') ∧ k ≤ k' ∧ (k ≤ R.length → k' ≤ R.length) ∧
      (acc.length ≤ n → acc'.length ≤ n) ∧ (k' = k → (acc.length : Int) < n → acc' = acc ∧ (e ≤ (k : Int) ∨ R.length ≤ k)) ∧ acc'.length ≤ acc.length + (k' - k)
  | 0, k, acc, out, hd, _ => by
    refine ⟨acc, k, ?_, rfl, Nat.le_refl _, id, id, fun _ _ => ⟨rfl, .inr (by omega)⟩, by omega⟩
    rw [List.drop_eq_nil_of_le (by omega)]; rfl
  | d + 1, k, acc, out, hd, hb => by
    have hk : k < R.length := by omega
    have hr : R[k]? = some R[k] := List.getElem?_eq_getElem hk
    by_cases hs : e ≤ (k : Int) ∨ n ≤ acc.length
    · refine ⟨acc, k, readOut_stop hr hs, rfl, Nat.le_refl _, id, id, fun _ hn => ⟨rfl, .inl ?_⟩, by omega⟩
      rcases hs with h | h
      · exact h
      · omega
    · have hgo := readOut_go (f := f) (most := n) (end_ := e) (out := acc) hr hs
      have hgo2 := readOut_go (f := f) (most := big) (end_ := e) (out := out ++ acc) hr (by simp; omega)
      obtain ⟨acc', k', h1, h2, h3, h4, h5, h6, h7⟩ := readOut_piece f n big e R d (k + 1) (if f R[k] then acc ++ [R[k]] else acc) out (by omega) (by split <;> simp <;> omega)
      have hlen : (if f R[k] then acc ++ [R[k]] else acc).length ≤ acc.length + 1 := by split <;> simp
      refine ⟨acc', k', hgo.trans h1, ?_, by omega, fun _ => h4 (by omega), fun hn => h5 (by omega), fun h => by omega, by omega⟩
      rw [hgo2, ← h2]
      congr 1
      split <;> simp

theorem rec_news {w : World} {a : Addr} {L : List (PL.Rec × Value)} (h : ∀ (i : Nat) x, L[i]? = some x → ∃ b o, some a = some ⟨b, o, none⟩ ∧ RecAt w b (o + i * 5) x.1 x.2) : ∀ j u, (recCells L)[j]? = some u → w.cell? (a.add j) = some u := by
  intro j u hu
  have hj : j < L.length * 5 := by have := (List.getElem?_eq_some_iff.1 hu).1; rwa [recCells, flat5_length _ (fun _ => rfl)] at this
  have hi : j / 5 < L.length := by omega
  obtain ⟨b, o, e, c0, c1, c2, c3, c4⟩ := h _ _ (List.getElem?_eq_getElem hi)
  cases e
  rw [Go.WideShapes.add_plain]
  have hf := flat5 (fun x : PL.Rec × Value => [.int .i64 x.1.p, .int .i64 x.1.e, .int .i64 x.1.t, .int .i64 x.1.q, x.2]) (fun _ => rfl) L (j / 5) _ (j % 5) (List.getElem?_eq_getElem hi) (by omega)
  rw [show j / 5 * 5 + j % 5 = j from by omega] at hf
  rw [recCells, hf] at hu
  have hm : j % 5 = 0 ∨ j % 5 = 1 ∨ j % 5 = 2 ∨ j % 5 = 3 ∨ j % 5 = 4 := by omega
  rcases hm with hm | hm | hm | hm | hm <;> rw [hm] at hu <;> cases hu
  · rw [show o + j = o + j / 5 * 5 from by omega]; exact c0
  · rw [show o + j = o + j / 5 * 5 + 1 from by omega]; exact c1
  · rw [show o + j = o + j / 5 * 5 + 2 from by omega]; exact c2
  · rw [show o + j = o + j / 5 * 5 + 3 from by omega]; exact c3
  · rw [show o + j = o + j / 5 * 5 + 4 from by omega]; exact c4

theorem pick_list {α : Type} {P : Nat → α → Prop} : ∀ n, (∀ i, i < n → ∃ x, P i x) → ∃ L : List α, L.length = n ∧ ∀ (i : Nat) x, L[i]? = some x → P i x
  | 0, _ => ⟨[], rfl, fun i x h => by simp at h⟩
  | n + 1, h => by
    obtain ⟨L, hl, hL⟩ := pick_list n fun i hi => h i (by omega)
    obtain ⟨x, hx⟩ := h n (by omega)
    refine ⟨L ++ [x], by simp [hl], fun i y hy => ?_⟩
    rcases PL.getElem?_snoc hy with hy | ⟨rfl, rfl⟩
    · exact hL i y hy
    · rw [hl]; exact hx

/-- A row of records as a source. -/
theorem recs_source {B : Nat} {w : World} {v : Value} {R : List PL.Rec} (h : RecsFrom B w v R) :
    ∃ L : List (PL.Rec × Value), L.map (·.1) = R ∧ Source w v R.length (recCells L) ∧ ∀ x ∈ L, BytesAt w x.2 x.1.v ∧ (∀ b, Value.blk x.2 = some b → B ≤ b) ∧ ∃ a n c, x.2 = .slice a n c := by
  obtain ⟨a, c, rfl, h1, h2, h3, h4⟩ := h
  obtain ⟨L, hL, hP⟩ := pick_list (P := fun i (x : PL.Rec × Value) => R[i]? = some x.1 ∧ ∃ b o, a = some ⟨b, o, none⟩ ∧ RecAt w b (o + i * 5) x.1 x.2 ∧ BytesAt w x.2 x.1.v ∧ ∀ d, Value.blk x.2 = some d → B ≤ d) R.length (fun i hi => by
    obtain ⟨b, o, val, k1, k2, k3, k4, k5⟩ := h4 i _ (List.getElem?_eq_getElem hi)
    exact ⟨(R[i], val), List.getElem?_eq_getElem hi, b, o, k1, k3, k4, k5⟩)
  have hmap : L.map (·.1) = R := by
    apply List.ext_getElem?
    intro i
    rw [List.getElem?_map]
    cases hLi : L[i]? with
    | none =>
      have := List.getElem?_eq_none_iff.1 hLi
      rw [List.getElem?_eq_none (by omega)]; rfl
    | some x => rw [(hP i x hLi).1]; rfl
  refine ⟨L, hmap, ⟨a, c, rfl, fun e => ?_, fun j u hu => ?_⟩, fun x hx => ?_⟩
  · rcases Nat.eq_zero_or_pos R.length with h0 | h0
    · exact h0
    · obtain ⟨-, b, o, e', -⟩ := hP 0 _ (List.getElem?_eq_getElem (by omega : 0 < L.length))
      rw [e] at e'; cases e'
  · have hj : j < L.length * 5 := by have := (List.getElem?_eq_some_iff.1 hu).1; rwa [recCells, flat5_length _ (fun _ => rfl)] at this
    obtain ⟨-, b, o, e', -⟩ := hP 0 _ (List.getElem?_eq_getElem (by omega : 0 < L.length))
    subst e'
    refine ⟨_, rfl, rec_news (fun i x hx => ?_) j u hu⟩
    obtain ⟨-, b', o', e', k, -⟩ := hP i x hx
    exact ⟨b', o', e', k⟩
  · obtain ⟨i, hi⟩ := List.getElem?_of_mem hx
    obtain ⟨-, b, o, -, -, k1, k2⟩ := hP i x hi
    obtain ⟨p, c', e, -⟩ := k1
    exact ⟨(hP i x hi).2.choose_spec.choose_spec.2.2.1, k2, p, _, c', e⟩

section
variable {P : Program}
theorem run_append_src0 (w : World) (base : Nat) (t ty e : TypeId) (i : TypeInfo) (size : Nat) (ht : P.underlying t = some (.slice e)) (hi : P.info? e = some i)
    (v : Value) (n : Nat) (xs : List Value) (hown : w.ownsRow base e size v n xs) (c : Nat) :
    (Builtin.append_ #[t, t] ty #[v, .slice none 0 c]).run P w = .ok v w := by
  rcases hown.2 with ⟨rfl, rfl⟩ | ⟨g, cap, cur, rfl, _, _, hnc, _⟩
  · simp [Builtin.append_, run_underlying ht, sizeOf, typeInfo, hi, Builtin.lenOf, Builtin.firstCells]
  · simp [Builtin.append_, run_underlying ht, sizeOf, typeInfo, hi, Builtin.lenOf, Builtin.firstCells, hnc, storeCells]

theorem wpList_append_src {w : World} {ops : Array Oper} {rest : List Oper} {o : Oper} {a : Act} {Q : Exit → Act → World → Prop} (hgd : o.guard = none) (s x : Operand) (t : TypeId)
    (ho : o.op = .call { callee := .builtin .append, args := #[s, x], argTypes := #[t, t] })
    (base : Nat) (e : TypeId) (i : TypeInfo) (z : Value) (size bytes : Nat) (ht : P.underlying t = some (.slice e)) (hi : P.info? e = some i) (hz : i.zero = some z)
    (hsize : i.size = size) (hby : i.bytes = bytes) (hzs : z.cells.size = size) (hsz : 0 < size)
    (v sv : Value) (n m : Nat) (xs news : List Value) (hs : a.eval s = v) (hx : a.eval x = sv) (hown : w.ownsRow base e size v n xs) (hsrc : Source w sv m news) (hl : news.length = m * size) (h1 : ∀ u ∈ news, u.oneCell' = true)
    (h63 : n + m ≤ maxLen) (hbytes : (n + m) * bytes ≤ 140737488355328) (hbase : base ≤ w.heap.size)
    (h : ∀ v' w', w'.ownsRow base e size v' (n + m) (xs ++ news) → w.grownBy w' v.ownBlock → (v'.ownBlock = v.ownBlock ∨ v'.ownBlock = some w.heap.size) → wpList P ops Q rest (a.put o.dst v') w') : wpList P ops Q (o :: rest) a w := by
  refine wpList_plain hgd fun K hK => ?_
  obtain ⟨ao, c, rfl, hn, hcell⟩ := hsrc
  have hrun : ∃ v' w', (Builtin.append_ #[t, t] o.type #[v, .slice ao m c]).run P w = .ok v' w' ∧ w'.ownsRow base e size v' (n + m) (xs ++ news) ∧ w.grownBy w' v.ownBlock ∧ (v'.ownBlock = v.ownBlock ∨ v'.ownBlock = some w.heap.size) := by
    cases ao with
    | none =>
      obtain rfl := hn rfl
      obtain rfl : news = [] := List.eq_nil_of_length_eq_zero (by simpa using hl)
      exact ⟨v, w, run_append_src0 w base t o.type e i size ht hi v n xs hown c, by simpa using hown, World.grownBy.refl w _, .inl rfl⟩
    | some ad =>
      have hnews : ∀ j u, news[j]? = some u → w.cell? (ad.add j) = some u := fun j u hu => by
        obtain ⟨ad', h', h''⟩ := hcell j u hu
        cases h'; exact h''
      obtain ⟨v', w', hr, h2, h3, -, h5⟩ := run_append_own_at (P := P) w base t o.type e i z size bytes ht hi hz hsize hby hzs hsz v n xs hown ad m c news hl hnews h1 h63 hbytes hbase
      exact ⟨v', w', hr, h2, h3, h5⟩
  obtain ⟨v', w', hr, h2, h3, h4⟩ := hrun
  unfold Oper.wp execOp
  simp only [ho, resolve, invoke, builtin, Sem.run_bind, Sem.run_pure, Result.andThen_ok, List.map_toArray, List.map_cons, List.map_nil, hs, hx, hr]
  exact hK _ _ (h v' w' h2 h3 h4)
end

theorem i64_and15 (n : Int) : bits .and .i64 n 15 = n % 16 := by
  have h127 : (BitVec.ofInt 64 15).toNat = 2 ^ 4 - 1 := by decide
  have key : (BitVec.ofInt 64 n &&& BitVec.ofInt 64 15).toNat = (n % ((2 ^ 64 : Nat) : Int)).toNat % 2 ^ 4 := by
    rw [BitVec.toNat_and, BitVec.toNat_ofInt, h127, Nat.and_two_pow_sub_one_eq_mod]
  show IntKind.i64.wrap ((BitVec.ofInt 64 n &&& BitVec.ofInt 64 15).toNat : Nat) = n % 16
  rw [key, IntKind.wrap_i64]
  omega

/-- A row of numbers. -/
def IntsAt (w : World) (v : Value) (Z : List Int) : Prop :=
  ∃ a c, v = .slice a Z.length c ∧ Z.length ≤ c ∧ c ≤ 9223372036854775807 ∧ ∀ (i : Nat) z, Z[i]? = some z → ∃ b o, a = some ⟨b, o, none⟩ ∧ w.cell? ⟨b, o + i, none⟩ = some (.int .i64 z)

end Go.Proofs.Ytjjlbancofkinaa
