/-
  Records as a value; told (of law 11): all that an iterator hands over, in a row.
-/
import Derived.Test.YtjjlbancofkinaaPlogH
namespace Go.Proofs.Ytjjlbancofkinaa
open Go.RowKit
attribute [local go_sem] Oper.semAt_some

theorem Feeds.grow {α : Type} {n : Nat} {P : Program} {g : Nat} {lb : Array Value} {encs : α → Array Value} {Px : Nat → α → World → Prop} {n₀ kb N : Nat} {w w' : World} (h : Feeds n P g lb encs Px n₀ kb N w) (hb : Below w.heap.size w w') : Feeds n P g lb encs Px n₀ kb N w' :=
  fun l J Jx W hW => h l J Jx W (below_step hb hW)

/-- The value that Records returns. -/
def recordsV (b : Nat) : Value := .func (.func 47) #[] #[.pointer (some ⟨b + 1, 0, none⟩), .pointer (some ⟨b, 0, none⟩)]

theorem records_any (w : World) (pa : Option Addr) (from_ : Int) :
    Calls Try.prog 19 #[.pointer pa, .int .i64 from_] w fun e w' => e = .returned (recordsV w.heap.size) ∧ w' = (w.alloc (.cells #[.pointer pa] 24)).alloc (.cells #[.int .i64 from_] 3) := by
  go_enter Try.func19, Try.ntmps19
  go_wp2_with fail
  go_ret
  exact ⟨rfl, rfl⟩

set_option maxRecDepth 100000 in
set_option maxHeartbeats 800000 in
/-- Of nothing nothing is handed over. -/
theorem records1_nil (n : Nat) (hn : 2 ≤ n) (w : World) (b2 b3 : Nat) (from_ : Int) (c2 : w.cell? ⟨b2, 0, none⟩ = some (.pointer none)) (c3 : w.cell? ⟨b3, 0, none⟩ = some (.int .i64 from_)) (Px : Nat → Handed → World → Prop) (n₀ kb : Nat) :
    Feeds n Try.prog 47 #[.pointer (some ⟨b3, 0, none⟩), .pointer (some ⟨b2, 0, none⟩)] Handed.enc Px n₀ kb 0 w := by
  intro l J Jx W hW hJ hJx hY h0
  have c3' := cell_below c3 hW
  have c2' := cell_below c2 hW
  clear c3 c2 hW hY
  have hm : ∃ m : Nat, max from_ 0 = m := ⟨(max from_ 0).toNat, by omega⟩
  obtain ⟨m, hm⟩ := hm
  refine callsIn_of_wp Try.func47 rfl trivial ?_ rfl
  simp only [Try.ntmps47, List.size_toArray, List.length_cons, List.length_nil, Nat.reduceAdd, Nat.reduceSub, Array.replicate_succ, Array.replicate_zero, List.push_toArray, List.append_toArray, List.nil_append, List.cons_append]
  gi_wp2
  clear c3' hm
  gi_loopw [4] (fun iv wr => iv = .int .i64 (m : Int) ∧ wr = W) (fun _ _ => 0)
  case atStart => exact ⟨rfl, rfl⟩
  case round =>
    obtain ⟨rfl, rfl⟩ := hrel
    have hlen := len_nil wr
    gi_wp2
    refine ⟨trivial, fun _ => by omega, (callsIn_wide.2 hlen).mono ?_⟩
    clear hlen
    rintro e w1 ⟨rfl, hb1⟩
    have hm0 : ¬ (m : Int) < 0 := by omega
    gi_wp2
    go_end0
    exact ⟨⟨_, rfl⟩, .inl ⟨[], rfl, hJ _ _ _ h0 hb1⟩⟩

/-- A row of records, all of it beyond B. -/
def RecsFrom (B : Nat) (w : World) (v : Value) (R : List PL.Rec) : Prop :=
  ∃ a c, v = .slice a R.length c ∧ R.length ≤ c ∧ c ≤ 9223372036854775807 ∧ (∀ b, v.ownBlock = some b → B ≤ b) ∧
    ∀ i r, R[i]? = some r → ∃ b o val, a = some ⟨b, o, none⟩ ∧ B ≤ b ∧ RecAt w b (o + i * 5) r val ∧ BytesAt w val r.v ∧ ∀ d, Value.blk val = some d → B ≤ d

theorem BytesAt.cells {w : World} {v : Value} {bs : List UInt8} (h : BytesAt w v bs) {b : Nat} (hb : Value.blk v = some b) : ∃ o : Obj, w.heap[b]? = some o ∧ o.isCells = true := by
  obtain ⟨p, c, rfl, h1, h2, h3⟩ := h
  cases p with
  | none => simp [Value.blk] at hb
  | some a =>
    cases hl : bs.length with
    | zero => rw [hl] at hb; simp [Value.blk] at hb
    | succ k =>
      rw [hl] at hb
      obtain ⟨b', o, e, hc⟩ := h3 (by omega)
      cases e
      simp [Value.blk] at hb
      subst hb
      exact cells_of_cell (hc 0 (by omega))

theorem BytesAt.kept {w w' : World} {row : Option Nat} {v : Value} {bs : List UInt8} (h : BytesAt w v bs) (hg : w.grownBy w' row) (hr : ∀ r, row = some r → ∃ o : Obj, w.heap[r]? = some o ∧ o.isCells = false) : BytesAt w' v bs :=
  h.same fun b hb => by obtain ⟨o, ho, hc⟩ := h.cells hb; exact grownBy_keeps_cells hg hr ho hc

theorem IsBytes.kept {w w' : World} {row : Option Nat} {v : Value} (h : IsBytes w v) (hg : w.grownBy w' row) (hr : ∀ r, row = some r → ∃ o : Obj, w.heap[r]? = some o ∧ o.isCells = false) : IsBytes w' v :=
  h.same fun b hb => by obtain ⟨cs, fr, ho⟩ := h b hb; exact grownBy_keeps_cells hg hr ho rfl
theorem Handed.ok.kept {s : PL.St} {m n₀ k : Nat} {x : Handed} {w w' : World} {row : Option Nat} (h : Handed.ok s m n₀ k x w) (hg : w.grownBy w' row) (hr : ∀ r, row = some r → ∃ o : Obj, w.heap[r]? = some o ∧ o.isCells = false) : Handed.ok s m n₀ k x w' :=
  ⟨h.1, h.2.1, h.2.2.1.kept hg hr, h.2.2.2.1, h.2.2.2.2.kept hg hr⟩
theorem Handed.ok.same {s : PL.St} {m n₀ k : Nat} {x : Handed} {w w' : World} (h : Handed.ok s m n₀ k x w) (hb : ∀ b, Value.blk x.2.2 = some b → w'.heap[b]? = w.heap[b]?) : Handed.ok s m n₀ k x w' :=
  ⟨h.1, h.2.1, h.2.2.1.same hb, h.2.2.2.1, h.2.2.2.2.same hb⟩
/-- A block of bytes is no block of another type. -/
theorem IsBytes.ne {w : World} {v : Value} (h : IsBytes w v) {b : Nat} (hb : Value.blk v = some b) {k : Nat} {cs : Array Value} {t : TypeId} {fr : Nat × Nat} (hk : w.heap[k]? = some (.cells cs t fr)) (ht : t ≠ 5) : b ≠ k := fun e => by
  subst e
  obtain ⟨cs', fr', h'⟩ := h b hb
  rw [h'] at hk
  cases hk
  exact ht rfl

end Go.Proofs.Ytjjlbancofkinaa
