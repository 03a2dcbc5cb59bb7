/-
  A script in memory; long.
-/
import Derived.Test.YtjjlbancofkinaaAlike
namespace Go.Proofs.Ytjjlbancofkinaa
open Go.RowKit

def ActAt (w : World) (b o : Nat) (x : PL.Act) (u : Value) : Prop :=
  w.cell? ⟨b, o, none⟩ = some (.int .i64 x.k) ∧ w.cell? ⟨b, o + 1, none⟩ = some (.int .i64 x.r.p) ∧ w.cell? ⟨b, o + 2, none⟩ = some (.int .i64 x.r.e) ∧ w.cell? ⟨b, o + 3, none⟩ = some (.int .i64 x.r.t) ∧
  w.cell? ⟨b, o + 4, none⟩ = some (.int .i64 x.r.q) ∧ w.cell? ⟨b, o + 5, none⟩ = some u ∧ w.cell? ⟨b, o + 6, none⟩ = some (.bool x.c)
theorem ActAt.below {w w' : World} {b o : Nat} {x : PL.Act} {u : Value} (h : ActAt w b o x u) (hb : Below w.heap.size w w') : ActAt w' b o x u := by
  obtain ⟨h1, h2, h3, h4, h5, h6, h7⟩ := h
  exact ⟨cell_below h1 hb, cell_below h2 hb, cell_below h3 hb, cell_below h4 hb, cell_below h5 hb, cell_below h6 hb, cell_below h7 hb⟩

/-- A script. -/
def ActsAt (w : World) (v : Value) (L : List PL.Act) : Prop :=
  ∃ a c, v = .slice a L.length c ∧ L.length ≤ c ∧ c ≤ 9223372036854775807 ∧ ∀ (i : Nat) x, L[i]? = some x → ∃ b o u, a = some ⟨b, o, none⟩ ∧ ActAt w b (o + i * 7) x u ∧ BytesAt w u x.r.v

/-- It returns a truth value, and nothing has turned. -/
def SomeB (w : World) (e : Ending) (w' : World) : Prop := ∃ b, e = .returned (.bool b) ∧ w = w'

set_option maxHeartbeats 800000 in
theorem long11_any (w : World) (v : Value) (L : List PL.Act) (h : ActsAt w v L) : Calls Try.prog 14 #[v] w (SomeB w) := by
  obtain ⟨a, c, rfl, h1, h2, h3⟩ := h
  go_enter Try.func14, Try.ntmps14
  go_wp2_with fail
  go_loop [3, 4] (fun n i => ∃ (k : Nat) (n0 : Int), k ≤ L.length ∧ k ≤ 80 ∧ i = .int .i64 k ∧ n = .int .i64 n0) (fun _ i => 80 - (intOf i).toNat)
  case atStart => exact ⟨0, 0, Nat.zero_le _, Nat.zero_le _, rfl, rfl⟩
  case round =>
    obtain ⟨k, n0, hk, hk8, rfl, rfl⟩ := hrel
    by_cases hlt : k < L.length
    · by_cases hlt8 : k < 80
      · obtain ⟨b, o, u, rfl, hat, hu⟩ := h3 k _ (List.getElem?_eq_getElem hlt)
        obtain ⟨d0, d1, d2, d3, d4, d5, d6⟩ := hat
        generalize L[k] = x at *
        obtain ⟨pu, cu, rfl, -, -, -⟩ := hu
        clear h3
        go_wp2_with fail
        · go_ret
          exact ⟨_, rfl, rfl⟩
        · go_round
          case rel => exact ⟨k + 1, _, by omega, by omega, by go_num, rfl⟩
          case measure => simp [intOf]; omega
      · obtain rfl : k = 80 := by omega
        clear h3
        go_wp2_with fail
        go_ret
        exact ⟨_, rfl, rfl⟩
    · clear h3
      go_wp2_with fail
      go_ret
      exact ⟨_, rfl, rfl⟩

end Go.Proofs.Ytjjlbancofkinaa
