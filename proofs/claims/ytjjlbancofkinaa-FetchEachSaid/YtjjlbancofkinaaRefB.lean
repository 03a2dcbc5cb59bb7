/-
  The reference's log: next, other, Stable, Kind.
-/
import Derived.Test.YtjjlbancofkinaaRefA
namespace Go.Proofs.Ytjjlbancofkinaa
open Go.RowKit

theorem any_drop {α : Type} (f : α → Bool) (l : List α) (k : Nat) (h : k < l.length) : (l.drop k).any f = (f l[k] || (l.drop (k + 1)).any f) := by
  rw [List.drop_eq_getElem_cons h, List.any_cons]
theorem nextOf_drop (p e : Int) (l : List PL.Rec) (k : Nat) (h : k < l.length) (n : Int) : PL.nextOf p e (l.drop k) n = PL.nextOf p e (l.drop (k + 1)) (if PL.isPE p e l[k] then l[k].q + 1 else n) := by
  rw [List.drop_eq_getElem_cons h, PL.nextOf]
theorem lastOf_drop (p e q : Int) (l : List PL.Rec) (k : Nat) (h : k < l.length) (a : Int) : PL.lastOf p e q (l.drop k) k a = PL.lastOf p e q (l.drop (k + 1)) (k + 1 : Nat) (if PL.isSeq p e q l[k] then (k : Int) else a) := by
  rw [List.drop_eq_getElem_cons h, PL.lastOf]; rfl

set_option maxHeartbeats 400000 in
theorem other11_any (w : World) (q : Nat) (s : PL.St) (M V : Nat → Prop) (h : XRep w q s M V) (a e t : Int) :
    Calls Try.prog 66 #[.pointer (some ⟨q, 0, none⟩), .int .i64 a, .int .i64 e, .int .i64 t] w (Still (.bool (s.S.any (PL.otherS a e t))) w) := by
  obtain ⟨vr, vs, c0, c1, ce, fz, hR, hS⟩ := h.opened
  obtain ⟨ps, cs, rfl, hs1, hs2, hs3⟩ := hS
  have hst : s.S.any (PL.otherS a e t) = (s.S.drop 0).any (PL.otherS a e t) := rfl
  generalize hSS : s.S = S at *
  have hfin : ∀ k, S.length ≤ k → (S.drop k).any (PL.otherS a e t) = false := fun k hk => by rw [List.drop_eq_nil_of_le hk]; rfl
  generalize S.any (PL.otherS a e t) = i0 at *
  clear c0 ce fz hR h hSS s
  have Hst := Lib.hid hst
  clear hst
  go_enter Try.func66, Try.ntmps66
  go_wp2_with fail
  go_loop [9] (fun i => ∃ k : Nat, k ≤ S.length ∧ i = .int .i64 k ∧ i0 = (S.drop k).any (PL.otherS a e t)) (fun i => S.length - (intOf i).toNat)
  case atStart => exact ⟨0, Nat.zero_le _, rfl, Hst.out⟩
  case round =>
    obtain ⟨k, hk, rfl, hidx⟩ := hrel
    by_cases hlt : k < S.length
    · obtain ⟨b, o, rfl, hat⟩ := hs3 k _ (List.getElem?_eq_getElem hlt)
      obtain ⟨d0, d1, d2, d3, d4⟩ := hat
      rw [any_drop _ S k hlt] at hidx
      generalize S[k] = x at *
      clear hs3 hfin
      have Hx := Lib.hid hidx
      clear hidx
      by_cases h1 : x.p = a
      · by_cases h2 : x.e = e
        · by_cases h3 : x.t = t
          · have Hr : RowKit.Hid (i0 = (S.drop (k + 1)).any (PL.otherS a e t)) := Lib.hid (by rw [Hx.out]; simp [PL.otherS, h3])
            subst h1 h2 h3
            go_wp2_with fail
            go_round
            case rel => exact ⟨k + 1, by omega, by go_num, Hr.out⟩
            case measure => simp [intOf]; omega
          · by_cases h4 : x.k = 0
            · have hf : PL.otherS a e t x = true := by simp [PL.otherS, h1, h2, h3, h4]
              have Hr : RowKit.Hid (i0 = true) := Lib.hid (by rw [Hx.out, hf]; rfl)
              subst h1 h2
              clear hf
              go_wp2_with fail
              go_ret
              exact Still.bool (by rw [Hr.out])
            · have Hr : RowKit.Hid (i0 = (S.drop (k + 1)).any (PL.otherS a e t)) := Lib.hid (by rw [Hx.out]; simp [PL.otherS, h4])
              subst h1 h2
              have h3' := bne_t h3
              have h4' : (x.k == 0) = false := by simpa using h4
              clear h3 h4
              go_wp2_with fail
              go_round
              case rel => exact ⟨k + 1, by omega, by go_num, Hr.out⟩
              case measure => simp [intOf]; omega
        · have Hr : RowKit.Hid (i0 = (S.drop (k + 1)).any (PL.otherS a e t)) := Lib.hid (by rw [Hx.out]; simp [PL.otherS, h2])
          subst h1
          go_wp2_with fail
          go_round
          case rel => exact ⟨k + 1, by omega, by go_num, Hr.out⟩
          case measure => simp [intOf]; omega
      · have Hr : RowKit.Hid (i0 = (S.drop (k + 1)).any (PL.otherS a e t)) := Lib.hid (by rw [Hx.out]; simp [PL.otherS, h1])
        go_wp2_with fail
        go_round
        case rel => exact ⟨k + 1, by omega, by go_num, Hr.out⟩
        case measure => simp [intOf]; omega
    · have Hx := Lib.hid (hidx.trans (hfin k (by omega)))
      clear hfin hidx hs3
      go_wp2_with fail
      go_ret
      exact Still.bool (by rw [Hx.out])

theorem still2 {a0 a1 b0 b1 : Int} {w : World} (h0 : a0 = b0) (h1 : a1 = b1) : Still (.tuple #[.int .i64 b0, .int .i64 b1]) w (.returned (.tuple #[.int .i64 a0, .int .i64 a1])) w := ⟨by rw [h0, h1], rfl⟩

set_option maxHeartbeats 400000 in
theorem next11_any (w : World) (q : Nat) (s : PL.St) (M V : Nat → Prop) (h : XRep w q s M V) (hq : ∀ r ∈ s.R, 0 ≤ r.q ∧ r.q ≤ 1048576) (a e t : Int) :
    Calls Try.prog 65 #[.pointer (some ⟨q, 0, none⟩), .int .i64 a, .int .i64 e, .int .i64 t] w (Still (.tuple #[.int .i64 (PL.nextOf a e s.R 0), .int .i64 (PL.lastOf a e t s.R 0 (-1))]) w) := by
  obtain ⟨vr, vs, c0, c1, ce, fz, hR, hS⟩ := h.opened
  obtain ⟨ps, cs, rfl, hs1, hs2, hs3⟩ := hR
  have hst1 : PL.nextOf a e s.R 0 = PL.nextOf a e (s.R.drop 0) 0 := rfl
  have hst2 : PL.lastOf a e t s.R 0 (-1) = PL.lastOf a e t (s.R.drop 0) (0 : Nat) (-1) := rfl
  generalize hSS : s.R = S at *
  have hfin1 : ∀ k n, S.length ≤ k → PL.nextOf a e (S.drop k) n = n := fun k n hk => by rw [List.drop_eq_nil_of_le hk]; rfl
  have hfin2 : ∀ k i n, S.length ≤ k → PL.lastOf a e t (S.drop k) i n = n := fun k i n hk => by rw [List.drop_eq_nil_of_le hk]; rfl
  generalize PL.nextOf a e S 0 = i0 at *
  generalize PL.lastOf a e t S 0 (-1) = i1 at *
  clear c1 ce fz hS h hSS s
  have Hst1 := Lib.hid hst1
  have Hst2 := Lib.hid hst2
  clear hst1 hst2
  go_enter Try.func65, Try.ntmps65
  go_wp2_with fail
  go_loop [10, 11, 12] (fun n at_ i => ∃ (k : Nat) (n0 a0 : Int), k ≤ S.length ∧ i = .int .i64 k ∧ n = .int .i64 n0 ∧ at_ = .int .i64 a0 ∧ i0 = PL.nextOf a e (S.drop k) n0 ∧ i1 = PL.lastOf a e t (S.drop k) k a0) (fun _ _ i => S.length - (intOf i).toNat)
  case atStart => exact ⟨0, 0, -1, Nat.zero_le _, rfl, rfl, rfl, Hst1.out, Hst2.out⟩
  case round =>
    obtain ⟨k, n0, a0, hk, rfl, rfl, rfl, hx1, hx2⟩ := hrel
    by_cases hlt : k < S.length
    · obtain ⟨b, o, u, rfl, hat, -⟩ := hs3 k _ (List.getElem?_eq_getElem hlt)
      obtain ⟨d0, d1, d2, d3, d4⟩ := hat
      rw [nextOf_drop a e S k hlt] at hx1
      rw [lastOf_drop a e t S k hlt] at hx2
      have hq1 := (hq _ (List.getElem_mem hlt)).1
      have hq2 := (hq _ (List.getElem_mem hlt)).2
      generalize S[k] = x at *
      clear hs3 hfin1 hfin2 hq
      have Hx1 := Lib.hid hx1
      have Hx2 := Lib.hid hx2
      clear hx1 hx2
      by_cases h1 : x.p = a
      · by_cases h2 : x.e = e
        · by_cases h3 : x.q = t
          · have Hr1 : RowKit.Hid (i0 = PL.nextOf a e (S.drop (k + 1)) (x.q + 1)) := Lib.hid (by rw [Hx1.out, if_pos (by simp [PL.isPE, h1, h2])])
            have Hr2 : RowKit.Hid (i1 = PL.lastOf a e t (S.drop (k + 1)) (k + 1 : Nat) k) := Lib.hid (by rw [Hx2.out, if_pos (by simp [PL.isSeq, h1, h2, h3])])
            subst h1 h2 h3
            go_wp2_with fail
            go_round
            case rel => exact ⟨k + 1, _, _, by omega, by go_num, rfl, rfl, Hr1.out, Hr2.out⟩
            case measure => simp [intOf]; omega
          · have Hr1 : RowKit.Hid (i0 = PL.nextOf a e (S.drop (k + 1)) (x.q + 1)) := Lib.hid (by rw [Hx1.out, if_pos (by simp [PL.isPE, h1, h2])])
            have Hr2 : RowKit.Hid (i1 = PL.lastOf a e t (S.drop (k + 1)) (k + 1 : Nat) a0) := Lib.hid (by rw [Hx2.out, if_neg (by simp [PL.isSeq, h3])])
            subst h1 h2
            go_wp2_with fail
            go_round
            case rel => exact ⟨k + 1, _, _, by omega, by go_num, rfl, rfl, Hr1.out, Hr2.out⟩
            case measure => simp [intOf]; omega
        · have Hr1 : RowKit.Hid (i0 = PL.nextOf a e (S.drop (k + 1)) n0) := Lib.hid (by rw [Hx1.out, if_neg (by simp [PL.isPE, h2])])
          have Hr2 : RowKit.Hid (i1 = PL.lastOf a e t (S.drop (k + 1)) (k + 1 : Nat) a0) := Lib.hid (by rw [Hx2.out, if_neg (by simp [PL.isSeq, h2])])
          subst h1
          go_wp2_with fail
          go_round
          case rel => exact ⟨k + 1, _, _, by omega, by go_num, rfl, rfl, Hr1.out, Hr2.out⟩
          case measure => simp [intOf]; omega
      · have Hr1 : RowKit.Hid (i0 = PL.nextOf a e (S.drop (k + 1)) n0) := Lib.hid (by rw [Hx1.out, if_neg (by simp [PL.isPE, h1])])
        have Hr2 : RowKit.Hid (i1 = PL.lastOf a e t (S.drop (k + 1)) (k + 1 : Nat) a0) := Lib.hid (by rw [Hx2.out, if_neg (by simp [PL.isSeq, h1])])
        go_wp2_with fail
        go_round
        case rel => exact ⟨k + 1, _, _, by omega, by go_num, rfl, rfl, Hr1.out, Hr2.out⟩
        case measure => simp [intOf]; omega
    · have Hx1 := Lib.hid (hx1.trans (hfin1 k n0 (by omega)))
      have Hx2 := Lib.hid (hx2.trans (hfin2 k k a0 (by omega)))
      clear hfin1 hfin2 hx1 hx2 hs3 hq
      go_wp2_with fail
      go_ret2
      exact still2 (by rw [Hx1.out]) (by rw [Hx2.out])

set_option maxHeartbeats 400000 in
theorem stable11_any (w : World) (q : Nat) (s : PL.St) (M V : Nat → Prop) (h : XRep w q s M V) :
    Calls Try.prog 37 #[.pointer (some ⟨q, 0, none⟩)] w (Still (.int .i64 s.stable) w) := by
  obtain ⟨vr, vs, c0, c1, ce, fz, hR, hS⟩ := h.opened
  obtain ⟨pr, cr, rfl, hr1, hr2, -⟩ := hR
  obtain ⟨ps, cs, rfl, hs1, hs2, hs3⟩ := hS
  have hst : s.stable = PL.stab (s.S.drop 0) s.R.length := rfl
  generalize hSS : s.S = S at *
  generalize s.R.length = N at *
  have hfin : ∀ k n, S.length ≤ k → PL.stab (S.drop k) n = n := fun k n hk => by rw [List.drop_eq_nil_of_le hk]; rfl
  generalize s.stable = i0 at *
  clear ce fz h hSS s
  have Hst := Lib.hid hst
  clear hst
  go_enter Try.func37, Try.ntmps37
  go_wp2_with fail
  go_loop [3, 4] (fun n i => ∃ (k : Nat) (n0 : Int), k ≤ S.length ∧ i = .int .i64 k ∧ n = .int .i64 n0 ∧ i0 = PL.stab (S.drop k) n0) (fun _ i => S.length - (intOf i).toNat)
  case atStart => exact ⟨0, _, Nat.zero_le _, rfl, rfl, Hst.out⟩
  case round =>
    obtain ⟨k, n0, hk, rfl, rfl, hidx⟩ := hrel
    by_cases hlt : k < S.length
    · obtain ⟨b, o, rfl, hat⟩ := hs3 k _ (List.getElem?_eq_getElem hlt)
      obtain ⟨d0, d1, d2, d3, d4⟩ := hat
      rw [stab_drop S k hlt] at hidx
      generalize S[k] = x at *
      clear hs3 hfin
      have Hx := Lib.hid hidx
      clear hidx
      by_cases h1 : x.k = 0
      · have Hr : RowKit.Hid (i0 = PL.stab (S.drop (k + 1)) (min n0 x.f)) := Lib.hid (by rw [Hx.out, if_pos h1])
        go_wp2_with fail
        go_round
        case rel => exact ⟨k + 1, _, by omega, by go_num, rfl, Hr.out⟩
        case measure => simp [intOf]; omega
      · have Hr : RowKit.Hid (i0 = PL.stab (S.drop (k + 1)) n0) := Lib.hid (by rw [Hx.out, if_neg h1])
        go_wp2_with fail
        go_round
        case rel => exact ⟨k + 1, _, by omega, by go_num, rfl, Hr.out⟩
        case measure => simp [intOf]; omega
    · have Hx := Lib.hid (hidx.trans (hfin k n0 (by omega)))
      clear hfin hidx hs3
      go_wp2_with fail
      go_ret
      exact Still.int (by rw [Hx.out])

end Go.Proofs.Ytjjlbancofkinaa
