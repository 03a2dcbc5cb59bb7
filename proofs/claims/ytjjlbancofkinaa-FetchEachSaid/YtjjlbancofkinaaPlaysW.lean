/-
  PlogPlays: the walk.
-/
import Derived.Test.YtjjlbancofkinaaActs
namespace Go.Proofs.Ytjjlbancofkinaa
open Go.RowKit

theorem twin_new {w w1 w2 : World} {r1 r2 : Ending} (h1 : IsNew w r1 w1) (h2 : IsNewX w1 r2 w2) : ∃ p q, r1 = .returned (.pointer (some ⟨p, 0, none⟩)) ∧ r2 = .returned (.pointer (some ⟨q, 0, none⟩)) ∧ Twin w (fun _ => False) w2 p q PL.St.new PL.St.new := by
  obtain ⟨p, e1, hP, hp, hB⟩ := h1
  obtain ⟨q, e2, hX, hq, hB2⟩ := h2
  have hz := hB.size
  refine ⟨p, q, e1, e2, _, _, _, _, ⟨hP.below hB2, hX, fun b hb => hb.1, fun b hb => by subst hb; omega, fun b hb hn => ?_, fun b hb hn => ?_, below_step hB hB2⟩, fun b hb => hb.elim⟩
  · have := hP.bound b (.inl hb)
    rcases hn with rfl | h
    · omega
    · exact h
  · subst hb
    have := hP.bound _ hn
    omega

theorem plays_take {L : List PL.Act} {k : Nat} {a : PL.Act} (h : L[k]? = some a) : PL.St.new.plays (L.take (k + 1)) = (PL.St.new.plays (L.take k)).step a := by
  obtain ⟨hk, rfl⟩ := List.getElem?_eq_some_iff.1 h
  rw [List.take_succ_eq_append_getElem hk, PL.plays_snoc]
theorem plays_S (L : List PL.Act) (k : Nat) (hk : k ≤ 80) : (PL.St.new.plays (L.take k)).S.length ≤ 1099511627776 ∧ (PL.St.new.plays (L.take k)).R.length ≤ 80 := by
  have := PL.plays_len (L.take k) PL.St.new
  have h2 : (L.take k).length ≤ k := List.length_take_le _ _
  simp [PL.St.new] at this ⊢
  omega

set_option maxRecDepth 100000 in
set_option maxHeartbeats 1600000 in
theorem plogPlays_walk (w : World) (v : Value) (L : List PL.Act) (h : ActsAt w v L) : Calls Try.prog 4 #[v] w (Ret (.bool true) w) := by
  have hlong := long11_any w v L h
  obtain ⟨a, c, rfl, hL1, hL2, hL3⟩ := h
  have HL := Lib.hid hL3
  clear hL3
  go_enter Try.func4, Try.ntmps4
  go_wp2_with fail
  refine hlong.mono ?_
  rintro x w1 ⟨b, rfl, rfl⟩
  clear hlong
  cases b
  case true =>
    go_wp2_with fail
    go_ret
    exact Ret.bool rfl (below_refl _)
  go_wp2_with fail
  refine (new_any _).mono ?_
  rintro x w1 hN1
  have hr1 : ∃ p, x = .returned (.pointer (some ⟨p, 0, none⟩)) := ⟨_, hN1.choose_spec.1⟩
  obtain ⟨p, rfl⟩ := hr1
  go_wp2_with fail
  refine (new11_any _).mono ?_
  rintro x w2 hN2
  obtain ⟨p', q, e1, rfl, hT⟩ := twin_new hN1 hN2
  cases e1
  clear hN1 hN2
  go_wp2_with fail
  go_loopw [5] (fun i wr => ∃ k : Nat, k ≤ L.length ∧ k ≤ 80 ∧ i = .int .i64 k ∧ Twin w (fun _ => False) wr p q (PL.St.new.plays (L.take k)) (PL.St.new.plays (L.take k))) (fun i _ => 80 - (intOf i).toNat)
  case atStart => exact ⟨0, Nat.zero_le _, Nat.zero_le _, rfl, hT⟩
  case round =>
    obtain ⟨k, hk, hk8, rfl, hTw⟩ := hrel
    by_cases hlt : k < L.length
    · by_cases hlt8 : k < 80
      · obtain ⟨b, o, u, rfl, hat, hu⟩ := HL.out k _ (List.getElem?_eq_getElem hlt)
        obtain ⟨d0, d1, d2, d3, d4, d5, d6⟩ := hat.below hTw.below
        have hst := Lib.hid (plays_take (List.getElem?_eq_getElem hlt))
        have hO : PL.Ok (PL.St.new.plays (L.take k)) := PL.Ok.new.plays _
        have hl := plays_S L k hk8
        have hl2 := plays_S L (k + 1) (by omega)
        have hO2 : PL.Ok (PL.St.new.plays (L.take (k + 1))) := PL.Ok.new.plays _
        generalize L[k] = x at *
        rw [hst.out] at hO2 hl2
        generalize PL.St.new.plays (L.take k) = s at *
        have hact := act_any w wr p q s hTw hO hl.1 x u hu
        obtain ⟨pu, cu, rfl, -, -, -⟩ := hu
        unfold actV at hact
        have HO2 := Lib.hid hO2
        have HS2 := Lib.hid hl2.1
        clear hO hO2 hl hl2 hat hTw hT
        go_wp2_with fail
        refine hact.mono ?_
        rintro y w3 ⟨z, rfl, hT3⟩
        have hT3' := hT3
        obtain ⟨M, V, N, U, hB3, -⟩ := hT3'
        have hal := alike_any w3 p q _ M V N U hB3.1 hB3.2.1 HO2.out HS2.out
        clear hact hB3 d0 d1 d2 d3 d4 d5 d6
        have HT3 := Lib.hid hT3
        clear hT3
        go_wp2_with fail
        refine hal.mono ?_
        rintro y w4 ⟨rfl, hb4⟩
        clear hal
        go_wp2_with fail
        go_roundw
        case rel => exact ⟨k + 1, by omega, by omega, by go_num, by rw [hst.out]; exact HT3.out.step hb4 _ (fun _ h => .inl h)⟩
        case measure => first | (simp [intOf]; done) | (simp [intOf]; omega)
      · obtain rfl : k = 80 := by omega
        have hB := hTw.below
        clear hTw hT
        go_wp2_with fail
        refine (known11_any _).mono ?_
        rintro x w5 ⟨rfl, hb5⟩
        go_wp2_with fail
        go_ret
        exact Ret.bool rfl (below_step hB hb5)
    · have hB := hTw.below
      clear hTw hT
      go_wp2_with fail
      refine (known11_any _).mono ?_
      rintro x w5 ⟨rfl, hb5⟩
      go_wp2_with fail
      go_ret
      exact Ret.bool rfl (below_step hB hb5)

end Go.Proofs.Ytjjlbancofkinaa
