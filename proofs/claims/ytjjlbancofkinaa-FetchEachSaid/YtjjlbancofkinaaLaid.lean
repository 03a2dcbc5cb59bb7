/-
  laid (of law 12): a log behind a script, in both; long.
-/
import Derived.Test.YtjjlbancofkinaaActs
import Derived.Test.YtjjlbancofkinaaPlaysW
namespace Go.Proofs.Ytjjlbancofkinaa
open Go.RowKit

set_option maxHeartbeats 800000 in
theorem long12_any (w : World) (v : Value) (L : List PL.Act) (h : ActsAt w v L) : Calls Try.prog 30 #[v] w (SomeB w) := by
  obtain ⟨a, c, rfl, h1, h2, h3⟩ := h
  go_enter Try.func30, Try.ntmps30
  go_wp2_with fail
  go_loop [3, 4] (fun n i => ∃ (k : Nat) (n0 : Int), k ≤ L.length ∧ k ≤ 80 ∧ i = .int .i64 k ∧ n = .int .i64 n0) (fun _ i => 80 - (intOf i).toNat)
  case atStart => exact ⟨0, 0, Nat.zero_le _, Nat.zero_le _, rfl, rfl⟩
  case round =>
    obtain ⟨k, n0, hk, hk8, rfl, rfl⟩ := hrel
    by_cases hlt : k < L.length
    · by_cases hlt8 : k < 80
      · obtain ⟨b, o, u, rfl, hat, hu⟩ := h3 k _ (List.getElem?_eq_getElem hlt)
        obtain ⟨d0, d1, d2, d3, d4, d5, d6⟩ := hat
        generalize L[k] = x at *
        obtain ⟨pu, cu, rfl, -, -, -⟩ := hu
        clear h3
        go_wp2_with fail
        · go_ret
          exact ⟨_, rfl, rfl⟩
        · go_round
          case rel => exact ⟨k + 1, _, by omega, by omega, by go_num, rfl⟩
          case measure => simp [intOf]; omega
      · obtain rfl : k = 80 := by omega
        clear h3
        go_wp2_with fail
        go_ret
        exact ⟨_, rfl, rfl⟩
    · clear h3
      go_wp2_with fail
      go_ret
      exact ⟨_, rfl, rfl⟩

/-- Both logs, behind a script. -/
def LaidV (w : World) (s : PL.St) (e : Ending) (w' : World) : Prop := ∃ p q, e = .returned (.tuple #[.pointer (some ⟨p, 0, none⟩), .pointer (some ⟨q, 0, none⟩)]) ∧ Twin w (fun _ => False) w' p q s s

theorem plays_end (L : List PL.Act) (k : Nat) (hk : k ≤ L.length) (h : ¬ (k < L.length ∧ k < 80)) (h8 : k ≤ 80) : L.take k = L.take 80 := by
  by_cases h1 : k = 80
  · rw [h1]
  · rw [List.take_of_length_le (by omega), List.take_of_length_le (by omega)]

set_option maxRecDepth 100000 in
set_option maxHeartbeats 3200000 in
theorem laid_any (w : World) (v : Value) (L : List PL.Act) (h : ActsAt w v L) : Calls Try.prog 31 #[v] w (LaidV w (PL.St.new.plays (L.take 80))) := by
  obtain ⟨a, c, rfl, hL1, hL2, hL3⟩ := h
  have HL := Lib.hid hL3
  have hend := plays_end L
  generalize hfs : PL.St.new.plays (L.take 80) = fs
  have Hfs := Lib.hid hfs
  have Hend := Lib.hid hend
  clear hL3 hfs hend
  go_enter Try.func31, Try.ntmps31
  go_wp2_with fail
  refine (new_any _).mono ?_
  rintro x w1 hN1
  have hr1 : ∃ p, x = .returned (.pointer (some ⟨p, 0, none⟩)) := ⟨_, hN1.choose_spec.1⟩
  obtain ⟨p, rfl⟩ := hr1
  go_wp2_with fail
  refine (new11_any _).mono ?_
  rintro x w2 hN2
  obtain ⟨p', q, e1, rfl, hT⟩ := twin_new hN1 hN2
  cases e1
  clear hN1 hN2
  go_wp2_with fail
  go_loopw [6] (fun i wr => ∃ k : Nat, k ≤ L.length ∧ k ≤ 80 ∧ i = .int .i64 k ∧ Twin w (fun _ => False) wr p q (PL.St.new.plays (L.take k)) (PL.St.new.plays (L.take k))) (fun i _ => 80 - (intOf i).toNat)
  case atStart => exact ⟨0, Nat.zero_le _, Nat.zero_le _, rfl, hT⟩
  case round =>
    obtain ⟨k, hk, hk8, rfl, hTw⟩ := hrel
    have hS80 := plays_S L k hk8
    have hO : PL.Ok (PL.St.new.plays (L.take k)) := PL.Ok.new.plays _
    clear hT
    by_cases hlt : k < L.length
    · by_cases hlt8 : k < 80
      · obtain ⟨b, o, u, rfl, hat, hu⟩ := HL.out k _ (List.getElem?_eq_getElem hlt)
        have Hat := Lib.hid hat
        have hu0 := hu
        obtain ⟨d0, d1, d2, d3, d4, d5, d6⟩ := hat.below hTw.below
        have hblt := lt_of_cell d0
        have hst := plays_take (List.getElem?_eq_getElem hlt)
        generalize L[k] = x at *
        generalize PL.St.new.plays (L.take k) = s at *
        obtain ⟨ak, ⟨xp, xe, xt, xq, xv⟩, ac⟩ := x
        unfold PL.St.step at hst
        dsimp only at *
        have hlr := fun K (t : PL.St) W (h : Twin w K W p q s t) => learn_twin h xp xe
        have hlx := fun K (s' : PL.St) W (h : Twin w K W p q s' s) => learnX_twin h xp xe
        have har := fun K (t : PL.St) W (h : Twin w K W p q s t) => append_twin h hS80.1 hO ⟨xp, xe, xt, xq, xv⟩ u hu0
        have hax := fun K (s' : PL.St) W (h : Twin w K W p q s' s) => appendX_twin h hS80.1 hO ⟨xp, xe, xt, xq, xv⟩ u hu0
        have her := fun K (t : PL.St) W (h : Twin w K W p q s t) => ends_twin h hS80.1 xp xe xt ac
        have hex := fun K (s' : PL.St) W (h : Twin w K W p q s' s) => endsX_twin h hS80.1 xp xe xt ac
        obtain ⟨pu, cu, rfl, hu1, hu2, -⟩ := hu
        unfold recV at har hax
        dsimp only at har hax
        have hr := recAt_new wr 32 ⟨xp, xe, xt, xq, xv⟩ (.slice pu xv.length cu)
        have hTa := hTw.step (below_alloc (below_refl wr) (.cells #[.int .i64 xp, .int .i64 xe, .int .i64 xt, .int .i64 xq, .slice pu xv.length cu] 32)) (fun b => b = wr.heap.size) (fun b hb => .inr (by simp; omega))
        have HR := Lib.hid hr
        have HT := Lib.hid hTa
        clear hO hS80 hTw hr hTa hu0 hat
        by_cases h1 : ak = 1
        · rw [if_pos h1] at hst
          generalize s.learn xp xe = sl at *
          have Hst := Lib.hid hst
          subst h1
          clear hst har hax her hex
          go_wp2_with fail
          refine (hlr _ _ _ HT.out).mono ?_
          rintro y w3 ⟨rfl, hT3, hK3⟩
          obtain ⟨e0, e1, e2, e3, e4⟩ := HR.out.same (hK3 _ rfl)
          clear hlr hK3 d0 d1 d2 d3 d4 d5 d6
          go_wp2_with fail
          refine (hlx _ _ _ hT3).mono ?_
          rintro y w4 ⟨rfl, hT4, hK4⟩
          have HT4 := Lib.hid hT4
          clear hlx hK4 hT3 hT4 e0 e1 e2 e3 e4
          go_wp2_with fail
          go_roundw
          case rel => exact ⟨k + 1, by omega, by omega, by go_num, by rw [Hst.out]; exact HT4.out.step (below_refl _) _ (fun _ h => h.elim)⟩
          case measure => first | (simp [intOf]; done) | (simp [intOf]; omega)
        by_cases h2 : ak = 2
        · rw [if_neg h1, if_pos h2] at hst
          generalize s.append ⟨xp, xe, xt, xq, xv⟩ = sl at *
          have Hst := Lib.hid hst
          subst h2
          clear hst hlr hlx her hex h1
          go_wp2_with fail
          refine (har _ _ _ HT.out).mono ?_
          rintro y w3 ⟨rfl, hT3, hK3⟩
          obtain ⟨e0, e1, e2, e3, e4⟩ := HR.out.same (hK3 _ rfl)
          clear har hK3 d0 d1 d2 d3 d4 d5 d6
          go_wp2_with fail
          refine (hax _ _ _ hT3).mono ?_
          rintro y w4 ⟨rfl, hT4, hK4⟩
          have HT4 := Lib.hid hT4
          clear hax hK4 hT3 hT4 e0 e1 e2 e3 e4
          go_wp2_with fail
          go_roundw
          case rel => exact ⟨k + 1, by omega, by omega, by go_num, by rw [Hst.out]; exact HT4.out.step (below_refl _) _ (fun _ h => h.elim)⟩
          case measure => first | (simp [intOf]; done) | (simp [intOf]; omega)
        · rw [if_neg h1, if_neg h2] at hst
          generalize s.ends xp xe xt ac = sl at *
          have Hst := Lib.hid hst
          clear hst hlr hlx har hax
          go_wp2_with fail
          generalize (wr.alloc (.cells #[.int .i64 xp, .int .i64 xe, .int .i64 xt, .int .i64 xq, .slice pu xv.length cu] 32)) = W0 at *
          refine wp_region_still_tail 12 (by kernel_rfl) (by kernel_rfl) ?_
          simp only [List.take_succ_cons, List.take_zero, List.drop_succ_cons, List.drop_zero]
          change wpStill _ _ W0.drew (fun a' => wpList _ _ _ _ a' W0.drew) _ _
          replace HT := Lib.hid (HT.out.step (below_drew (below_refl W0)) (fun b => b = wr.heap.size) (fun b hb => .inl hb))
          replace HR : RowKit.Hid (RecAt W0.drew wr.heap.size 0 ⟨xp, xe, xt, xq, xv⟩ (.slice pu xv.length cu)) := Lib.hid HR.out
          generalize W0.drew = W at *
          clear d0 d1 d2 d3 d4 d5 d6
          obtain ⟨-, -, -, -, -, -, d6⟩ := Hat.out.below HT.out.below
          obtain ⟨e0, e1, e2, e3, e4⟩ := HR.out
          dsimp only at d6
          repeat still_step
          refine wpStill_nil ?_
          go_wp2_with fail
          refine (her _ _ _ HT.out).mono ?_
          rintro y w3 ⟨rfl, hT3, hK3⟩
          have hR3 := HR.out.same (hK3 _ rfl)
          clear her hK3 e0 e1 e2 e3 e4 d6
          go_wp2_with fail
          refine wp_region_still_tail 12 (by kernel_rfl) (by kernel_rfl) ?_
          simp only [List.take_succ_cons, List.take_zero, List.drop_succ_cons, List.drop_zero]
          change wpStill _ _ w3.drew (fun a' => wpList _ _ _ _ a' w3.drew) _ _
          have hT5 := hT3.step (below_drew (below_refl w3)) (fun b => b = wr.heap.size) (fun b hb => .inl hb)
          have hR5 : RecAt w3.drew wr.heap.size 0 ⟨xp, xe, xt, xq, xv⟩ (.slice pu xv.length cu) := hR3
          clear hT3 hR3
          generalize w3.drew = W5 at *
          obtain ⟨-, -, -, -, -, -, d6⟩ := Hat.out.below hT5.below
          obtain ⟨e0, e1, e2, e3, e4⟩ := hR5
          dsimp only at d6
          have HT5 := Lib.hid hT5
          clear hT5
          repeat still_step
          refine wpStill_nil ?_
          go_wp2_with fail
          refine (hex _ _ _ HT5.out).mono ?_
          rintro y w4 ⟨rfl, hT4, hK4⟩
          have HT4 := Lib.hid hT4
          clear hex hK4 hT4 e0 e1 e2 e3 e4 d6
          go_wp2_with fail
          go_roundw
          case rel => exact ⟨k + 1, by omega, by omega, by go_num, by rw [Hst.out]; exact HT4.out.step (below_refl _) _ (fun _ h => h.elim)⟩
          case measure => first | (simp [intOf]; done) | (simp [intOf]; omega)
      · have hE := Hend.out k hk (fun h => hlt8 h.2) hk8
        obtain rfl : k = 80 := by omega
        have HT := Lib.hid hTw
        clear hTw hO hS80 hE
        go_wp2_with fail
        go_ret2
        exact ⟨p, q, rfl, by rw [← Hfs.out]; exact HT.out⟩
    · have hE := Hend.out k hk (fun h => hlt h.1) hk8
      have HT := Lib.hid hTw
      have HE := Lib.hid hE
      clear hTw hO hS80 hE
      go_wp2_with fail
      go_ret2
      exact ⟨p, q, rfl, by rw [← Hfs.out, ← HE.out]; exact HT.out⟩

end Go.Proofs.Ytjjlbancofkinaa
