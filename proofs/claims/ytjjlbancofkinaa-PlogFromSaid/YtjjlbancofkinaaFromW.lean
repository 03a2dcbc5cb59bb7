/-
  PlogFrom: the walk.
-/
import Derived.Test.YtjjlbancofkinaaLaid
import Derived.Deep.CutBlock
import Derived.Deep.DeepCutAuto
namespace Go.Proofs.Ytjjlbancofkinaa
open Go.RowKit

/-- A row's tail. -/
theorem recs_tail {w : World} {g n c j : Nat} {R : List PL.Rec} (h : RecsAt w (.slice (some ⟨g, 0, none⟩) n c) R) (hn : n = R.length) (hj : j ≤ n) : RecsAt w (.slice (some ⟨g, j * 5, none⟩) (n - j) (c - j)) (R.drop j) := by
  obtain ⟨a, c', e, h1, h2, h3⟩ := h
  cases e
  refine ⟨_, _, by rw [List.length_drop, ← hn], by rw [List.length_drop]; omega, by omega, fun i r hr => ?_⟩
  rw [List.getElem?_drop] at hr
  obtain ⟨b, o, val, e, k1, k2⟩ := h3 _ r hr
  cases e
  refine ⟨g, j * 5, val, rfl, ?_, k2⟩
  rw [show 0 + (j + i) * 5 = j * 5 + i * 5 by omega] at k1
  exact k1

set_option maxRecDepth 100000 in
set_option maxHeartbeats 3200000 in
theorem plogFrom_walk (w : World) (v : Value) (L : List PL.Act) (h : ActsAt w v L) (f : Int) (_ : (Lit.int .i64 f).wf = true) : Calls Try.prog 3 #[v, .int .i64 f] w (Ret (.bool true) w) := by
  have hlong := long11_any w v L h
  obtain ⟨a, c, rfl, hL1, hL2, hL3⟩ := h
  have HL := Lib.hid hL3
  clear hL3
  go_enter Try.func3, Try.ntmps3
  go_wp2_with fail
  refine hlong.mono ?_
  rintro x w1 ⟨b, rfl, rfl⟩
  clear hlong
  cases b
  case true =>
    go_wp2_with fail
    go_ret
    exact Ret.bool rfl (below_refl _)
  by_cases hf0 : f < 0
  · go_wp2_with fail
    go_ret
    exact Ret.bool rfl (below_refl _)
  by_cases hf1 : 200 < f
  · go_wp2_with fail
    go_ret
    exact Ret.bool rfl (below_refl _)
  obtain ⟨m, rfl⟩ : ∃ m : Nat, f = m := ⟨f.toNat, by omega⟩
  have hm : m ≤ 200 := by omega
  have hm0 : (0 : Int) ≤ m := by omega
  have hm1 : (m : Int) ≤ 200 := by omega
  clear hf0 hf1
  go_wp2_with fail
  refine (new_any _).mono ?_
  rintro x w1 hN1
  have hr1 : ∃ p, x = .returned (.pointer (some ⟨p, 0, none⟩)) := ⟨_, hN1.choose_spec.1⟩
  obtain ⟨p, rfl⟩ := hr1
  go_wp2_with fail
  refine (new11_any _).mono ?_
  rintro x w2 hN2
  obtain ⟨p', q, e1, rfl, hT⟩ := twin_new hN1 hN2
  cases e1
  clear hN1 hN2
  generalize hfs : PL.St.new.plays (L.take 80) = fs
  have Hfs := Lib.hid hfs
  clear hfs
  go_upto_block 0 with fail
  go_cut [7] (fun s7 wx => Twin w (fun _ => False) wx p q fs fs)
  case first =>
    go_wp2_with fail
    go_loopw [7] (fun i wr => ∃ k : Nat, k ≤ L.length ∧ k ≤ 80 ∧ i = .int .i64 k ∧ Twin w (fun _ => False) wr p q (PL.St.new.plays (L.take k)) (PL.St.new.plays (L.take k))) (fun i _ => 80 - (intOf i).toNat)
    case atStart => exact ⟨0, Nat.zero_le _, Nat.zero_le _, rfl, hT⟩
    case round =>
      obtain ⟨k, hk, hk8, rfl, hTw⟩ := hrel
      have hS80 := plays_S L k hk8
      have hO : PL.Ok (PL.St.new.plays (L.take k)) := PL.Ok.new.plays _
      clear hT
      by_cases hlt : k < L.length
      · by_cases hlt8 : k < 80
        · obtain ⟨b, o, u, rfl, hat, hu⟩ := HL.out k _ (List.getElem?_eq_getElem hlt)
          obtain ⟨d0, d1, d2, d3, d4, d5, d6⟩ := hat.below hTw.below
          have hst := Lib.hid (plays_take (List.getElem?_eq_getElem hlt))
          generalize L[k] = x at *
          generalize PL.St.new.plays (L.take k) = s at *
          have hact := act_any w wr p q s hTw hO hS80.1 x u hu
          obtain ⟨pu, cu, rfl, -, -, -⟩ := hu
          unfold actV at hact
          clear hO hS80 hat hTw
          go_wp2_with fail
          refine hact.mono ?_
          rintro y w3 ⟨z, rfl, hT3⟩
          have HT3 := Lib.hid hT3
          clear hT3 hact d0 d1 d2 d3 d4 d5 d6
          go_wp2_with fail
          go_roundw
          case rel => exact ⟨k + 1, by omega, by omega, by go_num, by rw [hst.out]; exact HT3.out⟩
          case measure => first | (simp [intOf]; done) | (simp [intOf]; omega)
        · have hE := plays_end L k hk (fun h => hlt8 h.2) hk8
          have HT := Lib.hid (by rw [hE, Hfs.out] at hTw; exact hTw : Twin w (fun _ => False) wr p q fs fs)
          obtain rfl : k = 80 := by omega
          clear hTw hO hS80 hE
          go_wp2_with fail
          go_meet
          exact HT.out
      · have hE := plays_end L k hk (fun h => hlt h.1) hk8
        have HT := Lib.hid (by rw [hE, Hfs.out] at hTw; exact hTw : Twin w (fun _ => False) wr p q fs fs)
        clear hTw hO hS80 hE
        go_wp2_with fail
        go_meet
        exact HT.out
  case rest =>
    have hS80 := plays_S L 80 (by omega)
    have hO : PL.Ok (PL.St.new.plays (L.take 80)) := PL.Ok.new.plays _
    rw [Hfs.out] at hS80 hO
    clear hT
    generalize fs = s at *
    have hTw := hcut
    clear hcut
    have hsR := hS80.2
    clear hS80
    have hB := hTw.below
    obtain ⟨M, V, N, U, hBo, -⟩ := hTw
    obtain ⟨hP, hX, -⟩ := hBo
    have hto := told_log wc p s M V hP hO m (by omega)
    obtain ⟨vr, Lr, x0, hown, hLm, -, -⟩ := hX.rec_put
    have hRx : RecsAt wc vr s.R := by
      obtain ⟨a1, a2, b0, b1, b2, b3, b4, b5⟩ := hX.opened
      rw [x0] at b0; cases b0
      exact b4
    have hLl : Lr.length = s.R.length := by rw [← hLm, List.length_map]
    rw [hLl] at hown
    obtain ⟨j, hj, hjm⟩ : ∃ j : Nat, j = min m s.R.length ∧ (min (m : Int) (s.R.length : Int)) = (j : Int) := ⟨_, rfl, by omega⟩
    have hdj : s.R.drop m = s.R.drop j := by
      rcases Nat.le_total m s.R.length with h | h
      · rw [hj, Nat.min_eq_left h]
      · rw [List.drop_eq_nil_of_le h, List.drop_eq_nil_of_le (by omega)]
    have hjn : j ≤ s.R.length := by omega
    have hjn' : (j : Int) ≤ s.R.length := by omega
    have hj0 : (0 : Int) ≤ j := by omega
    rw [hdj] at hto
    have hTl : (s.R.drop j).length = s.R.length - j := List.length_drop
    generalize hTd : s.R.drop j = T at *
    have HTl := Lib.hid hTl
    have HTd := Lib.hid hTd
    have Hjm := Lib.hid hjm
    clear hP hX hO hLm hLl hTl hTd hdj hj hjm
    go_wp2_with fail
    refine (records_any wc (some ⟨p, 0, none⟩) m).mono ?_
    rintro x w5 ⟨rfl, hw5⟩
    replace hto := hto w5 hw5
    have hB5 : Below wc.heap.size wc w5 := by subst hw5; exact below_alloc (below_alloc (below_refl wc) _) _
    clear hw5
    unfold recordsV at *
    go_wp2_with fail
    refine hto.mono ?_
    rintro x w6 ⟨v6, rfl, hR6, hb6⟩
    have hB6 := below_step hB5 hb6
    have hR7 := hR6.below (below_drew (below_refl w6))
    obtain ⟨p6, c6, rfl, -⟩ := hR6
    have hrec : ∀ v', RecsAt w6.drew v' T → Calls Try.prog 20 #[.slice p6 T.length c6, v'] w6.drew (Ret (.bool true) w6.drew) := fun v' hv' => by
      have := records11_any w6.drew T T _ v' hR7 hv'
      rwa [show decide (T = T) = true from decide_eq_true rfl] at this
    have hBf := below_drew (below_step hB hB6)
    have hB7 := below_drew hB6
    clear hto hB5 hb6 hR7 hB hB6
    have y0 := cell_below x0 hB7
    have hRx7 := hRx.below hB7
    go_wp2_with fail
    have hjm := Hjm.out
    rcases hown.2 with ⟨rfl, hn0⟩ | ⟨g, cp, cur, rfl, -, -, hnc, hcm, -⟩
    · have hj00 : j = 0 := by omega
      subst hj00
      have hr2 := hrec (.slice none 0 0) ⟨none, 0, by rw [HTl.out, hn0], by rw [HTl.out]; omega, by omega, fun i r h => by have := (List.getElem?_eq_some_iff.1 h).1; have := HTl.out; omega⟩
      have hmin0 : min (m : Int) 0 = 0 := by omega
      clear hrec hRx7 hRx hown x0 hjm
      go_region_held3 (fun w' => w'.cell? ⟨q, 0, none⟩ = some (.slice none 0 0)) (first | exact y0 | exact cell_below y0 (by assumption))
        (first
          | (go_at_call 20; refine hr2.mono ?_; rintro e w8 ⟨rfl, hb8⟩; have hB8 := below_step hBf hb8)
          | (go_at_call 21; refine (known11_any _).mono ?_; rintro e w9 ⟨rfl, hb9⟩; have hB9 := below_step hB8 hb9; have hb89 := below_step hb8 hb9))
      all_goals
        go_wp2_with fail
        go_ret
        exact Ret.bool rfl hB9
    · have hcm' : cp ≤ 9223372036854775807 := by unfold maxLen at hcm; omega
      have ht7 := recs_tail hRx7 rfl hjn
      rw [HTd.out] at ht7
      by_cases hcj : cp = j
      · obtain rfl : j = s.R.length := by omega
        subst hcj
        have hr2 := hrec (.slice (some ⟨g, 0, none⟩) 0 0) ⟨_, _, by rw [HTl.out, Nat.sub_self], by rw [HTl.out]; omega, by omega, fun i r h => by have := (List.getElem?_eq_some_iff.1 h).1; have := HTl.out; omega⟩
        clear ht7 hrec hRx7 hRx hown x0 hjn hjn' hj0
        go_region_held3 (fun w' => w'.cell? ⟨q, 0, none⟩ = some (.slice (some ⟨g, 0, none⟩) s.R.length s.R.length)) (first | exact y0 | exact cell_below y0 (by assumption))
          (first
            | (go_at_call 20; refine hr2.mono ?_; rintro e w8 ⟨rfl, hb8⟩; have hB8 := below_step hBf hb8)
            | (go_at_call 21; refine (known11_any _).mono ?_; rintro e w9 ⟨rfl, hb9⟩; have hB9 := below_step hB8 hb9; have hb89 := below_step hb8 hb9))
        all_goals
          go_wp2_with fail
          go_ret
          exact Ret.bool rfl hB9
      · have hr2 := hrec _ ht7
        clear ht7 hrec hRx7 hRx hown x0
        go_region_held3 (fun w' => w'.cell? ⟨q, 0, none⟩ = some (.slice (some ⟨g, 0, none⟩) s.R.length cp)) (first | exact y0 | exact cell_below y0 (by assumption))
          (first
            | (go_at_call 20; refine hr2.mono ?_; rintro e w8 ⟨rfl, hb8⟩; have hB8 := below_step hBf hb8)
            | (go_at_call 21; refine (known11_any _).mono ?_; rintro e w9 ⟨rfl, hb9⟩; have hB9 := below_step hB8 hb9; have hb89 := below_step hb8 hb9))
        all_goals
          go_wp2_with fail
          go_ret
          exact Ret.bool rfl hB9

end Go.Proofs.Ytjjlbancofkinaa
