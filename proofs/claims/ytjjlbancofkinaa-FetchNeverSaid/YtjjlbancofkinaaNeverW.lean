/-
  FetchNever: the walk.
-/
import Derived.Test.YtjjlbancofkinaaTellsW
import Derived.Deep.CutBlock
import Derived.Deep.DeepCutAuto
namespace Go.Proofs.Ytjjlbancofkinaa
open Go.RowKit

theorem readOut_mem {f : PL.Rec → Bool} {most end_ : Int} : ∀ (l : List PL.Rec) (i : Int) (out : List PL.Rec), ∀ r ∈ (readOut f most end_ l i out).1, r ∈ out ∨ f r = true
  | [], _, _, r, hr => .inl hr
  | x :: l, i, out, r, hr => by
    unfold readOut at hr
    split at hr
    · exact .inl hr
    · have := readOut_mem l (i + 1) _ r hr
      by_cases hf : f x = true
      · rw [if_pos hf] at this
        rcases this with h | h
        · rcases List.mem_append.1 h with h | h
          · exact .inl h
          · simp at h; subst h; exact .inr hf
        · exact .inr h
      · rw [if_neg hf] at this
        exact this

/-- Is this the transaction of a record, and was it committed? -/
def tstX (r : PL.Rec) (x : PL.Spn) : Bool := x.p == r.p && x.e == r.e && x.t == r.t && x.k == 2
theorem tst_comm {s : PL.St} {r : PL.Rec} (h : isCommX s r = true) : s.S.any (tstX r) = true := by
  unfold isCommX at h
  have hk : s.kind r.p r.e r.t = 2 := by simpa using h
  rcases PL.span_bd s r.p r.e r.t with hn | ⟨h0, h1⟩
  · rw [PL.kind_of_none (by omega)] at hk; omega
  · obtain ⟨x, hx, e1, e2, e3⟩ := PL.span_at s r.p r.e r.t h0
    rw [PL.kind_of_some h0 hx] at hk
    exact List.any_eq_true.2 ⟨x, List.mem_of_getElem? hx, by simp [tstX, e1, e2, e3, hk]⟩

theorem wpStill_skip' {P : Program} {ops : Array Oper} {w : World} {Q : Act → Prop} {a : Act} {o : Oper} {rest : List Oper} (hw : Region.wanted o (yielded ops a.tmps) = false) (h : wpStill P ops w Q rest (a.put o.dst undef)) : wpStill P ops w Q (o :: rest) a :=
  wpStill_step fun K hK => by rw [if_neg (by rw [hw]; simp)]; exact hK _ h

set_option maxRecDepth 100000 in
set_option maxHeartbeats 6400000 in
theorem fetchNever_walk (w : World) (v : Value) (L : List PL.Act) (h : ActsAt w v L) :
    Calls Try.prog 8 #[v] w (Ret (.bool true) w) := by
  have hlong := long12_any w v L h
  have hlaid := laid_any w v L h
  obtain ⟨hO, hS, hR⟩ := laid_facts L
  generalize PL.St.new.plays (L.take 80) = s at *
  obtain ⟨a, c, rfl, -⟩ := h
  have HO := Lib.hid hO
  clear hO
  go_enter Try.func8, Try.ntmps8
  go_wp2_with fail
  refine hlong.mono ?_
  rintro x w1 ⟨b, rfl, rfl⟩
  clear hlong
  cases b
  case true =>
    go_wp2_with fail
    go_ret
    exact Ret.bool rfl (below_refl _)
  go_wp2_with fail
  refine hlaid.mono ?_
  rintro x w1 ⟨p, q, rfl, hT⟩
  clear hlaid
  have hB := hT.below
  obtain ⟨M, V, N, U, hBo, -⟩ := hT
  obtain ⟨hP, hX, -⟩ := hBo
  have hfc := fetchCommitted_any w1 p s M V hP (by omega) hS HO.out.vals 0 1000 0 (by decide)
  have hsp := fun W (hb : Below w1.heap.size w1 W) => spans_any W p s M V (hP.below hb) hS
  rw [isComm_X HO.out] at hfc
  have hmem : ∀ r ∈ (readOut (isCommX s) 1000 s.stable (s.R.drop 0) (0 : Nat) []).1, s.S.any (tstX r) = true := fun r hr => by
    rcases readOut_mem _ _ _ r hr with h | h
    · cases h
    · exact tst_comm h
  have hrr : readOut (isCommX s) 1000 s.stable (s.R.drop 0) (0 : Nat) [] = readOut (isCommX s) 1000 s.stable (s.R.drop 0) (0 : Nat) [] := rfl
  generalize hrx : readOut (isCommX s) 1000 s.stable (s.R.drop 0) (0 : Nat) [] = rr at *
  have Hrx := Lib.hid hrx
  have Hmem := Lib.hid hmem
  have HX := Lib.hid hX
  obtain ⟨ra1, ra2⟩ := rr
  dsimp only at *
  clear hP hX hrr hrx hmem
  go_wp2_with fail
  refine hfc.mono ?_
  rintro x w2 ⟨v2, rfl, hR2, hb2⟩
  replace hR2 := recsFrom_at hR2
  clear hfc
  have hR2' := hR2
  obtain ⟨a2, c2, rfl, hr1, hr2, hr3⟩ := hR2'
  go_wp2_with fail
  refine (hsp _ hb2).mono ?_
  rintro x w3 ⟨v3, rfl, hS3, hb3⟩
  obtain ⟨a3, c3, rfl, hs1, hs2, hs3⟩ := hS3
  have hB3 := below_step hb2 hb3
  have Hr3 := Lib.hid hr3
  have Hs3 := Lib.hid hs3
  have Hb3 := Lib.hid hb3
  clear hsp hb2 hb3 hr3 hs3 hR2
  generalize hSS : s.S = S at *
  have HSS := Lib.hid hSS
  clear hSS
  go_upto_block 0 with fail
  go_cut [9] (fun s9 wx => Below w3.heap.size w3 wx)
  case first =>
    go_wp2_with fail
    go_loopw [9] (fun iv wr => ∃ i : Nat, i ≤ ra1.length ∧ iv = .int .i64 i ∧ Below w3.heap.size w3 wr) (fun iv _ => ra1.length - (intOf iv).toNat)
    case atStart => exact ⟨0, Nat.zero_le _, rfl, below_refl _⟩
    case round =>
      obtain ⟨i, hi, rfl, hBi⟩ := hrel
      obtain ⟨wo, rfl⟩ : ∃ wo : World, wo = wr := ⟨_, rfl⟩
      by_cases hil : i < ra1.length
      · obtain ⟨b2, o2, u2, rfl, hat2, -⟩ := Hr3.out i _ (List.getElem?_eq_getElem hil)
        have hany := Hmem.out _ (List.getElem_mem hil)
        generalize ra1[i] = r at *
        replace hat2 := hat2.below Hb3.out
        have Hany := Lib.hid hany
        have Hat2 := Lib.hid hat2
        clear hany hat2
        go_wp2_with fail
        go_loopw [10, 11] (fun fv kv wr => ∃ k : Nat, k ≤ S.length ∧ kv = .int .i64 k ∧ fv = .bool ((S.take k).any (tstX r)) ∧ Below w3.heap.size w3 wr) (fun _ kv _ => S.length - (intOf kv).toNat)
        case atStart => exact ⟨0, Nat.zero_le _, rfl, rfl, hBi⟩
        case round =>
          obtain ⟨k, hk, rfl, rfl, hBk⟩ := hrel
          by_cases hkl : k < S.length
          · obtain ⟨b1, o1, rfl, hat1⟩ := Hs3.out k _ (List.getElem?_eq_getElem hkl)
            have Htk : RowKit.Hid ((S.take (k + 1)).any (tstX r) = ((S.take k).any (tstX r) || tstX r S[k])) := Lib.hid (by rw [List.take_succ_eq_append_getElem hkl, List.any_append]; simp)
            generalize S[k] = x at *
            have hBd := below_drew hBk
            have ha := hat1.below hBd
            have hb := Hat2.out.below hBd
            clear hat1
            go_wp2_with fail
            refine wp_region_still_lit (by kernel_rfl) (by kernel_rfl) ?_
            change wpStill _ _ wr.drew (fun a' => Exit.inBlock _ _ Exit.normal a' wr.drew) _ _
            have HBd := Lib.hid hBd
            clear hBk hBd
            generalize wr.drew = W2 at *
            obtain ⟨d0, d1, d2, d3, d4⟩ := ha
            obtain ⟨f0, f1, f2, f3, f4⟩ := hb
            cases hb : (S.take k).any (tstX r)
            · have Hb := Lib.hid hb
              clear hb
              by_cases g1 : x.p = r.p
              · have g1' : (x.p == r.p) = true := by simpa using g1
                by_cases g2 : x.e = r.e
                · have g2' : (x.e == r.e) = true := by simpa using g2
                  by_cases g3 : x.t = r.t
                  · have g3' : (x.t == r.t) = true := by simpa using g3
                    cases g4' : (x.k == 2)
                    · have Hn : RowKit.Hid ((S.take (k + 1)).any (tstX r) = false) := Lib.hid (by rw [Htk.out, Hb.out]; simp [tstX, g4'])
                      clear g1 g2 g3
                      iterate 49 still_step
                      refine wpStill_nil ?_
                      go_wp2_with fail
                      go_roundw
                      case rel => exact ⟨k + 1, by omega, by go_num, by rw [Hn.out], HBd.out⟩
                      case measure => first | (simp [intOf]; done) | (simp [intOf]; omega)
                    · have Hn : RowKit.Hid ((S.take (k + 1)).any (tstX r) = true) := Lib.hid (by rw [Htk.out, Hb.out]; simp [tstX, g1, g2, g3, g4'])
                      clear g1 g2 g3
                      iterate 49 still_step
                      refine wpStill_nil ?_
                      go_wp2_with fail
                      go_roundw
                      case rel => exact ⟨k + 1, by omega, by go_num, by rw [Hn.out], HBd.out⟩
                      case measure => first | (simp [intOf]; done) | (simp [intOf]; omega)
                  · have g3' : (x.t == r.t) = false := by simpa using g3
                    have Hn : RowKit.Hid ((S.take (k + 1)).any (tstX r) = false) := Lib.hid (by rw [Htk.out, Hb.out]; simp [tstX, g3])
                    clear g1 g2 g3
                    iterate 40 still_step
                    generalize hops : (List.toArray _) = OO
                    iterate 6 (refine wpStill_skip' (by rw [← hops]; rfl) ?_; simp only [Act.put, List.setIfInBounds_toArray, List.set_cons_zero, List.set_cons_succ])
                    subst hops
                    iterate 3 still_step
                    refine wpStill_nil ?_
                    go_wp2_with fail
                    go_roundw
                    case rel => exact ⟨k + 1, by omega, by go_num, by rw [Hn.out], HBd.out⟩
                    case measure => first | (simp [intOf]; done) | (simp [intOf]; omega)
                · have g2' : (x.e == r.e) = false := by simpa using g2
                  have Hn : RowKit.Hid ((S.take (k + 1)).any (tstX r) = false) := Lib.hid (by rw [Htk.out, Hb.out]; simp [tstX, g2])
                  clear g1 g2
                  iterate 27 still_step
                  generalize hops : (List.toArray _) = OO
                  iterate 11 (refine wpStill_skip' (by rw [← hops]; rfl) ?_; simp only [Act.put, List.setIfInBounds_toArray, List.set_cons_zero, List.set_cons_succ])
                  subst hops
                  iterate 2 still_step
                  generalize hops : (List.toArray _) = OO
                  iterate 6 (refine wpStill_skip' (by rw [← hops]; rfl) ?_; simp only [Act.put, List.setIfInBounds_toArray, List.set_cons_zero, List.set_cons_succ])
                  subst hops
                  iterate 3 still_step
                  refine wpStill_nil ?_
                  go_wp2_with fail
                  go_roundw
                  case rel => exact ⟨k + 1, by omega, by go_num, by rw [Hn.out], HBd.out⟩
                  case measure => first | (simp [intOf]; done) | (simp [intOf]; omega)
              · have g1' : (x.p == r.p) = false := by simpa using g1
                have Hn : RowKit.Hid ((S.take (k + 1)).any (tstX r) = false) := Lib.hid (by rw [Htk.out, Hb.out]; simp [tstX, g1])
                clear g1
                iterate 14 still_step
                generalize hops : (List.toArray _) = OO
                iterate 11 (refine wpStill_skip' (by rw [← hops]; rfl) ?_; simp only [Act.put, List.setIfInBounds_toArray, List.set_cons_zero, List.set_cons_succ])
                subst hops
                iterate 2 still_step
                generalize hops : (List.toArray _) = OO
                iterate 11 (refine wpStill_skip' (by rw [← hops]; rfl) ?_; simp only [Act.put, List.setIfInBounds_toArray, List.set_cons_zero, List.set_cons_succ])
                subst hops
                iterate 2 still_step
                generalize hops : (List.toArray _) = OO
                iterate 6 (refine wpStill_skip' (by rw [← hops]; rfl) ?_; simp only [Act.put, List.setIfInBounds_toArray, List.set_cons_zero, List.set_cons_succ])
                subst hops
                iterate 3 still_step
                refine wpStill_nil ?_
                go_wp2_with fail
                go_roundw
                case rel => exact ⟨k + 1, by omega, by go_num, by rw [Hn.out], HBd.out⟩
                case measure => first | (simp [intOf]; done) | (simp [intOf]; omega)
            · have Hb := Lib.hid hb
              clear hb
              have Hn : RowKit.Hid ((S.take (k + 1)).any (tstX r) = true) := Lib.hid (by rw [Htk.out, Hb.out]; rfl)
              iterate 2 still_step
              generalize hops : (List.toArray _) = OO
              iterate 45 (refine wpStill_skip' (by rw [← hops]; rfl) ?_; simp only [Act.put, List.setIfInBounds_toArray, List.set_cons_zero, List.set_cons_succ])
              subst hops
              iterate 2 still_step
              refine wpStill_nil ?_
              go_wp2_with fail
              go_roundw
              case rel => exact ⟨k + 1, by omega, by go_num, by rw [Hn.out], HBd.out⟩
              case measure => first | (simp [intOf]; done) | (simp [intOf]; omega)
          · obtain rfl : k = S.length := by omega
            have hA : RowKit.Hid ((S.take S.length).any (tstX r) = true) := Lib.hid (by rw [List.take_length]; exact Hany.out)
            rw [hA.out]
            go_wp2_with fail
            go_roundw
            case rel => exact ⟨i + 1, by omega, by go_num, hBk⟩
            case measure => first | (simp [intOf]; done) | (simp [intOf]; omega)
      · obtain rfl : i = ra1.length := by omega
        go_wp2_with fail
        go_meet
        exact hBi
  case rest =>
    have hB4 := below_step hB3 hcut
    obtain ⟨vr, vs, x0, -, -, -, hRx, -⟩ := HX.out.opened
    obtain ⟨px, cx, rfl, rx1, rx2, rx3⟩ := hRx
    have Hx3 := Lib.hid rx3
    have hst := fun W (hb : Below w1.heap.size w1 W) => stable11_any W q s N U (HX.out.below hb)
    have hkind := fun W (hb : Below w1.heap.size w1 W) r v hv => kind11_any W q s N U (HX.out.below hb) r v hv
    have hsl := stable_le s
    have Hsl := Lib.hid hsl
    have hf0 : ∀ r, isCommX s r = decide (s.kind r.p r.e r.t = 2) := fun r => rfl
    have Hf := Lib.hid hf0
    have HX1 := HX.out
    generalize hfg : isCommX s = f at *
    generalize s.stable = sb at *
    generalize s.R = R at *
    clear rx3 hsl HX1 hf0 hcut Hr3 Hs3 Hb3 Hmem
    go_upto_block 4 with fail
    go_cut [8] (fun s8 wx => s8 = .int .i64 (ra1.length : Nat) ∧ Below w1.heap.size w1 wx)
    case first =>
      go_wp2_with fail
      go_loopw [8, 12] (fun nv iv wr => ∃ (k : Nat) (out : List PL.Rec), k ≤ R.length ∧ iv = .int .i64 k ∧ nv = .int .i64 (out.length : Nat) ∧ out.length ≤ k ∧ readOut f 1000 sb (R.drop k) k out = (ra1, ra2) ∧ Below w1.heap.size w1 wr) (fun _ iv _ => R.length - (intOf iv).toNat)
      case atStart => exact ⟨0, [], Nat.zero_le _, rfl, rfl, Nat.zero_le _, Hrx.out, hB4⟩
      case round =>
        obtain ⟨k, out, hk, rfl, rfl, hle, hro, hBk⟩ := hrel
        have Hro := Lib.hid hro
        have y0 := cell_below x0 hBk
        have hst' := hst _ hBk
        have hkind' := hkind _ hBk
        clear hro
        by_cases hkl : k < R.length
        · by_cases hks : (k : Int) < sb
          · obtain ⟨b, o, u, rfl, hat, hu⟩ := Hx3.out k _ (List.getElem?_eq_getElem hkl)
            obtain ⟨d0, d1, d2, d3, d4⟩ := hat.below hBk
            have hgo := readOut_go (f := f) (most := 1000) (end_ := sb) (out := out) (List.getElem?_eq_getElem hkl) (by omega)
            have hfx := Hf.out R[k]
            generalize R[k] = x at *
            obtain ⟨xp, xe, xt, xq, xv⟩ := x
            obtain ⟨pu, cu, rfl, -⟩ := hu
            dsimp only at *
            have hk1 := hkind' ⟨xp, xe, xt, xq, xv⟩ (.slice pu xv.length cu) ⟨_, _, _, rfl⟩
            unfold recV at hk1
            dsimp only at hk1
            clear hkind hkind' hst
            generalize s.kind xp xe xt = kd at *
            rw [Hro.out] at hgo
            by_cases hkd : kd = 2
            · rw [show f ⟨xp, xe, xt, xq, xv⟩ = true by rw [hfx]; simpa using hkd] at hgo
              have Hgo := Lib.hid hgo
              clear hgo hfx
              subst hkd
              go_wp2_with fail
              refine hst'.mono ?_
              rintro e w5 ⟨rfl, rfl⟩
              go_wp2_with fail
              refine hk1.mono ?_
              rintro e w5 ⟨rfl, hb5⟩
              have hB5 := below_step hBk hb5
              clear hst' hk1 hb5 d0 d1 d2 d3 d4 y0
              go_wp2_with fail
              go_roundw
              case rel => exact ⟨k + 1, out ++ [⟨xp, xe, xt, xq, xv⟩], by omega, by go_num, by rw [List.length_append]; go_num, by simp; omega, Hgo.out.symm, hB5⟩
              case measure => first | (simp [intOf]; done) | (simp [intOf]; omega)
            · rw [show f ⟨xp, xe, xt, xq, xv⟩ = false by rw [hfx]; simpa using hkd] at hgo
              have Hgo := Lib.hid hgo
              clear hgo hfx
              go_wp2_with fail
              refine hst'.mono ?_
              rintro e w5 ⟨rfl, rfl⟩
              go_wp2_with fail
              refine hk1.mono ?_
              rintro e w5 ⟨rfl, hb5⟩
              have hB5 := below_step hBk hb5
              clear hst' hk1 hb5 d0 d1 d2 d3 d4 y0
              go_wp2_with fail
              go_roundw
              case rel => exact ⟨k + 1, out, by omega, by go_num, rfl, by omega, Hgo.out.symm, hB5⟩
              case measure => first | (simp [intOf]; done) | (simp [intOf]; omega)
          · have he : RowKit.Hid (ra1 = out) := Lib.hid (by have := readOut_stop (f := f) (most := 1000) (end_ := sb) (out := out) (List.getElem?_eq_getElem hkl) (.inl (by omega)); rw [Hro.out] at this; injection this)
            clear hkind hkind' hst
            go_wp2_with fail
            refine hst'.mono ?_
            rintro e w5 ⟨rfl, rfl⟩
            clear hst'
            go_wp2_with fail
            go_meet
            exact ⟨by rw [he.out], hBk⟩
        · have he : RowKit.Hid (ra1 = out) := Lib.hid (by have := readOut_nil (f := f) (most := 1000) (end_ := sb) (out := out) (R := R) (k := k) (by omega); rw [Hro.out] at this; injection this)
          clear hkind hkind' hst hst'
          go_wp2_with fail
          go_meet
          exact ⟨by rw [he.out], hBk⟩
    case rest =>
      obtain ⟨rfl, hB6⟩ := hcut
      clear hst hkind
      go_wp2_with fail
      refine (known12_any _).mono ?_
      rintro x w11 ⟨rfl, hb11⟩
      go_wp2_with fail
      go_ret
      exact Ret.bool rfl (below_step hB (below_step hB6 hb11))

end Go.Proofs.Ytjjlbancofkinaa
