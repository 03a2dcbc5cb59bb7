/-
  PlogOnce: the walk.
-/
import Derived.Test.YtjjlbancofkinaaLaid
import Derived.Deep.CutBlock
import Derived.Deep.DeepCutAuto
namespace Go.Proofs.Ytjjlbancofkinaa
open Go.RowKit

/-- A record that comes again: what it is told. -/
theorem append_once {s : PL.St} (hO : PL.Ok s) {k : Nat} {r : PL.Rec} (hr : s.R[k]? = some r) : s.append r = if r.e < s.E r.p then (0, 5, s) else ((k : Int), 0, s) := by
  have hg := hO.good r (List.mem_of_getElem? hr)
  have hag := hO.again_of hr
  have h0 : 0 ≤ r.e := hg.1.1.2.2.1
  unfold PL.St.append
  rw [if_neg (fun h => h hg.1), if_neg (by have := hg.2; omega)]
  by_cases h : r.e < s.E r.p
  · rw [if_pos h, if_pos h]
  · rw [if_neg h, if_neg h, if_neg (by have := hg.2; omega)]
    simp only
    rw [hag, if_pos (by omega), Int.toNat_natCast]
    have : s.R.getD k r = r := by rw [List.getD_eq_getElem?_getD, hr]; rfl
    rw [this, if_neg (by simp)]

theorem wpStill_skip' {P : Program} {ops : Array Oper} {w : World} {Q : Act → Prop} {a : Act} {o : Oper} {rest : List Oper} (hw : Region.wanted o (yielded ops a.tmps) = false) (h : wpStill P ops w Q rest (a.put o.dst undef)) : wpStill P ops w Q (o :: rest) a :=
  wpStill_step fun K hK => by rw [if_neg (by rw [hw]; simp)]; exact hK _ h

def ToldsF (B : Nat) (R : List PL.Rec) (w : World) (e : Ending) (w' : World) : Prop := ∃ v, e = .returned (.tuple #[v, .bool true]) ∧ RecsFrom B w' v R ∧ Below w.heap.size w w'
theorem told_logF (w : World) (p : Nat) (s : PL.St) (M V : Nat → Prop) (h : PRep w p s M V) (hO : PL.Ok s) (m : Nat) (hm : m ≤ 1099511627776) (w2 : World) (hw2 : w2 = (w.alloc (.cells #[.pointer (some ⟨p, 0, none⟩)] 24)).alloc (.cells #[.int .i64 m] 3)) :
    Calls Try.prog 18 #[recordsV w.heap.size, .int .i64 m] w2 (ToldsF w.heap.size (s.R.drop m) w2) := by
  have c2 : w2.cell? ⟨w.heap.size, 0, none⟩ = some (.pointer (some ⟨p, 0, none⟩)) := by subst hw2; exact (((Boxed.new w _ _).alloc _)).cell
  have c3 : w2.cell? ⟨w.heap.size + 1, 0, none⟩ = some (.int .i64 m) := by
    subst hw2
    have h := (Boxed.new (w.alloc (.cells #[.pointer (some ⟨p, 0, none⟩)] 24)) 3 (.int .i64 m)).cell
    rw [World.size_alloc] at h
    exact h
  have hB2 : Below w.heap.size w w2 := by subst hw2; exact below_alloc (below_alloc (below_refl w) _) _
  have hz2 : w2.heap.size = w.heap.size + 2 := by subst hw2; simp
  have hf := records1_any 5 (by decide) w2 p s M V (h.below hB2) w.heap.size h.bound (by have := hO.len; omega) hO.vals w.heap.size (w.heap.size + 1) m c2 c3 (by omega) m (by omega)
  refine (told11_any w2 _ s m w.heap.size w.heap.size (s.R.length - m) hf (by omega) (by omega) (by have := hO.len; omega) hm).mono ?_
  rintro e w3 ⟨v, rfl, ⟨L, h1, h2, h3⟩, hb⟩
  refine ⟨v, rfl, ?_, hb⟩
  rw [← handed_list h1 h3]
  exact h2

theorem i64_and65535 (n : Int) : bits .and .i64 n 65535 = n % 65536 := by
  have h127 : (BitVec.ofInt 64 65535).toNat = 2 ^ 16 - 1 := by decide
  have key : (BitVec.ofInt 64 n &&& BitVec.ofInt 64 65535).toNat = (n % ((2 ^ 64 : Nat) : Int)).toNat % 2 ^ 16 := by
    rw [BitVec.toNat_and, BitVec.toNat_ofInt, h127, Nat.and_two_pow_sub_one_eq_mod]
  show IntKind.i64.wrap ((BitVec.ofInt 64 n &&& BitVec.ofInt 64 65535).toNat : Nat) = n % 65536
  rw [key, IntKind.wrap_i64]
  omega

set_option maxRecDepth 100000 in
set_option maxHeartbeats 3200000 in
theorem plogOnce_walk (w : World) (v : Value) (L : List PL.Act) (h : ActsAt w v L) (f : Int) (_ : (Lit.int .i64 f).wf = true) : Calls Try.prog 5 #[v, .int .i64 f] w (Ret (.bool true) w) := by
  have hlong := long11_any w v L h
  obtain ⟨a, c, rfl, hL1, hL2, hL3⟩ := h
  have HL := Lib.hid hL3
  clear hL3
  go_enter Try.func5, Try.ntmps5
  go_wp2_with fail
  refine hlong.mono ?_
  rintro x w1 ⟨b, rfl, rfl⟩
  clear hlong
  cases b
  case true =>
    go_wp2_with fail
    go_ret
    exact Ret.bool rfl (below_refl _)
  go_wp2_with fail
  refine (new_any _).mono ?_
  rintro x w1 hN1
  have hr1 : ∃ p, x = .returned (.pointer (some ⟨p, 0, none⟩)) := ⟨_, hN1.choose_spec.1⟩
  obtain ⟨p, rfl⟩ := hr1
  go_wp2_with fail
  refine (new11_any _).mono ?_
  rintro x w2 hN2
  obtain ⟨p', q, e1, rfl, hT⟩ := twin_new hN1 hN2
  cases e1
  clear hN1 hN2
  generalize hfs : PL.St.new.plays (L.take 80) = fs
  have Hfs := Lib.hid hfs
  clear hfs
  go_upto_block 0 with fail
  go_cut [7] (fun s7 wx => Twin w (fun _ => False) wx p q fs fs)
  case first =>
    go_wp2_with fail
    go_loopw [7] (fun i wr => ∃ k : Nat, k ≤ L.length ∧ k ≤ 80 ∧ i = .int .i64 k ∧ Twin w (fun _ => False) wr p q (PL.St.new.plays (L.take k)) (PL.St.new.plays (L.take k))) (fun i _ => 80 - (intOf i).toNat)
    case atStart => exact ⟨0, Nat.zero_le _, Nat.zero_le _, rfl, hT⟩
    case round =>
      obtain ⟨k, hk, hk8, rfl, hTw⟩ := hrel
      have hS80 := plays_S L k hk8
      have hO : PL.Ok (PL.St.new.plays (L.take k)) := PL.Ok.new.plays _
      clear hT
      by_cases hlt : k < L.length
      · by_cases hlt8 : k < 80
        · obtain ⟨b, o, u, rfl, hat, hu⟩ := HL.out k _ (List.getElem?_eq_getElem hlt)
          obtain ⟨d0, d1, d2, d3, d4, d5, d6⟩ := hat.below hTw.below
          have hst := Lib.hid (plays_take (List.getElem?_eq_getElem hlt))
          generalize L[k] = x at *
          generalize PL.St.new.plays (L.take k) = s at *
          have hact := act_any w wr p q s hTw hO hS80.1 x u hu
          obtain ⟨pu, cu, rfl, -, -, -⟩ := hu
          unfold actV at hact
          clear hO hS80 hat hTw
          go_wp2_with fail
          refine hact.mono ?_
          rintro y w3 ⟨z, rfl, hT3⟩
          have HT3 := Lib.hid hT3
          clear hT3 hact d0 d1 d2 d3 d4 d5 d6
          go_wp2_with fail
          go_roundw
          case rel => exact ⟨k + 1, by omega, by omega, by go_num, by rw [hst.out]; exact HT3.out⟩
          case measure => first | (simp [intOf]; done) | (simp [intOf]; omega)
        · have hE := plays_end L k hk (fun h => hlt8 h.2) hk8
          have HT := Lib.hid (by rw [hE, Hfs.out] at hTw; exact hTw : Twin w (fun _ => False) wr p q fs fs)
          obtain rfl : k = 80 := by omega
          clear hTw hO hS80 hE
          go_wp2_with fail
          go_meet
          exact HT.out
      · have hE := plays_end L k hk (fun h => hlt h.1) hk8
        have HT := Lib.hid (by rw [hE, Hfs.out] at hTw; exact hTw : Twin w (fun _ => False) wr p q fs fs)
        clear hTw hO hS80 hE
        go_wp2_with fail
        go_meet
        exact HT.out
  case rest =>
    have hS80 := plays_S L 80 (by omega)
    have hO : PL.Ok (PL.St.new.plays (L.take 80)) := PL.Ok.new.plays _
    rw [Hfs.out] at hS80 hO
    clear hT
    generalize fs = s at *
    obtain ⟨wa, hwa⟩ : ∃ wa : World, wa = wc := ⟨_, rfl⟩
    subst hwa
    have hTw := hcut
    clear hcut
    have hsR := hS80.2
    have hsS := hS80.1
    clear hS80
    have hB := hTw.below
    obtain ⟨M, V, N, U, hBo, -⟩ := hTw
    obtain ⟨hP, hX, hM0, -⟩ := hBo
    have hto := told_logF wa p s M V hP hO 0 (by omega)
    go_wp2_with fail
    refine (records_any wa (some ⟨p, 0, none⟩) 0).mono ?_
    rintro x w5 ⟨rfl, hw5⟩
    replace hto := hto w5 hw5
    have hB5 : Below wa.heap.size wa w5 := by subst hw5; exact below_alloc (below_alloc (below_refl wa) _) _
    clear hw5
    unfold recordsV at *
    go_wp2_with fail
    refine hto.mono ?_
    rintro x w6 ⟨v6, rfl, hR6, hb6⟩
    rw [List.drop_zero] at hR6
    have hB6 := below_step hB5 hb6
    obtain ⟨p6, c6, rfl, r1, r2, r3, r4⟩ := hR6
    obtain ⟨vr, vs, x0, -, -, -, hRx, -⟩ := (hX.below hB6).opened
    obtain ⟨px, cx, rfl, rx1, rx2, -⟩ := hRx
    have Hr := Lib.hid r4
    have HP := Lib.hid (hP.below hB6)
    have HPb := Lib.hid hP.bound
    have HO := Lib.hid hO
    have hBf := below_step hB hB6
    have hz6 := hB6.size
    clear hto hB5 hb6 hP hX r3 r4 hO hB
    go_upto_block 2 with fail
    clear x0 rx1 rx2
    go_cut [10] (fun s10 wx => Below w6.heap.size w6 wx)
    case first =>
      go_wp2_with fail
      go_loopw [10] (fun iv W => ∃ (i : Nat), i ≤ s.R.length ∧ iv = .int .i64 i ∧ Below w6.heap.size w6 W) (fun iv _ => s.R.length - (intOf iv).toNat)
      case atStart => exact ⟨0, Nat.zero_le _, rfl, below_refl _⟩
      case round =>
        obtain ⟨i, hi, rfl, hBi⟩ := hrel
        obtain ⟨wo, rfl⟩ : ∃ wo : World, wo = wr := ⟨_, rfl⟩
        by_cases hil : i < s.R.length
        · go_wp2_with fail
          go_loopw [11] (fun jv W => ∃ (j : Nat), j ≤ i ∧ jv = .int .i64 j ∧ Below w6.heap.size w6 W) (fun jv _ => i - (intOf jv).toNat)
          case atStart => exact ⟨0, Nat.zero_le _, rfl, hBi⟩
          case round =>
            obtain ⟨j, hj, rfl, hBj⟩ := hrel
            by_cases hji : j < i
            · have hjl : j < s.R.length := by omega
              obtain ⟨b1, o1, u1, rfl, -, hat1, -⟩ := Hr.out i _ (List.getElem?_eq_getElem hil)
              obtain ⟨b2, o2, u2, e2, -, hat2, -⟩ := Hr.out j _ (List.getElem?_eq_getElem hjl)
              cases e2
              have hne : ¬ ((s.R[i]).p = (s.R[j]).p ∧ (s.R[i]).e = (s.R[j]).e ∧ (s.R[i]).q = (s.R[j]).q) := fun h => by
                have := HO.out.uni i j _ _ (List.getElem?_eq_getElem hil) (List.getElem?_eq_getElem hjl) h.1 h.2.1 h.2.2
                omega
              have Hne := Lib.hid hne
              have hBd := below_drew hBj
              have ha := hat1.below hBd
              have hb := hat2.below hBd
              clear hat1 hat2 hne
              generalize s.R[i] = r1 at *
              generalize s.R[j] = r2 at *
              go_wp2_with fail
              refine wp_region_still_lit (by kernel_rfl) (by kernel_rfl) ?_
              change wpStill _ _ wr.drew (fun a' => Exit.then _ _ Exit.normal a' wr.drew) _ _
              have HBd := Lib.hid hBd
              clear hBj hBd
              generalize wr.drew = W2 at *
              obtain ⟨d0, d1, d2, d3, d4⟩ := ha
              obtain ⟨f0, f1, f2, f3, f4⟩ := hb
              by_cases g1 : r1.p = r2.p
              · have g1' : (r1.p == r2.p) = true := by simpa using g1
                by_cases g2 : r1.e = r2.e
                · have g2' : (r1.e == r2.e) = true := by simpa using g2
                  have g3' : (r1.q == r2.q) = false := by simpa using fun h => Hne.out ⟨g1, g2, h⟩
                  clear g1 g2
                  repeat still_step
                  refine wpStill_nil ?_
                  go_wp2_with fail
                  go_roundw
                  case rel => exact ⟨j + 1, by omega, by go_num, HBd.out⟩
                  case measure => first | (simp [intOf]; done) | (simp [intOf]; omega)
                · have g2' : (r1.e == r2.e) = false := by simpa using g2
                  clear g1 g2
                  iterate 25 still_step
                  generalize hops : (List.toArray _) = OO
                  iterate 11 (refine wpStill_skip' (by rw [← hops]; rfl) ?_; simp only [Act.put, List.setIfInBounds_toArray, List.set_cons_zero, List.set_cons_succ])
                  subst hops
                  repeat still_step
                  refine wpStill_nil ?_
                  go_wp2_with fail
                  go_roundw
                  case rel => exact ⟨j + 1, by omega, by go_num, HBd.out⟩
                  case measure => first | (simp [intOf]; done) | (simp [intOf]; omega)
              · have g1' : (r1.p == r2.p) = false := by simpa using g1
                clear g1
                iterate 12 still_step
                generalize hops : (List.toArray _) = OO
                iterate 11 (refine wpStill_skip' (by rw [← hops]; rfl) ?_; simp only [Act.put, List.setIfInBounds_toArray, List.set_cons_zero, List.set_cons_succ])
                subst hops
                iterate 2 still_step
                generalize hops : (List.toArray _) = OO
                iterate 11 (refine wpStill_skip' (by rw [← hops]; rfl) ?_; simp only [Act.put, List.setIfInBounds_toArray, List.set_cons_zero, List.set_cons_succ])
                subst hops
                repeat still_step
                refine wpStill_nil ?_
                go_wp2_with fail
                go_roundw
                case rel => exact ⟨j + 1, by omega, by go_num, HBd.out⟩
                case measure => first | (simp [intOf]; done) | (simp [intOf]; omega)
            · obtain rfl : j = i := by omega
              go_wp2_with fail
              go_roundw
              case rel => exact ⟨j + 1, by omega, by go_num, hBj⟩
              case measure => first | (simp [intOf]; done) | (simp [intOf]; omega)
        · obtain rfl : i = s.R.length := by omega
          go_wp2_with fail
          go_meet
          exact hBi
    case rest =>
      have hB8 := below_step hBf hcut
      have hP8 := HP.out.below hcut
      have HB8 := Lib.hid hB8
      by_cases h0 : s.R.length = 0
      · have h0' : ((s.R.length : Int) == 0) = true := by simp [h0]
        clear h0 hP8 hB8 hBf
        go_wp2_with fail
        refine (known11_any _).mono ?_
        rintro x w9 ⟨rfl, hb9⟩
        go_wp2_with fail
        go_ret
        exact Ret.bool rfl (below_step HB8.out hb9)
      obtain ⟨zn, hzn⟩ : ∃ zn : Nat, f % 65536 = zn := ⟨(f % 65536).toNat, by omega⟩
      have hand : bits .and .i64 f 65535 = (zn : Int) := (i64_and65535 f).trans hzn
      have hpos : 0 < s.R.length := by omega
      obtain ⟨k, hk⟩ : ∃ k : Nat, zn % s.R.length = k := ⟨_, rfl⟩
      have hkl : k < s.R.length := by rw [← hk]; exact Nat.mod_lt _ hpos
      have hmod : (zn : Int) % (s.R.length : Int) = (k : Int) := by rw [← hk]; rfl
      have hmod2 : (zn : Int).tmod (s.R.length : Int) = (k : Int) := by rw [Int.tmod_eq_emod_of_nonneg (by omega)]; exact hmod
      have h0' : ((s.R.length : Int) == 0) = false := by simpa using h0
      have hpos' : (0 : Int) < s.R.length := by omega
      obtain ⟨b, o, u, rfl, hbw, hat, hu, hub⟩ := Hr.out k _ (List.getElem?_eq_getElem hkl)
      have honce := append_once HO.out (List.getElem?_eq_getElem hkl)
      have hgood := HO.out.good _ (List.getElem_mem hkl)
      have hrk : s.R[k]? = some s.R[k] := List.getElem?_eq_getElem hkl
      have hat8 := hat.below hcut
      have hap := append_any wc p s M V hP8 hsS (by have := HO.out.len; omega) HO.out.seqs s.R[k] u (hu.below hcut) (fun d e hm => by have := hub d e; have := HPb.out d (.inl hm); omega)
      rw [honce] at hap
      have hep := fun W M' V' (hP' : PRep W p s M' V') => epoch_any W p s M' V' hP' (s.R[k]).p
      have hlen := fun W M' V' (hP' : PRep W p s M' V') => len_any W p s M' V' hP'
      have hlt8 := lt_of_cell hat8.1
      have hnM : ¬ M b := fun hm => by have := HPb.out b (.inl hm); omega
      obtain ⟨pu, cu, rfl, -⟩ := hu
      have hge : 0 ≤ (s.R[k]).e := hgood.1.1.2.2.1
      have heE := hgood.2
      clear hgood honce hat hub hrk hzn hk h0 hP8 hB8 hBf
      generalize s.R[k] = r at *
      obtain ⟨xp, xe, xt, xq, xv⟩ := r
      dsimp only at *
      have hepv : epVal s.E xp = s.E xp := by unfold epVal; rw [if_pos (by omega)]
      rw [hepv] at hep
      generalize s.E xp = ep at *
      clear hepv
      unfold recV at hap
      dsimp only at hap
      have hRR := Lib.hid hat8
      obtain ⟨d0, d1, d2, d3, d4⟩ := hat8
      by_cases he : xe < ep
      · rw [if_pos he] at hap
        go_wp2_with fail
        refine hap.mono ?_
        rintro x w9 ⟨M9, V9, rfl, hP9, hF9, hM9, -⟩
        obtain ⟨e0, e1, e2, e3, e4⟩ := hRR.out.same (hF9.block b hlt8 hnM)
        have hB9 := hF9.to_below HB8.out hM0
        have hep9 := hep w9 M9 V9 hP9
        have HP9 := Lib.hid hP9
        clear hap hP9 hF9 d0 d1 d2 d3 d4 hep
        have hne : (ep != xe) = true := bne_t (by omega)
        go_wp2_with fail
        refine hep9.mono ?_
        rintro x w10 ⟨rfl, hb10⟩
        have f0 := cell_below e0 hb10
        have f1 := cell_below e1 hb10
        have hB10 := below_step hB9 hb10
        have hlen10 := hlen w10 M9 V9 (HP9.out.below hb10)
        clear hep9 hb10 e0 e1 e2 e3 e4 hB9
        go_wp2_with fail
        refine hlen10.mono ?_
        rintro x w11 ⟨rfl, hb11⟩
        have hB11 := below_step hB10 hb11
        clear hlen hlen10 hb11 hB10
        go_wp2_with fail
        refine (known11_any _).mono ?_
        rintro x w12 ⟨rfl, hb12⟩
        go_wp2_with fail
        go_ret
        exact Ret.bool rfl (below_step hB11 hb12)
      · rw [if_neg he] at hap
        obtain rfl : ep = xe := by omega
        go_wp2_with fail
        refine hap.mono ?_
        rintro x w9 ⟨M9, V9, rfl, hP9, hF9, hM9, -⟩
        obtain ⟨e0, e1, e2, e3, e4⟩ := hRR.out.same (hF9.block b hlt8 hnM)
        have hB9 := hF9.to_below HB8.out hM0
        have hep9 := hep w9 M9 V9 hP9
        have HP9 := Lib.hid hP9
        clear hap hP9 hF9 d0 d1 d2 d3 d4 hep
        go_wp2_with fail
        refine hep9.mono ?_
        rintro x w10 ⟨rfl, hb10⟩
        have f0 := cell_below e0 hb10
        have f1 := cell_below e1 hb10
        have hB10 := below_step hB9 hb10
        have hlen10 := hlen w10 M9 V9 (HP9.out.below hb10)
        clear hep9 hb10 e0 e1 e2 e3 e4 hB9
        go_wp2_with fail
        refine hlen10.mono ?_
        rintro x w11 ⟨rfl, hb11⟩
        have hB11 := below_step hB10 hb11
        clear hlen hlen10 hb11 hB10
        go_wp2_with fail
        refine (known11_any _).mono ?_
        rintro x w12 ⟨rfl, hb12⟩
        go_wp2_with fail
        go_ret
        exact Ret.bool rfl (below_step hB11 hb12)

end Go.Proofs.Ytjjlbancofkinaa
