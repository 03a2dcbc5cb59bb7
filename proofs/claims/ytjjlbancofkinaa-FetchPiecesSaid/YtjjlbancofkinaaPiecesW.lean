/-
  FetchPieces: the walk.
-/
import Derived.Test.YtjjlbancofkinaaPieces
import Derived.Deep.CutBlock
import Derived.Deep.DeepCutAuto
namespace Go.Proofs.Ytjjlbancofkinaa
open Go.RowKit

set_option maxRecDepth 100000 in
set_option maxHeartbeats 6400000 in
theorem fetchPieces_false (w : World) (v : Value) (L : List PL.Act) (h : ActsAt w v L) (zv : Value) (Z : List Int) (hZ : IntsAt w zv Z) :
    Calls Try.prog 7 #[v, zv, .bool false] w (Ret (.bool true) w) := by
  have hlong := long12_any w v L h
  have hlaid := laid_any w v L h
  obtain ⟨hO, hS, hR⟩ := laid_facts L
  generalize PL.St.new.plays (L.take 80) = s at *
  obtain ⟨a, c, rfl, -⟩ := h
  obtain ⟨az, cz, rfl, hz1, hz2, hz3⟩ := hZ
  have HO := Lib.hid hO
  have Hz := Lib.hid hz3
  clear hO hz3
  go_enter Try.func7, Try.ntmps7
  go_wp2_with fail
  refine hlong.mono ?_
  rintro x w1 ⟨b, rfl, rfl⟩
  clear hlong
  cases b
  case true =>
    go_wp2_with fail
    go_ret
    exact Ret.bool rfl (below_refl _)
  by_cases hz60 : 60 < Z.length
  · go_wp2_with fail
    go_ret
    exact Ret.bool rfl (below_refl _)
  go_wp2_with fail
  refine hlaid.mono ?_
  rintro x w1 ⟨p, q, rfl, hT⟩
  clear hlaid
  have hB := hT.below
  obtain ⟨M, V, N, U, hBo, -⟩ := hT
  obtain ⟨hP, hX, -⟩ := hBo
  have hfetch : ∀ W (_ : Below w1.heap.size w1 W) (n : Int) (k : Nat), Calls Try.prog 33 #[.pointer (some ⟨p, 0, none⟩), .int .i64 k, .int .i64 n] W (ReadV W (readOut (fun _ => true) n s.R.length (s.R.drop k) k []).1 (readOut (fun _ => true) n s.R.length (s.R.drop k) k []).2) := fun W hb n k => fetchAny_any W p s M V (hP.below hb) (by omega) HO.out.vals k n k (by omega)
  have hra := fun W (hb : Below w1.heap.size w1 W) => any12_any W q s N U (hX.below hb) (by omega) 0 1000 0 (by decide)
  have hrc := fun W (hb : Below w1.heap.size w1 W) => committed12_any W q s N U (hX.below hb) (by omega) (stable_le s) 0 1000 0 (by decide)
  have Hra := Lib.hid hra
  have Hrc := Lib.hid hrc
  have HB := Lib.hid hB
  obtain ⟨j0, hj0, hy0, hy1, hy2⟩ := info_parts Try.infoRec
  have hsl := stable_le s
  generalize hff : (fun _ => true) = f at hfetch
  generalize hee : (s.R.length : Int) = e at hfetch
  have Hff := Lib.hid hff
  have Hee := Lib.hid hee
  clear hff hee hsl hra hrc hP hX hB
  go_upto_block 0 with fail
  go_cut [9] (fun s9 wx => ∃ (out : List (PL.Rec × Value)) (a9 : Value), s9 = a9 ∧ wx.ownsRow w1.heap.size 32 5 a9 out.length (recCells out) ∧ (∀ x ∈ out, BytesAt wx x.2 x.1.v) ∧ out.map (·.1) = (readOut f 1000 e (s.R.drop 0) (0 : Nat) []).1 ∧ Below w1.heap.size w1 wx)
  case first =>
    go_wp2_with fail
    go_loopw [9, 10, 11] (fun av kv iv wr => ∃ (i k : Nat) (out : List (PL.Rec × Value)), i ≤ k ∧ k ≤ s.R.length ∧ out.length ≤ k ∧ iv = .int .i64 i ∧ kv = .int .i64 k ∧ wr.ownsRow w1.heap.size 32 5 av out.length (recCells out) ∧ (∀ x ∈ out, BytesAt wr x.2 x.1.v ∧ ∀ b, Value.blk x.2 = some b → av.ownBlock ≠ some b) ∧ i ≤ 80 ∧ Below w1.heap.size w1 wr ∧ readOut f 1000 e (s.R.drop 0) (0 : Nat) [] = readOut f 1000 e (s.R.drop k) k (out.map (·.1))) (fun _ _ iv _ => 400 - (intOf iv).toNat)
    case atStart => exact ⟨0, 0, [], Nat.le_refl _, Nat.zero_le _, Nat.zero_le _, rfl, rfl, World.ownsRow_nil _ _ _ _, (fun x hx => by cases hx), by omega, below_refl _, rfl⟩
    case round =>
      obtain ⟨i, k, out, hik0, hkR, hok, rfl, rfl, ho, hv, hi80, hBk, hro⟩ := hrel
      obtain ⟨ao, co, rfl, ho1, ho2, -, -⟩ := owns_form ho
      by_cases hiz : i < Z.length
      · obtain ⟨bz, oz, rfl, hcz⟩ := Hz.out i _ (List.getElem?_eq_getElem hiz)
        replace hcz := cell_below (cell_below hcz HB.out) hBk
        generalize Z[i] = z at *
        obtain ⟨y, hy⟩ : ∃ y : Nat, z % 16 = y := ⟨(z % 16).toNat, by omega⟩
        have hand : bits .and .i64 z 15 = (y : Int) := (i64_and15 z).trans hy
        have hy16 : y < 16 := by omega
        obtain ⟨nn, hnn'⟩ : ∃ nn : Nat, nn = 1 + y := ⟨_, rfl⟩
        have hnn : (1 : Int) + (y : Int) = (nn : Int) := by omega
        have hn1 : 1 ≤ nn := by omega
        have hn2 : nn ≤ 16 := by omega
        clear hy hnn'
        have hpc := readOut_piece f (nn : Int) 1000 e s.R (s.R.length - k) k [] (out.map (·.1)) rfl (by rw [List.length_map]; simp; omega)
        obtain ⟨r1, k', hq1, hq2, hq3, hq4, hq5, hq6, hq7⟩ := hpc
        have hfx := hfetch wr hBk (nn : Int) k
        rw [hq1] at hfx
        dsimp only at hfx
        have hr1n : (r1.length : Int) ≤ (nn : Int) := hq5 (by simp)
        have hk'R : k' ≤ s.R.length := hq4 hkR
        have hr1k : r1.length ≤ k' - k := by simpa using hq7
        rw [List.append_nil] at hq2
        have HQ2 := Lib.hid (hro.trans hq2)
        have HQ6 := Lib.hid (fun h => hq6 h (by first | (simp; done) | (simp; omega)))
        have Hv := Lib.hid hv
        have hkk' : (k : Int) ≤ k' := by omega
        clear hq1 hq2 hq4 hq5 hq6 hq7 hro hv
        go_wp2_with fail
        refine hfx.mono ?_
        rintro x w5 ⟨v5, rfl, hR5, hb5⟩
        have hB5 := below_step hBk hb5
        obtain ⟨Lr, hLr, hsrc, hval⟩ := recs_source hR5
        obtain ⟨a5, c5, rfl, -⟩ := hR5
        have ho5 := owns_same ho fun b e => hb5.block b (ho.lt b e).2
        have Hval := Lib.hid hval
        have HLr := Lib.hid hLr
        have hLrl : Lr.length = r1.length := by rw [← hLr, List.length_map]
        have hz5 := hb5.size
        have hgal : ∀ g, (Value.slice ao out.length co).ownBlock = some g → g < wr.heap.size := fun g hg => (ho.lt g hg).2
        have Hgal := Lib.hid hgal
        have Hb5 := Lib.hid hb5
        have hbs := hBk.size
        clear hfx hb5 hval hLr hgal ho
        go_wp2_with (at_builtin; refine wpList_append_src rfl _ _ _ rfl w1.heap.size 32 j0 (.agg #[.int .i64 0, .int .i64 0, .int .i64 0, .int .i64 0, .slice none 0 0]) 5 56 Try.underlying35 hj0 hy0 hy1 hy2 rfl (by decide) _ _ out.length r1.length (recCells out) (recCells Lr) (by rfl) (by rfl) ho5 hsrc (by rw [recCells, flat5_length _ (fun _ => rfl), hLrl]) (rec_oneCells (fun x hx => (Hval.out x hx).2.2)) (by unfold maxLen; omega) (by omega) (by omega) ?_)
        intro v6 w6 hown6 hgrow6 hloc6
        have hown6' : w6.ownsRow w1.heap.size 32 5 v6 (out ++ Lr).length (recCells (out ++ Lr)) := by
          rw [List.length_append, hLrl]
          have : recCells (out ++ Lr) = recCells out ++ recCells Lr := by simp [recCells]
          rw [this]; exact hown6
        have hB6 := hB5.grown hgrow6 (Nat.le_trans hBk.size Hb5.out.size) (fun b e => (ho5.lt b e).1)
        have hval6 : ∀ x ∈ out ++ Lr, BytesAt w6 x.2 x.1.v ∧ ∀ b, Value.blk x.2 = some b → v6.ownBlock ≠ some b := fun x hx => by
          have key : BytesAt w5 x.2 x.1.v ∧ ∀ b, Value.blk x.2 = some b → (Value.slice ao out.length co).ownBlock ≠ some b := by
            rcases List.mem_append.1 hx with hx | hx
            · exact ⟨(Hv.out x hx).1.below Hb5.out, (Hv.out x hx).2⟩
            · exact ⟨(Hval.out x hx).1, fun b hb he => by have := Hgal.out b he; have := (Hval.out x hx).2.1 b hb; omega⟩
          refine ⟨key.1.same fun b hb => hgrow6.block b (key.1.lt hb) (fun e => key.2 b hb e.symm), fun b hb he => ?_⟩
          rcases hloc6 with h | h
          · exact key.2 b hb (h ▸ he)
          · rw [h] at he; cases he; have := key.1.lt hb; omega
        have hlen6 : (out ++ Lr).length ≤ k' := by rw [List.length_append, hLrl]; omega
        have hmap6 : (out ++ Lr).map (·.1) = out.map (·.1) ++ r1 := by rw [List.map_append, HLr.out]
        generalize hO6 : out ++ Lr = out6 at *
        have HO6 := Lib.hid hO6
        have Hval6 := Lib.hid hval6
        have Hmap6 := Lib.hid hmap6
        have HB6 := Lib.hid hB6
        obtain ⟨a6, c6, rfl, -, -, -, -⟩ := owns_form hown6'
        have Hown6 := Lib.hid hown6'
        clear hown6 hgrow6 hloc6 hval6 hmap6 hO6 hB6 hown6' ho5 hsrc hLrl
        by_cases hkk : k' = k
        · have hfin := HQ6.out hkk
          have Hend : RowKit.Hid (readOut f 1000 e (s.R.drop 0) (0 : Nat) [] = (out6.map (·.1), (k : Int))) := Lib.hid (by
            rw [HQ2.out, Hmap6.out, hkk]
            rcases Nat.lt_or_ge k s.R.length with hlt | hge
            · rcases hfin.2 with h | h
              · exact readOut_stop (List.getElem?_eq_getElem hlt) (.inl h)
              · omega
            · exact readOut_nil hge)
          have hke : ((k' : Int) == (k : Int)) = true := by simp [hkk]
          subst hkk
          clear hfin
          go_wp2_with fail
          go_meet
          exact ⟨out6, _, rfl, Hown6.out, fun x hx => (Hval6.out x hx).1, by rw [Hend.out], HB6.out⟩
        · have hke : ((k' : Int) == (k : Int)) = false := by simp; omega
          have hik : i + 1 ≤ k' := by omega
          clear hkk
          go_wp2_with fail
          go_roundw
          case rel => exact ⟨i + 1, k', out6, by omega, by omega, by omega, by go_num, rfl, Hown6.out, Hval6.out, by omega, HB6.out, by rw [Hmap6.out]; exact HQ2.out⟩
          case measure => first | (simp [intOf]; done) | (simp [intOf]; omega)
      · have hpc := readOut_piece f (1 : Int) 1000 e s.R (s.R.length - k) k [] (out.map (·.1)) rfl (by rw [List.length_map]; simp; omega)
        obtain ⟨r1, k', hq1, hq2, hq3, hq4, hq5, hq6, hq7⟩ := hpc
        have hfx := hfetch wr hBk (1 : Int) k
        rw [hq1] at hfx
        dsimp only at hfx
        have hr1n : (r1.length : Int) ≤ (1 : Int) := hq5 (by simp)
        have hk'R : k' ≤ s.R.length := hq4 hkR
        have hr1k : r1.length ≤ k' - k := by simpa using hq7
        rw [List.append_nil] at hq2
        have HQ2 := Lib.hid (hro.trans hq2)
        have HQ6 := Lib.hid (fun h => hq6 h (by first | (simp; done) | (simp; omega)))
        have Hv := Lib.hid hv
        have hkk' : (k : Int) ≤ k' := by omega
        clear hq1 hq2 hq4 hq5 hq6 hq7 hro hv
        go_wp2_with fail
        refine hfx.mono ?_
        rintro x w5 ⟨v5, rfl, hR5, hb5⟩
        have hB5 := below_step hBk hb5
        obtain ⟨Lr, hLr, hsrc, hval⟩ := recs_source hR5
        obtain ⟨a5, c5, rfl, -⟩ := hR5
        have ho5 := owns_same ho fun b e => hb5.block b (ho.lt b e).2
        have Hval := Lib.hid hval
        have HLr := Lib.hid hLr
        have hLrl : Lr.length = r1.length := by rw [← hLr, List.length_map]
        have hz5 := hb5.size
        have hgal : ∀ g, (Value.slice ao out.length co).ownBlock = some g → g < wr.heap.size := fun g hg => (ho.lt g hg).2
        have Hgal := Lib.hid hgal
        have Hb5 := Lib.hid hb5
        have hbs := hBk.size
        clear hfx hb5 hval hLr hgal ho
        go_wp2_with (at_builtin; refine wpList_append_src rfl _ _ _ rfl w1.heap.size 32 j0 (.agg #[.int .i64 0, .int .i64 0, .int .i64 0, .int .i64 0, .slice none 0 0]) 5 56 Try.underlying35 hj0 hy0 hy1 hy2 rfl (by decide) _ _ out.length r1.length (recCells out) (recCells Lr) (by rfl) (by rfl) ho5 hsrc (by rw [recCells, flat5_length _ (fun _ => rfl), hLrl]) (rec_oneCells (fun x hx => (Hval.out x hx).2.2)) (by unfold maxLen; omega) (by omega) (by omega) ?_)
        intro v6 w6 hown6 hgrow6 hloc6
        have hown6' : w6.ownsRow w1.heap.size 32 5 v6 (out ++ Lr).length (recCells (out ++ Lr)) := by
          rw [List.length_append, hLrl]
          have : recCells (out ++ Lr) = recCells out ++ recCells Lr := by simp [recCells]
          rw [this]; exact hown6
        have hB6 := hB5.grown hgrow6 (Nat.le_trans hBk.size Hb5.out.size) (fun b e => (ho5.lt b e).1)
        have hval6 : ∀ x ∈ out ++ Lr, BytesAt w6 x.2 x.1.v ∧ ∀ b, Value.blk x.2 = some b → v6.ownBlock ≠ some b := fun x hx => by
          have key : BytesAt w5 x.2 x.1.v ∧ ∀ b, Value.blk x.2 = some b → (Value.slice ao out.length co).ownBlock ≠ some b := by
            rcases List.mem_append.1 hx with hx | hx
            · exact ⟨(Hv.out x hx).1.below Hb5.out, (Hv.out x hx).2⟩
            · exact ⟨(Hval.out x hx).1, fun b hb he => by have := Hgal.out b he; have := (Hval.out x hx).2.1 b hb; omega⟩
          refine ⟨key.1.same fun b hb => hgrow6.block b (key.1.lt hb) (fun e => key.2 b hb e.symm), fun b hb he => ?_⟩
          rcases hloc6 with h | h
          · exact key.2 b hb (h ▸ he)
          · rw [h] at he; cases he; have := key.1.lt hb; omega
        have hlen6 : (out ++ Lr).length ≤ k' := by rw [List.length_append, hLrl]; omega
        have hmap6 : (out ++ Lr).map (·.1) = out.map (·.1) ++ r1 := by rw [List.map_append, HLr.out]
        generalize hO6 : out ++ Lr = out6 at *
        have HO6 := Lib.hid hO6
        have Hval6 := Lib.hid hval6
        have Hmap6 := Lib.hid hmap6
        have HB6 := Lib.hid hB6
        obtain ⟨a6, c6, rfl, -, -, -, -⟩ := owns_form hown6'
        have Hown6 := Lib.hid hown6'
        clear hown6 hgrow6 hloc6 hval6 hmap6 hO6 hB6 hown6' ho5 hsrc hLrl
        by_cases hkk : k' = k
        · have hfin := HQ6.out hkk
          have Hend : RowKit.Hid (readOut f 1000 e (s.R.drop 0) (0 : Nat) [] = (out6.map (·.1), (k : Int))) := Lib.hid (by
            rw [HQ2.out, Hmap6.out, hkk]
            rcases Nat.lt_or_ge k s.R.length with hlt | hge
            · rcases hfin.2 with h | h
              · exact readOut_stop (List.getElem?_eq_getElem hlt) (.inl h)
              · omega
            · exact readOut_nil hge)
          have hke : ((k' : Int) == (k : Int)) = true := by simp [hkk]
          subst hkk
          clear hfin
          go_wp2_with fail
          go_meet
          exact ⟨out6, _, rfl, Hown6.out, fun x hx => (Hval6.out x hx).1, by rw [Hend.out], HB6.out⟩
        · have hke : ((k' : Int) == (k : Int)) = false := by simp; omega
          have hik : i + 1 ≤ k' := by omega
          clear hkk
          go_wp2_with fail
          go_roundw
          case rel => exact ⟨i + 1, k', out6, by omega, by omega, by omega, by go_num, rfl, Hown6.out, Hval6.out, by omega, HB6.out, by rw [Hmap6.out]; exact HQ2.out⟩
          case measure => first | (simp [intOf]; done) | (simp [intOf]; omega)
  case rest =>
    obtain ⟨out, a9, rfl, ho9, hv9, hm9, hB9⟩ := hcut
    have hR9 := recs_of_owns ho9 hv9
    generalize hTT : (readOut f 1000 e (s.R.drop 0) (0 : Nat) []).1 = T at *
    have HTT := Lib.hid hTT
    rw [hm9] at hR9
    clear ho9 hv9 hm9 hfetch hTT
    obtain ⟨p9, c9, rfl, -⟩ := id hR9
    have HR9 := Lib.hid hR9
    clear hR9
    go_wp2_with fail
    refine (Hra.out _ hB9).mono ?_
    rintro x w10 ⟨v10, rfl, hR10, hb10⟩
    have hB10 := below_step hB9 hb10
    replace hR10 : RecsAt w10 v10 T := by rw [← HTT.out, ← Hff.out, ← Hee.out]; exact hR10
    have hR10' := hR10
    obtain ⟨a10, c10, rfl, -⟩ := hR10'
    have HR10 := Lib.hid hR10
    replace HR9 := Lib.hid (HR9.out.below hb10)
    clear hb10 hB9 hR10
    have hrec : Calls Try.prog 20 #[.slice p9 T.length c9, .slice a10 T.length c10] w10 (Ret (.bool true) w10) := by
      have := records11_any w10 T T _ _ HR9.out HR10.out
      rwa [show decide (T = T) = true from decide_eq_true rfl] at this
    go_wp2_with fail
    refine hrec.mono ?_
    rintro x w12 ⟨rfl, hb12⟩
    have hB12 := below_step hB10 hb12
    clear hrec hb12 hB10
    go_wp2_with fail
    refine (known12_any _).mono ?_
    rintro x w13 ⟨rfl, hb13⟩
    go_wp2_with fail
    go_ret
    exact Ret.bool rfl (below_step HB.out (below_step hB12 hb13))


set_option maxRecDepth 100000 in
set_option maxHeartbeats 6400000 in
theorem fetchPieces_true (w : World) (v : Value) (L : List PL.Act) (h : ActsAt w v L) (zv : Value) (Z : List Int) (hZ : IntsAt w zv Z) :
    Calls Try.prog 7 #[v, zv, .bool true] w (Ret (.bool true) w) := by
  have hlong := long12_any w v L h
  have hlaid := laid_any w v L h
  obtain ⟨hO, hS, hR⟩ := laid_facts L
  generalize PL.St.new.plays (L.take 80) = s at *
  obtain ⟨a, c, rfl, -⟩ := h
  obtain ⟨az, cz, rfl, hz1, hz2, hz3⟩ := hZ
  have HO := Lib.hid hO
  have Hz := Lib.hid hz3
  clear hO hz3
  go_enter Try.func7, Try.ntmps7
  go_wp2_with fail
  refine hlong.mono ?_
  rintro x w1 ⟨b, rfl, rfl⟩
  clear hlong
  cases b
  case true =>
    go_wp2_with fail
    go_ret
    exact Ret.bool rfl (below_refl _)
  by_cases hz60 : 60 < Z.length
  · go_wp2_with fail
    go_ret
    exact Ret.bool rfl (below_refl _)
  go_wp2_with fail
  refine hlaid.mono ?_
  rintro x w1 ⟨p, q, rfl, hT⟩
  clear hlaid
  have hB := hT.below
  obtain ⟨M, V, N, U, hBo, -⟩ := hT
  obtain ⟨hP, hX, -⟩ := hBo
  have hfetch : ∀ W (_ : Below w1.heap.size w1 W) (n : Int) (k : Nat), Calls Try.prog 32 #[.pointer (some ⟨p, 0, none⟩), .int .i64 k, .int .i64 n] W (ReadV W (readOut (isCommX s) n s.stable (s.R.drop k) k []).1 (readOut (isCommX s) n s.stable (s.R.drop k) k []).2) := fun W hb n k => by
    have := fetchCommitted_any W p s M V (hP.below hb) (by omega) hS HO.out.vals k n k (by omega)
    rwa [isComm_X HO.out] at this
  have hra := fun W (hb : Below w1.heap.size w1 W) => any12_any W q s N U (hX.below hb) (by omega) 0 1000 0 (by decide)
  have hrc := fun W (hb : Below w1.heap.size w1 W) => committed12_any W q s N U (hX.below hb) (by omega) (stable_le s) 0 1000 0 (by decide)
  have Hra := Lib.hid hra
  have Hrc := Lib.hid hrc
  have HB := Lib.hid hB
  obtain ⟨j0, hj0, hy0, hy1, hy2⟩ := info_parts Try.infoRec
  have hsl := stable_le s
  generalize hff : isCommX s = f at hfetch
  generalize hee : s.stable = e at hfetch
  have Hff := Lib.hid hff
  have Hee := Lib.hid hee
  clear hff hee hsl hra hrc hP hX hB
  go_upto_block 0 with fail
  go_cut [9] (fun s9 wx => ∃ (out : List (PL.Rec × Value)) (a9 : Value), s9 = a9 ∧ wx.ownsRow w1.heap.size 32 5 a9 out.length (recCells out) ∧ (∀ x ∈ out, BytesAt wx x.2 x.1.v) ∧ out.map (·.1) = (readOut f 1000 e (s.R.drop 0) (0 : Nat) []).1 ∧ Below w1.heap.size w1 wx)
  case first =>
    go_wp2_with fail
    go_loopw [9, 10, 11] (fun av kv iv wr => ∃ (i k : Nat) (out : List (PL.Rec × Value)), i ≤ k ∧ k ≤ s.R.length ∧ out.length ≤ k ∧ iv = .int .i64 i ∧ kv = .int .i64 k ∧ wr.ownsRow w1.heap.size 32 5 av out.length (recCells out) ∧ (∀ x ∈ out, BytesAt wr x.2 x.1.v ∧ ∀ b, Value.blk x.2 = some b → av.ownBlock ≠ some b) ∧ i ≤ 80 ∧ Below w1.heap.size w1 wr ∧ readOut f 1000 e (s.R.drop 0) (0 : Nat) [] = readOut f 1000 e (s.R.drop k) k (out.map (·.1))) (fun _ _ iv _ => 400 - (intOf iv).toNat)
    case atStart => exact ⟨0, 0, [], Nat.le_refl _, Nat.zero_le _, Nat.zero_le _, rfl, rfl, World.ownsRow_nil _ _ _ _, (fun x hx => by cases hx), by omega, below_refl _, rfl⟩
    case round =>
      obtain ⟨i, k, out, hik0, hkR, hok, rfl, rfl, ho, hv, hi80, hBk, hro⟩ := hrel
      obtain ⟨ao, co, rfl, ho1, ho2, -, -⟩ := owns_form ho
      by_cases hiz : i < Z.length
      · obtain ⟨bz, oz, rfl, hcz⟩ := Hz.out i _ (List.getElem?_eq_getElem hiz)
        replace hcz := cell_below (cell_below hcz HB.out) hBk
        generalize Z[i] = z at *
        obtain ⟨y, hy⟩ : ∃ y : Nat, z % 16 = y := ⟨(z % 16).toNat, by omega⟩
        have hand : bits .and .i64 z 15 = (y : Int) := (i64_and15 z).trans hy
        have hy16 : y < 16 := by omega
        obtain ⟨nn, hnn'⟩ : ∃ nn : Nat, nn = 1 + y := ⟨_, rfl⟩
        have hnn : (1 : Int) + (y : Int) = (nn : Int) := by omega
        have hn1 : 1 ≤ nn := by omega
        have hn2 : nn ≤ 16 := by omega
        clear hy hnn'
        have hpc := readOut_piece f (nn : Int) 1000 e s.R (s.R.length - k) k [] (out.map (·.1)) rfl (by rw [List.length_map]; simp; omega)
        obtain ⟨r1, k', hq1, hq2, hq3, hq4, hq5, hq6, hq7⟩ := hpc
        have hfx := hfetch wr hBk (nn : Int) k
        rw [hq1] at hfx
        dsimp only at hfx
        have hr1n : (r1.length : Int) ≤ (nn : Int) := hq5 (by simp)
        have hk'R : k' ≤ s.R.length := hq4 hkR
        have hr1k : r1.length ≤ k' - k := by simpa using hq7
        rw [List.append_nil] at hq2
        have HQ2 := Lib.hid (hro.trans hq2)
        have HQ6 := Lib.hid (fun h => hq6 h (by first | (simp; done) | (simp; omega)))
        have Hv := Lib.hid hv
        have hkk' : (k : Int) ≤ k' := by omega
        clear hq1 hq2 hq4 hq5 hq6 hq7 hro hv
        go_wp2_with fail
        refine hfx.mono ?_
        rintro x w5 ⟨v5, rfl, hR5, hb5⟩
        have hB5 := below_step hBk hb5
        obtain ⟨Lr, hLr, hsrc, hval⟩ := recs_source hR5
        obtain ⟨a5, c5, rfl, -⟩ := hR5
        have ho5 := owns_same ho fun b e => hb5.block b (ho.lt b e).2
        have Hval := Lib.hid hval
        have HLr := Lib.hid hLr
        have hLrl : Lr.length = r1.length := by rw [← hLr, List.length_map]
        have hz5 := hb5.size
        have hgal : ∀ g, (Value.slice ao out.length co).ownBlock = some g → g < wr.heap.size := fun g hg => (ho.lt g hg).2
        have Hgal := Lib.hid hgal
        have Hb5 := Lib.hid hb5
        have hbs := hBk.size
        clear hfx hb5 hval hLr hgal ho
        go_wp2_with (at_builtin; refine wpList_append_src rfl _ _ _ rfl w1.heap.size 32 j0 (.agg #[.int .i64 0, .int .i64 0, .int .i64 0, .int .i64 0, .slice none 0 0]) 5 56 Try.underlying35 hj0 hy0 hy1 hy2 rfl (by decide) _ _ out.length r1.length (recCells out) (recCells Lr) (by rfl) (by rfl) ho5 hsrc (by rw [recCells, flat5_length _ (fun _ => rfl), hLrl]) (rec_oneCells (fun x hx => (Hval.out x hx).2.2)) (by unfold maxLen; omega) (by omega) (by omega) ?_)
        intro v6 w6 hown6 hgrow6 hloc6
        have hown6' : w6.ownsRow w1.heap.size 32 5 v6 (out ++ Lr).length (recCells (out ++ Lr)) := by
          rw [List.length_append, hLrl]
          have : recCells (out ++ Lr) = recCells out ++ recCells Lr := by simp [recCells]
          rw [this]; exact hown6
        have hB6 := hB5.grown hgrow6 (Nat.le_trans hBk.size Hb5.out.size) (fun b e => (ho5.lt b e).1)
        have hval6 : ∀ x ∈ out ++ Lr, BytesAt w6 x.2 x.1.v ∧ ∀ b, Value.blk x.2 = some b → v6.ownBlock ≠ some b := fun x hx => by
          have key : BytesAt w5 x.2 x.1.v ∧ ∀ b, Value.blk x.2 = some b → (Value.slice ao out.length co).ownBlock ≠ some b := by
            rcases List.mem_append.1 hx with hx | hx
            · exact ⟨(Hv.out x hx).1.below Hb5.out, (Hv.out x hx).2⟩
            · exact ⟨(Hval.out x hx).1, fun b hb he => by have := Hgal.out b he; have := (Hval.out x hx).2.1 b hb; omega⟩
          refine ⟨key.1.same fun b hb => hgrow6.block b (key.1.lt hb) (fun e => key.2 b hb e.symm), fun b hb he => ?_⟩
          rcases hloc6 with h | h
          · exact key.2 b hb (h ▸ he)
          · rw [h] at he; cases he; have := key.1.lt hb; omega
        have hlen6 : (out ++ Lr).length ≤ k' := by rw [List.length_append, hLrl]; omega
        have hmap6 : (out ++ Lr).map (·.1) = out.map (·.1) ++ r1 := by rw [List.map_append, HLr.out]
        generalize hO6 : out ++ Lr = out6 at *
        have HO6 := Lib.hid hO6
        have Hval6 := Lib.hid hval6
        have Hmap6 := Lib.hid hmap6
        have HB6 := Lib.hid hB6
        obtain ⟨a6, c6, rfl, -, -, -, -⟩ := owns_form hown6'
        have Hown6 := Lib.hid hown6'
        clear hown6 hgrow6 hloc6 hval6 hmap6 hO6 hB6 hown6' ho5 hsrc hLrl
        by_cases hkk : k' = k
        · have hfin := HQ6.out hkk
          have Hend : RowKit.Hid (readOut f 1000 e (s.R.drop 0) (0 : Nat) [] = (out6.map (·.1), (k : Int))) := Lib.hid (by
            rw [HQ2.out, Hmap6.out, hkk]
            rcases Nat.lt_or_ge k s.R.length with hlt | hge
            · rcases hfin.2 with h | h
              · exact readOut_stop (List.getElem?_eq_getElem hlt) (.inl h)
              · omega
            · exact readOut_nil hge)
          have hke : ((k' : Int) == (k : Int)) = true := by simp [hkk]
          subst hkk
          clear hfin
          go_wp2_with fail
          go_meet
          exact ⟨out6, _, rfl, Hown6.out, fun x hx => (Hval6.out x hx).1, by rw [Hend.out], HB6.out⟩
        · have hke : ((k' : Int) == (k : Int)) = false := by simp; omega
          have hik : i + 1 ≤ k' := by omega
          clear hkk
          go_wp2_with fail
          go_roundw
          case rel => exact ⟨i + 1, k', out6, by omega, by omega, by omega, by go_num, rfl, Hown6.out, Hval6.out, by omega, HB6.out, by rw [Hmap6.out]; exact HQ2.out⟩
          case measure => first | (simp [intOf]; done) | (simp [intOf]; omega)
      · have hpc := readOut_piece f (1 : Int) 1000 e s.R (s.R.length - k) k [] (out.map (·.1)) rfl (by rw [List.length_map]; simp; omega)
        obtain ⟨r1, k', hq1, hq2, hq3, hq4, hq5, hq6, hq7⟩ := hpc
        have hfx := hfetch wr hBk (1 : Int) k
        rw [hq1] at hfx
        dsimp only at hfx
        have hr1n : (r1.length : Int) ≤ (1 : Int) := hq5 (by simp)
        have hk'R : k' ≤ s.R.length := hq4 hkR
        have hr1k : r1.length ≤ k' - k := by simpa using hq7
        rw [List.append_nil] at hq2
        have HQ2 := Lib.hid (hro.trans hq2)
        have HQ6 := Lib.hid (fun h => hq6 h (by first | (simp; done) | (simp; omega)))
        have Hv := Lib.hid hv
        have hkk' : (k : Int) ≤ k' := by omega
        clear hq1 hq2 hq4 hq5 hq6 hq7 hro hv
        go_wp2_with fail
        refine hfx.mono ?_
        rintro x w5 ⟨v5, rfl, hR5, hb5⟩
        have hB5 := below_step hBk hb5
        obtain ⟨Lr, hLr, hsrc, hval⟩ := recs_source hR5
        obtain ⟨a5, c5, rfl, -⟩ := hR5
        have ho5 := owns_same ho fun b e => hb5.block b (ho.lt b e).2
        have Hval := Lib.hid hval
        have HLr := Lib.hid hLr
        have hLrl : Lr.length = r1.length := by rw [← hLr, List.length_map]
        have hz5 := hb5.size
        have hgal : ∀ g, (Value.slice ao out.length co).ownBlock = some g → g < wr.heap.size := fun g hg => (ho.lt g hg).2
        have Hgal := Lib.hid hgal
        have Hb5 := Lib.hid hb5
        have hbs := hBk.size
        clear hfx hb5 hval hLr hgal ho
        go_wp2_with (at_builtin; refine wpList_append_src rfl _ _ _ rfl w1.heap.size 32 j0 (.agg #[.int .i64 0, .int .i64 0, .int .i64 0, .int .i64 0, .slice none 0 0]) 5 56 Try.underlying35 hj0 hy0 hy1 hy2 rfl (by decide) _ _ out.length r1.length (recCells out) (recCells Lr) (by rfl) (by rfl) ho5 hsrc (by rw [recCells, flat5_length _ (fun _ => rfl), hLrl]) (rec_oneCells (fun x hx => (Hval.out x hx).2.2)) (by unfold maxLen; omega) (by omega) (by omega) ?_)
        intro v6 w6 hown6 hgrow6 hloc6
        have hown6' : w6.ownsRow w1.heap.size 32 5 v6 (out ++ Lr).length (recCells (out ++ Lr)) := by
          rw [List.length_append, hLrl]
          have : recCells (out ++ Lr) = recCells out ++ recCells Lr := by simp [recCells]
          rw [this]; exact hown6
        have hB6 := hB5.grown hgrow6 (Nat.le_trans hBk.size Hb5.out.size) (fun b e => (ho5.lt b e).1)
        have hval6 : ∀ x ∈ out ++ Lr, BytesAt w6 x.2 x.1.v ∧ ∀ b, Value.blk x.2 = some b → v6.ownBlock ≠ some b := fun x hx => by
          have key : BytesAt w5 x.2 x.1.v ∧ ∀ b, Value.blk x.2 = some b → (Value.slice ao out.length co).ownBlock ≠ some b := by
            rcases List.mem_append.1 hx with hx | hx
            · exact ⟨(Hv.out x hx).1.below Hb5.out, (Hv.out x hx).2⟩
            · exact ⟨(Hval.out x hx).1, fun b hb he => by have := Hgal.out b he; have := (Hval.out x hx).2.1 b hb; omega⟩
          refine ⟨key.1.same fun b hb => hgrow6.block b (key.1.lt hb) (fun e => key.2 b hb e.symm), fun b hb he => ?_⟩
          rcases hloc6 with h | h
          · exact key.2 b hb (h ▸ he)
          · rw [h] at he; cases he; have := key.1.lt hb; omega
        have hlen6 : (out ++ Lr).length ≤ k' := by rw [List.length_append, hLrl]; omega
        have hmap6 : (out ++ Lr).map (·.1) = out.map (·.1) ++ r1 := by rw [List.map_append, HLr.out]
        generalize hO6 : out ++ Lr = out6 at *
        have HO6 := Lib.hid hO6
        have Hval6 := Lib.hid hval6
        have Hmap6 := Lib.hid hmap6
        have HB6 := Lib.hid hB6
        obtain ⟨a6, c6, rfl, -, -, -, -⟩ := owns_form hown6'
        have Hown6 := Lib.hid hown6'
        clear hown6 hgrow6 hloc6 hval6 hmap6 hO6 hB6 hown6' ho5 hsrc hLrl
        by_cases hkk : k' = k
        · have hfin := HQ6.out hkk
          have Hend : RowKit.Hid (readOut f 1000 e (s.R.drop 0) (0 : Nat) [] = (out6.map (·.1), (k : Int))) := Lib.hid (by
            rw [HQ2.out, Hmap6.out, hkk]
            rcases Nat.lt_or_ge k s.R.length with hlt | hge
            · rcases hfin.2 with h | h
              · exact readOut_stop (List.getElem?_eq_getElem hlt) (.inl h)
              · omega
            · exact readOut_nil hge)
          have hke : ((k' : Int) == (k : Int)) = true := by simp [hkk]
          subst hkk
          clear hfin
          go_wp2_with fail
          go_meet
          exact ⟨out6, _, rfl, Hown6.out, fun x hx => (Hval6.out x hx).1, by rw [Hend.out], HB6.out⟩
        · have hke : ((k' : Int) == (k : Int)) = false := by simp; omega
          have hik : i + 1 ≤ k' := by omega
          clear hkk
          go_wp2_with fail
          go_roundw
          case rel => exact ⟨i + 1, k', out6, by omega, by omega, by omega, by go_num, rfl, Hown6.out, Hval6.out, by omega, HB6.out, by rw [Hmap6.out]; exact HQ2.out⟩
          case measure => first | (simp [intOf]; done) | (simp [intOf]; omega)
  case rest =>
    obtain ⟨out, a9, rfl, ho9, hv9, hm9, hB9⟩ := hcut
    have hR9 := recs_of_owns ho9 hv9
    generalize hTT : (readOut f 1000 e (s.R.drop 0) (0 : Nat) []).1 = T at *
    have HTT := Lib.hid hTT
    rw [hm9] at hR9
    clear ho9 hv9 hm9 hfetch hTT
    obtain ⟨p9, c9, rfl, -⟩ := id hR9
    have HR9 := Lib.hid hR9
    clear hR9
    go_wp2_with fail
    refine (Hra.out _ hB9).mono ?_
    rintro x w10 ⟨v10, rfl, hR10, hb10⟩
    have hB10 := below_step hB9 hb10
    have hR10' := hR10
    obtain ⟨a10, c10, rfl, -⟩ := hR10'
    have HR10 := Lib.hid hR10
    replace HR9 := Lib.hid (HR9.out.below hb10)
    clear hb10 hB9 hR10
    go_wp2_with fail
    refine (Hrc.out _ hB10).mono ?_
    rintro x w11 ⟨v11, rfl, hR11, hb11⟩
    have hB11 := below_step hB10 hb11
    replace hR11 : RecsAt w11 v11 T := by rw [← HTT.out, ← Hff.out, ← Hee.out]; exact hR11
    have hR11' := hR11
    obtain ⟨a11, c11, rfl, -⟩ := hR11'
    have HR11 := Lib.hid hR11
    replace HR9 := Lib.hid (HR9.out.below hb11)
    have hrec : Calls Try.prog 20 #[.slice p9 T.length c9, .slice a11 T.length c11] w11 (Ret (.bool true) w11) := by
      have := records11_any w11 T T _ _ HR9.out HR11.out
      rwa [show decide (T = T) = true from decide_eq_true rfl] at this
    clear hb11 hB10 hR11
    go_wp2_with fail
    refine hrec.mono ?_
    rintro x w12 ⟨rfl, hb12⟩
    have hB12 := below_step hB11 hb12
    clear hrec hb12 hB11
    go_wp2_with fail
    refine (known12_any _).mono ?_
    rintro x w13 ⟨rfl, hb13⟩
    go_wp2_with fail
    go_ret
    exact Ret.bool rfl (below_step HB.out (below_step hB12 hb13))


theorem fetchPieces_walk (w : World) (v : Value) (L : List PL.Act) (h : ActsAt w v L) (zv : Value) (Z : List Int) (hZ : IntsAt w zv Z) (b : Bool) :
    Calls Try.prog 7 #[v, zv, .bool b] w (Ret (.bool true) w) := by
  cases b
  · exact fetchPieces_false w v L h zv Z hZ
  · exact fetchPieces_true w v L h zv Z hZ

end Go.Proofs.Ytjjlbancofkinaa
