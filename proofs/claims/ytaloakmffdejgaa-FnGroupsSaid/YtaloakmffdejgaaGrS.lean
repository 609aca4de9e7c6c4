/- The law of groups, walked. -/
import Derived.Test.YtaloakmffdejgaaGrR
set_option linter.unusedSimpArgs false
set_option linter.unusedVariables false
set_option maxRecDepth 100000
set_option maxHeartbeats 8000000
namespace Go.Proofs.Ytaloakmffdejgaa
open Go Go.Fw

theorem rcs_take : ∀ (rs : List (Int × Int)) (k : Nat), (rcs rs).take (k * 2) = rcs (rs.take k) := fl_take rc 2 (fun _ => rfl)
theorem rcs_drop : ∀ (rs : List (Int × Int)) (k : Nat), (rcs rs).drop (k * 2) = rcs (rs.drop k) := fl_drop rc 2 (fun _ => rfl)

theorem okRs_part {rs A B : List (Int × Int)} (h : okRs rs = true) (e : rs = A ++ B) : okRs A = true ∧ okRs B = true := by
  unfold okRs at *
  subst e
  simp only [List.length_append, List.all_append, Bool.and_eq_true, decide_eq_true_eq] at *
  exact ⟨⟨by omega, h.2.1⟩, by omega, h.2.2⟩

theorem total_nonneg : ∀ (G : List Gp), (∀ g ∈ G, 0 ≤ g.count) → 0 ≤ total G
  | [], _ => by simp [total]
  | g :: G, h => by
    rw [show g :: G = [g] ++ G from rfl, total_append, total_one]
    have h1 := h g (by simp)
    have h2 := total_nonneg G fun x hx => h x (by simp [hx])
    omega

theorem total_take {G : List Gp} (h : ∀ g ∈ G, 0 ≤ g.count) (i : Nat) : 0 ≤ total (G.take i) ∧ total (G.take i) ≤ total G := by
  have e : total G = total (G.take i) + total (G.drop i) := by rw [← total_append, List.take_append_drop]
  have h1 := total_nonneg (G.take i) fun g hg => h g (List.mem_of_mem_take hg)
  have h2 := total_nonneg (G.drop i) fun g hg => h g (List.mem_of_mem_drop hg)
  omega

theorem c_FnGroups (code : List UInt8) : PCE Try.prog 4 [.vz 1 code.length (bys code)] [] (fun r h => r = .bool true ∧ h = []) := by
  refine PCE.of_body tok Try.func4 (by kernel_rfl) rfl Try.ntmps4 (by rw [Try.results4]) (by simp) (W_go tok mix [0, 2, 3, 4, 5, 6, 7, 8, 9, 10, 11, 12, 13, 14, 15, 16, 17] (by decide +kernel) rfl ?_)
  simp +decide only [go_sem, Nat.reduceAdd, Nat.reduceSub, Nat.reduceMul]
  refine CallJ.of0 1 (c_vBig 1 code.length (bys code)) (by simp +decide [go_sem]) ?_
  rintro _ _ ⟨rfl, rfl⟩
  refine ⟨by simp [go_sem], by simp [go_sem], ?_⟩
  simp +decide  only [go_sem, Nat.reduceAdd, Nat.reduceSub, Nat.reduceMul]
  refine BrJ.ofP (fun h1 => ?_) fun h1 => ?_
  · simp +decide  only [go_sem, Nat.reduceAdd, Nat.reduceSub, Nat.reduceMul, h1]
    refine Ret.sel [] rfl (by simp +decide [go_sem]) ?_
    exact ⟨rfl, rfl⟩
  · have hc : code.length ≤ 1000000 := by omega
    simp +decide  only [go_sem, Nat.reduceAdd, Nat.reduceSub, Nat.reduceMul, h1]
    refine CallJ.of0 1 (c_draw 1 code hc) (by simp +decide [go_sem]) ?_
    rintro _ _ ⟨rs, ver, rfl, hn, hb, rfl⟩
    refine ⟨by simp [go_sem], by simp [go_sem], ?_⟩
    simp +decide  only [go_sem, Nat.reduceAdd, Nat.reduceSub, Nat.reduceMul]
    refine CallJ.of [] (2) (c_GroupRecords 2 rs (by omega)) (by simp +decide [go_sem, take_rcs]) ?_
    rintro _ _ (⟨hk, rfl, rfl⟩ | ⟨hk, D, v1, l1, s1, hb1, rfl, rfl⟩)
    · refine ⟨by simp [go_sem], by simp [go_sem], ?_⟩
      simp +decide  only [go_sem, Nat.reduceAdd, Nat.reduceSub, Nat.reduceMul]
      refine CallJ.of [] (2) (c_IsValidRecordsS 2 rs (by omega)) (by simp +decide [go_sem, take_rcs]) ?_
      rintro _ _ ⟨rfl, rfl⟩
      rw [show (decide (rs.length ≤ 64) && rs.all okR) = okRs rs from rfl, hk]
      refine ⟨by simp [go_sem], by simp [go_sem], ?_⟩
      simp +decide  only [go_sem, Nat.reduceAdd, Nat.reduceSub, Nat.reduceMul]
      refine Ret.sel [] rfl (by simp +decide [go_sem]) ?_
      exact ⟨rfl, rfl⟩
    · refine ⟨by simp [go_sem], by simp [go_sem], ?_⟩
      simp +decide  only [go_sem, Nat.reduceAdd, Nat.reduceSub, Nat.reduceMul]
      refine CallJ.of [] (2) (c_IsValidRecordsS 2 rs (by omega)) (by simp +decide [go_sem, take_rcs]) ?_
      rintro _ _ ⟨rfl, rfl⟩
      rw [show (decide (rs.length ≤ 64) && rs.all okR) = okRs rs from rfl, hk]
      refine ⟨by simp [go_sem], by simp [go_sem], ?_⟩
      simp +decide  only [go_sem, Nat.reduceAdd, Nat.reduceSub, Nat.reduceMul]
      refine CallJ.of0 1 (c_vAt 1 code 7 hc (by omega)) (by simp +decide [go_sem]) ?_
      rintro _ _ ⟨x, rfl, x0, x1, rfl⟩
      refine ⟨by simp [go_sem], by simp [go_sem], ?_⟩
      have hm0 : x.tmod (rs.length + 1) = x % (rs.length + 1) := Int.tmod_eq_emod_of_nonneg x0
      have hm1 := Int.emod_nonneg x (show (rs.length : Int) + 1 ≠ 0 by omega)
      have hm2 := Int.emod_lt_of_pos x (show (0 : Int) < (rs.length : Int) + 1 by omega)
      obtain ⟨k, hkx⟩ : ∃ k : Nat, x % ((rs.length : Int) + 1) = k := ⟨(x % ((rs.length : Int) + 1)).toNat, by omega⟩
      have hkn : k ≤ rs.length := by omega
      have hne : (rs.length : Int) + 1 ≠ 0 := by omega
      have c0 : (0 : Int) ≤ k := by omega
      simp +decide  only [go_sem, Nat.reduceAdd, Nat.reduceSub, Nat.reduceMul, wrap_in (n := ↑rs.length + 1) (by omega) (by omega), hne, hm0, hkx, c0, hkn, Nat.zero_le, Nat.zero_mul, Nat.sub_zero, Nat.le_refl]
      obtain ⟨kA, kB⟩ := okRs_part hk (List.take_append_drop k rs).symm
      have lA : (rs.take k).length = k := by simp; omega
      have lB : (rs.drop k).length = rs.length - k := by simp
      have eB : (rcs (rs.drop k)).take ((rs.length - k) * 2) = rcs (rs.drop k) := by rw [← lB, take_rcs]
      refine CallJ.of [] (2) (c_GroupRecords 2 (rs.take k) (by omega)) (by simp +decide [go_sem, lA, rcs_take]) ?_
      rintro _ _ (⟨hk2, rfl, rfl⟩ | ⟨hk2, DA, vA, lA1, sA1, hbA, rfl, rfl⟩)
      · rw [hk2] at kA; cases kA
      refine ⟨by simp [go_sem], by simp [go_sem], ?_⟩
      have c1 : k ≤ rs.length ∧ rs.length ≤ rs.length := ⟨hkn, Nat.le_refl _⟩
      simp +decide  only [go_sem, Nat.reduceAdd, Nat.reduceSub, Nat.reduceMul, c0, hkn, Nat.le_refl]
      refine CallJ.of [] (2) (c_GroupRecords 2 (rs.drop k) (by omega)) (by simp +decide [go_sem, lB, rcs_drop, eB]) ?_
      rintro _ _ (⟨hk2, rfl, rfl⟩ | ⟨hk2, DB, vB, lB1, sB1, hbB, rfl, rfl⟩)
      · rw [hk2] at kB; cases kB
      refine ⟨by simp [go_sem], by simp [go_sem], ?_⟩
      have valA := valid_joined kA lA1 sA1
      have valB := valid_joined kB lB1 sB1
      have val := valid_joined hk l1 s1
      have tot := total_all l1
      have lD := l1.len
      have lDA := lA1.len
      have lDB := lB1.len
      rw [← lD] at s1
      rw [← lDA] at sA1
      rw [← lDB] at sB1
      have hmerge := fun E lE sE => joined_merged (E := E) (show rs.map toG = (rs.take k).map toG ++ (rs.drop k).map toG by rw [← List.map_append, List.take_append_drop]) l1.stb s1 lA1.stb lB1.stb lE sE
      generalize hGA : DA.foldl jstep [] = GA at *
      generalize hGB : DB.foldl jstep [] = GB at *
      generalize hG : D.foldl jstep [] = G at *
      simp +decide  only [go_sem, Nat.reduceAdd, Nat.reduceSub, Nat.reduceMul]
      refine CallJ.of [] (2) (c_MergeGroups 2 2 3 GA GB valA valB (by omega) (by omega) (by omega) (by omega)) (by simp +decide [go_sem, take_gcs]) ?_
      rintro _ _ ⟨E, vE, lE, sE, hE⟩
      have lEl := lE.len
      rw [← lEl] at sE
      have hEG := hmerge E lE.stb sE
      rw [hEG] at hE
      rcases hE with ⟨hv, rfl, rfl⟩ | ⟨hv, rfl, rfl⟩
      case' inr => exact absurd val hv
      refine ⟨by simp [go_sem], by simp [go_sem], ?_⟩
      have hn64 := val.1
      simp +decide  only [go_sem, Nat.reduceAdd, Nat.reduceSub, Nat.reduceMul]
      refine CallJ.of [] (2) (c_IsValidGroups 2 G (by omega) hb1) (by simp +decide [go_sem, take_gcs]) ?_
      rintro _ _ ⟨⟨b, rfl, hvb⟩, rfl⟩
      refine ⟨by simp [go_sem], by simp [go_sem], ?_⟩
      have hbt : b = true := hvb.2 val
      subst hbt
      simp +decide  only [go_sem, Nat.reduceAdd, Nat.reduceSub, Nat.reduceMul]
      have cnt : ∀ g ∈ G, 0 ≤ g.count := fun g hg => by
        obtain ⟨i, hi, rfl⟩ := List.getElem_of_mem hg
        have := val.2.1 i hi
        rw [show G.getD i default = G[i] by simp [List.getD, hi]] at this
        simp only [okG, inR, Bool.and_eq_true, decide_eq_true_eq] at this
        omega
      refine LoopJ.of tok mix [0, 2, 3, 4, 5, 6, 7, 8, 9, 10, 11, 12, 13, 14, 15, 16, 17] (fun i : Nat => ⟨tm [(0, .vz 1 code.length (bys code)), (2, .bool false), (3, .sl 0 ver 2 0 rs.length), (4, .sl 1 v1 5 0 G.length), (11, .sl 2 vE 5 0 G.length), (13, .int .i64 (total (G.take i))), (14, .int .i64 i)],
          [⟨ver, 0, true, rcs rs⟩, ⟨v1, 0, true, fl gc G⟩, ⟨vE, 0, true, fl gc G⟩], 164⟩)
        (fun i => i ≤ G.length) (fun i => G.length - i) 0 [0, 1, 4] rfl (Nat.zero_le _) (by simp +decide [go_sem, total]) (by decide +kernel) rfl ?_
      intro i hi
      have ht := total_take cnt i
      simp +decide  only [go_sem, Nat.reduceAdd, Nat.reduceSub, Nat.reduceMul]
      refine BrJ.ofP (fun g1 => ?_) fun g1 => ?_
      · have g1' : i < G.length := by omega
        have ci0 : (0:Int) ≤ i := by omega
        have ci1 : i * 5 + 5 ≤ G.length * 5 := by omega
        have hc1 := cnt _ (getD_mem g1')
        have ht1 := total_take cnt (i + 1)
        have et : total (G.take (i + 1)) = total (G.take i) + (G.getD i default).count := by
          rw [take_snoc g1', total_append, total_one]
        rw [et] at ht1
        simp +decide  only [go_sem, Nat.reduceAdd, Nat.reduceSub, Nat.reduceMul, g1, ci0, ci1, gcs_length, gcs_at _ _ g1', gcs_1 _ _ g1', wrap_in (n := total (G.take i) + (G.getD i default).count) (by omega) (by omega), wrap_in (n := ↑i + 1) (by omega) (by omega)]
        refine InvJ.mk (i + 1) [0, 1, 2] rfl (by omega) (by omega) ?_
        rw [et]
        simp +decide [go_sem]
      · have : i = G.length := by omega
        subst this
        rw [List.take_length, tot]
        simp +decide  only [go_sem, Nat.reduceAdd, Nat.reduceSub, Nat.reduceMul, g1]
        refine CallJ.of [] (2) (c_TopGroups 2 G 3 (by omega) hb1) (by simp +decide [go_sem, take_gcs]) ?_
        rintro _ _ hT
        rcases hT with ⟨hT, rfl, rfl⟩ | ⟨hT, _, D3, v3, l3, s3, rfl, rfl⟩
        · exact absurd ⟨val, by decide⟩ hT
        refine ⟨by simp [go_sem], by simp [go_sem], ?_⟩
        have l3l := l3.len
        have e3 : (3 : Int).toNat = 3 := rfl
        simp +decide  only [go_sem, Nat.reduceAdd, Nat.reduceSub, Nat.reduceMul, e3]
        generalize hm : min 3 G.length = m
        have hm3 : m ≤ D3.length := by omega
        refine LoopJ.of tok mix [0, 2, 3, 4, 5, 6, 7, 8, 9, 10, 11, 12, 13, 14, 15, 16, 17] (fun j : Nat => ⟨tm [(2, .bool false), (3, .sl 0 ver 2 0 rs.length), (13, .int .i64 rs.length), (15, .sl 1 v3 5 0 m), (16, .bool true), (17, .int .i64 ((j : Int) + 1))],
            [⟨ver, 0, true, rcs rs⟩, ⟨v3, 0, true, fl gc D3⟩], 164⟩)
          (fun j => j ≤ 64) (fun j => 64 - j) 0 [0, 3] rfl (by omega) (by simp +decide [go_sem]) (by decide +kernel) rfl ?_
        intro j hj
        simp +decide  only [go_sem, Nat.reduceAdd, Nat.reduceSub, Nat.reduceMul]
        refine BrJ.ofP (fun g2 => ?_) fun g2 => ?_
        · have g2' : j + 1 < m := by omega
          have o1 := top_order val.2.2 l3 s3 (i := j) (by omega)
          have w1 : IntKind.i64.wrap ((j : Int) + 1 - 1) = j := by rw [wrap_in (by omega) (by omega)]; omega
          have d0 : (0 : Int) ≤ j := by omega
          have d1 : (j : Int) < m := by omega
          have d2 : (0 : Int) ≤ (j : Int) + 1 := by omega
          have d3 : ((j : Int) + 1).toNat = j + 1 := by omega
          have d4 : ¬ (D3.getD j default).count < (D3.getD (j + 1) default).count := by omega
          simp +decide  only [go_sem, Nat.reduceAdd, Nat.reduceSub, Nat.reduceMul, g2, w1, d0, d1, d2, d3, gcs_0 _ _ (show j < D3.length by omega), gcs_1 _ _ (show j < D3.length by omega), gcs_0 _ _ (show j + 1 < D3.length by omega), gcs_1 _ _ (show j + 1 < D3.length by omega), d4]
          have facts : (D3.getD j default).count = (D3.getD (j + 1) default).count → ¬ (D3.getD (j + 1) default).key ≤ (D3.getD j default).key := fun h => by have := o1.2 h; omega
          have wj : (((j + 1 : Nat) : Int) + 1) = (j : Int) + 1 + 1 := by omega
          refine BrJ.ofP (fun g3 => ?_) fun g3 => ?_
          · simp +decide  only [go_sem, Nat.reduceAdd, Nat.reduceSub, Nat.reduceMul, g2, g3, w1, d0, d1, d2, d3, gcs_0 _ _ (show j < D3.length by omega), gcs_1 _ _ (show j < D3.length by omega), gcs_0 _ _ (show j + 1 < D3.length by omega), gcs_1 _ _ (show j + 1 < D3.length by omega), d4, facts g3, wrap_in (n := ↑j + 1 + 1) (by omega) (by omega)]
            refine InvJ.mk (j + 1) [0, 1] rfl (by omega) (by omega) ?_
            simp +decide [go_sem, wj]
          · simp +decide  only [go_sem, Nat.reduceAdd, Nat.reduceSub, Nat.reduceMul, g2, g3, w1, d0, d1, d2, d3, gcs_0 _ _ (show j < D3.length by omega), gcs_1 _ _ (show j < D3.length by omega), gcs_0 _ _ (show j + 1 < D3.length by omega), gcs_1 _ _ (show j + 1 < D3.length by omega), d4, wrap_in (n := ↑j + 1 + 1) (by omega) (by omega)]
            refine InvJ.mk (j + 1) [0, 1] rfl (by omega) (by omega) ?_
            simp +decide [go_sem, wj]
        · simp +decide  only [go_sem, Nat.reduceAdd, Nat.reduceSub, Nat.reduceMul, g2]
          refine Ret.sel [] rfl (by simp +decide [go_sem]) ?_
          exact ⟨rfl, rfl⟩
end Go.Proofs.Ytaloakmffdejgaa
