/- The law of adaptive sort, walked. -/
import Derived.Test.YtaloakmffdejgaaAdL
import Derived.Test.YtaloakmffdejgaaAdN
set_option linter.unusedSimpArgs false
set_option linter.unusedVariables false
set_option maxRecDepth 100000
set_option maxHeartbeats 8000000
namespace Go.Proofs.Ytaloakmffdejgaa
open Go Go.Fw

def NrΦ (L : List Rc) (r : PV) (h : List Blk) : Prop := (okRs L = false ∧ r = .tup [.nils, .bool false] ∧ h = []) ∨
    (okRs L = true ∧ ∃ vr : Nat, (runsOf L).length ≤ L.length ∧ r = .tup [.sl 0 vr 2 0 (runsOf L).length, .bool true] ∧ h = [⟨vr, 0, true, fl rc (runsOf L)⟩])
theorem c_NaturalRuns (q : Nat) (L : List Rc) (hn : L.length ≤ 1000) : PCE Try.prog 33 [.vz q L.length (fl rc L)] [] (NrΦ L) := by
  refine PCE.of_body tok Try.func33 (by kernel_rfl) rfl Try.ntmps33 (by rw [Try.results33]) (by simp) (W_go tok mix [0, 2, 3] (by decide +kernel) rfl ?_)
  simp +decide only [go_sem, Nat.reduceAdd, Nat.reduceSub, Nat.reduceMul]
  refine CallJ.of0 q (c_IsValidRecords q L hn) (by simp +decide [go_sem]) ?_
  rintro _ _ ⟨rfl, rfl⟩
  rw [show (decide (L.length ≤ 64) && L.all okR) = okRs L from rfl]
  refine ⟨by simp [go_sem], by simp [go_sem], ?_⟩
  cases hok : okRs L
  · simp +decide  only [go_sem, Nat.reduceAdd, Nat.reduceSub, Nat.reduceMul]
    refine Ret.sel [] rfl (by simp +decide [go_sem]) ?_
    exact .inl ⟨hok, rfl, rfl⟩
  simp +decide  only [go_sem, Nat.reduceAdd, Nat.reduceSub, Nat.reduceMul]
  refine CallJ.of0 q (c_runsI q L hn) (by simp +decide [go_sem]) ?_
  rintro _ _ ⟨vr, hrl, rfl, rfl⟩
  refine ⟨by simp [go_sem], by simp [go_sem], ?_⟩
  simp +decide  only [go_sem, Nat.reduceAdd, Nat.reduceSub, Nat.reduceMul]
  refine Ret.sel [0] rfl (by simp +decide [go_sem]) ?_
  exact .inr ⟨hok, vr, hrl, rfl, rfl⟩

theorem c_FnAdaptive (code : List UInt8) : PCE Try.prog 5 [.vz 1 code.length (bys code)] [] (fun r h => r = .bool true ∧ h = []) := by
  refine PCE.of_body tok Try.func5 (by kernel_rfl) rfl Try.ntmps5 (by rw [Try.results5]) (by simp) (W_go tok mix [0, 2, 3, 4, 5, 6, 7, 8, 9, 10, 11, 12, 14, 15, 16] (by decide +kernel) rfl ?_)
  simp +decide only [go_sem, Nat.reduceAdd, Nat.reduceSub, Nat.reduceMul]
  refine CallJ.of0 1 (c_vBig 1 code.length (bys code)) (by simp +decide [go_sem]) ?_
  rintro _ _ ⟨rfl, rfl⟩
  refine ⟨by simp [go_sem], by simp [go_sem], ?_⟩
  simp +decide  only [go_sem, Nat.reduceAdd, Nat.reduceSub, Nat.reduceMul]
  refine BrJ.ofP (fun h1 => ?_) fun h1 => ?_
  · simp +decide  only [go_sem, Nat.reduceAdd, Nat.reduceSub, Nat.reduceMul, h1]
    refine Ret.sel [] rfl (by simp +decide [go_sem]) ?_
    exact ⟨rfl, rfl⟩
  · have hc : code.length ≤ 1000000 := by omega
    simp +decide  only [go_sem, Nat.reduceAdd, Nat.reduceSub, Nat.reduceMul, h1]
    refine CallJ.of0 1 (c_drawAdaptive 1 code hc) (by simp +decide [go_sem]) ?_
    rintro _ _ ⟨rs, ver, rfl, hn, hb, rfl⟩
    refine ⟨by simp [go_sem], by simp [go_sem], ?_⟩
    simp +decide  only [go_sem, Nat.reduceAdd, Nat.reduceSub, Nat.reduceMul]
    obtain ⟨og1, og2, og3⟩ := outA_good rs
    refine CallJ.of [] (2) (c_AdaptiveSort 2 rs (by omega)) (by simp +decide [go_sem, take_rks]) ?_
    rintro _ _ (⟨hk, rfl, rfl⟩ | ⟨hk, hA, rfl, rfl⟩ | ⟨hk, p, rest, hA, rfl, rfl⟩)
    · refine ⟨by simp [go_sem], by simp [go_sem], ?_⟩
      simp +decide  only [go_sem, Nat.reduceAdd, Nat.reduceSub, Nat.reduceMul]
      refine CallJ.of [] (2) (c_specAdaptive 2 rs (by omega)) (by simp +decide [go_sem, take_rks]) ?_
      rintro _ _ ⟨vv, out, rfl, rfl, ho⟩
      rw [hk] at ho
      simp only [Bool.false_eq_true, if_false] at ho
      subst ho
      rw [hk]
      refine ⟨by simp [go_sem], by simp [go_sem], ?_⟩
      simp +decide  only [go_sem, Nat.reduceAdd, Nat.reduceSub, Nat.reduceMul]
      refine CallJ.of [] (2) (c_vRecords 0 2 [] [] (by decide) (by decide)) (by simp +decide [go_sem, fl, List.length_nil]) ?_
      rintro _ _ ⟨rfl, rfl⟩
      refine ⟨by simp [go_sem], by simp [go_sem], ?_⟩
      simp +decide  only [go_sem, Nat.reduceAdd, Nat.reduceSub, Nat.reduceMul]
      refine CallJ.of [] (2) (c_StableSort 2 rs (by omega)) (by simp +decide [go_sem, take_rks]) ?_
      rintro _ _ (⟨hk1, rfl, rfl⟩ | ⟨hk1, D, hD, rfl, rfl⟩)
      rotate_left
      · rw [hk] at hk1; cases hk1
      refine ⟨by simp [go_sem], by simp [go_sem], ?_⟩
      simp +decide  only [go_sem, Nat.reduceAdd, Nat.reduceSub, Nat.reduceMul]
      refine CallJ.of [] (2) (c_NaturalRuns 2 rs (by omega)) (by simp +decide [go_sem, take_rks]) ?_
      rintro _ _ (⟨hk2, rfl, rfl⟩ | ⟨hk2, vr, hrl, rfl, rfl⟩)
      rotate_left
      · rw [hk] at hk2; cases hk2
      refine ⟨by simp [go_sem], by simp [go_sem], ?_⟩
      simp +decide  only [go_sem, Nat.reduceAdd, Nat.reduceSub, Nat.reduceMul]
      refine CallJ.of [] (2) (c_AdaptiveSort 0 [] (by decide)) (by simp +decide [go_sem, fl, List.length_nil]) ?_
      rintro _ _ (⟨hk3, rfl, rfl⟩ | ⟨hk3, hA, rfl, rfl⟩ | ⟨hk3, p, rest, hA, rfl, rfl⟩)
      · exact absurd hk3 (by decide)
      · refine ⟨by simp [go_sem], by simp [go_sem], ?_⟩
        simp +decide  only [go_sem, Nat.reduceAdd, Nat.reduceSub, Nat.reduceMul]
        refine CallJ.of [] (2) (c_vRecords 0 0 [] [] (by decide) (by decide)) (by simp +decide [go_sem, fl, List.length_nil]) ?_
        rintro _ _ ⟨rfl, rfl⟩
        refine ⟨by simp [go_sem], by simp [go_sem], ?_⟩
        simp +decide  only [go_sem, Nat.reduceAdd, Nat.reduceSub, Nat.reduceMul]
        refine Ret.sel [] rfl (by simp +decide [go_sem]) ?_
        exact ⟨rfl, rfl⟩
      · cases hA
    · have hA' : outA rs = [] := by unfold outA; rw [hA]; rfl
      rw [hA'] at og3
      have hrs : rs = [] := List.eq_nil_of_length_eq_zero og3.symm
      subst hrs
      refine ⟨by simp [go_sem], by simp [go_sem], ?_⟩
      simp +decide  only [go_sem, Nat.reduceAdd, Nat.reduceSub, Nat.reduceMul]
      refine CallJ.of [] (2) (c_specAdaptive 2 [] (by decide)) (by simp +decide [go_sem, take_rks, fl, List.length_nil]) ?_
      rintro _ _ ⟨vv, out, rfl, rfl, ho⟩
      rw [hk] at ho
      replace ho : out = [] := ho
      subst ho
      rw [hk]
      refine ⟨by simp [go_sem], by simp [go_sem], ?_⟩
      simp +decide  only [go_sem, Nat.reduceAdd, Nat.reduceSub, Nat.reduceMul]
      refine CallJ.of [] (2) (c_vRecords 2 2 [] [] (by decide) (by decide)) (by simp +decide [go_sem, fl, List.length_nil]) ?_
      rintro _ _ ⟨rfl, rfl⟩
      refine ⟨by simp [go_sem], by simp [go_sem], ?_⟩
      have hz0 : ((adaptP (partsOf [])).2 : Int) = 0 := rfl
      simp +decide  only [go_sem, Nat.reduceAdd, Nat.reduceSub, Nat.reduceMul, hz0]
      refine CallJ.of [] (2) (c_StableSort 2 [] (by decide)) (by simp +decide [go_sem, take_rks, fl, List.length_nil]) ?_
      rintro _ _ (⟨hk1, rfl, rfl⟩ | ⟨hk1, D, hD, rfl, rfl⟩)
      · exact absurd hk1 (by decide)
      have hD' := outA_srt hD
      rw [hA'] at hD'
      subst hD'
      refine ⟨by simp [go_sem], by simp [go_sem], ?_⟩
      simp +decide  only [go_sem, Nat.reduceAdd, Nat.reduceSub, Nat.reduceMul]
      refine CallJ.of [] (2) (c_NaturalRuns 2 [] (by decide)) (by simp +decide [go_sem, take_rks, fl, List.length_nil]) ?_
      rintro _ _ (⟨hk2, rfl, rfl⟩ | ⟨hk2, vr, hrl, rfl, rfl⟩)
      · exact absurd hk2 (by decide)
      refine ⟨by simp [go_sem], by simp [go_sem], ?_⟩
      simp +decide  only [go_sem, Nat.reduceAdd, Nat.reduceSub, Nat.reduceMul]
      refine CallJ.of [] (2) (c_AdaptiveSort 2 [] (by decide)) (by simp +decide [go_sem, fl, List.length_nil]) ?_
      rintro _ _ (⟨hk3, rfl, rfl⟩ | ⟨hk3, hA3, rfl, rfl⟩ | ⟨hk3, p, rest, hA3, rfl, rfl⟩)
      · exact absurd hk3 (by decide)
      · refine ⟨by simp [go_sem], by simp [go_sem], ?_⟩
        simp +decide  only [go_sem, Nat.reduceAdd, Nat.reduceSub, Nat.reduceMul]
        refine CallJ.of [] (2) (c_vRecords 2 2 [] [] (by decide) (by decide)) (by simp +decide [go_sem, fl, List.length_nil]) ?_
        rintro _ _ ⟨rfl, rfl⟩
        refine ⟨by simp [go_sem], by simp [go_sem], ?_⟩
        have hr0 : (runsOf []).length = 0 := rfl
        simp +decide  only [go_sem, Nat.reduceAdd, Nat.reduceSub, Nat.reduceMul, hr0]
        refine CallJ.of [] (2) (c_vRecords 2 2 [] [] (by decide) (by decide)) (by simp +decide [go_sem, fl, List.length_nil]) ?_
        rintro _ _ ⟨rfl, rfl⟩
        refine ⟨by simp [go_sem], by simp [go_sem], ?_⟩
        simp +decide  only [go_sem, Nat.reduceAdd, Nat.reduceSub, Nat.reduceMul]
        refine Ret.sel [] rfl (by simp +decide [go_sem]) ?_
        exact ⟨rfl, rfl⟩
      · cases hA3
    · have hp : p = outA rs := by unfold outA; rw [hA]; rfl
      have hrn : rs ≠ [] := fun e => by subst e; cases hA
      obtain ⟨hs1, hs2⟩ := adapt_sorted og1
      rw [← hp] at og1 og2 og3 hs1 hs2
      have hokp : okRs p = true := by rw [hp, outA_ok]; exact hk
      refine ⟨by simp [go_sem], by simp [go_sem], ?_⟩
      simp +decide  only [go_sem, Nat.reduceAdd, Nat.reduceSub, Nat.reduceMul]
      refine CallJ.of [] (2) (c_specAdaptive 2 rs (by omega)) (by simp +decide [go_sem, take_rks]) ?_
      rintro _ _ ⟨vv, out, rfl, rfl, ho⟩
      rw [hk] at ho
      replace ho : out = outA rs := ho
      rw [← hp] at ho
      subst ho
      rw [hk]
      refine ⟨by simp [go_sem], by simp [go_sem], ?_⟩
      simp +decide  only [go_sem, Nat.reduceAdd, Nat.reduceSub, Nat.reduceMul]
      refine CallJ.of [] (2) (c_vRecords 0 2 out out (by omega) (by omega)) (by simp +decide [go_sem, take_rks]) ?_
      rintro _ _ ⟨rfl, rfl⟩
      refine ⟨by simp [go_sem], by simp [go_sem], ?_⟩
      simp +decide  only [go_sem, Nat.reduceAdd, Nat.reduceSub, Nat.reduceMul]
      refine CallJ.of [] (2) (c_StableSort 2 rs (by omega)) (by simp +decide [go_sem, take_rks]) ?_
      rintro _ _ (⟨hk1, rfl, rfl⟩ | ⟨hk1, D, hD, rfl, rfl⟩)
      · rw [hk] at hk1; cases hk1
      have hD' := outA_srt hD
      rw [← hp] at hD'
      subst hD'
      refine ⟨by simp [go_sem], by simp [go_sem], ?_⟩
      simp +decide  only [go_sem, Nat.reduceAdd, Nat.reduceSub, Nat.reduceMul]
      refine CallJ.of [] (2) (c_NaturalRuns 2 rs (by omega)) (by simp +decide [go_sem, take_rks]) ?_
      rintro _ _ (⟨hk2, rfl, rfl⟩ | ⟨hk2, vr, hrl, rfl, rfl⟩)
      · rw [hk] at hk2; cases hk2
      refine ⟨by simp [go_sem], by simp [go_sem], ?_⟩
      simp +decide  only [go_sem, Nat.reduceAdd, Nat.reduceSub, Nat.reduceMul]
      refine CallJ.of [] (2) (c_AdaptiveSort 0 D (by omega)) (by simp +decide [go_sem, take_rks]) ?_
      rintro _ _ (⟨hk3, rfl, rfl⟩ | ⟨hk3, hA3, rfl, rfl⟩ | ⟨hk3, p3, rest3, hA3, rfl, rfl⟩)
      · rw [hokp] at hk3; cases hk3
      · exfalso
        have e1 : outA D = [] := by unfold outA; rw [hA3]; rfl
        rw [hs1] at e1
        subst e1
        exact hrn (List.eq_nil_of_length_eq_zero og3.symm)
      have hp3 : p3 = D := by rw [← hs1]; unfold outA; rw [hA3]; rfl
      subst hp3
      have hz0 : ((adaptP (partsOf p3)).2 : Int) = 0 := by rw [hs2]; rfl
      refine ⟨by simp [go_sem], by simp [go_sem], ?_⟩
      simp +decide  only [go_sem, Nat.reduceAdd, Nat.reduceSub, Nat.reduceMul, hz0]
      refine CallJ.of [] (2) (c_vRecords 2 0 p3 p3 (by omega) (by omega)) (by simp +decide [go_sem, take_rks]) ?_
      rintro _ _ ⟨rfl, rfl⟩
      refine ⟨by simp [go_sem], by simp [go_sem], ?_⟩
      simp +decide  only [go_sem, Nat.reduceAdd, Nat.reduceSub, Nat.reduceMul]
      refine BrJ.ofP (fun k5 => ?_) fun k5 => ?_
      · simp +decide  only [go_sem, Nat.reduceAdd, Nat.reduceSub, Nat.reduceMul, k5]
        refine CallJ.of [] (2) (c_vRecords 0 0 p3 p3 (by omega) (by omega)) (by simp +decide [go_sem, take_rks]) ?_
        rintro _ _ ⟨rfl, rfl⟩
        refine ⟨by simp [go_sem], by simp [go_sem], ?_⟩
        simp +decide  only [go_sem, Nat.reduceAdd, Nat.reduceSub, Nat.reduceMul]
        refine Ret.sel [] rfl (by simp +decide [go_sem]) ?_
        exact ⟨rfl, rfl⟩
      · have hf0 : ((adaptP (partsOf rs)).2 : Int) = 0 := by rw [adapt_few (by omega)]; rfl
        simp +decide  only [go_sem, Nat.reduceAdd, Nat.reduceSub, Nat.reduceMul, k5, hf0]
        refine CallJ.of [] (2) (c_vRecords 0 0 p3 p3 (by omega) (by omega)) (by simp +decide [go_sem, take_rks]) ?_
        rintro _ _ ⟨rfl, rfl⟩
        refine ⟨by simp [go_sem], by simp [go_sem], ?_⟩
        simp +decide  only [go_sem, Nat.reduceAdd, Nat.reduceSub, Nat.reduceMul]
        refine Ret.sel [] rfl (by simp +decide [go_sem]) ?_
        exact ⟨rfl, rfl⟩
end Go.Proofs.Ytaloakmffdejgaa
