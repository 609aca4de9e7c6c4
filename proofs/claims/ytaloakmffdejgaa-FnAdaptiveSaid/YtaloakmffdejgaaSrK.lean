/- The stable sort of package slices, on records. -/
import Derived.Test.YtaloakmffdejgaaSrJ
import Derived.Test.YtaloakmffdejgaaGrK
set_option linter.unusedSimpArgs false
set_option linter.unusedVariables false
set_option maxRecDepth 100000
set_option maxHeartbeats 8000000
namespace Go.Proofs.Ytaloakmffdejgaa
open Go Go.Fw

theorem c_stableR (g mode : Nat) (lt : Rc → Rc → Bool) (hw : SWO lt) (hg : CmpR g lt) (hm2 : mode ≠ 2) (ver N : Nat) (hN2 : N ≤ 1000) (D : List Rc) (hN : D.length = N) :
    PCE Try.prog 164 [.sl 0 ver 2 0 N, .int .i64 N, .fn g []] [⟨ver, mode, true, fl rc D⟩] (fun r h => r = .tup [] ∧ ∃ D', Loc lt D D' 0 N ∧ SO lt D' 0 N ∧ h = [⟨ver, mode, true, fl rc D'⟩]) := by
  refine PCE.of_body tok Try.func164 (by kernel_rfl) rfl Try.ntmps164 (by rw [Try.results164]) (by simp) (W_go tok mix [0, 1, 2, 6, 7, 8, 9] (by decide +kernel) rfl ?_)
  simp +decide only [go_sem, Nat.reduceAdd, Nat.reduceSub, Nat.reduceMul]
  refine LoopJ.of tok mix [0, 1, 2, 6, 7, 8, 9] (fun z : Nat × List Rc => ⟨tm [(0, .sl 0 ver 2 0 N), (1, .int .i64 N), (2, .fn g []), (6, .int .i64 20), (7, .int .i64 (z.1 * 20 : Nat)), (8, .int .i64 (z.1 * 20 + 20 : Nat))], [⟨ver, mode, true, fl rc z.2⟩], 63⟩)
    (fun z => z.1 * 20 ≤ N ∧ Loc lt D z.2 0 N ∧ Low lt z.2 20 (z.1 * 20)) (fun z => N - z.1 * 20) (0, D) [0] rfl ⟨by simp only; omega, Loc.refl _ _ _, fun k hk => by simp only at hk; omega⟩ (by simp +decide [go_sem]) (by decide +kernel) rfl ?_
  rintro ⟨c, E⟩ ⟨i1, i2, i3⟩
  dsimp only at i1 i2 i3
  have hEl : E.length = N := i2.len.trans hN
  simp +decide  only [go_sem, Nat.reduceAdd, Nat.reduceSub, Nat.reduceMul]
  refine BrJ.ofP (fun h1 => ?_) fun h1 => ?_
  · have h1' : c * 20 + 20 ≤ N := by omega
    simp +decide  only [go_sem, Nat.reduceAdd, Nat.reduceSub, Nat.reduceMul, h1]
    refine CallJ.of [0] (1) (c_insertionR g mode lt hw hg hm2 ver N (c * 20) (c * 20 + 20) E hEl hN2 i1 h1') (by simp +decide [go_sem]) ?_
    rintro _ _ ⟨rfl, E', l1, s1, rfl⟩
    refine ⟨by simp [go_sem], by simp [go_sem], ?_⟩
    simp +decide  only [go_sem, Nat.reduceAdd, Nat.reduceSub, Nat.reduceMul, wrap_in (n := ↑(c * 20 + 20) + 20) (by omega) (by omega)]
    refine InvJ.mk (c + 1, E') [0] rfl ⟨by simp only; omega, i2.trans (l1.wide (by omega) h1'), by rw [show (c + 1) * 20 = c * 20 + 20 by omega]; exact i3.next (by omega) l1 s1⟩ (by simp only; omega) ?_
    have e1 : (c + 1) * 20 = c * 20 + 20 := by omega
    have e2 : (((c * 20 + 20 + 20 : Nat)) : Int) = (c * 20 + 20 : Nat) + 20 := by omega
    simp only [e1, e2]
    simp +decide [go_sem]
  · simp +decide  only [go_sem, Nat.reduceAdd, Nat.reduceSub, Nat.reduceMul, h1]
    refine CallJ.of [0] (1) (c_insertionR g mode lt hw hg hm2 ver N (c * 20) N E hEl hN2 i1 (Nat.le_refl _)) (by simp +decide [go_sem]) ?_
    rintro _ _ ⟨rfl, E', l1, s1, rfl⟩
    refine ⟨by simp [go_sem], by simp [go_sem], ?_⟩
    simp +decide  only [go_sem, Nat.reduceAdd, Nat.reduceSub, Nat.reduceMul]
    have ha0 : All lt E' 20 N := i3.all i1 (by omega) l1 s1
    have hl0 : Loc lt D E' 0 N := i2.trans (l1.wide (by omega) (Nat.le_refl _))
    clear l1 s1 i3 i2 hEl
    refine LoopJ.of tok mix [0, 1, 2, 6, 7, 8, 9] (fun z : Nat × List Rc => ⟨tm [(0, .sl 0 ver 2 0 N), (1, .int .i64 N), (2, .fn g []), (6, .int .i64 z.1)], [⟨ver, mode, true, fl rc z.2⟩], 63⟩)
      (fun z => 20 ≤ z.1 ∧ z.1 ≤ 2000 ∧ Loc lt D z.2 0 N ∧ All lt z.2 z.1 N) (fun z => N - z.1) (20, E') [0] rfl ⟨Nat.le_refl _, by simp only; omega, hl0, ha0⟩ (by simp +decide [go_sem]) (by decide +kernel) rfl ?_
    clear ha0 hl0 h1 i1
    rintro ⟨s, E⟩ ⟨i1, i4, i2, i3⟩
    dsimp only at i1 i2 i3 i4
    simp +decide  only [go_sem, Nat.reduceAdd, Nat.reduceSub, Nat.reduceMul]
    refine BrJ.ofP (fun h2 => ?_) fun h2 => ?_
    · simp +decide  only [go_sem, Nat.reduceAdd, Nat.reduceSub, Nat.reduceMul, h2, wrap_in (n := 2 * ↑s) (by omega) (by omega)]
      refine LoopJ.of tok mix [0, 1, 2, 6, 7, 8, 9] (fun z : Nat × List Rc => ⟨tm [(0, .sl 0 ver 2 0 N), (1, .int .i64 N), (2, .fn g []), (6, .int .i64 s), (7, .int .i64 (z.1 * (2 * s) : Nat)), (8, .int .i64 (z.1 * (2 * s) + 2 * s : Nat))], [⟨ver, mode, true, fl rc z.2⟩], 63⟩)
        (fun z => z.1 * (2 * s) ≤ N ∧ Loc lt D z.2 0 N ∧ Low lt z.2 (2 * s) (z.1 * (2 * s)) ∧ High lt z.2 s N (z.1 * (2 * s))) (fun z => N - z.1 * (2 * s)) (0, E) [0] rfl ⟨by simp only; omega, i2, fun k hk => by simp only at hk; omega, fun k hk => i3 k⟩ (by simp +decide [go_sem]) (by decide +kernel) rfl ?_
      rintro ⟨c, G⟩ ⟨j1, j2, j3, j4⟩
      dsimp only at j1 j2 j3 j4
      have hGl : G.length = N := j2.len.trans hN
      obtain ⟨g1, g2⟩ := j4.get
      have enext : (c + 1) * (2 * s) = c * (2 * s) + 2 * s := by rw [Nat.succ_mul]
      generalize ha : c * (2 * s) = a at *
      have em : (a : Int) + s = (a + s : Nat) := by omega
      simp +decide  only [go_sem, Nat.reduceAdd, Nat.reduceSub, Nat.reduceMul]
      refine BrJ.ofP (fun k1 => ?_) fun k1 => ?_
      · rw [Nat.min_eq_left (by omega)] at g1 g2
        simp +decide  only [go_sem, Nat.reduceAdd, Nat.reduceSub, Nat.reduceMul, k1, wrap_in (n := ↑a + ↑s) (by omega) (by omega), wrap_in (n := 2 * ↑s) (by omega) (by omega)]
        rw [em]
        refine CallJ.of [0] (1) (c_symMergeR g mode lt hw hg hm2 ver N hN2 (a + 2 * s - a) a (a + s) (a + 2 * s) G (Nat.le_refl _) (by omega) (by omega) (by omega) hGl g1 g2) (by simp +decide [go_sem]) ?_
        rintro _ _ ⟨rfl, G', l1, s1, rfl⟩
        refine ⟨by simp [go_sem], by simp [go_sem], ?_⟩
        simp +decide  only [go_sem, Nat.reduceAdd, Nat.reduceSub, Nat.reduceMul, wrap_in (n := 2 * ↑s) (by omega) (by omega), wrap_in (n := ↑(a + 2 * s) + 2 * ↑s) (by omega) (by omega)]
        refine InvJ.mk (c + 1, G') [0] rfl ⟨by simp only [enext]; omega, j2.trans (l1.wide (by omega) (by omega)), by simp only [enext]; rw [← ha] at l1 s1 j3 ⊢; exact j3.next (by omega) l1 s1, by simp only [enext]; exact j4.next (by omega) l1⟩ (by simp only [enext, ha]; omega) ?_
        have e2 : (((a + 2 * s + 2 * s : Nat)) : Int) = (a + 2 * s : Nat) + 2 * s := by omega
        simp only [enext, e2]
        simp +decide [go_sem]
      · simp +decide  only [go_sem, Nat.reduceAdd, Nat.reduceSub, Nat.reduceMul, k1, wrap_in (n := ↑a + ↑s) (by omega) (by omega), wrap_in (n := ↑s * 2) (by omega) (by omega)]
        rw [em]
        refine BrJ.ofP (fun k2 => ?_) fun k2 => ?_
        · rw [Nat.min_eq_left (by omega)] at g1
          rw [Nat.min_eq_right (by omega)] at g2
          simp +decide  only [go_sem, Nat.reduceAdd, Nat.reduceSub, Nat.reduceMul, k2]
          refine CallJ.of [0] (1) (c_symMergeR g mode lt hw hg hm2 ver N hN2 (N - a) a (a + s) N G (Nat.le_refl _) (by omega) (by omega) (by omega) hGl g1 g2) (by simp +decide [go_sem]) ?_
          rintro _ _ ⟨rfl, G', l1, s1, rfl⟩
          refine ⟨by simp [go_sem], by simp [go_sem], ?_⟩
          simp +decide  only [go_sem, Nat.reduceAdd, Nat.reduceSub, Nat.reduceMul, wrap_in (n := ↑s * 2) (by omega) (by omega)]
          refine InvJ.mk (s * 2, G') [0] rfl ⟨by simp only; omega, by simp only; omega, j2.trans (l1.wide (by omega) (Nat.le_refl _)), ?_⟩ (by simp only; omega) ?_
          · simp only
            rw [Nat.mul_comm s 2]
            rw [← ha] at l1 s1 j3
            exact j3.all (by omega) (by omega) l1 s1
          · simp +decide [go_sem]
        · rw [Nat.min_eq_right (by omega)] at g1
          simp +decide  only [go_sem, Nat.reduceAdd, Nat.reduceSub, Nat.reduceMul, k2, wrap_in (n := ↑s * 2) (by omega) (by omega)]
          refine InvJ.mk (s * 2, G) [0] rfl ⟨by simp only; omega, by simp only; omega, j2, ?_⟩ (by simp only; omega) ?_
          · simp only
            rw [Nat.mul_comm s 2]
            rw [← ha] at g1 j3
            exact j3.all (by omega) (by omega) (Loc.refl _ _ _) g1
          · simp +decide [go_sem]
    · simp +decide  only [go_sem, Nat.reduceAdd, Nat.reduceSub, Nat.reduceMul, h2]
      refine Ret.selN [0] rfl (by simp +decide [go_sem]) ?_
      have := i3 0
      rw [Nat.zero_mul, Nat.zero_add, Nat.min_eq_right (by omega)] at this
      exact ⟨rfl, E, i2, this, rfl⟩

theorem c_SortStableR (g mode : Nat) (lt : Rc → Rc → Bool) (hw : SWO lt) (hg : CmpR g lt) (hm2 : mode ≠ 2) (ver N : Nat) (hN2 : N ≤ 1000) (D : List Rc) (hN : D.length = N) :
    PCE Try.prog 120 [.sl 0 ver 2 0 N, .fn g []] [⟨ver, mode, true, fl rc D⟩] (fun r h => r = .tup [] ∧ ∃ D', Loc lt D D' 0 N ∧ SO lt D' 0 N ∧ h = [⟨ver, mode, true, fl rc D'⟩]) := by
  refine PCE.of_body tok Try.func120 (by kernel_rfl) rfl Try.ntmps120 (by rw [Try.results120]) (by simp) (W_go tok mix [0, 1] (by decide +kernel) rfl ?_)
  simp +decide only [go_sem, Nat.reduceAdd, Nat.reduceSub, Nat.reduceMul]
  refine CallJ.of [0] (1) (c_stableR g mode lt hw hg hm2 ver N hN2 D hN) (by simp +decide [go_sem]) ?_
  rintro _ _ ⟨rfl, D', l1, s1, rfl⟩
  refine ⟨by simp [go_sem], by simp [go_sem], ?_⟩
  simp +decide  only [go_sem, Nat.reduceAdd, Nat.reduceSub, Nat.reduceMul]
  refine Ret.selN [0] rfl (by simp +decide [go_sem]) ?_
  exact ⟨rfl, D', l1, s1, rfl⟩
end Go.Proofs.Ytaloakmffdejgaa
