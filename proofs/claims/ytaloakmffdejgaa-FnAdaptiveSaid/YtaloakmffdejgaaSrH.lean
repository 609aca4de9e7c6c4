/- The insertion sort of package slices, on records. -/
import Derived.Test.YtaloakmffdejgaaSrF
set_option linter.unusedSimpArgs false
set_option linter.unusedVariables false
set_option maxRecDepth 100000
set_option maxHeartbeats 8000000
namespace Go.Proofs.Ytaloakmffdejgaa
open Go Go.Fw

def CmpR (g : Nat) (lt : Rc → Rc → Bool) : Prop := ∀ x y : Rc, PCE Try.prog g [.agg (rc x), .agg (rc y)] [] (fun r h => (∃ v : Int, r = .int .i64 v ∧ decide (v < 0) = lt x y) ∧ h = [])

theorem c_insertionR (g mode : Nat) (lt : Rc → Rc → Bool) (hw : SWO lt) (hg : CmpR g lt) (hm : mode ≠ 2) (ver N a b : Nat) (D : List Rc) (hN : D.length = N) (hN2 : N ≤ 1000) (ha : a ≤ N) (hb : b ≤ N) :
    PCE Try.prog 185 [.sl 0 ver 2 0 N, .int .i64 a, .int .i64 b, .fn g []] [⟨ver, mode, true, fl rc D⟩] (fun r h => r = .tup [] ∧ ∃ D', Loc lt D D' a b ∧ SO lt D' a b ∧ h = [⟨ver, mode, true, fl rc D'⟩]) := by
  refine PCE.of_body tok Try.func185 (by kernel_rfl) rfl Try.ntmps185 (by rw [Try.results185]) (by simp) (W_go tok mix [0, 1, 2, 3, 8, 9] (by decide +kernel) rfl ?_)
  simp +decide only [go_sem, Nat.reduceAdd, Nat.reduceSub, Nat.reduceMul]
  simp +decide  only [go_sem, Nat.reduceAdd, Nat.reduceSub, Nat.reduceMul, wrap_in (n := ↑a + 1) (by omega) (by omega)]
  refine LoopJ.of tok mix [0, 1, 2, 3, 8, 9] (fun z : Nat × List Rc => ⟨tm [(0, .sl 0 ver 2 0 N), (1, .int .i64 a), (2, .int .i64 b), (3, .fn g []), (8, .int .i64 z.1)], [⟨ver, mode, true, fl rc z.2⟩], 53⟩)
    (fun z => a + 1 ≤ z.1 ∧ (z.1 ≤ b ∨ z.1 = a + 1) ∧ Loc lt D z.2 a b ∧ SO lt z.2 a z.1) (fun z => b - z.1) (a + 1, D) [0] rfl ⟨Nat.le_refl _, .inr rfl, Loc.refl _ _ _, fun i j h1 h2 h3 => by omega⟩ (by simp +decide [go_sem]) (by decide +kernel) rfl ?_
  rintro ⟨i, E⟩ ⟨i1, i2, i3, i4⟩
  dsimp only at i1 i2 i3 i4
  simp +decide  only [go_sem, Nat.reduceAdd, Nat.reduceSub, Nat.reduceMul]
  refine BrJ.ofP (fun h1 => ?_) fun h1 => ?_
  · have h1' : i < b := by omega
    simp +decide  only [go_sem, Nat.reduceAdd, Nat.reduceSub, Nat.reduceMul, h1]
    refine LoopJ.of tok mix [0, 1, 2, 3, 8, 9] (fun z : Nat × List Rc => ⟨tm [(0, .sl 0 ver 2 0 N), (1, .int .i64 a), (2, .int .i64 b), (3, .fn g []), (8, .int .i64 i), (9, .int .i64 z.1)], [⟨ver, mode, true, fl rc z.2⟩], 53⟩)
      (fun z => a ≤ z.1 ∧ z.1 ≤ i ∧ Loc lt D z.2 a b ∧ InsI lt z.2 a i z.1) (fun z => z.1) (i, E) [0] rfl ⟨by simp only; omega, Nat.le_refl _, i3, InsI.start i4⟩ (by simp +decide [go_sem]) (by decide +kernel) rfl ?_
    rintro ⟨j, G⟩ ⟨j1, j2, j3, j4⟩
    dsimp only at j1 j2 j3 j4
    have hGl : G.length = N := j3.len.trans hN
    simp +decide  only [go_sem, Nat.reduceAdd, Nat.reduceSub, Nat.reduceMul]
    refine BrJ.ofP (fun k1 => ?_) fun k1 => ?_
    · obtain ⟨j, rfl⟩ : ∃ m, j = m + 1 := ⟨j - 1, by omega⟩
      have e1 : ((j + 1 : Nat) : Int) - 1 = (j : Int) := by omega
      have c0 : (0 : Int) ≤ (j + 1 : Nat) := by omega
      have c1 : (0 : Int) ≤ (j : Int) := by omega
      have c2 : ((j + 1 : Nat) : Int) < N := by omega
      have c3 : (j : Int) < N := by omega
      have c4 : j + 1 < G.length := by omega
      have c5 : j < G.length := by omega
      have c6 : (j + 1) * 2 + 2 ≤ G.length * 2 := by omega
      have c7 : j * 2 + 2 ≤ G.length * 2 := by omega
      simp +decide  only [go_sem, Nat.reduceAdd, Nat.reduceSub, Nat.reduceMul, k1, wrap_in (n := ↑j) (by omega) (by omega), e1, c0, c1, c2, c3, rks_length, c6, c7, rks_at _ _ c4, rks_at _ _ c5]
      refine CallJ.of0 1 (hg (G.getD (j + 1) default) (G.getD j default)) (by simp +decide [go_sem]) ?_
      rintro _ _ ⟨⟨v, rfl, hv⟩, rfl⟩
      refine ⟨by simp [go_sem], by simp [go_sem], ?_⟩
      simp +decide  only [go_sem, Nat.reduceAdd, Nat.reduceSub, Nat.reduceMul, k1, hv]
      refine BrJ.of (fun k2 => ?_) fun k2 => ?_
      · have d1 : j < (G.set (j + 1) (G.getD j default)).length := by simpa using c5
        have d2 : j * 2 + 2 ≤ (G.set (j + 1) (G.getD j default)).length * 2 := by simpa using c7
        simp +decide  only [go_sem, Nat.reduceAdd, Nat.reduceSub, Nat.reduceMul, k1, k2, wrap_in (n := ↑j) (by omega) (by omega), e1, c0, c1, c2, c3, rks_length, c6, c7, rks_at _ _ c4, rks_at _ _ c5, rks_set _ _ _ c4, rks_set _ _ _ d1, hm, d2]
        refine InvJ.mk (j, swp G j (j + 1)) [0] rfl ⟨by simp only; omega, by simp only; omega, j3.trans (Loc.swp hw (by omega) (by omega) c4 k2), InsI.step hw j4 (by omega) (by omega) (by omega) k2⟩ (by simp only; omega) ?_
        rw [← swp_comm]
        simp +decide [go_sem]
      · simp +decide  only [go_sem, Nat.reduceAdd, Nat.reduceSub, Nat.reduceMul, k1, k2, wrap_in (n := ↑i + 1) (by omega) (by omega)]
        refine InvJ.mk (i + 1, G) [0] rfl ⟨by simp only; omega, by simp only; omega, j3, InsI.stop hw j4 j1 fun _ => by simpa using k2⟩ (by simp only; omega) ?_
        simp +decide [go_sem]
    · simp +decide  only [go_sem, Nat.reduceAdd, Nat.reduceSub, Nat.reduceMul, k1, wrap_in (n := ↑i + 1) (by omega) (by omega)]
      refine InvJ.mk (i + 1, G) [0] rfl ⟨by simp only; omega, by simp only; omega, j3, InsI.stop hw j4 j1 fun h => by omega⟩ (by simp only; omega) ?_
      simp +decide [go_sem]
  · simp +decide  only [go_sem, Nat.reduceAdd, Nat.reduceSub, Nat.reduceMul, h1]
    refine Ret.selN [0] rfl (by simp +decide [go_sem]) ?_
    exact ⟨rfl, E, i3, fun p q h2 h3 h4 => i4 p q h2 h3 (by omega), rfl⟩
end Go.Proofs.Ytaloakmffdejgaa
