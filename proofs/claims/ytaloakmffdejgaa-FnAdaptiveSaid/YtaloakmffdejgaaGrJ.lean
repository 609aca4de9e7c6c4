/- The merge in place of package slices, on groups. -/
import Derived.Test.YtaloakmffdejgaaGrI
set_option linter.unusedSimpArgs false
set_option linter.unusedVariables false
set_option maxRecDepth 100000
set_option maxHeartbeats 8000000
namespace Go.Proofs.Ytaloakmffdejgaa
open Go Go.Fw

theorem half (i j : Nat) (h : i + j < 1000000000) : IntKind.i64.wrap (IntKind.u64.wrap (IntKind.i64.wrap (↑i + ↑j)) / 2 ^ Int.toNat 1) = (((i + j) / 2 : Nat) : Int) := by
  have e1 : IntKind.i64.wrap ((i : Int) + j) = i + j := wrap_in (by omega) (by omega)
  have e2 : IntKind.u64.wrap ((i : Int) + j) = i + j := by
    simp only [IntKind.wrap, IntKind.signed, IntKind.bits, Bool.false_and, Bool.false_eq_true, if_false]; omega
  have e3 : (2 : Int) ^ Int.toNat 1 = 2 := rfl
  rw [e1, e2, e3, wrap_in (by omega) (by omega)]
  omega

theorem c_symMergeG (g mode : Nat) (lt : Gp → Gp → Bool) (hw : SWO lt) (hg : CmpG g lt) (hm2 : mode ≠ 2) (ver N : Nat) (hN2 : N ≤ 1000) :
    ∀ (n a m b : Nat) (D : List Gp), b - a ≤ n → a < m → m < b → b ≤ N → D.length = N → SO lt D a m → SO lt D m b →
    PCE Try.prog 169 [.sl 0 ver 5 0 N, .int .i64 a, .int .i64 m, .int .i64 b, .fn g []] [⟨ver, mode, true, fl gc D⟩] (fun r h => r = .tup [] ∧ ∃ D', Loc lt D D' a b ∧ SO lt D' a b ∧ h = [⟨ver, mode, true, fl gc D'⟩]) := by
  intro n
  induction n with
  | zero => intro a m b D h1 h2 h3; omega
  | succ n ih =>
  intro a m b D hn ham hmb hbN hN so1 so2
  refine PCE.of_body tok Try.func169 (by kernel_rfl) rfl Try.ntmps169 (by rw [Try.results169]) (by simp) (W_go tok mix [0, 1, 2, 3, 4, 10, 11, 12, 13, 14, 15, 16, 17, 18, 19, 20, 21, 22, 23, 24] (by decide +kernel) rfl ?_)
  simp +decide only [go_sem, Nat.reduceAdd, Nat.reduceSub, Nat.reduceMul]
  simp +decide  only [go_sem, Nat.reduceAdd, Nat.reduceSub, Nat.reduceMul, wrap_in (n := ↑m - ↑a) (by omega) (by omega)]
  refine BrJ.ofP (fun h1 => ?_) fun h1 => ?_
  · have h1' : m = a + 1 := by omega
    subst h1'
    simp +decide  only [go_sem, Nat.reduceAdd, Nat.reduceSub, Nat.reduceMul, h1]
    refine LoopJ.of tok mix [0, 1, 2, 3, 4, 10, 11, 12, 13, 14, 15, 16, 17, 18, 19, 20, 21, 22, 23, 24] (fun z : Nat × Nat => ⟨tm [(0, .sl 0 ver 5 0 N), (1, .int .i64 a), (2, .int .i64 (a + 1 : Nat)), (3, .int .i64 b), (4, .fn g []), (10, .int .i64 z.1), (11, .int .i64 z.2)], [⟨ver, mode, true, fl gc D⟩], 220⟩)
      (fun z => B1 lt D a b z.1 z.2) (fun z => z.2 - z.1) (a + 1, b) [0] rfl ⟨Nat.le_refl _, by simp only; omega, Nat.le_refl _, fun k k1 k2 => by simp only at k2; omega, fun k k1 k2 => by simp only at k1; omega⟩ (by simp +decide [go_sem]) (by decide +kernel) rfl ?_
    rintro ⟨i, j⟩ hB
    dsimp only at hB
    have q1 := hB.h1
    have q2 := hB.h2
    have q3 := hB.h3
    simp +decide  only [go_sem, Nat.reduceAdd, Nat.reduceSub, Nat.reduceMul, half i j (by omega)]
    refine BrJ.ofP (fun k1 => ?_) fun k1 => ?_
    · have k1' : i < j := by omega
      generalize hh : (i + j) / 2 = h
      have hh1 : i ≤ h := by omega
      have hh2 : h < j := by omega
      have c0 : (0 : Int) ≤ h := by omega
      have c1 : (0 : Int) ≤ a := by omega
      have c2 : (h : Int) < N := by omega
      have c3 : (a : Int) < N := by omega
      have c4 : h < D.length := by omega
      have c5 : a < D.length := by omega
      have c6 : h * 5 + 5 ≤ D.length * 5 := by omega
      have c7 : a * 5 + 5 ≤ D.length * 5 := by omega
      simp +decide  only [go_sem, Nat.reduceAdd, Nat.reduceSub, Nat.reduceMul, half i j (by omega), hh, c0, c1, c2, c3, gcs_length, c6, c7, gcs_at _ _ c4, gcs_at _ _ c5]
      refine CallJ.of0 1 (hg (D.getD h default) (D.getD a default)) (by simp +decide [go_sem]) ?_
      rintro _ _ ⟨⟨v, rfl, hv⟩, rfl⟩
      refine ⟨by simp [go_sem], by simp [go_sem], ?_⟩
      simp +decide  only [go_sem, Nat.reduceAdd, Nat.reduceSub, Nat.reduceMul, hv]
      refine BrJ.of (fun k2 => ?_) fun k2 => ?_
      · simp +decide  only [go_sem, Nat.reduceAdd, Nat.reduceSub, Nat.reduceMul, k2, wrap_in (n := ↑h + 1) (by omega) (by omega)]
        refine InvJ.mk (h + 1, j) [0] rfl (hB.hi hw so2 hh1 hh2 k2) (by simp only; omega) ?_
        simp +decide [go_sem]
      · simp +decide  only [go_sem, Nat.reduceAdd, Nat.reduceSub, Nat.reduceMul, k2]
        refine InvJ.mk (i, h) [0] rfl (hB.lo hw so2 hh1 hh2 k2) (by simp only; omega) ?_
        simp +decide [go_sem]
    · have k1' : i = j := by omega
      subst k1'
      simp +decide  only [go_sem, Nat.reduceAdd, Nat.reduceSub, Nat.reduceMul, k1]
      refine LoopJ.of tok mix [0, 1, 2, 3, 4, 10, 11, 12, 13, 14, 15, 16, 17, 18, 19, 20, 21, 22, 23, 24] (fun z : Nat × List Gp => ⟨tm [(0, .sl 0 ver 5 0 N), (1, .int .i64 a), (2, .int .i64 (a + 1 : Nat)), (3, .int .i64 b), (4, .fn g []), (10, .int .i64 i), (13, .int .i64 z.1)], [⟨ver, mode, true, fl gc z.2⟩], 220⟩)
        (fun z => a ≤ z.1 ∧ z.1 + 1 ≤ i ∧ M1 D z.2 a z.1 ∧ Loc lt D z.2 a b) (fun z => i - z.1) (a, D) [0] rfl ⟨Nat.le_refl _, by simp only; omega, M1.start D a, Loc.refl _ _ _⟩ (by simp +decide [go_sem]) (by decide +kernel) rfl ?_
      rintro ⟨k, E⟩ ⟨m1, m2, m3, m4⟩
      dsimp only at m1 m2 m3 m4
      have hEl : E.length = N := m3.len.trans hN
      simp +decide  only [go_sem, Nat.reduceAdd, Nat.reduceSub, Nat.reduceMul, wrap_in (n := ↑i - 1) (by omega) (by omega)]
      refine BrJ.ofP (fun g1 => ?_) fun g1 => ?_
      · have c0 : (0 : Int) ≤ k := by omega
        have c1 : (0 : Int) ≤ (k : Int) + 1 := by omega
        have c2 : (k : Int) < N := by omega
        have c3 : (k : Int) + 1 < N := by omega
        have c4 : k < E.length := by omega
        have c5 : k + 1 < E.length := by omega
        have c6 : k * 5 + 5 ≤ E.length * 5 := by omega
        have c7 : (k + 1) * 5 + 5 ≤ E.length * 5 := by omega
        have c8 : ((k : Int) + 1).toNat = k + 1 := by omega
        have d1 : k + 1 < (E.set k (E.getD (k + 1) default)).length := by simpa using c5
        have d2 : (k + 1) * 5 + 5 ≤ (E.set k (E.getD (k + 1) default)).length * 5 := by simpa using c7
        simp +decide  only [go_sem, Nat.reduceAdd, Nat.reduceSub, Nat.reduceMul, g1, wrap_in (n := ↑k + 1) (by omega) (by omega), c0, c1, c2, c3, c8, gcs_length, c6, c7, gcs_at _ _ c4, gcs_at _ _ c5, gcs_set _ _ _ c4, gcs_set _ _ _ d1, hm2, d2]
        refine InvJ.mk (k + 1, swp E k (k + 1)) [0] rfl ⟨by simp only; omega, by simp only; omega, m3.step m1 (by omega), m4.trans (Loc.swp hw m1 (by omega) c5 (m3.less hB m1 (by omega)))⟩ (by simp only; omega) ?_
        simp +decide [go_sem, swp]
      · simp +decide  only [go_sem, Nat.reduceAdd, Nat.reduceSub, Nat.reduceMul, g1]
        refine Ret.sel [0] rfl (by simp +decide [go_sem]) ?_
        exact ⟨rfl, E, m4, m3.done hw hB so2 (by omega), rfl⟩
  · simp +decide  only [go_sem, Nat.reduceAdd, Nat.reduceSub, Nat.reduceMul, h1, wrap_in (n := ↑b - ↑m) (by omega) (by omega)]
    refine BrJ.ofP (fun h2 => ?_) fun h2 => ?_
    · have h2' : b = m + 1 := by omega
      subst h2'
      simp +decide  only [go_sem, Nat.reduceAdd, Nat.reduceSub, Nat.reduceMul, h2]
      refine LoopJ.of tok mix [0, 1, 2, 3, 4, 10, 11, 12, 13, 14, 15, 16, 17, 18, 19, 20, 21, 22, 23, 24] (fun z : Nat × Nat => ⟨tm [(0, .sl 0 ver 5 0 N), (1, .int .i64 a), (2, .int .i64 m), (3, .int .i64 (m + 1 : Nat)), (4, .fn g []), (14, .int .i64 z.1), (15, .int .i64 z.2)], [⟨ver, mode, true, fl gc D⟩], 220⟩)
        (fun z => B2 lt D a m z.1 z.2) (fun z => z.2 - z.1) (a, m) [0] rfl ⟨Nat.le_refl _, by simp only; omega, Nat.le_refl _, fun k k1 k2 => by simp only at k2; omega, fun k k1 k2 => by simp only at k1; omega⟩ (by simp +decide [go_sem]) (by decide +kernel) rfl ?_
      rintro ⟨i, j⟩ hB
      dsimp only at hB
      have q1 := hB.h1
      have q2 := hB.h2
      have q3 := hB.h3
      simp +decide  only [go_sem, Nat.reduceAdd, Nat.reduceSub, Nat.reduceMul, half i j (by omega)]
      refine BrJ.ofP (fun k1 => ?_) fun k1 => ?_
      · have k1' : i < j := by omega
        generalize hh : (i + j) / 2 = h
        have hh1 : i ≤ h := by omega
        have hh2 : h < j := by omega
        have c0 : (0 : Int) ≤ h := by omega
        have c1 : (0 : Int) ≤ m := by omega
        have c2 : (h : Int) < N := by omega
        have c3 : (m : Int) < N := by omega
        have c4 : h < D.length := by omega
        have c5 : m < D.length := by omega
        have c6 : h * 5 + 5 ≤ D.length * 5 := by omega
        have c7 : m * 5 + 5 ≤ D.length * 5 := by omega
        simp +decide  only [go_sem, Nat.reduceAdd, Nat.reduceSub, Nat.reduceMul, half i j (by omega), hh, c0, c1, c2, c3, gcs_length, c6, c7, gcs_at _ _ c4, gcs_at _ _ c5]
        refine CallJ.of0 1 (hg (D.getD m default) (D.getD h default)) (by simp +decide [go_sem]) ?_
        rintro _ _ ⟨⟨v, rfl, hv⟩, rfl⟩
        refine ⟨by simp [go_sem], by simp [go_sem], ?_⟩
        simp +decide  only [go_sem, Nat.reduceAdd, Nat.reduceSub, Nat.reduceMul, hv]
        refine BrJ.of (fun k2 => ?_) fun k2 => ?_
        · simp +decide  only [go_sem, Nat.reduceAdd, Nat.reduceSub, Nat.reduceMul, k2]
          refine InvJ.mk (i, h) [0] rfl (hB.lo hw so1 hh1 hh2 k2) (by simp only; omega) ?_
          simp +decide [go_sem]
        · simp +decide  only [go_sem, Nat.reduceAdd, Nat.reduceSub, Nat.reduceMul, k2, wrap_in (n := ↑h + 1) (by omega) (by omega)]
          refine InvJ.mk (h + 1, j) [0] rfl (hB.hi hw so1 hh1 hh2 k2) (by simp only; omega) ?_
          simp +decide [go_sem]
      · have k1' : i = j := by omega
        subst k1'
        simp +decide  only [go_sem, Nat.reduceAdd, Nat.reduceSub, Nat.reduceMul, k1]
        refine LoopJ.of tok mix [0, 1, 2, 3, 4, 10, 11, 12, 13, 14, 15, 16, 17, 18, 19, 20, 21, 22, 23, 24] (fun z : Nat × List Gp => ⟨tm [(0, .sl 0 ver 5 0 N), (1, .int .i64 a), (2, .int .i64 m), (3, .int .i64 (m + 1 : Nat)), (4, .fn g []), (14, .int .i64 i), (17, .int .i64 z.1)], [⟨ver, mode, true, fl gc z.2⟩], 220⟩)
          (fun z => i ≤ z.1 ∧ z.1 ≤ m ∧ M2 D z.2 m z.1 ∧ Loc lt D z.2 a (m + 1)) (fun z => z.1) (m, D) [0] rfl ⟨by simp only; omega, Nat.le_refl _, M2.start D m, Loc.refl _ _ _⟩ (by simp +decide [go_sem]) (by decide +kernel) rfl ?_
        rintro ⟨k, E⟩ ⟨m1, m2, m3, m4⟩
        dsimp only at m1 m2 m3 m4
        have hEl : E.length = N := m3.len.trans hN
        simp +decide  only [go_sem, Nat.reduceAdd, Nat.reduceSub, Nat.reduceMul]
        refine BrJ.ofP (fun g1 => ?_) fun g1 => ?_
        · obtain ⟨k, rfl⟩ : ∃ x, k = x + 1 := ⟨k - 1, by omega⟩
          have e1 : ((k + 1 : Nat) : Int) - 1 = (k : Int) := by omega
          have c0 : (0 : Int) ≤ (k + 1 : Nat) := by omega
          have c1 : (0 : Int) ≤ (k : Int) := by omega
          have c2 : ((k + 1 : Nat) : Int) < N := by omega
          have c3 : (k : Int) < N := by omega
          have c4 : k + 1 < E.length := by omega
          have c5 : k < E.length := by omega
          have c6 : (k + 1) * 5 + 5 ≤ E.length * 5 := by omega
          have c7 : k * 5 + 5 ≤ E.length * 5 := by omega
          have d1 : k < (E.set (k + 1) (E.getD k default)).length := by simpa using c5
          have d2 : k * 5 + 5 ≤ (E.set (k + 1) (E.getD k default)).length * 5 := by simpa using c7
          simp +decide  only [go_sem, Nat.reduceAdd, Nat.reduceSub, Nat.reduceMul, g1, wrap_in (n := ↑k) (by omega) (by omega), e1, c0, c1, c2, c3, gcs_length, c6, c7, gcs_at _ _ c4, gcs_at _ _ c5, gcs_set _ _ _ c4, gcs_set _ _ _ d1, hm2, d2]
          refine InvJ.mk (k, swp E k (k + 1)) [0] rfl ⟨by simp only; omega, by simp only; omega, m3.step m2 (by omega), m4.trans (Loc.swp hw (by omega) (by omega) c4 (m3.less hB (by omega) m2))⟩ (by simp only; omega) ?_
          rw [← swp_comm]
          simp +decide [go_sem]
        · simp +decide  only [go_sem, Nat.reduceAdd, Nat.reduceSub, Nat.reduceMul, g1]
          refine Ret.sel [0] rfl (by simp +decide [go_sem]) ?_
          have : k = i := by omega
          subst this
          exact ⟨rfl, E, m4, m3.done hw hB so1, rfl⟩
    · simp +decide  only [go_sem, Nat.reduceAdd, Nat.reduceSub, Nat.reduceMul, h2, half a b (by omega)]
      generalize hmid : (a + b) / 2 = mid
      refine BrJ.ofP (fun k1 => ?_) fun k1 => ?_
      case' refine_1 =>
        have k1' : mid < m := by omega
        obtain ⟨s0, hs⟩ : ∃ s0, s0 = mid + m - b := ⟨_, rfl⟩
        obtain ⟨r0, hr⟩ : ∃ r0, r0 = mid := ⟨_, rfl⟩
        have hs0 : (if mid < m then mid + m - b else a) = s0 := by rw [if_pos k1']; exact hs.symm
        have hr0 : (if mid < m then mid else m) = r0 := by rw [if_pos k1']; exact hr.symm
        have es : (mid : Int) + m - b = s0 := by omega
        simp +decide  only [go_sem, Nat.reduceAdd, Nat.reduceSub, Nat.reduceMul, k1, wrap_in (n := ↑mid + ↑m) (by omega) (by omega), es, wrap_in (n := ↑s0) (by omega) (by omega)]
      case' refine_2 =>
        have k1' : ¬ mid < m := by omega
        obtain ⟨s0, hs⟩ : ∃ s0, s0 = a := ⟨_, rfl⟩
        obtain ⟨r0, hr⟩ : ∃ r0, r0 = m := ⟨_, rfl⟩
        have hs0 : (if mid < m then mid + m - b else a) = s0 := by rw [if_neg k1']; exact hs.symm
        have hr0 : (if mid < m then mid else m) = r0 := by rw [if_neg k1']; exact hr.symm
        simp +decide  only [go_sem, Nat.reduceAdd, Nat.reduceSub, Nat.reduceMul, k1]
      all_goals
        simp +decide  only [go_sem, Nat.reduceAdd, Nat.reduceSub, Nat.reduceMul, half a b (by omega), hmid, wrap_in (n := ↑mid + ↑m) (by omega) (by omega), wrap_in (n := ↑mid + ↑m - 1) (by omega) (by omega)]
        refine LoopJ.of tok mix [0, 1, 2, 3, 4, 10, 11, 12, 13, 14, 15, 16, 17, 18, 19, 20, 21, 22, 23, 24] (fun z : Nat × Nat => ⟨tm [(0, .sl 0 ver 5 0 N), (1, .int .i64 a), (2, .int .i64 m), (3, .int .i64 b), (4, .fn g []), (18, .int .i64 mid), (19, .int .i64 ((mid : Int) + m)), (20, .int .i64 z.1), (21, .int .i64 z.2), (22, .int .i64 ((mid : Int) + m - 1))], [⟨ver, mode, true, fl gc D⟩], 220⟩)
          (fun z => B3 lt D (mid + m - 1) s0 r0 z.1 z.2) (fun z => z.2 - z.1) (s0, r0) [0] rfl ⟨Nat.le_refl _, by simp only; omega, Nat.le_refl _, fun h => by simp only at h; omega, fun h => by simp only at h; omega⟩ (by simp +decide [go_sem, hs, hr]) (by decide +kernel) rfl ?_
        rintro ⟨s, r⟩ hB
        dsimp only at hB
        have q1 := hB.h1
        have q2 := hB.h2
        have q3 := hB.h3
        simp +decide  only [go_sem, Nat.reduceAdd, Nat.reduceSub, Nat.reduceMul, half s r (by omega)]
        refine BrJ.ofP (fun g1 => ?_) fun g1 => ?_
        · have g1' : s < r := by omega
          generalize hh : (s + r) / 2 = c
          have hh1 : s ≤ c := by omega
          have hh2 : c < r := by omega
          have c0 : (0 : Int) ≤ c := by omega
          have c1 : (0 : Int) ≤ mid + m - 1 - c := by omega
          have c2 : (c : Int) < N := by omega
          have c3 : (mid : Int) + m - 1 - c < N := by omega
          have c8 : ((mid : Int) + m - 1 - c).toNat = mid + m - 1 - c := by omega
          have c4 : c < D.length := by omega
          have c5 : mid + m - 1 - c < D.length := by omega
          have c6 : c * 5 + 5 ≤ D.length * 5 := by omega
          have c7 : (mid + m - 1 - c) * 5 + 5 ≤ D.length * 5 := by omega
          simp +decide  only [go_sem, Nat.reduceAdd, Nat.reduceSub, Nat.reduceMul, half s r (by omega), hh, wrap_in (n := ↑mid + ↑m - 1 - ↑c) (by omega) (by omega), c0, c1, c2, c3, c8, gcs_length, c6, c7, gcs_at _ _ c4, gcs_at _ _ c5]
          refine CallJ.of0 1 (hg (D.getD (mid + m - 1 - c) default) (D.getD c default)) (by simp +decide [go_sem]) ?_
          rintro _ _ ⟨⟨v, rfl, hv⟩, rfl⟩
          refine ⟨by simp [go_sem], by simp [go_sem], ?_⟩
          simp +decide  only [go_sem, Nat.reduceAdd, Nat.reduceSub, Nat.reduceMul, hv]
          refine BrJ.of (fun k2 => ?_) fun k2 => ?_
          · simp +decide  only [go_sem, Nat.reduceAdd, Nat.reduceSub, Nat.reduceMul, k2]
            refine InvJ.mk (s, c) [0] rfl (hB.lo hh1 hh2 k2) (by simp only; omega) ?_
            simp +decide [go_sem]
          · simp +decide  only [go_sem, Nat.reduceAdd, Nat.reduceSub, Nat.reduceMul, k2, wrap_in (n := ↑c + 1) (by omega) (by omega)]
            refine InvJ.mk (c + 1, r) [0] rfl (hB.hi hh1 hh2 k2) (by simp only; omega) ?_
            simp +decide [go_sem]
        · have g1' : s = r := by omega
          subst g1'
          rw [← hs0, ← hr0] at hB
          have hB4 := B3.out ham hmb hmid.symm hB
          clear hB hs0 hr0 hs hr
          clear q1 q2 q3
          generalize he : mid + m - s = e at hB4
          have he' : (mid : Int) + m - s = e := by have := hB4.h7; have := hB4.h2; omega
          have b1 := hB4.h1
          have b2 := hB4.h2
          have b3 := hB4.h3
          have b4 := hB4.h4
          have b5 := hB4.h5
          have b6 := hB4.h6
          have b7 := hB4.h7
          simp +decide  only [go_sem, Nat.reduceAdd, Nat.reduceSub, Nat.reduceMul, g1, wrap_in (n := ↑mid + ↑m - ↑s) (by omega) (by omega), he', wrap_in (n := ↑e) (by omega) (by omega)]
          refine BrJ.ofP (fun t1 => ?_) fun t1 => ?_
          case' refine_2 =>
            simp +decide  only [go_sem, Nat.reduceAdd, Nat.reduceSub, Nat.reduceMul, t1]
            obtain ⟨D1, hR, hL, hEq⟩ : ∃ D1, Rt D D1 m mid s e ∧ Loc lt D D1 a b ∧ fl gc D = fl gc D1 := ⟨D, Rt.same b7 (.inl (by omega)), Loc.refl _ _ _, rfl⟩
            rw [hEq]
          case' refine_1 =>
            simp +decide  only [go_sem, Nat.reduceAdd, Nat.reduceSub, Nat.reduceMul, t1]
            refine BrJ.ofP (fun t2 => ?_) fun t2 => ?_
            case' refine_2 =>
              simp +decide  only [go_sem, Nat.reduceAdd, Nat.reduceSub, Nat.reduceMul, t1, t2]
              obtain ⟨D1, hR, hL, hEq⟩ : ∃ D1, Rt D D1 m mid s e ∧ Loc lt D D1 a b ∧ fl gc D = fl gc D1 := ⟨D, Rt.same b7 (.inr (by omega)), Loc.refl _ _ _, rfl⟩
              rw [hEq]
            case' refine_1 =>
              simp +decide  only [go_sem, Nat.reduceAdd, Nat.reduceSub, Nat.reduceMul, t1, t2]
              obtain ⟨D1, hRot, hRL⟩ : ∃ D1, RotR D D1 s m e ∧ (Rt D D1 m mid s e ∧ Loc lt D D1 a b) := by
                have e1 : D = D.take s ++ (D.drop s).take (m - s) ++ (D.drop m).take (e - m) ++ D.drop e := by
                  conv => lhs; rw [← List.take_append_drop s D, ← List.take_append_drop (m - s) (D.drop s), List.drop_drop, show s + (m - s) = m by omega, ← List.take_append_drop (e - m) (D.drop m), List.drop_drop, show m + (e - m) = e by omega]
                  simp
                refine ⟨_, ⟨_, _, _, _, e1, rfl, ?_, ?_, ?_, ?_, ?_⟩, Rt.of hw hB4 (by omega) (by omega) (by omega) so1 so2 e1 rfl ?_ ?_ ?_⟩ <;> simp <;> omega
              obtain ⟨hR, hL⟩ := hRL
              refine CallJ.of [0] (1) (c_rotateG g mode hm2 ver N s m e D D1 hRot hN hN2) (by simp +decide [go_sem]) ?_
              rintro _ _ ⟨rfl, rfl⟩
              refine ⟨by simp [go_sem], by simp [go_sem], ?_⟩
              simp +decide  only [go_sem, Nat.reduceAdd, Nat.reduceSub, Nat.reduceMul]
          all_goals
            obtain ⟨u1, u2, u3, u4, u5⟩ := hR.runs hw hB4 so1 so2
            have hD1l : D1.length = N := hR.len.trans hN
            refine BrJ.ofP (fun w1 => ?_) fun w1 => ?_
            case' refine_2 =>
              simp +decide  only [go_sem, Nat.reduceAdd, Nat.reduceSub, Nat.reduceMul, w1]
              obtain ⟨D2, hL2, hS2, hEq2⟩ : ∃ D2, Loc lt D1 D2 a mid ∧ SO lt D2 a mid ∧ fl gc D1 = fl gc D2 := ⟨D1, Loc.refl _ _ _, (show s = a by omega) ▸ u2, rfl⟩
              rw [hEq2]
            case' refine_1 =>
              simp +decide  only [go_sem, Nat.reduceAdd, Nat.reduceSub, Nat.reduceMul, w1]
              refine BrJ.ofP (fun w2 => ?_) fun w2 => ?_
              case' refine_2 =>
                simp +decide  only [go_sem, Nat.reduceAdd, Nat.reduceSub, Nat.reduceMul, w1, w2]
                obtain ⟨D2, hL2, hS2, hEq2⟩ : ∃ D2, Loc lt D1 D2 a mid ∧ SO lt D2 a mid ∧ fl gc D1 = fl gc D2 := ⟨D1, Loc.refl _ _ _, (show s = mid by omega) ▸ u1, rfl⟩
                rw [hEq2]
              case' refine_1 =>
                simp +decide  only [go_sem, Nat.reduceAdd, Nat.reduceSub, Nat.reduceMul, w1, w2]
                refine CallJ.of [0] (1) (ih a s mid D1 (by omega) (by omega) (by omega) (by omega) hD1l u1 u2) (by simp +decide [go_sem]) ?_
                rintro _ _ ⟨rfl, D2, hL2, hS2, rfl⟩
                refine ⟨by simp [go_sem], by simp [go_sem], ?_⟩
                simp +decide  only [go_sem, Nat.reduceAdd, Nat.reduceSub, Nat.reduceMul]
            all_goals
              have hD2l : D2.length = N := hL2.len.trans hD1l
              have v1 : SO lt D2 mid e := u3.congr fun i i1 i2 => hL2.out i (.inr i1)
              have v2 : SO lt D2 e b := u4.congr fun i i1 i2 => hL2.out i (.inr (by omega))
              refine BrJ.ofP (fun x1 => ?_) fun x1 => ?_
              case' refine_2 =>
                simp +decide  only [go_sem, Nat.reduceAdd, Nat.reduceSub, Nat.reduceMul, x1]
                refine Ret.selN [0] rfl (by simp +decide [go_sem]) ?_
                have v3 : SO lt D2 mid b := (show e = mid by omega) ▸ v2
                exact ⟨rfl, D2, hL.trans (hL2.wide (Nat.le_refl _) (by omega)), SO.halves hL2 (Loc.refl _ _ _) hS2 v3 u5, rfl⟩
              case' refine_1 =>
                simp +decide  only [go_sem, Nat.reduceAdd, Nat.reduceSub, Nat.reduceMul, x1]
                refine BrJ.ofP (fun x2 => ?_) fun x2 => ?_
                case' refine_2 =>
                  simp +decide  only [go_sem, Nat.reduceAdd, Nat.reduceSub, Nat.reduceMul, x1, x2]
                  refine Ret.selN [0] rfl (by simp +decide [go_sem]) ?_
                  have v3 : SO lt D2 mid b := (show e = b by omega) ▸ v1
                  exact ⟨rfl, D2, hL.trans (hL2.wide (Nat.le_refl _) (by omega)), SO.halves hL2 (Loc.refl _ _ _) hS2 v3 u5, rfl⟩
                case' refine_1 =>
                  simp +decide  only [go_sem, Nat.reduceAdd, Nat.reduceSub, Nat.reduceMul, x1, x2]
                  refine CallJ.of [0] (1) (ih mid e b D2 (by omega) (by omega) (by omega) (by omega) hD2l v1 v2) (by simp +decide [go_sem]) ?_
                  rintro _ _ ⟨rfl, D3, hL3, hS3, rfl⟩
                  refine ⟨by simp [go_sem], by simp [go_sem], ?_⟩
                  simp +decide  only [go_sem, Nat.reduceAdd, Nat.reduceSub, Nat.reduceMul]
                  refine Ret.selN [0] rfl (by simp +decide [go_sem]) ?_
                  exact ⟨rfl, D3, hL.trans ((hL2.wide (Nat.le_refl _) (by omega)).trans (hL3.wide (by omega) (Nat.le_refl _))), SO.halves hL2 hL3 hS2 hS3 u5, rfl⟩
end Go.Proofs.Ytaloakmffdejgaa
