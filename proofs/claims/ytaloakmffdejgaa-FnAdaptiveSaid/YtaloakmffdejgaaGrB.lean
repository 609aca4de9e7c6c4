/- The drawing functions that the law of groups calls. -/
import Derived.Test.YtaloakmffdejgaaGrA
set_option linter.unusedSimpArgs false
set_option linter.unusedVariables false
set_option maxRecDepth 100000
namespace Go.Proofs.Ytaloakmffdejgaa
open Go Go.Fw

theorem c_vAt (q : Nat) (code : List UInt8) (i : Nat) (hl : code.length ≤ 1000000) (hi : i ≤ 1000000) : PCE Try.prog 14 [.vz q code.length (bys code), .int .i64 i] [] (fun r h => ∃ x : Int, r = .int .i64 x ∧ 0 ≤ x ∧ x ≤ 255 ∧ h = []) := by
  refine PCE.of_body tok Try.func14 (by kernel_rfl) rfl Try.ntmps14 (by rw [Try.results14]) (by simp) (W_go tok mix [0, 1, 4] (by decide +kernel) rfl ?_)
  simp +decide only [go_sem, Nat.reduceAdd, Nat.reduceSub, Nat.reduceMul]
  refine BrJ.ofP (fun h1 => ?_) fun h1 => ?_
  · have h1' : i < code.length := by omega
    have hb : (code.getD i 0).toNat < 256 := UInt8.toNat_lt _
    have c0 : (0:Int) ≤ i := by omega
    simp +decide  only [go_sem, Nat.reduceAdd, Nat.reduceSub, Nat.reduceMul, h1, c0, bys_get _ _ h1', wrap_in (n := ↑(code.getD i 0).toNat) (by omega) (by omega)]
    refine Ret.sel [] rfl (by simp +decide [go_sem]) ?_
    exact ⟨_, rfl, by omega, by omega, rfl⟩
  · simp +decide  only [go_sem, Nat.reduceAdd, Nat.reduceSub, Nat.reduceMul, h1, wrap_in (n := ↑i * 7) (by omega) (by omega), wrap_in (n := ↑i * 7 + ↑code.length) (by omega) (by omega)]
    refine Ret.sel [] rfl (by simp +decide [go_sem]) ?_
    exact ⟨_, rfl, by rw [Int.tmod_eq_emod_of_nonneg (by omega)]; omega, by rw [Int.tmod_eq_emod_of_nonneg (by omega)]; omega, rfl⟩

theorem c_pick (q : Nat) (code : List UInt8) (t : Nat) (seed n : Int) (hl : code.length ≤ 1000000) (ht : t ≤ 999999990) (hn : n ≤ 60000) :
    PCE Try.prog 85 [.ptr 0 0 0, .int .i64 n] [cur q code t seed] (fun r h => ∃ (x : Int) (t' : Nat) (s : Int), r = .int .i64 x ∧ 0 ≤ x ∧ (1 ≤ n → x < n) ∧ (n < 1 → x = 0) ∧ t' ≤ t + 2 ∧ h = [cur q code t' s]) := by
  refine PCE.of_body tok Try.func85 (by kernel_rfl) rfl Try.ntmps85 (by rw [Try.results85]) (by simp) (W_go tok mix [0, 1, 4, 5] (by decide +kernel) rfl ?_)
  simp +decide only [go_sem, Nat.reduceAdd, Nat.reduceSub, Nat.reduceMul]
  refine BrJ.ofP (fun h1 => ?_) fun h1 => ?_
  · simp +decide  only [go_sem, Nat.reduceAdd, Nat.reduceSub, Nat.reduceMul, h1]
    refine Ret.sel [0] rfl (by simp +decide [go_sem]) ?_
    exact ⟨_, t, seed, rfl, by omega, by omega, by omega, by omega, rfl⟩
  · simp +decide  only [go_sem, Nat.reduceAdd, Nat.reduceSub, Nat.reduceMul, h1]
    refine CallJ.of [0] (q + 1) (c_next q code t seed hl (by omega)) (by simp +decide [go_sem]) ?_
    rintro _ _ ⟨x, s, rfl, h2, h3, rfl⟩
    refine ⟨by simp [go_sem], by simp [go_sem], ?_⟩
    simp +decide  only [go_sem, Nat.reduceAdd, Nat.reduceSub, Nat.reduceMul]
    refine BrJ.ofP (fun h4 => ?_) fun h4 => ?_
    · simp +decide  only [go_sem, Nat.reduceAdd, Nat.reduceSub, Nat.reduceMul, h4, wrap_in (n := x * 256) (by omega) (by omega)]
      refine CallJ.of [0] (q + 1) (c_next q code (t + 1) s hl (by omega)) (by simp +decide [go_sem]) ?_
      rintro _ _ ⟨y, s2, rfl, h5, h6, rfl⟩
      refine ⟨by simp [go_sem], by simp [go_sem], ?_⟩
      have hne : n ≠ 0 := by omega
      simp +decide  only [go_sem, Nat.reduceAdd, Nat.reduceSub, Nat.reduceMul, wrap_in (n := x * 256 + y) (by omega) (by omega), hne]
      refine Ret.sel [0] rfl (by simp +decide [go_sem]) ?_
      refine ⟨_, t + 1 + 1, s2, rfl, ?_, fun _ => ?_, by omega, by omega, rfl⟩
      · rw [Int.tmod_eq_emod_of_nonneg (by omega)]; exact Int.emod_nonneg _ (by omega)
      · rw [Int.tmod_eq_emod_of_nonneg (by omega)]; exact Int.emod_lt_of_pos _ (by omega)
    · have hne : n ≠ 0 := by omega
      simp +decide  only [go_sem, Nat.reduceAdd, Nat.reduceSub, Nat.reduceMul, h4, hne]
      refine Ret.sel [0] rfl (by simp +decide [go_sem]) ?_
      refine ⟨_, t + 1, s, rfl, ?_, fun _ => ?_, by omega, by omega, rfl⟩
      · rw [Int.tmod_eq_emod_of_nonneg (by omega)]; exact Int.emod_nonneg _ (by omega)
      · rw [Int.tmod_eq_emod_of_nonneg (by omega)]; exact Int.emod_lt_of_pos _ (by omega)
theorem c_one (q : Nat) (code : List UInt8) (t : Nat) (seed n : Int) (hl : code.length ≤ 1000000) (ht : t ≤ 999999990) (hn : n ≤ 60000) :
    PCE Try.prog 69 [.ptr 0 0 0, .int .i64 n] [cur q code t seed] (fun r h => ∃ (b : Bool) (t' : Nat) (s : Int), r = .bool b ∧ t' ≤ t + 2 ∧ h = [cur q code t' s]) := by
  refine PCE.of_body tok Try.func69 (by kernel_rfl) rfl Try.ntmps69 (by rw [Try.results69]) (by simp) (W_go tok mix [0, 1, 4] (by decide +kernel) rfl ?_)
  simp +decide only [go_sem, Nat.reduceAdd, Nat.reduceSub, Nat.reduceMul]
  refine CallJ.of [0] (q + 1) (c_pick q code t seed n hl ht hn) (by simp +decide [go_sem]) ?_
  rintro _ _ ⟨x, t', s, rfl, h2, h3, h4, h5, rfl⟩
  refine ⟨by simp [go_sem], by simp [go_sem], ?_⟩
  simp +decide  only [go_sem, Nat.reduceAdd, Nat.reduceSub, Nat.reduceMul]
  refine Ret.sel [0] rfl (by simp +decide [go_sem]) ?_
  exact ⟨_, _, _, rfl, h5, rfl⟩

def ints (xs : List Int) : List PV := xs.map fun x => .int .i64 x
@[go_sem] theorem ints_nil : ints [] = [] := rfl
@[go_sem] theorem ints_cons (x : Int) (xs : List Int) : ints (x :: xs) = .int .i64 x :: ints xs := rfl
theorem ints_append (xs ys : List Int) : ints (xs ++ ys) = ints xs ++ ints ys := by simp [ints]
theorem take_ints (xs : List Int) : (ints xs).take xs.length = ints xs := by rw [List.take_of_length_le]; simp [ints]
theorem ints_length (xs : List Int) : (ints xs).length = xs.length := by simp [ints]
theorem ints_get (xs : List Int) (i : Nat) (h : i < xs.length) : (ints xs)[i]? = some (.int .i64 (xs.getD i 0)) := by
  simp [ints, List.getD, h]

theorem c_among (q q2 : Nat) (code : List UInt8) (t : Nat) (seed : Int) (xs : List Int) (n : Nat) (hx : n = xs.length) (hx0 : 0 < n) (hx1 : n ≤ 200) (hq : q2 = q + 1) (hl : code.length ≤ 1000000) (ht : t ≤ 999999990) :
    PCE Try.prog 105 [.ptr 0 0 0, .vz q2 n (ints xs)] [cur q code t seed] (fun r h => ∃ (x : Int) (t' : Nat) (s : Int), r = .int .i64 x ∧ x ∈ xs ∧ t' ≤ t + 2 ∧ h = [cur q code t' s]) := by
  subst hx hq
  refine PCE.of_body tok Try.func105 (by kernel_rfl) rfl Try.ntmps105 (by rw [Try.results105]) (by simp) (W_go tok mix [0, 1, 4] (by decide +kernel) rfl ?_)
  simp +decide only [go_sem, Nat.reduceAdd, Nat.reduceSub, Nat.reduceMul]
  refine CallJ.of [0] (q + 2) (c_pick q code t seed xs.length hl ht (by omega)) (by simp +decide [go_sem]) ?_
  rintro _ _ ⟨x, t', s, rfl, h2, h3, h4, h5, rfl⟩
  refine ⟨by simp [go_sem], by simp [go_sem], ?_⟩
  obtain ⟨k, rfl⟩ : ∃ k : Nat, x = k := ⟨x.toNat, by omega⟩
  have hk : k < xs.length := by omega
  have hk' : (k : Int) < xs.length := by omega
  simp +decide  only [go_sem, Nat.reduceAdd, Nat.reduceSub, Nat.reduceMul, h2, hk', ints_get _ _ hk]
  refine Ret.sel [0] rfl (by simp +decide [go_sem]) ?_
  exact ⟨_, _, _, rfl, by simp [List.getD, hk], h5, rfl⟩

theorem c_ints (q : Nat) (code : List UInt8) (t : Nat) (seed : Int) (hl : code.length ≤ 1000000) (ht : t ≤ 999990000) :
    PCE Try.prog 139 [.ptr 0 0 0] [cur q code t seed] (fun r h => ∃ (xs : List Int) (t' ver : Nat) (s : Int), r = .sl 1 ver 1 0 xs.length ∧ xs.length ≤ 24 ∧ (∀ x ∈ xs, -100000 ≤ x ∧ x ≤ 100000) ∧ t' ≤ t + 200 ∧ h = [cur q code t' s, ⟨ver, 0, true, ints xs⟩]) := by
  refine PCE.of_body tok Try.func139 (by kernel_rfl) rfl Try.ntmps139 (by rw [Try.results139]) (by simp) (W_go tok mix [0, 2, 3, 4] (by decide +kernel) rfl ?_)
  simp +decide only [go_sem, Nat.reduceAdd, Nat.reduceSub, Nat.reduceMul]
  refine CallJ.of [0] (q + 1) (c_pick q code t seed 9 hl (by omega) (by omega)) (by simp +decide [go_sem]) ?_
  rintro _ _ ⟨x, t1, s1, rfl, h2, h3, h4, h5, rfl⟩
  refine ⟨by simp [go_sem], by simp [go_sem], ?_⟩
  simp +decide  only [go_sem, Nat.reduceAdd, Nat.reduceSub, Nat.reduceMul]
  refine CallJ.of [0] (q + 1) (c_one q code t1 s1 6 hl (by omega) (by omega)) (by simp +decide [go_sem]) ?_
  rintro _ _ ⟨b, t2, s2, rfl, h6, rfl⟩
  refine ⟨by simp [go_sem], by simp [go_sem], ?_⟩
  cases b
  case' true =>
    simp +decide  only [go_sem, Nat.reduceAdd, Nat.reduceSub, Nat.reduceMul]
    refine CallJ.of [0] (q + 1) (c_pick q code t2 s2 24 hl (by omega) (by omega)) (by simp +decide [go_sem]) ?_
    rintro _ _ ⟨x', t2', s2', rfl, h2', h3', h4', h5', rfl⟩
    refine ⟨by simp [go_sem], by simp [go_sem], ?_⟩
    have hy : x' ≤ 24 := by omega
    have hy0 : 0 ≤ x' := by omega
    have hu : t2' ≤ t + 6 := by omega
    generalize x' = y at *; generalize t2' = u at *; generalize s2' = v at *
  case' false =>
    have hy : x ≤ 24 := by omega
    have hy0 : 0 ≤ x := by omega
    have hu : t2 ≤ t + 6 := by omega
    generalize x = y at *; generalize t2 = u at *; generalize s2 = v at *
  all_goals
    simp +decide  only [go_sem, Nat.reduceAdd, Nat.reduceSub, Nat.reduceMul]
    refine LoopJ.of tok mix [0, 2, 3, 4] (fun z : List Int × Nat × Nat × Int × Int => ⟨tm [(0, .ptr 0 0 0), (2, .nils), (3, .sl 1 z.2.1 1 0 z.1.length), (4, .int .i64 z.2.2.2.2)], [cur q code z.2.2.1 z.2.2.2.1, ⟨z.2.1, 0, true, ints z.1⟩], 30⟩)
      (fun z => 0 ≤ z.2.2.2.2 ∧ z.2.2.2.2 + z.1.length ≤ 24 ∧ z.2.2.1 ≤ t + 6 + 4 * z.1.length ∧ ∀ x ∈ z.1, -100000 ≤ x ∧ x ≤ 100000) (fun z => z.2.2.2.2.toNat) ([], 0, u, v, y) [0, 1] rfl (by simp; omega) (by simp +decide [go_sem]) (by decide +kernel) rfl ?_
    rintro ⟨xs, ver, t3, s3, n⟩ ⟨i1, i2, i3, i4⟩
    dsimp only at i1 i2 i3 i4
    simp +decide  only [go_sem, Nat.reduceAdd, Nat.reduceSub, Nat.reduceMul]
    refine BrJ.ofP (fun g1 => ?_) fun g1 => ?_
    · simp +decide  only [go_sem, Nat.reduceAdd, Nat.reduceSub, Nat.reduceMul, g1]
      refine CallJ.of [0] (q + 1) (c_one q code t3 s3 8 hl (by omega) (by omega)) (by simp +decide [go_sem]) ?_
      rintro _ _ ⟨b, t4, s4, rfl, g2, rfl⟩
      refine ⟨by simp [go_sem], by simp [go_sem], ?_⟩
      cases b
      · simp +decide  only [go_sem, Nat.reduceAdd, Nat.reduceSub, Nat.reduceMul]
        refine CallJ.of [0] (q + 1) (c_pick q code t4 s4 7 hl (by omega) (by omega)) (by simp +decide [go_sem]) ?_
        rintro _ _ ⟨x5, t5, s5, rfl, g3, g4, g5, g6, rfl⟩
        refine ⟨by simp [go_sem], by simp [go_sem], ?_⟩
        have b1 : (xs.length + 1) * 8 ≤ 140737488355328 := by omega
        have b2 : xs.length + 1 ≤ 140737488355328 := by omega
        simp +decide  only [go_sem, Nat.reduceAdd, Nat.reduceSub, Nat.reduceMul, wrap_in (n := n - 1) (by omega) (by omega), ints_length, take_ints, b1, b2, Nat.le_refl]
        refine InvJ.mk (xs ++ [x5], ver + 1, t5, s5, n - 1) [0, 1] rfl (by simp only [List.length_append, List.length_singleton, List.mem_append, List.mem_singleton]; refine ⟨by omega, by omega, by omega, ?_⟩; rintro z (hz | rfl); exact i4 _ hz; omega) (by simp only; omega) ?_
        simp +decide [go_sem, ints_append]
      · simp +decide  only [go_sem, Nat.reduceAdd, Nat.reduceSub, Nat.reduceMul]
        refine CallJ.of [0] (q + 1) (c_among q (q + 1) code t4 s4 [100000, -100000, 999, -5] 4 rfl (by omega) (by omega) rfl hl (by omega)) (by simp +decide [go_sem]) ?_
        rintro _ _ ⟨x5, t5, s5, rfl, g3, g6, rfl⟩
        refine ⟨by simp [go_sem], by simp [go_sem], ?_⟩
        simp only [List.mem_cons, List.not_mem_nil, or_false] at g3
        have g4 : -100000 ≤ x5 ∧ x5 ≤ 100000 := by omega
        have b1 : (xs.length + 1) * 8 ≤ 140737488355328 := by omega
        have b2 : xs.length + 1 ≤ 140737488355328 := by omega
        simp +decide  only [go_sem, Nat.reduceAdd, Nat.reduceSub, Nat.reduceMul, wrap_in (n := n - 1) (by omega) (by omega), ints_length, take_ints, b1, b2, Nat.le_refl]
        refine InvJ.mk (xs ++ [x5], ver + 1, t5, s5, n - 1) [0, 1] rfl (by simp only [List.length_append, List.length_singleton, List.mem_append, List.mem_singleton]; refine ⟨by omega, by omega, by omega, ?_⟩; rintro z (hz | rfl); exact i4 _ hz; exact g4) (by simp only; omega) ?_
        simp +decide [go_sem, ints_append]
    · simp +decide  only [go_sem, Nat.reduceAdd, Nat.reduceSub, Nat.reduceMul, g1]
      refine Ret.sel [0, 1] rfl (by simp +decide [go_sem]) ?_
      exact ⟨xs, t3, ver, s3, rfl, by omega, i4, by omega, rfl⟩
end Go.Proofs.Ytaloakmffdejgaa
