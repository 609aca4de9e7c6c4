/- The drawn records. -/
import Derived.Test.YtaloakmffdejgaaGrB
set_option linter.unusedSimpArgs false
set_option linter.unusedVariables false
set_option maxRecDepth 100000
namespace Go.Proofs.Ytaloakmffdejgaa
open Go Go.Fw

def rc (r : Int × Int) : List PV := [.int .i64 r.1, .int .i64 r.2]
def rcs (rs : List (Int × Int)) : List PV := rs.flatMap rc
theorem rcs_0 : ∀ (rs : List (Int × Int)) (i : Nat), i < rs.length → (rcs rs)[i * 2]? = some (.int .i64 (rs.getD i (0, 0)).1)
  | r :: rs, 0, _ => rfl
  | r :: rs, i + 1, h => by
    have := rcs_0 rs i (by simpa using h)
    have e : (i + 1) * 2 = i * 2 + 1 + 1 := by omega
    rw [e]; simpa [rcs, rc] using this
theorem rcs_1 : ∀ (rs : List (Int × Int)) (i : Nat), i < rs.length → (rcs rs)[i * 2 + 1]? = some (.int .i64 (rs.getD i (0, 0)).2)
  | r :: rs, 0, _ => rfl
  | r :: rs, i + 1, h => by
    have := rcs_1 rs i (by simpa using h)
    have e : (i + 1) * 2 + 1 = i * 2 + 1 + 1 + 1 := by omega
    rw [e]; simpa [rcs, rc] using this
@[go_sem] theorem rcs_nil : rcs [] = [] := rfl
theorem rcs_append (a b : List (Int × Int)) : rcs (a ++ b) = rcs a ++ rcs b := by simp [rcs]
theorem rcs_one (a : Int × Int) : rcs [a] = [.int .i64 a.1, .int .i64 a.2] := rfl
theorem rcs_length (rs : List (Int × Int)) : (rcs rs).length = rs.length * 2 := by
  induction rs with
  | nil => rfl
  | cons r rs ih => simp only [rcs, List.flatMap_cons, List.length_append] at ih ⊢; rw [ih]; simp [rc]; omega
theorem take_rcs (rs : List (Int × Int)) : (rcs rs).take (rs.length * 2) = rcs rs := by rw [List.take_of_length_le]; rw [rcs_length]; exact Nat.le_refl _

theorem rcs_set1 : ∀ (rs : List (Int × Int)) (i : Nat) (x : Int), i < rs.length → spl (rcs rs) (i * 2 + 1) [.int .i64 x] = rcs (rs.set i ((rs.getD i (0, 0)).1, x))
  | r :: rs, 0, x, _ => by
    show spl (.int .i64 r.1 :: .int .i64 r.2 :: rcs rs) (0 + 1) _ = _
    rw [spl_succ, spl_zero, spl_nil]; rfl
  | r :: rs, i + 1, x, h => by
    have := rcs_set1 rs i x (by simpa using h)
    show spl (.int .i64 r.1 :: .int .i64 r.2 :: rcs rs) ((i + 1) * 2 + 1) _ = _
    rw [show (i + 1) * 2 + 1 = i * 2 + 1 + 1 + 1 by omega, spl_succ, spl_succ, this]; rfl
theorem bndR_set {rs : List (Int × Int)} {i : Nat} {a b : Int} (h : ∀ r ∈ rs, (-200000 ≤ r.1 ∧ r.1 ≤ 200000) ∧ (-2000 ≤ r.2 ∧ r.2 ≤ 2000)) (h1 : -200000 ≤ a ∧ a ≤ 200000) (h2 : -2000 ≤ b ∧ b ≤ 2000) : ∀ r ∈ rs.set i (a, b), (-200000 ≤ r.1 ∧ r.1 ≤ 200000) ∧ (-2000 ≤ r.2 ∧ r.2 ≤ 2000) := by
  intro r hr
  rcases List.mem_or_eq_of_mem_set hr with hr | rfl
  · exact h r hr
  · exact ⟨h1, h2⟩

def bndR (rs : List (Int × Int)) : Prop := ∀ r ∈ rs, (-200000 ≤ r.1 ∧ r.1 ≤ 200000) ∧ (-2000 ≤ r.2 ∧ r.2 ≤ 2000)
theorem bndR_nil : bndR [] := fun _ h => by cases h
theorem bndR_snoc {rs : List (Int × Int)} {a b : Int} (h : bndR rs) (h1 : -200000 ≤ a ∧ a ≤ 200000) (h2 : -2000 ≤ b ∧ b ≤ 2000) : bndR (rs ++ [(a, b)]) := by
  intro r hr
  rcases List.mem_append.1 hr with hr | hr
  · exact h r hr
  · rw [List.mem_singleton.1 hr]; exact ⟨h1, h2⟩

theorem c_records (q : Nat) (code : List UInt8) (t : Nat) (seed : Int) (hl : code.length ≤ 1000000) (ht : t ≤ 999990000) :
    PCE Try.prog 86 [.ptr 0 0 0] [cur q code t seed] (fun r h => ∃ (rs : List (Int × Int)) (t' ver : Nat) (s : Int), r = .sl 1 ver 2 0 rs.length ∧ rs.length ≤ 24 ∧ bndR rs ∧ t' ≤ t + 200 ∧ h = [cur q code t' s, ⟨ver, 0, true, rcs rs⟩]) := by
  refine PCE.of_body tok Try.func86 (by kernel_rfl) rfl Try.ntmps86 (by rw [Try.results86]) (by simp) (W_go tok mix [0, 2, 3, 4, 5] (by decide +kernel) rfl ?_)
  simp +decide only [go_sem, Nat.reduceAdd, Nat.reduceSub, Nat.reduceMul]
  refine CallJ.of [0] (q + 1) (c_ints q code t seed hl (by omega)) (by simp +decide [go_sem]) ?_
  rintro _ _ ⟨xs, t1, v1, s1, rfl, h2, h3, h4, rfl⟩
  refine ⟨by simp [go_sem], by simp [go_sem], ?_⟩
  simp +decide  only [go_sem, Nat.reduceAdd, Nat.reduceSub, Nat.reduceMul]
  refine LoopJ.of tok mix [0, 2, 3, 4, 5] (fun z : List (Int × Int) × Nat => ⟨tm [(0, .ptr 0 0 0), (2, .nils), (3, .sl 1 z.2 2 0 z.1.length), (4, .sl 2 v1 1 0 xs.length), (5, .int .i64 z.1.length)], [cur q code t1 s1, ⟨z.2, 0, true, rcs z.1⟩, ⟨v1, 0, true, ints xs⟩], 25⟩)
      (fun z => z.1.length ≤ xs.length ∧ bndR z.1) (fun z => xs.length - z.1.length) ([], 0) [0, 1, 2] rfl ⟨by simp, bndR_nil⟩ (by simp +decide [go_sem]) (by decide +kernel) rfl ?_
  rintro ⟨rs, ver⟩ ⟨i1, i2⟩
  dsimp only at i1 i2
  simp +decide  only [go_sem, Nat.reduceAdd, Nat.reduceSub, Nat.reduceMul]
  refine BrJ.ofP (fun g1 => ?_) fun g1 => ?_
  · have g1' : rs.length < xs.length := by omega
    have c0 : (0 : Int) ≤ rs.length := by omega
    have b1 : (rs.length + 1) * 16 ≤ 140737488355328 := by omega
    have b2 : rs.length + 1 ≤ 140737488355328 := by omega
    simp +decide  only [go_sem, Nat.reduceAdd, Nat.reduceSub, Nat.reduceMul, g1, c0, ints_get _ _ g1', wrap_in (n := ↑rs.length + 1) (by omega) (by omega), rcs_length, take_rcs, b1, b2, Nat.le_refl]
    have hx := h3 (xs.getD rs.length 0) (by simp [List.getD, g1'])
    refine InvJ.mk (rs ++ [(xs.getD rs.length 0, (rs.length : Int))], ver + 1) [0, 1, 2] rfl ⟨by simp only [List.length_append, List.length_singleton]; omega, bndR_snoc i2 (by omega) (by omega)⟩ (by simp only [List.length_append, List.length_singleton]; omega) ?_
    simp +decide [go_sem, rcs_append, rcs_one]
  · simp +decide  only [go_sem, Nat.reduceAdd, Nat.reduceSub, Nat.reduceMul, g1]
    refine Ret.sel [0, 1] rfl (by simp +decide [go_sem]) ?_
    exact ⟨rs, t1, ver, s1, rfl, by omega, i2, by omega, rfl⟩

theorem c_anyRecords (q : Nat) (code : List UInt8) (t : Nat) (seed : Int) (hl : code.length ≤ 1000000) (ht : t ≤ 999980000) :
    PCE Try.prog 70 [.ptr 0 0 0] [cur q code t seed] (fun r h => ∃ (rs : List (Int × Int)) (t' ver : Nat) (s : Int), r = .sl 1 ver 2 0 rs.length ∧ rs.length ≤ 66 ∧ bndR rs ∧ t' ≤ t + 1000 ∧ h = [cur q code t' s, ⟨ver, 0, true, rcs rs⟩]) := by
  refine PCE.of_body tok Try.func70 (by kernel_rfl) rfl Try.ntmps70 (by rw [Try.results70]) (by simp) (W_go tok mix [0, 2, 3, 7] (by decide +kernel) rfl ?_)
  simp +decide only [go_sem, Nat.reduceAdd, Nat.reduceSub, Nat.reduceMul]
  refine CallJ.of [0] (q + 1) (c_records q code t seed hl (by omega)) (by simp +decide [go_sem]) ?_
  rintro _ _ ⟨rs, t1, v1, s1, rfl, h2, h3, h4, rfl⟩
  refine ⟨by simp [go_sem], by simp [go_sem], ?_⟩
  simp +decide  only [go_sem, Nat.reduceAdd, Nat.reduceSub, Nat.reduceMul]
  refine CallJ.of [0] (q + 1) (c_pick q code t1 s1 24 hl (by omega) (by omega)) (by simp +decide [go_sem]) ?_
  rintro _ _ ⟨x, t2, s2, rfl, h5, h6, h7, h8, rfl⟩
  refine ⟨by simp [go_sem], by simp [go_sem], ?_⟩
  simp +decide  only [go_sem, Nat.reduceAdd, Nat.reduceSub, Nat.reduceMul]
  refine BrJ.ofP (fun g1 => ?_) fun g1 => ?_
  · simp +decide  only [go_sem, Nat.reduceAdd, Nat.reduceSub, Nat.reduceMul, g1]
    refine CallJ.of [0] (q + 1) (c_among q (q + 1) code t2 s2 [0, 100001] 2 rfl (by omega) (by omega) rfl hl (by omega)) (by simp +decide [go_sem]) ?_
    rintro _ _ ⟨x5, t5, s5, rfl, g3, g6, rfl⟩
    refine ⟨by simp [go_sem], by simp [go_sem], ?_⟩
    simp +decide  only [go_sem, Nat.reduceAdd, Nat.reduceSub, Nat.reduceMul]
    refine CallJ.of [0] (q + 1) (c_among q (q + 1) code t5 s5 [-1, 1000, 999] 3 rfl (by omega) (by omega) rfl hl (by omega)) (by simp +decide [go_sem]) ?_
    rintro _ _ ⟨x6, t6, s6, rfl, g7, g8, rfl⟩
    refine ⟨by simp [go_sem], by simp [go_sem], ?_⟩
    simp only [List.mem_cons, List.not_mem_nil, or_false] at g3 g7
    have b1 : (rs.length + 1) * 16 ≤ 140737488355328 := by omega
    have b2 : rs.length + 1 ≤ 140737488355328 := by omega
    simp +decide  only [go_sem, Nat.reduceAdd, Nat.reduceSub, Nat.reduceMul, rcs_length, take_rcs, b1, b2, Nat.le_refl]
    refine Ret.sel [0, 1] rfl (by simp +decide [go_sem]) ?_
    exact ⟨rs ++ [(x5, x6)], t6, v1 + 1, s6, by simp +decide [go_sem], by simp; omega, bndR_snoc h3 (by omega) (by omega), by omega, by simp +decide [go_sem, rcs_append, rcs_one]⟩
  · simp +decide  only [go_sem, Nat.reduceAdd, Nat.reduceSub, Nat.reduceMul, g1]
    refine BrJ.ofP (fun g2 => ?_) fun g2 => ?_
    · simp +decide  only [go_sem, Nat.reduceAdd, Nat.reduceSub, Nat.reduceMul, g2]
      refine LoopJ.of tok mix [0, 2, 3, 7] (fun z : List (Int × Int) × Nat × Nat × Int => ⟨tm [(0, .ptr 0 0 0), (2, .nils), (3, .sl 1 z.2.1 2 0 z.1.length)], [cur q code z.2.2.1 z.2.2.2, ⟨z.2.1, 0, true, rcs z.1⟩], 37⟩)
        (fun z => z.1.length ≤ 66 ∧ bndR z.1 ∧ z.2.2.1 ≤ t + 300 + 5 * z.1.length) (fun z => 66 - z.1.length) (rs, v1, t2, s2) [0, 1] rfl ⟨by simp only; omega, h3, by simp only; omega⟩ (by simp +decide [go_sem]) (by decide +kernel) rfl ?_
      rintro ⟨rs, ver, t3, s3⟩ ⟨i1, i2, i3⟩
      dsimp only at i1 i2 i3
      simp +decide  only [go_sem, Nat.reduceAdd, Nat.reduceSub, Nat.reduceMul]
      refine CallJ.of [0] (q + 1) (c_pick q code t3 s3 2 hl (by omega) (by omega)) (by simp +decide [go_sem]) ?_
      rintro _ _ ⟨y, t4, s4, rfl, k5, k6, k7, k8, rfl⟩
      refine ⟨by simp [go_sem], by simp [go_sem], ?_⟩
      simp +decide  only [go_sem, Nat.reduceAdd, Nat.reduceSub, Nat.reduceMul, wrap_in (n := 64 + y) (by omega) (by omega)]
      refine BrJ.ofP (fun g3 => ?_) fun g3 => ?_
      · simp +decide  only [go_sem, Nat.reduceAdd, Nat.reduceSub, Nat.reduceMul, g3]
        refine CallJ.of [0] (q + 1) (c_pick q code t4 s4 5 hl (by omega) (by omega)) (by simp +decide [go_sem]) ?_
        rintro _ _ ⟨x5, t5, s5, rfl, l5, l6, l7, l8, rfl⟩
        refine ⟨by simp [go_sem], by simp [go_sem], ?_⟩
        have b1 : (rs.length + 1) * 16 ≤ 140737488355328 := by omega
        have b2 : rs.length + 1 ≤ 140737488355328 := by omega
        simp +decide  only [go_sem, Nat.reduceAdd, Nat.reduceSub, Nat.reduceMul, rcs_length, take_rcs, b1, b2, Nat.le_refl]
        refine InvJ.mk (rs ++ [(x5, (rs.length : Int))], ver + 1, t5, s5) [0, 1] rfl ⟨by simp only [List.length_append, List.length_singleton]; omega, bndR_snoc i2 (by omega) (by omega), by simp only [List.length_append, List.length_singleton]; omega⟩ (by simp only [List.length_append, List.length_singleton]; omega) ?_
        simp +decide [go_sem, rcs_append, rcs_one]
      · simp +decide  only [go_sem, Nat.reduceAdd, Nat.reduceSub, Nat.reduceMul, g3]
        refine Ret.sel [0, 1] rfl (by simp +decide [go_sem]) ?_
        exact ⟨rs, t4, ver, s4, rfl, by omega, i2, by omega, rfl⟩
    · simp +decide  only [go_sem, Nat.reduceAdd, Nat.reduceSub, Nat.reduceMul, g2]
      refine Ret.sel [0, 1] rfl (by simp +decide [go_sem]) ?_
      exact ⟨rs, t2, v1, s2, rfl, by omega, h3, by omega, rfl⟩

theorem c_tagged (q : Nat) (code : List UInt8) (t : Nat) (seed : Int) (hl : code.length ≤ 1000000) (ht : t ≤ 999980000) :
    PCE Try.prog 71 [.ptr 0 0 0] [cur q code t seed] (fun r h => ∃ (rs : List (Int × Int)) (t' ver : Nat) (s : Int), r = .sl 1 ver 2 0 rs.length ∧ rs.length ≤ 66 ∧ bndR rs ∧ t' ≤ t + 1000 ∧ h = [cur q code t' s, ⟨ver, 0, true, rcs rs⟩]) := by
  refine PCE.of_body tok Try.func71 (by kernel_rfl) rfl Try.ntmps71 (by rw [Try.results71]) (by simp) (W_go tok mix [0, 2, 3, 4] (by decide +kernel) rfl ?_)
  simp +decide only [go_sem, Nat.reduceAdd, Nat.reduceSub, Nat.reduceMul]
  refine CallJ.of [0] (q + 1) (c_records q code t seed hl (by omega)) (by simp +decide [go_sem]) ?_
  rintro _ _ ⟨rs, t1, v1, s1, rfl, h2, h3, h4, rfl⟩
  refine ⟨by simp [go_sem], by simp [go_sem], ?_⟩
  simp +decide  only [go_sem, Nat.reduceAdd, Nat.reduceSub, Nat.reduceMul]
  refine LoopJ.of tok mix [0, 2, 3, 4] (fun z : List (Int × Int) × Nat × Nat × Int => ⟨tm [(0, .ptr 0 0 0), (2, .nils), (3, .sl 1 v1 2 0 z.1.length), (4, .int .i64 z.2.1)], [cur q code z.2.2.1 z.2.2.2, ⟨v1, 0, true, rcs z.1⟩], 21⟩)
    (fun z => z.1.length ≤ 24 ∧ z.2.1 ≤ z.1.length ∧ bndR z.1 ∧ z.2.2.1 ≤ t + 300 + 5 * z.2.1) (fun z => z.1.length - z.2.1) (rs, 0, t1, s1) [0, 1] rfl ⟨by simp only; omega, by simp, h3, by simp only; omega⟩ (by simp +decide [go_sem]) (by decide +kernel) rfl ?_
  rintro ⟨rs, i, t3, s3⟩ ⟨i1, i2, i3, i4⟩
  dsimp only at i1 i2 i3 i4
  simp +decide  only [go_sem, Nat.reduceAdd, Nat.reduceSub, Nat.reduceMul]
  refine BrJ.ofP (fun g1 => ?_) fun g1 => ?_
  · have g1' : i < rs.length := by omega
    have c0 : (0 : Int) ≤ i := by omega
    simp +decide  only [go_sem, Nat.reduceAdd, Nat.reduceSub, Nat.reduceMul, g1, c0, wrap_in (n := ↑i + 1) (by omega) (by omega)]
    refine CallJ.of [0] (q + 1) (c_among q (q + 1) code t3 s3 [0, 1, 5, 500, 999] 5 rfl (by omega) (by omega) rfl hl (by omega)) (by simp +decide [go_sem]) ?_
    rintro _ _ ⟨x5, t5, s5, rfl, g3, g6, rfl⟩
    refine ⟨by simp [go_sem], by simp [go_sem], ?_⟩
    simp only [List.mem_cons, List.not_mem_nil, or_false] at g3
    have b1 : i * 2 + 1 + 1 ≤ rs.length * 2 := by omega
    simp +decide  only [go_sem, Nat.reduceAdd, Nat.reduceSub, Nat.reduceMul, wrap_in (n := ↑i + 1) (by omega) (by omega), rcs_length, g1, c0, b1, rcs_set1 _ _ _ g1']
    have hm := i3 (rs.getD i (0, 0)) (by simp [List.getD, g1'])
    refine InvJ.mk (rs.set i ((rs.getD i (0, 0)).1, x5), i + 1, t5, s5) [0, 1] rfl ⟨by simpa using i1, by simp only [List.length_set]; omega, bndR_set i3 hm.1 (by omega), by simp only; omega⟩ (by simp only [List.length_set]; omega) ?_
    simp +decide [go_sem]
  · simp +decide  only [go_sem, Nat.reduceAdd, Nat.reduceSub, Nat.reduceMul, g1]
    refine Ret.sel [0, 1] rfl (by simp +decide [go_sem]) ?_
    exact ⟨rs, t3, v1, s3, rfl, by omega, i3, by omega, rfl⟩

theorem c_draw (q : Nat) (code : List UInt8) (hl : code.length ≤ 1000000) :
    PCE Try.prog 25 [.vz q code.length (bys code)] [] (fun r h => ∃ (rs : List (Int × Int)) (ver : Nat), r = .sl 0 ver 2 0 rs.length ∧ rs.length ≤ 66 ∧ bndR rs ∧ h = [⟨ver, 0, true, rcs rs⟩]) := by
  refine PCE.of_body tok Try.func25 (by kernel_rfl) rfl Try.ntmps25 (by rw [Try.results25]) (by simp) (W_go tok mix [0, 2, 3] (by decide +kernel) rfl ?_)
  simp +decide only [go_sem, Nat.reduceAdd, Nat.reduceSub, Nat.reduceMul]
  refine CallJ.of [0] (q + 1) (c_one q code 0 0 12 hl (by omega) (by omega)) (by simp +decide [go_sem]) ?_
  rintro _ _ ⟨b, t2, s2, rfl, h6, rfl⟩
  refine ⟨by simp [go_sem], by simp [go_sem], ?_⟩
  cases b
  · simp +decide  only [go_sem, Nat.reduceAdd, Nat.reduceSub, Nat.reduceMul]
    refine CallJ.of [0] (q + 1) (c_tagged q code t2 s2 hl (by omega)) (by simp +decide [go_sem]) ?_
    rintro _ _ ⟨rs, t1, v1, s1, rfl, h2, h3, h4, rfl⟩
    refine ⟨by simp [go_sem], by simp [go_sem], ?_⟩
    simp +decide  only [go_sem, Nat.reduceAdd, Nat.reduceSub, Nat.reduceMul]
    refine Ret.sel [1] rfl (by simp +decide [go_sem]) ?_
    exact ⟨rs, v1, rfl, h2, h3, rfl⟩
  · simp +decide  only [go_sem, Nat.reduceAdd, Nat.reduceSub, Nat.reduceMul]
    refine CallJ.of [0] (q + 1) (c_anyRecords q code t2 s2 hl (by omega)) (by simp +decide [go_sem]) ?_
    rintro _ _ ⟨rs, t1, v1, s1, rfl, h2, h3, h4, rfl⟩
    refine ⟨by simp [go_sem], by simp [go_sem], ?_⟩
    simp +decide  only [go_sem, Nat.reduceAdd, Nat.reduceSub, Nat.reduceMul]
    refine Ret.sel [1] rfl (by simp +decide [go_sem]) ?_
    exact ⟨rs, v1, rfl, h2, h3, rfl⟩
end Go.Proofs.Ytaloakmffdejgaa
