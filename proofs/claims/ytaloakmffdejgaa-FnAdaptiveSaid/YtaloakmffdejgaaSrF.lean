/- Rotations, as package slices does them, on records. -/
import Derived.Test.YtaloakmffdejgaaGrG
set_option linter.unusedSimpArgs false
set_option linter.unusedVariables false
set_option maxRecDepth 100000
set_option maxHeartbeats 8000000
namespace Go.Proofs.Ytaloakmffdejgaa
open Go Go.Fw

abbrev Rc := Int × Int
theorem rc2 (r : Rc) : (rc r).length = 2 := rfl
theorem rks_length (rs : List Rc) : (fl rc rs).length = rs.length * 2 := fl_length rc 2 rc2 rs
theorem take_rks (rs : List Rc) : (fl rc rs).take (rs.length * 2) = fl rc rs := take_fl rc 2 rc2 rs
theorem rks_one (rs : List Rc) : (fl rc rs).all one = true := fl_all rc one (fun _ => rfl) rs
theorem rks_at (rs : List Rc) (i : Nat) (h : i < rs.length) : ((fl rc rs).drop (i * 2)).take 2 = rc (rs.getD i default) := fl_at rc 2 rc2 rs i default h
theorem rks_0 (rs : List Rc) (i : Nat) (h : i < rs.length) : (fl rc rs)[i * 2]? = some (.int .i64 (rs.getD i default).1) := by
  have := fl_cell rc 2 rc2 rs i 0 default h (by omega); simpa [rc] using this
theorem rks_set (rs : List Rc) (i : Nat) (x : Rc) (h : i < rs.length) : spl (fl rc rs) (i * 2) [.int .i64 x.1, .int .i64 x.2] = fl rc (rs.set i x) := fl_set rc 2 rc2 rs i x h
theorem rcs_fl (rs : List Rc) : rcs rs = fl rc rs := rfl

def SwRR (D D' : List Rc) (a b n : Nat) : Prop := ∃ P A Q B S : List Rc, D = P ++ A ++ Q ++ B ++ S ∧ D' = P ++ B ++ Q ++ A ++ S ∧ a = P.length ∧ b = P.length + n + Q.length ∧ A.length = n ∧ B.length = n

theorem swRR_step {P A Q B S : List Rc} {n i : Nat} (hA : A.length = n) (hB : B.length = n) (hi : i < n) (D : List Rc) (hD : D = P ++ B.take i ++ A.drop i ++ Q ++ A.take i ++ B.drop i ++ S) :
    (D.set (P.length + i) (D.getD (P.length + n + Q.length + i) default)).set (P.length + n + Q.length + i) (D.getD (P.length + i) default) = P ++ B.take (i + 1) ++ A.drop (i + 1) ++ Q ++ A.take (i + 1) ++ B.drop (i + 1) ++ S := by
  have e1 : D = (P ++ B.take i) ++ A.getD i default :: (A.drop (i + 1) ++ Q ++ A.take i ++ B.drop i ++ S) := by
    rw [hD, drop_cons (l := A) (by omega)]; simp
  have e2 : D = (P ++ B.take i ++ A.drop i ++ Q ++ A.take i) ++ B.getD i default :: (B.drop (i + 1) ++ S) := by
    rw [hD, drop_cons (l := B) (by omega)]; simp
  have l1 : (P ++ B.take i).length = P.length + i := by simp; omega
  have l2 : (P ++ B.take i ++ A.drop i ++ Q ++ A.take i).length = P.length + n + Q.length + i := by simp; omega
  have g1 : D.getD (P.length + i) default = A.getD i default := by rw [e1]; exact getD_mid _ _ _ _ l1.symm
  have g2 : D.getD (P.length + n + Q.length + i) default = B.getD i default := by rw [e2]; exact getD_mid _ _ _ _ l2.symm
  rw [g1, g2]
  have e3 : D.set (P.length + i) (B.getD i default) = (P ++ B.take i ++ B.getD i default :: (A.drop (i + 1) ++ Q ++ A.take i)) ++ B.getD i default :: (B.drop (i + 1) ++ S) := by
    rw [e1, set_mid _ _ _ _ _ l1.symm, drop_cons (l := B) (by omega)]; simp
  rw [e3, set_mid _ _ _ _ _ (by simp; omega), take_snoc (l := A) (by omega), take_snoc (l := B) (by omega)]
  simp

theorem c_swapRangeR (g mode : Nat) (hm : mode ≠ 2) (ver N a b n : Nat) (D D' : List Rc) (hD : SwRR D D' a b n) (hN : D.length = N) (hN2 : N ≤ 1000) :
    PCE Try.prog 212 [.sl 0 ver 2 0 N, .int .i64 a, .int .i64 b, .int .i64 n, .fn g []] [⟨ver, mode, true, fl rc D⟩] (fun r h => r = .tup [] ∧ h = [⟨ver, mode, true, fl rc D'⟩]) := by
  obtain ⟨P, A, Q, B, S, e1, e2, ha, hb, hA, hB⟩ := hD
  have hNl : N = P.length + n + Q.length + n + S.length := by rw [← hN, e1]; simp; omega
  refine PCE.of_body tok Try.func212 (by kernel_rfl) rfl Try.ntmps212 (by rw [Try.results212]) (by simp) (W_go tok mix [0, 1, 2, 3, 4, 10] (by decide +kernel) rfl ?_)
  simp +decide only [go_sem, Nat.reduceAdd, Nat.reduceSub, Nat.reduceMul]
  refine LoopJ.of tok mix [0, 1, 2, 3, 4, 10] (fun z : Nat × List Rc => ⟨tm [(0, .sl 0 ver 2 0 N), (1, .int .i64 a), (2, .int .i64 b), (3, .int .i64 n), (10, .int .i64 z.1)], [⟨ver, mode, true, fl rc z.2⟩], 38⟩)
    (fun z => z.1 ≤ n ∧ z.2 = P ++ B.take z.1 ++ A.drop z.1 ++ Q ++ A.take z.1 ++ B.drop z.1 ++ S) (fun z => n - z.1) (0, D) [0] rfl ⟨Nat.zero_le _, by simpa using e1⟩ (by simp +decide [go_sem]) (by decide +kernel) rfl ?_
  rintro ⟨i, E⟩ ⟨hi, hE⟩
  dsimp only at hi hE
  have hEl : E.length = N := by rw [hE, hNl]; simp; omega
  simp +decide  only [go_sem, Nat.reduceAdd, Nat.reduceSub, Nat.reduceMul]
  refine BrJ.ofP (fun h1 => ?_) fun h1 => ?_
  · have h1' : i < n := by omega
    have c0 : (0:Int) ≤ a + i := by omega
    have c1 : (0:Int) ≤ b + i := by omega
    have c2 : (a + i : Int) < N := by omega
    have c3 : (b + i : Int) < N := by omega
    have c4 : (a + i : Int).toNat = a + i := by omega
    have c5 : (b + i : Int).toNat = b + i := by omega
    have c6 : a + i < E.length := by omega
    have c7 : b + i < E.length := by omega
    have c8 : (a + i) * 2 + 2 ≤ E.length * 2 := by omega
    have c9 : (b + i) * 2 + 2 ≤ E.length * 2 := by omega
    have d1 : b + i < (E.set (a + i) (E.getD (b + i) default)).length := by simpa using c7
    have d2 : (b + i) * 2 + 2 ≤ (E.set (a + i) (E.getD (b + i) default)).length * 2 := by simpa using c9
    simp +decide  only [go_sem, Nat.reduceAdd, Nat.reduceSub, Nat.reduceMul, wrap_in (n := ↑a + ↑i) (by omega) (by omega), wrap_in (n := ↑b + ↑i) (by omega) (by omega), wrap_in (n := ↑i + 1) (by omega) (by omega), c0, c1, c2, c3, c4, c5, rks_length, c8, c9, rks_at _ _ c6, rks_at _ _ c7, rks_set _ _ _ c6, rks_set _ _ _ d1, hm, d2]
    refine InvJ.mk (i + 1, P ++ B.take (i + 1) ++ A.drop (i + 1) ++ Q ++ A.take (i + 1) ++ B.drop (i + 1) ++ S) [0] rfl ⟨by simp only; omega, rfl⟩ (by simp only; omega) ?_
    rw [← swRR_step hA hB h1' E hE, ← hb, ← ha]
    simp +decide [go_sem]
  · simp +decide  only [go_sem, Nat.reduceAdd, Nat.reduceSub, Nat.reduceMul, h1]
    refine Ret.selN [0] rfl (by simp +decide [go_sem]) ?_
    have : i = n := by omega
    subst this
    refine ⟨rfl, ?_⟩
    rw [hE, e2, List.take_of_length_le (by omega), List.take_of_length_le (by omega), List.drop_of_length_le (by omega), List.drop_of_length_le (by omega)]
    simp +decide [go_sem]

def RotRR (D D' : List Rc) (a m b : Nat) : Prop := ∃ P X Y S : List Rc, D = P ++ X ++ Y ++ S ∧ D' = P ++ Y ++ X ++ S ∧ a = P.length ∧ m = P.length + X.length ∧ b = P.length + X.length + Y.length ∧ 0 < X.length ∧ 0 < Y.length

def RotIR (D' : List Rc) (m : Nat) (z : Nat × Nat × List Rc) : Prop := ∃ L X Y R : List Rc, z.2.2 = L ++ X ++ Y ++ R ∧ D' = L ++ Y ++ X ++ R ∧ X.length = z.1 ∧ Y.length = z.2.1 ∧ L.length + z.1 = m ∧ 0 < z.1 ∧ 0 < z.2.1

theorem rotIR_gt {D' : List Rc} {m i j : Nat} {E : List Rc} (h : RotIR D' m (i, j, E)) (hij : j < i) : ∃ E', SwRR E E' (m - i) m j ∧ RotIR D' m (i - j, j, E') ∧ E'.length = E.length := by
  obtain ⟨L, X, Y, R, e1, e2, hX, hY, hm, hi, hj⟩ := h
  dsimp only at e1 hX hY hm hi hj
  refine ⟨L ++ Y ++ X.drop j ++ X.take j ++ R, ⟨L, X.take j, X.drop j, Y, R, by rw [e1]; simp, by simp, by omega, by simp; omega, by simp; omega, hY⟩,
    ⟨L ++ Y, X.drop j, X.take j, R, by simp, by rw [e2]; simp, by simp; omega, by simp; omega, by simp; omega, by simp only; omega, hj⟩, by rw [e1]; simp; omega⟩

theorem rotIR_lt {D' : List Rc} {m i j : Nat} {E : List Rc} (h : RotIR D' m (i, j, E)) (hij : i < j) : ∃ E', SwRR E E' (m - i) (m + j - i) i ∧ RotIR D' m (i, j - i, E') ∧ E'.length = E.length := by
  obtain ⟨L, X, Y, R, e1, e2, hX, hY, hm, hi, hj⟩ := h
  dsimp only at e1 hX hY hm hi hj
  refine ⟨L ++ Y.drop (j - i) ++ Y.take (j - i) ++ X ++ R, ⟨L, X, Y.take (j - i), Y.drop (j - i), R, by rw [e1]; simp, by simp, by omega, by simp; omega, hX, by simp; omega⟩,
    ⟨L, Y.drop (j - i), Y.take (j - i), X ++ R, by simp, by rw [e2]; simp, by simp; omega, by simp; omega, hm, hi, by simp only; omega⟩, by rw [e1]; simp; omega⟩

theorem rotIR_eq {D' : List Rc} {m i : Nat} {E : List Rc} (h : RotIR D' m (i, i, E)) : SwRR E D' (m - i) m i := by
  obtain ⟨L, X, Y, R, e1, e2, hX, hY, hm, hi, hj⟩ := h
  dsimp only at e1 hX hY hm hi hj
  exact ⟨L, X, [], Y, R, by rw [e1]; simp, by rw [e2]; simp, by omega, by simp; omega, hX, hY⟩

theorem c_rotateR (g mode : Nat) (hm2 : mode ≠ 2) (ver N a m b : Nat) (D D' : List Rc) (hD : RotRR D D' a m b) (hN : D.length = N) (hN2 : N ≤ 1000) :
    PCE Try.prog 204 [.sl 0 ver 2 0 N, .int .i64 a, .int .i64 m, .int .i64 b, .fn g []] [⟨ver, mode, true, fl rc D⟩] (fun r h => r = .tup [] ∧ h = [⟨ver, mode, true, fl rc D'⟩]) := by
  obtain ⟨P, X, Y, S, e1, e2, ha, hm, hb, hX, hY⟩ := hD
  have hNl : N = P.length + X.length + Y.length + S.length := by rw [← hN, e1]; simp; omega
  refine PCE.of_body tok Try.func204 (by kernel_rfl) rfl Try.ntmps204 (by rw [Try.results204]) (by simp) (W_go tok mix [0, 1, 2, 3, 4, 10, 11] (by decide +kernel) rfl ?_)
  simp +decide only [go_sem, Nat.reduceAdd, Nat.reduceSub, Nat.reduceMul]
  simp +decide  only [go_sem, Nat.reduceAdd, Nat.reduceSub, Nat.reduceMul, wrap_in (n := ↑m - ↑a) (by omega) (by omega), wrap_in (n := ↑b - ↑m) (by omega) (by omega)]
  refine LoopJ.of tok mix [0, 1, 2, 3, 4, 10, 11] (fun z : Nat × Nat × List Rc => ⟨tm [(0, .sl 0 ver 2 0 N), (1, .int .i64 a), (2, .int .i64 m), (3, .int .i64 b), (4, .fn g []), (10, .int .i64 z.1), (11, .int .i64 z.2.1)], [⟨ver, mode, true, fl rc z.2.2⟩], 58⟩)
    (fun z => RotIR D' m z ∧ z.2.2.length = N ∧ z.1 ≤ N ∧ z.2.1 ≤ N) (fun z => z.1 + z.2.1) (X.length, Y.length, D) [0] rfl ⟨⟨P, X, Y, S, e1, e2, rfl, rfl, hm.symm, hX, hY⟩, hN, by simp only; omega, by simp only; omega⟩ (by simp +decide [go_sem]; omega) (by decide +kernel) rfl ?_
  rintro ⟨i, j, E⟩ ⟨hI, hEl, hi1, hj1⟩
  dsimp only at hEl hi1 hj1
  have him : i ≤ m ∧ 0 < i ∧ 0 < j := by
    obtain ⟨L, X, Y, R, e1, e2, hX, hY, hm, hi, hj⟩ := hI
    dsimp only at hm hi hj
    omega
  obtain ⟨him, hi0, hj0⟩ := him
  have q1 : ((m - i : Nat) : Int) = m - i := by omega
  simp +decide  only [go_sem, Nat.reduceAdd, Nat.reduceSub, Nat.reduceMul]
  refine BrJ.ofP (fun h1 => ?_) fun h1 => ?_
  · have h1' : i = j := by omega
    subst h1'
    simp +decide  only [go_sem, Nat.reduceAdd, Nat.reduceSub, Nat.reduceMul, wrap_in (n := ↑m - ↑i) (by omega) (by omega)]
    rw [← q1]
    refine CallJ.of [0] (1) (c_swapRangeR g mode hm2 ver N (m - i) m i E D' (rotIR_eq hI) hEl hN2) (by simp +decide [go_sem]) ?_
    rintro _ _ ⟨rfl, rfl⟩
    refine ⟨by simp [go_sem], by simp [go_sem], ?_⟩
    simp +decide  only [go_sem, Nat.reduceAdd, Nat.reduceSub, Nat.reduceMul]
    refine Ret.selN [0] rfl (by simp +decide [go_sem]) ?_
    exact ⟨rfl, rfl⟩
  · simp +decide  only [go_sem, Nat.reduceAdd, Nat.reduceSub, Nat.reduceMul, h1]
    refine BrJ.ofP (fun h2 => ?_) fun h2 => ?_
    · simp +decide  only [go_sem, Nat.reduceAdd, Nat.reduceSub, Nat.reduceMul, h2, wrap_in (n := ↑m - ↑i) (by omega) (by omega)]
      obtain ⟨E', s1, s2, s3⟩ := rotIR_gt hI (by omega)
      rw [← q1]
      refine CallJ.of [0] (1) (c_swapRangeR g mode hm2 ver N (m - i) m j E E' s1 hEl hN2) (by simp +decide [go_sem]) ?_
      rintro _ _ ⟨rfl, rfl⟩
      refine ⟨by simp [go_sem], by simp [go_sem], ?_⟩
      have q2 : ((i - j : Nat) : Int) = i - j := by omega
      simp +decide  only [go_sem, Nat.reduceAdd, Nat.reduceSub, Nat.reduceMul, wrap_in (n := ↑i - ↑j) (by omega) (by omega)]
      refine InvJ.mk (i - j, j, E') [0] rfl ⟨s2, by simp only; omega, by simp only; omega, hj1⟩ (by simp only; omega) ?_
      simp +decide [go_sem, q2]
    · simp +decide  only [go_sem, Nat.reduceAdd, Nat.reduceSub, Nat.reduceMul, h2, wrap_in (n := ↑m - ↑i) (by omega) (by omega), wrap_in (n := ↑m + ↑j) (by omega) (by omega), wrap_in (n := ↑m + ↑j - ↑i) (by omega) (by omega)]
      obtain ⟨E', s1, s2, s3⟩ := rotIR_lt hI (by omega)
      have q3 : ((m + j - i : Nat) : Int) = m + j - i := by omega
      rw [← q1, ← q3]
      refine CallJ.of [0] (1) (c_swapRangeR g mode hm2 ver N (m - i) (m + j - i) i E E' s1 hEl hN2) (by simp +decide [go_sem]) ?_
      rintro _ _ ⟨rfl, rfl⟩
      refine ⟨by simp [go_sem], by simp [go_sem], ?_⟩
      have q2 : ((j - i : Nat) : Int) = j - i := by omega
      simp +decide  only [go_sem, Nat.reduceAdd, Nat.reduceSub, Nat.reduceMul, wrap_in (n := ↑j - ↑i) (by omega) (by omega)]
      refine InvJ.mk (i, j - i, E') [0] rfl ⟨s2, by simp only; omega, hi1, by simp only; omega⟩ (by simp only; omega) ?_
      simp +decide [go_sem, q2]
end Go.Proofs.Ytaloakmffdejgaa
