/- Rotations, as package slices does them, on groups. -/
import Derived.Test.YtaloakmffdejgaaGrE
set_option linter.unusedSimpArgs false
set_option linter.unusedVariables false
set_option maxRecDepth 100000
namespace Go.Proofs.Ytaloakmffdejgaa
open Go Go.Fw

section
variable {α : Type}
theorem set_mid (P : List α) (x y : α) (S : List α) (i : Nat) (h : i = P.length) : (P ++ x :: S).set i y = P ++ y :: S := by
  subst h; simp
variable [Inhabited α]
theorem getD_mid (P : List α) (x : α) (S : List α) (i : Nat) (h : i = P.length) : (P ++ x :: S).getD i default = x := by
  subst h; simp [List.getD]
theorem drop_cons {l : List α} {i : Nat} (h : i < l.length) : l.drop i = l.getD i default :: l.drop (i + 1) := by
  rw [List.drop_eq_getElem_cons h]; simp [List.getD, h]
theorem take_snoc {l : List α} {i : Nat} (h : i < l.length) : l.take (i + 1) = l.take i ++ [l.getD i default] := by
  rw [List.take_add_one]; simp [List.getD, h]
end

def SwR (D D' : List Gp) (a b n : Nat) : Prop := ∃ P A Q B S : List Gp, D = P ++ A ++ Q ++ B ++ S ∧ D' = P ++ B ++ Q ++ A ++ S ∧ a = P.length ∧ b = P.length + n + Q.length ∧ A.length = n ∧ B.length = n

theorem swR_step {P A Q B S : List Gp} {n i : Nat} (hA : A.length = n) (hB : B.length = n) (hi : i < n) (D : List Gp) (hD : D = P ++ B.take i ++ A.drop i ++ Q ++ A.take i ++ B.drop i ++ S) :
    (D.set (P.length + i) (D.getD (P.length + n + Q.length + i) default)).set (P.length + n + Q.length + i) (D.getD (P.length + i) default) = P ++ B.take (i + 1) ++ A.drop (i + 1) ++ Q ++ A.take (i + 1) ++ B.drop (i + 1) ++ S := by
  have e1 : D = (P ++ B.take i) ++ A.getD i default :: (A.drop (i + 1) ++ Q ++ A.take i ++ B.drop i ++ S) := by
    rw [hD, drop_cons (l := A) (by omega)]; simp
  have e2 : D = (P ++ B.take i ++ A.drop i ++ Q ++ A.take i) ++ B.getD i default :: (B.drop (i + 1) ++ S) := by
    rw [hD, drop_cons (l := B) (by omega)]; simp
  have l1 : (P ++ B.take i).length = P.length + i := by simp; omega
  have l2 : (P ++ B.take i ++ A.drop i ++ Q ++ A.take i).length = P.length + n + Q.length + i := by simp; omega
  have g1 : D.getD (P.length + i) default = A.getD i default := by rw [e1]; exact getD_mid _ _ _ _ l1.symm
  have g2 : D.getD (P.length + n + Q.length + i) default = B.getD i default := by rw [e2]; exact getD_mid _ _ _ _ l2.symm
  rw [g1, g2]
  have e3 : D.set (P.length + i) (B.getD i default) = (P ++ B.take i ++ B.getD i default :: (A.drop (i + 1) ++ Q ++ A.take i)) ++ B.getD i default :: (B.drop (i + 1) ++ S) := by
    rw [e1, set_mid _ _ _ _ _ l1.symm, drop_cons (l := B) (by omega)]; simp
  rw [e3, set_mid _ _ _ _ _ (by simp; omega), take_snoc (l := A) (by omega), take_snoc (l := B) (by omega)]
  simp

theorem c_swapRangeG (g mode : Nat) (hm : mode ≠ 2) (ver N a b n : Nat) (D D' : List Gp) (hD : SwR D D' a b n) (hN : D.length = N) (hN2 : N ≤ 1000) :
    PCE Try.prog 205 [.sl 0 ver 5 0 N, .int .i64 a, .int .i64 b, .int .i64 n, .fn g []] [⟨ver, mode, true, fl gc D⟩] (fun r h => r = .tup [] ∧ h = [⟨ver, mode, true, fl gc D'⟩]) := by
  obtain ⟨P, A, Q, B, S, e1, e2, ha, hb, hA, hB⟩ := hD
  have hNl : N = P.length + n + Q.length + n + S.length := by rw [← hN, e1]; simp; omega
  refine PCE.of_body tok Try.func205 (by kernel_rfl) rfl Try.ntmps205 (by rw [Try.results205]) (by simp) (W_go tok mix [0, 1, 2, 3, 4, 10] (by decide +kernel) rfl ?_)
  simp +decide only [go_sem, Nat.reduceAdd, Nat.reduceSub, Nat.reduceMul]
  refine LoopJ.of tok mix [0, 1, 2, 3, 4, 10] (fun z : Nat × List Gp => ⟨tm [(0, .sl 0 ver 5 0 N), (1, .int .i64 a), (2, .int .i64 b), (3, .int .i64 n), (10, .int .i64 z.1)], [⟨ver, mode, true, fl gc z.2⟩], 38⟩)
    (fun z => z.1 ≤ n ∧ z.2 = P ++ B.take z.1 ++ A.drop z.1 ++ Q ++ A.take z.1 ++ B.drop z.1 ++ S) (fun z => n - z.1) (0, D) [0] rfl ⟨Nat.zero_le _, by simpa using e1⟩ (by simp +decide [go_sem]) (by decide +kernel) rfl ?_
  rintro ⟨i, E⟩ ⟨hi, hE⟩
  dsimp only at hi hE
  have hEl : E.length = N := by rw [hE, hNl]; simp; omega
  simp +decide  only [go_sem, Nat.reduceAdd, Nat.reduceSub, Nat.reduceMul]
  refine BrJ.ofP (fun h1 => ?_) fun h1 => ?_
  · have h1' : i < n := by omega
    have c0 : (0:Int) ≤ a + i := by omega
    have c1 : (0:Int) ≤ b + i := by omega
    have c2 : (a + i : Int) < N := by omega
    have c3 : (b + i : Int) < N := by omega
    have c4 : (a + i : Int).toNat = a + i := by omega
    have c5 : (b + i : Int).toNat = b + i := by omega
    have c6 : a + i < E.length := by omega
    have c7 : b + i < E.length := by omega
    have c8 : (a + i) * 5 + 5 ≤ E.length * 5 := by omega
    have c9 : (b + i) * 5 + 5 ≤ E.length * 5 := by omega
    have d1 : b + i < (E.set (a + i) (E.getD (b + i) default)).length := by simpa using c7
    have d2 : (b + i) * 5 + 5 ≤ (E.set (a + i) (E.getD (b + i) default)).length * 5 := by simpa using c9
    simp +decide  only [go_sem, Nat.reduceAdd, Nat.reduceSub, Nat.reduceMul, wrap_in (n := ↑a + ↑i) (by omega) (by omega), wrap_in (n := ↑b + ↑i) (by omega) (by omega), wrap_in (n := ↑i + 1) (by omega) (by omega), c0, c1, c2, c3, c4, c5, gcs_length, c8, c9, gcs_at _ _ c6, gcs_at _ _ c7, gcs_set _ _ _ c6, gcs_set _ _ _ d1, hm, d2]
    refine InvJ.mk (i + 1, P ++ B.take (i + 1) ++ A.drop (i + 1) ++ Q ++ A.take (i + 1) ++ B.drop (i + 1) ++ S) [0] rfl ⟨by simp only; omega, rfl⟩ (by simp only; omega) ?_
    rw [← swR_step hA hB h1' E hE, ← hb, ← ha]
    simp +decide [go_sem]
  · simp +decide  only [go_sem, Nat.reduceAdd, Nat.reduceSub, Nat.reduceMul, h1]
    refine Ret.selN [0] rfl (by simp +decide [go_sem]) ?_
    have : i = n := by omega
    subst this
    refine ⟨rfl, ?_⟩
    rw [hE, e2, List.take_of_length_le (by omega), List.take_of_length_le (by omega), List.drop_of_length_le (by omega), List.drop_of_length_le (by omega)]
    simp +decide [go_sem]

def RotR (D D' : List Gp) (a m b : Nat) : Prop := ∃ P X Y S : List Gp, D = P ++ X ++ Y ++ S ∧ D' = P ++ Y ++ X ++ S ∧ a = P.length ∧ m = P.length + X.length ∧ b = P.length + X.length + Y.length ∧ 0 < X.length ∧ 0 < Y.length

def RotI (D' : List Gp) (m : Nat) (z : Nat × Nat × List Gp) : Prop := ∃ L X Y R : List Gp, z.2.2 = L ++ X ++ Y ++ R ∧ D' = L ++ Y ++ X ++ R ∧ X.length = z.1 ∧ Y.length = z.2.1 ∧ L.length + z.1 = m ∧ 0 < z.1 ∧ 0 < z.2.1

theorem rotI_gt {D' : List Gp} {m i j : Nat} {E : List Gp} (h : RotI D' m (i, j, E)) (hij : j < i) : ∃ E', SwR E E' (m - i) m j ∧ RotI D' m (i - j, j, E') ∧ E'.length = E.length := by
  obtain ⟨L, X, Y, R, e1, e2, hX, hY, hm, hi, hj⟩ := h
  dsimp only at e1 hX hY hm hi hj
  refine ⟨L ++ Y ++ X.drop j ++ X.take j ++ R, ⟨L, X.take j, X.drop j, Y, R, by rw [e1]; simp, by simp, by omega, by simp; omega, by simp; omega, hY⟩,
    ⟨L ++ Y, X.drop j, X.take j, R, by simp, by rw [e2]; simp, by simp; omega, by simp; omega, by simp; omega, by simp only; omega, hj⟩, by rw [e1]; simp; omega⟩

theorem rotI_lt {D' : List Gp} {m i j : Nat} {E : List Gp} (h : RotI D' m (i, j, E)) (hij : i < j) : ∃ E', SwR E E' (m - i) (m + j - i) i ∧ RotI D' m (i, j - i, E') ∧ E'.length = E.length := by
  obtain ⟨L, X, Y, R, e1, e2, hX, hY, hm, hi, hj⟩ := h
  dsimp only at e1 hX hY hm hi hj
  refine ⟨L ++ Y.drop (j - i) ++ Y.take (j - i) ++ X ++ R, ⟨L, X, Y.take (j - i), Y.drop (j - i), R, by rw [e1]; simp, by simp, by omega, by simp; omega, hX, by simp; omega⟩,
    ⟨L, Y.drop (j - i), Y.take (j - i), X ++ R, by simp, by rw [e2]; simp, by simp; omega, by simp; omega, hm, hi, by simp only; omega⟩, by rw [e1]; simp; omega⟩

theorem rotI_eq {D' : List Gp} {m i : Nat} {E : List Gp} (h : RotI D' m (i, i, E)) : SwR E D' (m - i) m i := by
  obtain ⟨L, X, Y, R, e1, e2, hX, hY, hm, hi, hj⟩ := h
  dsimp only at e1 hX hY hm hi hj
  exact ⟨L, X, [], Y, R, by rw [e1]; simp, by rw [e2]; simp, by omega, by simp; omega, hX, hY⟩

theorem c_rotateG (g mode : Nat) (hm2 : mode ≠ 2) (ver N a m b : Nat) (D D' : List Gp) (hD : RotR D D' a m b) (hN : D.length = N) (hN2 : N ≤ 1000) :
    PCE Try.prog 188 [.sl 0 ver 5 0 N, .int .i64 a, .int .i64 m, .int .i64 b, .fn g []] [⟨ver, mode, true, fl gc D⟩] (fun r h => r = .tup [] ∧ h = [⟨ver, mode, true, fl gc D'⟩]) := by
  obtain ⟨P, X, Y, S, e1, e2, ha, hm, hb, hX, hY⟩ := hD
  have hNl : N = P.length + X.length + Y.length + S.length := by rw [← hN, e1]; simp; omega
  refine PCE.of_body tok Try.func188 (by kernel_rfl) rfl Try.ntmps188 (by rw [Try.results188]) (by simp) (W_go tok mix [0, 1, 2, 3, 4, 10, 11] (by decide +kernel) rfl ?_)
  simp +decide only [go_sem, Nat.reduceAdd, Nat.reduceSub, Nat.reduceMul]
  simp +decide  only [go_sem, Nat.reduceAdd, Nat.reduceSub, Nat.reduceMul, wrap_in (n := ↑m - ↑a) (by omega) (by omega), wrap_in (n := ↑b - ↑m) (by omega) (by omega)]
  refine LoopJ.of tok mix [0, 1, 2, 3, 4, 10, 11] (fun z : Nat × Nat × List Gp => ⟨tm [(0, .sl 0 ver 5 0 N), (1, .int .i64 a), (2, .int .i64 m), (3, .int .i64 b), (4, .fn g []), (10, .int .i64 z.1), (11, .int .i64 z.2.1)], [⟨ver, mode, true, fl gc z.2.2⟩], 58⟩)
    (fun z => RotI D' m z ∧ z.2.2.length = N ∧ z.1 ≤ N ∧ z.2.1 ≤ N) (fun z => z.1 + z.2.1) (X.length, Y.length, D) [0] rfl ⟨⟨P, X, Y, S, e1, e2, rfl, rfl, hm.symm, hX, hY⟩, hN, by simp only; omega, by simp only; omega⟩ (by simp +decide [go_sem]; omega) (by decide +kernel) rfl ?_
  rintro ⟨i, j, E⟩ ⟨hI, hEl, hi1, hj1⟩
  dsimp only at hEl hi1 hj1
  have him : i ≤ m ∧ 0 < i ∧ 0 < j := by
    obtain ⟨L, X, Y, R, e1, e2, hX, hY, hm, hi, hj⟩ := hI
    dsimp only at hm hi hj
    omega
  obtain ⟨him, hi0, hj0⟩ := him
  have q1 : ((m - i : Nat) : Int) = m - i := by omega
  simp +decide  only [go_sem, Nat.reduceAdd, Nat.reduceSub, Nat.reduceMul]
  refine BrJ.ofP (fun h1 => ?_) fun h1 => ?_
  · have h1' : i = j := by omega
    subst h1'
    simp +decide  only [go_sem, Nat.reduceAdd, Nat.reduceSub, Nat.reduceMul, wrap_in (n := ↑m - ↑i) (by omega) (by omega)]
    rw [← q1]
    refine CallJ.of [0] (1) (c_swapRangeG g mode hm2 ver N (m - i) m i E D' (rotI_eq hI) hEl hN2) (by simp +decide [go_sem]) ?_
    rintro _ _ ⟨rfl, rfl⟩
    refine ⟨by simp [go_sem], by simp [go_sem], ?_⟩
    simp +decide  only [go_sem, Nat.reduceAdd, Nat.reduceSub, Nat.reduceMul]
    refine Ret.selN [0] rfl (by simp +decide [go_sem]) ?_
    exact ⟨rfl, rfl⟩
  · simp +decide  only [go_sem, Nat.reduceAdd, Nat.reduceSub, Nat.reduceMul, h1]
    refine BrJ.ofP (fun h2 => ?_) fun h2 => ?_
    · simp +decide  only [go_sem, Nat.reduceAdd, Nat.reduceSub, Nat.reduceMul, h2, wrap_in (n := ↑m - ↑i) (by omega) (by omega)]
      obtain ⟨E', s1, s2, s3⟩ := rotI_gt hI (by omega)
      rw [← q1]
      refine CallJ.of [0] (1) (c_swapRangeG g mode hm2 ver N (m - i) m j E E' s1 hEl hN2) (by simp +decide [go_sem]) ?_
      rintro _ _ ⟨rfl, rfl⟩
      refine ⟨by simp [go_sem], by simp [go_sem], ?_⟩
      have q2 : ((i - j : Nat) : Int) = i - j := by omega
      simp +decide  only [go_sem, Nat.reduceAdd, Nat.reduceSub, Nat.reduceMul, wrap_in (n := ↑i - ↑j) (by omega) (by omega)]
      refine InvJ.mk (i - j, j, E') [0] rfl ⟨s2, by simp only; omega, by simp only; omega, hj1⟩ (by simp only; omega) ?_
      simp +decide [go_sem, q2]
    · simp +decide  only [go_sem, Nat.reduceAdd, Nat.reduceSub, Nat.reduceMul, h2, wrap_in (n := ↑m - ↑i) (by omega) (by omega), wrap_in (n := ↑m + ↑j) (by omega) (by omega), wrap_in (n := ↑m + ↑j - ↑i) (by omega) (by omega)]
      obtain ⟨E', s1, s2, s3⟩ := rotI_lt hI (by omega)
      have q3 : ((m + j - i : Nat) : Int) = m + j - i := by omega
      rw [← q1, ← q3]
      refine CallJ.of [0] (1) (c_swapRangeG g mode hm2 ver N (m - i) (m + j - i) i E E' s1 hEl hN2) (by simp +decide [go_sem]) ?_
      rintro _ _ ⟨rfl, rfl⟩
      refine ⟨by simp [go_sem], by simp [go_sem], ?_⟩
      have q2 : ((j - i : Nat) : Int) = j - i := by omega
      simp +decide  only [go_sem, Nat.reduceAdd, Nat.reduceSub, Nat.reduceMul, wrap_in (n := ↑j - ↑i) (by omega) (by omega)]
      refine InvJ.mk (i, j - i, E') [0] rfl ⟨s2, by simp only; omega, hi1, by simp only; omega⟩ (by simp only; omega) ?_
      simp +decide [go_sem, q2]
end Go.Proofs.Ytaloakmffdejgaa
