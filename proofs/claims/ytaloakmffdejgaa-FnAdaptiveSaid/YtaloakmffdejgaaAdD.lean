/- Deletion, as package slices does it: one element of a row of single cells. -/
import Derived.Test.YtaloakmffdejgaaAdC
set_option linter.unusedSimpArgs false
set_option linter.unusedVariables false
set_option maxRecDepth 100000
set_option maxHeartbeats 8000000
namespace Go.Proofs.Ytaloakmffdejgaa
open Go Go.Fw

theorem del_src (xs rest : List PV) (n i : Nat) (hn : xs.length = n) (hi : i < n) : ((xs ++ rest).drop (i + 1)).take (n - (i + 1)) = xs.drop (i + 1) := by
  subst hn
  rw [List.drop_append_of_le_length (by omega), List.take_append_of_le_length (by simp), List.take_of_length_le (by simp)]

theorem del_len (xs rest : List PV) (n i : Nat) (hn : xs.length = n) (hi : i < n) : (spl (xs ++ rest) i (xs.drop (i + 1))).length = n + rest.length := by
  rw [spl_length]
  · simp; omega
  · simp; omega

theorem del_cells (xs rest : List PV) (z : PV) (n i : Nat) (hn : xs.length = n) (hi : i < n) :
    spl (spl (xs ++ rest) i (xs.drop (i + 1))) (n - 1) [z] = xs.take i ++ xs.drop (i + 1) ++ z :: rest := by
  subst hn
  unfold spl
  have e2 : (xs ++ rest).take i = xs.take i := by rw [List.take_append_of_le_length (by omega)]
  have e3 : (xs ++ rest).drop (i + (xs.drop (i + 1)).length) = xs.drop (xs.length - 1) ++ rest := by
    rw [show i + (xs.drop (i + 1)).length = xs.length - 1 by simp; omega, List.drop_append_of_le_length (by omega)]
  rw [e2, e3]
  have hl : (xs.take i ++ xs.drop (i + 1)).length = xs.length - 1 := by simp; omega
  have hd : (xs.drop (xs.length - 1)).length = 1 := by simp; omega
  generalize xs.take i ++ xs.drop (i + 1) = A at hl
  generalize xs.drop (xs.length - 1) = B at hd
  match B, hd with
  | [b], _ =>
    rw [List.take_append_of_le_length (by omega), List.take_of_length_le (by omega)]
    rw [← hl]
    simp

theorem c_DeleteI (mode : Nat) (hm : mode ≠ 2) (ver n i : Nat) (I J : Int) (hI : I = i) (hJ : J = i + 1) (xs rest : List PV) (hn : xs.length = n) (hi : i < n) (h1 : xs.all one = true) (hb : n ≤ 1000) :
    PCE Try.prog 165 [.sl 0 ver 1 0 n, .int .i64 I, .int .i64 J] [⟨ver, mode, true, xs ++ rest⟩] (fun r h => r = .sl 0 ver 1 0 (n - 1) ∧ h = [⟨ver, mode, true, xs.take i ++ xs.drop (i + 1) ++ (.int .i64 0) :: rest⟩]) := by
  subst hI hJ
  refine PCE.of_body tokI Try.func165 (by kernel_rfl) rfl Try.ntmps165 (by rw [Try.results165]) (by simp) (W_go tokI mix [0, 1, 2, 6, 7] (by decide +kernel) rfl ?_)
  simp +decide only [go_sem, Nat.reduceAdd, Nat.reduceSub, Nat.reduceMul]
  have c0 : (0 : Int) ≤ i := by omega
  have c1 : (0 : Int) ≤ (i : Int) + 1 := by omega
  have c2 : ((i : Int) + 1).toNat = i + 1 := by omega
  have c3 : i ≤ i + 1 := by omega
  have c4 : i + 1 ≤ n := by omega
  have c5 : ¬ (i : Int) = i + 1 := by omega
  have c6 : i ≤ n := by omega
  have c7 : (0 : Int) ≤ n := by omega
  have d0 := del_src xs rest n i hn hi
  have d1 : i + 1 + (n - (i + 1)) ≤ (xs ++ rest).length := by simp; omega
  have d2 : (xs.drop (i + 1)).all one = true := by
    rw [List.all_eq_true] at h1 ⊢
    exact fun x hx => h1 x (List.mem_of_mem_drop hx)
  have d3 : i + (n - (i + 1)) = n - 1 := by omega
  have d4 : n - 1 ≤ (xs ++ rest).length := by simp; omega
  have d5 : ¬ n ≤ n - 1 := by omega
  have d6 : n - 1 ≤ n := by omega
  have d7 := del_len xs rest n i hn hi
  have d8 : n ≤ n + rest.length := by omega
  have d9 : n - (n - 1) = 1 := by omega
  have da : n - 1 + 1 ≤ n + rest.length := by omega
  have db : (0 : Int) ≤ ((n - 1 : Nat) : Int) := by omega
  have dc : 0 < n := by omega
  simp +decide  only [go_sem, Nat.reduceAdd, Nat.reduceSub, Nat.reduceMul, c0, c1, c2, c3, c4, c5, c6, c7, Nat.le_refl, Nat.zero_le, Nat.sub_zero, d0, d1, d2, d3, d4, d5, d6, d7, d8, d9, da, db, dc, hm]
  refine Ret.sel [0] rfl (by simp +decide [go_sem]) ?_
  refine ⟨rfl, ?_⟩
  have := del_cells xs rest ((.int .i64 0)) n i hn hi
  simp +decide [go_sem, this]
theorem c_DeleteR (mode : Nat) (hm : mode ≠ 2) (ver n i : Nat) (I J : Int) (hI : I = i) (hJ : J = i + 1) (xs rest : List PV) (hn : xs.length = n) (hi : i < n) (h1 : xs.all one = true) (hb : n ≤ 1000) :
    PCE Try.prog 56 [.sl 0 ver 1 0 n, .int .i64 I, .int .i64 J] [⟨ver, mode, true, xs ++ rest⟩] (fun r h => r = .sl 0 ver 1 0 (n - 1) ∧ h = [⟨ver, mode, true, xs.take i ++ xs.drop (i + 1) ++ .nils :: rest⟩]) := by
  subst hI hJ
  refine PCE.of_body tokI Try.func56 (by kernel_rfl) rfl Try.ntmps56 (by rw [Try.results56]) (by simp) (W_go tokI mix [0, 1, 2, 6, 7] (by decide +kernel) rfl ?_)
  simp +decide only [go_sem, Nat.reduceAdd, Nat.reduceSub, Nat.reduceMul]
  have c0 : (0 : Int) ≤ i := by omega
  have c1 : (0 : Int) ≤ (i : Int) + 1 := by omega
  have c2 : ((i : Int) + 1).toNat = i + 1 := by omega
  have c3 : i ≤ i + 1 := by omega
  have c4 : i + 1 ≤ n := by omega
  have c5 : ¬ (i : Int) = i + 1 := by omega
  have c6 : i ≤ n := by omega
  have c7 : (0 : Int) ≤ n := by omega
  have d0 := del_src xs rest n i hn hi
  have d1 : i + 1 + (n - (i + 1)) ≤ (xs ++ rest).length := by simp; omega
  have d2 : (xs.drop (i + 1)).all one = true := by
    rw [List.all_eq_true] at h1 ⊢
    exact fun x hx => h1 x (List.mem_of_mem_drop hx)
  have d3 : i + (n - (i + 1)) = n - 1 := by omega
  have d4 : n - 1 ≤ (xs ++ rest).length := by simp; omega
  have d5 : ¬ n ≤ n - 1 := by omega
  have d6 : n - 1 ≤ n := by omega
  have d7 := del_len xs rest n i hn hi
  have d8 : n ≤ n + rest.length := by omega
  have d9 : n - (n - 1) = 1 := by omega
  have da : n - 1 + 1 ≤ n + rest.length := by omega
  have db : (0 : Int) ≤ ((n - 1 : Nat) : Int) := by omega
  have dc : 0 < n := by omega
  simp +decide  only [go_sem, Nat.reduceAdd, Nat.reduceSub, Nat.reduceMul, c0, c1, c2, c3, c4, c5, c6, c7, Nat.le_refl, Nat.zero_le, Nat.sub_zero, d0, d1, d2, d3, d4, d5, d6, d7, d8, d9, da, db, dc, hm]
  refine Ret.sel [0] rfl (by simp +decide [go_sem]) ?_
  refine ⟨rfl, ?_⟩
  have := del_cells xs rest (.nils) n i hn hi
  simp +decide [go_sem, this]
end Go.Proofs.Ytaloakmffdejgaa
