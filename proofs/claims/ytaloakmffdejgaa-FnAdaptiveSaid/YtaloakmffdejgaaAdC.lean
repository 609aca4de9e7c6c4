/- Reversal and merging of records. -/
import Derived.Test.YtaloakmffdejgaaAdB
set_option linter.unusedSimpArgs false
set_option linter.unusedVariables false
set_option maxRecDepth 100000
set_option maxHeartbeats 8000000
namespace Go.Proofs.Ytaloakmffdejgaa
open Go Go.Fw

def RevI (D : List Rc) (i : Nat) (E : List Rc) : Prop := E.length = D.length ∧ ∀ k, k < D.length → E.getD k default = if k < i ∨ D.length ≤ k + i then D.getD (D.length - 1 - k) default else D.getD k default

theorem RevI.step {D E : List Rc} {i : Nat} (h : RevI D i E) (hi : i + i + 1 < D.length) : RevI D (i + 1) (swp E i (D.length - 1 - i)) := by
  obtain ⟨hl, hg⟩ := h
  refine ⟨by rw [swp_length, hl], fun k hk => ?_⟩
  rw [swp_get E (by omega) (by omega)]
  by_cases h1 : k = D.length - 1 - i
  · rw [if_pos h1, hg i (by omega), if_neg (by omega), if_pos (by omega)]
    congr 1; omega
  · rw [if_neg h1]
    by_cases h2 : k = i
    · rw [if_pos h2, hg _ (by omega), if_neg (by omega), if_pos (by omega)]
      congr 1; omega
    · rw [if_neg h2, hg k hk]
      by_cases h3 : k < i ∨ D.length ≤ k + i
      · rw [if_pos h3, if_pos (by omega)]
      · rw [if_neg h3, if_neg (by omega)]

theorem RevI.done {D E : List Rc} {i : Nat} (h : RevI D i E) (hi : ¬ i + i + 1 < D.length) : E = D.reverse := by
  obtain ⟨hl, hg⟩ := h
  refine list_ext (by simpa using hl) fun k hk => ?_
  rw [hg k (by omega)]
  have e : D.reverse.getD k default = D.getD (D.length - 1 - k) default := by
    simp only [List.getD]
    rw [List.getElem?_reverse (by omega)]
  rw [e]
  by_cases h3 : k < i ∨ D.length ≤ k + i
  · rw [if_pos h3]
  · rw [if_neg h3]
    congr 1; omega

theorem c_ReverseR (mode : Nat) (hm : mode ≠ 2) (ver N : Nat) (D : List Rc) (hN : D.length = N) (hN2 : N ≤ 1000) :
    PCE Try.prog 53 [.sl 0 ver 2 0 N] [⟨ver, mode, true, fl rc D⟩] (fun r h => r = .tup [] ∧ h = [⟨ver, mode, true, fl rc D.reverse⟩]) := by
  subst hN
  refine PCE.of_body tok Try.func53 (by kernel_rfl) rfl Try.ntmps53 (by rw [Try.results53]) (by simp) (W_go tok mix [0, 2, 3] (by decide +kernel) rfl ?_)
  simp +decide only [go_sem, Nat.reduceAdd, Nat.reduceSub, Nat.reduceMul]
  simp +decide  only [go_sem, Nat.reduceAdd, Nat.reduceSub, Nat.reduceMul, wrap_in (n := ↑D.length - 1) (by omega) (by omega)]
  refine LoopJ.of tok mix [0, 2, 3] (fun z : Nat × List Rc => ⟨tm [(0, .sl 0 ver 2 0 D.length), (2, .int .i64 z.1), (3, .int .i64 ((D.length : Int) - 1 - z.1))], [⟨ver, mode, true, fl rc z.2⟩], 28⟩)
    (fun z => z.1 ≤ D.length ∧ RevI D z.1 z.2) (fun z => D.length - z.1) (0, D) [0] rfl ⟨Nat.zero_le _, rfl, fun k hk => by rw [if_neg (by simp only; omega)]⟩ (by simp +decide [go_sem, Int.sub_zero]) (by decide +kernel) rfl ?_
  rintro ⟨i, E⟩ ⟨i1, i2⟩
  dsimp only at i1 i2
  have hl := i2.1
  simp +decide  only [go_sem, Nat.reduceAdd, Nat.reduceSub, Nat.reduceMul]
  refine BrJ.ofP (fun h1 => ?_) fun h1 => ?_
  · have h1' : i + i + 1 < D.length := by omega
    have c0 : (0 : Int) ≤ i := by omega
    have c1 : (i : Int) < D.length := by omega
    have c2 : (0 : Int) ≤ (D.length : Int) - 1 - i := by omega
    have c3 : (D.length : Int) - 1 - i < D.length := by omega
    have c4 : ((D.length : Int) - 1 - i).toNat = D.length - 1 - i := by omega
    have c5 : i < E.length := by omega
    have c6 : D.length - 1 - i < E.length := by omega
    have c7 : i * 2 + 2 ≤ E.length * 2 := by omega
    have c8 : (D.length - 1 - i) * 2 + 2 ≤ E.length * 2 := by omega
    have d1 : D.length - 1 - i < (E.set i (E.getD (D.length - 1 - i) default)).length := by simpa using c6
    have d2 : (D.length - 1 - i) * 2 + 2 ≤ (E.set i (E.getD (D.length - 1 - i) default)).length * 2 := by simpa using c8
    simp +decide  only [go_sem, Nat.reduceAdd, Nat.reduceSub, Nat.reduceMul, h1, c0, c1, c2, c3, c4, rks_length, c7, c8, rks_at _ _ c5, rks_at _ _ c6, rks_set _ _ _ c5, rks_set _ _ _ d1, hm, d2, wrap_in (n := ↑i + 1) (by omega) (by omega), wrap_in (n := ↑D.length - 1 - ↑i - 1) (by omega) (by omega)]
    refine InvJ.mk (i + 1, swp E i (D.length - 1 - i)) [0] rfl ⟨by simp only; omega, i2.step h1'⟩ (by simp only; omega) ?_
    have e1 : (D.length : Int) - 1 - ((i + 1 : Nat) : Int) = (D.length : Int) - 1 - i - 1 := by omega
    simp only [e1]
    simp +decide [go_sem, swp]
  · simp +decide  only [go_sem, Nat.reduceAdd, Nat.reduceSub, Nat.reduceMul, h1]
    refine Ret.selN [0] rfl (by simp +decide [go_sem]) ?_
    rw [i2.done (by omega)]
    exact ⟨rfl, rfl⟩

def mergeR : List Rc → List Rc → List Rc
  | [], b => b
  | x :: a, [] => x :: a
  | x :: a, y :: b => if y.1 < x.1 then y :: mergeR (x :: a) b else x :: mergeR a (y :: b)
termination_by a b => a.length + b.length

def mergeN : List Rc → List Rc → Nat
  | [], _ => 0
  | _ :: _, [] => 0
  | x :: a, y :: b => if y.1 < x.1 then mergeN (x :: a) b + 1 else mergeN a (y :: b) + 1
termination_by a b => a.length + b.length

theorem mergeR_length : ∀ a b, (mergeR a b).length = a.length + b.length
  | [], b => by simp [mergeR]
  | x :: a, [] => by simp [mergeR]
  | x :: a, y :: b => by
    rw [mergeR]
    split
    · rw [List.length_cons, mergeR_length (x :: a) b]; simp; omega
    · rw [List.length_cons, mergeR_length a (y :: b)]; simp; omega
termination_by a b => a.length + b.length
theorem mergeR_nil (a : List Rc) : mergeR a [] = a := by cases a <;> simp [mergeR]
theorem mergeN_nil (a : List Rc) : mergeN a [] = 0 := by cases a <;> simp [mergeN]
theorem mergeN_le : ∀ a b, mergeN a b ≤ a.length + b.length
  | [], b => by simp [mergeN]
  | x :: a, [] => by simp [mergeN]
  | x :: a, y :: b => by
    rw [mergeN]
    split
    · have := mergeN_le (x :: a) b; simp at this ⊢; omega
    · have := mergeN_le a (y :: b); simp at this ⊢; omega
termination_by a b => a.length + b.length

theorem c_mergeI (q1 q2 : Nat) (a b : List Rc) (hn : a.length + b.length ≤ 1000) :
    PCE Try.prog 55 [.vz q1 a.length (fl rc a), .vz q2 b.length (fl rc b)] [] (fun r h => ∃ ver : Nat, r = .tup [.sl 0 ver 2 0 (mergeR a b).length, .int .i64 (mergeN a b)] ∧ h = [⟨ver, 0, true, fl rc (mergeR a b)⟩]) := by
  refine PCE.of_body tok Try.func55 (by kernel_rfl) rfl Try.ntmps55 (by rw [Try.results55]) (by simp) (W_go tok mix [0, 1, 4, 5, 6, 7] (by decide +kernel) rfl ?_)
  simp +decide only [go_sem, Nat.reduceAdd, Nat.reduceSub, Nat.reduceMul]
  refine LoopJ.of tok mix [0, 1, 4, 5, 6, 7] (fun z : List Rc × List Rc × List Rc × Nat × Nat => ⟨tm [(0, .vz q1 z.1.length (fl rc z.1)), (1, .vz q2 z.2.1.length (fl rc z.2.1)), (4, .nils), (5, .int .i64 0), (6, .sl 0 z.2.2.2.1 2 0 z.2.2.1.length), (7, .int .i64 z.2.2.2.2)], [⟨z.2.2.2.1, 0, true, fl rc z.2.2.1⟩], 50⟩)
    (fun z => z.2.2.1 ++ mergeR z.1 z.2.1 = mergeR a b ∧ z.2.2.2.2 + mergeN z.1 z.2.1 = mergeN a b) (fun z => z.1.length + z.2.1.length) (a, b, [], 0, 0) [0] rfl ⟨rfl, Nat.zero_add _⟩ (by simp +decide [go_sem]) (by decide +kernel) rfl ?_
  rintro ⟨a', b', out, ver, c⟩ ⟨i1, i2⟩
  dsimp only at i1 i2
  have hlen : out.length + (a'.length + b'.length) = a.length + b.length := by
    have := congrArg List.length i1
    rwa [List.length_append, mergeR_length, mergeR_length] at this
  have hN := mergeN_le a b
  have b1 : (out.length + 1) * 16 ≤ 140737488355328 := by omega
  have b2 : out.length + 1 ≤ 140737488355328 := by omega
  match a', b' with
  | [], b' =>
    have b3 : out.length * 16 ≤ 140737488355328 := by omega
    have b4 : out.length ≤ 140737488355328 := by omega
    have b5 : (out.length + b'.length) * 16 ≤ 140737488355328 := by simp at hlen; omega
    have b6 : out.length + b'.length ≤ 140737488355328 := by simp at hlen; omega
    rw [mergeR] at i1
    rw [mergeN] at i2
    simp +decide  only [go_sem, Nat.reduceAdd, Nat.reduceSub, Nat.reduceMul, rks_length, take_rks, rks_one, b3, b4, b5, b6, Nat.le_refl, Nat.zero_mul]
    refine Ret.sel [0] rfl (by simp +decide [go_sem]) ?_
    rw [← i1, ← i2, fl_append]
    refine ⟨ver + 1 + 1, ?_, ?_⟩
    · simp +decide [go_sem]
    · simp +decide [go_sem]
  | x :: a', [] =>
    have b3 : (out.length + (a'.length + 1)) * 16 ≤ 140737488355328 := by simp at hlen; omega
    have b4 : out.length + (a'.length + 1) ≤ 140737488355328 := by simp at hlen; omega
    rw [mergeR] at i1
    rw [mergeN] at i2
    have e0 : (fl rc out ++ fl rc (x :: a')).length = (out.length + (a'.length + 1)) * 2 := by rw [List.length_append, rks_length, rks_length, List.length_cons]; omega
    have e1 : (fl rc out ++ fl rc (x :: a')).take ((out.length + (a'.length + 1)) * 2) = fl rc out ++ fl rc (x :: a') := by rw [← e0, List.take_length]
    have e2 : (0 : Int) < (a'.length : Int) + 1 := by omega
    have e3 : (0 : Int) < ((a'.length + 1 : Nat) : Int) := by omega
    simp +decide  only [go_sem, Nat.reduceAdd, Nat.reduceSub, Nat.reduceMul, rks_length, take_rks, rks_one, b3, b4, e0, e1, e2, e3, Nat.le_refl, Nat.zero_mul]
    refine Ret.sel [0] rfl (by simp +decide [go_sem]) ?_
    rw [← i1, ← i2, fl_append]
    refine ⟨ver + 1 + 1, ?_, ?_⟩
    · simp +decide [go_sem]
    · simp +decide [go_sem]
  | x :: a', y :: b' =>
    have e3 : (0 : Int) < ((a'.length + 1 : Nat) : Int) := by omega
    have e4 : (0 : Int) < ((b'.length + 1 : Nat) : Int) := by omega
    rw [mergeR] at i1
    rw [mergeN] at i2
    have f0 : ∀ (x : Rc) (l : List Rc), fl rc (x :: l) = .int .i64 x.1 :: .int .i64 x.2 :: fl rc l := fun x l => rfl
    have f1 : (1 : Nat) ≤ b'.length + 1 := by omega
    have f2 : (1 : Nat) ≤ a'.length + 1 := by omega
    have f4 : 2 ≤ a'.length * 2 + 1 + 1 := by omega
    have f5 : 2 ≤ b'.length * 2 + 1 + 1 := by omega
    simp +decide  only [go_sem, Nat.reduceAdd, Nat.reduceSub, Nat.reduceMul, e3, e4, wrap_in (n := ↑c + 1) (by omega) (by omega), f0, f1, f2, Int.toNat_zero, Int.toNat_one, Nat.zero_mul, Nat.one_mul]
    refine BrJ.ofP (fun k1 => ?_) fun k1 => ?_
    · rw [if_pos k1] at i1 i2
      simp +decide  only [go_sem, Nat.reduceAdd, Nat.reduceSub, Nat.reduceMul, k1, e3, e4, f0, f1, f2, f4, f5, Int.toNat_zero, Int.toNat_one, Nat.zero_mul, Nat.one_mul, rks_length, take_rks, b1, b2, Nat.le_refl, Nat.add_sub_cancel]
      refine InvJ.mk (x :: a', b', out ++ [y], ver + 1, c + 1) [0] rfl ⟨by rw [← i1]; simp, by simp only; omega⟩ (by simp) ?_
      simp +decide [go_sem, fl_append, fl_one, f0]
    · rw [if_neg k1] at i1 i2
      simp +decide  only [go_sem, Nat.reduceAdd, Nat.reduceSub, Nat.reduceMul, k1, e3, e4, f0, f1, f2, f4, f5, Int.toNat_zero, Int.toNat_one, Nat.zero_mul, Nat.one_mul, rks_length, take_rks, b1, b2, Nat.le_refl, Nat.add_sub_cancel]
      refine InvJ.mk (a', y :: b', out ++ [x], ver + 1, c + 1) [0] rfl ⟨by rw [← i1]; simp, by simp only; omega⟩ (by simp only [List.length_cons]; omega) ?_
      simp +decide [go_sem, fl_append, fl_one, f0]
theorem c_mergeS (q1 q2 : Nat) (a b : List Rc) (hn : a.length + b.length ≤ 1000) :
    PCE Try.prog 84 [.vz q1 a.length (fl rc a), .vz q2 b.length (fl rc b)] [] (fun r h => ∃ ver : Nat, r = .tup [.sl 0 ver 2 0 (mergeR a b).length, .int .i64 (mergeN a b)] ∧ h = [⟨ver, 0, true, fl rc (mergeR a b)⟩]) := by
  refine PCE.of_body tok Try.func84 (by kernel_rfl) rfl Try.ntmps84 (by rw [Try.results84]) (by simp) (W_go tok mix [0, 1, 4, 5, 6, 7] (by decide +kernel) rfl ?_)
  simp +decide only [go_sem, Nat.reduceAdd, Nat.reduceSub, Nat.reduceMul]
  refine LoopJ.of tok mix [0, 1, 4, 5, 6, 7] (fun z : List Rc × List Rc × List Rc × Nat × Nat => ⟨tm [(0, .vz q1 z.1.length (fl rc z.1)), (1, .vz q2 z.2.1.length (fl rc z.2.1)), (4, .nils), (5, .int .i64 0), (6, .sl 0 z.2.2.2.1 2 0 z.2.2.1.length), (7, .int .i64 z.2.2.2.2)], [⟨z.2.2.2.1, 0, true, fl rc z.2.2.1⟩], 50⟩)
    (fun z => z.2.2.1 ++ mergeR z.1 z.2.1 = mergeR a b ∧ z.2.2.2.2 + mergeN z.1 z.2.1 = mergeN a b) (fun z => z.1.length + z.2.1.length) (a, b, [], 0, 0) [0] rfl ⟨rfl, Nat.zero_add _⟩ (by simp +decide [go_sem]) (by decide +kernel) rfl ?_
  rintro ⟨a', b', out, ver, c⟩ ⟨i1, i2⟩
  dsimp only at i1 i2
  have hlen : out.length + (a'.length + b'.length) = a.length + b.length := by
    have := congrArg List.length i1
    rwa [List.length_append, mergeR_length, mergeR_length] at this
  have hN := mergeN_le a b
  have b1 : (out.length + 1) * 16 ≤ 140737488355328 := by omega
  have b2 : out.length + 1 ≤ 140737488355328 := by omega
  match a', b' with
  | [], b' =>
    have b3 : out.length * 16 ≤ 140737488355328 := by omega
    have b4 : out.length ≤ 140737488355328 := by omega
    have b5 : (out.length + b'.length) * 16 ≤ 140737488355328 := by simp at hlen; omega
    have b6 : out.length + b'.length ≤ 140737488355328 := by simp at hlen; omega
    rw [mergeR] at i1
    rw [mergeN] at i2
    simp +decide  only [go_sem, Nat.reduceAdd, Nat.reduceSub, Nat.reduceMul, rks_length, take_rks, rks_one, b3, b4, b5, b6, Nat.le_refl, Nat.zero_mul]
    refine Ret.sel [0] rfl (by simp +decide [go_sem]) ?_
    rw [← i1, ← i2, fl_append]
    refine ⟨ver + 1 + 1, ?_, ?_⟩
    · simp +decide [go_sem]
    · simp +decide [go_sem]
  | x :: a', [] =>
    have b3 : (out.length + (a'.length + 1)) * 16 ≤ 140737488355328 := by simp at hlen; omega
    have b4 : out.length + (a'.length + 1) ≤ 140737488355328 := by simp at hlen; omega
    rw [mergeR] at i1
    rw [mergeN] at i2
    have e0 : (fl rc out ++ fl rc (x :: a')).length = (out.length + (a'.length + 1)) * 2 := by rw [List.length_append, rks_length, rks_length, List.length_cons]; omega
    have e1 : (fl rc out ++ fl rc (x :: a')).take ((out.length + (a'.length + 1)) * 2) = fl rc out ++ fl rc (x :: a') := by rw [← e0, List.take_length]
    have e2 : (0 : Int) < (a'.length : Int) + 1 := by omega
    have e3 : (0 : Int) < ((a'.length + 1 : Nat) : Int) := by omega
    simp +decide  only [go_sem, Nat.reduceAdd, Nat.reduceSub, Nat.reduceMul, rks_length, take_rks, rks_one, b3, b4, e0, e1, e2, e3, Nat.le_refl, Nat.zero_mul]
    refine Ret.sel [0] rfl (by simp +decide [go_sem]) ?_
    rw [← i1, ← i2, fl_append]
    refine ⟨ver + 1 + 1, ?_, ?_⟩
    · simp +decide [go_sem]
    · simp +decide [go_sem]
  | x :: a', y :: b' =>
    have e3 : (0 : Int) < ((a'.length + 1 : Nat) : Int) := by omega
    have e4 : (0 : Int) < ((b'.length + 1 : Nat) : Int) := by omega
    rw [mergeR] at i1
    rw [mergeN] at i2
    have f0 : ∀ (x : Rc) (l : List Rc), fl rc (x :: l) = .int .i64 x.1 :: .int .i64 x.2 :: fl rc l := fun x l => rfl
    have f1 : (1 : Nat) ≤ b'.length + 1 := by omega
    have f2 : (1 : Nat) ≤ a'.length + 1 := by omega
    have f4 : 2 ≤ a'.length * 2 + 1 + 1 := by omega
    have f5 : 2 ≤ b'.length * 2 + 1 + 1 := by omega
    simp +decide  only [go_sem, Nat.reduceAdd, Nat.reduceSub, Nat.reduceMul, e3, e4, wrap_in (n := ↑c + 1) (by omega) (by omega), f0, f1, f2, Int.toNat_zero, Int.toNat_one, Nat.zero_mul, Nat.one_mul]
    refine BrJ.ofP (fun k1 => ?_) fun k1 => ?_
    · rw [if_pos k1] at i1 i2
      simp +decide  only [go_sem, Nat.reduceAdd, Nat.reduceSub, Nat.reduceMul, k1, e3, e4, f0, f1, f2, f4, f5, Int.toNat_zero, Int.toNat_one, Nat.zero_mul, Nat.one_mul, rks_length, take_rks, b1, b2, Nat.le_refl, Nat.add_sub_cancel]
      refine InvJ.mk (x :: a', b', out ++ [y], ver + 1, c + 1) [0] rfl ⟨by rw [← i1]; simp, by simp only; omega⟩ (by simp) ?_
      simp +decide [go_sem, fl_append, fl_one, f0]
    · rw [if_neg k1] at i1 i2
      simp +decide  only [go_sem, Nat.reduceAdd, Nat.reduceSub, Nat.reduceMul, k1, e3, e4, f0, f1, f2, f4, f5, Int.toNat_zero, Int.toNat_one, Nat.zero_mul, Nat.one_mul, rks_length, take_rks, b1, b2, Nat.le_refl, Nat.add_sub_cancel]
      refine InvJ.mk (a', y :: b', out ++ [x], ver + 1, c + 1) [0] rfl ⟨by rw [← i1]; simp, by simp only; omega⟩ (by simp only [List.length_cons]; omega) ?_
      simp +decide [go_sem, fl_append, fl_one, f0]
end Go.Proofs.Ytaloakmffdejgaa
