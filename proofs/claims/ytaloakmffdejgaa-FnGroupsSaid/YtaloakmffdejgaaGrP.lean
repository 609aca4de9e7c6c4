/- Concatenation, as package slices does it, on two lists of groups. -/
import Derived.Test.YtaloakmffdejgaaGrO
set_option linter.unusedSimpArgs false
set_option linter.unusedVariables false
set_option maxRecDepth 100000
set_option maxHeartbeats 8000000
namespace Go.Proofs.Ytaloakmffdejgaa
open Go Go.Fw

def CcI (g1 g2 : List Gp) (z : Nat × PV × List Blk) : Prop :=
  (z.1 = 0 ∧ ((g1.length + g2.length = 0 ∧ z.2.1 = .nils ∧ z.2.2 = []) ∨ ∃ (ver2 : Nat) (cs : List PV), z.2.1 = .sl 1 ver2 5 0 0 ∧ z.2.2 = [⟨ver2, 0, true, cs⟩])) ∨
  (z.1 = 1 ∧ ∃ ver2 : Nat, z.2.1 = .sl 1 ver2 5 0 g1.length ∧ z.2.2 = [⟨ver2, 0, true, fl gc g1⟩]) ∨
  (z.1 = 2 ∧ ∃ ver2 : Nat, z.2.1 = .sl 1 ver2 5 0 (g1 ++ g2).length ∧ z.2.2 = [⟨ver2, 0, true, fl gc (g1 ++ g2)⟩])

theorem c_ConcatG (mode ver q1 q2 q : Nat) (g1 g2 : List Gp) (h1 : g1.length ≤ 200) (h2 : g2.length ≤ 200) (hq1 : q1 < q) (hq2 : q2 < q) :
    PCE Try.prog 74 [.sl 0 ver 1 0 2] [⟨ver, mode, false, [.vz q1 g1.length (fl gc g1), .vz q2 g2.length (fl gc g2)]⟩]
      (fun r h => ∃ v : Nat, r = .sl 1 v 5 0 (g1 ++ g2).length ∧ h = [⟨ver, mode, false, [.vz q1 g1.length (fl gc g1), .vz q2 g2.length (fl gc g2)]⟩, ⟨v, 0, true, fl gc (g1 ++ g2)⟩]) := by
  refine PCE.of_body tok Try.func74 (by kernel_rfl) rfl Try.ntmps74 (by rw [Try.results74]) (by simp) (W_go tok mix [0, 2, 3, 5, 6, 8, 9, 10, 11, 25, 26, 27] (by decide +kernel) rfl ?_)
  simp +decide only [go_sem, Nat.reduceAdd, Nat.reduceSub, Nat.reduceMul]
  refine LoopJ.of tok mix [0, 2, 3, 5, 6, 8, 9, 10, 11, 25, 26, 27] (fun i : Nat => ⟨tm [(0, .sl 0 ver 1 0 2), (2, .nils), (3, .int .i64 (if i = 0 then 0 else if i = 1 then (g1.length : Int) else (g1.length : Int) + g2.length)), (9, .sl 0 ver 1 0 2), (10, .int .i64 2), (11, .int .i64 i)], [⟨ver, mode, false, [.vz q1 g1.length (fl gc g1), .vz q2 g2.length (fl gc g2)]⟩], 36⟩)
    (fun i => i ≤ 2) (fun i => 2 - i) 0 [0] rfl (by omega) (by simp +decide [go_sem]) (by decide +kernel) rfl ?_
  intro i hi
  have z0 : IntKind.i64.wrap (0 : Int) = 0 := by decide
  match i, hi with
  | 0, _ =>
    have b1 : ¬ ((g1.length : Int) < 0) := by omega
    simp +decide  only [go_sem, Nat.reduceAdd, Nat.reduceSub, Nat.reduceMul, Int.zero_add, wrap_in (n := ↑g1.length) (by omega) (by omega), b1]
    refine InvJ.mk 1 [0] rfl (by omega) (by omega) ?_
    simp +decide [go_sem]
  | 1, _ =>
    have b1 : ¬ ((g1.length : Int) + g2.length < 0) := by omega
    simp +decide  only [go_sem, Nat.reduceAdd, Nat.reduceSub, Nat.reduceMul, wrap_in (n := ↑g1.length + ↑g2.length) (by omega) (by omega), b1]
    refine InvJ.mk 2 [0] rfl (by omega) (by omega) ?_
    simp +decide [go_sem]
  | 2, _ =>
    have e1 : (g1.length : Int) + g2.length = (g1.length + g2.length : Nat) := by omega
    simp +decide  only [go_sem, Nat.reduceAdd, Nat.reduceSub, Nat.reduceMul]
    rw [e1]
    refine CallJ.of0 q (c_GrowG (g1.length + g2.length) (by omega)) (by simp +decide [go_sem]) ?_
    intro v h hv
    have hv1 : noReg (q + 1) v ∧ noRegB (q + 1) h := by
      rcases hv with ⟨_, rfl, rfl⟩ | ⟨_, ver2, cs, _, rfl, rfl⟩
      · simp [go_sem]
      · simp [go_sem]
    refine ⟨hv1.1, hv1.2, ?_⟩
    clear hv1
    have hw : ∃ (v2 : PV) (h2 : List Blk), ren (gOf [] 1) v = v2 ∧ merge [(⟨ver, mode, false, [.vz q1 g1.length (fl gc g1), .vz q2 g2.length (fl gc g2)]⟩ : Blk)] [] (h.map (renB (gOf [] 1))) = ⟨ver, mode, false, [.vz q1 g1.length (fl gc g1), .vz q2 g2.length (fl gc g2)]⟩ :: h2 ∧
        ((g1.length + g2.length = 0 ∧ v2 = .nils ∧ h2 = []) ∨ ∃ (ver2 : Nat) (cs : List PV), v2 = .sl 1 ver2 5 0 0 ∧ h2 = [⟨ver2, 0, true, cs⟩]) := by
      rcases hv with ⟨hz, rfl, rfl⟩ | ⟨_, ver2, cs, _, rfl, rfl⟩
      · exact ⟨.nils, [], by simp [go_sem], by simp [go_sem], .inl ⟨hz, rfl, rfl⟩⟩
      · exact ⟨.sl 1 ver2 5 0 0, [⟨ver2, 0, true, cs⟩], by simp [go_sem], by simp [go_sem], .inr ⟨ver2, cs, rfl, rfl⟩⟩
    obtain ⟨v2, h2, w1, w2, w3⟩ := hw
    simp only [List.length_cons, List.length_nil, Nat.zero_add] at w1 w2 ⊢
    rw [w1, w2]
    clear w1 w2 hv
    simp +decide  only [go_sem, Nat.reduceAdd, Nat.reduceSub, Nat.reduceMul]
    have hn1 : (fl gc g1).length = g1.length * 5 := gcs_length g1
    have hn2 : (fl gc g2).length = g2.length * 5 := gcs_length g2
    rcases w3 with ⟨w3, rfl, rfl⟩ | ⟨ver2, cs, rfl, rfl⟩
    case' inl =>
      refine LoopJ.of tok mix [0, 2, 3, 5, 6, 8, 9, 10, 11, 25, 26, 27] (fun z : Nat × PV × List Blk => ⟨tm [(0, .sl 0 ver 1 0 2), (2, .nils), (6, z.2.1), (25, .sl 0 ver 1 0 2), (26, .int .i64 2), (27, .int .i64 z.1)], ⟨ver, mode, false, [.vz q1 g1.length (fl gc g1), .vz q2 g2.length (fl gc g2)]⟩ :: z.2.2, 36⟩)
        (fun z => CcI g1 g2 z) (fun z => 2 - z.1) (0, .nils, []) [0] rfl (.inl ⟨rfl, .inl ⟨w3, rfl, rfl⟩⟩) (by simp +decide [go_sem]) (by decide +kernel) rfl ?_
    case' inr =>
      refine LoopJ.of tok mix [0, 2, 3, 5, 6, 8, 9, 10, 11, 25, 26, 27] (fun z : Nat × PV × List Blk => ⟨tm [(0, .sl 0 ver 1 0 2), (2, .nils), (6, z.2.1), (25, .sl 0 ver 1 0 2), (26, .int .i64 2), (27, .int .i64 z.1)], ⟨ver, mode, false, [.vz q1 g1.length (fl gc g1), .vz q2 g2.length (fl gc g2)]⟩ :: z.2.2, 36⟩)
        (fun z => CcI g1 g2 z) (fun z => 2 - z.1) (0, .sl 1 ver2 5 0 0, [⟨ver2, 0, true, cs⟩]) [0, 1] rfl (.inl ⟨rfl, .inr ⟨ver2, cs, rfl, rfl⟩⟩) (by simp +decide [go_sem]) (by decide +kernel) rfl ?_
    all_goals
      rintro ⟨i, w, hh⟩ hC
      have b1 : (g1.length) * 40 ≤ 140737488355328 := by omega
      have b2 : g1.length ≤ 140737488355328 := by omega
      have b3 : (g1.length + g2.length) * 40 ≤ 140737488355328 := by omega
      have b4 : g1.length + g2.length ≤ 140737488355328 := by omega
      rcases hC with ⟨e, ⟨w3', e1, e2⟩ | ⟨ver3, cs3, e1, e2⟩⟩ | ⟨e, ver3, e1, e2⟩ | ⟨e, ver3, e1, e2⟩ <;> dsimp only at e e1 e2 <;> subst e e1 e2
      · simp +decide  only [go_sem, Nat.reduceAdd, Nat.reduceSub, Nat.reduceMul, hn1, hn2, gcs_one, b1, b2]
        refine InvJ.mk (1, .sl 1 0 5 0 g1.length, [⟨0, 0, true, fl gc g1⟩]) [0, 1] rfl (.inr (.inl ⟨rfl, 0, rfl, rfl⟩)) (by simp only; omega) ?_
        simp +decide [go_sem]
      · simp +decide  only [go_sem, Nat.reduceAdd, Nat.reduceSub, Nat.reduceMul, hn1, hn2, gcs_one, b1, b2, Nat.zero_le, Nat.zero_mul]
        refine InvJ.mk (1, .sl 1 (ver3 + 1) 5 0 g1.length, [⟨ver3 + 1, 0, true, fl gc g1⟩]) [0, 1] rfl (.inr (.inl ⟨rfl, _, rfl, rfl⟩)) (by simp only; omega) ?_
        simp +decide [go_sem]
      · simp +decide  only [go_sem, Nat.reduceAdd, Nat.reduceSub, Nat.reduceMul, hn1, hn2, gcs_one, b3, b4, Nat.le_refl, take_gcs]
        refine InvJ.mk (2, .sl 1 (ver3 + 1) 5 0 (g1 ++ g2).length, [⟨ver3 + 1, 0, true, fl gc (g1 ++ g2)⟩]) [0, 1] rfl (.inr (.inr ⟨rfl, _, rfl, rfl⟩)) (by simp only; omega) ?_
        simp +decide [go_sem, fl_append]
      · simp +decide  only [go_sem, Nat.reduceAdd, Nat.reduceSub, Nat.reduceMul]
        refine Ret.sel [0, 1] rfl (by simp +decide [go_sem]) ?_
        exact ⟨ver3, rfl, rfl⟩
end Go.Proofs.Ytaloakmffdejgaa
