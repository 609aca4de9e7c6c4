/- Concatenation, as package slices does it, on groups. -/
import Derived.Test.YtaloakmffdejgaaGrE
set_option linter.unusedSimpArgs false
set_option linter.unusedVariables false
set_option maxRecDepth 100000
set_option maxHeartbeats 8000000
namespace Go.Proofs.Ytaloakmffdejgaa
open Go Go.Fw

/-- The slice that nil grown by n is: nil, or one's own of length 0. -/
def GrowΦ (n : Nat) (r : PV) (h : List Blk) : Prop :=
  (n = 0 ∧ r = .nils ∧ h = []) ∨ (0 < n ∧ ∃ (ver : Nat) (cs : List PV), (∀ q, noRegs q cs) ∧ r = .sl 0 ver 5 0 0 ∧ h = [⟨ver, 0, true, cs⟩])

theorem zer_noReg (q : Nat) : ∀ n, noRegs q (zer [PV.int IntKind.i64 0, PV.int IntKind.i64 0, PV.int IntKind.i64 0, PV.int IntKind.i64 0, PV.int IntKind.i64 0] n)
  | 0 => by simp [zer, noRegs]
  | n + 1 => by simpa [zer, noRegs, noReg] using zer_noReg q n

theorem c_GrowG (n : Nat) (hn : n ≤ 1000) : PCE Try.prog 135 [.nils, .int .i64 n] [] (GrowΦ n) := by
  have b1 : ¬ ((n : Int) < 0) := by omega
  refine PCE.of_body tok Try.func135 (by kernel_rfl) rfl Try.ntmps135 (by rw [Try.results135]) (by simp) (W_go tok mix [0, 1, 4] (by decide +kernel) rfl ?_)
  simp +decide only [go_sem, Nat.reduceAdd, Nat.reduceSub, Nat.reduceMul]
  have e0 : IntKind.i64.wrap (↑n - IntKind.i64.wrap (0 - 0)) = (n : Int) := by
    rw [wrap_in (n := 0 - 0) (by decide) (by decide), wrap_in (by omega) (by omega)]; omega
  have b2 : n * 40 ≤ 140737488355328 := by omega
  have b3 : (n : Int) ≤ 140737488355328 := by omega
  simp +decide  only [go_sem, Nat.reduceAdd, Nat.reduceSub, Nat.reduceMul, b1, e0]
  refine BrJ.ofP (fun h1 => ?_) fun h1 => ?_
  · have c0 : 0 ≤ n := by omega
    simp +decide  only [go_sem, Nat.reduceAdd, Nat.reduceSub, Nat.reduceMul, h1, e0, b2, b3, Nat.zero_le, Nat.sub_zero, Int.toNat_zero, Nat.zero_mul, Nat.le_refl]
    refine Ret.sel [0] rfl (by simp +decide [go_sem]) ?_
    exact .inr ⟨by omega, _, _, fun q => zer_noReg q n, rfl, rfl⟩
  · simp +decide  only [go_sem, Nat.reduceAdd, Nat.reduceSub, Nat.reduceMul, h1]
    refine Ret.sel [] rfl (by simp +decide [go_sem]) ?_
    exact .inl ⟨by omega, rfl, rfl⟩
end Go.Proofs.Ytaloakmffdejgaa
