/- The small functions that the law of groups calls. -/
import Derived.Test.YtaloakmffdejgaaFwTab
import Derived.Test.YtaloakmffdejgaaFwU
set_option linter.unusedSimpArgs false
set_option linter.unusedVariables false
set_option maxRecDepth 100000
namespace Go.Proofs.Ytaloakmffdejgaa
open Go Go.Fw

theorem mix : Try.prog.follows .mixedOrders = true := by kernel_rfl

def inR (x a b : Int) : Bool := decide (a ≤ x) && decide (x ≤ b)

theorem c_vBig (q n : Nat) (cs : List PV) : PCE Try.prog 8 [.vz q n cs] [] (fun r h => r = .bool (decide (65536 < (n : Int))) ∧ h = []) := by
  refine PCE.of_body tok Try.func8 (by kernel_rfl) rfl Try.ntmps8 (by rw [Try.results8]) (by simp) (W_go tok mix [0, 2] (by decide +kernel) rfl ?_)
  simp +decide only [go_sem, Nat.reduceAdd, Nat.reduceSub, Nat.reduceMul]
  refine Ret.sel [] rfl (by simp +decide [go_sem]) ?_
  simp +decide [go_sem]

theorem c_l1In (x a b : Int) : PCE Try.prog 95 [.int .i64 x, .int .i64 a, .int .i64 b] [] (fun r h => r = .bool (inR x a b) ∧ h = []) := by
  refine PCE.of_body tok Try.func95 (by kernel_rfl) rfl Try.ntmps95 (by rw [Try.results95]) (by simp) (W_go tok mix [0, 1, 2, 6] (by decide +kernel) rfl ?_)
  simp +decide only [go_sem, Nat.reduceAdd, Nat.reduceSub, Nat.reduceMul]
  refine BrJ.ofP (fun h1 => ?_) fun h1 => ?_
  · simp +decide  only [go_sem, Nat.reduceAdd, Nat.reduceSub, Nat.reduceMul, h1]
    refine Ret.sel [] rfl (by simp +decide [go_sem]) ?_
    simp +decide [go_sem, h1, inR]
  · simp +decide  only [go_sem, Nat.reduceAdd, Nat.reduceSub, Nat.reduceMul, h1]
    refine Ret.sel [] rfl (by simp +decide [go_sem]) ?_
    simp +decide [go_sem, h1, inR]

theorem c_in (x a b : Int) : PCE Try.prog 67 [.int .i64 x, .int .i64 a, .int .i64 b] [] (fun r h => r = .bool (inR x a b) ∧ h = []) := by
  refine PCE.of_body tok Try.func67 (by kernel_rfl) rfl Try.ntmps67 (by rw [Try.results67]) (by simp) (W_go tok mix [0, 1, 2, 6] (by decide +kernel) rfl ?_)
  simp +decide only [go_sem, Nat.reduceAdd, Nat.reduceSub, Nat.reduceMul]
  refine BrJ.ofP (fun h1 => ?_) fun h1 => ?_
  · simp +decide  only [go_sem, Nat.reduceAdd, Nat.reduceSub, Nat.reduceMul, h1]
    refine Ret.sel [] rfl (by simp +decide [go_sem]) ?_
    simp +decide [go_sem, h1, inR]
  · simp +decide  only [go_sem, Nat.reduceAdd, Nat.reduceSub, Nat.reduceMul, h1]
    refine Ret.sel [] rfl (by simp +decide [go_sem]) ?_
    simp +decide [go_sem, h1, inR]

def bys (code : List UInt8) : List PV := code.map fun b => .int .u8 b.toNat
theorem bys_get (code : List UInt8) (i : Nat) (h : i < code.length) : (bys code)[i]? = some (.int .u8 (code.getD i 0).toNat) := by
  simp [bys, List.getD, h]

@[go_sem] def cur (q : Nat) (code : List UInt8) (at' : Nat) (seed : Int) : Blk := ⟨0, 1, false, [.vz q code.length (bys code), .int .i64 at', .int .u64 seed]⟩

theorem and255 (a : Int) : 0 ≤ Go.bits .and .u64 a 255 ∧ Go.bits .and .u64 a 255 ≤ 255 := by
  have h2 : (BitVec.ofInt 64 (255 : Int)).toNat = 255 := by decide
  have h3 : (BitVec.ofInt 64 a &&& BitVec.ofInt 64 255).toNat ≤ 255 := by
    rw [BitVec.toNat_and, h2]; exact Nat.and_le_right
  have e : Go.bits .and .u64 a 255 = IntKind.u64.wrap ((BitVec.ofInt 64 a &&& BitVec.ofInt 64 255).toNat : Int) := rfl
  rw [e]
  generalize (BitVec.ofInt 64 a &&& BitVec.ofInt 64 255).toNat = z at h3
  simp only [IntKind.wrap, IntKind.signed, IntKind.bits, Bool.false_and]
  simp only [Bool.false_eq_true, if_false]
  omega

theorem c_next (q : Nat) (code : List UInt8) (t : Nat) (seed : Int) (hl : code.length ≤ 1000000) (ht : t ≤ 1000000000) : PCE Try.prog 138 [.ptr 0 0 0] [cur q code t seed] (fun r h => ∃ (x : Int) (s : Int), r = .int .i64 x ∧ 0 ≤ x ∧ x ≤ 255 ∧ h = [cur q code (t + 1) s]) := by
  unfold cur
  refine PCE.of_body tok Try.func138 (by kernel_rfl) rfl Try.ntmps138 (by rw [Try.results138]) (by simp) (W_go tok mix [0, 2, 3] (by decide +kernel) rfl ?_)
  simp +decide only [go_sem, Nat.reduceAdd, Nat.reduceSub, Nat.reduceMul]
  have c0 : (0:Int) ≤ t := by omega
  refine BrJ.ofP (fun h1 => ?_) fun h1 => ?_
  · have h1' : t < code.length := by omega
    have hb : (code.getD t 0).toNat < 256 := UInt8.toNat_lt _
    simp +decide  only [go_sem, Nat.reduceAdd, Nat.reduceSub, Nat.reduceMul, h1, c0, bys_get _ _ h1', wrap_in (n := ↑t + 1) (by omega) (by omega), wrap_in (n := ↑(code.getD t 0).toNat) (by omega) (by omega)]
    refine BrJ.ofP (fun h2 => ?_) fun h2 => ?_
    · simp +decide  only [go_sem, Nat.reduceAdd, Nat.reduceSub, Nat.reduceMul, h2]
      refine Ret.sel [0] rfl (by simp +decide [go_sem]) ?_
      refine ⟨_, _, rfl, ?_, ?_, rfl⟩
      · omega
      · omega
    · omega
  · simp +decide  only [go_sem, Nat.reduceAdd, Nat.reduceSub, Nat.reduceMul, h1, wrap_in (n := ↑t + 1) (by omega) (by omega)]
    refine BrJ.ofP (fun h2 => ?_) fun h2 => ?_
    · omega
    · have hz := fun z => and255 z
      simp +decide  only [go_sem, Nat.reduceAdd, Nat.reduceSub, Nat.reduceMul, h2, wrap_in (Int.le_trans (by decide) (hz _).1) (Int.le_trans (hz _).2 (by decide))]
      refine Ret.sel [0] rfl (by simp +decide [go_sem]) ?_
      exact ⟨_, _, rfl, (hz _).1, (hz _).2, rfl⟩
end Go.Proofs.Ytaloakmffdejgaa
