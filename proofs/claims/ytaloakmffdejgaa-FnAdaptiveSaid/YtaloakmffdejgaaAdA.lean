/- Records: compared, drawn, copied, sorted. -/
import Derived.Test.YtaloakmffdejgaaSrK
import Derived.Test.YtaloakmffdejgaaOkR
import Derived.Test.YtaloakmffdejgaaFwV
set_option linter.unusedSimpArgs false
set_option linter.unusedVariables false
set_option maxRecDepth 100000
set_option maxHeartbeats 8000000
namespace Go.Proofs.Ytaloakmffdejgaa
open Go Go.Fw

attribute [go_sem] rcs_fl

theorem getD_take_eq {α : Type} [Inhabited α] {a b : List α} {i : Nat} (h1 : i < a.length) (h2 : i < b.length) (h : a.take i = b.take i) (he : a.getD i default = b.getD i default) : a.take (i + 1) = b.take (i + 1) := by
  rw [take_snoc h1, take_snoc h2, h, he]

theorem c_vRecords (q1 q2 : Nat) (a b : List Rc) (ha : a.length ≤ 1000) (hb : b.length ≤ 1000) :
    PCE Try.prog 15 [.vz q1 a.length (fl rc a), .vz q2 b.length (fl rc b)] [] (fun r h => r = .bool (decide (a = b)) ∧ h = []) := by
  refine PCE.of_body tok Try.func15 (by kernel_rfl) rfl Try.ntmps15 (by rw [Try.results15]) (by simp) (W_go tok mix [0, 1, 4, 5] (by decide +kernel) rfl ?_)
  simp +decide only [go_sem, Nat.reduceAdd, Nat.reduceSub, Nat.reduceMul]
  refine BrJ.ofP (fun h1 => ?_) fun h1 => ?_
  · simp +decide  only [go_sem, Nat.reduceAdd, Nat.reduceSub, Nat.reduceMul, h1]
    have h1' : a.length = b.length := by omega
    refine LoopJ.of tok mix [0, 1, 4, 5] (fun i : Nat => ⟨tm [(0, .vz q1 a.length (fl rc a)), (1, .vz q2 b.length (fl rc b)), (4, .bool false), (5, .int .i64 i)], [], 26⟩)
      (fun i => i ≤ a.length ∧ a.take i = b.take i) (fun i => a.length - i) 0 [] rfl ⟨Nat.zero_le _, rfl⟩ (by simp +decide [go_sem]) (by decide +kernel) rfl ?_
    rintro i ⟨i1, i2⟩
    simp +decide  only [go_sem, Nat.reduceAdd, Nat.reduceSub, Nat.reduceMul]
    refine BrJ.ofP (fun g1 => ?_) fun g1 => ?_
    · have g1' : i < a.length := by omega
      have g2 : (i : Int) < b.length := by omega
      have c0 : (0 : Int) ≤ i := by omega
      have c1 : i * 2 + 2 ≤ a.length * 2 := by omega
      have c2 : i * 2 + 2 ≤ b.length * 2 := by omega
      simp +decide  only [go_sem, Nat.reduceAdd, Nat.reduceSub, Nat.reduceMul, g1, g2, c0, c1, c2, rks_length, rks_at _ _ g1', rks_at _ _ (show i < b.length by omega)]
      refine BrJ.of (fun k1 => ?_) fun k1 => ?_
      · have e : a.getD i default = b.getD i default := by
          simp only [Bool.and_eq_true, decide_eq_true_eq] at k1
          exact Prod.ext k1.1 k1.2
        simp +decide  only [go_sem, Nat.reduceAdd, Nat.reduceSub, Nat.reduceMul, k1, wrap_in (n := ↑i + 1) (by omega) (by omega)]
        refine InvJ.mk (i + 1) [] rfl ⟨by omega, getD_take_eq g1' (by omega) i2 e⟩ (by omega) ?_
        simp +decide [go_sem]
      · simp +decide  only [go_sem, Nat.reduceAdd, Nat.reduceSub, Nat.reduceMul, k1]
        refine Ret.sel [] rfl (by simp +decide [go_sem]) ?_
        have hne : a ≠ b := by
          rintro rfl
          simp at k1
        simp +decide [go_sem, hne]
    · simp +decide  only [go_sem, Nat.reduceAdd, Nat.reduceSub, Nat.reduceMul, g1]
      refine Ret.sel [] rfl (by simp +decide [go_sem]) ?_
      have : i = a.length := by omega
      subst this
      have e : a = b := by rw [List.take_length] at i2; rw [i2, h1', List.take_length]
      simp +decide [go_sem, e]
  · simp +decide  only [go_sem, Nat.reduceAdd, Nat.reduceSub, Nat.reduceMul, h1]
    refine Ret.sel [] rfl (by simp +decide [go_sem]) ?_
    have hne : a ≠ b := by
      rintro rfl
      omega
    simp +decide [go_sem, hne]

theorem c_drawIV (q : Nat) (code : List UInt8) (hl : code.length ≤ 1000000) :
    PCE Try.prog 81 [.vz q code.length (bys code)] [] (fun r h => ∃ (rs : List Rc) (ver : Nat), r = .sl 0 ver 2 0 rs.length ∧ rs.length ≤ 66 ∧ bndR rs ∧ h = [⟨ver, 0, true, fl rc rs⟩]) := by
  refine PCE.of_body tok Try.func81 (by kernel_rfl) rfl Try.ntmps81 (by rw [Try.results81]) (by simp) (W_go tok mix [0, 2, 3] (by decide +kernel) rfl ?_)
  simp +decide only [go_sem, Nat.reduceAdd, Nat.reduceSub, Nat.reduceMul]
  refine CallJ.of [0] (q + 1) (c_anyRecords q code 0 0 hl (by omega)) (by simp +decide [go_sem]) ?_
  rintro _ _ ⟨rs, t1, v1, s1, rfl, h2, h3, h4, rfl⟩
  refine ⟨by simp [go_sem], by simp [go_sem], ?_⟩
  simp +decide  only [go_sem, Nat.reduceAdd, Nat.reduceSub, Nat.reduceMul]
  refine Ret.sel [1] rfl (by simp +decide [go_sem]) ?_
  exact ⟨rs, v1, rfl, h2, h3, rfl⟩

theorem c_drawAdaptive (q : Nat) (code : List UInt8) (hl : code.length ≤ 1000000) :
    PCE Try.prog 31 [.vz q code.length (bys code)] [] (fun r h => ∃ (rs : List Rc) (ver : Nat), r = .sl 0 ver 2 0 rs.length ∧ rs.length ≤ 66 ∧ bndR rs ∧ h = [⟨ver, 0, true, fl rc rs⟩]) := by
  refine PCE.of_body tok Try.func31 (by kernel_rfl) rfl Try.ntmps31 (by rw [Try.results31]) (by simp) (W_go tok mix [0, 2] (by decide +kernel) rfl ?_)
  simp +decide only [go_sem, Nat.reduceAdd, Nat.reduceSub, Nat.reduceMul]
  refine CallJ.of0 q (c_drawIV q code hl) (by simp +decide [go_sem]) ?_
  rintro _ _ ⟨rs, v1, rfl, h2, h3, rfl⟩
  refine ⟨by simp [go_sem], by simp [go_sem], ?_⟩
  simp +decide  only [go_sem, Nat.reduceAdd, Nat.reduceSub, Nat.reduceMul]
  refine Ret.sel [0] rfl (by simp +decide [go_sem]) ?_
  exact ⟨rs, v1, rfl, h2, h3, rfl⟩

theorem c_copyR (q : Nat) (rs : List Rc) (hn : rs.length ≤ 1000) : PCE Try.prog 52 [.vz q rs.length (fl rc rs)] [] (fun r h => r = .sl 0 1 2 0 rs.length ∧ h = [⟨1, 0, true, fl rc rs⟩]) := by
  have b1 : rs.length * 16 ≤ 140737488355328 := by omega
  have b2 : rs.length ≤ 140737488355328 := by omega
  refine PCE.of_body tok Try.func52 (by kernel_rfl) rfl Try.ntmps52 (by rw [Try.results52]) (by simp) (W_go tok mix [0, 2] (by decide +kernel) rfl ?_)
  simp +decide only [go_sem, Nat.reduceAdd, Nat.reduceSub, Nat.reduceMul]
  simp +decide  only [go_sem, Nat.reduceAdd, Nat.reduceSub, Nat.reduceMul, rks_length, rks_one, b1, b2]
  refine Ret.sel [0] rfl (by simp +decide [go_sem]) ?_
  exact ⟨rfl, rfl⟩

def ltR (x y : Rc) : Bool := decide (x.1 < y.1)
theorem ltR_swo : SWO ltR := ⟨fun x => by simp [ltR], fun x y z h1 h2 => by simp [ltR] at *; omega, fun x y z h1 h2 => by simp [ltR] at *; omega⟩

theorem c_compareKeys (x y : Rc) : PCE Try.prog 121 [.agg (rc x), .agg (rc y)] [] (fun r h => (∃ v : Int, r = .int .i64 v ∧ decide (v < 0) = decide (x.1 < y.1)) ∧ h = []) := by
  refine PCE.of_body tok Try.func121 (by kernel_rfl) rfl Try.ntmps121 (by rw [Try.results121]) (by simp) (W_go tok mix [0, 1, 2, 3, 4] (by decide +kernel) rfl ?_)
  simp +decide only [go_sem, Nat.reduceAdd, Nat.reduceSub, Nat.reduceMul]
  refine CallJ.of0 1 (c_Compare _ _) (by simp +decide [go_sem]) ?_
  rintro _ _ ⟨rfl, rfl⟩
  refine ⟨by simp [go_sem], by simp [go_sem], ?_⟩
  simp +decide  only [go_sem, Nat.reduceAdd, Nat.reduceSub, Nat.reduceMul]
  refine Ret.sel [] rfl (by simp +decide [go_sem]) ?_
  refine ⟨⟨_, rfl, ?_⟩, rfl⟩
  by_cases h1 : x.1 < y.1
  · simp [h1]
  · by_cases h2 : y.1 < x.1 <;> simp [h1, h2]
theorem cmpR : CmpR 121 ltR := c_compareKeys

/-- A stable arrangement. -/
def Srt (rs D : List Rc) : Prop := Loc ltR rs D 0 rs.length ∧ SO ltR D 0 rs.length

theorem c_stableOf (q : Nat) (rs : List Rc) (hn : rs.length ≤ 1000) : PCE Try.prog 49 [.vz q rs.length (fl rc rs)] [] (fun r h => ∃ D, Srt rs D ∧ r = .sl 0 1 2 0 D.length ∧ h = [⟨1, 0, true, fl rc D⟩]) := by
  refine PCE.of_body tok Try.func49 (by kernel_rfl) rfl Try.ntmps49 (by rw [Try.results49]) (by simp) (W_go tok mix [0, 2, 3] (by decide +kernel) rfl ?_)
  simp +decide only [go_sem, Nat.reduceAdd, Nat.reduceSub, Nat.reduceMul]
  refine CallJ.of0 q (c_copyR q rs hn) (by simp +decide [go_sem]) ?_
  rintro _ _ ⟨rfl, rfl⟩
  refine ⟨by simp [go_sem], by simp [go_sem], ?_⟩
  simp +decide  only [go_sem, Nat.reduceAdd, Nat.reduceSub, Nat.reduceMul]
  refine CallJ.of [0] (q + 1) (c_SortStableR 121 0 ltR ltR_swo cmpR (by decide) 1 rs.length (by omega) rs rfl) (by simp +decide [go_sem]) ?_
  rintro _ _ ⟨rfl, D, l1, s1, rfl⟩
  refine ⟨by simp [go_sem], by simp [go_sem], ?_⟩
  simp +decide  only [go_sem, Nat.reduceAdd, Nat.reduceSub, Nat.reduceMul]
  refine Ret.sel [0] rfl (by simp +decide [go_sem]) ?_
  exact ⟨D, ⟨l1, s1⟩, by rw [l1.len]; rfl, rfl⟩

theorem c_StableSort (q : Nat) (rs : List Rc) (hn : rs.length ≤ 1000) : PCE Try.prog 10 [.vz q rs.length (fl rc rs)] [] (fun r h => (okRs rs = false ∧ r = .tup [.nils, .bool false] ∧ h = []) ∨
    (okRs rs = true ∧ ∃ D, Srt rs D ∧ r = .tup [.sl 0 1 2 0 D.length, .bool true] ∧ h = [⟨1, 0, true, fl rc D⟩])) := by
  refine PCE.of_body tok Try.func10 (by kernel_rfl) rfl Try.ntmps10 (by rw [Try.results10]) (by simp) (W_go tok mix [0, 2, 3] (by decide +kernel) rfl ?_)
  simp +decide only [go_sem, Nat.reduceAdd, Nat.reduceSub, Nat.reduceMul]
  refine CallJ.of0 q (c_IsValidRecords q rs hn) (by simp +decide [go_sem]) ?_
  rintro _ _ ⟨rfl, rfl⟩
  rw [show (decide (rs.length ≤ 64) && rs.all okR) = okRs rs from rfl]
  refine ⟨by simp [go_sem], by simp [go_sem], ?_⟩
  simp +decide  only [go_sem, Nat.reduceAdd, Nat.reduceSub, Nat.reduceMul]
  refine BrJ.of (fun k1 => ?_) fun k1 => ?_
  · simp +decide  only [go_sem, Nat.reduceAdd, Nat.reduceSub, Nat.reduceMul, k1]
    refine CallJ.of0 q (c_stableOf q rs hn) (by simp +decide [go_sem]) ?_
    rintro _ _ ⟨D, hD, rfl, rfl⟩
    refine ⟨by simp [go_sem], by simp [go_sem], ?_⟩
    simp +decide  only [go_sem, Nat.reduceAdd, Nat.reduceSub, Nat.reduceMul]
    refine Ret.sel [0] rfl (by simp +decide [go_sem]) ?_
    first | exact .inr ⟨k1, D, hD, rfl, rfl⟩ | exact ⟨D, hD, rfl, rfl⟩ | exact .inr ⟨D, hD, rfl, rfl⟩
  · simp +decide  only [go_sem, Nat.reduceAdd, Nat.reduceSub, Nat.reduceMul, k1]
    refine Ret.sel [] rfl (by simp +decide [go_sem]) ?_
    first | exact .inl ⟨k1, rfl, rfl⟩ | exact ⟨rfl, rfl⟩ | exact .inl ⟨rfl, rfl⟩
end Go.Proofs.Ytaloakmffdejgaa
