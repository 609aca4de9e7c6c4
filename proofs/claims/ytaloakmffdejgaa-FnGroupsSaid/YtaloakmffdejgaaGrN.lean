/- The top groups. -/
import Derived.Test.YtaloakmffdejgaaGrM
set_option linter.unusedSimpArgs false
set_option linter.unusedVariables false
set_option maxRecDepth 100000
set_option maxHeartbeats 8000000
namespace Go.Proofs.Ytaloakmffdejgaa
open Go Go.Fw

def validG (gs : List Gp) : Prop := gs.length ≤ 64 ∧ (∀ i, i < gs.length → okG (gs.getD i default) = true) ∧ keyLt gs gs.length
def ltC (x y : Gp) : Bool := decide (y.count < x.count)
theorem ltC_swo : SWO ltC := ⟨fun x => by simp [ltC], fun x y z h1 h2 => by simp [ltC] at *; omega, fun x y z h1 h2 => by simp [ltC] at *; omega⟩
theorem cmpC : CmpG 79 ltC := c_cmpCount

def TopΦ (gs : List Gp) (k : Int) (r : PV) (h : List Blk) : Prop :=
  (¬ (validG gs ∧ inR k 1 16 = true) ∧ r = .tup [.nils, .bool false] ∧ h = []) ∨
  (validG gs ∧ inR k 1 16 = true ∧ ∃ (D : List Gp) (ver : Nat), Loc ltC gs D 0 gs.length ∧ SO ltC D 0 gs.length ∧ r = .tup [.sl 0 ver 5 0 (min k.toNat gs.length), .bool true] ∧ h = [⟨ver, 0, true, fl gc D⟩])

theorem c_TopGroups (q : Nat) (gs : List Gp) (k : Int) (hn : gs.length ≤ 200) (hb : ∀ g ∈ gs, bG g) : PCE Try.prog 30 [.vz q gs.length (fl gc gs), .int .i64 k] [] (TopΦ gs k) := by
  refine PCE.of_body tok Try.func30 (by kernel_rfl) rfl Try.ntmps30 (by rw [Try.results30]) (by simp) (W_go tok mix [0, 1, 4, 5, 6] (by decide +kernel) rfl ?_)
  simp +decide only [go_sem, Nat.reduceAdd, Nat.reduceSub, Nat.reduceMul]
  refine CallJ.of0 q (c_IsValidGroups q gs (by omega) hb) (by simp +decide [go_sem]) ?_
  rintro _ _ ⟨⟨b, rfl, hv⟩, rfl⟩
  refine ⟨by simp [go_sem], by simp [go_sem], ?_⟩
  cases b
  · simp +decide  only [go_sem, Nat.reduceAdd, Nat.reduceSub, Nat.reduceMul]
    refine Ret.sel [] rfl (by simp +decide [go_sem]) ?_
    exact .inl ⟨fun h => Bool.noConfusion (hv.2 h.1), rfl, rfl⟩
  · have hv' : validG gs := hv.1 rfl
    clear hv
    simp +decide  only [go_sem, Nat.reduceAdd, Nat.reduceSub, Nat.reduceMul]
    refine CallJ.of0 q (c_isTop k) (by simp +decide [go_sem]) ?_
    rintro _ _ ⟨rfl, rfl⟩
    refine ⟨by simp [go_sem], by simp [go_sem], ?_⟩
    simp +decide  only [go_sem, Nat.reduceAdd, Nat.reduceSub, Nat.reduceMul]
    refine BrJ.of (fun h1 => ?_) fun h1 => ?_
    · simp +decide  only [go_sem, Nat.reduceAdd, Nat.reduceSub, Nat.reduceMul, h1]
      refine CallJ.of0 q (c_copyG q gs (by omega)) (by simp +decide [go_sem]) ?_
      rintro _ _ ⟨rfl, rfl⟩
      refine ⟨by simp [go_sem], by simp [go_sem], ?_⟩
      simp +decide  only [go_sem, Nat.reduceAdd, Nat.reduceSub, Nat.reduceMul]
      refine CallJ.of [0] (q + 1) (c_SortStableG 79 0 ltC ltC_swo cmpC (by decide) 1 gs.length (by omega) gs rfl) (by simp +decide [go_sem]) ?_
      rintro _ _ ⟨rfl, D, l1, s1, rfl⟩
      refine ⟨by simp [go_sem], by simp [go_sem], ?_⟩
      have hDl : D.length = gs.length := l1.len
      have hk : 1 ≤ k ∧ k ≤ 16 := by simpa [inR] using h1
      have c0 : (0 : Int) ≤ (if (gs.length : Int) < k then (gs.length : Int) else k) := by split <;> omega
      have c1 : (if (gs.length : Int) < k then (gs.length : Int) else k).toNat = min k.toNat gs.length := by split <;> omega
      have c2 : min k.toNat gs.length ≤ gs.length := by omega
      simp +decide  only [go_sem, Nat.reduceAdd, Nat.reduceSub, Nat.reduceMul, c0, c1, c2, Nat.zero_le, Nat.sub_zero, Nat.le_refl]
      refine Ret.sel [0] rfl (by simp +decide [go_sem]) ?_
      exact .inr ⟨hv', h1, D, 1, l1, s1, rfl, rfl⟩
    · simp +decide  only [go_sem, Nat.reduceAdd, Nat.reduceSub, Nat.reduceMul, h1]
      refine Ret.sel [] rfl (by simp +decide [go_sem]) ?_
      exact .inl ⟨fun h => by simp [h1] at h, rfl, rfl⟩
end Go.Proofs.Ytaloakmffdejgaa
