/- Whether records are valid. -/
import Derived.Test.YtaloakmffdejgaaGrC
set_option linter.unusedSimpArgs false
set_option linter.unusedVariables false
set_option maxRecDepth 100000
namespace Go.Proofs.Ytaloakmffdejgaa
open Go Go.Fw

def okR (r : Int × Int) : Bool := inR r.1 (-100000) 100000 && inR r.2 0 999
attribute [go_sem] rc

theorem c_l2Records (q : Nat) (rs : List (Int × Int)) (hn : rs.length ≤ 1000) : PCE Try.prog 73 [.vz q rs.length (rcs rs)] [] (fun r h => r = .bool (decide (rs.length ≤ 64) && rs.all okR) ∧ h = []) := by
  refine PCE.of_body tok Try.func73 (by kernel_rfl) rfl Try.ntmps73 (by rw [Try.results73]) (by simp) (W_go tok mix [0, 2, 3] (by decide +kernel) rfl ?_)
  simp +decide only [go_sem, Nat.reduceAdd, Nat.reduceSub, Nat.reduceMul]
  refine LoopJ.of tok mix [0, 2, 3] (fun i : Nat => ⟨tm [(0, .vz q rs.length (rcs rs)), (2, .bool false), (3, .int .i64 i)], [], 33⟩) (fun i => i ≤ rs.length ∧ (rs.take i).all okR = true ∧ i ≤ 65) (fun i => rs.length - i) 0 [] rfl (by simp) (by simp +decide [go_sem]) (by decide +kernel) rfl ?_
  intro i ⟨hi, ha, hi2⟩
  simp +decide  only [go_sem, Nat.reduceAdd, Nat.reduceSub, Nat.reduceMul]
  refine BrJ.ofP (fun h1 => ?_) fun h1 => ?_
  · simp +decide  only [go_sem, Nat.reduceAdd, Nat.reduceSub, Nat.reduceMul, h1]
    have h1' : i < rs.length := by omega
    have c0 : (0:Int) ≤ i := by omega
    have ht : (rs.take (i + 1)).all okR = okR (rs.getD i (0, 0)) := by
      rw [List.take_add_one, List.all_append, ha]
      simp [List.getD, List.getElem?_eq_getElem h1']
    have hall : okR (rs.getD i (0, 0)) = false → rs.all okR = false := by
      intro h
      rw [← List.take_append_drop (i + 1) rs, List.all_append, ht, h]; rfl
    refine BrJ.ofP (fun h2 => ?_) fun h2 => ?_
    · simp +decide  only [go_sem, Nat.reduceAdd, Nat.reduceSub, Nat.reduceMul, h1, h2, c0, rcs_0 _ _ h1']
      refine CallJ.of0 q (c_l1In _ _ _) (by simp +decide [go_sem]) ?_
      rintro _ _ ⟨rfl, rfl⟩
      refine ⟨by simp [go_sem], by simp [go_sem], ?_⟩
      simp +decide  only [go_sem, Nat.reduceAdd, Nat.reduceSub, Nat.reduceMul]
      refine BrJ.of (fun h3 => ?_) fun h3 => ?_
      · simp +decide  only [go_sem, Nat.reduceAdd, Nat.reduceSub, Nat.reduceMul, h1, h2, h3, c0, rcs_1 _ _ h1']
        refine CallJ.of0 q (c_l1In _ _ _) (by simp +decide [go_sem]) ?_
        rintro _ _ ⟨rfl, rfl⟩
        refine ⟨by simp [go_sem], by simp [go_sem], ?_⟩
        simp +decide  only [go_sem, Nat.reduceAdd, Nat.reduceSub, Nat.reduceMul, h3]
        refine BrJ.of (fun h4 => ?_) fun h4 => ?_
        · simp +decide  only [go_sem, Nat.reduceAdd, Nat.reduceSub, Nat.reduceMul, h3, h4, wrap_in (n := ↑i + 1) (by omega) (by omega)]
          refine InvJ.mk (i + 1) [] rfl ⟨by omega, by rw [ht]; simp only [okR, h3, h4]; rfl, by omega⟩ (by omega) ?_
          simp +decide [go_sem]
        · simp +decide  only [go_sem, Nat.reduceAdd, Nat.reduceSub, Nat.reduceMul, h3, h4]
          refine Ret.sel [] rfl (by simp +decide [go_sem]) ?_
          rw [hall (by simp only [okR, h3, h4]; rfl)]
          simp +decide [go_sem]
      · simp +decide  only [go_sem, Nat.reduceAdd, Nat.reduceSub, Nat.reduceMul, h1, h2, h3]
        refine Ret.sel [] rfl (by simp +decide [go_sem]) ?_
        rw [hall (by simp only [okR, h3]; rfl)]
        simp +decide [go_sem]
    · simp +decide  only [go_sem, Nat.reduceAdd, Nat.reduceSub, Nat.reduceMul, h1, h2]
      refine Ret.sel [] rfl (by simp +decide [go_sem]) ?_
      have : ¬ rs.length ≤ 64 := by omega
      simp +decide [go_sem, this]
      omega
  · simp +decide  only [go_sem, Nat.reduceAdd, Nat.reduceSub, Nat.reduceMul, h1]
    refine Ret.sel [] rfl (by simp +decide [go_sem]) ?_
    have : i = rs.length := by omega
    subst this
    rw [List.take_length] at ha
    simp +decide [go_sem, ha]
    omega

theorem c_IsValidRecordsS (q : Nat) (rs : List (Int × Int)) (hn : rs.length ≤ 1000) : PCE Try.prog 27 [.vz q rs.length (rcs rs)] [] (fun r h => r = .bool (decide (rs.length ≤ 64) && rs.all okR) ∧ h = []) := by
  refine PCE.of_body tok Try.func27 (by kernel_rfl) rfl Try.ntmps27 (by rw [Try.results27]) (by simp) (W_go tok mix [0, 2] (by decide +kernel) rfl ?_)
  simp +decide only [go_sem, Nat.reduceAdd, Nat.reduceSub, Nat.reduceMul]
  refine CallJ.of0 q (c_l2Records q rs hn) (by simp +decide [go_sem]) ?_
  rintro _ _ ⟨rfl, rfl⟩
  refine ⟨by simp [go_sem], by simp [go_sem], ?_⟩
  simp +decide  only [go_sem, Nat.reduceAdd, Nat.reduceSub, Nat.reduceMul]
  refine Ret.sel [] rfl (by simp +decide [go_sem]) ?_
  exact ⟨rfl, rfl⟩

theorem c_isKey (x : Int) : PCE Try.prog 129 [.int .i64 x] [] (fun r h => r = .bool (inR x (-100000) 100000) ∧ h = []) := by
  refine PCE.of_body tok Try.func129 (by kernel_rfl) rfl Try.ntmps129 (by rw [Try.results129]) (by simp) (W_go tok mix [0, 2] (by decide +kernel) rfl ?_)
  simp +decide only [go_sem, Nat.reduceAdd, Nat.reduceSub, Nat.reduceMul]
  refine CallJ.of0 1 (c_in _ _ _) (by simp +decide [go_sem]) ?_
  rintro _ _ ⟨rfl, rfl⟩
  refine ⟨by simp [go_sem], by simp [go_sem], ?_⟩
  simp +decide  only [go_sem, Nat.reduceAdd, Nat.reduceSub, Nat.reduceMul]
  refine Ret.sel [] rfl (by simp +decide [go_sem]) ?_
  exact ⟨rfl, rfl⟩

theorem c_isRecord (x : Int × Int) : PCE Try.prog 119 [.agg (rc x)] [] (fun r h => r = .bool (okR x) ∧ h = []) := by
  refine PCE.of_body tok Try.func119 (by kernel_rfl) rfl Try.ntmps119 (by rw [Try.results119]) (by simp) (W_go tok mix [0, 1, 2] (by decide +kernel) rfl ?_)
  simp +decide only [go_sem, Nat.reduceAdd, Nat.reduceSub, Nat.reduceMul]
  refine CallJ.of0 1 (c_isKey _) (by simp +decide [go_sem]) ?_
  rintro _ _ ⟨rfl, rfl⟩
  refine ⟨by simp [go_sem], by simp [go_sem], ?_⟩
  simp +decide  only [go_sem, Nat.reduceAdd, Nat.reduceSub, Nat.reduceMul]
  refine BrJ.of (fun h1 => ?_) fun h1 => ?_
  · simp +decide  only [go_sem, Nat.reduceAdd, Nat.reduceSub, Nat.reduceMul, h1]
    refine CallJ.of0 1 (c_in _ _ _) (by simp +decide [go_sem]) ?_
    rintro _ _ ⟨rfl, rfl⟩
    refine ⟨by simp [go_sem], by simp [go_sem], ?_⟩
    simp +decide  only [go_sem, Nat.reduceAdd, Nat.reduceSub, Nat.reduceMul, h1]
    refine Ret.sel [] rfl (by simp +decide [go_sem]) ?_
    simp +decide [go_sem, okR, h1]
  · simp +decide  only [go_sem, Nat.reduceAdd, Nat.reduceSub, Nat.reduceMul, h1]
    refine Ret.sel [] rfl (by simp +decide [go_sem]) ?_
    simp +decide [go_sem, okR, h1]

theorem c_all1 (g : Nat) (p : Int × Int → Bool) (hg : ∀ x, PCE Try.prog g [.agg (rc x)] [] (fun r h => r = .bool (p x) ∧ h = [])) (x : Int × Int) :
    PCE Try.prog 163 [.agg (rc x), .ptr 0 0 0] [⟨0, 1, false, [.fn g []]⟩] (fun r h => r = .bool (!p x) ∧ h = [⟨0, 1, false, [.fn g []]⟩]) := by
  refine PCE.of_body tok Try.func163 (by kernel_rfl) rfl Try.ntmps163 (by rw [Try.results163]) (by simp) (W_go tok mix [0, 1, 2, 3] (by decide +kernel) rfl ?_)
  simp +decide only [go_sem, Nat.reduceAdd, Nat.reduceSub, Nat.reduceMul]
  refine CallJ.of0 1 (hg x) (by simp +decide [go_sem]) ?_
  rintro _ _ ⟨rfl, rfl⟩
  refine ⟨by simp [go_sem], by simp [go_sem], ?_⟩
  simp +decide  only [go_sem, Nat.reduceAdd, Nat.reduceSub, Nat.reduceMul]
  refine Ret.sel [0] rfl (by simp +decide [go_sem]) ?_
  exact ⟨rfl, rfl⟩

theorem rcs_at : ∀ (rs : List (Int × Int)) (i : Nat), i < rs.length → ((rcs rs).drop (i * 2)).take 2 = rc (rs.getD i (0, 0))
  | r :: rs, 0, _ => rfl
  | r :: rs, i + 1, h => by
    have := rcs_at rs i (by simpa using h)
    rw [show (i + 1) * 2 = i * 2 + 1 + 1 by omega]
    simpa [rcs, rc] using this

theorem any_take {α : Type} {l : List α} {p : α → Bool} {i : Nat} {d : α} (h : i < l.length) (ha : (l.take i).any p = false) : (l.take (i + 1)).any p = p (l.getD i d) := by
  rw [List.take_add_one, List.any_append, ha]
  simp [List.getD, List.getElem?_eq_getElem h]

theorem c_IndexR (q g g' : Nat) (p : Int × Int → Bool) (hg : ∀ x, PCE Try.prog g [.agg (rc x), .ptr 0 0 0] [⟨0, 1, false, [.fn g' []]⟩] (fun r h => r = .bool (p x) ∧ h = [⟨0, 1, false, [.fn g' []]⟩])) (rs : List (Int × Int)) (hn : rs.length ≤ 1000) :
    PCE Try.prog 184 [.vz q rs.length (rcs rs), .fn g [.ptr 0 0 0]] [⟨0, 1, false, [.fn g' []]⟩] (fun r h => (∃ k : Int, r = .int .i64 k ∧ decide (0 ≤ k) = rs.any p) ∧ h = [⟨0, 1, false, [.fn g' []]⟩]) := by
  refine PCE.of_body tok Try.func184 (by kernel_rfl) rfl Try.ntmps184 (by rw [Try.results184]) (by simp) (W_go tok mix [0, 1, 4, 5, 7, 8] (by decide +kernel) rfl ?_)
  simp +decide only [go_sem, Nat.reduceAdd, Nat.reduceSub, Nat.reduceMul]
  refine LoopJ.of tok mix [0, 1, 4, 5, 7, 8] (fun i : Nat => ⟨tm [(0, .vz q rs.length (rcs rs)), (1, .fn g [.ptr 0 0 0]), (4, .int .i64 0), (7, .int .i64 rs.length), (8, .int .i64 i)], [⟨0, 1, false, [.fn g' []]⟩], 19⟩) (fun i => i ≤ rs.length ∧ (rs.take i).any p = false) (fun i => rs.length - i) 0 [0] rfl (by simp) (by simp +decide [go_sem]) (by decide +kernel) rfl ?_
  intro i ⟨hi, ha⟩
  simp +decide  only [go_sem, Nat.reduceAdd, Nat.reduceSub, Nat.reduceMul]
  refine BrJ.ofP (fun h1 => ?_) fun h1 => ?_
  · have h1' : i < rs.length := by omega
    have c0 : (0:Int) ≤ i := by omega
    have c1 : i * 2 + 2 ≤ rs.length * 2 := by omega
    simp +decide  only [go_sem, Nat.reduceAdd, Nat.reduceSub, Nat.reduceMul, h1, c0, rcs_length, c1, rcs_at _ _ h1']
    refine CallJ.of [0] (1) (hg (rs.getD i (0, 0))) (by simp +decide [go_sem]) ?_
    rintro _ _ ⟨rfl, rfl⟩
    refine ⟨by simp [go_sem], by simp [go_sem], ?_⟩
    simp +decide  only [go_sem, Nat.reduceAdd, Nat.reduceSub, Nat.reduceMul]
    refine BrJ.of (fun h2 => ?_) fun h2 => ?_
    · simp +decide  only [go_sem, Nat.reduceAdd, Nat.reduceSub, Nat.reduceMul, h2]
      refine Ret.sel [0] rfl (by simp +decide [go_sem]) ?_
      refine ⟨⟨i, rfl, ?_⟩, rfl⟩
      rw [← List.take_append_drop (i + 1) rs, List.any_append, any_take h1' ha, h2]
      simp
    · simp +decide  only [go_sem, Nat.reduceAdd, Nat.reduceSub, Nat.reduceMul, h2, wrap_in (n := ↑i + 1) (by omega) (by omega)]
      refine InvJ.mk (i + 1) [0] rfl ⟨by omega, by rw [any_take h1' ha, h2]⟩ (by omega) ?_
      simp +decide [go_sem]
  · simp +decide  only [go_sem, Nat.reduceAdd, Nat.reduceSub, Nat.reduceMul, h1]
    refine Ret.sel [0] rfl (by simp +decide [go_sem]) ?_
    have : i = rs.length := by omega
    subst this
    rw [List.take_length] at ha
    exact ⟨⟨-1, rfl, by rw [ha]; rfl⟩, rfl⟩

theorem c_ContainsR (q g g' : Nat) (p : Int × Int → Bool) (hg : ∀ x, PCE Try.prog g [.agg (rc x), .ptr 0 0 0] [⟨0, 1, false, [.fn g' []]⟩] (fun r h => r = .bool (p x) ∧ h = [⟨0, 1, false, [.fn g' []]⟩])) (rs : List (Int × Int)) (hn : rs.length ≤ 1000) :
    PCE Try.prog 162 [.vz q rs.length (rcs rs), .fn g [.ptr 0 0 0]] [⟨0, 1, false, [.fn g' []]⟩] (fun r h => r = .bool (rs.any p) ∧ h = [⟨0, 1, false, [.fn g' []]⟩]) := by
  refine PCE.of_body tok Try.func162 (by kernel_rfl) rfl Try.ntmps162 (by rw [Try.results162]) (by simp) (W_go tok mix [0, 1, 4] (by decide +kernel) rfl ?_)
  simp +decide only [go_sem, Nat.reduceAdd, Nat.reduceSub, Nat.reduceMul]
  refine CallJ.of [0] (q + 1) (c_IndexR q g g' p hg rs hn) (by simp +decide [go_sem]) ?_
  rintro _ _ ⟨⟨k, rfl, hk⟩, rfl⟩
  refine ⟨by simp [go_sem], by simp [go_sem], ?_⟩
  simp +decide  only [go_sem, Nat.reduceAdd, Nat.reduceSub, Nat.reduceMul, hk]
  refine Ret.sel [0] rfl (by simp +decide [go_sem]) ?_
  exact ⟨rfl, rfl⟩

theorem c_allR (q g : Nat) (p : Int × Int → Bool) (hg : ∀ x, PCE Try.prog g [.agg (rc x)] [] (fun r h => r = .bool (p x) ∧ h = [])) (rs : List (Int × Int)) (hn : rs.length ≤ 1000) :
    PCE Try.prog 118 [.vz q rs.length (rcs rs), .fn g []] [] (fun r h => r = .bool (rs.all p) ∧ h = []) := by
  refine PCE.of_body tok Try.func118 (by kernel_rfl) rfl Try.ntmps118 (by rw [Try.results118]) (by simp) (W_go tok mix [0, 1, 3, 4] (by decide +kernel) rfl ?_)
  simp +decide only [go_sem, Nat.reduceAdd, Nat.reduceSub, Nat.reduceMul]
  refine CallJ.of [0] (q + 1) (c_ContainsR q 163 g (fun x => !p x) (c_all1 g p hg) rs hn) (by simp +decide [go_sem]) ?_
  rintro _ _ ⟨rfl, rfl⟩
  refine ⟨by simp [go_sem], by simp [go_sem], ?_⟩
  simp +decide  only [go_sem, Nat.reduceAdd, Nat.reduceSub, Nat.reduceMul]
  refine Ret.sel [] rfl (by simp +decide [go_sem]) ?_
  exact ⟨by rw [List.all_eq_not_any_not]; rfl, rfl⟩

theorem c_IsValidRecords (q : Nat) (rs : List (Int × Int)) (hn : rs.length ≤ 1000) : PCE Try.prog 48 [.vz q rs.length (rcs rs)] [] (fun r h => r = .bool (decide (rs.length ≤ 64) && rs.all okR) ∧ h = []) := by
  refine PCE.of_body tok Try.func48 (by kernel_rfl) rfl Try.ntmps48 (by rw [Try.results48]) (by simp) (W_go tok mix [0, 2] (by decide +kernel) rfl ?_)
  simp +decide only [go_sem, Nat.reduceAdd, Nat.reduceSub, Nat.reduceMul]
  refine BrJ.ofP (fun h1 => ?_) fun h1 => ?_
  · simp +decide  only [go_sem, Nat.reduceAdd, Nat.reduceSub, Nat.reduceMul, h1]
    refine CallJ.of0 q (c_allR q 119 okR c_isRecord rs hn) (by simp +decide [go_sem]) ?_
    rintro _ _ ⟨rfl, rfl⟩
    refine ⟨by simp [go_sem], by simp [go_sem], ?_⟩
    simp +decide  only [go_sem, Nat.reduceAdd, Nat.reduceSub, Nat.reduceMul, h1]
    refine Ret.sel [] rfl (by simp +decide [go_sem]) ?_
    have : rs.length ≤ 64 := by omega
    simp +decide [go_sem, this]
  · simp +decide  only [go_sem, Nat.reduceAdd, Nat.reduceSub, Nat.reduceMul, h1]
    refine Ret.sel [] rfl (by simp +decide [go_sem]) ?_
    have : ¬ rs.length ≤ 64 := by omega
    simp +decide [go_sem, this]
end Go.Proofs.Ytaloakmffdejgaa
