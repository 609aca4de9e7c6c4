/- Natural runs. -/
import Derived.Test.YtaloakmffdejgaaAdA
set_option linter.unusedSimpArgs false
set_option linter.unusedVariables false
set_option maxRecDepth 100000
set_option maxHeartbeats 8000000
namespace Go.Proofs.Ytaloakmffdejgaa
open Go Go.Fw

def adv (p : Nat → Bool) (n : Nat) : Nat → Nat → Nat
  | 0, k => k
  | f + 1, k => if k < n ∧ p k = true then adv p n f (k + 1) else k

theorem adv_ge (p : Nat → Bool) (n : Nat) : ∀ f k, k ≤ adv p n f k
  | 0, k => Nat.le_refl _
  | f + 1, k => by
    simp only [adv]
    split
    · have := adv_ge p n f (k + 1); omega
    · exact Nat.le_refl _
theorem adv_le (p : Nat → Bool) (n : Nat) : ∀ f k, k ≤ n → adv p n f k ≤ n
  | 0, k, h => h
  | f + 1, k, h => by
    simp only [adv]
    split
    · exact adv_le p n f (k + 1) (by omega)
    · exact h
theorem adv_next {p : Nat → Bool} {n k : Nat} (h : k < n) (hp : p k = true) : adv p n (n - k) k = adv p n (n - (k + 1)) (k + 1) := by
  rw [show n - k = (n - (k + 1)) + 1 by omega]
  simp only [adv]
  rw [if_pos ⟨h, hp⟩]
theorem adv_stop {p : Nat → Bool} {n k : Nat} (h : ¬ (k < n ∧ p k = true)) : adv p n (n - k) k = k := by
  cases hf : n - k with
  | zero => rfl
  | succ f => simp only [adv]; rw [if_neg h]

def desc (L : List Rc) (k : Nat) : Bool := decide ((L.getD k default).1 < (L.getD (k - 1) default).1)
def fall (L : List Rc) (i : Nat) : Prop := i + 1 < L.length ∧ (L.getD (i + 1) default).1 < (L.getD i default).1
instance (L : List Rc) (i : Nat) : Decidable (fall L i) := by unfold fall; exact inferInstance
def runEnd (L : List Rc) (i : Nat) : Nat := if fall L i then adv (desc L) L.length (L.length - (i + 1)) (i + 1) else adv (fun k => !desc L k) L.length (L.length - (i + 1)) (i + 1)
theorem runEnd_ge (L : List Rc) (i : Nat) : i + 1 ≤ runEnd L i := by
  unfold runEnd
  split
  · exact adv_ge _ _ _ _
  · exact adv_ge _ _ _ _
theorem runEnd_le (L : List Rc) (i : Nat) (h : i < L.length) : runEnd L i ≤ L.length := by
  unfold runEnd
  split
  · exact adv_le _ _ _ _ h
  · exact adv_le _ _ _ _ h

def runsFrom (L : List Rc) : Nat → Nat → List Rc
  | 0, _ => []
  | f + 1, i => if i < L.length then ((i : Int), (runEnd L i : Int) - i) :: runsFrom L f (runEnd L i) else []
def runsOf (L : List Rc) : List Rc := runsFrom L L.length 0

theorem runsFrom_fuel (L : List Rc) : ∀ (f g i : Nat), L.length - i ≤ f → L.length - i ≤ g → runsFrom L f i = runsFrom L g i
  | 0, 0, i, _, _ => rfl
  | 0, g + 1, i, h, _ => by simp only [runsFrom]; rw [if_neg (by omega)]
  | f + 1, 0, i, _, h => by simp only [runsFrom]; rw [if_neg (by omega)]
  | f + 1, g + 1, i, h1, h2 => by
    simp only [runsFrom]
    split
    · have := runEnd_ge L i
      rw [runsFrom_fuel L f g (runEnd L i) (by omega) (by omega)]
    · rfl
theorem runsFrom_step (L : List Rc) (i : Nat) (h : i < L.length) : runsFrom L (L.length - i) i = ((i : Int), (runEnd L i : Int) - i) :: runsFrom L (L.length - runEnd L i) (runEnd L i) := by
  have := runEnd_ge L i
  rw [show L.length - i = (L.length - i - 1) + 1 by omega]
  simp only [runsFrom]
  rw [if_pos h, runsFrom_fuel L (L.length - i - 1) (L.length - runEnd L i) _ (by omega) (by omega)]
theorem runsFrom_end (L : List Rc) (i : Nat) (h : ¬ i < L.length) : runsFrom L (L.length - i) i = [] := by
  rw [show L.length - i = 0 by omega]; rfl

theorem c_runsI (q : Nat) (L : List Rc) (hn : L.length ≤ 1000) : PCE Try.prog 51 [.vz q L.length (fl rc L)] [] (fun r h => ∃ ver : Nat, (runsOf L).length ≤ L.length ∧ r = .sl 0 ver 2 0 (runsOf L).length ∧ h = [⟨ver, 0, true, fl rc (runsOf L)⟩]) := by
  refine PCE.of_body tok Try.func51 (by kernel_rfl) rfl Try.ntmps51 (by rw [Try.results51]) (by simp) (W_go tok mix [0, 2, 3, 4, 5] (by decide +kernel) rfl ?_)
  simp +decide only [go_sem, Nat.reduceAdd, Nat.reduceSub, Nat.reduceMul]
  refine LoopJ.of tok mix [0, 2, 3, 4, 5] (fun z : Nat × Nat × List Rc => ⟨tm [(0, .vz q L.length (fl rc L)), (2, .nils), (3, .sl 0 z.2.1 2 0 z.2.2.length), (4, .int .i64 z.1)], [⟨z.2.1, 0, true, fl rc z.2.2⟩], 80⟩)
    (fun z => z.1 ≤ L.length ∧ z.2.2.length ≤ z.1 ∧ z.2.2 ++ runsFrom L (L.length - z.1) z.1 = runsOf L) (fun z => L.length - z.1) (0, 0, []) [0] rfl ⟨Nat.zero_le _, Nat.le_refl _, rfl⟩ (by simp +decide [go_sem]) (by decide +kernel) rfl ?_
  rintro ⟨i, ver, os⟩ ⟨i1, i2, i3⟩
  dsimp only at i1 i2 i3
  simp +decide  only [go_sem, Nat.reduceAdd, Nat.reduceSub, Nat.reduceMul]
  refine BrJ.ofP (fun g1 => ?_) fun g1 => ?_
  · have g1' : i < L.length := by omega
    have c0 : (0 : Int) ≤ i := by omega
    have c1 : (0 : Int) ≤ (i : Int) + 1 := by omega
    have c2 : ((i : Int) + 1).toNat = i + 1 := by omega
    have b1 : (os.length + 1) * 16 ≤ 140737488355328 := by omega
    have b2 : os.length + 1 ≤ 140737488355328 := by omega
    have hre := runEnd_ge L i
    have hrl := runEnd_le L i g1'
    rw [runsFrom_step L i g1'] at i3
    have hc : ((i : Int) + 1 < L.length ∧ (L.getD (i + 1) default).1 < (L.getD i default).1) ∨ ((i : Int) + 1 < L.length ∧ ¬ (L.getD (i + 1) default).1 < (L.getD i default).1) ∨ ¬ (i : Int) + 1 < L.length := by omega
    rcases hc with ⟨g2, g3⟩ | hc
    · have hf : fall L i := ⟨by omega, g3⟩
      have he : runEnd L i = adv (desc L) L.length (L.length - (i + 1)) (i + 1) := by unfold runEnd; rw [if_pos hf]
      simp +decide  only [go_sem, Nat.reduceAdd, Nat.reduceSub, Nat.reduceMul, wrap_in (n := ↑i + 1) (by omega) (by omega), c0, c1, c2, g1, rks_0 _ _ g1', g2, rks_0 _ _ (show i + 1 < L.length by omega), g3]
      refine LoopJ.of tok mix [0, 2, 3, 4, 5] (fun m : Nat => ⟨tm [(0, .vz q L.length (fl rc L)), (2, .nils), (3, .sl 0 ver 2 0 os.length), (4, .int .i64 i), (5, .int .i64 ((m : Int) + 1))], [⟨ver, 0, true, fl rc os⟩], 80⟩)
        (fun m => i ≤ m ∧ m + 1 ≤ L.length ∧ adv (desc L) L.length (L.length - (m + 1)) (m + 1) = runEnd L i) (fun m => L.length - m) i [0] rfl ⟨Nat.le_refl _, by omega, he.symm⟩ (by simp +decide [go_sem]) (by decide +kernel) rfl ?_
      rintro m ⟨j1, j2, j3⟩
      have w1 : IntKind.i64.wrap ((m : Int) + 1 - 1) = m := by rw [wrap_in (by omega) (by omega)]; omega
      have d0 : (0 : Int) ≤ m := by omega
      have d1 : (m : Int) < L.length := by omega
      have d2 : (0 : Int) ≤ (m : Int) + 1 := by omega
      have d3 : ((m : Int) + 1).toNat = m + 1 := by omega
      have dm : (((m + 1 : Nat) : Int) + 1) = (m : Int) + 1 + 1 := by omega
      simp +decide  only [go_sem, Nat.reduceAdd, Nat.reduceSub, Nat.reduceMul]
      refine BrJ.ofP (fun k1 => ?_) fun k1 => ?_
      · have k1' : m + 1 < L.length := by omega
        simp +decide  only [go_sem, Nat.reduceAdd, Nat.reduceSub, Nat.reduceMul, k1, w1, d0, d1, d2, d3, rks_0 _ _ k1', rks_0 _ _ (show m < L.length by omega)]
        refine BrJ.ofP (fun k2 => ?_) fun k2 => ?_
        · have hp : (desc L) (m + 1) = true := by
            simpa [desc] using k2
          rw [adv_next k1' hp] at j3
          simp +decide  only [go_sem, Nat.reduceAdd, Nat.reduceSub, Nat.reduceMul, k1, k2, w1, d0, d1, d2, d3, rks_0 _ _ k1', rks_0 _ _ (show m < L.length by omega), wrap_in (n := ↑m + 1 + 1) (by omega) (by omega)]
          refine InvJ.mk (m + 1) [0] rfl ⟨by omega, by omega, j3⟩ (by omega) ?_
          simp +decide [go_sem, dm]
        · have hp : ¬ (m + 1 < L.length ∧ (desc L) (m + 1) = true) := by
            simp [desc] at k2 ⊢; omega
          rw [adv_stop hp] at j3
          simp +decide  only [go_sem, Nat.reduceAdd, Nat.reduceSub, Nat.reduceMul, k1, k2, w1, d0, d1, d2, d3, rks_0 _ _ k1', rks_0 _ _ (show m < L.length by omega), wrap_in (n := ↑m + 1 - ↑i) (by omega) (by omega), rks_length, take_rks, b1, b2, Nat.le_refl]
          refine InvJ.mk (m + 1, ver + 1, os ++ [((i : Int), ((m + 1 : Nat) : Int) - i)]) [0] rfl ⟨by simp only; omega, by simp; omega, by rw [← j3] at i3; simp only; rw [← i3]; simp⟩ (by simp only; omega) ?_
          have dk : (((m + 1 : Nat) : Int)) = (m : Int) + 1 := by omega
          simp only [dk]
          simp +decide [go_sem, fl_append, fl_one]
      · have hp : ¬ (m + 1 < L.length ∧ (desc L) (m + 1) = true) := fun h => k1 (by omega)
        rw [adv_stop hp] at j3
        simp +decide  only [go_sem, Nat.reduceAdd, Nat.reduceSub, Nat.reduceMul, k1, wrap_in (n := ↑m + 1 - ↑i) (by omega) (by omega), rks_length, take_rks, b1, b2, Nat.le_refl]
        refine InvJ.mk (m + 1, ver + 1, os ++ [((i : Int), ((m + 1 : Nat) : Int) - i)]) [0] rfl ⟨by simp only; omega, by simp; omega, by rw [← j3] at i3; simp only; rw [← i3]; simp⟩ (by simp only; omega) ?_
        have dk : (((m + 1 : Nat) : Int)) = (m : Int) + 1 := by omega
        simp only [dk]
        simp +decide [go_sem, fl_append, fl_one]
    · have hf : ¬ fall L i := fun h => by unfold fall at h; omega
      have he : runEnd L i = adv (fun k => !desc L k) L.length (L.length - (i + 1)) (i + 1) := by unfold runEnd; rw [if_neg hf]
      rcases hc with ⟨g2, g3⟩ | g2
      case' inl => simp +decide  only [go_sem, Nat.reduceAdd, Nat.reduceSub, Nat.reduceMul, wrap_in (n := ↑i + 1) (by omega) (by omega), c0, c1, c2, g1, rks_0 _ _ g1', g2, rks_0 _ _ (show i + 1 < L.length by omega), g3]
      case' inr => simp +decide  only [go_sem, Nat.reduceAdd, Nat.reduceSub, Nat.reduceMul, wrap_in (n := ↑i + 1) (by omega) (by omega), c0, c1, c2, g1, rks_0 _ _ g1', g2]
      all_goals
        refine LoopJ.of tok mix [0, 2, 3, 4, 5] (fun m : Nat => ⟨tm [(0, .vz q L.length (fl rc L)), (2, .nils), (3, .sl 0 ver 2 0 os.length), (4, .int .i64 i), (5, .int .i64 ((m : Int) + 1))], [⟨ver, 0, true, fl rc os⟩], 80⟩)
          (fun m => i ≤ m ∧ m + 1 ≤ L.length ∧ adv (fun k => !desc L k) L.length (L.length - (m + 1)) (m + 1) = runEnd L i) (fun m => L.length - m) i [0] rfl ⟨Nat.le_refl _, by omega, he.symm⟩ (by simp +decide [go_sem]) (by decide +kernel) rfl ?_
        rintro m ⟨j1, j2, j3⟩
        have w1 : IntKind.i64.wrap ((m : Int) + 1 - 1) = m := by rw [wrap_in (by omega) (by omega)]; omega
        have d0 : (0 : Int) ≤ m := by omega
        have d1 : (m : Int) < L.length := by omega
        have d2 : (0 : Int) ≤ (m : Int) + 1 := by omega
        have d3 : ((m : Int) + 1).toNat = m + 1 := by omega
        have dm : (((m + 1 : Nat) : Int) + 1) = (m : Int) + 1 + 1 := by omega
        simp +decide  only [go_sem, Nat.reduceAdd, Nat.reduceSub, Nat.reduceMul]
        refine BrJ.ofP (fun k1 => ?_) fun k1 => ?_
        · have k1' : m + 1 < L.length := by omega
          simp +decide  only [go_sem, Nat.reduceAdd, Nat.reduceSub, Nat.reduceMul, k1, w1, d0, d1, d2, d3, rks_0 _ _ k1', rks_0 _ _ (show m < L.length by omega)]
          refine BrJ.ofP (fun k2 => ?_) fun k2 => ?_
          · have hp : (fun k => !desc L k) (m + 1) = true := by
              simpa [desc] using k2
            rw [adv_next k1' hp] at j3
            simp +decide  only [go_sem, Nat.reduceAdd, Nat.reduceSub, Nat.reduceMul, k1, k2, w1, d0, d1, d2, d3, rks_0 _ _ k1', rks_0 _ _ (show m < L.length by omega), wrap_in (n := ↑m + 1 + 1) (by omega) (by omega)]
            refine InvJ.mk (m + 1) [0] rfl ⟨by omega, by omega, j3⟩ (by omega) ?_
            simp +decide [go_sem, dm]
          · have hp : ¬ (m + 1 < L.length ∧ (fun k => !desc L k) (m + 1) = true) := by
              simp [desc] at k2 ⊢; omega
            rw [adv_stop hp] at j3
            simp +decide  only [go_sem, Nat.reduceAdd, Nat.reduceSub, Nat.reduceMul, k1, k2, w1, d0, d1, d2, d3, rks_0 _ _ k1', rks_0 _ _ (show m < L.length by omega), wrap_in (n := ↑m + 1 - ↑i) (by omega) (by omega), rks_length, take_rks, b1, b2, Nat.le_refl]
            refine InvJ.mk (m + 1, ver + 1, os ++ [((i : Int), ((m + 1 : Nat) : Int) - i)]) [0] rfl ⟨by simp only; omega, by simp; omega, by rw [← j3] at i3; simp only; rw [← i3]; simp⟩ (by simp only; omega) ?_
            have dk : (((m + 1 : Nat) : Int)) = (m : Int) + 1 := by omega
            simp only [dk]
            simp +decide [go_sem, fl_append, fl_one]
        · have hp : ¬ (m + 1 < L.length ∧ (fun k => !desc L k) (m + 1) = true) := fun h => k1 (by omega)
          rw [adv_stop hp] at j3
          simp +decide  only [go_sem, Nat.reduceAdd, Nat.reduceSub, Nat.reduceMul, k1, wrap_in (n := ↑m + 1 - ↑i) (by omega) (by omega), rks_length, take_rks, b1, b2, Nat.le_refl]
          refine InvJ.mk (m + 1, ver + 1, os ++ [((i : Int), ((m + 1 : Nat) : Int) - i)]) [0] rfl ⟨by simp only; omega, by simp; omega, by rw [← j3] at i3; simp only; rw [← i3]; simp⟩ (by simp only; omega) ?_
          have dk : (((m + 1 : Nat) : Int)) = (m : Int) + 1 := by omega
          simp only [dk]
          simp +decide [go_sem, fl_append, fl_one]
  · simp +decide  only [go_sem, Nat.reduceAdd, Nat.reduceSub, Nat.reduceMul, g1]
    refine Ret.sel [0] rfl (by simp +decide [go_sem]) ?_
    rw [runsFrom_end L i (by omega), List.append_nil] at i3
    subst i3
    exact ⟨ver, by omega, rfl, rfl⟩
theorem c_runsS (q : Nat) (L : List Rc) (hn : L.length ≤ 1000) : PCE Try.prog 82 [.vz q L.length (fl rc L)] [] (fun r h => ∃ ver : Nat, (runsOf L).length ≤ L.length ∧ r = .sl 0 ver 2 0 (runsOf L).length ∧ h = [⟨ver, 0, true, fl rc (runsOf L)⟩]) := by
  refine PCE.of_body tok Try.func82 (by kernel_rfl) rfl Try.ntmps82 (by rw [Try.results82]) (by simp) (W_go tok mix [0, 2, 3, 4, 5] (by decide +kernel) rfl ?_)
  simp +decide only [go_sem, Nat.reduceAdd, Nat.reduceSub, Nat.reduceMul]
  refine LoopJ.of tok mix [0, 2, 3, 4, 5] (fun z : Nat × Nat × List Rc => ⟨tm [(0, .vz q L.length (fl rc L)), (2, .nils), (3, .sl 0 z.2.1 2 0 z.2.2.length), (4, .int .i64 z.1)], [⟨z.2.1, 0, true, fl rc z.2.2⟩], 80⟩)
    (fun z => z.1 ≤ L.length ∧ z.2.2.length ≤ z.1 ∧ z.2.2 ++ runsFrom L (L.length - z.1) z.1 = runsOf L) (fun z => L.length - z.1) (0, 0, []) [0] rfl ⟨Nat.zero_le _, Nat.le_refl _, rfl⟩ (by simp +decide [go_sem]) (by decide +kernel) rfl ?_
  rintro ⟨i, ver, os⟩ ⟨i1, i2, i3⟩
  dsimp only at i1 i2 i3
  simp +decide  only [go_sem, Nat.reduceAdd, Nat.reduceSub, Nat.reduceMul]
  refine BrJ.ofP (fun g1 => ?_) fun g1 => ?_
  · have g1' : i < L.length := by omega
    have c0 : (0 : Int) ≤ i := by omega
    have c1 : (0 : Int) ≤ (i : Int) + 1 := by omega
    have c2 : ((i : Int) + 1).toNat = i + 1 := by omega
    have b1 : (os.length + 1) * 16 ≤ 140737488355328 := by omega
    have b2 : os.length + 1 ≤ 140737488355328 := by omega
    have hre := runEnd_ge L i
    have hrl := runEnd_le L i g1'
    rw [runsFrom_step L i g1'] at i3
    have hc : ((i : Int) + 1 < L.length ∧ (L.getD (i + 1) default).1 < (L.getD i default).1) ∨ ((i : Int) + 1 < L.length ∧ ¬ (L.getD (i + 1) default).1 < (L.getD i default).1) ∨ ¬ (i : Int) + 1 < L.length := by omega
    rcases hc with ⟨g2, g3⟩ | hc
    · have hf : fall L i := ⟨by omega, g3⟩
      have he : runEnd L i = adv (desc L) L.length (L.length - (i + 1)) (i + 1) := by unfold runEnd; rw [if_pos hf]
      simp +decide  only [go_sem, Nat.reduceAdd, Nat.reduceSub, Nat.reduceMul, wrap_in (n := ↑i + 1) (by omega) (by omega), c0, c1, c2, g1, rks_0 _ _ g1', g2, rks_0 _ _ (show i + 1 < L.length by omega), g3]
      refine LoopJ.of tok mix [0, 2, 3, 4, 5] (fun m : Nat => ⟨tm [(0, .vz q L.length (fl rc L)), (2, .nils), (3, .sl 0 ver 2 0 os.length), (4, .int .i64 i), (5, .int .i64 ((m : Int) + 1))], [⟨ver, 0, true, fl rc os⟩], 80⟩)
        (fun m => i ≤ m ∧ m + 1 ≤ L.length ∧ adv (desc L) L.length (L.length - (m + 1)) (m + 1) = runEnd L i) (fun m => L.length - m) i [0] rfl ⟨Nat.le_refl _, by omega, he.symm⟩ (by simp +decide [go_sem]) (by decide +kernel) rfl ?_
      rintro m ⟨j1, j2, j3⟩
      have w1 : IntKind.i64.wrap ((m : Int) + 1 - 1) = m := by rw [wrap_in (by omega) (by omega)]; omega
      have d0 : (0 : Int) ≤ m := by omega
      have d1 : (m : Int) < L.length := by omega
      have d2 : (0 : Int) ≤ (m : Int) + 1 := by omega
      have d3 : ((m : Int) + 1).toNat = m + 1 := by omega
      have dm : (((m + 1 : Nat) : Int) + 1) = (m : Int) + 1 + 1 := by omega
      simp +decide  only [go_sem, Nat.reduceAdd, Nat.reduceSub, Nat.reduceMul]
      refine BrJ.ofP (fun k1 => ?_) fun k1 => ?_
      · have k1' : m + 1 < L.length := by omega
        simp +decide  only [go_sem, Nat.reduceAdd, Nat.reduceSub, Nat.reduceMul, k1, w1, d0, d1, d2, d3, rks_0 _ _ k1', rks_0 _ _ (show m < L.length by omega)]
        refine BrJ.ofP (fun k2 => ?_) fun k2 => ?_
        · have hp : (desc L) (m + 1) = true := by
            simpa [desc] using k2
          rw [adv_next k1' hp] at j3
          simp +decide  only [go_sem, Nat.reduceAdd, Nat.reduceSub, Nat.reduceMul, k1, k2, w1, d0, d1, d2, d3, rks_0 _ _ k1', rks_0 _ _ (show m < L.length by omega), wrap_in (n := ↑m + 1 + 1) (by omega) (by omega)]
          refine InvJ.mk (m + 1) [0] rfl ⟨by omega, by omega, j3⟩ (by omega) ?_
          simp +decide [go_sem, dm]
        · have hp : ¬ (m + 1 < L.length ∧ (desc L) (m + 1) = true) := by
            simp [desc] at k2 ⊢; omega
          rw [adv_stop hp] at j3
          simp +decide  only [go_sem, Nat.reduceAdd, Nat.reduceSub, Nat.reduceMul, k1, k2, w1, d0, d1, d2, d3, rks_0 _ _ k1', rks_0 _ _ (show m < L.length by omega), wrap_in (n := ↑m + 1 - ↑i) (by omega) (by omega), rks_length, take_rks, b1, b2, Nat.le_refl]
          refine InvJ.mk (m + 1, ver + 1, os ++ [((i : Int), ((m + 1 : Nat) : Int) - i)]) [0] rfl ⟨by simp only; omega, by simp; omega, by rw [← j3] at i3; simp only; rw [← i3]; simp⟩ (by simp only; omega) ?_
          have dk : (((m + 1 : Nat) : Int)) = (m : Int) + 1 := by omega
          simp only [dk]
          simp +decide [go_sem, fl_append, fl_one]
      · have hp : ¬ (m + 1 < L.length ∧ (desc L) (m + 1) = true) := fun h => k1 (by omega)
        rw [adv_stop hp] at j3
        simp +decide  only [go_sem, Nat.reduceAdd, Nat.reduceSub, Nat.reduceMul, k1, wrap_in (n := ↑m + 1 - ↑i) (by omega) (by omega), rks_length, take_rks, b1, b2, Nat.le_refl]
        refine InvJ.mk (m + 1, ver + 1, os ++ [((i : Int), ((m + 1 : Nat) : Int) - i)]) [0] rfl ⟨by simp only; omega, by simp; omega, by rw [← j3] at i3; simp only; rw [← i3]; simp⟩ (by simp only; omega) ?_
        have dk : (((m + 1 : Nat) : Int)) = (m : Int) + 1 := by omega
        simp only [dk]
        simp +decide [go_sem, fl_append, fl_one]
    · have hf : ¬ fall L i := fun h => by unfold fall at h; omega
      have he : runEnd L i = adv (fun k => !desc L k) L.length (L.length - (i + 1)) (i + 1) := by unfold runEnd; rw [if_neg hf]
      rcases hc with ⟨g2, g3⟩ | g2
      case' inl => simp +decide  only [go_sem, Nat.reduceAdd, Nat.reduceSub, Nat.reduceMul, wrap_in (n := ↑i + 1) (by omega) (by omega), c0, c1, c2, g1, rks_0 _ _ g1', g2, rks_0 _ _ (show i + 1 < L.length by omega), g3]
      case' inr => simp +decide  only [go_sem, Nat.reduceAdd, Nat.reduceSub, Nat.reduceMul, wrap_in (n := ↑i + 1) (by omega) (by omega), c0, c1, c2, g1, rks_0 _ _ g1', g2]
      all_goals
        refine LoopJ.of tok mix [0, 2, 3, 4, 5] (fun m : Nat => ⟨tm [(0, .vz q L.length (fl rc L)), (2, .nils), (3, .sl 0 ver 2 0 os.length), (4, .int .i64 i), (5, .int .i64 ((m : Int) + 1))], [⟨ver, 0, true, fl rc os⟩], 80⟩)
          (fun m => i ≤ m ∧ m + 1 ≤ L.length ∧ adv (fun k => !desc L k) L.length (L.length - (m + 1)) (m + 1) = runEnd L i) (fun m => L.length - m) i [0] rfl ⟨Nat.le_refl _, by omega, he.symm⟩ (by simp +decide [go_sem]) (by decide +kernel) rfl ?_
        rintro m ⟨j1, j2, j3⟩
        have w1 : IntKind.i64.wrap ((m : Int) + 1 - 1) = m := by rw [wrap_in (by omega) (by omega)]; omega
        have d0 : (0 : Int) ≤ m := by omega
        have d1 : (m : Int) < L.length := by omega
        have d2 : (0 : Int) ≤ (m : Int) + 1 := by omega
        have d3 : ((m : Int) + 1).toNat = m + 1 := by omega
        have dm : (((m + 1 : Nat) : Int) + 1) = (m : Int) + 1 + 1 := by omega
        simp +decide  only [go_sem, Nat.reduceAdd, Nat.reduceSub, Nat.reduceMul]
        refine BrJ.ofP (fun k1 => ?_) fun k1 => ?_
        · have k1' : m + 1 < L.length := by omega
          simp +decide  only [go_sem, Nat.reduceAdd, Nat.reduceSub, Nat.reduceMul, k1, w1, d0, d1, d2, d3, rks_0 _ _ k1', rks_0 _ _ (show m < L.length by omega)]
          refine BrJ.ofP (fun k2 => ?_) fun k2 => ?_
          · have hp : (fun k => !desc L k) (m + 1) = true := by
              simpa [desc] using k2
            rw [adv_next k1' hp] at j3
            simp +decide  only [go_sem, Nat.reduceAdd, Nat.reduceSub, Nat.reduceMul, k1, k2, w1, d0, d1, d2, d3, rks_0 _ _ k1', rks_0 _ _ (show m < L.length by omega), wrap_in (n := ↑m + 1 + 1) (by omega) (by omega)]
            refine InvJ.mk (m + 1) [0] rfl ⟨by omega, by omega, j3⟩ (by omega) ?_
            simp +decide [go_sem, dm]
          · have hp : ¬ (m + 1 < L.length ∧ (fun k => !desc L k) (m + 1) = true) := by
              simp [desc] at k2 ⊢; omega
            rw [adv_stop hp] at j3
            simp +decide  only [go_sem, Nat.reduceAdd, Nat.reduceSub, Nat.reduceMul, k1, k2, w1, d0, d1, d2, d3, rks_0 _ _ k1', rks_0 _ _ (show m < L.length by omega), wrap_in (n := ↑m + 1 - ↑i) (by omega) (by omega), rks_length, take_rks, b1, b2, Nat.le_refl]
            refine InvJ.mk (m + 1, ver + 1, os ++ [((i : Int), ((m + 1 : Nat) : Int) - i)]) [0] rfl ⟨by simp only; omega, by simp; omega, by rw [← j3] at i3; simp only; rw [← i3]; simp⟩ (by simp only; omega) ?_
            have dk : (((m + 1 : Nat) : Int)) = (m : Int) + 1 := by omega
            simp only [dk]
            simp +decide [go_sem, fl_append, fl_one]
        · have hp : ¬ (m + 1 < L.length ∧ (fun k => !desc L k) (m + 1) = true) := fun h => k1 (by omega)
          rw [adv_stop hp] at j3
          simp +decide  only [go_sem, Nat.reduceAdd, Nat.reduceSub, Nat.reduceMul, k1, wrap_in (n := ↑m + 1 - ↑i) (by omega) (by omega), rks_length, take_rks, b1, b2, Nat.le_refl]
          refine InvJ.mk (m + 1, ver + 1, os ++ [((i : Int), ((m + 1 : Nat) : Int) - i)]) [0] rfl ⟨by simp only; omega, by simp; omega, by rw [← j3] at i3; simp only; rw [← i3]; simp⟩ (by simp only; omega) ?_
          have dk : (((m + 1 : Nat) : Int)) = (m : Int) + 1 := by omega
          simp only [dk]
          simp +decide [go_sem, fl_append, fl_one]
  · simp +decide  only [go_sem, Nat.reduceAdd, Nat.reduceSub, Nat.reduceMul, g1]
    refine Ret.sel [0] rfl (by simp +decide [go_sem]) ?_
    rw [runsFrom_end L i (by omega), List.append_nil] at i3
    subst i3
    exact ⟨ver, by omega, rfl, rfl⟩
end Go.Proofs.Ytaloakmffdejgaa
