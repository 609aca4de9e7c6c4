/- The law's own next merge, walked. -/
import Derived.Test.YtaloakmffdejgaaAdJ
set_option linter.unusedSimpArgs false
set_option linter.unusedVariables false
set_option maxRecDepth 100000
set_option maxHeartbeats 8000000
namespace Go.Proofs.Ytaloakmffdejgaa
open Go Go.Fw

def optI (o : Option Nat) : Int := match o with
  | some i => (i : Int)
  | none => -1
def nxtI (st : List Int) (fin : Bool) : Int := optI (nxt st fin)

theorem nxtI_eq (st : List Int) (fin : Bool) : nxtI st fin = if st.length < 2 then -1
    else if fin = true then (if 3 ≤ st.length ∧ st.getD (st.length - 3) 0 < st.getD (st.length - 1) 0 then (st.length : Int) - 3 else (st.length : Int) - 2)
    else if (3 ≤ st.length ∧ st.getD (st.length - 3) 0 ≤ st.getD (st.length - 1) 0 + st.getD (st.length - 2) 0) ∨ (4 ≤ st.length ∧ st.getD (st.length - 4) 0 ≤ st.getD (st.length - 3) 0 + st.getD (st.length - 2) 0) then
      (if st.getD (st.length - 3) 0 < st.getD (st.length - 1) 0 then (st.length : Int) - 3 else (st.length : Int) - 2)
    else if st.getD (st.length - 2) 0 ≤ st.getD (st.length - 1) 0 then (st.length : Int) - 2 else -1 := by
  have k1 : ∀ (p : Prop) [Decidable p] (a b : Nat) (x y : Int), (x = a ∨ ¬ p) → (y = b ∨ p) → optI (if p then some a else some b) = if p then x else y := by
    intro p _ a b x y hx hy
    by_cases hp : p
    · rw [if_pos hp, if_pos hp]
      rcases hx with hx | hx
      · exact hx.symm
      · exact absurd hp hx
    · rw [if_neg hp, if_neg hp]
      rcases hy with hy | hy
      · exact hy.symm
      · exact absurd hy hp
  unfold nxtI nxt
  by_cases h0 : st.length < 2
  · rw [if_pos h0, if_pos h0]; rfl
  · rw [if_neg h0, if_neg h0]
    by_cases hf : fin = true
    · rw [if_pos hf, if_pos hf]
      exact k1 _ _ _ _ _ (by omega) (by omega)
    · rw [if_neg hf, if_neg hf]
      by_cases hc : (3 ≤ st.length ∧ st.getD (st.length - 3) 0 ≤ st.getD (st.length - 1) 0 + st.getD (st.length - 2) 0) ∨ (4 ≤ st.length ∧ st.getD (st.length - 4) 0 ≤ st.getD (st.length - 3) 0 + st.getD (st.length - 2) 0)
      · rw [if_pos hc, if_pos hc]
        have : 3 ≤ st.length := by rcases hc with hc | hc <;> omega
        exact k1 _ _ _ _ _ (by omega) (by omega)
      · rw [if_neg hc, if_neg hc]
        by_cases hd : st.getD (st.length - 2) 0 ≤ st.getD (st.length - 1) 0
        · rw [if_pos hd, if_pos hd]; show ((st.length - 2 : Nat) : Int) = _; omega
        · rw [if_neg hd, if_neg hd]; rfl
theorem c_next5 (q : Nat) (st : List Int) (fin : Bool) (hok : okS 1000000000 st) (hl : st.length ≤ 1000) :
    PCE Try.prog 83 [.vz q st.length (ints st), .bool fin] [] (fun r h => r = .int .i64 (nxtI st fin) ∧ h = []) := by
  have g1 := hok.get (st.length - 1)
  have g2 := hok.get (st.length - 2)
  have g3 := hok.get (st.length - 3)
  have g4 := hok.get (st.length - 4)
  have e1 : ∀ k, 1 ≤ k → k ≤ st.length → (ints st)[st.length - k]? = some (.int .i64 (st.getD (st.length - k) 0)) := fun k h1 h2 => ints_get _ _ (by omega)
  refine PCE.of_body tok Try.func83 (by kernel_rfl) rfl Try.ntmps83 (by rw [Try.results83]) (by simp) (W_go tok mix [0, 1, 4, 5, 6, 7] (by decide +kernel) rfl ?_)
  simp +decide only [go_sem, Nat.reduceAdd, Nat.reduceSub, Nat.reduceMul]
  refine BrJ.ofP (fun h2 => ?_) fun h2 => ?_
  · simp +decide  only [go_sem, Nat.reduceAdd, Nat.reduceSub, Nat.reduceMul, h2]
    refine Ret.sel [] rfl (by simp +decide [go_sem]) ?_
    refine ⟨?_, rfl⟩
    unfold nxtI nxt
    rw [if_pos (by omega)]
    rfl
  have c1 : (0 : Int) ≤ (st.length : Int) - 1 := by omega
  have c1' : (st.length : Int) - 1 < st.length := by omega
  have c1'' : ((st.length : Int) - 1).toNat = st.length - 1 := by omega
  have c2 : (0 : Int) ≤ (st.length : Int) - 2 := by omega
  have c2' : (st.length : Int) - 2 < st.length := by omega
  have c2'' : ((st.length : Int) - 2).toNat = st.length - 2 := by omega
  have n2 : ¬ st.length < 2 := by omega
  have w3 : 3 ≤ st.length → (0 : Int) ≤ (st.length : Int) - 3 ∧ (st.length : Int) - 3 < st.length ∧ ((st.length : Int) - 3).toNat = st.length - 3 ∧ ((st.length - 3 : Nat) : Int) = (st.length : Int) - 3 := fun h => by omega
  have w4 : 4 ≤ st.length → (0 : Int) ≤ (st.length : Int) - 4 ∧ (st.length : Int) - 4 < st.length ∧ ((st.length : Int) - 4).toNat = st.length - 4 := fun h => by omega
  have r1 := e1 1 (by omega) (by omega)
  have r2 := e1 2 (by omega) (by omega)
  have z2 : ((st.length - 2 : Nat) : Int) = (st.length : Int) - 2 := by omega
  generalize hA : st.getD (st.length - 1) 0 = A at *
  generalize hB : st.getD (st.length - 2) 0 = B at *
  generalize hC : st.getD (st.length - 3) 0 = C at *
  generalize hD : st.getD (st.length - 4) 0 = D at *
  simp +decide  only [go_sem, Nat.reduceAdd, Nat.reduceSub, Nat.reduceMul, h2, wrap_in (n := ↑st.length - 1) (by omega) (by omega), wrap_in (n := ↑st.length - 2) (by omega) (by omega), c1, c1', c1'', c2, c2', c2'', r1, r2]
  refine BrJ.of (fun hf => ?_) fun hf => ?_
  · subst hf
    simp +decide  only [go_sem, Nat.reduceAdd, Nat.reduceSub, Nat.reduceMul]
    refine BrJ.ofP (fun h3 => ?_) fun h3 => ?_
    · obtain ⟨c3, c3', c3'', z3⟩ := w3 (by omega)
      have r3 := e1 3 (by omega) (by omega)
      rw [hC] at r3
      simp +decide  only [go_sem, Nat.reduceAdd, Nat.reduceSub, Nat.reduceMul, h3, wrap_in (n := ↑st.length - 3) (by omega) (by omega), c3, c3', c3'', r3]
      refine BrJ.ofP (fun h5 => ?_) fun h5 => ?_
      · simp +decide  only [go_sem, Nat.reduceAdd, Nat.reduceSub, Nat.reduceMul, h5, wrap_in (n := ↑st.length - 3) (by omega) (by omega)]
        refine Ret.sel [] rfl (by simp +decide [go_sem]) ?_
        refine ⟨?_, rfl⟩
        show PV.int .i64 _ = PV.int .i64 _
        congr 1
        rw [nxtI_eq]
        simp only [hA, hB, hC, hD, Bool.false_eq_true, if_true, if_false]
        clear r1 r2 hA hB hC hD e1 w3 w4
        repeat' split
        all_goals omega
      · simp +decide  only [go_sem, Nat.reduceAdd, Nat.reduceSub, Nat.reduceMul, h5, wrap_in (n := ↑st.length - 2) (by omega) (by omega)]
        refine Ret.sel [] rfl (by simp +decide [go_sem]) ?_
        refine ⟨?_, rfl⟩
        show PV.int .i64 _ = PV.int .i64 _
        congr 1
        rw [nxtI_eq]
        simp only [hA, hB, hC, hD, Bool.false_eq_true, if_true, if_false]
        clear r1 r2 hA hB hC hD e1 w3 w4
        repeat' split
        all_goals omega
    · simp +decide  only [go_sem, Nat.reduceAdd, Nat.reduceSub, Nat.reduceMul, h3, wrap_in (n := ↑st.length - 2) (by omega) (by omega)]
      refine Ret.sel [] rfl (by simp +decide [go_sem]) ?_
      refine ⟨?_, rfl⟩
      show PV.int .i64 _ = PV.int .i64 _
      congr 1
      rw [nxtI_eq]
      simp only [hA, hB, hC, hD, Bool.false_eq_true, if_true, if_false]
      clear r1 r2 hA hB hC hD e1 w3 w4
      repeat' split
      all_goals omega
  · subst hf
    simp +decide  only [go_sem, Nat.reduceAdd, Nat.reduceSub, Nat.reduceMul]
    refine BrJ.ofP (fun h3 => ?_) fun h3 => ?_
    · obtain ⟨c3, c3', c3'', z3⟩ := w3 (by omega)
      have r3 := e1 3 (by omega) (by omega)
      rw [hC] at r3
      simp +decide  only [go_sem, Nat.reduceAdd, Nat.reduceSub, Nat.reduceMul, h3, wrap_in (n := ↑st.length - 3) (by omega) (by omega), c3, c3', c3'', r3, wrap_in (n := A + B) (by omega) (by omega)]
      refine BrJ.ofP (fun h6 => ?_) fun h6 => ?_
      · simp +decide  only [go_sem, Nat.reduceAdd, Nat.reduceSub, Nat.reduceMul, h6, wrap_in (n := ↑st.length - 3) (by omega) (by omega), c3, c3', c3'', r3]
        refine BrJ.ofP (fun h5 => ?_) fun h5 => ?_
        · simp +decide  only [go_sem, Nat.reduceAdd, Nat.reduceSub, Nat.reduceMul, h5, wrap_in (n := ↑st.length - 3) (by omega) (by omega)]
          refine Ret.sel [] rfl (by simp +decide [go_sem]) ?_
          refine ⟨?_, rfl⟩
          show PV.int .i64 _ = PV.int .i64 _
          congr 1
          rw [nxtI_eq]
          simp only [hA, hB, hC, hD, Bool.false_eq_true, if_true, if_false]
          clear r1 r2 hA hB hC hD e1 w3 w4
          repeat' split
          all_goals omega
        · simp +decide  only [go_sem, Nat.reduceAdd, Nat.reduceSub, Nat.reduceMul, h5, wrap_in (n := ↑st.length - 2) (by omega) (by omega)]
          refine Ret.sel [] rfl (by simp +decide [go_sem]) ?_
          refine ⟨?_, rfl⟩
          show PV.int .i64 _ = PV.int .i64 _
          congr 1
          rw [nxtI_eq]
          simp only [hA, hB, hC, hD, Bool.false_eq_true, if_true, if_false]
          clear r1 r2 hA hB hC hD e1 w3 w4
          repeat' split
          all_goals omega
      · simp +decide  only [go_sem, Nat.reduceAdd, Nat.reduceSub, Nat.reduceMul, h6]
        refine BrJ.ofP (fun h4 => ?_) fun h4 => ?_
        · obtain ⟨c4, c4', c4''⟩ := w4 (by omega)
          have r4 := e1 4 (by omega) (by omega)
          rw [hD] at r4
          simp +decide  only [go_sem, Nat.reduceAdd, Nat.reduceSub, Nat.reduceMul, h4, wrap_in (n := ↑st.length - 4) (by omega) (by omega), wrap_in (n := ↑st.length - 3) (by omega) (by omega), c3, c3', c3'', r3, c4, c4', c4'', r4, wrap_in (n := C + B) (by omega) (by omega)]
          refine BrJ.ofP (fun h7 => ?_) fun h7 => ?_
          · simp +decide  only [go_sem, Nat.reduceAdd, Nat.reduceSub, Nat.reduceMul, h7, wrap_in (n := ↑st.length - 3) (by omega) (by omega), c3, c3', c3'', r3]
            refine BrJ.ofP (fun h5 => ?_) fun h5 => ?_
            · simp +decide  only [go_sem, Nat.reduceAdd, Nat.reduceSub, Nat.reduceMul, h5, wrap_in (n := ↑st.length - 3) (by omega) (by omega)]
              refine Ret.sel [] rfl (by simp +decide [go_sem]) ?_
              refine ⟨?_, rfl⟩
              show PV.int .i64 _ = PV.int .i64 _
              congr 1
              rw [nxtI_eq]
              simp only [hA, hB, hC, hD, Bool.false_eq_true, if_true, if_false]
              clear r1 r2 hA hB hC hD e1 w3 w4
              repeat' split
              all_goals omega
            · simp +decide  only [go_sem, Nat.reduceAdd, Nat.reduceSub, Nat.reduceMul, h5, wrap_in (n := ↑st.length - 2) (by omega) (by omega)]
              refine Ret.sel [] rfl (by simp +decide [go_sem]) ?_
              refine ⟨?_, rfl⟩
              show PV.int .i64 _ = PV.int .i64 _
              congr 1
              rw [nxtI_eq]
              simp only [hA, hB, hC, hD, Bool.false_eq_true, if_true, if_false]
              clear r1 r2 hA hB hC hD e1 w3 w4
              repeat' split
              all_goals omega
          · simp +decide  only [go_sem, Nat.reduceAdd, Nat.reduceSub, Nat.reduceMul, h7]
            refine BrJ.ofP (fun h8 => ?_) fun h8 => ?_
            · simp +decide  only [go_sem, Nat.reduceAdd, Nat.reduceSub, Nat.reduceMul, h8, wrap_in (n := ↑st.length - 2) (by omega) (by omega)]
              refine Ret.sel [] rfl (by simp +decide [go_sem]) ?_
              refine ⟨?_, rfl⟩
              show PV.int .i64 _ = PV.int .i64 _
              congr 1
              rw [nxtI_eq]
              simp only [hA, hB, hC, hD, Bool.false_eq_true, if_true, if_false]
              clear r1 r2 hA hB hC hD e1 w3 w4
              repeat' split
              all_goals omega
            · simp +decide  only [go_sem, Nat.reduceAdd, Nat.reduceSub, Nat.reduceMul, h8]
              refine Ret.sel [] rfl (by simp +decide [go_sem]) ?_
              refine ⟨?_, rfl⟩
              show PV.int .i64 _ = PV.int .i64 _
              congr 1
              rw [nxtI_eq]
              simp only [hA, hB, hC, hD, Bool.false_eq_true, if_true, if_false]
              clear r1 r2 hA hB hC hD e1 w3 w4
              repeat' split
              all_goals omega
        · simp +decide  only [go_sem, Nat.reduceAdd, Nat.reduceSub, Nat.reduceMul, h4]
          refine BrJ.ofP (fun h8 => ?_) fun h8 => ?_
          · simp +decide  only [go_sem, Nat.reduceAdd, Nat.reduceSub, Nat.reduceMul, h8, wrap_in (n := ↑st.length - 2) (by omega) (by omega)]
            refine Ret.sel [] rfl (by simp +decide [go_sem]) ?_
            refine ⟨?_, rfl⟩
            show PV.int .i64 _ = PV.int .i64 _
            congr 1
            rw [nxtI_eq]
            simp only [hA, hB, hC, hD, Bool.false_eq_true, if_true, if_false]
            clear r1 r2 hA hB hC hD e1 w3 w4
            repeat' split
            all_goals omega
          · simp +decide  only [go_sem, Nat.reduceAdd, Nat.reduceSub, Nat.reduceMul, h8]
            refine Ret.sel [] rfl (by simp +decide [go_sem]) ?_
            refine ⟨?_, rfl⟩
            show PV.int .i64 _ = PV.int .i64 _
            congr 1
            rw [nxtI_eq]
            simp only [hA, hB, hC, hD, Bool.false_eq_true, if_true, if_false]
            clear r1 r2 hA hB hC hD e1 w3 w4
            repeat' split
            all_goals omega
    · have h4 : ¬ (4 : Int) ≤ st.length := by omega
      simp +decide  only [go_sem, Nat.reduceAdd, Nat.reduceSub, Nat.reduceMul, h3, h4]
      refine BrJ.ofP (fun h8 => ?_) fun h8 => ?_
      · simp +decide  only [go_sem, Nat.reduceAdd, Nat.reduceSub, Nat.reduceMul, h8, wrap_in (n := ↑st.length - 2) (by omega) (by omega)]
        refine Ret.sel [] rfl (by simp +decide [go_sem]) ?_
        refine ⟨?_, rfl⟩
        show PV.int .i64 _ = PV.int .i64 _
        congr 1
        rw [nxtI_eq]
        simp only [hA, hB, hC, hD, Bool.false_eq_true, if_true, if_false]
        clear r1 r2 hA hB hC hD e1 w3 w4
        repeat' split
        all_goals omega
      · simp +decide  only [go_sem, Nat.reduceAdd, Nat.reduceSub, Nat.reduceMul, h8]
        refine Ret.sel [] rfl (by simp +decide [go_sem]) ?_
        refine ⟨?_, rfl⟩
        show PV.int .i64 _ = PV.int .i64 _
        congr 1
        rw [nxtI_eq]
        simp only [hA, hB, hC, hD, Bool.false_eq_true, if_true, if_false]
        clear r1 r2 hA hB hC hD e1 w3 w4
        repeat' split
        all_goals omega
end Go.Proofs.Ytaloakmffdejgaa
