/- Pushing on the run stack. -/
import Derived.Test.YtaloakmffdejgaaAdE
set_option linter.unusedSimpArgs false
set_option linter.unusedVariables false
set_option maxRecDepth 100000
set_option maxHeartbeats 8000000
namespace Go.Proofs.Ytaloakmffdejgaa
open Go Go.Fw

def mi (l : List Nat) : List Int := l.map fun n : Nat => (n : Int)

theorem settleS_len : ∀ (f : Nat) (fin : Bool) (st : List Int), (settleS f fin st).1.length + (settleS f fin st).2.length = st.length
  | 0, fin, st => by simp [settleS]
  | f + 1, fin, st => by
    simp only [settleS]
    split
    · simp
    · rename_i i h
      have h1 := settleS_len f fin (mergeS st i)
      have h2 := nxt_lt h
      rw [mergeS_length st i h2] at h1
      simp only [List.length_cons]; omega
theorem settle_len (fin : Bool) (st : List Int) : (settle fin st).1.length + (settle fin st).2.length = st.length := settleS_len _ _ _
theorem settleS_ok {M : Int} : ∀ (f : Nat) (fin : Bool) (st : List Int), okS M st → okS M (settleS f fin st).1
  | 0, fin, st, h => h
  | f + 1, fin, st, h => by
    simp only [settleS]
    split
    · exact h
    · rename_i i hi
      exact settleS_ok f fin _ (h.merge (nxt_lt hi))

def PuI (fin : Bool) (st0 ms0 : List Int) (st ms : List Int) : Prop :=
  (settle fin st).1 = (settle fin st0).1 ∧ ms ++ mi (settle fin st).2 = ms0 ++ mi (settle fin st0).2 ∧ okS 1000000000 st ∧ ms.length + st.length ≤ 900

theorem PuI.next {fin : Bool} {st0 ms0 st ms : List Int} {i : Nat} (h : PuI fin st0 ms0 st ms) (hi : nxt st fin = some i) : PuI fin st0 ms0 (mergeS st i) (ms ++ [(i : Int)]) := by
  obtain ⟨h1, h2, h3, h4⟩ := h
  have hlt := nxt_lt hi
  have hs := settle_some hi
  refine ⟨?_, ?_, h3.merge hlt, ?_⟩
  · rw [hs] at h1; exact h1
  · rw [hs] at h2
    rw [← h2]; simp [mi]
  · rw [mergeS_length st i hlt, List.length_append, List.length_singleton]; omega
theorem PuI.stop {fin : Bool} {st0 ms0 st ms : List Int} (h : PuI fin st0 ms0 st ms) (hi : nxt st fin = none) : st = (settle fin st0).1 ∧ ms = ms0 ++ mi (settle fin st0).2 := by
  obtain ⟨h1, h2, h3, h4⟩ := h
  rw [settle_none hi] at h1 h2
  exact ⟨h1, by simpa [mi] using h2⟩

def Nc (st : List Int) : Prop := (3 ≤ st.length ∧ st.getD (st.length - 3) 0 ≤ st.getD (st.length - 1) 0 + st.getD (st.length - 2) 0) ∨ (4 ≤ st.length ∧ st.getD (st.length - 4) 0 ≤ st.getD (st.length - 3) 0 + st.getD (st.length - 2) 0)
theorem nx_a {st : List Int} (h1 : ¬ st.length < 2) (h2 : Nc st) (h3 : ¬ st.getD (st.length - 3) 0 < st.getD (st.length - 1) 0) : nxt st false = some (st.length - 2) := by
  unfold Nc at h2; unfold nxt; rw [if_neg h1, if_neg (by decide), if_pos h2, if_neg h3]
theorem nx_b {st : List Int} (h1 : ¬ st.length < 2) (h2 : Nc st) (h3 : st.getD (st.length - 3) 0 < st.getD (st.length - 1) 0) : nxt st false = some (st.length - 3) := by
  unfold Nc at h2; unfold nxt; rw [if_neg h1, if_neg (by decide), if_pos h2, if_pos h3]
theorem nx_c {st : List Int} (h1 : ¬ st.length < 2) (h2 : ¬ Nc st) (h3 : st.getD (st.length - 2) 0 ≤ st.getD (st.length - 1) 0) : nxt st false = some (st.length - 2) := by
  unfold Nc at h2; unfold nxt; rw [if_neg h1, if_neg (by decide), if_neg h2, if_pos h3]
theorem nx_d {st : List Int} (h1 : ¬ st.length < 2) (h2 : ¬ Nc st) (h3 : ¬ st.getD (st.length - 2) 0 ≤ st.getD (st.length - 1) 0) : nxt st false = none := by
  unfold Nc at h2; unfold nxt; rw [if_neg h1, if_neg (by decide), if_neg h2, if_neg h3]

theorem c_push (v1 v2 : Nat) (st : List Int) (rest : List PV) (ms : List Int) (most c : Int) (hok : okS 1000000000 (st ++ [c])) (hl : st.length ≤ 400) (hm : ms.length ≤ 400) :
    PCE Try.prog 57 [.ptr 0 0 0, .int .i64 c] (RS v1 v2 st rest ms most) (fun r h => r = .tup [] ∧ ∃ v1' v2' rest' most', h = RS v1' v2' (settle false (st ++ [c])).1 rest' (ms ++ mi (settle false (st ++ [c])).2) most') := by
  have b1 : (st.length + 1) * 8 ≤ 140737488355328 := by omega
  have b2 : st.length + 1 ≤ 140737488355328 := by omega
  have d1 : st.length ≤ (ints st ++ rest).length := by rw [List.length_append, ints_length]; omega
  have d2 : (ints st ++ rest).take st.length = ints st := by rw [List.take_append_of_le_length (by rw [ints_length]; exact Nat.le_refl _), take_ints]
  unfold RS
  refine PCE.of_body tok Try.func57 (by kernel_rfl) rfl Try.ntmps57 (by rw [Try.results57]) (by simp) (W_go tok mix [0, 1, 4] (by decide +kernel) rfl ?_)
  simp +decide only [go_sem, Nat.reduceAdd, Nat.reduceSub, Nat.reduceMul]
  simp +decide  only [go_sem, Nat.reduceAdd, Nat.reduceSub, Nat.reduceMul, b1, b2, d1, d2]
  refine LoopJ.of tok mix [0, 1, 4] (fun z : Nat × Nat × List Int × List PV × List Int × Int => ⟨tm [(0, .ptr 0 0 0)], RS z.1 z.2.1 z.2.2.1 z.2.2.2.1 z.2.2.2.2.1 z.2.2.2.2.2, 87⟩)
    (fun z => PuI false (st ++ [c]) ms z.2.2.1 z.2.2.2.2.1) (fun z => z.2.2.1.length) (v1 + 1, v2, st ++ [c], [], ms, if (st.length : Int) + 1 > most then (st.length : Int) + 1 else most) [0, 1, 2] rfl ⟨rfl, rfl, hok, by simp; omega⟩ (by simp +decide [go_sem, ints_append]) (by decide +kernel) rfl ?_
  clear b1 b2 d1 d2
  generalize hst0 : st ++ [c] = st0
  generalize hms0 : ms = ms0
  clear hst0 hms0 hok hl hm
  rintro ⟨v1, v2, st, rest, ms, most⟩ hinv
  have hinv' := hinv
  obtain ⟨j1, j2, j3, j4⟩ := hinv'
  dsimp only at j1 j2 j3 j4
  dsimp only at hinv
  have a1 := j3.get (st.length - 1)
  have a2 := j3.get (st.length - 2)
  have a3 := j3.get (st.length - 3)
  have a4 := j3.get (st.length - 4)
  simp +decide  only [go_sem, Nat.reduceAdd, Nat.reduceSub, Nat.reduceMul]
  by_cases n2 : st.length < 2
  · have hx : nxt st false = none := by unfold nxt; rw [if_pos n2]
    have e2 : ¬ (2 : Int) ≤ st.length := by omega
    simp +decide  only [go_sem, Nat.reduceAdd, Nat.reduceSub, Nat.reduceMul, e2]
    obtain ⟨rfl, rfl⟩ := PuI.stop ⟨j1, j2, j3, j4⟩ hx
    refine Ret.selN [0, 1, 2] rfl (by simp +decide [go_sem]) ?_
    exact ⟨rfl, v1, v2, rest, most, rfl⟩
  · have e2 : (2 : Int) ≤ st.length := by omega
    have w0 : IntKind.i64.wrap (st.getD (st.length - 1) 0 + st.getD (st.length - 2) 0) = st.getD (st.length - 1) 0 + st.getD (st.length - 2) 0 := wrap_in (by omega) (by omega)
    have w1 : IntKind.i64.wrap (st.getD (st.length - 3) 0 + st.getD (st.length - 2) 0) = st.getD (st.length - 3) 0 + st.getD (st.length - 2) 0 := wrap_in (by omega) (by omega)
    by_cases n3 : 3 ≤ st.length
    · have e3 : (3 : Int) ≤ st.length := by omega
      simp +decide  only [go_sem, Nat.reduceAdd, Nat.reduceSub, Nat.reduceMul, e2, e3]
      refine CallJ.of [0, 1, 2] (1) (c_from v1 v2 st rest ms most 3 3 rfl (by omega) (by omega) (by omega)) (by simp +decide [go_sem]) ?_
      rintro _ _ ⟨rfl, rfl⟩
      refine ⟨by simp [go_sem], by simp [go_sem], ?_⟩
      simp +decide  only [go_sem, Nat.reduceAdd, Nat.reduceSub, Nat.reduceMul, e3]
      refine CallJ.of [0, 1, 2] (1) (c_from v1 v2 st rest ms most 1 1 rfl (by omega) (by omega) (by omega)) (by simp +decide [go_sem]) ?_
      rintro _ _ ⟨rfl, rfl⟩
      refine ⟨by simp [go_sem], by simp [go_sem], ?_⟩
      simp +decide  only [go_sem, Nat.reduceAdd, Nat.reduceSub, Nat.reduceMul, e3]
      refine CallJ.of [0, 1, 2] (1) (c_from v1 v2 st rest ms most 2 2 rfl (by omega) (by omega) (by omega)) (by simp +decide [go_sem]) ?_
      rintro _ _ ⟨rfl, rfl⟩
      refine ⟨by simp [go_sem], by simp [go_sem], ?_⟩
      simp +decide  only [go_sem, Nat.reduceAdd, Nat.reduceSub, Nat.reduceMul, e3, w0]
      refine BrJ.ofP (fun k1 => ?_) fun k1 => ?_
      · simp +decide  only [go_sem, Nat.reduceAdd, Nat.reduceSub, Nat.reduceMul, k1]
        refine CallJ.of [0, 1, 2] (1) (c_from v1 v2 st rest ms most 3 3 rfl (by omega) (by omega) (by omega)) (by simp +decide [go_sem]) ?_
        rintro _ _ ⟨rfl, rfl⟩
        refine ⟨by simp [go_sem], by simp [go_sem], ?_⟩
        simp +decide  only [go_sem, Nat.reduceAdd, Nat.reduceSub, Nat.reduceMul, e3]
        refine CallJ.of [0, 1, 2] (1) (c_from v1 v2 st rest ms most 1 1 rfl (by omega) (by omega) (by omega)) (by simp +decide [go_sem]) ?_
        rintro _ _ ⟨rfl, rfl⟩
        refine ⟨by simp [go_sem], by simp [go_sem], ?_⟩
        simp +decide  only [go_sem, Nat.reduceAdd, Nat.reduceSub, Nat.reduceMul, e3]
        refine BrJ.ofP (fun k2 => ?_) fun k2 => ?_
        · have hx := nx_a n2 (.inl ⟨n3, k1⟩) (show ¬ st.getD (st.length - 3) 0 < st.getD (st.length - 1) 0 by omega)
          simp +decide  only [go_sem, Nat.reduceAdd, Nat.reduceSub, Nat.reduceMul, k2, wrap_in (n := ↑st.length - 2) (by omega) (by omega)]
          refine CallJ.of [0, 1, 2] (1) (c_mergeAt v1 v2 st rest ms most ((st.length : Int) - 2) (st.length - 2) (by omega) (by omega) (by omega) (by omega) j3) (by simp +decide [go_sem]) ?_
          rintro _ _ ⟨rfl, rest', rfl⟩
          refine ⟨by simp [go_sem], by simp [go_sem], ?_⟩
          simp +decide  only [go_sem, Nat.reduceAdd, Nat.reduceSub, Nat.reduceMul]
          refine InvJ.mk (v1, v2 + 1, mergeS st (st.length - 2), rest', ms ++ [((st.length - 2 : Nat) : Int)], most) [0, 1, 2] rfl (PuI.next ⟨j1, j2, j3, j4⟩ hx) (by simp only; rw [mergeS_length st (st.length - 2) (by omega)]; omega) ?_
          simp +decide [go_sem]
        · have hx := nx_b n2 (.inl ⟨n3, k1⟩) (show st.getD (st.length - 3) 0 < st.getD (st.length - 1) 0 by omega)
          simp +decide  only [go_sem, Nat.reduceAdd, Nat.reduceSub, Nat.reduceMul, k2, wrap_in (n := ↑st.length - 3) (by omega) (by omega)]
          refine CallJ.of [0, 1, 2] (1) (c_mergeAt v1 v2 st rest ms most ((st.length : Int) - 3) (st.length - 3) (by omega) (by omega) (by omega) (by omega) j3) (by simp +decide [go_sem]) ?_
          rintro _ _ ⟨rfl, rest', rfl⟩
          refine ⟨by simp [go_sem], by simp [go_sem], ?_⟩
          simp +decide  only [go_sem, Nat.reduceAdd, Nat.reduceSub, Nat.reduceMul]
          refine InvJ.mk (v1, v2 + 1, mergeS st (st.length - 3), rest', ms ++ [((st.length - 3 : Nat) : Int)], most) [0, 1, 2] rfl (PuI.next ⟨j1, j2, j3, j4⟩ hx) (by simp only; rw [mergeS_length st (st.length - 3) (by omega)]; omega) ?_
          simp +decide [go_sem]
      · by_cases n4 : 4 ≤ st.length
        · have e4 : (4 : Int) ≤ st.length := by omega
          simp +decide  only [go_sem, Nat.reduceAdd, Nat.reduceSub, Nat.reduceMul, k1, e4]
          refine CallJ.of [0, 1, 2] (1) (c_from v1 v2 st rest ms most 4 4 rfl (by omega) (by omega) (by omega)) (by simp +decide [go_sem]) ?_
          rintro _ _ ⟨rfl, rfl⟩
          refine ⟨by simp [go_sem], by simp [go_sem], ?_⟩
          simp +decide  only [go_sem, Nat.reduceAdd, Nat.reduceSub, Nat.reduceMul, e4]
          refine CallJ.of [0, 1, 2] (1) (c_from v1 v2 st rest ms most 3 3 rfl (by omega) (by omega) (by omega)) (by simp +decide [go_sem]) ?_
          rintro _ _ ⟨rfl, rfl⟩
          refine ⟨by simp [go_sem], by simp [go_sem], ?_⟩
          simp +decide  only [go_sem, Nat.reduceAdd, Nat.reduceSub, Nat.reduceMul, e4]
          refine CallJ.of [0, 1, 2] (1) (c_from v1 v2 st rest ms most 2 2 rfl (by omega) (by omega) (by omega)) (by simp +decide [go_sem]) ?_
          rintro _ _ ⟨rfl, rfl⟩
          refine ⟨by simp [go_sem], by simp [go_sem], ?_⟩
          simp +decide  only [go_sem, Nat.reduceAdd, Nat.reduceSub, Nat.reduceMul, e4, w1]
          refine BrJ.ofP (fun k3 => ?_) fun k3 => ?_
          · simp +decide  only [go_sem, Nat.reduceAdd, Nat.reduceSub, Nat.reduceMul, k3]
            refine CallJ.of [0, 1, 2] (1) (c_from v1 v2 st rest ms most 3 3 rfl (by omega) (by omega) (by omega)) (by simp +decide [go_sem]) ?_
            rintro _ _ ⟨rfl, rfl⟩
            refine ⟨by simp [go_sem], by simp [go_sem], ?_⟩
            simp +decide  only [go_sem, Nat.reduceAdd, Nat.reduceSub, Nat.reduceMul, e3]
            refine CallJ.of [0, 1, 2] (1) (c_from v1 v2 st rest ms most 1 1 rfl (by omega) (by omega) (by omega)) (by simp +decide [go_sem]) ?_
            rintro _ _ ⟨rfl, rfl⟩
            refine ⟨by simp [go_sem], by simp [go_sem], ?_⟩
            simp +decide  only [go_sem, Nat.reduceAdd, Nat.reduceSub, Nat.reduceMul, e3]
            refine BrJ.ofP (fun k2 => ?_) fun k2 => ?_
            · have hx := nx_a n2 (.inr ⟨n4, k3⟩) (show ¬ st.getD (st.length - 3) 0 < st.getD (st.length - 1) 0 by omega)
              simp +decide  only [go_sem, Nat.reduceAdd, Nat.reduceSub, Nat.reduceMul, k2, wrap_in (n := ↑st.length - 2) (by omega) (by omega)]
              refine CallJ.of [0, 1, 2] (1) (c_mergeAt v1 v2 st rest ms most ((st.length : Int) - 2) (st.length - 2) (by omega) (by omega) (by omega) (by omega) j3) (by simp +decide [go_sem]) ?_
              rintro _ _ ⟨rfl, rest', rfl⟩
              refine ⟨by simp [go_sem], by simp [go_sem], ?_⟩
              simp +decide  only [go_sem, Nat.reduceAdd, Nat.reduceSub, Nat.reduceMul]
              refine InvJ.mk (v1, v2 + 1, mergeS st (st.length - 2), rest', ms ++ [((st.length - 2 : Nat) : Int)], most) [0, 1, 2] rfl (PuI.next ⟨j1, j2, j3, j4⟩ hx) (by simp only; rw [mergeS_length st (st.length - 2) (by omega)]; omega) ?_
              simp +decide [go_sem]
            · have hx := nx_b n2 (.inr ⟨n4, k3⟩) (show st.getD (st.length - 3) 0 < st.getD (st.length - 1) 0 by omega)
              simp +decide  only [go_sem, Nat.reduceAdd, Nat.reduceSub, Nat.reduceMul, k2, wrap_in (n := ↑st.length - 3) (by omega) (by omega)]
              refine CallJ.of [0, 1, 2] (1) (c_mergeAt v1 v2 st rest ms most ((st.length : Int) - 3) (st.length - 3) (by omega) (by omega) (by omega) (by omega) j3) (by simp +decide [go_sem]) ?_
              rintro _ _ ⟨rfl, rest', rfl⟩
              refine ⟨by simp [go_sem], by simp [go_sem], ?_⟩
              simp +decide  only [go_sem, Nat.reduceAdd, Nat.reduceSub, Nat.reduceMul]
              refine InvJ.mk (v1, v2 + 1, mergeS st (st.length - 3), rest', ms ++ [((st.length - 3 : Nat) : Int)], most) [0, 1, 2] rfl (PuI.next ⟨j1, j2, j3, j4⟩ hx) (by simp only; rw [mergeS_length st (st.length - 3) (by omega)]; omega) ?_
              simp +decide [go_sem]
          · simp +decide  only [go_sem, Nat.reduceAdd, Nat.reduceSub, Nat.reduceMul, k3]
            refine CallJ.of [0, 1, 2] (1) (c_from v1 v2 st rest ms most 2 2 rfl (by omega) (by omega) (by omega)) (by simp +decide [go_sem]) ?_
            rintro _ _ ⟨rfl, rfl⟩
            refine ⟨by simp [go_sem], by simp [go_sem], ?_⟩
            simp +decide  only [go_sem, Nat.reduceAdd, Nat.reduceSub, Nat.reduceMul, e3]
            refine CallJ.of [0, 1, 2] (1) (c_from v1 v2 st rest ms most 1 1 rfl (by omega) (by omega) (by omega)) (by simp +decide [go_sem]) ?_
            rintro _ _ ⟨rfl, rfl⟩
            refine ⟨by simp [go_sem], by simp [go_sem], ?_⟩
            simp +decide  only [go_sem, Nat.reduceAdd, Nat.reduceSub, Nat.reduceMul, e3]
            refine BrJ.ofP (fun k2 => ?_) fun k2 => ?_
            · have hx := nx_c n2 (fun h => by unfold Nc at h; omega) k2
              simp +decide  only [go_sem, Nat.reduceAdd, Nat.reduceSub, Nat.reduceMul, k2, wrap_in (n := ↑st.length - 2) (by omega) (by omega)]
              refine CallJ.of [0, 1, 2] (1) (c_mergeAt v1 v2 st rest ms most ((st.length : Int) - 2) (st.length - 2) (by omega) (by omega) (by omega) (by omega) j3) (by simp +decide [go_sem]) ?_
              rintro _ _ ⟨rfl, rest', rfl⟩
              refine ⟨by simp [go_sem], by simp [go_sem], ?_⟩
              simp +decide  only [go_sem, Nat.reduceAdd, Nat.reduceSub, Nat.reduceMul]
              refine InvJ.mk (v1, v2 + 1, mergeS st (st.length - 2), rest', ms ++ [((st.length - 2 : Nat) : Int)], most) [0, 1, 2] rfl (PuI.next ⟨j1, j2, j3, j4⟩ hx) (by simp only; rw [mergeS_length st (st.length - 2) (by omega)]; omega) ?_
              simp +decide [go_sem]
            · have hx := nx_d n2 (fun h => by unfold Nc at h; omega) k2
              simp +decide  only [go_sem, Nat.reduceAdd, Nat.reduceSub, Nat.reduceMul, k2]
              obtain ⟨rfl, rfl⟩ := PuI.stop ⟨j1, j2, j3, j4⟩ hx
              refine Ret.sel [0, 1, 2] rfl (by simp +decide [go_sem]) ?_
              exact ⟨rfl, v1, v2, rest, most, rfl⟩
        · have e4 : ¬ (4 : Int) ≤ st.length := by omega
          simp +decide  only [go_sem, Nat.reduceAdd, Nat.reduceSub, Nat.reduceMul, k1, e4]
          refine CallJ.of [0, 1, 2] (1) (c_from v1 v2 st rest ms most 2 2 rfl (by omega) (by omega) (by omega)) (by simp +decide [go_sem]) ?_
          rintro _ _ ⟨rfl, rfl⟩
          refine ⟨by simp [go_sem], by simp [go_sem], ?_⟩
          simp +decide  only [go_sem, Nat.reduceAdd, Nat.reduceSub, Nat.reduceMul, e3]
          refine CallJ.of [0, 1, 2] (1) (c_from v1 v2 st rest ms most 1 1 rfl (by omega) (by omega) (by omega)) (by simp +decide [go_sem]) ?_
          rintro _ _ ⟨rfl, rfl⟩
          refine ⟨by simp [go_sem], by simp [go_sem], ?_⟩
          simp +decide  only [go_sem, Nat.reduceAdd, Nat.reduceSub, Nat.reduceMul, e3]
          refine BrJ.ofP (fun k2 => ?_) fun k2 => ?_
          · have hx := nx_c n2 (fun h => by unfold Nc at h; omega) k2
            simp +decide  only [go_sem, Nat.reduceAdd, Nat.reduceSub, Nat.reduceMul, k2, wrap_in (n := ↑st.length - 2) (by omega) (by omega)]
            refine CallJ.of [0, 1, 2] (1) (c_mergeAt v1 v2 st rest ms most ((st.length : Int) - 2) (st.length - 2) (by omega) (by omega) (by omega) (by omega) j3) (by simp +decide [go_sem]) ?_
            rintro _ _ ⟨rfl, rest', rfl⟩
            refine ⟨by simp [go_sem], by simp [go_sem], ?_⟩
            simp +decide  only [go_sem, Nat.reduceAdd, Nat.reduceSub, Nat.reduceMul]
            refine InvJ.mk (v1, v2 + 1, mergeS st (st.length - 2), rest', ms ++ [((st.length - 2 : Nat) : Int)], most) [0, 1, 2] rfl (PuI.next ⟨j1, j2, j3, j4⟩ hx) (by simp only; rw [mergeS_length st (st.length - 2) (by omega)]; omega) ?_
            simp +decide [go_sem]
          · have hx := nx_d n2 (fun h => by unfold Nc at h; omega) k2
            simp +decide  only [go_sem, Nat.reduceAdd, Nat.reduceSub, Nat.reduceMul, k2]
            obtain ⟨rfl, rfl⟩ := PuI.stop ⟨j1, j2, j3, j4⟩ hx
            refine Ret.sel [0, 1, 2] rfl (by simp +decide [go_sem]) ?_
            exact ⟨rfl, v1, v2, rest, most, rfl⟩
    · have e3 : ¬ (3 : Int) ≤ st.length := by omega
      have e4 : ¬ (4 : Int) ≤ st.length := by omega
      simp +decide  only [go_sem, Nat.reduceAdd, Nat.reduceSub, Nat.reduceMul, e2, e3, e4]
      refine CallJ.of [0, 1, 2] (1) (c_from v1 v2 st rest ms most 2 2 rfl (by omega) (by omega) (by omega)) (by simp +decide [go_sem]) ?_
      rintro _ _ ⟨rfl, rfl⟩
      refine ⟨by simp [go_sem], by simp [go_sem], ?_⟩
      simp +decide  only [go_sem, Nat.reduceAdd, Nat.reduceSub, Nat.reduceMul, e3]
      refine CallJ.of [0, 1, 2] (1) (c_from v1 v2 st rest ms most 1 1 rfl (by omega) (by omega) (by omega)) (by simp +decide [go_sem]) ?_
      rintro _ _ ⟨rfl, rfl⟩
      refine ⟨by simp [go_sem], by simp [go_sem], ?_⟩
      simp +decide  only [go_sem, Nat.reduceAdd, Nat.reduceSub, Nat.reduceMul, e3]
      refine BrJ.ofP (fun k2 => ?_) fun k2 => ?_
      · have hx := nx_c n2 (fun h => by unfold Nc at h; omega) k2
        simp +decide  only [go_sem, Nat.reduceAdd, Nat.reduceSub, Nat.reduceMul, k2, wrap_in (n := ↑st.length - 2) (by omega) (by omega)]
        refine CallJ.of [0, 1, 2] (1) (c_mergeAt v1 v2 st rest ms most ((st.length : Int) - 2) (st.length - 2) (by omega) (by omega) (by omega) (by omega) j3) (by simp +decide [go_sem]) ?_
        rintro _ _ ⟨rfl, rest', rfl⟩
        refine ⟨by simp [go_sem], by simp [go_sem], ?_⟩
        simp +decide  only [go_sem, Nat.reduceAdd, Nat.reduceSub, Nat.reduceMul]
        refine InvJ.mk (v1, v2 + 1, mergeS st (st.length - 2), rest', ms ++ [((st.length - 2 : Nat) : Int)], most) [0, 1, 2] rfl (PuI.next ⟨j1, j2, j3, j4⟩ hx) (by simp only; rw [mergeS_length st (st.length - 2) (by omega)]; omega) ?_
        simp +decide [go_sem]
      · have hx := nx_d n2 (fun h => by unfold Nc at h; omega) k2
        simp +decide  only [go_sem, Nat.reduceAdd, Nat.reduceSub, Nat.reduceMul, k2]
        obtain ⟨rfl, rfl⟩ := PuI.stop ⟨j1, j2, j3, j4⟩ hx
        refine Ret.sel [0, 1, 2] rfl (by simp +decide [go_sem]) ?_
        exact ⟨rfl, v1, v2, rest, most, rfl⟩
end Go.Proofs.Ytaloakmffdejgaa
