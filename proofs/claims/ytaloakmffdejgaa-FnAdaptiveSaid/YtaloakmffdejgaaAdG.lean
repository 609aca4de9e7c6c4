/- All merges of the run stack. -/
import Derived.Test.YtaloakmffdejgaaAdF
set_option linter.unusedSimpArgs false
set_option linter.unusedVariables false
set_option maxRecDepth 100000
set_option maxHeartbeats 8000000
namespace Go.Proofs.Ytaloakmffdejgaa
open Go Go.Fw

theorem settleS_sum : ∀ (f : Nat) (fin : Bool) (st : List Int), (settleS f fin st).1.sum = st.sum
  | 0, fin, st => rfl
  | f + 1, fin, st => by
    simp only [settleS]
    split
    · rfl
    · rename_i i hi
      rw [settleS_sum f fin (mergeS st i), mergeS_sum _ _ (nxt_lt hi)]
theorem settle_sum (fin : Bool) (st : List Int) : (settle fin st).1.sum = st.sum := settleS_sum _ _ _
theorem settle_ok {M : Int} {fin : Bool} {st : List Int} (h : okS M st) : okS M (settle fin st).1 := settleS_ok _ _ _ h

def stepP (s : List Int × List Int) (c : Int) : List Int × List Int := ((settle false (s.1 ++ [c])).1, s.2 ++ mi (settle false (s.1 ++ [c])).2)
def pushes (counts : List Int) : List Int × List Int := counts.foldl stepP ([], [])
def runM (counts : List Int) : List Int := (pushes counts).2 ++ mi (settle true (pushes counts).1).2

theorem mi_length (l : List Nat) : (mi l).length = l.length := by simp [mi]
theorem sum_app (a b : List Int) : (a ++ b).sum = a.sum + b.sum := by simp [List.sum_append]

theorem pushes_inv : ∀ (cs : List Int), (∀ c ∈ cs, 0 ≤ c) → (pushes cs).1.length + (pushes cs).2.length = cs.length ∧ (∀ x ∈ (pushes cs).1, 0 ≤ x) ∧ (pushes cs).1.sum = cs.sum := by
  have key : ∀ (cs : List Int) (s : List Int × List Int), (∀ c ∈ cs, 0 ≤ c) → (∀ x ∈ s.1, 0 ≤ x) → (cs.foldl stepP s).1.length + (cs.foldl stepP s).2.length = s.1.length + s.2.length + cs.length ∧ (∀ x ∈ (cs.foldl stepP s).1, 0 ≤ x) ∧ (cs.foldl stepP s).1.sum = s.1.sum + cs.sum := by
    intro cs
    induction cs with
    | nil => intro s _ h; simp; exact h
    | cons c cs ih =>
      intro s hc hs
      rw [List.foldl_cons]
      have h0 : ∀ x ∈ s.1 ++ [c], 0 ≤ x := fun x hx => by
        rcases List.mem_append.1 hx with h | h
        · exact hs x h
        · rw [List.mem_singleton.1 h]; exact hc c (by simp)
      have h1 := (settle_ok (M := (s.1 ++ [c]).sum) (fin := false) ⟨h0, Int.le_refl _⟩).1
      have h2 := settle_len false (s.1 ++ [c])
      have h3 := settle_sum false (s.1 ++ [c])
      rw [sum_app] at h3
      obtain ⟨q1, q2, q3⟩ := ih (stepP s c) (fun x hx => hc x (by simp [hx])) h1
      refine ⟨?_, q2, ?_⟩
      · rw [q1]
        simp only [stepP, List.length_append, mi_length, List.length_cons, List.length_nil] at h2 ⊢
        omega
      · rw [q3]
        simp only [stepP, List.sum_cons, List.sum_nil] at h3 ⊢
        omega
  intro cs h
  obtain ⟨q1, q2, q3⟩ := key cs ([], []) h (by simp)
  exact ⟨by unfold pushes; rw [q1]; simp, q2, by unfold pushes; rw [q3]; simp⟩

theorem pushes_snoc (cs : List Int) (c : Int) : pushes (cs ++ [c]) = stepP (pushes cs) c := by unfold pushes; rw [List.foldl_append]; rfl

theorem nx_e {st : List Int} (h1 : ¬ st.length < 2) (h2 : 3 ≤ st.length ∧ st.getD (st.length - 3) 0 < st.getD (st.length - 1) 0) : nxt st true = some (st.length - 3) := by
  unfold nxt; rw [if_neg h1, if_pos rfl, if_pos h2]
theorem nx_f {st : List Int} (h1 : ¬ st.length < 2) (h2 : ¬ (3 ≤ st.length ∧ st.getD (st.length - 3) 0 < st.getD (st.length - 1) 0)) : nxt st true = some (st.length - 2) := by
  unfold nxt; rw [if_neg h1, if_pos rfl, if_neg h2]

theorem sum_take {cs : List Int} (h : ∀ c ∈ cs, 0 ≤ c) (i : Nat) : (cs.take i).sum ≤ cs.sum := by
  have e : cs.sum = (cs.take i).sum + (cs.drop i).sum := by rw [← sum_app, List.take_append_drop]
  have : 0 ≤ (cs.drop i).sum := (sum_get (cs.drop i) 0 fun x hx => h x (List.mem_of_mem_drop hx)).2.2
  omega

theorem c_runMerges (q : Nat) (cs : List Int) (hl : cs.length ≤ 300) (hc : okS 1000000000 cs) :
    PCE Try.prog 58 [.vz q cs.length (ints cs)] [] (fun r h => ∃ (ver : Nat) (most : Int), r = .tup [.sl 0 ver 1 0 (runM cs).length, .int .i64 most] ∧ h = [⟨ver, 0, true, ints (runM cs)⟩]) := by
  refine PCE.of_body tok Try.func58 (by kernel_rfl) rfl Try.ntmps58 (by rw [Try.results58]) (by simp) (W_go tok mix [0, 2, 3, 4, 6, 7, 11, 12, 13] (by decide +kernel) rfl ?_)
  simp +decide only [go_sem, Nat.reduceAdd, Nat.reduceSub, Nat.reduceMul]
  refine LoopQ.ghost [true] [(2, .nils), (3, .int .i64 0), (4, .ptr 1 0 0), (11, .vz q cs.length (ints cs)), (12, .int .i64 cs.length), (13, .int .i64 0)] [⟨0, 0, true, []⟩, ⟨0, 1, false, [.sl 2 0 1 0 0, .sl 0 0 1 0 0, .int .i64 0]⟩] (by simp +decide [go_sem]) ?_
  simp +decide  only [go_sem, Nat.reduceAdd, Nat.reduceSub, Nat.reduceMul]
  refine LoopJ.of tok mix [0, 2, 3, 4, 6, 7, 11, 12, 13] (fun z : Nat × Nat × Nat × List PV × Int => ⟨tm [(2, .nils), (3, .int .i64 0), (4, .ptr 0 0 0), (11, .vz q cs.length (ints cs)), (12, .int .i64 cs.length), (13, .int .i64 z.1)], RS z.2.1 z.2.2.1 (pushes (cs.take z.1)).1 z.2.2.2.1 (pushes (cs.take z.1)).2 z.2.2.2.2, 57⟩)
    (fun z => z.1 ≤ cs.length) (fun z => cs.length - z.1) (0, 0, 0, [], 0) [1, 2, 0] rfl (Nat.zero_le _) (by simp +decide [go_sem, pushes]) (by decide +kernel) (by decide +kernel) ?_
  rintro ⟨i, v1, v2, rest, most⟩ i1
  dsimp only at i1
  obtain ⟨p1, p2, p3⟩ := pushes_inv (cs.take i) fun c hx => hc.1 c (List.mem_of_mem_take hx)
  have p4 := sum_take hc.1 i
  have p5 := hc.2
  rw [List.length_take, Nat.min_eq_left i1] at p1
  simp +decide  only [go_sem, Nat.reduceAdd, Nat.reduceSub, Nat.reduceMul]
  refine BrJ.ofP (fun g1 => ?_) fun g1 => ?_
  · have g1' : i < cs.length := by omega
    have c0 : (0 : Int) ≤ i := by omega
    have hok : okS 1000000000 ((pushes (cs.take i)).1 ++ [cs.getD i 0]) := by
      have hm := hc.1 (cs.getD i 0) (by simp [List.getD, g1'])
      have e : (cs.take i).sum + cs.getD i 0 = (cs.take (i + 1)).sum := by
        rw [List.take_add_one, sum_app]; simp [List.getD, g1']
      have := sum_take hc.1 (i + 1)
      refine ⟨fun x hx => ?_, by rw [sum_app]; simp only [List.sum_cons, List.sum_nil]; omega⟩
      rcases List.mem_append.1 hx with h | h
      · exact p2 x h
      · rw [List.mem_singleton.1 h]; exact hm
    have enext : pushes (cs.take (i + 1)) = stepP (pushes (cs.take i)) (cs.getD i 0) := by
      rw [List.take_add_one, show cs[i]?.toList = [cs.getD i 0] by simp [List.getD, g1'], pushes_snoc]
    simp +decide  only [go_sem, Nat.reduceAdd, Nat.reduceSub, Nat.reduceMul, g1, c0, ints_get _ _ g1']
    refine CallJ.of [0, 1, 2] (q + 1) (c_push v1 v2 (pushes (cs.take i)).1 rest (pushes (cs.take i)).2 most (cs.getD i 0) hok (by omega) (by omega)) (by simp +decide [go_sem]) ?_
    rintro _ _ ⟨rfl, v1', v2', rest', most', rfl⟩
    refine ⟨by simp [go_sem], by simp [go_sem], ?_⟩
    simp +decide  only [go_sem, Nat.reduceAdd, Nat.reduceSub, Nat.reduceMul, wrap_in (n := ↑i + 1) (by omega) (by omega)]
    refine InvJ.mk (i + 1, v1', v2', rest', most') [0, 1, 2] rfl (by simp only; omega) (by simp only; omega) ?_
    simp only [enext, stepP]
    simp +decide [go_sem]
  · have : i = cs.length := by omega
    subst this
    rw [List.take_length] at p1 p2 p3 ⊢
    simp +decide  only [go_sem, Nat.reduceAdd, Nat.reduceSub, Nat.reduceMul, g1]
    refine LoopJ.of tok mix [0, 2, 3, 4, 6, 7, 11, 12, 13] (fun z : Nat × Nat × List Int × List PV × List Int × Int => ⟨tm [(2, .nils), (3, .int .i64 0), (4, .ptr 0 0 0)], RS z.1 z.2.1 z.2.2.1 z.2.2.2.1 z.2.2.2.2.1 z.2.2.2.2.2, 57⟩)
      (fun z => PuI true (pushes cs).1 (pushes cs).2 z.2.2.1 z.2.2.2.2.1) (fun z => z.2.2.1.length) (v1, v2, (pushes cs).1, rest, (pushes cs).2, most) [0, 1, 2] rfl ⟨rfl, rfl, ⟨p2, by simp only; rw [p3]; exact p5⟩, by simp only; omega⟩ (by simp +decide [go_sem]) (by decide +kernel) (by decide +kernel) ?_
    rintro ⟨v1, v2, st, rest, ms, most⟩ hinv
    have hinv' := hinv
    obtain ⟨j1, j2, j3, j4⟩ := hinv'
    dsimp only at j1 j2 j3 j4
    dsimp only at hinv
    have a1 := j3.get (st.length - 1)
    have a2 := j3.get (st.length - 2)
    have a3 := j3.get (st.length - 3)
    simp +decide  only [go_sem, Nat.reduceAdd, Nat.reduceSub, Nat.reduceMul]
    by_cases n2 : st.length < 2
    · have hx : nxt st true = none := by unfold nxt; rw [if_pos n2]
      have e2 : ¬ (2 : Int) ≤ st.length := by omega
      obtain ⟨rfl, rfl⟩ := PuI.stop ⟨j1, j2, j3, j4⟩ hx
      simp +decide  only [go_sem, Nat.reduceAdd, Nat.reduceSub, Nat.reduceMul, e2]
      refine Ret.sel [2] rfl (by simp +decide [go_sem]) ?_
      exact ⟨v2, most, rfl, rfl⟩
    · have e2 : (2 : Int) ≤ st.length := by omega
      by_cases n3 : 3 ≤ st.length
      · have e3 : (3 : Int) ≤ st.length := by omega
        simp +decide  only [go_sem, Nat.reduceAdd, Nat.reduceSub, Nat.reduceMul, e2, e3]
        refine CallJ.of [0, 1, 2] (q + 1) (c_from v1 v2 st rest ms most 3 3 rfl (by omega) (by omega) (by omega)) (by simp +decide [go_sem]) ?_
        rintro _ _ ⟨rfl, rfl⟩
        refine ⟨by simp [go_sem], by simp [go_sem], ?_⟩
        simp +decide  only [go_sem, Nat.reduceAdd, Nat.reduceSub, Nat.reduceMul, e3]
        refine CallJ.of [0, 1, 2] (q + 1) (c_from v1 v2 st rest ms most 1 1 rfl (by omega) (by omega) (by omega)) (by simp +decide [go_sem]) ?_
        rintro _ _ ⟨rfl, rfl⟩
        refine ⟨by simp [go_sem], by simp [go_sem], ?_⟩
        simp +decide  only [go_sem, Nat.reduceAdd, Nat.reduceSub, Nat.reduceMul, e3]
        refine BrJ.ofP (fun k2 => ?_) fun k2 => ?_
        · have hx := nx_e n2 ⟨n3, k2⟩
          simp +decide  only [go_sem, Nat.reduceAdd, Nat.reduceSub, Nat.reduceMul, k2, wrap_in (n := ↑st.length - 3) (by omega) (by omega)]
          refine CallJ.of [0, 1, 2] (q + 1) (c_mergeAt v1 v2 st rest ms most ((st.length : Int) - 3) (st.length - 3) (by omega) (by omega) (by omega) (by omega) j3) (by simp +decide [go_sem]) ?_
          rintro _ _ ⟨rfl, rest', rfl⟩
          refine ⟨by simp [go_sem], by simp [go_sem], ?_⟩
          simp +decide  only [go_sem, Nat.reduceAdd, Nat.reduceSub, Nat.reduceMul]
          refine InvJ.mk (v1, v2 + 1, mergeS st (st.length - 3), rest', ms ++ [((st.length - 3 : Nat) : Int)], most) [0, 1, 2] rfl (PuI.next ⟨j1, j2, j3, j4⟩ hx) (by simp only; rw [mergeS_length st (st.length - 3) (by omega)]; omega) ?_
          simp +decide [go_sem]
        · have hx := nx_f n2 (fun h => k2 h.2)
          simp +decide  only [go_sem, Nat.reduceAdd, Nat.reduceSub, Nat.reduceMul, k2, wrap_in (n := ↑st.length - 2) (by omega) (by omega)]
          refine CallJ.of [0, 1, 2] (q + 1) (c_mergeAt v1 v2 st rest ms most ((st.length : Int) - 2) (st.length - 2) (by omega) (by omega) (by omega) (by omega) j3) (by simp +decide [go_sem]) ?_
          rintro _ _ ⟨rfl, rest', rfl⟩
          refine ⟨by simp [go_sem], by simp [go_sem], ?_⟩
          simp +decide  only [go_sem, Nat.reduceAdd, Nat.reduceSub, Nat.reduceMul]
          refine InvJ.mk (v1, v2 + 1, mergeS st (st.length - 2), rest', ms ++ [((st.length - 2 : Nat) : Int)], most) [0, 1, 2] rfl (PuI.next ⟨j1, j2, j3, j4⟩ hx) (by simp only; rw [mergeS_length st (st.length - 2) (by omega)]; omega) ?_
          simp +decide [go_sem]
      · have e3 : ¬ (3 : Int) ≤ st.length := by omega
        have hx := nx_f n2 (fun h => n3 h.1)
        simp +decide  only [go_sem, Nat.reduceAdd, Nat.reduceSub, Nat.reduceMul, e2, e3, wrap_in (n := ↑st.length - 2) (by omega) (by omega)]
        refine CallJ.of [0, 1, 2] (q + 1) (c_mergeAt v1 v2 st rest ms most ((st.length : Int) - 2) (st.length - 2) (by omega) (by omega) (by omega) (by omega) j3) (by simp +decide [go_sem]) ?_
        rintro _ _ ⟨rfl, rest', rfl⟩
        refine ⟨by simp [go_sem], by simp [go_sem], ?_⟩
        simp +decide  only [go_sem, Nat.reduceAdd, Nat.reduceSub, Nat.reduceMul]
        refine InvJ.mk (v1, v2 + 1, mergeS st (st.length - 2), rest', ms ++ [((st.length - 2 : Nat) : Int)], most) [0, 1, 2] rfl (PuI.next ⟨j1, j2, j3, j4⟩ hx) (by simp only; rw [mergeS_length st (st.length - 2) (by omega)]; omega) ?_
        simp +decide [go_sem]
end Go.Proofs.Ytaloakmffdejgaa
