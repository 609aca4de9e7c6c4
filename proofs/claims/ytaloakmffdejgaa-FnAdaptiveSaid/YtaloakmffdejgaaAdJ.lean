/- Adaptive sort, walked. -/
import Derived.Test.YtaloakmffdejgaaAdI
import Derived.Test.YtaloakmffdejgaaFwT
set_option linter.unusedSimpArgs false
set_option linter.unusedVariables false
set_option maxRecDepth 100000
set_option maxHeartbeats 8000000
namespace Go.Proofs.Ytaloakmffdejgaa
open Go Go.Fw

def AdΦ (L : List Rc) (r : PV) (h : List Blk) : Prop :=
  (okRs L = false ∧ r = .tup [.nils, .int .i64 0, .bool false] ∧ h = []) ∨
  (okRs L = true ∧ (adaptP (partsOf L)).1 = [] ∧ r = .tup [.sl 0 0 2 0 0, .int .i64 0, .bool true] ∧ h = [⟨0, 0, true, []⟩]) ∨
  (okRs L = true ∧ ∃ p rest, (adaptP (partsOf L)).1 = p :: rest ∧ r = .tup [.vz 0 p.length (fl rc p), .int .i64 (adaptP (partsOf L)).2, .bool true] ∧ h = [])

theorem c_AdaptiveSort (q : Nat) (L : List Rc) (hn : L.length ≤ 1000) : PCE Try.prog 12 [.vz q L.length (fl rc L)] [] (AdΦ L) := by
  refine PCE.of_body tok Try.func12 (by kernel_rfl) rfl Try.ntmps12 (by rw [Try.results12]) (by simp) (W_go tok mix [0, 2, 3, 4, 5, 6, 7, 9, 10, 11, 12, 13, 14, 15, 16, 17, 26, 27, 28, 71, 72, 73] (by decide +kernel) rfl ?_)
  simp +decide only [go_sem, Nat.reduceAdd, Nat.reduceSub, Nat.reduceMul]
  refine CallJ.of0 q (c_IsValidRecords q L hn) (by simp +decide [go_sem]) ?_
  rintro _ _ ⟨rfl, rfl⟩
  rw [show (decide (L.length ≤ 64) && L.all okR) = okRs L from rfl]
  refine ⟨by simp [go_sem], by simp [go_sem], ?_⟩
  cases hok : okRs L
  · simp +decide  only [go_sem, Nat.reduceAdd, Nat.reduceSub, Nat.reduceMul]
    refine Ret.sel [] rfl (by simp +decide [go_sem]) ?_
    exact .inl ⟨hok, rfl, rfl⟩
  have hl : L.length ≤ 64 := by
    unfold okRs at hok
    simp only [Bool.and_eq_true, decide_eq_true_eq] at hok
    exact hok.1
  simp +decide  only [go_sem, Nat.reduceAdd, Nat.reduceSub, Nat.reduceMul]
  refine CallJ.of0 q (c_runsI q L hn) (by simp +decide [go_sem]) ?_
  rintro _ _ ⟨vr, hrl, rfl, rfl⟩
  refine ⟨by simp [go_sem], by simp [go_sem], ?_⟩
  simp +decide  only [go_sem, Nat.reduceAdd, Nat.reduceSub, Nat.reduceMul]
  have hPl : (partsOf L).length = (runsOf L).length := by simp [partsOf]
  refine LoopJ.of tok mix [0, 2, 3, 4, 5, 6, 7, 9, 10, 11, 12, 13, 14, 15, 16, 17, 26, 27, 28, 71, 72, 73] (fun z : Nat × Nat × Nat => ⟨tm [(0, .vz q L.length (fl rc L)), (2, .nils), (3, .int .i64 0), (4, .bool false), (5, .sl 0 z.2.1 1 0 z.1), (6, .sl 1 z.2.2 1 0 z.1), (7, .ptr 3 0 0), (26, .sl 4 vr 2 0 (runsOf L).length), (27, .int .i64 (runsOf L).length), (28, .int .i64 z.1)],
      [⟨z.2.1, 0, true, ints (lens ((partsOf L).take z.1))⟩, ⟨z.2.2, 0, true, vzs ((partsOf L).take z.1)⟩, ⟨0, 0, true, []⟩, ⟨0, 1, false, [.sl 2 0 1 0 0]⟩, ⟨vr, 0, true, fl rc (runsOf L)⟩], 110⟩)
    (fun z => z.1 ≤ (runsOf L).length) (fun z => (runsOf L).length - z.1) (0, 0, 0) [0, 1, 2, 3, 4] rfl (Nat.zero_le _) (by simp +decide [go_sem, lens, vzs]) (by decide +kernel) (by decide +kernel) ?_
  rintro ⟨i, vc, vp⟩ i1
  dsimp only at i1
  simp +decide  only [go_sem, Nat.reduceAdd, Nat.reduceSub, Nat.reduceMul]
  refine BrJ.ofP (fun g1 => ?_) fun g1 => ?_
  · have g1' : i < (runsOf L).length := by omega
    have c0 : (0 : Int) ≤ i := by omega
    have c1 : i * 2 + 2 ≤ (runsOf L).length * 2 := by omega
    obtain ⟨a, m, hr, hm1, hm2⟩ := runs_ok L g1'
    have d0 : (0 : Int) ≤ a := by omega
    have d1 : (0 : Int) ≤ (a : Int) + m := by omega
    have d2 : ((a : Int) + m).toNat = a + m := by omega
    have d3 : a + m - a = m := by omega
    have d4 : a ≤ a + m := by omega
    have hpart : (partsOf L).getD i default = partOf L ((a : Int), (m : Int)) := by
      rw [← hr]
      simp [partsOf, List.getD, g1']
    have hg : i < (partsOf L).length := by omega
    have hti : ((partsOf L).take i).length = i := by simp; omega
    have e1 : (ints (lens ((partsOf L).take i))).length = i := by rw [ints_length, lens_length, hti]
    have e2 : (ints (lens ((partsOf L).take i))).take i = ints (lens ((partsOf L).take i)) := by rw [List.take_of_length_le]; rw [e1]; exact Nat.le_refl _
    have e3 : (vzs ((partsOf L).take i)).length = i := by rw [vzs_length, hti]
    have e4 : (vzs ((partsOf L).take i)).take i = vzs ((partsOf L).take i) := by rw [List.take_of_length_le]; rw [e3]; exact Nat.le_refl _
    have b1 : (i + 1) * 8 ≤ 140737488355328 := by omega
    have b2 : i + 1 ≤ 140737488355328 := by omega
    have b3 : (i + 1) * 24 ≤ 140737488355328 := by omega
    have hcl := cutR_length L a m hm2
    have hnext : ∀ p : List Rc, partOf L ((a : Int), (m : Int)) = p → p.length = m ∧ ints (lens ((partsOf L).take (i + 1))) = ints (lens ((partsOf L).take i)) ++ [.int .i64 m] ∧ vzs ((partsOf L).take (i + 1)) = vzs ((partsOf L).take i) ++ [.vz 0 m (fl rc p)] := by
      intro p hp
      have hpl : p.length = m := by rw [← hp]; exact partOf_length L a m hm2
      rw [take_snoc hg, hpart, hp]
      refine ⟨hpl, ?_, ?_⟩
      · rw [lens_snoc, ints_append, hpl]; rfl
      · rw [vzs_append]
        congr 1
        simp [vzs, vzp, hpl]
    have hdef : partOf L ((a : Int), (m : Int)) = if 1 < (m : Int) ∧ ((cutR L a m).getD 1 default).1 < ((cutR L a m).getD 0 default).1 then (cutR L a m).reverse else cutR L a m := rfl
    simp +decide  only [go_sem, Nat.reduceAdd, Nat.reduceSub, Nat.reduceMul, g1, c0, c1, rks_length, rks_at _ _ g1', hr, wrap_in (n := ↑a + ↑m) (by omega) (by omega), d0, d1, d2, d3, d4, hm2, rks_cut, Nat.le_refl]
    refine CallJ.of [] (q + 1) (c_copyR q (cutR L a m) (by omega)) (by simp +decide [go_sem, hcl]) ?_
    rintro _ _ ⟨rfl, rfl⟩
    refine ⟨by simp [go_sem], by simp [go_sem], ?_⟩
    have r0 : (fl rc (cutR L a m))[0]? = some (.int .i64 ((cutR L a m).getD 0 default).1) := rks_0 _ 0 (by omega)
    generalize cutR L a m = p at *
    clear d0 d1 d2 d3 d4
    simp +decide  only [go_sem, Nat.reduceAdd, Nat.reduceSub, Nat.reduceMul, hcl]
    have m0 : (0 : Int) < m := by omega
    refine BrJ.ofP (fun k1 => ?_) fun k1 => ?_
    · have r1 : (fl rc p)[2]? = some (.int .i64 (p.getD 1 default).1) := rks_0 p 1 (by omega)
      simp +decide  only [go_sem, Nat.reduceAdd, Nat.reduceSub, Nat.reduceMul, k1, m0, r0, r1, Int.toNat_one, Int.toNat_zero]
      refine BrJ.ofP (fun k2 => ?_) fun k2 => ?_
      · obtain ⟨n1, n2, n3⟩ := hnext p.reverse (by rw [hdef, if_pos ⟨k1, k2⟩])
        have hrl : (fl rc p.reverse).take (m * 2) = fl rc p.reverse := by rw [← n1, take_rks]
        simp +decide  only [go_sem, Nat.reduceAdd, Nat.reduceSub, Nat.reduceMul, k1, k2]
        refine CallJ.of [6] (q + 1) (c_ReverseR 0 (by decide) 1 m p hcl (by omega)) (by simp +decide [go_sem, hcl]) ?_
        rintro _ _ ⟨rfl, rfl⟩
        refine ⟨by simp [go_sem], by simp [go_sem], ?_⟩
        simp +decide  only [go_sem, Nat.reduceAdd, Nat.reduceSub, Nat.reduceMul, e1, e2, e3, e4, b1, b2, b3, hrl, wrap_in (n := ↑i + 1) (by omega) (by omega), Nat.le_refl]
        refine InvJ.mk (i + 1, vc + 1, vp + 1) [0, 1, 2, 3, 4] rfl (by simp only; omega) (by simp only; omega) ?_
        simp only [n2, n3]
        simp +decide [go_sem]
      · obtain ⟨n1, n2, n3⟩ := hnext p (by rw [hdef, if_neg fun h => k2 h.2])
        have hrl : (fl rc p).take (m * 2) = fl rc p := by rw [← n1, take_rks]
        simp +decide  only [go_sem, Nat.reduceAdd, Nat.reduceSub, Nat.reduceMul, k1, k2]
        simp +decide  only [go_sem, Nat.reduceAdd, Nat.reduceSub, Nat.reduceMul, e1, e2, e3, e4, b1, b2, b3, hrl, wrap_in (n := ↑i + 1) (by omega) (by omega), Nat.le_refl]
        refine InvJ.mk (i + 1, vc + 1, vp + 1) [0, 1, 2, 3, 4] rfl (by simp only; omega) (by simp only; omega) ?_
        simp only [n2, n3]
        simp +decide [go_sem]
    · obtain ⟨n1, n2, n3⟩ := hnext p (by rw [hdef, if_neg fun h => k1 h.1])
      have hrl : (fl rc p).take (m * 2) = fl rc p := by rw [← n1, take_rks]
      simp +decide  only [go_sem, Nat.reduceAdd, Nat.reduceSub, Nat.reduceMul, k1]
      simp +decide  only [go_sem, Nat.reduceAdd, Nat.reduceSub, Nat.reduceMul, e1, e2, e3, e4, b1, b2, b3, hrl, wrap_in (n := ↑i + 1) (by omega) (by omega), Nat.le_refl]
      refine InvJ.mk (i + 1, vc + 1, vp + 1) [0, 1, 2, 3, 4] rfl (by simp only; omega) (by simp only; omega) ?_
      simp only [n2, n3]
      simp +decide [go_sem]
  · have hi : i = (partsOf L).length := by omega
    subst hi
    have ht := parts_tot L
    have hPP : (partsOf L).length ≤ 64 := by omega
    unfold AdΦ
    rw [List.take_length]
    generalize partsOf L = PP at *
    simp +decide  only [go_sem, Nat.reduceAdd, Nat.reduceSub, Nat.reduceMul, g1]
    refine LoopQ.ghost [true, true] [(2, .nils), (3, .int .i64 0), (4, .bool false), (5, .sl 0 vc 1 0 PP.length), (6, .sl 1 vp 1 0 PP.length), (7, .ptr 3 0 0), (11, .ptr 6 0 0), (12, .ptr 7 0 0), (14, .fn 54 [.ptr 6 0 0, .ptr 8 0 0, .ptr 3 0 0, .ptr 7 0 0]), (71, .sl 0 vc 1 0 PP.length), (72, .int .i64 PP.length), (73, .int .i64 0)]
      [⟨vc, 0, true, ints (lens PP)⟩, ⟨vp, 0, true, vzs PP⟩, ⟨0, 0, true, []⟩, ⟨0, 1, false, [.sl 2 0 1 0 0]⟩, ⟨vr, 0, true, fl rc (runsOf L)⟩, ⟨0, 1, false, [.sl 9 0 1 0 0, .sl 10 0 1 0 0, .int .i64 0]⟩, ⟨0, 1, false, [.ptr 5 0 0]⟩, ⟨0, 1, false, [.int .i64 0]⟩, ⟨0, 1, false, [.int .i64 0]⟩] (by simp +decide [go_sem]) ?_
    simp +decide  only [go_sem, Nat.reduceAdd, Nat.reduceSub, Nat.reduceMul]
    refine LoopJ.ofX tok mix [17] [0, 2, 3, 4, 5, 6, 7, 9, 10, 11, 12, 13, 14, 15, 16, 17, 26, 27, 28, 71, 72, 73] (fun z : Nat × Nat × Nat × Nat × List PV × List PV × Int => ⟨tm [(2, .nils), (3, .int .i64 0), (4, .bool false), (5, .sl 8 vc 1 0 PP.length), (6, .sl 9 vp 1 0 PP.length), (7, .ptr 2 0 0), (11, .ptr 0 0 0), (12, .ptr 3 0 0), (14, .fn 54 [.ptr 0 0 0, .ptr 1 0 0, .ptr 2 0 0, .ptr 3 0 0]), (71, .sl 8 vc 1 0 PP.length), (72, .int .i64 PP.length), (73, .int .i64 z.1)],
        FH z.2.1 z.2.2.1 z.2.2.2.1 (pushA (PP.take z.1)).1.1.length (ints (pushA (PP.take z.1)).1.1 ++ z.2.2.2.2.1) (pushA (PP.take z.1)).1.2 z.2.2.2.2.2.2 (pushA (PP.take z.1)).1.2.length (pushA (PP.take z.1)).2.1 z.2.2.2.2.2.1 (pushA (PP.take z.1)).2.2 ++ [⟨vc, 0, true, ints (lens PP)⟩, ⟨vp, 0, true, vzs PP⟩], 110⟩)
      (fun z => z.1 ≤ PP.length) (fun z => PP.length - z.1) (0, 0, 0, 0, [], [], 0) [6, 8, 3, 7, 5, 2, 10, 9, 0, 1] rfl (Nat.zero_le _) (by simp +decide [go_sem, pushA, vzs]) (by decide +kernel) (by decide +kernel) ?_
    rintro ⟨i, v1, v2, vq, rest', rest, most⟩ i1
    dsimp only at i1
    clear g1
    obtain ⟨q1, q2, q3⟩ := pushA_bound (PP.take i)
    obtain ⟨q4, q5⟩ := pushA_inv (PP.take i)
    have q6 := tot_take PP i
    have hti : (PP.take i).length = i := by simp; omega
    rw [hti] at q2
    have q7 : (pushA (PP.take i)).1.2.length * tot (PP.take i) ≤ 64 * 64 := Nat.mul_le_mul (by omega) (by omega)
    have q8 : (pushA (PP.take i)).1.1.length = (pushA (PP.take i)).2.1.length := by rw [q4, lens_length]
    generalize hz : pushA (PP.take i) = z at *
    obtain ⟨⟨st, ms⟩, P, c⟩ := z
    dsimp only at q1 q2 q3 q4 q5 q7 q8
    simp +decide  only [go_sem, Nat.reduceAdd, Nat.reduceSub, Nat.reduceMul]
    refine BrJ.ofP (fun g1 => ?_) fun g1 => ?_
    · have g1' : i < PP.length := by omega
      have c0 : (0 : Int) ≤ i := by omega
      have hpp : PP.getD i [] = PP.getD i default := rfl
      have enext : pushA (PP.take (i + 1)) = stepA ((st, ms), P, c) (PP.getD i []) := by
        rw [take_snoc g1', pushA_snoc, hz]; rfl
      have htn : tot P + (PP.getD i []).length ≤ 64 := by
        have := tot_take PP (i + 1)
        rw [take_snoc g1', tot_app, tot_cons, ← q1] at this
        rw [hpp]; omega
      have hlg : (lens PP).getD i 0 = ((PP.getD i []).length : Int) := lens_get PP i
      have gv : (vzs PP)[i]? = some (.vz 0 (PP.getD i []).length (fl rc (PP.getD i []))) := by
        have := vzs_get PP [] i g1'
        simpa using this
      have gi : (ints (lens PP))[i]? = some (.int .i64 ((PP.getD i []).length : Int)) := by
        rw [ints_get _ _ (by rw [lens_length]; exact g1'), hlg]
      generalize PP.getD i [] = p at *
      have d1 : P.length ≤ (vzs P ++ rest).length := by rw [List.length_append, vzs_length]; omega
      have d2 : (vzs P ++ rest).take P.length = vzs P := by rw [List.take_append_of_le_length (by rw [vzs_length]; exact Nat.le_refl _), take_vzs]
      have b1 : (P.length + 1) * 24 ≤ 140737488355328 := by omega
      have b2 : P.length + 1 ≤ 140737488355328 := by omega
      have hsn : vzs P ++ [.vz 0 p.length (fl rc p)] = vzs (P ++ [p]) := by rw [vzs_append]; rfl
      have hst : st ++ [(p.length : Int)] = lens (P ++ [p]) := by rw [lens_snoc, q4]
      have hso : okS 1000000000 (st ++ [(p.length : Int)]) := by rw [hst]; exact lens_ok _ (by rw [tot_app, tot_cons]; simp [tot] at *; omega)
      have hsp := settle_parts false (P ++ [p], c)
      dsimp only at hsp
      rw [← hst] at hsp
      have hsl := settle_len false (st ++ [(p.length : Int)])
      rw [List.length_append, List.length_singleton] at hsl
      simp +decide  only [go_sem, Nat.reduceAdd, Nat.reduceSub, Nat.reduceMul, g1, c0, gi, gv, b1, b2, d1, d2, hsn]
      refine RegQ.rsv [true] ?_
      simp +decide  only [go_sem, Nat.reduceAdd, Nat.reduceSub, Nat.reduceMul]
      refine RegQ.of tok mix [(83, 10)] [] (sq [0, 1, 2, 3, 4, 5, 6, 7] .nil) (fun _ : Unit => ⟨tm [(2, .nils), (3, .int .i64 0), (4, .bool false), (5, .sl 8 vc 1 0 PP.length), (6, .sl 9 vp 1 0 PP.length), (7, .ptr 2 0 0), (11, .ptr 0 0 0), (12, .ptr 3 0 0), (14, .fn 54 [.ptr 0 0 0, .ptr 1 0 0, .ptr 2 0 0, .ptr 3 0 0]), (71, .sl 8 vc 1 0 PP.length), (72, .int .i64 PP.length), (73, .int .i64 i), (16, .int .i64 p.length)],
        FH v1 v2 (vq + 1) st.length (ints st ++ rest') ms most ms.length (P ++ [p]) [] c ++ [⟨vc, 0, true, ints (lens PP)⟩, ⟨vp, 0, true, vzs PP⟩], 110⟩) (fun _ => True) (by decide +kernel) (by kernel_rfl) ?_ ?_
      · simp +decide  only [go_sem, Nat.reduceAdd, Nat.reduceSub, Nat.reduceMul, g1, c0, gi, gv, b1, b2, d1, d2, hsn]
        refine RgJ.mk () [0, 1, 2, 3, 4, 5, 6, 7, 8, 9] rfl trivial ?_
        simp +decide [go_sem]
      rintro ⟨⟩ _
      simp +decide  only [go_sem, Nat.reduceAdd, Nat.reduceSub, Nat.reduceMul]
      refine CallJ.of [4, 7, 6] (1) (c_push v1 v2 st rest' ms most p.length hso (by omega) (by omega)) (by simp +decide [go_sem]) ?_
      rintro _ _ ⟨rfl, v1', v2', r2, most', rfl⟩
      refine ⟨by simp [go_sem], by simp [go_sem], ?_⟩
      simp +decide  only [go_sem, Nat.reduceAdd, Nat.reduceSub, Nat.reduceMul]
      generalize hks : (settle false (st ++ [(p.length : Int)])).2 = ks at *
      generalize hst' : (settle false (st ++ [(p.length : Int)])).1 = st' at *
      have hfo : FoI ks 0 (P ++ [p], c) := by
        refine ⟨hsp.1, ?_, ?_, ?_⟩
        · rw [tot_app, tot_cons]; simp [tot] at *; omega
        · simp; omega
        · show c ≤ _; omega
      refine CallJ.of [0, 1, 2, 3, 4, 5, 6, 7] (1) (c_follow v1' v2' (vq + 1) st'.length (ints st' ++ r2) ms ks most' (P ++ [p]) [] c hfo (by omega) (by omega)) (by simp +decide [go_sem, List.append_nil]) ?_
      rintro _ _ ⟨rfl, vp', rest2, rfl⟩
      refine ⟨by simp [go_sem], by simp [go_sem], ?_⟩
      simp +decide  only [go_sem, Nat.reduceAdd, Nat.reduceSub, Nat.reduceMul, wrap_in (n := ↑i + 1) (by omega) (by omega)]
      refine InvJ.mk (i + 1, v1', v2', vp', r2, rest2, most') [0, 1, 2, 3, 4, 5, 6, 7, 8, 9] rfl (by simp only; omega) (by simp only; omega) ?_
      simp only [enext]
      simp +decide [go_sem, stepA, stepP, hks, hst']
    · have hi : i = PP.length := by omega
      subst hi
      rw [List.take_length] at hz q1 q3 q5 q7
      have hll : (lens PP).length = PP.length := lens_length PP
      have hcr := c_runMerges 1 (lens PP) (by omega) (lens_ok PP (by omega))
      have hrm : runM (lens PP) = ms ++ mi (settle true st).2 := by unfold runM; rw [← q5]
      rw [hll, hrm] at hcr
      have e1 : (ints (lens PP)).length = PP.length := by rw [ints_length, hll]
      have e2 : (ints (lens PP)).take PP.length = ints (lens PP) := by rw [← e1, List.take_length]
      have hsp := settle_parts true (P, c)
      dsimp only at hsp
      rw [← q4] at hsp
      have hsl := settle_len true st
      have hA : adaptP PP = (settle true st).2.foldl applyM (P, c) := by unfold adaptP; rw [hz]
      generalize hks : (settle true st).2 = ks at *
      have hfo : FoI ks 0 (P, c) := by
        refine ⟨hsp.1, ?_, ?_, ?_⟩
        · show tot P ≤ 200; omega
        · show P.length ≤ 300; omega
        · show c ≤ _; omega
      simp +decide  only [go_sem, Nat.reduceAdd, Nat.reduceSub, Nat.reduceMul, g1]
      refine CallJ.of [] (1) (hcr) (by simp +decide [go_sem, e2]) ?_
      rintro _ _ ⟨ver, mx, rfl, rfl⟩
      refine ⟨by simp [go_sem], by simp [go_sem], ?_⟩
      simp +decide  only [go_sem, Nat.reduceAdd, Nat.reduceSub, Nat.reduceMul]
      refine CallJ.of [0, 1, 2, 3, 4, 5, 10, 7] (1) (c_follow v1 ver vq st.length (ints st ++ rest') ms ks most P rest c hfo (by omega) (by omega)) (by simp +decide [go_sem]) ?_
      rintro _ _ ⟨rfl, vp', rest2, rfl⟩
      refine ⟨by simp [go_sem], by simp [go_sem], ?_⟩
      rw [← hA]
      simp +decide  only [go_sem, Nat.reduceAdd, Nat.reduceSub, Nat.reduceMul]
      refine BrJ.ofP (fun g2 => ?_) fun g2 => ?_
      · have hn0 : (adaptP PP).1 = [] := List.eq_nil_of_length_eq_zero (by omega)
        simp +decide  only [go_sem, Nat.reduceAdd, Nat.reduceSub, Nat.reduceMul, g2]
        refine Ret.sel [11] rfl (by simp +decide [go_sem]) ?_
        exact .inr (.inl ⟨hok, hn0, rfl, rfl⟩)
      · cases hA1 : (adaptP PP).1 with
        | nil => rw [hA1] at g2; simp at g2
        | cons p rest3 =>
          have hb : c ≤ 4096 := by omega
          have h0 : (0 : Int) < ((rest3.length + 1 : Nat) : Int) := by omega
          simp +decide  only [go_sem, Nat.reduceAdd, Nat.reduceSub, Nat.reduceMul, g2, hA1, h0, Int.toNat_zero, vzs, List.map_cons, List.cons_append, List.getElem?_cons_zero, vzp]
          refine Ret.sel [] rfl (by simp +decide [go_sem]) ?_
          exact .inr (.inr ⟨hok, p, rest3, rfl, rfl, rfl⟩)
end Go.Proofs.Ytaloakmffdejgaa
