/- The law's own adaptive sort, walked. -/
import Derived.Test.YtaloakmffdejgaaAdK
set_option linter.unusedSimpArgs false
set_option linter.unusedVariables false
set_option maxRecDepth 100000
set_option maxHeartbeats 8000000
namespace Go.Proofs.Ytaloakmffdejgaa
open Go Go.Fw

def S5 (PP : List (List Rc)) (i : Nat) : List (List Rc) × Nat := if i ≤ PP.length then (pushA (PP.take i)).2 else adaptP PP

theorem S5_le {PP : List (List Rc)} {i : Nat} (h : i ≤ PP.length) : S5 PP i = (pushA (PP.take i)).2 := if_pos h
theorem S5_next {PP : List (List Rc)} {i : Nat} (h : i < PP.length) : S5 PP (i + 1) = (settle false (lens ((S5 PP i).1 ++ [PP.getD i []]))).2.foldl applyM ((S5 PP i).1 ++ [PP.getD i []], (S5 PP i).2) := by
  rw [S5_le (by omega), S5_le (by omega), take_snoc h, pushA_snoc, lens_snoc, ← (pushA_inv _).1]
  rfl
theorem S5_last (PP : List (List Rc)) : S5 PP (PP.length + 1) = (settle true (lens (S5 PP PP.length).1)).2.foldl applyM (S5 PP PP.length) := by
  rw [S5_le (Nat.le_refl _), List.take_length, ← (pushA_inv _).1, S5, if_neg (by omega)]
  rfl
theorem S5_bound {PP : List (List Rc)} {i : Nat} (h : i ≤ PP.length) (hl : PP.length ≤ 64) (ht : tot PP ≤ 64) : tot (S5 PP i).1 ≤ 64 ∧ (S5 PP i).1.length ≤ 64 ∧ (S5 PP i).2 ≤ 4096 := by
  rw [S5_le h]
  obtain ⟨q1, q2, q3⟩ := pushA_bound (PP.take i)
  have q6 := tot_take PP i
  have hti : (PP.take i).length = i := by simp; omega
  have q7 : (pushA (PP.take i)).1.2.length * tot (PP.take i) ≤ 64 * 64 := Nat.mul_le_mul (by omega) (by omega)
  omega

theorem rev_get (L : List Rc) (a m k : Nat) (hm : a + m ≤ L.length) (hk : k < m) : L.getD (a + m - 1 - k) default = (cutR L a m).reverse.getD k default := by
  have hl := cutR_length L a m hm
  simp only [List.getD]
  rw [List.getElem?_reverse (by omega), hl]
  unfold cutR
  rw [List.getElem?_take, if_pos (by omega), List.getElem?_drop]
  congr 2
  omega
theorem rev_step (R C : List Rc) (k : Nat) (h : k < R.length) (hl : C.length = R.length) : (R.take k ++ C.drop k).set k (R.getD k default) = R.take (k + 1) ++ C.drop (k + 1) := by
  have hs : (R.take k).length = k := by simp; omega
  rw [List.set_append_right _ _ (by omega), hs, Nat.sub_self, drop_cons (l := C) (by omega), List.set_cons_zero, take_snoc h, List.append_assoc]
  rfl
theorem rks_1 (rs : List Rc) (i : Nat) (h : i < rs.length) : (fl rc rs)[i * 2 + 1]? = some (.int .i64 (rs.getD i default).2) := by
  have := fl_cell rc 2 rc2 rs i 1 default h (by omega); simpa [rc] using this

theorem c_specAdaptive (q : Nat) (L : List Rc) (hn : L.length ≤ 1000) : PCE Try.prog 32 [.vz q L.length (fl rc L)] [] (fun r h => ∃ (vv : Nat) (out : List Rc), r = .tup [.sl 0 vv 2 0 out.length, .int .i64 (if okRs L = true then ((adaptP (partsOf L)).2 : Int) else 0), .bool (okRs L)] ∧ h = [⟨vv, 0, true, fl rc out⟩] ∧ out = if okRs L = true then (adaptP (partsOf L)).1.getD 0 [] else []) := by
  refine PCE.of_body tok Try.func32 (by kernel_rfl) rfl Try.ntmps32 (by rw [Try.results32]) (by simp) (W_go tok mix [0, 2, 3, 4, 5, 6, 7, 8, 9, 10, 11, 12, 13, 14] (by decide +kernel) rfl ?_)
  simp +decide only [go_sem, Nat.reduceAdd, Nat.reduceSub, Nat.reduceMul]
  refine CallJ.of0 q (c_l2Records q L hn) (by simp +decide [go_sem]) ?_
  rintro _ _ ⟨rfl, rfl⟩
  rw [show (decide (L.length ≤ 64) && L.all okR) = okRs L from rfl]
  refine ⟨by simp [go_sem], by simp [go_sem], ?_⟩
  cases hok : okRs L
  · simp +decide  only [go_sem, Nat.reduceAdd, Nat.reduceSub, Nat.reduceMul]
    refine Ret.sel [0] rfl (by simp +decide [go_sem]) ?_
    exact ⟨0, [], rfl, rfl, rfl⟩
  have hl : L.length ≤ 64 := by
    unfold okRs at hok
    simp only [Bool.and_eq_true, decide_eq_true_eq] at hok
    exact hok.1
  simp +decide  only [go_sem, Nat.reduceAdd, Nat.reduceSub, Nat.reduceMul]
  refine CallJ.of0 q (c_runsS q L hn) (by simp +decide [go_sem]) ?_
  rintro _ _ ⟨vr, hrl, rfl, rfl⟩
  refine ⟨by simp [go_sem], by simp [go_sem], ?_⟩
  simp +decide  only [go_sem, Nat.reduceAdd, Nat.reduceSub, Nat.reduceMul]
  have hPl : (partsOf L).length = (runsOf L).length := by simp [partsOf]
  have ht := parts_tot L
  refine LoopJ.ofX tok mix [11, 24, 25] [0, 2, 3, 4, 5, 6, 7, 8, 9, 10, 11, 12, 13, 14] (fun z : Nat × Nat × Nat => ⟨tm [(0, .vz q L.length (fl rc L)), (2, .nils), (3, .int .i64 0), (4, .bool false), (5, .sl 2 vr 2 0 (runsOf L).length), (6, .sl 0 z.2.1 1 0 (S5 (partsOf L) z.1).1.length), (7, .sl 1 z.2.2 1 0 (S5 (partsOf L) z.1).1.length), (8, .int .i64 (S5 (partsOf L) z.1).2), (9, .int .i64 z.1)],
      [⟨z.2.1, 0, true, vzs (S5 (partsOf L) z.1).1⟩, ⟨z.2.2, 0, true, ints (lens (S5 (partsOf L) z.1).1)⟩, ⟨vr, 0, true, fl rc (runsOf L)⟩], 169⟩)
    (fun z => z.1 ≤ (runsOf L).length + 1) (fun z => (runsOf L).length + 1 - z.1) (0, 0, 0) [1, 2, 0] rfl (Nat.zero_le _) (by simp +decide [go_sem, S5, pushA, lens, vzs]) (by decide +kernel) (by decide +kernel) ?_
  rintro ⟨i, va, vb⟩ i1
  dsimp only at i1
  simp +decide  only [go_sem, Nat.reduceAdd, Nat.reduceSub, Nat.reduceMul]
  have hPP : (partsOf L).length ≤ 64 := by omega
  have hpt : tot (partsOf L) ≤ 64 := by omega
  refine BrJ.ofP (fun g0 => ?_) fun g0 => ?_
  · have g0' : i ≤ (partsOf L).length := by omega
    obtain ⟨b1, b2, b3⟩ := S5_bound g0' hPP hpt
    simp +decide  only [go_sem, Nat.reduceAdd, Nat.reduceSub, Nat.reduceMul, g0]
    refine BrJ.ofP (fun g1 => ?_) fun g1 => ?_
    · have g1' : i < (runsOf L).length := by omega
      have g1'' : i < (partsOf L).length := by omega
      have enext := S5_next g1''
      have c0 : (0 : Int) ≤ i := by omega
      have c1 : i * 2 + 2 ≤ (runsOf L).length * 2 := by omega
      obtain ⟨a, m, hr, hm1, hm2⟩ := runs_ok L g1'
      have d0 : (0 : Int) ≤ a := by omega
      have d1 : (0 : Int) ≤ (a : Int) + m := by omega
      have d2 : ((a : Int) + m).toNat = a + m := by omega
      have d3 : a + m - a = m := by omega
      have d4 : a ≤ a + m := by omega
      have hpart : (partsOf L).getD i [] = partOf L ((a : Int), (m : Int)) := by
        rw [← hr]
        simp [partsOf, List.getD, g1']
      rw [hpart] at enext
      have hcl := cutR_length L a m hm2
      have hpl := partOf_length L a m hm2
      have hdef : partOf L ((a : Int), (m : Int)) = if 1 < (m : Int) ∧ ((cutR L a m).getD 1 default).1 < ((cutR L a m).getD 0 default).1 then (cutR L a m).reverse else cutR L a m := rfl
      have r0 : (fl rc (runsOf L))[i * 2]? = some (.int .i64 (a : Int)) := by rw [rks_0 _ _ g1', hr]
      have r1 : (fl rc (runsOf L))[i * 2 + 1]? = some (.int .i64 (m : Int)) := by rw [rks_1 _ _ g1', hr]
      generalize hS : S5 (partsOf L) i = z at *
      obtain ⟨P, c⟩ := z
      dsimp only at b1 b2 b3
      simp +decide  only [go_sem, Nat.reduceAdd, Nat.reduceSub, Nat.reduceMul, g1]
      refine RegQ.rsv [true] ?_
      simp +decide  only [go_sem, Nat.reduceAdd, Nat.reduceSub, Nat.reduceMul]
      refine RegQ.of tok mix [(33, 3)] [] (sq [0, 1, 2, 3, 4, 5, 6, 7, 8, 9, 10, 11, 12, 13, 14, 15, 16, 17, 18, 19, 20] .nil) (fun _ : Unit => ⟨tm [(0, .vz q L.length (fl rc L)), (2, .nils), (3, .int .i64 0), (4, .bool false), (5, .sl 2 vr 2 0 (runsOf L).length), (6, .sl 0 va 1 0 P.length), (7, .sl 1 vb 1 0 P.length), (8, .int .i64 c), (9, .int .i64 i), (10, .sl 3 2 2 0 m)],
        [⟨va, 0, true, vzs P⟩, ⟨vb, 0, true, ints (lens P)⟩, ⟨vr, 0, true, fl rc (runsOf L)⟩, ⟨2, 0, true, fl rc (cutR L a m)⟩], 169⟩) (fun _ => True) (by decide +kernel) (by kernel_rfl) ?_ ?_
      · have hz : m * 16 ≤ 140737488355328 := by omega
        have hz2 : m ≤ 140737488355328 := by omega
        simp +decide  only [go_sem, Nat.reduceAdd, Nat.reduceSub, Nat.reduceMul, g1, c0, c1, r0, r1, rks_length, wrap_in (n := ↑a + ↑m) (by omega) (by omega), d0, d1, d2, d3, d4, hm2, rks_cut, hcl, Nat.le_refl, rks_one, hz, hz2]
        refine RgJ.mk () [0, 1, 2, 3] rfl trivial ?_
        simp +decide [go_sem]
      rintro ⟨⟩ _
      have m0 : (0 : Int) < m := by omega
      have t0 := rks_0 (cutR L a m) 0 (by omega)
      rw [Nat.zero_mul] at t0
      simp +decide  only [go_sem, Nat.reduceAdd, Nat.reduceSub, Nat.reduceMul]
      refine BrJ.ofP (fun k1 => ?_) fun k1 => ?_
      · have t1 := rks_0 (cutR L a m) 1 (by omega)
        rw [Nat.one_mul] at t1
        simp +decide  only [go_sem, Nat.reduceAdd, Nat.reduceSub, Nat.reduceMul, k1, m0, t0, t1, Int.toNat_one, Int.toNat_zero, hcl]
        refine BrJ.ofP (fun k2 => ?_) fun k2 => ?_
        · simp +decide  only [go_sem, Nat.reduceAdd, Nat.reduceSub, Nat.reduceMul, k2]
          have hrl : (cutR L a m).reverse.length = m := by rw [List.length_reverse, hcl]
          refine LoopJ.ofX tok mix [] [0, 2, 3, 4, 5, 6, 7, 8, 9, 10, 11, 12, 13, 14] (fun z : Nat => ⟨tm [(0, .vz q L.length (fl rc L)), (2, .nils), (3, .int .i64 0), (4, .bool false), (5, .sl 2 vr 2 0 (runsOf L).length), (6, .sl 0 va 1 0 P.length), (7, .sl 1 vb 1 0 P.length), (8, .int .i64 c), (9, .int .i64 i), (10, .sl 3 2 2 0 m), (11, .int .i64 z)],
              [⟨va, 0, true, vzs P⟩, ⟨vb, 0, true, ints (lens P)⟩, ⟨vr, 0, true, fl rc (runsOf L)⟩, ⟨2, 0, true, fl rc ((cutR L a m).reverse.take z ++ (cutR L a m).drop z)⟩], 169⟩)
            (fun z => z ≤ m) (fun z => m - z) 0 [0, 1, 2, 3] rfl (Nat.zero_le _) (by simp +decide [go_sem]) (by decide +kernel) (by kernel_rfl) ?_
          intro j j1
          have hXl : ((cutR L a m).reverse.take j ++ (cutR L a m).drop j).length = m := by simp [hcl]; omega
          simp +decide  only [go_sem, Nat.reduceAdd, Nat.reduceSub, Nat.reduceMul]
          refine BrJ.ofP (fun j2 => ?_) fun j2 => ?_
          · have j2' : j < m := by omega
            have j3 : (0 : Int) ≤ j := by omega
            have j4 : (0 : Int) ≤ (a : Int) + m - 1 - j := by omega
            have j5 : (a : Int) + m - 1 - j < L.length := by omega
            have j6 : ((a : Int) + m - 1 - j).toNat = a + m - 1 - j := by omega
            have j7 : ((fl rc L).drop ((a + m - 1 - j) * 2)).take 2 = rc ((cutR L a m).reverse.getD j default) := by rw [rks_at _ _ (by omega), rev_get L a m j hm2 j2']
            have j8 : j * 2 + 2 ≤ (fl rc ((cutR L a m).reverse.take j ++ (cutR L a m).drop j)).length := by rw [rks_length, hXl]; omega
            have j9 : spl (fl rc ((cutR L a m).reverse.take j ++ (cutR L a m).drop j)) (j * 2) [.int .i64 ((cutR L a m).reverse.getD j default).1, .int .i64 ((cutR L a m).reverse.getD j default).2] = fl rc ((cutR L a m).reverse.take (j + 1) ++ (cutR L a m).drop (j + 1)) := by
              rw [rks_set _ _ _ (by omega), rev_step _ _ _ (by omega) (by omega)]
            have ja : (a + m - 1 - j) * 2 + 2 ≤ L.length * 2 := by omega
            have jb : j * 2 + 2 ≤ m * 2 := by omega
            simp +decide  only [go_sem, Nat.reduceAdd, Nat.reduceSub, Nat.reduceMul, g1, jb, j2, j3, j4, j5, j6, j7, j8, j9, ja, c0, c1, r0, r1, rks_length, hXl, wrap_in (n := ↑a + ↑m) (by omega) (by omega), wrap_in (n := ↑a + ↑m - 1) (by omega) (by omega), wrap_in (n := ↑a + ↑m - 1 - ↑j) (by omega) (by omega), wrap_in (n := ↑j + 1) (by omega) (by omega), rc]
            refine InvJ.mk (j + 1) [0, 1, 2, 3] rfl (by show j + 1 ≤ m; omega) (by show m - (j + 1) < m - j; omega) ?_
            simp +decide [go_sem]
          · have hX : (cutR L a m).reverse.take j ++ (cutR L a m).drop j = (cutR L a m).reverse := by
              rw [List.drop_of_length_le (by omega), List.append_nil, List.take_of_length_le (by omega)]
            rw [hX]
            rw [if_pos ⟨k1, k2⟩] at hdef
            rw [hdef] at enext hpl
            clear hdef
            generalize hpx : (cutR L a m).reverse = p at *
            have e1 : (vzs P).length = P.length := vzs_length P
            have e2 : (vzs P).take P.length = vzs P := take_vzs P
            have e3 : (ints (lens P)).length = P.length := by rw [ints_length, lens_length]
            have e4 : (ints (lens P)).take P.length = ints (lens P) := by rw [← e3, List.take_length]
            have hsn : vzs P ++ [.vz 0 m (fl rc p)] = vzs (P ++ [p]) := by rw [vzs_append]; unfold vzs vzp; rw [List.map_cons, hpl]; rfl
            have hsl : ints (lens P) ++ [.int .i64 (m : Int)] = ints (lens (P ++ [p])) := by rw [lens_snoc, ints_append, hpl]; rfl
            have tk : (fl rc p).take (m * 2) = fl rc p := by rw [← hpl, take_rks]
            have f1 : (P.length + 1) * 24 ≤ 140737488355328 := by omega
            have f2 : P.length + 1 ≤ 140737488355328 := by omega
            have f3 : (P.length + 1) * 8 ≤ 140737488355328 := by omega
            have hPl1 : (P ++ [p]).length = P.length + 1 := by simp
            have hll : (lens (P ++ [p])).length = P.length + 1 := by rw [lens_length, hPl1]
            have e5 : (ints (lens (P ++ [p]))).take (P.length + 1) = ints (lens (P ++ [p])) := by rw [← hll, ← ints_length, List.take_length]
            have ht1 : tot (P ++ [p]) ≤ 200 := by rw [tot_app, tot_cons, hpl]; simp only [tot, List.map_nil, List.sum_nil] at *; omega
            have hn5 := c_next5 1 (lens (P ++ [p])) false (lens_ok _ (by omega)) (by omega)
            rw [hll] at hn5
            have hne : ¬ (i : Int) = (runsOf L).length := by omega
            have hI1 := ht1
            have hI2 : (P ++ [p]).length ≤ 100 := by omega
            have hI3 : c + 200 * (P ++ [p]).length ≤ 40000 := by omega
            simp +decide  only [go_sem, Nat.reduceAdd, Nat.reduceSub, Nat.reduceMul, j2, e1, e2, e3, e4, f1, f2, f3, hsn, hsl, tk, hne, Nat.le_refl]
            refine CallJ.of [] (1) (hn5) (by simp +decide [go_sem, e5]) ?_
            rintro _ _ ⟨rfl, rfl⟩
            refine ⟨by simp [go_sem], by simp [go_sem], ?_⟩
            simp +decide  only [go_sem, Nat.reduceAdd, Nat.reduceSub, Nat.reduceMul]
            refine LoopJ.ofX tok mix [24, 25] [0, 2, 3, 4, 5, 6, 7, 8, 9, 10, 11, 12, 13, 14] (fun z : List (List Rc) × Nat × Nat × Nat => ⟨tm [(0, .vz q L.length (fl rc L)), (2, .nils), (3, .int .i64 0), (4, .bool false), (5, .sl 2 vr 2 0 (runsOf L).length), (6, .sl 0 z.2.2.1 1 0 z.1.length), (7, .sl 1 z.2.2.2 1 0 z.1.length), (8, .int .i64 z.2.1), (9, .int .i64 i), (12, .int .i64 (nxtI (lens z.1) false))],
                [⟨z.2.2.1, 0, true, vzs z.1⟩, ⟨z.2.2.2, 0, true, ints (lens z.1)⟩, ⟨vr, 0, true, fl rc (runsOf L)⟩], 169⟩)
              (fun z => (settle false (lens z.1)).2.foldl applyM (z.1, z.2.1) = S5 (partsOf L) (i + 1) ∧ tot z.1 ≤ 200 ∧ z.1.length ≤ 100 ∧ z.2.1 + 200 * z.1.length ≤ 40000) (fun z => z.1.length) (P ++ [p], c, va + 1, vb + 1) [0, 1, 2] rfl ⟨enext.symm, hI1, hI2, hI3⟩ (by simp +decide [go_sem, hPl1]) (by decide +kernel) (by kernel_rfl) ?_
            rintro ⟨P2, c2, v1, v2⟩ ⟨i2, i3, i4, i5⟩
            dsimp only at i2 i3 i4 i5
            simp +decide  only [go_sem, Nat.reduceAdd, Nat.reduceSub, Nat.reduceMul]
            cases hnk : nxt (lens P2) false with
            | some k =>
              have hnx : nxtI (lens P2) false = (k : Int) := by unfold nxtI; rw [hnk]; rfl
              have hlt := nxt_lt hnk
              rw [lens_length] at hlt
              rw [settle_some hnk] at i2
              rw [show mergeS (lens P2) k = lens (applyM (P2, c2) k).1 from (lens_applyM (P2, c2) k).symm] at i2
              replace i2 : (settle false (lens (applyM (P2, c2) k).1)).2.foldl applyM (applyM (P2, c2) k) = S5 (partsOf L) (i + 1) := i2
              have htot := tot_get P2 _ hlt
              have hmn := mergeN_le (P2.getD k []) (P2.getD (k + 1) [])
              have w0 : (0 : Int) ≤ k := by omega
              have w1 : (k : Int) < P2.length := by omega
              have w2 : (0 : Int) ≤ (k : Int) + 1 := by omega
              have w3 : (k : Int) + 1 < P2.length := by omega
              have w4 : ((k : Int) + 1).toNat = k + 1 := by omega
              have w5 : (0 : Int) ≤ (k : Int) + 2 := by omega
              have w6 : ((k : Int) + 2).toNat = k + 2 := by omega
              have w7 : k + 2 ≤ P2.length := by omega
              have w8 : k ≤ P2.length := by omega
              have v0 : (vzs P2)[k]? = some (.vz 0 (P2.getD k []).length (fl rc (P2.getD k []))) := by simpa using vzs_get P2 [] k (by omega)
              have v3 : (vzs P2)[k + 1]? = some (.vz 0 (P2.getD (k + 1) []).length (fl rc (P2.getD (k + 1) []))) := by simpa using vzs_get P2 [] (k + 1) hlt
              have hal := applyM_len (P2, c2) k hlt
              have hat := applyM_tot (P2, c2) k hlt
              have hac : (applyM (P2, c2) k).2 = c2 + mergeN (P2.getD k []) (P2.getD (k + 1) []) := rfl
              dsimp only at hal hat
              simp +decide  only [go_sem, Nat.reduceAdd, Nat.reduceSub, Nat.reduceMul, hnx, w0, w1, w2, w3, w4, wrap_in (n := ↑k + 1) (by omega) (by omega), v0, v3, List.drop_zero]
              refine CallJ.of [] (1) (c_mergeS 0 0 (P2.getD k []) (P2.getD (k + 1) []) (by omega)) (by simp +decide [go_sem]) ?_
              rintro _ _ ⟨ver, rfl, rfl⟩
              refine ⟨by simp [go_sem], by simp [go_sem], ?_⟩
              simp +decide  only [go_sem, Nat.reduceAdd, Nat.reduceSub, Nat.reduceMul, wrap_in (n := ↑c2 + ↑(mergeN (P2.getD k []) (P2.getD (k + 1) []))) (by omega) (by omega)]
              refine RegQ.freeze 13 (x' := .vz 0 (mergeR (P2.getD k []) (P2.getD (k + 1) [])).length (fl rc (mergeR (P2.getD k []) (P2.getD (k + 1) []))))
                (h' := [⟨v1, 0, true, vzs P2⟩, ⟨v2, 0, true, ints (lens P2)⟩, ⟨vr, 0, true, fl rc (runsOf L)⟩, ⟨ver, 2, true, fl rc (mergeR (P2.getD k []) (P2.getD (k + 1) []))⟩]) (by simp +decide [go_sem, closeV, take_rks]) ?_
              simp +decide  only [go_sem, Nat.reduceAdd, Nat.reduceSub, Nat.reduceMul]
              refine RegQ.rsv [true, true] ?_
              simp +decide  only [go_sem, Nat.reduceAdd, Nat.reduceSub, Nat.reduceMul]
              generalize hM : mergeR (P2.getD k []) (P2.getD (k + 1) []) = M at *
              generalize hN : mergeN (P2.getD k []) (P2.getD (k + 1) []) = N at *
              have hA1 : (applyM (P2, c2) k).1 = P2.take k ++ M :: P2.drop (k + 2) := by rw [← hM]; rfl
              generalize hP3 : (applyM (P2, c2) k).1 = P3 at *
              have x1 : k + 1 + (P2.length - (k + 2)) = P2.length - 1 := by omega
              have x3 : k + 2 + (P2.length - (k + 2)) = P2.length := by omega
              have y1 : (vzs P2).take k = vzs (P2.take k) := by unfold vzs; rw [List.map_take]
              have y2 : (vzs (P2.take k)).length = k := by rw [vzs_length, List.length_take]; omega
              have y3 : (vzs (P2.take k)).take k = vzs (P2.take k) := by rw [List.take_of_length_le (by omega)]
              have y4 : vzs (P2.take k) ++ [.vz 0 M.length (fl rc M)] = vzs (P2.take k ++ [M]) := by rw [vzs_append]; rfl
              have y5 : (vzs (P2.take k ++ [M])).length = k + 1 := by rw [vzs_length, List.length_append, List.length_take, List.length_singleton]; omega
              have y6 : (vzs (P2.take k ++ [M])).take (k + 1) = vzs (P2.take k ++ [M]) := by rw [List.take_of_length_le (by omega)]
              have y7 : ((vzs P2).drop (k + 2)).take (P2.length - (k + 2)) = vzs (P2.drop (k + 2)) := by
                rw [List.take_of_length_le (by rw [List.length_drop, vzs_length]; exact Nat.le_refl _)]; unfold vzs; rw [List.map_drop]
              have y8 : vzs (P2.take k ++ [M]) ++ vzs (P2.drop (k + 2)) = vzs P3 := by rw [← vzs_append, hA1, List.append_assoc]; rfl
              have z1 : (ints (lens P2)).take k = ints (lens (P2.take k)) := by unfold ints lens; rw [List.map_take, List.map_take]
              have z2 : (ints (lens (P2.take k))).length = k := by rw [ints_length, lens_length, List.length_take]; omega
              have z3 : (ints (lens (P2.take k))).take k = ints (lens (P2.take k)) := by rw [List.take_of_length_le (by omega)]
              have z4 : ints (lens (P2.take k)) ++ [.int .i64 (M.length : Int)] = ints (lens (P2.take k ++ [M])) := by rw [lens_snoc, ints_append]; rfl
              have z5 : (ints (lens (P2.take k ++ [M]))).length = k + 1 := by rw [ints_length, lens_length, List.length_append, List.length_take, List.length_singleton]; omega
              have z6 : (ints (lens (P2.take k ++ [M]))).take (k + 1) = ints (lens (P2.take k ++ [M])) := by rw [List.take_of_length_le (by omega)]
              have z7 : ((ints (lens P2)).drop (k + 2)).take (P2.length - (k + 2)) = ints (lens (P2.drop (k + 2))) := by
                rw [List.take_of_length_le (by rw [List.length_drop, ints_length, lens_length]; exact Nat.le_refl _)]; unfold ints lens; rw [List.map_drop, List.map_drop]
              have z8 : ints (lens (P2.take k ++ [M])) ++ ints (lens (P2.drop (k + 2))) = ints (lens P3) := by rw [← ints_append, hA1]; unfold lens; rw [← List.map_append, List.append_assoc]; rfl
              have z9 : (ints (lens P2)).length = P2.length := by rw [ints_length, lens_length]
              have n1 : k * 24 ≤ 140737488355328 := by omega
              have n2 : (k + 1) * 24 ≤ 140737488355328 := by omega
              have n3 : (P2.length - 1) * 24 ≤ 140737488355328 := by omega
              have n4 : k * 8 ≤ 140737488355328 := by omega
              have n5 : (k + 1) * 8 ≤ 140737488355328 := by omega
              have n6 : (P2.length - 1) * 8 ≤ 140737488355328 := by omega
              have n7 : k ≤ 140737488355328 := by omega
              have n8 : k + 1 ≤ 140737488355328 := by omega
              have n9 : P2.length - 1 ≤ 140737488355328 := by omega
              refine RegQ.of tok mix [(132, 4), (138, 5)] [4, 6] (.alt (sq [0, 1, 2, 3, 4, 5, 6, 7, 8, 9, 10, 11, 12, 13] .nil) (sq [0, 1, 2, 3, 5, 6, 4, 7, 8, 9, 10, 11, 12, 13] .nil))
                (fun _ : Unit => ⟨tm [(0, .vz q L.length (fl rc L)), (2, .nils), (3, .int .i64 0), (4, .bool false), (5, .sl 2 vr 2 0 (runsOf L).length), (6, .sl 0 4 1 0 (P2.length - 1)), (7, .sl 1 v2 1 0 P2.length), (8, .int .i64 (c2 + N)), (9, .int .i64 i), (12, .int .i64 k), (13, .vz 0 M.length (fl rc M))],
                  [⟨4, 0, true, vzs P3⟩, ⟨v2, 0, true, ints (lens P2)⟩, ⟨vr, 0, true, fl rc (runsOf L)⟩], 169⟩) (fun _ => True) (by decide +kernel) (by kernel_rfl) ?_ ?_
              · simp +decide  only [go_sem, Nat.reduceAdd, Nat.reduceSub, Nat.reduceMul, w0, w1, w2, w3, w4, w5, w6, w7, w8, wrap_in (n := ↑k + 2) (by omega) (by omega), vzs_length, vzs_one, Nat.le_refl, Nat.sub_zero, y1, y2, y3, y4, y5, y6, y7, y8, x1, x3, n1, n2, n3, n7, n8, n9]
                refine ⟨RgJ.mk () [4, 1, 2] rfl trivial ?_, RgJ.mk () [4, 1, 2] rfl trivial ?_⟩
                · simp +decide [go_sem]
                · simp +decide [go_sem]
              rintro ⟨⟩ _
              simp +decide  only [go_sem, Nat.reduceAdd, Nat.reduceSub, Nat.reduceMul]
              refine RegQ.rsv [true, true] ?_
              simp +decide  only [go_sem, Nat.reduceAdd, Nat.reduceSub, Nat.reduceMul]
              refine RegQ.of tok mix [(145, 3), (152, 4)] [4, 7] (.alt (sq [0, 1, 2, 3, 4, 5, 6, 7, 8, 9, 10, 11, 12, 13, 14] .nil) (sq [0, 1, 2, 3, 5, 6, 7, 4, 8, 9, 10, 11, 12, 13, 14] .nil))
                (fun _ : Unit => ⟨tm [(0, .vz q L.length (fl rc L)), (2, .nils), (3, .int .i64 0), (4, .bool false), (5, .sl 2 vr 2 0 (runsOf L).length), (6, .sl 0 4 1 0 (P2.length - 1)), (7, .sl 1 4 1 0 (P2.length - 1)), (8, .int .i64 (c2 + N)), (9, .int .i64 i)],
                  [⟨4, 0, true, vzs P3⟩, ⟨4, 0, true, ints (lens P3)⟩, ⟨vr, 0, true, fl rc (runsOf L)⟩], 169⟩) (fun _ => True) (by decide +kernel) (by kernel_rfl) ?_ ?_
              · simp +decide  only [go_sem, Nat.reduceAdd, Nat.reduceSub, Nat.reduceMul, w0, w1, w2, w3, w4, w5, w6, w7, w8, wrap_in (n := ↑k + 2) (by omega) (by omega), ints_allone, Nat.le_refl, Nat.sub_zero, z1, z2, z3, z4, z5, z6, z7, z8, z9, x1, x3, n4, n5, n6, n7, n8, n9]
                refine ⟨RgJ.mk () [0, 3, 2] rfl trivial ?_, RgJ.mk () [0, 3, 2] rfl trivial ?_⟩
                · simp +decide [go_sem]
                · simp +decide [go_sem]
              rintro ⟨⟩ _
              have hl3 : (lens P3).length = P2.length - 1 := by rw [lens_length, hal]
              have hn6 := c_next5 1 (lens P3) false (lens_ok _ (by omega)) (by omega)
              rw [hl3] at hn6
              have e6 : (ints (lens P3)).take (P2.length - 1) = ints (lens P3) := by rw [← hl3, ← ints_length, List.take_length]
              simp +decide  only [go_sem, Nat.reduceAdd, Nat.reduceSub, Nat.reduceMul, hne]
              refine CallJ.of [] (1) (hn6) (by simp +decide [go_sem, e6]) ?_
              rintro _ _ ⟨rfl, rfl⟩
              refine ⟨by simp [go_sem], by simp [go_sem], ?_⟩
              simp +decide  only [go_sem, Nat.reduceAdd, Nat.reduceSub, Nat.reduceMul]
              refine InvJ.mk (P3, c2 + N, 4, 4) [0, 1, 2] rfl ⟨?_, ?_, ?_, ?_⟩ (by simp only; omega) ?_
              · dsimp only
                rw [← i2]
                congr 1
                exact Prod.ext hP3.symm hac.symm
              · dsimp only; omega
              · dsimp only; omega
              · dsimp only; omega
              simp only [hal]
              simp +decide [go_sem]
            | none =>
              have hnx : nxtI (lens P2) false = -1 := by unfold nxtI; rw [hnk]; rfl
              rw [settle_none hnk] at i2
              replace i2 : (P2, c2) = S5 (partsOf L) (i + 1) := i2
              simp +decide  only [go_sem, Nat.reduceAdd, Nat.reduceSub, Nat.reduceMul, hnx, wrap_in (n := ↑i + 1) (by omega) (by omega)]
              refine InvJ.mk (i + 1, v1, v2) [0, 1, 2] rfl (by simp only; omega) (by simp only; omega) ?_
              simp only [← i2]
              simp +decide [go_sem]
        · rw [if_neg fun h => k2 h.2] at hdef
          rw [hdef] at enext hpl
          clear hdef
          generalize hpx : cutR L a m = p at *
          have e1 : (vzs P).length = P.length := vzs_length P
          have e2 : (vzs P).take P.length = vzs P := take_vzs P
          have e3 : (ints (lens P)).length = P.length := by rw [ints_length, lens_length]
          have e4 : (ints (lens P)).take P.length = ints (lens P) := by rw [← e3, List.take_length]
          have hsn : vzs P ++ [.vz 0 m (fl rc p)] = vzs (P ++ [p]) := by rw [vzs_append]; unfold vzs vzp; rw [List.map_cons, hpl]; rfl
          have hsl : ints (lens P) ++ [.int .i64 (m : Int)] = ints (lens (P ++ [p])) := by rw [lens_snoc, ints_append, hpl]; rfl
          have tk : (fl rc p).take (m * 2) = fl rc p := by rw [← hpl, take_rks]
          have f1 : (P.length + 1) * 24 ≤ 140737488355328 := by omega
          have f2 : P.length + 1 ≤ 140737488355328 := by omega
          have f3 : (P.length + 1) * 8 ≤ 140737488355328 := by omega
          have hPl1 : (P ++ [p]).length = P.length + 1 := by simp
          have hll : (lens (P ++ [p])).length = P.length + 1 := by rw [lens_length, hPl1]
          have e5 : (ints (lens (P ++ [p]))).take (P.length + 1) = ints (lens (P ++ [p])) := by rw [← hll, ← ints_length, List.take_length]
          have ht1 : tot (P ++ [p]) ≤ 200 := by rw [tot_app, tot_cons, hpl]; simp only [tot, List.map_nil, List.sum_nil] at *; omega
          have hn5 := c_next5 1 (lens (P ++ [p])) false (lens_ok _ (by omega)) (by omega)
          rw [hll] at hn5
          have hne : ¬ (i : Int) = (runsOf L).length := by omega
          have hI1 := ht1
          have hI2 : (P ++ [p]).length ≤ 100 := by omega
          have hI3 : c + 200 * (P ++ [p]).length ≤ 40000 := by omega
          simp +decide  only [go_sem, Nat.reduceAdd, Nat.reduceSub, Nat.reduceMul, k2, e1, e2, e3, e4, f1, f2, f3, hsn, hsl, tk, hne, Nat.le_refl]
          refine CallJ.of [] (1) (hn5) (by simp +decide [go_sem, e5]) ?_
          rintro _ _ ⟨rfl, rfl⟩
          refine ⟨by simp [go_sem], by simp [go_sem], ?_⟩
          simp +decide  only [go_sem, Nat.reduceAdd, Nat.reduceSub, Nat.reduceMul]
          refine LoopJ.ofX tok mix [24, 25] [0, 2, 3, 4, 5, 6, 7, 8, 9, 10, 11, 12, 13, 14] (fun z : List (List Rc) × Nat × Nat × Nat => ⟨tm [(0, .vz q L.length (fl rc L)), (2, .nils), (3, .int .i64 0), (4, .bool false), (5, .sl 2 vr 2 0 (runsOf L).length), (6, .sl 0 z.2.2.1 1 0 z.1.length), (7, .sl 1 z.2.2.2 1 0 z.1.length), (8, .int .i64 z.2.1), (9, .int .i64 i), (12, .int .i64 (nxtI (lens z.1) false))],
              [⟨z.2.2.1, 0, true, vzs z.1⟩, ⟨z.2.2.2, 0, true, ints (lens z.1)⟩, ⟨vr, 0, true, fl rc (runsOf L)⟩], 169⟩)
            (fun z => (settle false (lens z.1)).2.foldl applyM (z.1, z.2.1) = S5 (partsOf L) (i + 1) ∧ tot z.1 ≤ 200 ∧ z.1.length ≤ 100 ∧ z.2.1 + 200 * z.1.length ≤ 40000) (fun z => z.1.length) (P ++ [p], c, va + 1, vb + 1) [0, 1, 2] rfl ⟨enext.symm, hI1, hI2, hI3⟩ (by simp +decide [go_sem, hPl1]) (by decide +kernel) (by kernel_rfl) ?_
          rintro ⟨P2, c2, v1, v2⟩ ⟨i2, i3, i4, i5⟩
          dsimp only at i2 i3 i4 i5
          simp +decide  only [go_sem, Nat.reduceAdd, Nat.reduceSub, Nat.reduceMul]
          cases hnk : nxt (lens P2) false with
          | some k =>
            have hnx : nxtI (lens P2) false = (k : Int) := by unfold nxtI; rw [hnk]; rfl
            have hlt := nxt_lt hnk
            rw [lens_length] at hlt
            rw [settle_some hnk] at i2
            rw [show mergeS (lens P2) k = lens (applyM (P2, c2) k).1 from (lens_applyM (P2, c2) k).symm] at i2
            replace i2 : (settle false (lens (applyM (P2, c2) k).1)).2.foldl applyM (applyM (P2, c2) k) = S5 (partsOf L) (i + 1) := i2
            have htot := tot_get P2 _ hlt
            have hmn := mergeN_le (P2.getD k []) (P2.getD (k + 1) [])
            have w0 : (0 : Int) ≤ k := by omega
            have w1 : (k : Int) < P2.length := by omega
            have w2 : (0 : Int) ≤ (k : Int) + 1 := by omega
            have w3 : (k : Int) + 1 < P2.length := by omega
            have w4 : ((k : Int) + 1).toNat = k + 1 := by omega
            have w5 : (0 : Int) ≤ (k : Int) + 2 := by omega
            have w6 : ((k : Int) + 2).toNat = k + 2 := by omega
            have w7 : k + 2 ≤ P2.length := by omega
            have w8 : k ≤ P2.length := by omega
            have v0 : (vzs P2)[k]? = some (.vz 0 (P2.getD k []).length (fl rc (P2.getD k []))) := by simpa using vzs_get P2 [] k (by omega)
            have v3 : (vzs P2)[k + 1]? = some (.vz 0 (P2.getD (k + 1) []).length (fl rc (P2.getD (k + 1) []))) := by simpa using vzs_get P2 [] (k + 1) hlt
            have hal := applyM_len (P2, c2) k hlt
            have hat := applyM_tot (P2, c2) k hlt
            have hac : (applyM (P2, c2) k).2 = c2 + mergeN (P2.getD k []) (P2.getD (k + 1) []) := rfl
            dsimp only at hal hat
            simp +decide  only [go_sem, Nat.reduceAdd, Nat.reduceSub, Nat.reduceMul, hnx, w0, w1, w2, w3, w4, wrap_in (n := ↑k + 1) (by omega) (by omega), v0, v3, List.drop_zero]
            refine CallJ.of [] (1) (c_mergeS 0 0 (P2.getD k []) (P2.getD (k + 1) []) (by omega)) (by simp +decide [go_sem]) ?_
            rintro _ _ ⟨ver, rfl, rfl⟩
            refine ⟨by simp [go_sem], by simp [go_sem], ?_⟩
            simp +decide  only [go_sem, Nat.reduceAdd, Nat.reduceSub, Nat.reduceMul, wrap_in (n := ↑c2 + ↑(mergeN (P2.getD k []) (P2.getD (k + 1) []))) (by omega) (by omega)]
            refine RegQ.freeze 13 (x' := .vz 0 (mergeR (P2.getD k []) (P2.getD (k + 1) [])).length (fl rc (mergeR (P2.getD k []) (P2.getD (k + 1) []))))
              (h' := [⟨v1, 0, true, vzs P2⟩, ⟨v2, 0, true, ints (lens P2)⟩, ⟨vr, 0, true, fl rc (runsOf L)⟩, ⟨ver, 2, true, fl rc (mergeR (P2.getD k []) (P2.getD (k + 1) []))⟩]) (by simp +decide [go_sem, closeV, take_rks]) ?_
            simp +decide  only [go_sem, Nat.reduceAdd, Nat.reduceSub, Nat.reduceMul]
            refine RegQ.rsv [true, true] ?_
            simp +decide  only [go_sem, Nat.reduceAdd, Nat.reduceSub, Nat.reduceMul]
            generalize hM : mergeR (P2.getD k []) (P2.getD (k + 1) []) = M at *
            generalize hN : mergeN (P2.getD k []) (P2.getD (k + 1) []) = N at *
            have hA1 : (applyM (P2, c2) k).1 = P2.take k ++ M :: P2.drop (k + 2) := by rw [← hM]; rfl
            generalize hP3 : (applyM (P2, c2) k).1 = P3 at *
            have x1 : k + 1 + (P2.length - (k + 2)) = P2.length - 1 := by omega
            have x3 : k + 2 + (P2.length - (k + 2)) = P2.length := by omega
            have y1 : (vzs P2).take k = vzs (P2.take k) := by unfold vzs; rw [List.map_take]
            have y2 : (vzs (P2.take k)).length = k := by rw [vzs_length, List.length_take]; omega
            have y3 : (vzs (P2.take k)).take k = vzs (P2.take k) := by rw [List.take_of_length_le (by omega)]
            have y4 : vzs (P2.take k) ++ [.vz 0 M.length (fl rc M)] = vzs (P2.take k ++ [M]) := by rw [vzs_append]; rfl
            have y5 : (vzs (P2.take k ++ [M])).length = k + 1 := by rw [vzs_length, List.length_append, List.length_take, List.length_singleton]; omega
            have y6 : (vzs (P2.take k ++ [M])).take (k + 1) = vzs (P2.take k ++ [M]) := by rw [List.take_of_length_le (by omega)]
            have y7 : ((vzs P2).drop (k + 2)).take (P2.length - (k + 2)) = vzs (P2.drop (k + 2)) := by
              rw [List.take_of_length_le (by rw [List.length_drop, vzs_length]; exact Nat.le_refl _)]; unfold vzs; rw [List.map_drop]
            have y8 : vzs (P2.take k ++ [M]) ++ vzs (P2.drop (k + 2)) = vzs P3 := by rw [← vzs_append, hA1, List.append_assoc]; rfl
            have z1 : (ints (lens P2)).take k = ints (lens (P2.take k)) := by unfold ints lens; rw [List.map_take, List.map_take]
            have z2 : (ints (lens (P2.take k))).length = k := by rw [ints_length, lens_length, List.length_take]; omega
            have z3 : (ints (lens (P2.take k))).take k = ints (lens (P2.take k)) := by rw [List.take_of_length_le (by omega)]
            have z4 : ints (lens (P2.take k)) ++ [.int .i64 (M.length : Int)] = ints (lens (P2.take k ++ [M])) := by rw [lens_snoc, ints_append]; rfl
            have z5 : (ints (lens (P2.take k ++ [M]))).length = k + 1 := by rw [ints_length, lens_length, List.length_append, List.length_take, List.length_singleton]; omega
            have z6 : (ints (lens (P2.take k ++ [M]))).take (k + 1) = ints (lens (P2.take k ++ [M])) := by rw [List.take_of_length_le (by omega)]
            have z7 : ((ints (lens P2)).drop (k + 2)).take (P2.length - (k + 2)) = ints (lens (P2.drop (k + 2))) := by
              rw [List.take_of_length_le (by rw [List.length_drop, ints_length, lens_length]; exact Nat.le_refl _)]; unfold ints lens; rw [List.map_drop, List.map_drop]
            have z8 : ints (lens (P2.take k ++ [M])) ++ ints (lens (P2.drop (k + 2))) = ints (lens P3) := by rw [← ints_append, hA1]; unfold lens; rw [← List.map_append, List.append_assoc]; rfl
            have z9 : (ints (lens P2)).length = P2.length := by rw [ints_length, lens_length]
            have n1 : k * 24 ≤ 140737488355328 := by omega
            have n2 : (k + 1) * 24 ≤ 140737488355328 := by omega
            have n3 : (P2.length - 1) * 24 ≤ 140737488355328 := by omega
            have n4 : k * 8 ≤ 140737488355328 := by omega
            have n5 : (k + 1) * 8 ≤ 140737488355328 := by omega
            have n6 : (P2.length - 1) * 8 ≤ 140737488355328 := by omega
            have n7 : k ≤ 140737488355328 := by omega
            have n8 : k + 1 ≤ 140737488355328 := by omega
            have n9 : P2.length - 1 ≤ 140737488355328 := by omega
            refine RegQ.of tok mix [(132, 4), (138, 5)] [4, 6] (.alt (sq [0, 1, 2, 3, 4, 5, 6, 7, 8, 9, 10, 11, 12, 13] .nil) (sq [0, 1, 2, 3, 5, 6, 4, 7, 8, 9, 10, 11, 12, 13] .nil))
              (fun _ : Unit => ⟨tm [(0, .vz q L.length (fl rc L)), (2, .nils), (3, .int .i64 0), (4, .bool false), (5, .sl 2 vr 2 0 (runsOf L).length), (6, .sl 0 4 1 0 (P2.length - 1)), (7, .sl 1 v2 1 0 P2.length), (8, .int .i64 (c2 + N)), (9, .int .i64 i), (12, .int .i64 k), (13, .vz 0 M.length (fl rc M))],
                [⟨4, 0, true, vzs P3⟩, ⟨v2, 0, true, ints (lens P2)⟩, ⟨vr, 0, true, fl rc (runsOf L)⟩], 169⟩) (fun _ => True) (by decide +kernel) (by kernel_rfl) ?_ ?_
            · simp +decide  only [go_sem, Nat.reduceAdd, Nat.reduceSub, Nat.reduceMul, w0, w1, w2, w3, w4, w5, w6, w7, w8, wrap_in (n := ↑k + 2) (by omega) (by omega), vzs_length, vzs_one, Nat.le_refl, Nat.sub_zero, y1, y2, y3, y4, y5, y6, y7, y8, x1, x3, n1, n2, n3, n7, n8, n9]
              refine ⟨RgJ.mk () [4, 1, 2] rfl trivial ?_, RgJ.mk () [4, 1, 2] rfl trivial ?_⟩
              · simp +decide [go_sem]
              · simp +decide [go_sem]
            rintro ⟨⟩ _
            simp +decide  only [go_sem, Nat.reduceAdd, Nat.reduceSub, Nat.reduceMul]
            refine RegQ.rsv [true, true] ?_
            simp +decide  only [go_sem, Nat.reduceAdd, Nat.reduceSub, Nat.reduceMul]
            refine RegQ.of tok mix [(145, 3), (152, 4)] [4, 7] (.alt (sq [0, 1, 2, 3, 4, 5, 6, 7, 8, 9, 10, 11, 12, 13, 14] .nil) (sq [0, 1, 2, 3, 5, 6, 7, 4, 8, 9, 10, 11, 12, 13, 14] .nil))
              (fun _ : Unit => ⟨tm [(0, .vz q L.length (fl rc L)), (2, .nils), (3, .int .i64 0), (4, .bool false), (5, .sl 2 vr 2 0 (runsOf L).length), (6, .sl 0 4 1 0 (P2.length - 1)), (7, .sl 1 4 1 0 (P2.length - 1)), (8, .int .i64 (c2 + N)), (9, .int .i64 i)],
                [⟨4, 0, true, vzs P3⟩, ⟨4, 0, true, ints (lens P3)⟩, ⟨vr, 0, true, fl rc (runsOf L)⟩], 169⟩) (fun _ => True) (by decide +kernel) (by kernel_rfl) ?_ ?_
            · simp +decide  only [go_sem, Nat.reduceAdd, Nat.reduceSub, Nat.reduceMul, w0, w1, w2, w3, w4, w5, w6, w7, w8, wrap_in (n := ↑k + 2) (by omega) (by omega), ints_allone, Nat.le_refl, Nat.sub_zero, z1, z2, z3, z4, z5, z6, z7, z8, z9, x1, x3, n4, n5, n6, n7, n8, n9]
              refine ⟨RgJ.mk () [0, 3, 2] rfl trivial ?_, RgJ.mk () [0, 3, 2] rfl trivial ?_⟩
              · simp +decide [go_sem]
              · simp +decide [go_sem]
            rintro ⟨⟩ _
            have hl3 : (lens P3).length = P2.length - 1 := by rw [lens_length, hal]
            have hn6 := c_next5 1 (lens P3) false (lens_ok _ (by omega)) (by omega)
            rw [hl3] at hn6
            have e6 : (ints (lens P3)).take (P2.length - 1) = ints (lens P3) := by rw [← hl3, ← ints_length, List.take_length]
            simp +decide  only [go_sem, Nat.reduceAdd, Nat.reduceSub, Nat.reduceMul, hne]
            refine CallJ.of [] (1) (hn6) (by simp +decide [go_sem, e6]) ?_
            rintro _ _ ⟨rfl, rfl⟩
            refine ⟨by simp [go_sem], by simp [go_sem], ?_⟩
            simp +decide  only [go_sem, Nat.reduceAdd, Nat.reduceSub, Nat.reduceMul]
            refine InvJ.mk (P3, c2 + N, 4, 4) [0, 1, 2] rfl ⟨?_, ?_, ?_, ?_⟩ (by simp only; omega) ?_
            · dsimp only
              rw [← i2]
              congr 1
              exact Prod.ext hP3.symm hac.symm
            · dsimp only; omega
            · dsimp only; omega
            · dsimp only; omega
            simp only [hal]
            simp +decide [go_sem]
          | none =>
            have hnx : nxtI (lens P2) false = -1 := by unfold nxtI; rw [hnk]; rfl
            rw [settle_none hnk] at i2
            replace i2 : (P2, c2) = S5 (partsOf L) (i + 1) := i2
            simp +decide  only [go_sem, Nat.reduceAdd, Nat.reduceSub, Nat.reduceMul, hnx, wrap_in (n := ↑i + 1) (by omega) (by omega)]
            refine InvJ.mk (i + 1, v1, v2) [0, 1, 2] rfl (by simp only; omega) (by simp only; omega) ?_
            simp only [← i2]
            simp +decide [go_sem]
      · rw [if_neg fun h => k1 h.1] at hdef
        rw [hdef] at enext hpl
        clear hdef
        generalize hpx : cutR L a m = p at *
        have e1 : (vzs P).length = P.length := vzs_length P
        have e2 : (vzs P).take P.length = vzs P := take_vzs P
        have e3 : (ints (lens P)).length = P.length := by rw [ints_length, lens_length]
        have e4 : (ints (lens P)).take P.length = ints (lens P) := by rw [← e3, List.take_length]
        have hsn : vzs P ++ [.vz 0 m (fl rc p)] = vzs (P ++ [p]) := by rw [vzs_append]; unfold vzs vzp; rw [List.map_cons, hpl]; rfl
        have hsl : ints (lens P) ++ [.int .i64 (m : Int)] = ints (lens (P ++ [p])) := by rw [lens_snoc, ints_append, hpl]; rfl
        have tk : (fl rc p).take (m * 2) = fl rc p := by rw [← hpl, take_rks]
        have f1 : (P.length + 1) * 24 ≤ 140737488355328 := by omega
        have f2 : P.length + 1 ≤ 140737488355328 := by omega
        have f3 : (P.length + 1) * 8 ≤ 140737488355328 := by omega
        have hPl1 : (P ++ [p]).length = P.length + 1 := by simp
        have hll : (lens (P ++ [p])).length = P.length + 1 := by rw [lens_length, hPl1]
        have e5 : (ints (lens (P ++ [p]))).take (P.length + 1) = ints (lens (P ++ [p])) := by rw [← hll, ← ints_length, List.take_length]
        have ht1 : tot (P ++ [p]) ≤ 200 := by rw [tot_app, tot_cons, hpl]; simp only [tot, List.map_nil, List.sum_nil] at *; omega
        have hn5 := c_next5 1 (lens (P ++ [p])) false (lens_ok _ (by omega)) (by omega)
        rw [hll] at hn5
        have hne : ¬ (i : Int) = (runsOf L).length := by omega
        have hI1 := ht1
        have hI2 : (P ++ [p]).length ≤ 100 := by omega
        have hI3 : c + 200 * (P ++ [p]).length ≤ 40000 := by omega
        simp +decide  only [go_sem, Nat.reduceAdd, Nat.reduceSub, Nat.reduceMul, k1, e1, e2, e3, e4, f1, f2, f3, hsn, hsl, tk, hne, Nat.le_refl]
        refine CallJ.of [] (1) (hn5) (by simp +decide [go_sem, e5]) ?_
        rintro _ _ ⟨rfl, rfl⟩
        refine ⟨by simp [go_sem], by simp [go_sem], ?_⟩
        simp +decide  only [go_sem, Nat.reduceAdd, Nat.reduceSub, Nat.reduceMul]
        refine LoopJ.ofX tok mix [24, 25] [0, 2, 3, 4, 5, 6, 7, 8, 9, 10, 11, 12, 13, 14] (fun z : List (List Rc) × Nat × Nat × Nat => ⟨tm [(0, .vz q L.length (fl rc L)), (2, .nils), (3, .int .i64 0), (4, .bool false), (5, .sl 2 vr 2 0 (runsOf L).length), (6, .sl 0 z.2.2.1 1 0 z.1.length), (7, .sl 1 z.2.2.2 1 0 z.1.length), (8, .int .i64 z.2.1), (9, .int .i64 i), (12, .int .i64 (nxtI (lens z.1) false))],
            [⟨z.2.2.1, 0, true, vzs z.1⟩, ⟨z.2.2.2, 0, true, ints (lens z.1)⟩, ⟨vr, 0, true, fl rc (runsOf L)⟩], 169⟩)
          (fun z => (settle false (lens z.1)).2.foldl applyM (z.1, z.2.1) = S5 (partsOf L) (i + 1) ∧ tot z.1 ≤ 200 ∧ z.1.length ≤ 100 ∧ z.2.1 + 200 * z.1.length ≤ 40000) (fun z => z.1.length) (P ++ [p], c, va + 1, vb + 1) [0, 1, 2] rfl ⟨enext.symm, hI1, hI2, hI3⟩ (by simp +decide [go_sem, hPl1]) (by decide +kernel) (by kernel_rfl) ?_
        rintro ⟨P2, c2, v1, v2⟩ ⟨i2, i3, i4, i5⟩
        dsimp only at i2 i3 i4 i5
        simp +decide  only [go_sem, Nat.reduceAdd, Nat.reduceSub, Nat.reduceMul]
        cases hnk : nxt (lens P2) false with
        | some k =>
          have hnx : nxtI (lens P2) false = (k : Int) := by unfold nxtI; rw [hnk]; rfl
          have hlt := nxt_lt hnk
          rw [lens_length] at hlt
          rw [settle_some hnk] at i2
          rw [show mergeS (lens P2) k = lens (applyM (P2, c2) k).1 from (lens_applyM (P2, c2) k).symm] at i2
          replace i2 : (settle false (lens (applyM (P2, c2) k).1)).2.foldl applyM (applyM (P2, c2) k) = S5 (partsOf L) (i + 1) := i2
          have htot := tot_get P2 _ hlt
          have hmn := mergeN_le (P2.getD k []) (P2.getD (k + 1) [])
          have w0 : (0 : Int) ≤ k := by omega
          have w1 : (k : Int) < P2.length := by omega
          have w2 : (0 : Int) ≤ (k : Int) + 1 := by omega
          have w3 : (k : Int) + 1 < P2.length := by omega
          have w4 : ((k : Int) + 1).toNat = k + 1 := by omega
          have w5 : (0 : Int) ≤ (k : Int) + 2 := by omega
          have w6 : ((k : Int) + 2).toNat = k + 2 := by omega
          have w7 : k + 2 ≤ P2.length := by omega
          have w8 : k ≤ P2.length := by omega
          have v0 : (vzs P2)[k]? = some (.vz 0 (P2.getD k []).length (fl rc (P2.getD k []))) := by simpa using vzs_get P2 [] k (by omega)
          have v3 : (vzs P2)[k + 1]? = some (.vz 0 (P2.getD (k + 1) []).length (fl rc (P2.getD (k + 1) []))) := by simpa using vzs_get P2 [] (k + 1) hlt
          have hal := applyM_len (P2, c2) k hlt
          have hat := applyM_tot (P2, c2) k hlt
          have hac : (applyM (P2, c2) k).2 = c2 + mergeN (P2.getD k []) (P2.getD (k + 1) []) := rfl
          dsimp only at hal hat
          simp +decide  only [go_sem, Nat.reduceAdd, Nat.reduceSub, Nat.reduceMul, hnx, w0, w1, w2, w3, w4, wrap_in (n := ↑k + 1) (by omega) (by omega), v0, v3, List.drop_zero]
          refine CallJ.of [] (1) (c_mergeS 0 0 (P2.getD k []) (P2.getD (k + 1) []) (by omega)) (by simp +decide [go_sem]) ?_
          rintro _ _ ⟨ver, rfl, rfl⟩
          refine ⟨by simp [go_sem], by simp [go_sem], ?_⟩
          simp +decide  only [go_sem, Nat.reduceAdd, Nat.reduceSub, Nat.reduceMul, wrap_in (n := ↑c2 + ↑(mergeN (P2.getD k []) (P2.getD (k + 1) []))) (by omega) (by omega)]
          refine RegQ.freeze 13 (x' := .vz 0 (mergeR (P2.getD k []) (P2.getD (k + 1) [])).length (fl rc (mergeR (P2.getD k []) (P2.getD (k + 1) []))))
            (h' := [⟨v1, 0, true, vzs P2⟩, ⟨v2, 0, true, ints (lens P2)⟩, ⟨vr, 0, true, fl rc (runsOf L)⟩, ⟨ver, 2, true, fl rc (mergeR (P2.getD k []) (P2.getD (k + 1) []))⟩]) (by simp +decide [go_sem, closeV, take_rks]) ?_
          simp +decide  only [go_sem, Nat.reduceAdd, Nat.reduceSub, Nat.reduceMul]
          refine RegQ.rsv [true, true] ?_
          simp +decide  only [go_sem, Nat.reduceAdd, Nat.reduceSub, Nat.reduceMul]
          generalize hM : mergeR (P2.getD k []) (P2.getD (k + 1) []) = M at *
          generalize hN : mergeN (P2.getD k []) (P2.getD (k + 1) []) = N at *
          have hA1 : (applyM (P2, c2) k).1 = P2.take k ++ M :: P2.drop (k + 2) := by rw [← hM]; rfl
          generalize hP3 : (applyM (P2, c2) k).1 = P3 at *
          have x1 : k + 1 + (P2.length - (k + 2)) = P2.length - 1 := by omega
          have x3 : k + 2 + (P2.length - (k + 2)) = P2.length := by omega
          have y1 : (vzs P2).take k = vzs (P2.take k) := by unfold vzs; rw [List.map_take]
          have y2 : (vzs (P2.take k)).length = k := by rw [vzs_length, List.length_take]; omega
          have y3 : (vzs (P2.take k)).take k = vzs (P2.take k) := by rw [List.take_of_length_le (by omega)]
          have y4 : vzs (P2.take k) ++ [.vz 0 M.length (fl rc M)] = vzs (P2.take k ++ [M]) := by rw [vzs_append]; rfl
          have y5 : (vzs (P2.take k ++ [M])).length = k + 1 := by rw [vzs_length, List.length_append, List.length_take, List.length_singleton]; omega
          have y6 : (vzs (P2.take k ++ [M])).take (k + 1) = vzs (P2.take k ++ [M]) := by rw [List.take_of_length_le (by omega)]
          have y7 : ((vzs P2).drop (k + 2)).take (P2.length - (k + 2)) = vzs (P2.drop (k + 2)) := by
            rw [List.take_of_length_le (by rw [List.length_drop, vzs_length]; exact Nat.le_refl _)]; unfold vzs; rw [List.map_drop]
          have y8 : vzs (P2.take k ++ [M]) ++ vzs (P2.drop (k + 2)) = vzs P3 := by rw [← vzs_append, hA1, List.append_assoc]; rfl
          have z1 : (ints (lens P2)).take k = ints (lens (P2.take k)) := by unfold ints lens; rw [List.map_take, List.map_take]
          have z2 : (ints (lens (P2.take k))).length = k := by rw [ints_length, lens_length, List.length_take]; omega
          have z3 : (ints (lens (P2.take k))).take k = ints (lens (P2.take k)) := by rw [List.take_of_length_le (by omega)]
          have z4 : ints (lens (P2.take k)) ++ [.int .i64 (M.length : Int)] = ints (lens (P2.take k ++ [M])) := by rw [lens_snoc, ints_append]; rfl
          have z5 : (ints (lens (P2.take k ++ [M]))).length = k + 1 := by rw [ints_length, lens_length, List.length_append, List.length_take, List.length_singleton]; omega
          have z6 : (ints (lens (P2.take k ++ [M]))).take (k + 1) = ints (lens (P2.take k ++ [M])) := by rw [List.take_of_length_le (by omega)]
          have z7 : ((ints (lens P2)).drop (k + 2)).take (P2.length - (k + 2)) = ints (lens (P2.drop (k + 2))) := by
            rw [List.take_of_length_le (by rw [List.length_drop, ints_length, lens_length]; exact Nat.le_refl _)]; unfold ints lens; rw [List.map_drop, List.map_drop]
          have z8 : ints (lens (P2.take k ++ [M])) ++ ints (lens (P2.drop (k + 2))) = ints (lens P3) := by rw [← ints_append, hA1]; unfold lens; rw [← List.map_append, List.append_assoc]; rfl
          have z9 : (ints (lens P2)).length = P2.length := by rw [ints_length, lens_length]
          have n1 : k * 24 ≤ 140737488355328 := by omega
          have n2 : (k + 1) * 24 ≤ 140737488355328 := by omega
          have n3 : (P2.length - 1) * 24 ≤ 140737488355328 := by omega
          have n4 : k * 8 ≤ 140737488355328 := by omega
          have n5 : (k + 1) * 8 ≤ 140737488355328 := by omega
          have n6 : (P2.length - 1) * 8 ≤ 140737488355328 := by omega
          have n7 : k ≤ 140737488355328 := by omega
          have n8 : k + 1 ≤ 140737488355328 := by omega
          have n9 : P2.length - 1 ≤ 140737488355328 := by omega
          refine RegQ.of tok mix [(132, 4), (138, 5)] [4, 6] (.alt (sq [0, 1, 2, 3, 4, 5, 6, 7, 8, 9, 10, 11, 12, 13] .nil) (sq [0, 1, 2, 3, 5, 6, 4, 7, 8, 9, 10, 11, 12, 13] .nil))
            (fun _ : Unit => ⟨tm [(0, .vz q L.length (fl rc L)), (2, .nils), (3, .int .i64 0), (4, .bool false), (5, .sl 2 vr 2 0 (runsOf L).length), (6, .sl 0 4 1 0 (P2.length - 1)), (7, .sl 1 v2 1 0 P2.length), (8, .int .i64 (c2 + N)), (9, .int .i64 i), (12, .int .i64 k), (13, .vz 0 M.length (fl rc M))],
              [⟨4, 0, true, vzs P3⟩, ⟨v2, 0, true, ints (lens P2)⟩, ⟨vr, 0, true, fl rc (runsOf L)⟩], 169⟩) (fun _ => True) (by decide +kernel) (by kernel_rfl) ?_ ?_
          · simp +decide  only [go_sem, Nat.reduceAdd, Nat.reduceSub, Nat.reduceMul, w0, w1, w2, w3, w4, w5, w6, w7, w8, wrap_in (n := ↑k + 2) (by omega) (by omega), vzs_length, vzs_one, Nat.le_refl, Nat.sub_zero, y1, y2, y3, y4, y5, y6, y7, y8, x1, x3, n1, n2, n3, n7, n8, n9]
            refine ⟨RgJ.mk () [4, 1, 2] rfl trivial ?_, RgJ.mk () [4, 1, 2] rfl trivial ?_⟩
            · simp +decide [go_sem]
            · simp +decide [go_sem]
          rintro ⟨⟩ _
          simp +decide  only [go_sem, Nat.reduceAdd, Nat.reduceSub, Nat.reduceMul]
          refine RegQ.rsv [true, true] ?_
          simp +decide  only [go_sem, Nat.reduceAdd, Nat.reduceSub, Nat.reduceMul]
          refine RegQ.of tok mix [(145, 3), (152, 4)] [4, 7] (.alt (sq [0, 1, 2, 3, 4, 5, 6, 7, 8, 9, 10, 11, 12, 13, 14] .nil) (sq [0, 1, 2, 3, 5, 6, 7, 4, 8, 9, 10, 11, 12, 13, 14] .nil))
            (fun _ : Unit => ⟨tm [(0, .vz q L.length (fl rc L)), (2, .nils), (3, .int .i64 0), (4, .bool false), (5, .sl 2 vr 2 0 (runsOf L).length), (6, .sl 0 4 1 0 (P2.length - 1)), (7, .sl 1 4 1 0 (P2.length - 1)), (8, .int .i64 (c2 + N)), (9, .int .i64 i)],
              [⟨4, 0, true, vzs P3⟩, ⟨4, 0, true, ints (lens P3)⟩, ⟨vr, 0, true, fl rc (runsOf L)⟩], 169⟩) (fun _ => True) (by decide +kernel) (by kernel_rfl) ?_ ?_
          · simp +decide  only [go_sem, Nat.reduceAdd, Nat.reduceSub, Nat.reduceMul, w0, w1, w2, w3, w4, w5, w6, w7, w8, wrap_in (n := ↑k + 2) (by omega) (by omega), ints_allone, Nat.le_refl, Nat.sub_zero, z1, z2, z3, z4, z5, z6, z7, z8, z9, x1, x3, n4, n5, n6, n7, n8, n9]
            refine ⟨RgJ.mk () [0, 3, 2] rfl trivial ?_, RgJ.mk () [0, 3, 2] rfl trivial ?_⟩
            · simp +decide [go_sem]
            · simp +decide [go_sem]
          rintro ⟨⟩ _
          have hl3 : (lens P3).length = P2.length - 1 := by rw [lens_length, hal]
          have hn6 := c_next5 1 (lens P3) false (lens_ok _ (by omega)) (by omega)
          rw [hl3] at hn6
          have e6 : (ints (lens P3)).take (P2.length - 1) = ints (lens P3) := by rw [← hl3, ← ints_length, List.take_length]
          simp +decide  only [go_sem, Nat.reduceAdd, Nat.reduceSub, Nat.reduceMul, hne]
          refine CallJ.of [] (1) (hn6) (by simp +decide [go_sem, e6]) ?_
          rintro _ _ ⟨rfl, rfl⟩
          refine ⟨by simp [go_sem], by simp [go_sem], ?_⟩
          simp +decide  only [go_sem, Nat.reduceAdd, Nat.reduceSub, Nat.reduceMul]
          refine InvJ.mk (P3, c2 + N, 4, 4) [0, 1, 2] rfl ⟨?_, ?_, ?_, ?_⟩ (by simp only; omega) ?_
          · dsimp only
            rw [← i2]
            congr 1
            exact Prod.ext hP3.symm hac.symm
          · dsimp only; omega
          · dsimp only; omega
          · dsimp only; omega
          simp only [hal]
          simp +decide [go_sem]
        | none =>
          have hnx : nxtI (lens P2) false = -1 := by unfold nxtI; rw [hnk]; rfl
          rw [settle_none hnk] at i2
          replace i2 : (P2, c2) = S5 (partsOf L) (i + 1) := i2
          simp +decide  only [go_sem, Nat.reduceAdd, Nat.reduceSub, Nat.reduceMul, hnx, wrap_in (n := ↑i + 1) (by omega) (by omega)]
          refine InvJ.mk (i + 1, v1, v2) [0, 1, 2] rfl (by simp only; omega) (by simp only; omega) ?_
          simp only [← i2]
          simp +decide [go_sem]
    · have heq : i = (partsOf L).length := by omega
      have enext : S5 (partsOf L) (i + 1) = (settle true (lens (S5 (partsOf L) i).1)).2.foldl applyM (S5 (partsOf L) i) := by rw [heq]; exact S5_last _
      have hne : ((i : Int) = ((runsOf L).length : Int)) = True := eq_true (by omega)
      generalize hS : S5 (partsOf L) i = z at *
      obtain ⟨P, c⟩ := z
      dsimp only at b1 b2 b3
      have hPl1 : (lens P).length = P.length := lens_length P
      have hn5 := c_next5 1 (lens P) true (lens_ok _ (by omega)) (by omega)
      rw [hPl1] at hn5
      have e5 : (ints (lens P)).take P.length = ints (lens P) := by rw [← hPl1, ← ints_length, List.take_length]
      have hI1 : tot P ≤ 200 := by omega
      have hI2 : P.length ≤ 100 := by omega
      have hI3 : c + 200 * P.length ≤ 40000 := by omega
      simp +decide  only [go_sem, Nat.reduceAdd, Nat.reduceSub, Nat.reduceMul, g1, hne]
      refine CallJ.of [] (1) (hn5) (by simp +decide [go_sem, e5]) ?_
      rintro _ _ ⟨rfl, rfl⟩
      refine ⟨by simp [go_sem], by simp [go_sem], ?_⟩
      simp +decide  only [go_sem, Nat.reduceAdd, Nat.reduceSub, Nat.reduceMul]
      refine LoopJ.ofX tok mix [24, 25] [0, 2, 3, 4, 5, 6, 7, 8, 9, 10, 11, 12, 13, 14] (fun z : List (List Rc) × Nat × Nat × Nat => ⟨tm [(0, .vz q L.length (fl rc L)), (2, .nils), (3, .int .i64 0), (4, .bool false), (5, .sl 2 vr 2 0 (runsOf L).length), (6, .sl 0 z.2.2.1 1 0 z.1.length), (7, .sl 1 z.2.2.2 1 0 z.1.length), (8, .int .i64 z.2.1), (9, .int .i64 i), (12, .int .i64 (nxtI (lens z.1) true))],
          [⟨z.2.2.1, 0, true, vzs z.1⟩, ⟨z.2.2.2, 0, true, ints (lens z.1)⟩, ⟨vr, 0, true, fl rc (runsOf L)⟩], 169⟩)
        (fun z => (settle true (lens z.1)).2.foldl applyM (z.1, z.2.1) = S5 (partsOf L) (i + 1) ∧ tot z.1 ≤ 200 ∧ z.1.length ≤ 100 ∧ z.2.1 + 200 * z.1.length ≤ 40000) (fun z => z.1.length) (P, c, va, vb) [0, 1, 2] rfl ⟨enext.symm, hI1, hI2, hI3⟩ (by simp +decide [go_sem, hPl1]) (by decide +kernel) (by kernel_rfl) ?_
      rintro ⟨P2, c2, v1, v2⟩ ⟨i2, i3, i4, i5⟩
      dsimp only at i2 i3 i4 i5
      simp +decide  only [go_sem, Nat.reduceAdd, Nat.reduceSub, Nat.reduceMul]
      cases hnk : nxt (lens P2) true with
      | some k =>
        have hnx : nxtI (lens P2) true = (k : Int) := by unfold nxtI; rw [hnk]; rfl
        have hlt := nxt_lt hnk
        rw [lens_length] at hlt
        rw [settle_some hnk] at i2
        rw [show mergeS (lens P2) k = lens (applyM (P2, c2) k).1 from (lens_applyM (P2, c2) k).symm] at i2
        replace i2 : (settle true (lens (applyM (P2, c2) k).1)).2.foldl applyM (applyM (P2, c2) k) = S5 (partsOf L) (i + 1) := i2
        have htot := tot_get P2 _ hlt
        have hmn := mergeN_le (P2.getD k []) (P2.getD (k + 1) [])
        have w0 : (0 : Int) ≤ k := by omega
        have w1 : (k : Int) < P2.length := by omega
        have w2 : (0 : Int) ≤ (k : Int) + 1 := by omega
        have w3 : (k : Int) + 1 < P2.length := by omega
        have w4 : ((k : Int) + 1).toNat = k + 1 := by omega
        have w5 : (0 : Int) ≤ (k : Int) + 2 := by omega
        have w6 : ((k : Int) + 2).toNat = k + 2 := by omega
        have w7 : k + 2 ≤ P2.length := by omega
        have w8 : k ≤ P2.length := by omega
        have v0 : (vzs P2)[k]? = some (.vz 0 (P2.getD k []).length (fl rc (P2.getD k []))) := by simpa using vzs_get P2 [] k (by omega)
        have v3 : (vzs P2)[k + 1]? = some (.vz 0 (P2.getD (k + 1) []).length (fl rc (P2.getD (k + 1) []))) := by simpa using vzs_get P2 [] (k + 1) hlt
        have hal := applyM_len (P2, c2) k hlt
        have hat := applyM_tot (P2, c2) k hlt
        have hac : (applyM (P2, c2) k).2 = c2 + mergeN (P2.getD k []) (P2.getD (k + 1) []) := rfl
        dsimp only at hal hat
        simp +decide  only [go_sem, Nat.reduceAdd, Nat.reduceSub, Nat.reduceMul, hnx, w0, w1, w2, w3, w4, wrap_in (n := ↑k + 1) (by omega) (by omega), v0, v3, List.drop_zero]
        refine CallJ.of [] (1) (c_mergeS 0 0 (P2.getD k []) (P2.getD (k + 1) []) (by omega)) (by simp +decide [go_sem]) ?_
        rintro _ _ ⟨ver, rfl, rfl⟩
        refine ⟨by simp [go_sem], by simp [go_sem], ?_⟩
        simp +decide  only [go_sem, Nat.reduceAdd, Nat.reduceSub, Nat.reduceMul, wrap_in (n := ↑c2 + ↑(mergeN (P2.getD k []) (P2.getD (k + 1) []))) (by omega) (by omega)]
        refine RegQ.freeze 13 (x' := .vz 0 (mergeR (P2.getD k []) (P2.getD (k + 1) [])).length (fl rc (mergeR (P2.getD k []) (P2.getD (k + 1) []))))
          (h' := [⟨v1, 0, true, vzs P2⟩, ⟨v2, 0, true, ints (lens P2)⟩, ⟨vr, 0, true, fl rc (runsOf L)⟩, ⟨ver, 2, true, fl rc (mergeR (P2.getD k []) (P2.getD (k + 1) []))⟩]) (by simp +decide [go_sem, closeV, take_rks]) ?_
        simp +decide  only [go_sem, Nat.reduceAdd, Nat.reduceSub, Nat.reduceMul]
        refine RegQ.rsv [true, true] ?_
        simp +decide  only [go_sem, Nat.reduceAdd, Nat.reduceSub, Nat.reduceMul]
        generalize hM : mergeR (P2.getD k []) (P2.getD (k + 1) []) = M at *
        generalize hN : mergeN (P2.getD k []) (P2.getD (k + 1) []) = N at *
        have hA1 : (applyM (P2, c2) k).1 = P2.take k ++ M :: P2.drop (k + 2) := by rw [← hM]; rfl
        generalize hP3 : (applyM (P2, c2) k).1 = P3 at *
        have x1 : k + 1 + (P2.length - (k + 2)) = P2.length - 1 := by omega
        have x3 : k + 2 + (P2.length - (k + 2)) = P2.length := by omega
        have y1 : (vzs P2).take k = vzs (P2.take k) := by unfold vzs; rw [List.map_take]
        have y2 : (vzs (P2.take k)).length = k := by rw [vzs_length, List.length_take]; omega
        have y3 : (vzs (P2.take k)).take k = vzs (P2.take k) := by rw [List.take_of_length_le (by omega)]
        have y4 : vzs (P2.take k) ++ [.vz 0 M.length (fl rc M)] = vzs (P2.take k ++ [M]) := by rw [vzs_append]; rfl
        have y5 : (vzs (P2.take k ++ [M])).length = k + 1 := by rw [vzs_length, List.length_append, List.length_take, List.length_singleton]; omega
        have y6 : (vzs (P2.take k ++ [M])).take (k + 1) = vzs (P2.take k ++ [M]) := by rw [List.take_of_length_le (by omega)]
        have y7 : ((vzs P2).drop (k + 2)).take (P2.length - (k + 2)) = vzs (P2.drop (k + 2)) := by
          rw [List.take_of_length_le (by rw [List.length_drop, vzs_length]; exact Nat.le_refl _)]; unfold vzs; rw [List.map_drop]
        have y8 : vzs (P2.take k ++ [M]) ++ vzs (P2.drop (k + 2)) = vzs P3 := by rw [← vzs_append, hA1, List.append_assoc]; rfl
        have z1 : (ints (lens P2)).take k = ints (lens (P2.take k)) := by unfold ints lens; rw [List.map_take, List.map_take]
        have z2 : (ints (lens (P2.take k))).length = k := by rw [ints_length, lens_length, List.length_take]; omega
        have z3 : (ints (lens (P2.take k))).take k = ints (lens (P2.take k)) := by rw [List.take_of_length_le (by omega)]
        have z4 : ints (lens (P2.take k)) ++ [.int .i64 (M.length : Int)] = ints (lens (P2.take k ++ [M])) := by rw [lens_snoc, ints_append]; rfl
        have z5 : (ints (lens (P2.take k ++ [M]))).length = k + 1 := by rw [ints_length, lens_length, List.length_append, List.length_take, List.length_singleton]; omega
        have z6 : (ints (lens (P2.take k ++ [M]))).take (k + 1) = ints (lens (P2.take k ++ [M])) := by rw [List.take_of_length_le (by omega)]
        have z7 : ((ints (lens P2)).drop (k + 2)).take (P2.length - (k + 2)) = ints (lens (P2.drop (k + 2))) := by
          rw [List.take_of_length_le (by rw [List.length_drop, ints_length, lens_length]; exact Nat.le_refl _)]; unfold ints lens; rw [List.map_drop, List.map_drop]
        have z8 : ints (lens (P2.take k ++ [M])) ++ ints (lens (P2.drop (k + 2))) = ints (lens P3) := by rw [← ints_append, hA1]; unfold lens; rw [← List.map_append, List.append_assoc]; rfl
        have z9 : (ints (lens P2)).length = P2.length := by rw [ints_length, lens_length]
        have n1 : k * 24 ≤ 140737488355328 := by omega
        have n2 : (k + 1) * 24 ≤ 140737488355328 := by omega
        have n3 : (P2.length - 1) * 24 ≤ 140737488355328 := by omega
        have n4 : k * 8 ≤ 140737488355328 := by omega
        have n5 : (k + 1) * 8 ≤ 140737488355328 := by omega
        have n6 : (P2.length - 1) * 8 ≤ 140737488355328 := by omega
        have n7 : k ≤ 140737488355328 := by omega
        have n8 : k + 1 ≤ 140737488355328 := by omega
        have n9 : P2.length - 1 ≤ 140737488355328 := by omega
        refine RegQ.of tok mix [(132, 4), (138, 5)] [4, 6] (.alt (sq [0, 1, 2, 3, 4, 5, 6, 7, 8, 9, 10, 11, 12, 13] .nil) (sq [0, 1, 2, 3, 5, 6, 4, 7, 8, 9, 10, 11, 12, 13] .nil))
          (fun _ : Unit => ⟨tm [(0, .vz q L.length (fl rc L)), (2, .nils), (3, .int .i64 0), (4, .bool false), (5, .sl 2 vr 2 0 (runsOf L).length), (6, .sl 0 4 1 0 (P2.length - 1)), (7, .sl 1 v2 1 0 P2.length), (8, .int .i64 (c2 + N)), (9, .int .i64 i), (12, .int .i64 k), (13, .vz 0 M.length (fl rc M))],
            [⟨4, 0, true, vzs P3⟩, ⟨v2, 0, true, ints (lens P2)⟩, ⟨vr, 0, true, fl rc (runsOf L)⟩], 169⟩) (fun _ => True) (by decide +kernel) (by kernel_rfl) ?_ ?_
        · simp +decide  only [go_sem, Nat.reduceAdd, Nat.reduceSub, Nat.reduceMul, w0, w1, w2, w3, w4, w5, w6, w7, w8, wrap_in (n := ↑k + 2) (by omega) (by omega), vzs_length, vzs_one, Nat.le_refl, Nat.sub_zero, y1, y2, y3, y4, y5, y6, y7, y8, x1, x3, n1, n2, n3, n7, n8, n9]
          refine ⟨RgJ.mk () [4, 1, 2] rfl trivial ?_, RgJ.mk () [4, 1, 2] rfl trivial ?_⟩
          · simp +decide [go_sem]
          · simp +decide [go_sem]
        rintro ⟨⟩ _
        simp +decide  only [go_sem, Nat.reduceAdd, Nat.reduceSub, Nat.reduceMul]
        refine RegQ.rsv [true, true] ?_
        simp +decide  only [go_sem, Nat.reduceAdd, Nat.reduceSub, Nat.reduceMul]
        refine RegQ.of tok mix [(145, 3), (152, 4)] [4, 7] (.alt (sq [0, 1, 2, 3, 4, 5, 6, 7, 8, 9, 10, 11, 12, 13, 14] .nil) (sq [0, 1, 2, 3, 5, 6, 7, 4, 8, 9, 10, 11, 12, 13, 14] .nil))
          (fun _ : Unit => ⟨tm [(0, .vz q L.length (fl rc L)), (2, .nils), (3, .int .i64 0), (4, .bool false), (5, .sl 2 vr 2 0 (runsOf L).length), (6, .sl 0 4 1 0 (P2.length - 1)), (7, .sl 1 4 1 0 (P2.length - 1)), (8, .int .i64 (c2 + N)), (9, .int .i64 i)],
            [⟨4, 0, true, vzs P3⟩, ⟨4, 0, true, ints (lens P3)⟩, ⟨vr, 0, true, fl rc (runsOf L)⟩], 169⟩) (fun _ => True) (by decide +kernel) (by kernel_rfl) ?_ ?_
        · simp +decide  only [go_sem, Nat.reduceAdd, Nat.reduceSub, Nat.reduceMul, w0, w1, w2, w3, w4, w5, w6, w7, w8, wrap_in (n := ↑k + 2) (by omega) (by omega), ints_allone, Nat.le_refl, Nat.sub_zero, z1, z2, z3, z4, z5, z6, z7, z8, z9, x1, x3, n4, n5, n6, n7, n8, n9]
          refine ⟨RgJ.mk () [0, 3, 2] rfl trivial ?_, RgJ.mk () [0, 3, 2] rfl trivial ?_⟩
          · simp +decide [go_sem]
          · simp +decide [go_sem]
        rintro ⟨⟩ _
        have hl3 : (lens P3).length = P2.length - 1 := by rw [lens_length, hal]
        have hn6 := c_next5 1 (lens P3) true (lens_ok _ (by omega)) (by omega)
        rw [hl3] at hn6
        have e6 : (ints (lens P3)).take (P2.length - 1) = ints (lens P3) := by rw [← hl3, ← ints_length, List.take_length]
        simp +decide  only [go_sem, Nat.reduceAdd, Nat.reduceSub, Nat.reduceMul, hne]
        refine CallJ.of [] (1) (hn6) (by simp +decide [go_sem, e6]) ?_
        rintro _ _ ⟨rfl, rfl⟩
        refine ⟨by simp [go_sem], by simp [go_sem], ?_⟩
        simp +decide  only [go_sem, Nat.reduceAdd, Nat.reduceSub, Nat.reduceMul]
        refine InvJ.mk (P3, c2 + N, 4, 4) [0, 1, 2] rfl ⟨?_, ?_, ?_, ?_⟩ (by simp only; omega) ?_
        · dsimp only
          rw [← i2]
          congr 1
          exact Prod.ext hP3.symm hac.symm
        · dsimp only; omega
        · dsimp only; omega
        · dsimp only; omega
        simp only [hal]
        simp +decide [go_sem]
      | none =>
        have hnx : nxtI (lens P2) true = -1 := by unfold nxtI; rw [hnk]; rfl
        rw [settle_none hnk] at i2
        replace i2 : (P2, c2) = S5 (partsOf L) (i + 1) := i2
        simp +decide  only [go_sem, Nat.reduceAdd, Nat.reduceSub, Nat.reduceMul, hnx, wrap_in (n := ↑i + 1) (by omega) (by omega)]
        refine InvJ.mk (i + 1, v1, v2) [0, 1, 2] rfl (by simp only; omega) (by simp only; omega) ?_
        simp only [← i2]
        simp +decide [go_sem]
  · have hi : i = (partsOf L).length + 1 := by omega
    have hS : S5 (partsOf L) i = adaptP (partsOf L) := by rw [hi, S5, if_neg (by omega)]
    rw [hS]
    have hAt : tot (adaptP (partsOf L)).1 = L.length := by
      have h1 := settle_parts true (pushA (partsOf L)).2
      rw [← (pushA_inv (partsOf L)).1] at h1
      have h2 := foldl_tot _ _ h1.1
      rw [show adaptP (partsOf L) = (settle true (pushA (partsOf L)).1.1).2.foldl applyM (pushA (partsOf L)).2 from rfl, h2.1, (pushA_bound _).1, ht]
    simp +decide  only [go_sem, Nat.reduceAdd, Nat.reduceSub, Nat.reduceMul, g0]
    refine BrJ.ofP (fun g2 => ?_) fun g2 => ?_
    · have hA0 : (adaptP (partsOf L)).1 = [] := List.eq_nil_of_length_eq_zero (by omega)
      rw [hA0] at hAt
      have hL0 : L = [] := List.eq_nil_of_length_eq_zero hAt.symm
      have hA2 : (adaptP (partsOf L)).2 = 0 := by rw [hL0]; rfl
      rw [hA2]
      simp +decide  only [go_sem, Nat.reduceAdd, Nat.reduceSub, Nat.reduceMul, g2]
      refine Ret.sel [3] rfl (by simp +decide [go_sem]) ?_
      exact ⟨0, [], rfl, rfl, by rw [hA0]; rfl⟩
    · cases hA1 : (adaptP (partsOf L)).1 with
      | nil => rw [hA1] at g2; simp at g2
      | cons p rest =>
        have h0 : (0 : Int) < ((rest.length + 1 : Nat) : Int) := by omega
        rw [hA1, tot_cons] at hAt
        have f1 : p.length * 16 ≤ 140737488355328 := by omega
        have f2 : p.length ≤ 140737488355328 := by omega
        simp +decide  only [go_sem, Nat.reduceAdd, Nat.reduceSub, Nat.reduceMul, g2, hA1, h0, f1, f2, Int.toNat_zero, vzs, List.map_cons, List.cons_append, List.getElem?_cons_zero, vzp, rks_length, rks_one, Nat.le_refl]
        refine Ret.sel [3] rfl (by simp +decide [go_sem]) ?_
        exact ⟨1, p, rfl, rfl, rfl⟩
end Go.Proofs.Ytaloakmffdejgaa
