/- Merges carried out on the parts. -/
import Derived.Test.YtaloakmffdejgaaAdG
set_option linter.unusedSimpArgs false
set_option linter.unusedVariables false
set_option maxRecDepth 100000
set_option maxHeartbeats 8000000
namespace Go.Proofs.Ytaloakmffdejgaa
open Go Go.Fw

def vzp (p : List Rc) : PV := .vz 0 p.length (fl rc p)
def vzs (P : List (List Rc)) : List PV := P.map vzp
theorem vzs_length (P : List (List Rc)) : (vzs P).length = P.length := by simp [vzs]
theorem vzs_append (P Q : List (List Rc)) : vzs (P ++ Q) = vzs P ++ vzs Q := by simp [vzs]
theorem take_vzs (P : List (List Rc)) : (vzs P).take P.length = vzs P := by rw [List.take_of_length_le]; rw [vzs_length]; exact Nat.le_refl _
theorem vzs_get (P : List (List Rc)) (rest : List PV) (i : Nat) (h : i < P.length) : (vzs P ++ rest)[i]? = some (.vz 0 (P.getD i []).length (fl rc (P.getD i []))) := by
  rw [List.getElem?_append_left (by rw [vzs_length]; exact h)]
  simp [vzs, List.getD, h, vzp]
theorem vzs_one (P : List (List Rc)) : (vzs P).all one = true := by
  rw [List.all_eq_true]
  intro x hx
  obtain ⟨p, _, rfl⟩ := List.mem_map.1 hx
  rfl
theorem spl_vzs (P : List (List Rc)) (rest : List PV) (i : Nat) (p : List Rc) (h : i < P.length) : spl (vzs P ++ rest) i [.vz 0 p.length (fl rc p)] = vzs (P.set i p) ++ rest := by
  rw [spl_one _ _ _ (by rw [List.length_append, vzs_length]; omega), List.set_append_left _ _ (by rw [vzs_length]; exact h)]
  congr 1
  unfold vzs
  rw [List.map_set]
  rfl

def applyM (z : List (List Rc) × Nat) (i : Nat) : List (List Rc) × Nat :=
  (z.1.take i ++ mergeR (z.1.getD i []) (z.1.getD (i + 1) []) :: z.1.drop (i + 2), z.2 + mergeN (z.1.getD i []) (z.1.getD (i + 1) []))
def tot (P : List (List Rc)) : Nat := (P.map List.length).sum
def Vm : List Nat → Nat → Prop
  | [], _ => True
  | i :: ks, n => i + 1 < n ∧ Vm ks (n - 1)

theorem applyM_len (z : List (List Rc) × Nat) (i : Nat) (h : i + 1 < z.1.length) : (applyM z i).1.length = z.1.length - 1 := by simp [applyM]; omega
theorem tot_app (P Q : List (List Rc)) : tot (P ++ Q) = tot P + tot Q := by simp [tot]
theorem tot_cons (p : List Rc) (P : List (List Rc)) : tot (p :: P) = p.length + tot P := by simp [tot]
theorem split_at (P : List (List Rc)) (i : Nat) (h : i + 1 < P.length) : P = P.take i ++ P.getD i [] :: P.getD (i + 1) [] :: P.drop (i + 2) := by
  have e1 := drop_cons (l := P) (i := i) (by omega)
  have e2 := drop_cons (l := P) (i := i + 1) h
  conv => lhs; rw [← List.take_append_drop i P, e1, e2]
  rfl
theorem applyM_tot (z : List (List Rc) × Nat) (i : Nat) (h : i + 1 < z.1.length) : tot (applyM z i).1 = tot z.1 := by
  conv => rhs; rw [split_at z.1 i h]
  unfold applyM
  simp only [tot_app, tot_cons, mergeR_length]; omega
theorem tot_get (P : List (List Rc)) (i : Nat) (h : i + 1 < P.length) : (P.getD i []).length + (P.getD (i + 1) []).length ≤ tot P := by
  have e := congrArg tot (split_at P i h)
  simp only [tot_app, tot_cons] at e
  omega

theorem mi_get (pre : List Int) (ks : List Nat) (j : Nat) (h : j < ks.length) : (ints (pre ++ mi ks))[pre.length + j]? = some (.int .i64 (ks.getD j 0 : Nat)) := by
  rw [ints_get _ _ (by rw [List.length_append, mi_length]; omega)]
  congr 2
  simp only [List.getD]
  rw [List.getElem?_append_right (by omega), Nat.add_sub_cancel_left]
  simp [mi, h]

/-- The memory that the closure reaches. -/
@[go_sem] def FH (v1 v2 vp : Nat) (n : Nat) (sb : List PV) (ms : List Int) (most : Int) (d : Nat) (P : List (List Rc)) (rest : List PV) (c : Nat) : List Blk :=
  [⟨0, 1, false, [.ptr 4 0 0]⟩, ⟨0, 1, false, [.int .i64 d]⟩, ⟨0, 1, false, [.sl 5 vp 1 0 P.length]⟩, ⟨0, 1, false, [.int .i64 c]⟩,
   ⟨0, 1, false, [.sl 7 v1 1 0 n, .sl 6 v2 1 0 ms.length, .int .i64 most]⟩, ⟨vp, 0, true, vzs P ++ rest⟩, ⟨v2, 0, true, ints ms⟩, ⟨v1, 0, true, sb⟩]

def FoI (ks : List Nat) (j : Nat) (z : List (List Rc) × Nat) : Prop := Vm (ks.drop j) z.1.length ∧ tot z.1 ≤ 200 ∧ z.1.length ≤ 300 ∧ z.2 ≤ 1000000 + 200 * j

theorem FoI.step {ks : List Nat} {j : Nat} {z : List (List Rc) × Nat} (h : FoI ks j z) (hj : j < ks.length) : ks.getD j 0 + 1 < z.1.length ∧ FoI ks (j + 1) (applyM z (ks.getD j 0)) := by
  obtain ⟨h1, h2, h3, h4⟩ := h
  have e : ks.drop j = ks.getD j 0 :: ks.drop (j + 1) := drop_cons (l := ks) hj
  rw [e] at h1
  have hlt := h1.1
  refine ⟨hlt, ?_, ?_, ?_, ?_⟩
  · rw [applyM_len z _ hlt]; exact h1.2
  · rw [applyM_tot z _ hlt]; exact h2
  · rw [applyM_len z _ hlt]; omega
  · have := mergeN_le (z.1.getD (ks.getD j 0) []) (z.1.getD (ks.getD j 0 + 1) [])
    have := tot_get z.1 _ hlt
    unfold applyM
    simp only
    omega

theorem c_follow (v1 v2 vp n : Nat) (sb : List PV) (pre : List Int) (ks : List Nat) (most : Int) (P : List (List Rc)) (rest : List PV) (c : Nat) (h0 : FoI ks 0 (P, c)) (hk : ks.length ≤ 300) (hp : pre.length ≤ 300) :
    PCE Try.prog 54 [.ptr 0 0 0, .ptr 1 0 0, .ptr 2 0 0, .ptr 3 0 0] (FH v1 v2 vp n sb (pre ++ mi ks) most pre.length P rest c)
      (fun r h => r = .tup [] ∧ ∃ vp' rest', h = FH v1 v2 vp' n sb (pre ++ mi ks) most (pre ++ mi ks).length (ks.foldl applyM (P, c)).1 rest' (ks.foldl applyM (P, c)).2) := by
  have c0 : (0 : Int) ≤ pre.length := by omega
  have c1 : pre.length ≤ (pre ++ mi ks).length := by simp
  have c2 : (pre ++ mi ks).length - pre.length = ks.length := by simp [mi]
  unfold FH
  refine PCE.of_body tok Try.func54 (by kernel_rfl) rfl Try.ntmps54 (by rw [Try.results54]) (by simp) (W_go tok mix [0, 1, 2, 3, 5, 6, 7, 13, 14, 15] (by decide +kernel) rfl ?_)
  simp +decide only [go_sem, Nat.reduceAdd, Nat.reduceSub, Nat.reduceMul]
  simp +decide  only [go_sem, Nat.reduceAdd, Nat.reduceSub, Nat.reduceMul, c0, c1, c2, Nat.le_refl]
  refine LoopJ.of tok mix [0, 1, 2, 3, 5, 6, 7, 13, 14, 15] (fun z : Nat × Nat × List (List Rc) × Nat × List PV => ⟨tm [(0, .ptr 0 0 0), (1, .ptr 1 0 0), (2, .ptr 2 0 0), (3, .ptr 3 0 0), (13, .sl 6 v2 1 pre.length ks.length), (14, .int .i64 ks.length), (15, .int .i64 z.1)],
      FH v1 v2 z.2.1 n sb (pre ++ mi ks) most pre.length z.2.2.1 z.2.2.2.2 z.2.2.2.1, 51⟩)
    (fun z => z.1 ≤ ks.length ∧ (z.2.2.1, z.2.2.2.1) = (ks.take z.1).foldl applyM (P, c) ∧ FoI ks z.1 (z.2.2.1, z.2.2.2.1)) (fun z => ks.length - z.1) (0, vp, P, c, rest) [0, 1, 2, 3, 4, 5, 6, 7] rfl ⟨Nat.zero_le _, rfl, h0⟩ (by simp +decide [go_sem]) (by decide +kernel) (by decide +kernel) ?_
  rintro ⟨j, vp, P', c', rest⟩ ⟨i1, i2, i3⟩
  dsimp only at i1 i2 i3
  simp +decide  only [go_sem, Nat.reduceAdd, Nat.reduceSub, Nat.reduceMul]
  refine BrJ.ofP (fun g1 => ?_) fun g1 => ?_
  · have g1' : j < ks.length := by omega
    have d0 : (0 : Int) ≤ j := by omega
    obtain ⟨hlt, i3'⟩ := i3.step g1'
    have i2' : (ks.take (j + 1)).foldl applyM (P, c) = applyM (P', c') (ks.getD j 0) := by
      rw [take_snoc (l := ks) g1', List.foldl_append, ← i2]; rfl
    dsimp only at hlt
    obtain ⟨i31, i32, i33, i34⟩ := i3
    dsimp only at i32 i33 i34
    have htot := tot_get P' _ hlt
    have hmn := mergeN_le (P'.getD (ks.getD j 0) []) (P'.getD (ks.getD j 0 + 1) [])
    generalize hi : ks.getD j 0 = i at *
    have d1 : (0 : Int) ≤ i := by omega
    have d2 : (i : Int) < P'.length := by omega
    have d3 : (0 : Int) ≤ (i : Int) + 1 := by omega
    have d4 : (i : Int) + 1 < P'.length := by omega
    have d5 : ((i : Int) + 1).toNat = i + 1 := by omega
    simp +decide  only [go_sem, Nat.reduceAdd, Nat.reduceSub, Nat.reduceMul, g1, d0, mi_get pre ks j g1', hi, d1, d2, d3, d4, d5, wrap_in (n := ↑i + 1) (by omega) (by omega), vzs_get P' rest i (by omega), vzs_get P' rest (i + 1) hlt]
    refine CallJ.of [] (1) (c_mergeI 0 0 (P'.getD i []) (P'.getD (i + 1) []) (by omega)) (by simp +decide [go_sem]) ?_
    rintro _ _ ⟨ver, rfl, rfl⟩
    refine ⟨by simp [go_sem], by simp [go_sem], ?_⟩
    have d6 : i + 1 ≤ (vzs P' ++ rest).length := by rw [List.length_append, vzs_length]; omega
    simp +decide  only [go_sem, Nat.reduceAdd, Nat.reduceSub, Nat.reduceMul, d1, d2, d6, wrap_in (n := ↑c' + ↑(mergeN (P'.getD i []) (P'.getD (i + 1) []))) (by omega) (by omega), take_rks, spl_vzs P' rest i _ (by omega), wrap_in (n := ↑i + 1) (by omega) (by omega), wrap_in (n := ↑i + 2) (by omega) (by omega)]
    refine CallJ.of [5] (1) (c_DeleteR 0 (by decide) vp P'.length (i + 1) (↑i + 1) (↑i + 2) (by omega) (by omega) (vzs (P'.set i (mergeR (P'.getD i []) (P'.getD (i + 1) [])))) rest (by rw [vzs_length, List.length_set]) hlt (vzs_one _) (by omega)) (by simp +decide [go_sem]) ?_
    rintro _ _ ⟨rfl, rfl⟩
    have hcells : (vzs (P'.set i (mergeR (P'.getD i []) (P'.getD (i + 1) [])))).take (i + 1) ++ (vzs (P'.set i (mergeR (P'.getD i []) (P'.getD (i + 1) [])))).drop (i + 1 + 1) = vzs (applyM (P', c') i).1 := by
      unfold vzs applyM
      rw [← List.map_take, ← List.map_drop, ← List.map_append]
      congr 1
      rw [List.take_set, List.drop_set_of_lt (by omega), show i + 2 = i + 1 + 1 from rfl]
      have : (P'.take (i + 1)).set i (mergeR (P'.getD i []) (P'.getD (i + 1) [])) = P'.take i ++ [mergeR (P'.getD i []) (P'.getD (i + 1) [])] := by
        rw [List.take_add_one, List.getElem?_eq_getElem (by omega)]
        exact set_mid _ _ _ [] _ (by simp; omega)
      simp only
      rw [this]; simp
    have hal := applyM_len (P', c') i hlt
    have hac : (applyM (P', c') i).2 = c' + mergeN (P'.getD i []) (P'.getD (i + 1) []) := rfl
    dsimp only at hal
    rw [hcells]
    refine ⟨by simp [go_sem], by simp [go_sem], ?_⟩
    simp +decide  only [go_sem, Nat.reduceAdd, Nat.reduceSub, Nat.reduceMul, wrap_in (n := ↑j + 1) (by omega) (by omega)]
    refine InvJ.mk (j + 1, vp, (applyM (P', c') i).1, (applyM (P', c') i).2, .nils :: rest) [0, 1, 2, 3, 4, 5, 6, 7] rfl ⟨by simp only; omega, by simp only; rw [i2'], i3'⟩ (by simp only; omega) ?_
    simp only [hal, hac]
    simp +decide [go_sem]
  · have : j = ks.length := by omega
    subst this
    rw [List.take_length] at i2
    simp +decide  only [go_sem, Nat.reduceAdd, Nat.reduceSub, Nat.reduceMul, g1]
    refine Ret.selN [0, 1, 2, 3, 4, 5, 6, 7] rfl (by simp +decide [go_sem]) ?_
    rw [← i2]
    exact ⟨rfl, vp, rest, rfl⟩
end Go.Proofs.Ytaloakmffdejgaa
