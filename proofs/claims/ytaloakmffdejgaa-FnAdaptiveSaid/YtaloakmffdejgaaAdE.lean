/- The run stack. -/
import Derived.Test.YtaloakmffdejgaaAdD
set_option linter.unusedSimpArgs false
set_option linter.unusedVariables false
set_option maxRecDepth 100000
set_option maxHeartbeats 8000000
namespace Go.Proofs.Ytaloakmffdejgaa
open Go Go.Fw

def mergeS (st : List Int) (i : Nat) : List Int := st.take i ++ (st.getD i 0 + st.getD (i + 1) 0) :: st.drop (i + 2)
theorem mergeS_length (st : List Int) (i : Nat) (h : i + 1 < st.length) : (mergeS st i).length = st.length - 1 := by simp [mergeS]; omega

def nxt (st : List Int) (fin : Bool) : Option Nat :=
  if st.length < 2 then none
  else if fin = true then (if 3 ≤ st.length ∧ st.getD (st.length - 3) 0 < st.getD (st.length - 1) 0 then some (st.length - 3) else some (st.length - 2))
  else if (3 ≤ st.length ∧ st.getD (st.length - 3) 0 ≤ st.getD (st.length - 1) 0 + st.getD (st.length - 2) 0) ∨ (4 ≤ st.length ∧ st.getD (st.length - 4) 0 ≤ st.getD (st.length - 3) 0 + st.getD (st.length - 2) 0) then
    (if st.getD (st.length - 3) 0 < st.getD (st.length - 1) 0 then some (st.length - 3) else some (st.length - 2))
  else if st.getD (st.length - 2) 0 ≤ st.getD (st.length - 1) 0 then some (st.length - 2) else none

theorem nxt_lt {st : List Int} {fin : Bool} {i : Nat} (h : nxt st fin = some i) : i + 1 < st.length := by
  unfold nxt at h
  by_cases h0 : st.length < 2
  · rw [if_pos h0] at h; cases h
  · rw [if_neg h0] at h
    by_cases hf : fin = true
    · rw [if_pos hf] at h
      split at h <;> injection h with h <;> omega
    · rw [if_neg hf] at h
      split at h
      · rename_i hc
        have : 3 ≤ st.length := by rcases hc with hc | hc <;> omega
        split at h <;> injection h with h <;> omega
      · split at h
        · injection h with h; omega
        · cases h

def settleS : Nat → Bool → List Int → List Int × List Nat
  | 0, _, st => (st, [])
  | f + 1, fin, st =>
    match nxt st fin with
    | none => (st, [])
    | some i => ((settleS f fin (mergeS st i)).1, i :: (settleS f fin (mergeS st i)).2)
def settle (fin : Bool) (st : List Int) : List Int × List Nat := settleS st.length fin st

theorem settle_none {fin : Bool} {st : List Int} (h : nxt st fin = none) : settle fin st = (st, []) := by
  unfold settle
  cases st.length with
  | zero => rfl
  | succ f => simp only [settleS, h]
theorem settle_some {fin : Bool} {st : List Int} {i : Nat} (h : nxt st fin = some i) : settle fin st = ((settle fin (mergeS st i)).1, i :: (settle fin (mergeS st i)).2) := by
  have h1 := nxt_lt h
  have h2 := mergeS_length st i h1
  unfold settle
  rw [h2, show st.length = (st.length - 1) + 1 by omega]
  simp only [settleS, h, Nat.add_sub_cancel]

/-- Sizes on the stack. -/
def okS (M : Int) (st : List Int) : Prop := (∀ x ∈ st, 0 ≤ x) ∧ st.sum ≤ M

theorem sum_get : ∀ (st : List Int) (i : Nat), (∀ x ∈ st, 0 ≤ x) → 0 ≤ st.getD i 0 ∧ st.getD i 0 ≤ st.sum ∧ 0 ≤ st.sum
  | [], i, _ => by simp
  | x :: st, 0, h => by
    have h1 := h x (by simp)
    have h2 := sum_get st 0 fun y hy => h y (by simp [hy])
    simp; omega
  | x :: st, i + 1, h => by
    have h1 := h x (by simp)
    have h2 := sum_get st i fun y hy => h y (by simp [hy])
    simp only [List.getD_cons_succ, List.sum_cons]; omega

theorem mergeS_cons (x : Int) (st : List Int) (i : Nat) : mergeS (x :: st) (i + 1) = x :: mergeS st i := by simp [mergeS]

theorem mergeS_sum : ∀ (st : List Int) (i : Nat), i + 1 < st.length → (mergeS st i).sum = st.sum
  | [], i, h => by simp at h
  | [x], i, h => by simp at h
  | x :: y :: st, 0, _ => by simp [mergeS]; omega
  | x :: y :: st, i + 1, h => by
    rw [mergeS_cons, List.sum_cons, mergeS_sum (y :: st) i (by simpa using h), List.sum_cons (a := x)]

theorem okS.merge {M : Int} {st : List Int} (h : okS M st) {i : Nat} (hi : i + 1 < st.length) : okS M (mergeS st i) := by
  refine ⟨fun x hx => ?_, by rw [mergeS_sum st i hi]; exact h.2⟩
  unfold mergeS at hx
  rcases List.mem_append.1 hx with hx | hx
  · exact h.1 x (List.mem_of_mem_take hx)
  · rcases List.mem_cons.1 hx with rfl | hx
    · have h1 := (sum_get st i h.1).1
      have h2 := (sum_get st (i + 1) h.1).1
      omega
    · exact h.1 x (List.mem_of_mem_drop hx)

theorem okS.get {M : Int} {st : List Int} (h : okS M st) (i : Nat) : 0 ≤ st.getD i 0 ∧ st.getD i 0 ≤ M := by
  have := sum_get st i h.1
  have := h.2
  omega

theorem ints_geta (st : List Int) (rest : List PV) (i : Nat) (h : i < st.length) : (ints st ++ rest)[i]? = some (.int .i64 (st.getD i 0)) := by
  rw [List.getElem?_append_left (by rw [ints_length]; exact h), ints_get _ _ h]
theorem ints_geta1 (st : List Int) (rest : List PV) (i : Nat) (h : i < st.length) : (ints st ++ rest)[i * 1]? = some (.int .i64 (st.getD i 0)) := by
  rw [Nat.mul_one]; exact ints_geta st rest i h
theorem ints_allone (xs : List Int) : (ints xs).all one = true := by
  rw [List.all_eq_true]
  intro x hx
  obtain ⟨n, _, rfl⟩ := List.mem_map.1 hx
  rfl

theorem spl_one (cells : List PV) (i : Nat) (v : PV) (h : i < cells.length) : spl cells i [v] = cells.set i v := by
  unfold spl
  rw [List.set_eq_take_append_cons_drop, if_pos h]
  simp
theorem spl_ints (st : List Int) (rest : List PV) (i : Nat) (x : Int) (h : i < st.length) : spl (ints st ++ rest) i [.int .i64 x] = ints (st.set i x) ++ rest := by
  rw [spl_one _ _ _ (by rw [List.length_append, ints_length]; omega), List.set_append_left _ _ (by rw [ints_length]; exact h)]
  congr 1
  unfold ints
  rw [List.map_set]

@[go_sem] def RS (v1 v2 : Nat) (st : List Int) (rest : List PV) (ms : List Int) (most : Int) : List Blk :=
  [⟨0, 1, false, [.sl 1 v1 1 0 st.length, .sl 2 v2 1 0 ms.length, .int .i64 most]⟩, ⟨v1, 0, true, ints st ++ rest⟩, ⟨v2, 0, true, ints ms⟩]

theorem c_from (v1 v2 : Nat) (st : List Int) (rest : List PV) (ms : List Int) (most K : Int) (k : Nat) (hK : K = k) (hk : 1 ≤ k) (hn : k ≤ st.length) (hl : st.length ≤ 1000) :
    PCE Try.prog 122 [.ptr 0 0 0, .int .i64 K] (RS v1 v2 st rest ms most) (fun r h => r = .int .i64 (st.getD (st.length - k) 0) ∧ h = RS v1 v2 st rest ms most) := by
  subst hK
  have c0 : (0 : Int) ≤ (st.length : Int) - k := by omega
  have c1 : (st.length : Int) - k < st.length := by omega
  have c2 : ((st.length : Int) - k).toNat = st.length - k := by omega
  unfold RS
  refine PCE.of_body tok Try.func122 (by kernel_rfl) rfl Try.ntmps122 (by rw [Try.results122]) (by simp) (W_go tok mix [0, 1, 4] (by decide +kernel) rfl ?_)
  simp +decide only [go_sem, Nat.reduceAdd, Nat.reduceSub, Nat.reduceMul]
  simp +decide  only [go_sem, Nat.reduceAdd, Nat.reduceSub, Nat.reduceMul, wrap_in (n := ↑st.length - ↑k) (by omega) (by omega), c0, c1, c2, ints_geta _ _ _ (show st.length - k < st.length by omega)]
  refine Ret.sel [0, 1, 2] rfl (by simp +decide [go_sem]) ?_
  exact ⟨rfl, rfl⟩

theorem c_mergeAt (v1 v2 : Nat) (st : List Int) (rest : List PV) (ms : List Int) (most I : Int) (i : Nat) (hI : I = i) (hi : i + 1 < st.length) (hl : st.length ≤ 1000) (hm : ms.length ≤ 1000) (hok : okS 1000000000 st) :
    PCE Try.prog 123 [.ptr 0 0 0, .int .i64 I] (RS v1 v2 st rest ms most) (fun r h => r = .tup [] ∧ ∃ rest' : List PV, h = RS v1 (v2 + 1) (mergeS st i) rest' (ms ++ [(i : Int)]) most) := by
  subst hI
  have c0 : (0 : Int) ≤ i := by omega
  have c1 : (i : Int) < st.length := by omega
  have c2 : (0 : Int) ≤ (i : Int) + 1 := by omega
  have c3 : (i : Int) + 1 < st.length := by omega
  have c4 : ((i : Int) + 1).toNat = i + 1 := by omega
  have g1 := hok.get i
  have g2 := hok.get (i + 1)
  have b1 : (ms.length + 1) * 8 ≤ 140737488355328 := by omega
  have b2 : ms.length + 1 ≤ 140737488355328 := by omega
  have d1 : i + 1 ≤ (ints st ++ rest).length := by rw [List.length_append, ints_length]; omega
  have e1 : spl (ints st ++ rest) i [.int .i64 (st.getD i 0 + st.getD (i + 1) 0)] = ints (st.set i (st.getD i 0 + st.getD (i + 1) 0)) ++ rest := spl_ints _ _ _ _ (by omega)
  unfold RS
  refine PCE.of_body tok Try.func123 (by kernel_rfl) rfl Try.ntmps123 (by rw [Try.results123]) (by simp) (W_go tok mix [0, 1] (by decide +kernel) rfl ?_)
  simp +decide only [go_sem, Nat.reduceAdd, Nat.reduceSub, Nat.reduceMul]
  simp +decide  only [go_sem, Nat.reduceAdd, Nat.reduceSub, Nat.reduceMul, ints_length, take_ints, b1, b2, Nat.le_refl, c0, c1, c2, c3, c4, wrap_in (n := ↑i + 1) (by omega) (by omega), wrap_in (n := ↑i + 2) (by omega) (by omega), ints_geta _ _ _ (show i < st.length by omega), ints_geta _ _ _ hi, wrap_in (n := st.getD i 0 + st.getD (i + 1) 0) (by omega) (by omega), d1, e1]
  refine CallJ.of [1] (1) (c_DeleteI 0 (by decide) v1 st.length (i + 1) (↑i + 1) (↑i + 2) (by omega) (by omega) (ints (st.set i (st.getD i 0 + st.getD (i + 1) 0))) rest (by rw [ints_length, List.length_set]) hi (ints_allone _) hl) (by simp +decide [go_sem]) ?_
  rintro _ _ ⟨rfl, rfl⟩
  refine ⟨by simp [go_sem], by simp [go_sem], ?_⟩
  simp +decide  only [go_sem, Nat.reduceAdd, Nat.reduceSub, Nat.reduceMul]
  refine Ret.selN [0, 1, 2] rfl (by simp +decide [go_sem]) ?_
  refine ⟨rfl, .int .i64 0 :: rest, ?_⟩
  have hml := mergeS_length st i hi
  have hcells : (ints (st.set i (st.getD i 0 + st.getD (i + 1) 0))).take (i + 1) ++ (ints (st.set i (st.getD i 0 + st.getD (i + 1) 0))).drop (i + 1 + 1) = ints (mergeS st i) := by
    unfold ints mergeS
    rw [← List.map_take, ← List.map_drop, ← List.map_append]
    congr 1
    rw [List.take_set, List.drop_set_of_lt (by omega), show i + 2 = i + 1 + 1 from rfl]
    have : (st.take (i + 1)).set i (st.getD i 0 + st.getD (i + 1) 0) = st.take i ++ [st.getD i 0 + st.getD (i + 1) 0] := by
      rw [List.take_add_one, List.getElem?_eq_getElem (by omega)]
      exact set_mid _ _ _ [] _ (by simp; omega)
    rw [this]; simp
  simp +decide  only [go_sem, Nat.reduceAdd, Nat.reduceSub, Nat.reduceMul, hml, hcells, ints_append, List.length_append]
  rfl
end Go.Proofs.Ytaloakmffdejgaa
