/- Adaptive sort, in plain Lean: the parts and their merges. -/
import Derived.Test.YtaloakmffdejgaaAdH
set_option linter.unusedSimpArgs false
set_option linter.unusedVariables false
namespace Go.Proofs.Ytaloakmffdejgaa
open Go.Fw

def cutR (L : List Rc) (a m : Nat) : List Rc := (L.drop a).take m
def partOf (L : List Rc) (r : Rc) : List Rc :=
  if 1 < r.2 ∧ ((cutR L r.1.toNat r.2.toNat).getD 1 default).1 < ((cutR L r.1.toNat r.2.toNat).getD 0 default).1 then (cutR L r.1.toNat r.2.toNat).reverse else cutR L r.1.toNat r.2.toNat
def partsOf (L : List Rc) : List (List Rc) := (runsOf L).map (partOf L)

theorem runsFrom_ok (L : List Rc) : ∀ (f i : Nat) (r : Rc), r ∈ runsFrom L f i → ∃ a m : Nat, r = ((a : Int), (m : Int)) ∧ 1 ≤ m ∧ a + m ≤ L.length
  | 0, i, r, h => by simp [runsFrom] at h
  | f + 1, i, r, h => by
    simp only [runsFrom] at h
    split at h
    · rename_i hi
      rcases List.mem_cons.1 h with rfl | h
      · have h1 := runEnd_ge L i
        have h2 := runEnd_le L i hi
        exact ⟨i, runEnd L i - i, by ext <;> simp; omega, by omega, by omega⟩
      · exact runsFrom_ok L f _ r h
    · cases h
theorem runs_ok (L : List Rc) {i : Nat} (h : i < (runsOf L).length) : ∃ a m : Nat, (runsOf L).getD i default = ((a : Int), (m : Int)) ∧ 1 ≤ m ∧ a + m ≤ L.length := by
  refine runsFrom_ok L _ _ _ (?_ : (runsOf L).getD i default ∈ runsOf L)
  simp [List.getD, h]

theorem cutR_length (L : List Rc) (a m : Nat) (h : a + m ≤ L.length) : (cutR L a m).length = m := by simp [cutR]; omega
theorem partOf_length (L : List Rc) (a m : Nat) (h : a + m ≤ L.length) : (partOf L ((a : Int), (m : Int))).length = m := by
  unfold partOf
  split
  · rw [List.length_reverse]; exact cutR_length L a m h
  · exact cutR_length L a m h

theorem rks_cut (L : List Rc) (a m : Nat) : ((fl rc L).drop (a * 2)).take (m * 2) = fl rc (cutR L a m) := by
  unfold cutR
  rw [fl_drop rc 2 rc2, fl_take rc 2 rc2]

def lens (P : List (List Rc)) : List Int := P.map fun p => (p.length : Int)
def stepA (z : (List Int × List Int) × List (List Rc) × Nat) (p : List Rc) : (List Int × List Int) × List (List Rc) × Nat :=
  (stepP z.1 p.length, (settle false (z.1.1 ++ [(p.length : Int)])).2.foldl applyM (z.2.1 ++ [p], z.2.2))
def pushA (P : List (List Rc)) : (List Int × List Int) × List (List Rc) × Nat := P.foldl stepA (([], []), [], 0)
def adaptP (P : List (List Rc)) : List (List Rc) × Nat := (settle true (pushA P).1.1).2.foldl applyM (pushA P).2

theorem lens_length (P : List (List Rc)) : (lens P).length = P.length := by simp [lens]
theorem lens_get (P : List (List Rc)) (i : Nat) : (lens P).getD i 0 = ((P.getD i []).length : Int) := by
  simp only [lens, List.getD, List.getElem?_map]
  cases P[i]? <;> rfl
theorem lens_applyM (z : List (List Rc) × Nat) (i : Nat) : lens (applyM z i).1 = mergeS (lens z.1) i := by
  unfold mergeS
  rw [lens_get, lens_get]
  simp [lens, applyM, mergeR_length]

/-- The merges of the sizes are carried out on the parts. -/
theorem settleS_parts : ∀ (f : Nat) (fin : Bool) (z : List (List Rc) × Nat), Vm (settleS f fin (lens z.1)).2 z.1.length ∧ lens ((settleS f fin (lens z.1)).2.foldl applyM z).1 = (settleS f fin (lens z.1)).1
  | 0, fin, z => ⟨trivial, rfl⟩
  | f + 1, fin, z => by
    simp only [settleS]
    split
    · exact ⟨trivial, rfl⟩
    · rename_i i hi
      have hlt := nxt_lt hi
      rw [lens_length] at hlt
      have ih := settleS_parts f fin (applyM z i)
      rw [lens_applyM, applyM_len z i hlt] at ih
      exact ⟨⟨hlt, ih.1⟩, ih.2⟩
theorem settle_parts (fin : Bool) (z : List (List Rc) × Nat) : Vm (settle fin (lens z.1)).2 z.1.length ∧ lens ((settle fin (lens z.1)).2.foldl applyM z).1 = (settle fin (lens z.1)).1 := settleS_parts _ _ _

theorem lens_snoc (P : List (List Rc)) (p : List Rc) : lens (P ++ [p]) = lens P ++ [(p.length : Int)] := by simp [lens]

theorem pushA_inv : ∀ (P : List (List Rc)), (pushA P).1.1 = lens (pushA P).2.1 ∧ (pushA P).1 = pushes (lens P) := by
  have key : ∀ (P : List (List Rc)) (z : (List Int × List Int) × List (List Rc) × Nat), z.1.1 = lens z.2.1 → (P.foldl stepA z).1.1 = lens (P.foldl stepA z).2.1 ∧ (P.foldl stepA z).1 = (lens P).foldl stepP z.1 := by
    intro P
    induction P with
    | nil => intro z h; exact ⟨h, rfl⟩
    | cons p P ih =>
      intro z h
      rw [List.foldl_cons]
      have hz : (stepA z p).1.1 = lens (stepA z p).2.1 := by
        have := (settle_parts false (z.2.1 ++ [p], z.2.2)).2
        simp only [lens_snoc, ← h] at this
        exact this.symm
      obtain ⟨q1, q2⟩ := ih _ hz
      exact ⟨q1, by rw [q2]; rfl⟩
  intro P
  exact key P _ rfl

theorem pushA_snoc (P : List (List Rc)) (p : List Rc) : pushA (P ++ [p]) = stepA (pushA P) p := by unfold pushA; rw [List.foldl_append]; rfl

theorem foldl_tot : ∀ (ks : List Nat) (z : List (List Rc) × Nat), Vm ks z.1.length → tot (ks.foldl applyM z).1 = tot z.1 ∧ (ks.foldl applyM z).1.length ≤ z.1.length ∧ (ks.foldl applyM z).2 ≤ z.2 + ks.length * tot z.1 ∧ (ks.foldl applyM z).1.length + ks.length = z.1.length
  | [], z, _ => by simp
  | i :: ks, z, h => by
    have h1 := applyM_len z i h.1
    have h2 := applyM_tot z i h.1
    have h3 := mergeN_le (z.1.getD i []) (z.1.getD (i + 1) [])
    have h4 := tot_get z.1 i h.1
    have h5 : (applyM z i).2 = z.2 + mergeN (z.1.getD i []) (z.1.getD (i + 1) []) := rfl
    obtain ⟨q1, q2, q3, q4⟩ := foldl_tot ks (applyM z i) (by rw [h1]; exact h.2)
    rw [List.foldl_cons, List.length_cons, Nat.succ_mul]
    rw [h2] at q1 q3
    have := h.1
    exact ⟨q1, by omega, by omega, by omega⟩

theorem pushA_bound : ∀ (P : List (List Rc)), tot (pushA P).2.1 = tot P ∧ (pushA P).2.1.length + (pushA P).1.2.length = P.length ∧ (pushA P).2.2 ≤ (pushA P).1.2.length * tot P := by
  intro P
  have key : ∀ n, ∀ P : List (List Rc), P.length = n → tot (pushA P).2.1 = tot P ∧ (pushA P).2.1.length + (pushA P).1.2.length = P.length ∧ (pushA P).2.2 ≤ (pushA P).1.2.length * tot P := by
    intro n
    induction n with
    | zero =>
      intro P hP
      have : P = [] := List.eq_nil_of_length_eq_zero hP
      subst this
      simp [pushA, tot]
    | succ n ih =>
      intro P hP
      obtain ⟨Q, p, rfl⟩ : ∃ Q p, P = Q ++ [p] := ⟨P.dropLast, P.getLast (by intro h; simp [h] at hP), (List.dropLast_concat_getLast _).symm⟩
      obtain ⟨i1, i2, i3⟩ := ih Q (by simpa using hP)
      have hs := (pushA_inv Q).1
      have hv := settle_parts false ((pushA Q).2.1 ++ [p], (pushA Q).2.2)
      simp only [lens_snoc, ← hs] at hv
      obtain ⟨q1, q2, q3, q4⟩ := foldl_tot _ ((pushA Q).2.1 ++ [p], (pushA Q).2.2) hv.1
      rw [pushA_snoc]
      simp only [stepA, stepP]
      rw [tot_app, tot_cons] at q1 q3
      rw [List.length_append] at q4
      simp only [List.length_append, mi_length, tot_app, tot_cons, List.length_cons, List.length_nil] at q1 q2 q3 q4 ⊢
      have hm : (pushA Q).1.2.length * tot Q ≤ (pushA Q).1.2.length * (tot Q + (p.length + tot [])) := Nat.mul_le_mul_left _ (Nat.le_add_right _ _)
      rw [Nat.add_mul]
      rw [i1] at q1 q3
      exact ⟨q1, by omega, by omega⟩
  exact key _ P rfl

theorem runs_tot (L : List Rc) : ∀ (f i : Nat), L.length - i ≤ f → i ≤ L.length → tot ((runsFrom L f i).map (partOf L)) + i = L.length
  | 0, i, h, h2 => by simp [runsFrom, tot]; omega
  | f + 1, i, h, h2 => by
    simp only [runsFrom]
    split
    · rename_i hi
      have h1 := runEnd_ge L i
      have h3 := runEnd_le L i hi
      have ih := runs_tot L f (runEnd L i) (by omega) h3
      rw [List.map_cons, tot_cons]
      have e : (partOf L ((i : Int), (runEnd L i : Int) - i)).length = runEnd L i - i := by
        have := partOf_length L i (runEnd L i - i) (by omega)
        rw [show ((runEnd L i - i : Nat) : Int) = (runEnd L i : Int) - i by omega] at this
        exact this
      omega
    · simp [tot]; omega
theorem parts_tot (L : List Rc) : tot (partsOf L) = L.length := runs_tot L _ 0 (by omega) (Nat.zero_le _)

theorem lens_nonneg (P : List (List Rc)) : ∀ x ∈ lens P, 0 ≤ x := by
  intro x hx
  obtain ⟨p, _, rfl⟩ := List.mem_map.1 hx
  omega
theorem lens_sum : ∀ (P : List (List Rc)), (lens P).sum = tot P
  | [] => rfl
  | p :: P => by rw [show lens (p :: P) = (p.length : Int) :: lens P from rfl, List.sum_cons, lens_sum P, tot_cons]; omega
theorem lens_ok (P : List (List Rc)) (h : tot P ≤ 1000) : okS 1000000000 (lens P) := ⟨lens_nonneg P, by rw [lens_sum]; omega⟩
theorem tot_take (P : List (List Rc)) (i : Nat) : tot (P.take i) ≤ tot P := by
  have : tot P = tot (P.take i) + tot (P.drop i) := by rw [← tot_app, List.take_append_drop]
  omega
end Go.Proofs.Ytaloakmffdejgaa
