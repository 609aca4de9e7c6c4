/- Adaptive sort, in plain Lean: what it comes to is the one stable arrangement. -/
import Derived.Test.YtaloakmffdejgaaAdI
set_option linter.unusedSimpArgs false
set_option linter.unusedVariables false
namespace Go.Proofs.Ytaloakmffdejgaa
open Go.Fw

def Sd (D : List Rc) : Prop := D.Pairwise fun x y => x.1 ≤ y.1

theorem eqvR (x y : Rc) : eqv ltR x y = decide (x.1 = y.1) := by
  unfold eqv ltR
  by_cases h : x.1 = y.1
  · simp [h]
  · have : x.1 < y.1 ∨ y.1 < x.1 := by omega
    rcases this with h2 | h2 <;> simp [h, h2] <;> omega

theorem Sd.unique : ∀ (D E : List Rc), Sd D → Sd E → (∀ z, D.filter (eqv ltR z) = E.filter (eqv ltR z)) → D = E
  | [], [], _, _, _ => rfl
  | [], y :: E, _, _, h => by
    have := h y
    rw [List.filter_cons] at this
    simp [eqvR] at this
  | x :: D, [], _, _, h => by
    have := h x
    rw [List.filter_cons] at this
    simp [eqvR] at this
  | x :: D, y :: E, hd, he, h => by
    have hd' := List.pairwise_cons.1 hd
    have he' := List.pairwise_cons.1 he
    have hxy : x.1 = y.1 := by
      have h1 : x ∈ (y :: E).filter (eqv ltR x) := by rw [← h x]; simp [eqvR]
      have h2 : y ∈ (x :: D).filter (eqv ltR y) := by rw [h y]; simp [eqvR]
      have h1' := (List.mem_filter.1 h1).1
      have h2' := (List.mem_filter.1 h2).1
      rcases List.mem_cons.1 h1' with e | e
      · rw [e]
      · rcases List.mem_cons.1 h2' with e2 | e2
        · rw [e2]
        · have := hd'.1 _ e2
          have := he'.1 _ e
          omega
    have hx := h x
    rw [List.filter_cons, List.filter_cons, if_pos (by simp [eqvR]), if_pos (by simp [eqvR, hxy])] at hx
    injection hx with e1 e2
    subst e1
    congr 1
    refine Sd.unique D E hd'.2 he'.2 fun z => ?_
    have := h z
    rw [List.filter_cons, List.filter_cons] at this
    split at this
    · injection this
    · exact this

theorem mergeR_mem : ∀ (a b : List Rc) (x : Rc), x ∈ mergeR a b → x ∈ a ∨ x ∈ b
  | [], b, x, h => .inr (by simpa [mergeR] using h)
  | y :: a, [], x, h => .inl (by simpa [mergeR] using h)
  | y :: a, z :: b, x, h => by
    rw [mergeR] at h
    split at h
    · rcases List.mem_cons.1 h with e | e
      · exact .inr (by simp [e])
      · rcases mergeR_mem (y :: a) b x e with e | e
        · exact .inl e
        · exact .inr (by simp [e])
    · rcases List.mem_cons.1 h with e | e
      · exact .inl (by simp [e])
      · rcases mergeR_mem a (z :: b) x e with e | e
        · exact .inl (by simp [e])
        · exact .inr e

theorem mergeR_sd : ∀ (a b : List Rc), Sd a → Sd b → Sd (mergeR a b)
  | [], b, ha, hb => by simpa [mergeR] using hb
  | y :: a, [], ha, hb => by simpa [mergeR] using ha
  | y :: a, z :: b, ha, hb => by
    have ha' := List.pairwise_cons.1 ha
    have hb' := List.pairwise_cons.1 hb
    rw [mergeR]
    split
    · rename_i hlt
      refine List.pairwise_cons.2 ⟨fun x hx => ?_, mergeR_sd (y :: a) b ha hb'.2⟩
      rcases mergeR_mem _ _ _ hx with e | e
      · rcases List.mem_cons.1 e with e | e
        · rw [e]; omega
        · have := ha'.1 _ e; omega
      · exact hb'.1 _ e
    · rename_i hlt
      refine List.pairwise_cons.2 ⟨fun x hx => ?_, mergeR_sd a (z :: b) ha'.2 hb⟩
      rcases mergeR_mem _ _ _ hx with e | e
      · exact ha'.1 _ e
      · rcases List.mem_cons.1 e with e | e
        · rw [e]; omega
        · have := hb'.1 _ e; omega

theorem mergeR_filter (z : Rc) : ∀ (a b : List Rc), Sd a → (mergeR a b).filter (eqv ltR z) = a.filter (eqv ltR z) ++ b.filter (eqv ltR z)
  | [], b, _ => by simp [mergeR]
  | y :: a, [], _ => by simp [mergeR]
  | y :: a, w :: b, ha => by
    have ha' := List.pairwise_cons.1 ha
    rw [mergeR]
    split
    · rename_i hlt
      rw [List.filter_cons, mergeR_filter z (y :: a) b ha, List.filter_cons (x := w)]
      by_cases hz : eqv ltR z w = true
      · rw [if_pos hz, if_pos hz]
        have : (y :: a).filter (eqv ltR z) = [] := by
          rw [List.filter_eq_nil_iff]
          intro x hx hzx
          rw [eqvR] at hz hzx
          simp only [decide_eq_true_eq] at hz hzx
          rcases List.mem_cons.1 hx with e | e
          · rw [e] at hzx; omega
          · have := ha'.1 _ e; omega
        rw [this]; rfl
      · rw [if_neg hz, if_neg hz]
    · rw [List.filter_cons, mergeR_filter z a (w :: b) ha'.2, List.filter_cons (x := y)]
      split <;> rfl

/-- All parts are in order, and all that is equal is as it was. -/
def Good (L : List Rc) (P : List (List Rc)) : Prop := (∀ p ∈ P, Sd p) ∧ ∀ z, P.flatten.filter (eqv ltR z) = L.filter (eqv ltR z)

theorem Good.apply {L : List Rc} {z : List (List Rc) × Nat} (h : Good L z.1) {i : Nat} (hi : i + 1 < z.1.length) : Good L (applyM z i).1 := by
  obtain ⟨h1, h2⟩ := h
  have hs := split_at z.1 i hi
  have m1 : z.1.getD i [] ∈ z.1 := by simp [List.getD, List.getElem?_eq_getElem (show i < z.1.length by omega)]
  have m2 : z.1.getD (i + 1) [] ∈ z.1 := by simp [List.getD, List.getElem?_eq_getElem hi]
  refine ⟨fun p hp => ?_, fun x => ?_⟩
  · unfold applyM at hp
    rcases List.mem_append.1 hp with e | e
    · exact h1 p (List.mem_of_mem_take e)
    · rcases List.mem_cons.1 e with e | e
      · rw [e]; exact mergeR_sd _ _ (h1 _ m1) (h1 _ m2)
      · exact h1 p (List.mem_of_mem_drop e)
  · rw [← h2 x]
    conv => rhs; rw [hs]
    unfold applyM
    simp only [List.flatten_append, List.flatten_cons, List.filter_append, mergeR_filter x _ _ (h1 _ m1), List.append_assoc]

theorem Good.fold {L : List Rc} : ∀ (ks : List Nat) (z : List (List Rc) × Nat), Good L z.1 → Vm ks z.1.length → Good L (ks.foldl applyM z).1
  | [], z, h, _ => h
  | i :: ks, z, h, hv => by
    rw [List.foldl_cons]
    exact Good.fold ks _ (h.apply hv.1) (by rw [applyM_len z i hv.1]; exact hv.2)

theorem Good.snoc {L M : List Rc} {P : List (List Rc)} {p : List Rc} (h : Good L P) (hp : Sd p) (hf : ∀ z, p.filter (eqv ltR z) = M.filter (eqv ltR z)) : Good (L ++ M) (P ++ [p]) := by
  refine ⟨fun x hx => ?_, fun z => ?_⟩
  · rcases List.mem_append.1 hx with e | e
    · exact h.1 x e
    · rw [List.mem_singleton.1 e]; exact hp
  · rw [List.flatten_append, List.filter_append, h.2 z, List.filter_append, ← hf z]; simp

theorem pushA_good : ∀ (PL : List (List Rc × List Rc)), (∀ x ∈ PL, Sd x.1 ∧ ∀ z, x.1.filter (eqv ltR z) = x.2.filter (eqv ltR z)) → Good (PL.map (·.2)).flatten (pushA (PL.map (·.1))).2.1 := by
  intro PL
  have key : ∀ n, ∀ PL : List (List Rc × List Rc), PL.length = n → (∀ x ∈ PL, Sd x.1 ∧ ∀ z, x.1.filter (eqv ltR z) = x.2.filter (eqv ltR z)) → Good (PL.map (·.2)).flatten (pushA (PL.map (·.1))).2.1 := by
    intro n
    induction n with
    | zero =>
      intro PL hP h
      have : PL = [] := List.eq_nil_of_length_eq_zero hP
      subst this
      exact ⟨fun p hp => (by cases hp), fun z => rfl⟩
    | succ n ih =>
      intro PL hP h
      obtain ⟨Q, p, rfl⟩ : ∃ Q p, PL = Q ++ [p] := ⟨PL.dropLast, PL.getLast (by intro h; simp [h] at hP), (List.dropLast_concat_getLast _).symm⟩
      have i1 := ih Q (by simpa using hP) fun x hx => h x (by simp [hx])
      obtain ⟨p1, p2⟩ := h p (by simp)
      have hs := (pushA_inv (Q.map (·.1))).1
      have hv := settle_parts false ((pushA (Q.map (·.1))).2.1 ++ [p.1], (pushA (Q.map (·.1))).2.2)
      simp only [lens_snoc, ← hs] at hv
      rw [List.map_append, List.map_append, List.map_singleton, List.map_singleton, pushA_snoc, List.flatten_append]
      have := Good.fold _ ((pushA (Q.map (·.1))).2.1 ++ [p.1], (pushA (Q.map (·.1))).2.2) (i1.snoc (M := p.2) p1 p2) hv.1
      simpa [stepA, stepP] using this
  exact key _ PL rfl

theorem settleS_done : ∀ (f : Nat) (fin : Bool) (st : List Int), st.length ≤ f → nxt (settleS f fin st).1 fin = none
  | 0, fin, st, h => by
    have : st = [] := List.eq_nil_of_length_eq_zero (by omega)
    subst this
    simp [settleS, nxt]
  | f + 1, fin, st, h => by
    simp only [settleS]
    split
    · rename_i hn; exact hn
    · rename_i i hi
      have h1 := nxt_lt hi
      exact settleS_done f fin (mergeS st i) (by rw [mergeS_length st i h1]; omega)

theorem nxt_true {st : List Int} (h : nxt st true = none) : st.length < 2 := by
  unfold nxt at h
  by_cases h0 : st.length < 2
  · exact h0
  · rw [if_neg h0, if_pos rfl] at h
    split at h <;> cases h

theorem adaptP_one (PP : List (List Rc)) : (adaptP PP).1.length ≤ 1 := by
  have h1 := settle_parts true (pushA PP).2
  rw [← (pushA_inv PP).1] at h1
  have h2 := nxt_true (settleS_done _ true (pushA PP).1.1 (Nat.le_refl _))
  have h3 : lens (adaptP PP).1 = (settle true (pushA PP).1.1).1 := h1.2
  have h4 : (lens (adaptP PP).1).length < 2 := by rw [h3]; exact h2
  rw [lens_length] at h4
  omega

theorem adaptP_single (p : List Rc) : adaptP [p] = ([p], 0) := by
  have h1 : pushA [p] = ((lens [p], []), [p], 0) := by
    show stepA (([], []), [], 0) p = _
    unfold stepA stepP
    rw [List.nil_append, settle_none (by simp [nxt])]
    rfl
  unfold adaptP
  rw [h1, settle_none (by simp [nxt, lens])]
  rfl

theorem adv_all (p : Nat → Bool) (n : Nat) : ∀ f k j, k ≤ j → j < adv p n f k → p j = true
  | 0, k, j, h1, h2 => by simp only [adv] at h2; omega
  | f + 1, k, j, h1, h2 => by
    simp only [adv] at h2
    split at h2
    · rename_i h
      by_cases e : j = k
      · rw [e]; exact h.2
      · exact adv_all p n f (k + 1) j (by omega) h2
    · omega
theorem adv_full (p : Nat → Bool) (n : Nat) (hp : ∀ j, 1 ≤ j → j < n → p j = true) : ∀ f k, 1 ≤ k → n - k ≤ f → k ≤ n → adv p n f k = n
  | 0, k, h1, h2, h3 => by simp only [adv]; omega
  | f + 1, k, h1, h2, h3 => by
    simp only [adv]
    by_cases h : k < n
    · rw [if_pos ⟨h, hp k h1 h⟩]
      exact adv_full p n hp f (k + 1) (by omega) (by omega) (by omega)
    · rw [if_neg (fun hh => h hh.1)]; omega

theorem cut_get (L : List Rc) (a m k : Nat) (h : a + m ≤ L.length) (hk : k < m) : (cutR L a m).getD k default = L.getD (a + k) default := by
  unfold cutR
  simp only [List.getD]
  rw [List.getElem?_take, if_pos hk, List.getElem?_drop]

theorem mono_of_step (g : Nat → Int) (m : Nat) (h : ∀ k, k + 1 < m → g k ≤ g (k + 1)) : ∀ j i, i ≤ j → j < m → g i ≤ g j
  | 0, i, h1, h2 => by have : i = 0 := by omega
                       subst this; exact Int.le_refl _
  | j + 1, i, h1, h2 => by
    by_cases e : i = j + 1
    · rw [e]; exact Int.le_refl _
    · have := mono_of_step g m h j i (by omega) (by omega)
      have := h j h2
      omega

theorem sd_index {D : List Rc} (h : ∀ i j, i < j → j < D.length → (D.getD i default).1 ≤ (D.getD j default).1) : Sd D := by
  unfold Sd
  rw [List.pairwise_iff_getElem]
  intro i j hi hj hij
  have := h i j hij hj
  simpa [List.getD, hi, hj] using this
theorem index_sd {D : List Rc} (hs : Sd D) (i j : Nat) (hij : i < j) (hj : j < D.length) : (D.getD i default).1 ≤ (D.getD j default).1 := by
  unfold Sd at hs
  rw [List.pairwise_iff_getElem] at hs
  have hi : i < D.length := by omega
  have := hs i j hi hj hij
  simpa [List.getD, hi, hj] using this

theorem sd_step {D : List Rc} (h : ∀ k, k + 1 < D.length → (D.getD k default).1 ≤ (D.getD (k + 1) default).1) : Sd D :=
  sd_index fun i j hij hj => mono_of_step (fun k => (D.getD k default).1) D.length h j i (by omega) hj

/-- A strictly falling list has nothing equal. -/
theorem fall_filter : ∀ (D : List Rc), D.Pairwise (fun x y => y.1 < x.1) → ∀ z, (D.filter (eqv ltR z)).reverse = D.filter (eqv ltR z)
  | [], _, z => rfl
  | x :: D, h, z => by
    have h' := List.pairwise_cons.1 h
    rw [List.filter_cons]
    split
    · rename_i hz
      have : D.filter (eqv ltR z) = [] := by
        rw [List.filter_eq_nil_iff]
        intro y hy hzy
        rw [eqvR] at hz hzy
        simp only [decide_eq_true_eq] at hz hzy
        have := h'.1 y hy
        omega
      rw [this]; rfl
    · exact fall_filter D h'.2 z

theorem part_good (L : List Rc) (i : Nat) (hi : i < L.length) : Sd (partOf L ((i : Int), (runEnd L i : Int) - i)) ∧ ∀ z, (partOf L ((i : Int), (runEnd L i : Int) - i)).filter (eqv ltR z) = (cutR L i (runEnd L i - i)).filter (eqv ltR z) := by
  have h1 := runEnd_ge L i
  have h2 := runEnd_le L i hi
  obtain ⟨m, hm⟩ : ∃ m, runEnd L i = i + m := ⟨runEnd L i - i, by omega⟩
  have e1 : ((runEnd L i : Int) - i) = (m : Int) := by omega
  have e2 : runEnd L i - i = m := by omega
  rw [e1, e2]
  have hcl := cutR_length L i m (by omega)
  by_cases hf : fall L i
  · have hall : ∀ k, i + 1 ≤ k → k < i + m → desc L k = true := fun k hk1 hk2 => by
      have : runEnd L i = adv (desc L) L.length (L.length - (i + 1)) (i + 1) := by unfold runEnd; rw [if_pos hf]
      exact adv_all _ _ _ _ k hk1 (by rw [← this, hm]; exact hk2)
    have hm2 : 2 ≤ m := by
      have : runEnd L i = adv (desc L) L.length (L.length - (i + 1)) (i + 1) := by unfold runEnd; rw [if_pos hf]
      have hd : desc L (i + 1) = true := by unfold desc; simp only [Nat.add_sub_cancel]; simpa using hf.2
      rw [adv_next hf.1 hd] at this
      have := adv_ge (desc L) L.length (L.length - (i + 1 + 1)) (i + 1 + 1)
      omega
    have hstep : ∀ k, k + 1 < m → ((cutR L i m).getD (k + 1) default).1 < ((cutR L i m).getD k default).1 := fun k hk => by
      rw [cut_get L i m _ (by omega) hk, cut_get L i m k (by omega) (by omega)]
      have := hall (i + (k + 1)) (by omega) (by omega)
      unfold desc at this
      simp only [decide_eq_true_eq] at this
      rw [show i + (k + 1) - 1 = i + k by omega] at this
      exact this
    have hp : partOf L ((i : Int), (m : Int)) = (cutR L i m).reverse := by
      unfold partOf
      have h01 := hstep 0 (by omega)
      simp only [Int.toNat_natCast]
      rw [if_pos ⟨by omega, h01⟩]
    rw [hp]
    have hpw : (cutR L i m).Pairwise (fun x y => y.1 < x.1) := by
      rw [List.pairwise_iff_getElem]
      intro a b ha hb hab
      have key : ∀ b a, a < b → b < m → ((cutR L i m).getD b default).1 < ((cutR L i m).getD a default).1 := by
        intro b
        induction b with
        | zero => intro a h; omega
        | succ b ih =>
          intro a h1 h2
          have h3 := hstep b h2
          by_cases e : a = b
          · rw [e]; exact h3
          · have := ih a (by omega) (by omega); omega
      have := key b a hab (by omega)
      simpa [List.getD, ha, hb] using this
    refine ⟨?_, fun z => ?_⟩
    · unfold Sd
      rw [List.pairwise_reverse]
      exact hpw.imp fun h => by omega
    · rw [List.filter_reverse]
      exact fall_filter _ hpw z
  · have hall : ∀ k, i + 1 ≤ k → k < i + m → desc L k = false := fun k hk1 hk2 => by
      have : runEnd L i = adv (fun k => !desc L k) L.length (L.length - (i + 1)) (i + 1) := by unfold runEnd; rw [if_neg hf]
      have := adv_all (fun k => !desc L k) _ _ _ k hk1 (by rw [← this, hm]; exact hk2)
      simpa using this
    have hstep : ∀ k, k + 1 < m → ((cutR L i m).getD k default).1 ≤ ((cutR L i m).getD (k + 1) default).1 := fun k hk => by
      rw [cut_get L i m _ (by omega) hk, cut_get L i m k (by omega) (by omega)]
      have := hall (i + (k + 1)) (by omega) (by omega)
      unfold desc at this
      simp only [decide_eq_false_iff_not] at this
      rw [show i + (k + 1) - 1 = i + k by omega] at this
      omega
    have hp : partOf L ((i : Int), (m : Int)) = cutR L i m := by
      unfold partOf
      simp only [Int.toNat_natCast]
      rw [if_neg]
      rintro ⟨q1, q2⟩
      have := hstep 0 (by omega)
      simp only [Nat.zero_add] at this
      omega
    rw [hp]
    exact ⟨sd_step fun k hk => hstep k (by omega), fun z => rfl⟩

theorem runs_flat (L : List Rc) : ∀ (f i : Nat), L.length - i ≤ f → i ≤ L.length → ((runsFrom L f i).map fun r => cutR L r.1.toNat r.2.toNat).flatten = L.drop i
  | 0, i, h, h2 => by simp only [runsFrom]; rw [List.drop_of_length_le (by omega)]; rfl
  | f + 1, i, h, h2 => by
    simp only [runsFrom]
    split
    · rename_i hi
      have h1 := runEnd_ge L i
      have h3 := runEnd_le L i hi
      have ih := runs_flat L f (runEnd L i) (by omega) h3
      rw [List.map_cons, List.flatten_cons, ih]
      have e : ((runEnd L i : Int) - i).toNat = runEnd L i - i := by omega
      simp only [Int.toNat_natCast, e]
      unfold cutR
      rw [show L.drop (runEnd L i) = (L.drop i).drop (runEnd L i - i) by rw [List.drop_drop]; congr 1; omega, List.take_append_drop]
    · rw [List.drop_of_length_le (by omega)]; rfl

theorem runs_start (L : List Rc) : ∀ (f i : Nat) (r : Rc), r ∈ runsFrom L f i → ∃ a : Nat, a < L.length ∧ r = ((a : Int), (runEnd L a : Int) - a)
  | 0, i, r, h => by simp [runsFrom] at h
  | f + 1, i, r, h => by
    simp only [runsFrom] at h
    split at h
    · rename_i hi
      rcases List.mem_cons.1 h with e | h
      · exact ⟨i, hi, e⟩
      · exact runs_start L f _ r h
    · cases h

theorem adapt_good (L : List Rc) : Good L (adaptP (partsOf L)).1 := by
  have h0 := pushA_good ((runsOf L).map fun r => (partOf L r, cutR L r.1.toNat r.2.toNat)) (by
    intro x hx
    obtain ⟨r, hr, rfl⟩ := List.mem_map.1 hx
    obtain ⟨a, ha, rfl⟩ := runs_start L _ _ r hr
    have := part_good L a ha
    have e : ((runEnd L a : Int) - a).toNat = runEnd L a - a := by have := runEnd_ge L a; omega
    simp only [Int.toNat_natCast, e]
    exact this)
  rw [List.map_map, List.map_map] at h0
  have e1 : ((runsOf L).map ((·.2) ∘ fun r => (partOf L r, cutR L r.1.toNat r.2.toNat))).flatten = L := by
    have := runs_flat L L.length 0 (by omega) (Nat.zero_le _)
    rw [List.drop_zero] at this
    exact this
  have e2 : (runsOf L).map ((·.1) ∘ fun r => (partOf L r, cutR L r.1.toNat r.2.toNat)) = partsOf L := rfl
  rw [e1, e2] at h0
  have h1 := settle_parts true (pushA (partsOf L)).2
  rw [← (pushA_inv (partsOf L)).1] at h1
  exact h0.fold _ _ h1.1

theorem adapt_tot (L : List Rc) : tot (adaptP (partsOf L)).1 = L.length := by
  have h1 := settle_parts true (pushA (partsOf L)).2
  rw [← (pushA_inv (partsOf L)).1] at h1
  have h2 := foldl_tot _ _ h1.1
  rw [show adaptP (partsOf L) = (settle true (pushA (partsOf L)).1.1).2.foldl applyM (pushA (partsOf L)).2 from rfl, h2.1, (pushA_bound _).1, parts_tot]

/-- What adaptive sort gives. -/
def outA (L : List Rc) : List Rc := (adaptP (partsOf L)).1.getD 0 []
theorem outA_good (L : List Rc) : Sd (outA L) ∧ (∀ z, (outA L).filter (eqv ltR z) = L.filter (eqv ltR z)) ∧ (outA L).length = L.length := by
  have h := adapt_good L
  have h1 := adaptP_one (partsOf L)
  have h2 := adapt_tot L
  unfold outA
  cases hA : (adaptP (partsOf L)).1 with
  | nil =>
    rw [hA] at h h2
    exact ⟨List.Pairwise.nil, fun z => h.2 z, h2⟩
  | cons p rest =>
    rw [hA] at h h1 h2
    have : rest = [] := List.eq_nil_of_length_eq_zero (by rw [List.length_cons] at h1; omega)
    subst this
    refine ⟨h.1 p (by simp), fun z => ?_, ?_⟩
    · have := h.2 z; simpa using this
    · simpa [tot] using h2
theorem outA_srt {L D : List Rc} (h : Srt L D) : D = outA L := by
  obtain ⟨h1, h2, h3⟩ := outA_good L
  refine Sd.unique D (outA L) (sd_index fun i j hij hj => ?_) h1 fun z => ?_
  · have hl := h.1.len
    have := h.2 i j (Nat.zero_le _) hij (by omega)
    unfold ltR at this
    simp only [decide_eq_false_iff_not] at this
    omega
  · rw [h2 z]; exact (h.1.stb z).symm
theorem outA_ok (L : List Rc) : okRs (outA L) = okRs L := by
  obtain ⟨h1, h2, h3⟩ := outA_good L
  have hm : ∀ x, x ∈ outA L ↔ x ∈ L := fun x => by
    have hx : eqv ltR x x = true := by simp [eqvR]
    have e := h2 x
    constructor
    · intro h
      have : x ∈ (outA L).filter (eqv ltR x) := List.mem_filter.2 ⟨h, hx⟩
      rw [e] at this
      exact (List.mem_filter.1 this).1
    · intro h
      have : x ∈ L.filter (eqv ltR x) := List.mem_filter.2 ⟨h, hx⟩
      rw [← e] at this
      exact (List.mem_filter.1 this).1
  unfold okRs
  rw [h3]
  congr 1
  rw [Bool.eq_iff_iff, List.all_eq_true, List.all_eq_true]
  exact ⟨fun h x hx => h x ((hm x).2 hx), fun h x hx => h x ((hm x).1 hx)⟩

theorem runs_sorted {A : List Rc} (hs : Sd A) (h0 : 0 < A.length) : runsOf A = [((0 : Int), (A.length : Int))] ∧ partsOf A = [A] := by
  have hst : ∀ k, 1 ≤ k → k < A.length → desc A k = false := fun k h1 h2 => by
    unfold desc
    have := index_sd hs (k - 1) k (by omega) h2
    simp only [decide_eq_false_iff_not]; omega
  have hnf : ¬ fall A 0 := by
    rintro ⟨q1, q2⟩
    have := index_sd hs 0 1 (by omega) q1
    simp only [Nat.zero_add] at q2
    omega
  have he : runEnd A 0 = A.length := by
    unfold runEnd
    rw [if_neg hnf]
    exact adv_full _ _ (fun j h1 h2 => by simp [hst j h1 h2]) _ _ (by omega) (by omega) (by omega)
  have hr : runsOf A = [((0 : Int), (A.length : Int))] := by
    have := runsFrom_step A 0 h0
    rw [he, Nat.sub_zero, Nat.sub_self] at this
    unfold runsOf
    rw [this]
    simp [runsFrom]
  refine ⟨hr, ?_⟩
  unfold partsOf
  rw [hr]
  simp only [List.map_cons, List.map_nil]
  congr 1
  unfold partOf
  have hc : cutR A (0 : Int).toNat (A.length : Int).toNat = A := by simp [cutR]
  rw [hc, if_neg]
  rintro ⟨q1, q2⟩
  have := index_sd hs 0 1 (by omega) (by omega)
  omega

theorem adapt_sorted {A : List Rc} (hs : Sd A) : outA A = A ∧ (adaptP (partsOf A)).2 = 0 := by
  by_cases h0 : 0 < A.length
  · have := (runs_sorted hs h0).2
    unfold outA
    rw [this, adaptP_single]
    exact ⟨rfl, rfl⟩
  · have : A = [] := List.eq_nil_of_length_eq_zero (by omega)
    subst this
    exact ⟨rfl, rfl⟩

theorem adapt_few {L : List Rc} (h : ¬ 1 < (runsOf L).length) : (adaptP (partsOf L)).2 = 0 := by
  have hl : (partsOf L).length = (runsOf L).length := by simp [partsOf]
  cases hp : partsOf L with
  | nil => rfl
  | cons p rest =>
    rw [hp] at hl
    have : rest = [] := List.eq_nil_of_length_eq_zero (by simp at hl; omega)
    subst this
    rw [adaptP_single]
end Go.Proofs.Ytaloakmffdejgaa
