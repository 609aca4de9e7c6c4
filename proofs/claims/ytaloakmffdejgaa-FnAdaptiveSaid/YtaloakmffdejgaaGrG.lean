/- Stable sorting, in plain Lean: what the sorts of package slices keep and reach. -/
import Derived.Test.YtaloakmffdejgaaGrF
set_option linter.unusedSimpArgs false
set_option linter.unusedVariables false
namespace Go.Proofs.Ytaloakmffdejgaa

section Srt
variable {α : Type} [Inhabited α] {lt : α → α → Bool}

structure SWO (lt : α → α → Bool) : Prop where
  irr : ∀ x, lt x x = false
  tr : ∀ x y z, lt x y = true → lt y z = true → lt x z = true
  ntr : ∀ x y z, lt x y = false → lt y z = false → lt x z = false

omit [Inhabited α] in
theorem SWO.asym (h : SWO lt) {x y : α} (hx : lt x y = true) : lt y x = false := by
  cases hy : lt y x with
  | false => rfl
  | true => have := h.tr _ _ _ hx hy; rw [h.irr] at this; cases this

def eqv (lt : α → α → Bool) (x y : α) : Bool := !lt x y && !lt y x
def Stb (lt : α → α → Bool) (D D' : List α) : Prop := ∀ x, D.filter (eqv lt x) = D'.filter (eqv lt x)
omit [Inhabited α] in
theorem Stb.refl (D : List α) : Stb lt D D := fun _ => rfl
omit [Inhabited α] in
theorem Stb.trans {D D' D2 : List α} (h : Stb lt D D') (h2 : Stb lt D' D2) : Stb lt D D2 := fun x => (h x).trans (h2 x)

omit [Inhabited α] in
theorem Stb.rot (h : SWO lt) {P X Y S : List α} (hxy : ∀ x ∈ X, ∀ y ∈ Y, lt y x = true) : Stb lt (P ++ X ++ Y ++ S) (P ++ Y ++ X ++ S) := by
  intro z
  simp only [List.filter_append]
  have : X.filter (eqv lt z) = [] ∨ Y.filter (eqv lt z) = [] := by
    cases hX : X.filter (eqv lt z) with
    | nil => exact .inl rfl
    | cons x xs =>
      refine .inr (List.filter_eq_nil_iff.2 fun y hy hyz => ?_)
      have hx : x ∈ X.filter (eqv lt z) := by rw [hX]; exact List.mem_cons_self
      obtain ⟨hx, hxz⟩ := List.mem_filter.1 hx
      have h1 := hxy x hx y hy
      simp only [eqv, Bool.and_eq_true, Bool.not_eq_true'] at hxz hyz
      have := h.ntr y z x hyz.2 hxz.1
      rw [this] at h1; cases h1
  rcases this with e | e <;> simp [e]

theorem getD_set (l : List α) (i j : Nat) (x : α) : (l.set i x).getD j default = if i = j ∧ j < l.length then x else l.getD j default := by
  simp only [List.getD, List.getElem?_set]
  by_cases h : i = j
  · subst h
    by_cases h2 : i < l.length
    · simp [h2]
    · simp [h2]
  · simp [h]

def swp (D : List α) (i j : Nat) : List α := (D.set i (D.getD j default)).set j (D.getD i default)
theorem swp_comm (D : List α) (j : Nat) : (D.set (j + 1) (D.getD j default)).set j (D.getD (j + 1) default) = swp D j (j + 1) := by
  unfold swp
  rw [List.set_comm _ _ (by omega)]
theorem swp_length (D : List α) (i j : Nat) : (swp D i j).length = D.length := by simp [swp]
theorem swp_get (D : List α) {i j : Nat} (hi : i < D.length) (hj : j < D.length) (k : Nat) : (swp D i j).getD k default = if k = j then D.getD i default else if k = i then D.getD j default else D.getD k default := by
  unfold swp
  rw [getD_set, getD_set]
  simp only [List.length_set]
  by_cases h1 : k = j
  · subst h1; simp [hj]
  · rw [if_neg h1, if_neg (fun h => h1 h.1.symm)]
    by_cases h2 : k = i
    · subst h2; simp [hi]
    · rw [if_neg h2, if_neg (fun h => h2 h.1.symm)]

theorem split2 (D : List α) (i : Nat) (h : i + 1 < D.length) : D = D.take i ++ [D.getD i default] ++ [D.getD (i + 1) default] ++ D.drop (i + 2) := by
  have e1 := drop_cons (l := D) (i := i) (by omega)
  have e2 := drop_cons (l := D) (i := i + 1) h
  conv => lhs; rw [← List.take_append_drop i D, e1, e2]
  simp

theorem list_ext {l l' : List α} (hl : l.length = l'.length) (h : ∀ i, i < l.length → l.getD i default = l'.getD i default) : l = l' := by
  apply List.ext_getElem hl
  intro i h1 h2
  have := h i h1
  simpa [List.getD, h1, h2] using this

theorem swp_split (D : List α) (i : Nat) (h : i + 1 < D.length) : swp D i (i + 1) = D.take i ++ [D.getD (i + 1) default] ++ [D.getD i default] ++ D.drop (i + 2) := by
  apply list_ext
  · rw [swp_length]; simp; omega
  · intro k hk
    rw [swp_length] at hk
    rw [swp_get D (by omega) h]
    have l0 : (D.take i).length = i := by simp; omega
    simp only [List.getD, List.append_assoc]
    by_cases h1 : k < i
    · rw [if_neg (by omega), if_neg (by omega), List.getElem?_append_left (by omega), List.getElem?_take, if_pos h1]
    · rw [List.getElem?_append_right (by omega), l0]
      by_cases h2 : k = i
      · subst h2; simp
      · by_cases h3 : k = i + 1
        · subst h3
          have : i + 1 - i = 1 := by omega
          simp [this]
        · rw [if_neg h3, if_neg h2]
          obtain ⟨m, rfl⟩ : ∃ m, k = i + 2 + m := ⟨k - i - 2, by omega⟩
          have : i + 2 + m - i = m + 1 + 1 := by omega
          simp [this]

theorem Stb.swp (h : SWO lt) {D : List α} {i : Nat} (hi : i + 1 < D.length) (hl : lt (D.getD (i + 1) default) (D.getD i default) = true) : Stb lt D (swp D i (i + 1)) := by
  rw [swp_split D i hi]
  have := Stb.rot h (P := D.take i) (X := [D.getD i default]) (Y := [D.getD (i + 1) default]) (S := D.drop (i + 2)) (by simpa using hl)
  rwa [← split2 D i hi] at this

/-- What stays as it is, and where what is new came from. -/
structure Loc (lt : α → α → Bool) (D D' : List α) (a b : Nat) : Prop where
  len : D'.length = D.length
  out : ∀ i, i < a ∨ b ≤ i → D'.getD i default = D.getD i default
  from_ : ∀ i, a ≤ i → i < b → ∃ k, a ≤ k ∧ k < b ∧ D'.getD i default = D.getD k default
  stb : Stb lt D D'

theorem Loc.refl (D : List α) (a b : Nat) : Loc lt D D a b := ⟨rfl, fun _ _ => rfl, fun i h1 h2 => ⟨i, h1, h2, rfl⟩, Stb.refl D⟩
theorem Loc.trans {D D1 D2 : List α} {a b : Nat} (h : Loc lt D D1 a b) (h2 : Loc lt D1 D2 a b) : Loc lt D D2 a b :=
  ⟨h2.len.trans h.len, fun i hi => (h2.out i hi).trans (h.out i hi), fun i x y => by
    obtain ⟨k, k1, k2, k3⟩ := h2.from_ i x y
    obtain ⟨m, m1, m2, m3⟩ := h.from_ k k1 k2
    exact ⟨m, m1, m2, k3.trans m3⟩, h.stb.trans h2.stb⟩
theorem Loc.wide {D D' : List α} {a b c d : Nat} (h : Loc lt D D' a b) (hc : c ≤ a) (hd : b ≤ d) : Loc lt D D' c d :=
  ⟨h.len, fun i hi => h.out i (by omega), fun i x y => by
    by_cases hi : a ≤ i ∧ i < b
    · obtain ⟨k, k1, k2, k3⟩ := h.from_ i hi.1 hi.2
      exact ⟨k, by omega, by omega, k3⟩
    · exact ⟨i, x, y, h.out i (by omega)⟩, h.stb⟩
theorem Loc.swp (h : SWO lt) {D : List α} {i a b : Nat} (ha : a ≤ i) (hb : i + 1 < b) (hi : i + 1 < D.length) (hl : lt (D.getD (i + 1) default) (D.getD i default) = true) : Loc lt D (swp D i (i + 1)) a b :=
  ⟨swp_length _ _ _, fun k hk => by rw [swp_get D (by omega) hi, if_neg (by omega), if_neg (by omega)], fun k h1 h2 => by
    rw [swp_get D (by omega) hi]
    by_cases e : k = i + 1
    · exact ⟨i, by omega, by omega, by rw [if_pos e]⟩
    · by_cases e2 : k = i
      · exact ⟨i + 1, by omega, by omega, by rw [if_neg e, if_pos e2]⟩
      · exact ⟨k, h1, h2, by rw [if_neg e, if_neg e2]⟩, Stb.swp h hi hl⟩

def SO (lt : α → α → Bool) (D : List α) (a b : Nat) : Prop := ∀ i j, a ≤ i → i < j → j < b → lt (D.getD j default) (D.getD i default) = false

theorem SO.congr {D D' : List α} {a b : Nat} (h : SO lt D a b) (he : ∀ i, a ≤ i → i < b → D'.getD i default = D.getD i default) : SO lt D' a b := fun i j h1 h2 h3 => by
  rw [he i h1 (by omega), he j (by omega) h3]; exact h i j h1 h2 h3
theorem SO.le {D : List α} {a b : Nat} (hw : SWO lt) (h : SO lt D a b) {i j : Nat} (h1 : a ≤ i) (h2 : i ≤ j) (h3 : j < b) : lt (D.getD j default) (D.getD i default) = false := by
  by_cases e : i = j
  · subst e; exact hw.irr _
  · exact h i j h1 (by omega) h3

/-- The inner loop of the insertion: all is sorted but for the element at j, which is less than those behind it. -/
def InsI (lt : α → α → Bool) (E : List α) (a i j : Nat) : Prop := ∀ p q, a ≤ p → p < q → q < i + 1 → q ≠ j → lt (E.getD q default) (E.getD p default) = false

theorem InsI.start {E : List α} {a i : Nat} (h : SO lt E a i) : InsI lt E a i i := fun p q h1 h2 h3 h4 => h p q h1 h2 (by omega)
theorem InsI.step (hw : SWO lt) {E : List α} {a i j : Nat} (h : InsI lt E a i (j + 1)) (hj : a ≤ j) (hji : j + 1 < i + 1) (hl : i < E.length) (hlt : lt (E.getD (j + 1) default) (E.getD j default) = true) : InsI lt (swp E j (j + 1)) a i j := by
  intro p q h1 h2 h3 h4
  rw [swp_get E (by omega) (by omega), swp_get E (by omega) (by omega)]
  by_cases hq : q = j + 1
  · subst hq
    rw [if_pos rfl, if_neg (by omega)]
    by_cases hp : p = j
    · subst hp; rw [if_pos rfl]; exact hw.asym hlt
    · rw [if_neg hp]; exact h p j h1 (by omega) (by omega) (by omega)
  · rw [if_neg hq, if_neg h4]
    by_cases hp : p = j + 1
    · subst hp; rw [if_pos rfl]; exact h j q hj (by omega) h3 hq
    · rw [if_neg hp]
      by_cases hp2 : p = j
      · subst hp2; rw [if_pos rfl]; exact h (p + 1) q (by omega) (by omega) h3 hq
      · rw [if_neg hp2]; exact h p q h1 h2 h3 hq
theorem InsI.stop (hw : SWO lt) {E : List α} {a i j : Nat} (h : InsI lt E a i j) (hj : a ≤ j) (hs : a < j → lt (E.getD j default) (E.getD (j - 1) default) = false) : SO lt E a (i + 1) := by
  intro p q h1 h2 h3
  by_cases hq : q = j
  · subst hq
    by_cases hp : p = q - 1
    · rw [hp]; exact hs (by omega)
    · exact hw.ntr _ _ _ (hs (by omega)) (h p (q - 1) h1 (by omega) (by omega) (by omega))
  · exact h p q h1 h2 h3 hq
end Srt
end Go.Proofs.Ytaloakmffdejgaa
