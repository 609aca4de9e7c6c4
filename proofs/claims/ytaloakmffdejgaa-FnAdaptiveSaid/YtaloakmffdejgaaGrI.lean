/- The merge of two sorted runs in place, in plain Lean. -/
import Derived.Test.YtaloakmffdejgaaGrH
set_option linter.unusedSimpArgs false
set_option linter.unusedVariables false
namespace Go.Proofs.Ytaloakmffdejgaa

section Srt
variable {α : Type} [Inhabited α] {lt : α → α → Bool}

omit [Inhabited α] in
theorem SWO.le_lt (hw : SWO lt) {x y z : α} (h1 : lt y x = false) (h2 : lt y z = true) : lt x z = true := by
  cases h : lt x z with
  | true => rfl
  | false => rw [hw.ntr _ _ _ h1 h] at h2; cases h2
omit [Inhabited α] in
theorem SWO.lt_le (hw : SWO lt) {x y z : α} (h1 : lt x y = true) (h2 : lt z y = false) : lt x z = true := by
  cases h : lt x z with
  | true => rfl
  | false => rw [hw.ntr _ _ _ h h2] at h1; cases h1

/-- The search for the place of the first element. -/
structure B1 (lt : α → α → Bool) (D : List α) (a b i j : Nat) : Prop where
  h1 : a + 1 ≤ i
  h2 : i ≤ j
  h3 : j ≤ b
  h4 : ∀ k, a + 1 ≤ k → k < i → lt (D.getD k default) (D.getD a default) = true
  h5 : ∀ k, j ≤ k → k < b → lt (D.getD k default) (D.getD a default) = false

theorem B1.hi (hw : SWO lt) {D : List α} {a b i j h : Nat} (s : SO lt D (a + 1) b) (q : B1 lt D a b i j) (h1 : i ≤ h) (h2 : h < j) (hl : lt (D.getD h default) (D.getD a default) = true) : B1 lt D a b (h + 1) j :=
  ⟨by have := q.h1; omega, by omega, q.h3, fun k k1 k2 => hw.le_lt (s.le hw k1 (j := h) (by omega) (by have := q.h3; omega)) hl, q.h5⟩
theorem B1.lo (hw : SWO lt) {D : List α} {a b i j h : Nat} (s : SO lt D (a + 1) b) (q : B1 lt D a b i j) (h1 : i ≤ h) (h2 : h < j) (hl : lt (D.getD h default) (D.getD a default) = false) : B1 lt D a b i h :=
  ⟨q.h1, h1, by have := q.h3; omega, q.h4, fun k k1 k2 => hw.ntr _ _ _ (s.le hw (i := h) (by have := q.h1; omega) k1 k2) hl⟩

structure M1 (D E : List α) (a k : Nat) : Prop where
  len : E.length = D.length
  get : ∀ p, E.getD p default = if a ≤ p ∧ p < k then D.getD (p + 1) default else if p = k then D.getD a default else D.getD p default
theorem M1.start (D : List α) (a : Nat) : M1 D D a a := ⟨rfl, fun p => by
  by_cases h : p = a
  · subst h; simp
  · rw [if_neg (by omega), if_neg h]⟩
theorem M1.step {D E : List α} {a k : Nat} (q : M1 D E a k) (hk : a ≤ k) (hl : k + 1 < D.length) : M1 D (swp E k (k + 1)) a (k + 1) := by
  refine ⟨by rw [swp_length, q.len], fun p => ?_⟩
  rw [swp_get E (by rw [q.len]; omega) (by rw [q.len]; omega), q.get, q.get, q.get]
  by_cases h1 : p = k + 1
  · subst h1; rw [if_pos rfl, if_neg (by omega), if_pos rfl, if_neg (by omega), if_pos rfl]
  · by_cases h2 : p = k
    · subst h2; rw [if_neg h1, if_pos rfl, if_neg (by omega), if_neg (by omega), if_pos (by omega)]
    · rw [if_neg h1, if_neg h2, if_neg h2, if_neg h1]
      by_cases h3 : a ≤ p ∧ p < k
      · rw [if_pos h3, if_pos (by omega)]
      · rw [if_neg h3, if_neg (by omega)]
theorem M1.less {D E : List α} {a b i k : Nat} (q : M1 D E a k) (s : B1 lt D a b i i) (hk : a ≤ k) (hi : k + 1 < i) : lt (E.getD (k + 1) default) (E.getD k default) = true := by
  rw [q.get, q.get, if_neg (by omega), if_neg (by omega), if_neg (by omega), if_pos rfl]
  exact s.h4 _ (by omega) hi
theorem M1.done (hw : SWO lt) {D E : List α} {a b i k : Nat} (q : M1 D E a k) (s : B1 lt D a b i i) (so : SO lt D (a + 1) b) (hk : k + 1 = i) : SO lt E a b := by
  intro x y h1 h2 h3
  have := s.h1
  rw [q.get, q.get]
  by_cases hy : y < k
  · rw [if_pos (by omega), if_pos (by omega)]; exact so _ _ (by omega) (by omega) (by have := s.h3; omega)
  · rw [if_neg (by omega)]
    by_cases hy2 : y = k
    · rw [if_pos hy2, if_pos (by omega)]; exact hw.asym (s.h4 _ (by omega) (by omega))
    · rw [if_neg hy2]
      by_cases hx : x < k
      · rw [if_pos (by omega)]; exact so _ _ (by omega) (by omega) h3
      · rw [if_neg (by omega)]
        by_cases hx2 : x = k
        · rw [if_pos hx2]; exact s.h5 _ (by omega) h3
        · rw [if_neg hx2]; exact so _ _ (by omega) h2 h3

/-- The search for the place of the last element. -/
structure B2 (lt : α → α → Bool) (D : List α) (a m i j : Nat) : Prop where
  h1 : a ≤ i
  h2 : i ≤ j
  h3 : j ≤ m
  h4 : ∀ k, a ≤ k → k < i → lt (D.getD m default) (D.getD k default) = false
  h5 : ∀ k, j ≤ k → k < m → lt (D.getD m default) (D.getD k default) = true

theorem B2.hi (hw : SWO lt) {D : List α} {a m i j h : Nat} (s : SO lt D a m) (q : B2 lt D a m i j) (h1 : i ≤ h) (h2 : h < j) (hl : lt (D.getD m default) (D.getD h default) = false) : B2 lt D a m (h + 1) j :=
  ⟨by have := q.h1; omega, by omega, q.h3, fun k k1 k2 => hw.ntr _ _ _ hl (s.le hw k1 (j := h) (by omega) (by have := q.h3; omega)), q.h5⟩
theorem B2.lo (hw : SWO lt) {D : List α} {a m i j h : Nat} (s : SO lt D a m) (q : B2 lt D a m i j) (h1 : i ≤ h) (h2 : h < j) (hl : lt (D.getD m default) (D.getD h default) = true) : B2 lt D a m i h :=
  ⟨q.h1, h1, by have := q.h3; omega, q.h4, fun k k1 k2 => hw.lt_le hl (s.le hw (i := h) (by have := q.h1; omega) k1 k2)⟩

structure M2 (D E : List α) (m k : Nat) : Prop where
  len : E.length = D.length
  get : ∀ p, E.getD p default = if k < p ∧ p ≤ m then D.getD (p - 1) default else if p = k then D.getD m default else D.getD p default
theorem M2.start (D : List α) (m : Nat) : M2 D D m m := ⟨rfl, fun p => by
  by_cases h : p = m
  · subst h; simp
  · rw [if_neg (by omega), if_neg h]⟩
theorem M2.step {D E : List α} {m k : Nat} (q : M2 D E m (k + 1)) (hk : k + 1 ≤ m) (hl : m < D.length) : M2 D (swp E k (k + 1)) m k := by
  refine ⟨by rw [swp_length, q.len], fun p => ?_⟩
  rw [swp_get E (by rw [q.len]; omega) (by rw [q.len]; omega), q.get, q.get, q.get]
  by_cases h1 : p = k + 1
  · subst h1; rw [if_pos rfl, if_neg (by omega), if_neg (by omega), if_pos (by omega)]; simp
  · by_cases h2 : p = k
    · subst h2; rw [if_neg h1, if_pos rfl, if_neg (by omega), if_pos rfl, if_neg (by omega), if_pos rfl]
    · rw [if_neg h1, if_neg h2, if_neg h1, if_neg h2]
      by_cases h3 : k + 1 < p ∧ p ≤ m
      · rw [if_pos h3, if_pos (by omega)]
      · rw [if_neg h3, if_neg (by omega)]
theorem M2.less {D E : List α} {a m i k : Nat} (q : M2 D E m (k + 1)) (s : B2 lt D a m i i) (hk : i ≤ k) (hm : k + 1 ≤ m) : lt (E.getD (k + 1) default) (E.getD k default) = true := by
  rw [q.get, q.get, if_neg (by omega), if_pos rfl, if_neg (by omega), if_neg (by omega)]
  exact s.h5 _ hk (by omega)
theorem M2.done (hw : SWO lt) {D E : List α} {a m i : Nat} (q : M2 D E m i) (s : B2 lt D a m i i) (so : SO lt D a m) : SO lt E a (m + 1) := by
  intro x y h1 h2 h3
  have := s.h3
  have := s.h1
  rw [q.get, q.get]
  by_cases hx : i < x
  · rw [if_pos (by omega), if_pos (by omega)]; exact so _ _ (by omega) (by omega) (by omega)
  · rw [if_neg (c := i < x ∧ x ≤ m) (by omega)]
    by_cases hx2 : x = i
    · rw [if_pos hx2, if_pos (by omega)]; exact hw.asym (s.h5 _ (by omega) (by omega))
    · rw [if_neg hx2]
      by_cases hy : i < y
      · rw [if_pos (by omega)]; exact so _ _ (by omega) (by omega) (by omega)
      · rw [if_neg (by omega)]
        by_cases hy2 : y = i
        · rw [if_pos hy2]; exact s.h4 _ h1 (by omega)
        · rw [if_neg hy2]; exact so _ _ h1 h2 (by omega)

/-- The search for the rotation. -/
structure B3 (lt : α → α → Bool) (D : List α) (p s0 r0 s r : Nat) : Prop where
  h1 : s0 ≤ s
  h2 : s ≤ r
  h3 : r ≤ r0
  h4 : s0 < s → lt (D.getD (p - (s - 1)) default) (D.getD (s - 1) default) = false
  h5 : r < r0 → lt (D.getD (p - r) default) (D.getD r default) = true
theorem B3.hi {D : List α} {p s0 r0 s r c : Nat} (q : B3 lt D p s0 r0 s r) (h1 : s ≤ c) (h2 : c < r) (hl : lt (D.getD (p - c) default) (D.getD c default) = false) : B3 lt D p s0 r0 (c + 1) r :=
  ⟨by have := q.h1; omega, by omega, q.h3, fun _ => by simpa using hl, q.h5⟩
theorem B3.lo {D : List α} {p s0 r0 s r c : Nat} (q : B3 lt D p s0 r0 s r) (h1 : s ≤ c) (h2 : c < r) (hl : lt (D.getD (p - c) default) (D.getD c default) = true) : B3 lt D p s0 r0 s c :=
  ⟨q.h1, h1, by have := q.h3; omega, q.h4, fun _ => hl⟩

/-- Where the rotation lies. -/
structure B4 (lt : α → α → Bool) (D : List α) (a m b mid s e : Nat) : Prop where
  h1 : a ≤ s
  h2 : s ≤ m
  h3 : s ≤ mid
  h4 : mid ≤ e
  h5 : e ≤ b
  h6 : m ≤ e
  h7 : e + s = mid + m
  h8 : s < m → m < e → lt (D.getD (e - 1) default) (D.getD s default) = true
  h9 : a < s → e < b → lt (D.getD e default) (D.getD (s - 1) default) = false
theorem B3.out {D : List α} {a m b mid s : Nat} (ham : a < m) (hmb : m < b) (hmid : mid = (a + b) / 2) (q : B3 lt D (mid + m - 1) (if mid < m then mid + m - b else a) (if mid < m then mid else m) s s) : B4 lt D a m b mid s (mid + m - s) := by
  have h1 := q.h1
  have h3 := q.h3
  have h4 := q.h4
  have h5 := q.h5
  by_cases hc : mid < m
  · simp only [if_pos hc] at h1 h3 h4 h5
    refine ⟨by omega, by omega, by omega, by omega, by omega, by omega, by omega, fun x y => ?_, fun x y => ?_⟩
    · have := h5 (by omega)
      rwa [show mid + m - 1 - s = mid + m - s - 1 by omega] at this
    · have := h4 (by omega)
      rwa [show mid + m - 1 - (s - 1) = mid + m - s by omega] at this
  · simp only [if_neg hc] at h1 h3 h4 h5
    refine ⟨by omega, by omega, by omega, by omega, by omega, by omega, by omega, fun x y => ?_, fun x y => ?_⟩
    · have := h5 (by omega)
      rwa [show mid + m - 1 - s = mid + m - s - 1 by omega] at this
    · have := h4 (by omega)
      rwa [show mid + m - 1 - (s - 1) = mid + m - s by omega] at this

/-- What the rotation leaves. -/
structure Rt (D D1 : List α) (m mid s e : Nat) : Prop where
  len : D1.length = D.length
  get : ∀ p, D1.getD p default = if p < s then D.getD p default else if p < mid then D.getD (p + (m - s)) default else if p < e then D.getD (p - (e - m)) default else D.getD p default

theorem Rt.same {D : List α} {m mid s e : Nat} (h7 : e + s = mid + m) (h : s = m ∨ e = m) : Rt D D m mid s e := ⟨rfl, fun p => by
  rcases h with rfl | rfl
  · have : e = mid := by omega
    subst this
    by_cases c1 : p < s
    · rw [if_pos c1]
    · rw [if_neg c1]
      by_cases c2 : p < e
      · rw [if_pos c2, Nat.sub_self, Nat.add_zero]
      · rw [if_neg c2, if_neg c2]
  · have : s = mid := by omega
    subst this
    by_cases c1 : p < s
    · rw [if_pos c1]
    · rw [if_neg c1, if_neg c1]
      by_cases c2 : p < e
      · rw [if_pos c2, Nat.sub_self, Nat.sub_zero]
      · rw [if_neg c2]⟩

theorem Rt.of (hw : SWO lt) {D D1 : List α} {a m b mid s e : Nat} (q : B4 lt D a m b mid s e) (h1 : s < m) (h2 : m < e) (hb : b ≤ D.length) (so1 : SO lt D a m) (so2 : SO lt D m b) {P X Y S : List α} (e1 : D = P ++ X ++ Y ++ S) (e2 : D1 = P ++ Y ++ X ++ S) (hP : s = P.length) (hX : m = P.length + X.length) (hY : e = P.length + X.length + Y.length) :
    Rt D D1 m mid s e ∧ Loc lt D D1 a b := by
  have g1 : ∀ p, D.getD p default = if p < s then P.getD p default else if p < m then X.getD (p - s) default else if p < e then Y.getD (p - m) default else S.getD (p - e) default := by
    intro p
    rw [e1]
    simp only [List.getD, List.append_assoc]
    by_cases c1 : p < s
    · rw [if_pos c1, List.getElem?_append_left (by omega)]
    · rw [if_neg c1, List.getElem?_append_right (by omega)]
      by_cases c2 : p < m
      · rw [if_pos c2, List.getElem?_append_left (by omega), hP]
      · rw [if_neg c2, List.getElem?_append_right (by omega)]
        by_cases c3 : p < e
        · rw [if_pos c3, List.getElem?_append_left (by omega)]; congr 2; omega
        · rw [if_neg c3, List.getElem?_append_right (by omega)]; congr 2; omega
  have h7 := q.h7
  have g2 : ∀ p, D1.getD p default = if p < s then P.getD p default else if p < mid then Y.getD (p - s) default else if p < e then X.getD (p - mid) default else S.getD (p - e) default := by
    intro p
    rw [e2]
    simp only [List.getD, List.append_assoc]
    by_cases c1 : p < s
    · rw [if_pos c1, List.getElem?_append_left (by omega)]
    · rw [if_neg c1, List.getElem?_append_right (by omega)]
      by_cases c2 : p < mid
      · rw [if_pos c2, List.getElem?_append_left (by omega), hP]
      · rw [if_neg c2, List.getElem?_append_right (by omega)]
        by_cases c3 : p < e
        · rw [if_pos c3, List.getElem?_append_left (by omega)]; congr 2; omega
        · rw [if_neg c3, List.getElem?_append_right (by omega)]; congr 2; omega
  have hr : Rt D D1 m mid s e := by
    refine ⟨by rw [e1, e2]; simp; omega, fun p => ?_⟩
    rw [g2]
    by_cases c1 : p < s
    · rw [if_pos c1, if_pos c1, g1, if_pos c1]
    · rw [if_neg c1, if_neg c1]
      by_cases c2 : p < mid
      · rw [if_pos c2, if_pos c2, g1, if_neg (by omega), if_neg (by omega), if_pos (by omega)]; congr 1; omega
      · rw [if_neg c2, if_neg c2]
        by_cases c3 : p < e
        · rw [if_pos c3, if_pos c3, g1, if_neg (by omega), if_pos (by omega)]; congr 1; omega
        · rw [if_neg c3, if_neg c3, g1, if_neg c1, if_neg (by omega), if_neg c3]
  have := q.h1
  have := q.h5
  refine ⟨hr, hr.len, fun p hp => ?_, fun p p1 p2 => ?_, ?_⟩
  · rw [hr.get]
    by_cases c1 : p < s
    · rw [if_pos c1]
    · rw [if_neg c1, if_neg (by omega), if_neg (by omega)]
  · rw [hr.get]
    by_cases c1 : p < s
    · exact ⟨p, p1, p2, by rw [if_pos c1]⟩
    · by_cases c2 : p < mid
      · exact ⟨p + (m - s), by omega, by omega, by rw [if_neg c1, if_pos c2]⟩
      · by_cases c3 : p < e
        · exact ⟨p - (e - m), by omega, by omega, by rw [if_neg c1, if_neg c2, if_pos c3]⟩
        · exact ⟨p, p1, p2, by rw [if_neg c1, if_neg c2, if_neg c3]⟩
  · rw [e1, e2]
    refine Stb.rot hw fun x hx y hy => ?_
    obtain ⟨i, hi, rfl⟩ := List.getElem_of_mem hx
    obtain ⟨j, hj, rfl⟩ := List.getElem_of_mem hy
    have a1 : D.getD (s + i) default = X[i] := by
      rw [g1, if_neg (by omega), if_pos (by omega)]; simp [List.getD, hi]
    have a2 : D.getD (m + j) default = Y[j] := by
      rw [g1, if_neg (by omega), if_neg (by omega), if_pos (by omega)]; simp [List.getD, hj]
    rw [← a1, ← a2]
    have b1 := q.h8 h1 h2
    have b2 := so1.le hw (i := s) (j := s + i) (by omega) (by omega) (by omega)
    have b3 := so2.le hw (i := m + j) (j := e - 1) (by omega) (by omega) (by omega)
    exact hw.le_lt b3 (hw.lt_le b1 b2)

theorem Rt.runs (hw : SWO lt) {D D1 : List α} {a m b mid s e : Nat} (r : Rt D D1 m mid s e) (q : B4 lt D a m b mid s e) (so1 : SO lt D a m) (so2 : SO lt D m b) :
    SO lt D1 a s ∧ SO lt D1 s mid ∧ SO lt D1 mid e ∧ SO lt D1 e b ∧ ∀ x y, a ≤ x → x < mid → mid ≤ y → y < b → lt (D1.getD y default) (D1.getD x default) = false := by
  obtain ⟨h1, h2, h3, h4, h5, h6, h7, h8, h9⟩ := q
  refine ⟨fun x y x1 x2 x3 => ?_, fun x y x1 x2 x3 => ?_, fun x y x1 x2 x3 => ?_, fun x y x1 x2 x3 => ?_, fun x y x1 x2 x3 x4 => ?_⟩
  · rw [r.get, r.get, if_pos (by omega), if_pos (by omega)]; exact so1 _ _ x1 x2 (by omega)
  · rw [r.get, r.get, if_neg (by omega), if_pos x3, if_neg (by omega), if_pos (by omega)]; exact so2 _ _ (by omega) (by omega) (by omega)
  · rw [r.get, r.get, if_neg (by omega), if_neg (by omega), if_pos x3, if_neg (by omega), if_neg (by omega), if_pos (by omega)]; exact so1 _ _ (by omega) (by omega) (by omega)
  · rw [r.get, r.get, if_neg (by omega), if_neg (by omega), if_neg (by omega), if_neg (by omega), if_neg (by omega), if_neg (by omega)]; exact so2 _ _ (by omega) (by omega) (by omega)
  · rw [r.get y, r.get x, if_neg (by omega), if_neg (by omega)]
    by_cases cy : y < e
    · rw [if_pos cy]
      by_cases cx : x < s
      · rw [if_pos cx]; exact so1 _ _ x1 (by omega) (by omega)
      · rw [if_neg cx, if_pos x2]
        have b1 := h8 (by omega) (by omega)
        have b2 := so1.le hw (i := s) (j := y - (e - m)) (by omega) (by omega) (by omega)
        have b3 := so2.le hw (i := x + (m - s)) (j := e - 1) (by omega) (by omega) (by omega)
        exact hw.asym (hw.le_lt b3 (hw.lt_le b1 b2))
    · rw [if_neg cy]
      by_cases cx : x < s
      · rw [if_pos cx]
        have b1 := h9 (by omega) (by omega)
        have b2 := so1.le hw (i := x) (j := s - 1) (by omega) (by omega) (by omega)
        have b3 := so2.le hw (i := e) (j := y) (by omega) (by omega) (by omega)
        exact hw.ntr _ _ _ b3 (hw.ntr _ _ _ b1 b2)
      · rw [if_neg cx, if_pos x2]; exact so2 _ _ (by omega) (by omega) (by omega)

theorem SO.cat {D : List α} {a mid b : Nat} (h1 : SO lt D a mid) (h2 : SO lt D mid b) (h3 : ∀ x y, a ≤ x → x < mid → mid ≤ y → y < b → lt (D.getD y default) (D.getD x default) = false) : SO lt D a b := by
  intro x y x1 x2 x3
  by_cases cy : y < mid
  · exact h1 x y x1 x2 cy
  · by_cases cx : x < mid
    · exact h3 x y x1 cx (by omega) x3
    · exact h2 x y (by omega) x2 x3

theorem SO.halves {D1 D2 D3 : List α} {a mid b : Nat} (l1 : Loc lt D1 D2 a mid) (l2 : Loc lt D2 D3 mid b) (s1 : SO lt D2 a mid) (s2 : SO lt D3 mid b) (h3 : ∀ x y, a ≤ x → x < mid → mid ≤ y → y < b → lt (D1.getD y default) (D1.getD x default) = false) : SO lt D3 a b := by
  refine SO.cat (mid := mid) (s1.congr fun i i1 i2 => l2.out i (.inl i2)) s2 fun x y x1 x2 y1 y2 => ?_
  obtain ⟨k, k1, k2, k3⟩ := l2.from_ y y1 y2
  rw [k3, l2.out x (.inl x2), l1.out k (.inr k1)]
  obtain ⟨i, i1, i2, i3⟩ := l1.from_ x x1 x2
  rw [i3]
  exact h3 i k i1 i2 k1 k2
end Srt
end Go.Proofs.Ytaloakmffdejgaa
