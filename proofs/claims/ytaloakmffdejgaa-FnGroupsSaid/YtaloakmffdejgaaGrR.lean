/- The plain law of groups: joined groups are told by their keys. -/
import Derived.Test.YtaloakmffdejgaaGrQ
set_option linter.unusedSimpArgs false
set_option linter.unusedVariables false
namespace Go.Proofs.Ytaloakmffdejgaa

def kf (k : Int) (g : Gp) : Bool := decide (g.key = k)
def agg : Option Gp → Gp → Option Gp
  | none, g => some g
  | some h, g => some (comb h g)
def view (k : Int) (G : List Gp) : Option Gp := (G.filter (kf k)).foldl agg none
def plus : Option Gp → Option Gp → Option Gp
  | none, b => b
  | some a, none => some a
  | some a, some b => some (comb a b)

theorem comb_assoc (a b c : Gp) : comb (comb a b) c = comb a (comb b c) := by
  unfold comb
  simp only [Gp.mk.injEq, true_and]
  refine ⟨by omega, by omega, ?_, ?_⟩
  · repeat' split
    all_goals omega
  · repeat' split
    all_goals omega

theorem agg_some (L : List Gp) : ∀ a : Gp, L.foldl agg (some a) = plus (some a) (L.foldl agg none) := by
  induction L with
  | nil => intro a; rfl
  | cons c L ih =>
    intro a
    show L.foldl agg (some (comb a c)) = plus (some a) (L.foldl agg (some c))
    rw [ih (comb a c), ih c]
    cases L.foldl agg none with
    | none => rfl
    | some b => simp [plus, comb_assoc]

theorem view_append (k : Int) (A B : List Gp) : view k (A ++ B) = plus (view k A) (view k B) := by
  unfold view
  rw [List.filter_append, List.foldl_append]
  cases h : (A.filter (kf k)).foldl agg none with
  | none => rfl
  | some a => exact agg_some _ _

theorem view_one (k : Int) (g : Gp) : view k [g] = if g.key = k then some g else none := by
  unfold view kf
  by_cases h : g.key = k <;> simp [h, agg]
theorem view_cons (k : Int) (g : Gp) (G : List Gp) : view k (g :: G) = plus (if g.key = k then some g else none) (view k G) := by
  rw [← view_one, ← view_append]; rfl
theorem view_none {k : Int} {G : List Gp} (h : ∀ g ∈ G, g.key ≠ k) : view k G = none := by
  unfold view
  rw [List.filter_eq_nil_iff.2]
  · rfl
  · intro g hg; simp [kf, h g hg]

theorem snoc_of {l : List Gp} (h : l.length ≠ 0) : l = l.take (l.length - 1) ++ [l.getD (l.length - 1) default] := by
  have := take_snoc (l := l) (i := l.length - 1) (by omega)
  rw [show l.length - 1 + 1 = l.length by omega, List.take_length] at this
  exact this

theorem jstep_snoc (P : List Gp) (l g : Gp) : jstep (P ++ [l]) g = if l.key = g.key then P ++ [comb l g] else P ++ [l] ++ [g] := by
  have e1 : (P ++ [l]).length - 1 = P.length := by simp
  have e2 : (P ++ [l]).getD P.length default = l := getD_mid P l [] _ rfl
  unfold jstep
  rw [e1, e2]
  by_cases h : l.key = g.key
  · rw [if_neg (by simp [h]), if_pos h]
    exact set_mid P l _ [] _ rfl
  · rw [if_pos (.inr h), if_neg h]

theorem jstep_nil (g : Gp) : jstep [] g = [g] := by simp [jstep]

theorem jstep_cases (out : List Gp) (g : Gp) : (out = [] ∧ jstep out g = [g]) ∨ ∃ P l, out = P ++ [l] ∧ jstep out g = if l.key = g.key then P ++ [comb l g] else P ++ [l] ++ [g] := by
  by_cases h : out.length = 0
  · have : out = [] := List.eq_nil_of_length_eq_zero h
    subst this
    exact .inl ⟨rfl, jstep_nil g⟩
  · have e := jstep_snoc (out.take (out.length - 1)) (out.getD (out.length - 1) default) g
    have e0 := snoc_of h
    generalize out.take (out.length - 1) = P at e e0
    generalize out.getD (out.length - 1) default = l at e e0
    exact .inr ⟨P, l, e0, by rw [e0]; exact e⟩

theorem view_jstep (k : Int) (out : List Gp) (g : Gp) : view k (jstep out g) = view k (out ++ [g]) := by
  rcases jstep_cases out g with ⟨rfl, e⟩ | ⟨P, l, rfl, e⟩
  · rw [e]; rfl
  · rw [e]
    by_cases h : l.key = g.key
    · rw [if_pos h]
      rw [List.append_assoc, view_append, view_append k P]
      congr 1
      rw [List.singleton_append, view_cons k l, view_one, view_one]
      show (if g.key = k then some (comb l g) else none) = _
      by_cases h2 : g.key = k
      · rw [if_pos h2, if_pos (h.trans h2), if_pos h2]; rfl
      · rw [if_neg h2, if_neg (by rw [h]; exact h2), if_neg h2]; rfl
    · rw [if_neg h]

theorem view_joined (k : Int) : ∀ (D out : List Gp), view k (D.foldl jstep out) = view k (out ++ D)
  | [], out => by simp
  | g :: D, out => by
    rw [List.foldl_cons, view_joined k D, view_append, view_jstep, ← view_append]; simp

def SA (G : List Gp) : Prop := G.Pairwise fun x y => x.key < y.key

theorem SA_jstep {out : List Gp} {g : Gp} (h : SA out) (hk : ∀ x ∈ out, x.key ≤ g.key) : SA (jstep out g) := by
  rcases jstep_cases out g with ⟨rfl, e⟩ | ⟨P, l, rfl, e⟩
  · rw [e]; simp [SA]
  · rw [e]
    unfold SA at h ⊢
    rw [List.pairwise_append] at h
    have hl := hk l (by simp)
    by_cases he : l.key = g.key
    · rw [if_pos he, List.pairwise_append]
      refine ⟨h.1, by simp, fun x hx y hy => ?_⟩
      rw [List.mem_singleton] at hy; subst hy
      have := h.2.2 x hx l (by simp)
      show x.key < g.key
      omega
    · rw [if_neg he, List.pairwise_append, List.pairwise_append]
      refine ⟨⟨h.1, h.2.1, h.2.2⟩, by simp, fun x hx y hy => ?_⟩
      rw [List.mem_singleton] at hy; subst hy
      rcases List.mem_append.1 hx with hx | hx
      · have := h.2.2 x hx l (by simp); omega
      · rw [List.mem_singleton] at hx; subst hx; omega

theorem keys_jstep {out : List Gp} {g : Gp} {x : Gp} (hx : x ∈ jstep out g) : x.key = g.key ∨ ∃ y ∈ out, y.key = x.key := by
  rcases jstep_cases out g with ⟨rfl, e⟩ | ⟨P, l, rfl, e⟩
  · rw [e] at hx; rw [List.mem_singleton.1 hx]; exact .inl rfl
  · rw [e] at hx
    split at hx
    · rcases List.mem_append.1 hx with hx | hx
      · exact .inr ⟨x, by simp [hx], rfl⟩
      · rw [List.mem_singleton.1 hx]; exact .inl rfl
    · rcases List.mem_append.1 hx with hx | hx
      · exact .inr ⟨x, hx, rfl⟩
      · rw [List.mem_singleton.1 hx]; exact .inl rfl

theorem SA_joined : ∀ (D out : List Gp), SA out → D.Pairwise (fun x y => x.key ≤ y.key) → (∀ x ∈ out, ∀ y ∈ D, x.key ≤ y.key) → SA (D.foldl jstep out)
  | [], out, h, _, _ => h
  | g :: D, out, h, hD, hk => by
    rw [List.pairwise_cons] at hD
    rw [List.foldl_cons]
    refine SA_joined D _ (SA_jstep h fun x hx => hk x hx g (by simp)) hD.2 fun x hx y hy => ?_
    rcases keys_jstep hx with e | ⟨z, hz, e⟩
    · rw [e]; exact hD.1 y hy
    · rw [← e]; exact hk z hz y (by simp [hy])

theorem SO_pair {lt : Gp → Gp → Bool} {D : List Gp} (h : SO lt D 0 D.length) : D.Pairwise fun x y => lt y x = false := by
  rw [List.pairwise_iff_getElem]
  intro i j hi hj hij
  have := h i j (Nat.zero_le _) hij hj
  simpa [List.getD, hi, hj] using this

theorem SA_of_SO {D : List Gp} (h : SO ltK D 0 D.length) : SA (D.foldl jstep []) := by
  refine SA_joined D [] (by simp [SA]) ((SO_pair h).imp fun h => ?_) (by simp)
  simp [ltK] at h; exact h

theorem view_stb {A B : List Gp} (h : Stb ltK A B) (k : Int) : view k A = view k B := by
  have e : (fun g : Gp => eqv ltK ⟨k, 0, 0, 0, 0⟩ g) = kf k := by
    funext g
    unfold eqv ltK kf
    simp only
    rw [Bool.eq_iff_iff]
    simp
    omega
  unfold view
  have := h ⟨k, 0, 0, 0, 0⟩
  rw [show eqv ltK ⟨k, 0, 0, 0, 0⟩ = kf k from e] at this
  rw [this]

theorem view_SA {G : List Gp} (h : SA G) {g : Gp} (hg : g ∈ G) : view g.key G = some g := by
  induction G with
  | nil => cases hg
  | cons x G ih =>
    unfold SA at h ih
    rw [List.pairwise_cons] at h
    rw [view_cons]
    rcases List.mem_cons.1 hg with rfl | hg
    · rw [if_pos rfl, view_none fun y hy => by have := h.1 y hy; omega]; rfl
    · have := h.1 g hg
      rw [if_neg (by omega), ih h.2 hg]; rfl

theorem view_inj : ∀ {G G' : List Gp}, SA G → SA G' → (∀ k, view k G = view k G') → G = G'
  | [], [], _, _, _ => rfl
  | [], g :: G', _, h', hv => by
    have := hv g.key
    rw [view_SA h' (by simp)] at this; cases this
  | g :: G, [], h, _, hv => by
    have := hv g.key
    rw [view_SA h (by simp)] at this; cases this
  | g :: G, g' :: G', h, h', hv => by
    have h1 := hv g.key
    have h2 := hv g'.key
    rw [view_SA h (by simp)] at h1
    rw [view_SA h' (by simp)] at h2
    have hc := List.pairwise_cons.1 h
    have hc' := List.pairwise_cons.1 h'
    have hk : g.key = g'.key := by
      rcases Int.lt_trichotomy g.key g'.key with hlt | heq | hgt
      · rw [view_none fun y hy => ?_] at h1
        · cases h1
        · rcases List.mem_cons.1 hy with rfl | hy
          · omega
          · have := hc'.1 y hy; omega
      · exact heq
      · rw [view_none fun y hy => ?_] at h2
        · cases h2
        · rcases List.mem_cons.1 hy with rfl | hy
          · omega
          · have := hc.1 y hy; omega
    have hg : g = g' := by
      rw [hk, view_SA h' (by simp)] at h1
      injection h1
    subst hg
    congr 1
    refine view_inj hc.2 hc'.2 fun k => ?_
    by_cases e : g.key = k
    · subst e
      rw [view_none fun y hy => by have := hc.1 y hy; omega, view_none fun y hy => by have := hc'.1 y hy; omega]
    · have := hv k
      rw [view_cons, view_cons, if_neg e] at this
      exact this

theorem joined_merged {gs g1 g2 D D1 D2 E : List Gp} (hs : gs = g1 ++ g2) (l : Stb ltK gs D) (s : SO ltK D 0 D.length) (l1 : Stb ltK g1 D1) (l2 : Stb ltK g2 D2)
    (lE : Stb ltK (D1.foldl jstep [] ++ D2.foldl jstep []) E) (sE : SO ltK E 0 E.length) : E.foldl jstep [] = D.foldl jstep [] := by
  refine view_inj (SA_of_SO sE) (SA_of_SO s) fun k => ?_
  rw [view_joined, view_joined, List.nil_append, List.nil_append, ← view_stb lE, ← view_stb l, view_append, view_joined, view_joined, List.nil_append, List.nil_append, ← view_stb l1, ← view_stb l2, hs, view_append]

/-- What n records with one key come to. -/
def okN (n : Nat) (g : Gp) : Prop := g.count = n ∧ 0 ≤ g.least ∧ g.least ≤ g.most ∧ g.most ≤ 999 ∧ (n = 1 → g.sum = g.least ∧ g.least = g.most) ∧
  (2 ≤ n → g.least + g.most + ((n : Int) - 2) * g.least ≤ g.sum ∧ g.sum ≤ g.least + g.most + ((n : Int) - 2) * g.most)

theorem okN_comb {n : Nat} {h : Gp} {r : Int × Int} (hn : 1 ≤ n) (ho : okN n h) (hr : 0 ≤ r.2 ∧ r.2 ≤ 999) : okN (n + 1) (comb h (toG r)) := by
  obtain ⟨h1, h2, h3, h4, h5, h6⟩ := ho
  generalize ht : r.2 = t at hr
  have e : ((n + 1 : Nat) : Int) - 2 = (n : Int) - 1 := by omega
  have e2 : ∀ x : Int, ((n : Int) - 1) * x = ((n : Int) - 2) * x + x := fun x => by
    rw [show (n : Int) - 1 = ((n : Int) - 2) + 1 by omega, Int.add_mul, Int.one_mul]
  have hc : ∀ x y : Int, 2 ≤ n → x ≤ y → ((n : Int) - 2) * x ≤ ((n : Int) - 2) * y := fun x y h2 hxy => Int.mul_le_mul_of_nonneg_left hxy (by omega)
  unfold okN comb toG
  simp only [ht, e, e2]
  refine ⟨by omega, ?_, ?_, ?_, by omega, fun _ => ?_⟩
  · split <;> omega
  · repeat' split
    all_goals omega
  · split <;> omega
  · by_cases hn1 : n = 1
    · obtain ⟨q1, q2⟩ := h5 hn1
      subst hn1
      simp only [show ((1 : Nat) : Int) - 2 = -1 by omega]
      repeat' split
      all_goals omega
    · obtain ⟨q1, q2⟩ := h6 (by omega)
      have m1 := hc t h.least (by omega)
      have m2 := hc h.most t (by omega)
      have m3 := hc h.least h.most (by omega) h3
      by_cases c1 : t < h.least
      · have m1 := m1 (by omega)
        rw [if_pos c1, if_neg (by omega)]
        omega
      · by_cases c2 : t > h.most
        · have m2 := m2 (by omega)
          rw [if_neg c1, if_pos c2]
          omega
        · rw [if_neg c1, if_neg c2]
          omega

theorem okN_all : ∀ (L : List (Int × Int)) (g : Gp), (∀ r ∈ L, 0 ≤ r.2 ∧ r.2 ≤ 999) → ∀ (n : Nat) (o : Option Gp), (∀ h, o = some h → 1 ≤ n ∧ okN n h) → (o = none → n = 0) → (L.map toG).foldl agg o = some g → okN (n + L.length) g
  | [], g, _, n, o, ho, _, h => by
    simp at h
    exact (ho g h).2
  | r :: L, g, hr, n, o, ho, hno, h => by
    rw [List.map_cons, List.foldl_cons] at h
    have := okN_all L g (fun x hx => hr x (by simp [hx])) (n + 1) (agg o (toG r)) (fun x hx => ⟨by omega, ?_⟩) (fun e => by cases o <;> cases e) h
    · rw [List.length_cons, show n + (L.length + 1) = n + 1 + L.length by omega]; exact this
    · have hr0 := hr r (by simp)
      cases o with
      | none =>
        have := hno rfl
        subst this
        injection hx with hx; subst hx
        refine ⟨rfl, hr0.1, Int.le_refl _, hr0.2, fun _ => ⟨rfl, rfl⟩, by omega⟩
      | some h =>
        injection hx with hx; subst hx
        obtain ⟨q1, q2⟩ := ho _ rfl
        exact okN_comb q1 q2 hr0

theorem view_key {k : Int} {G : List Gp} {g : Gp} (h : view k G = some g) : g.key = k ∧ ∃ x ∈ G, x.key = k := by
  have key : ∀ (L : List Gp) (o : Option Gp), (∀ x ∈ L, x.key = k) → (∀ x, o = some x → x.key = k) → ∀ g, L.foldl agg o = some g → g.key = k := by
    intro L
    induction L with
    | nil => intro o _ ho g hg; exact ho g hg
    | cons c L ih =>
      intro o hL ho g hg
      rw [List.foldl_cons] at hg
      refine ih _ (fun x hx => hL x (by simp [hx])) (fun x hx => ?_) g hg
      cases o with
      | none => injection hx with hx; subst hx; exact hL _ (by simp)
      | some y => injection hx with hx; subst hx; exact hL c (by simp)
  refine ⟨key _ none (fun x hx => by simpa [kf] using (List.mem_filter.1 hx).2) (by simp) g h, ?_⟩
  by_cases hx : ∃ x ∈ G, x.key = k
  · exact hx
  · rw [view_none fun x hx' he => hx ⟨x, hx', he⟩] at h; cases h

theorem keyLt_of_SA {G : List Gp} (h : SA G) : keyLt G G.length := by
  intro i hi
  unfold SA at h
  rw [List.pairwise_iff_getElem] at h
  have := h i (i + 1) (by omega) hi (by omega)
  simpa [List.getD, show i < G.length by omega, hi] using this

theorem valid_joined {rs : List (Int × Int)} (hr : okRs rs = true) {D : List Gp} (l : Loc ltK (rs.map toG) D 0 (rs.map toG).length) (s : SO ltK D 0 (rs.map toG).length) : validG (D.foldl jstep []) := by
  unfold okRs at hr
  simp only [Bool.and_eq_true, decide_eq_true_eq, List.all_eq_true, okR, inR] at hr
  have hDl : D.length = rs.length := by simpa using l.len
  have hlen : ∀ (E out : List Gp), (E.foldl jstep out).length ≤ out.length + E.length := by
    intro E
    induction E with
    | nil => intro out; simp
    | cons g E ih =>
      intro out
      have h1 := ih (jstep out g)
      have h2 := jstep_length out g
      rw [List.foldl_cons, List.length_cons]; omega
  have hs : SA (D.foldl jstep []) := SA_of_SO (by rw [hDl]; simpa using s)
  refine ⟨?_, fun i hi => ?_, keyLt_of_SA hs⟩
  · have := hlen D []
    simp at this; omega
  · have hm := getD_mem hi
    generalize (D.foldl jstep []).getD i default = g at hm
    have hv := view_SA hs hm
    rw [view_joined, List.nil_append, ← view_stb l.stb] at hv
    obtain ⟨_, x, hx, hxk⟩ := view_key hv
    obtain ⟨r0, hr0, rfl⟩ := List.mem_map.1 hx
    have hk0 := hr.2 r0 hr0
    unfold view at hv
    have e : (rs.map toG).filter (kf g.key) = (rs.filter fun r => kf g.key (toG r)).map toG := by
      rw [List.filter_map]; rfl
    rw [e] at hv
    have hl := List.length_filter_le (fun r => kf g.key (toG r)) rs
    have hmem : ∀ r ∈ rs.filter (fun r => kf g.key (toG r)), 0 ≤ r.2 ∧ r.2 ≤ 999 := fun r h => by
      have := hr.2 r (List.mem_filter.1 h).1
      exact this.2
    generalize rs.filter (fun r => kf g.key (toG r)) = L at hv hl hmem
    have ho := okN_all L g hmem 0 none (by simp) (fun _ => rfl) hv
    rw [Nat.zero_add] at ho
    obtain ⟨h1, h2, h3, h4, h5, h6⟩ := ho
    have hpos : 1 ≤ L.length := by
      cases L with
      | nil => simp at hv
      | cons a L => simp
    have hkey : g.key = r0.1 := hxk.symm
    unfold okG inR
    simp only [Bool.and_eq_true, decide_eq_true_eq]
    refine ⟨⟨⟨⟨by omega, by omega⟩, by omega⟩, by omega⟩, ?_⟩
    by_cases hc : g.count = 1
    · rw [if_pos hc]
      obtain ⟨q1, q2⟩ := h5 (by omega)
      simp only [Bool.and_eq_true, decide_eq_true_eq]
      omega
    · rw [if_neg hc]
      obtain ⟨q1, q2⟩ := h6 (by omega)
      simp only [Bool.and_eq_true, decide_eq_true_eq]
      rw [h1]; exact ⟨q1, q2⟩

def total (G : List Gp) : Int := (G.map (·.count)).sum
theorem total_append (A B : List Gp) : total (A ++ B) = total A + total B := by simp [total, List.sum_append]
theorem total_one (g : Gp) : total [g] = g.count := by simp [total]
theorem total_jstep (out : List Gp) (g : Gp) : total (jstep out g) = total out + g.count := by
  rcases jstep_cases out g with ⟨rfl, e⟩ | ⟨P, l, rfl, e⟩
  · rw [e]; simp [total]
  · rw [e]
    split
    · rw [total_append, total_append, total_one, total_one]
      show total P + (l.count + g.count) = _
      omega
    · rw [total_append, total_one]
theorem total_joined : ∀ (D out : List Gp), total (D.foldl jstep out) = total out + total D
  | [], out => by simp [total]
  | g :: D, out => by
    rw [List.foldl_cons, total_joined D, total_jstep, show g :: D = [g] ++ D from rfl, total_append, total_one]; omega

theorem total_ones {D : List Gp} (h : ∀ g ∈ D, g.count = 1) : total D = D.length := by
  induction D with
  | nil => rfl
  | cons g D ih =>
    rw [show g :: D = [g] ++ D from rfl, total_append, total_one, h g (by simp), ih fun x hx => h x (by simp [hx])]
    simp; omega

theorem total_all {rs : List (Int × Int)} {D : List Gp} (l : Loc ltK (rs.map toG) D 0 (rs.map toG).length) : total (D.foldl jstep []) = rs.length := by
  have hDl : D.length = rs.length := by simpa using l.len
  rw [total_joined, total_ones (D := D)]
  · rw [hDl]; simp [total]
  · intro g hg
    obtain ⟨i, hi, rfl⟩ := List.getElem_of_mem hg
    obtain ⟨k, k1, k2, k3⟩ := l.from_ i (Nat.zero_le _) (by simp; omega)
    have e : D.getD i default = D[i] := by simp [List.getD, hi]
    rw [← e, k3]
    have hk : k < rs.length := by simpa using k2
    simp [List.getD, hk, toG]

/-- Of the groups with the greatest counts. -/
theorem top_order {gs D : List Gp} (hg : keyLt gs gs.length) (l : Loc ltC gs D 0 gs.length) (s : SO ltC D 0 gs.length) {i : Nat} (hi : i + 1 < D.length) :
    (D.getD (i + 1) default).count ≤ (D.getD i default).count ∧ ((D.getD i default).count = (D.getD (i + 1) default).count → (D.getD i default).key < (D.getD (i + 1) default).key) := by
  have hl := l.len
  refine ⟨?_, fun hc => ?_⟩
  · have := s i (i + 1) (Nat.zero_le _) (by omega) (by omega)
    simpa [ltC] using this
  · have hp : gs.Pairwise fun x y => x.key < y.key := by
      rw [List.pairwise_iff_getElem]
      intro a b ha hb hab
      have key : ∀ n, a + n + 1 < gs.length → (gs.getD a default).key < (gs.getD (a + n + 1) default).key := by
        intro n
        induction n with
        | zero => intro h; exact hg a h
        | succ n ih =>
          intro h
          have h1 := ih (by omega)
          have h2 := hg (a + n + 1) (by omega)
          rw [show a + (n + 1) + 1 = a + n + 1 + 1 by omega]
          omega
      have := key (b - a - 1) (by omega)
      rw [show a + (b - a - 1) + 1 = b by omega] at this
      simpa [List.getD, ha, hb] using this
    have hf := hp.filter (eqv ltC (D.getD i default))
    rw [l.stb, List.pairwise_filter, List.pairwise_iff_getElem] at hf
    have h1 := hf i (i + 1) (by omega) hi (by omega)
    have e1 : D[i] = D.getD i default := by simp [List.getD, show i < D.length by omega]
    have e2 : D[i + 1] = D.getD (i + 1) default := by simp [List.getD, hi]
    rw [e1, e2] at h1
    refine h1 (by simp [eqv, ltC]) ?_
    unfold eqv ltC
    rw [hc]
    simp
end Go.Proofs.Ytaloakmffdejgaa
