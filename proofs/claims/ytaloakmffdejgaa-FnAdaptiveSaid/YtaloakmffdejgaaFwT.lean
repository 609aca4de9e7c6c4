/- Regions whose orders differ: the tree of the orders. -/
import Derived.Test.YtaloakmffdejgaaFwX
set_option linter.unusedVariables false
namespace Go.Fw
open Go

inductive Tr where
  | nil
  | op (i : Nat) (t : Tr)
  | alt (t u : Tr)

def getO : List Oper → Nat → Option Oper
  | [], _ => none
  | o :: _, 0 => some o
  | _ :: l, n + 1 => getO l n

theorem getO_eq : ∀ (l : List Oper) (n : Nat), getO l n = l[n]?
  | [], n => by simp [getO]
  | o :: l, 0 => by simp [getO]
  | o :: l, n + 1 => by simp [getO, getO_eq l n]

def popsT (P : Program) (T : Tab) (ρ : Rsv) (a : Array Oper) (l : List Oper) : Tr → St → (St → Prop) → Prop
  | .nil, s, K => K s
  | .op i t, s, K =>
    match getO l i with
    | some o => stepD P T ρ a o s fun s' => popsT P T ρ a l t s' K
    | none => False
  | .alt t u, s, K => popsT P T ρ a l t s K ∧ popsT P T ρ a l u s K

def frontT (ρ : Rsv) (a : Array Oper) (l : List Oper) (i : Nat) (o : Oper) : Tr → Option Tr
  | .nil => none
  | .op j t =>
    if j = i then some t else
    match getO l j with
    | some x => if indepD ρ a x o = true then (frontT ρ a l i o t).map (.op j) else none
    | none => none
  | .alt t u =>
    match frontT ρ a l i o t, frontT ρ a l i o u with
    | some t', some u' => if (calle o.op).isSome = true then some t' else some (.alt t' u')
    | some t', none => some t'
    | none, some u' => some u'
    | none, none => none

section
variable {P : Program} {T : Tab} {ρ : Rsv} {a : Array Oper} {l : List Oper} {i : Nat} {o : Oper} {K : St → Prop}

theorem stepD_real (hT : TOk P T) {L : List BL} {F : Nat → Prop} {R : Reg} {s : St} {ac : Act} {w : World} (hs : SR L F R s ac w) {x : Oper} {K : St → Prop} (h : stepD P T ρ a x s K) :
    ∃ u h' L' F' R' a' w', K (s.put x.dst u h') ∧ SR L' F' R' (s.put x.dst u h') a' w' := by
  unfold stepD at h
  split at h
  · obtain ⟨u, h', L', F', R', a', w', h1, h2, _⟩ := step1_real hT hs h
    exact ⟨u, h', L', F', R', a', w', h1, h2⟩
  · split at h
    case isFalse => cases h
    rename_i hd
    split at h
    · split at h
      · rename_i hh
        obtain ⟨w', L', z, hrun, hx, hl, hr, hv⟩ := hopAt_sound hT hs hh
        exact ⟨_, _, L', F, R, _, w', h, hs.put hx hl hr hd hv⟩
      · cases h
    · exact ⟨_, _, L, F, R, _, w, h, hs.put (u := undef) (Ext.refl _ _ _) (LLe.refl _) hs.hr hd (by rw [VR]; exact ⟨#[], rfl, rfl, trivial⟩)⟩
    · cases h

theorem frontV (hT : TOk P T) (ho : getO l i = some o) (hk : kD ρ o = 0) : ∀ (t t' : Tr) {L : List BL} {F : Nat → Prop} {R : Reg} {s : St} {ac : Act} {w : World}, frontT ρ a l i o t = some t' → SR L F R s ac w → popsT P T ρ a l t s K →
    dok o.dst s.n = true ∧ ∃ v, stF T ρ a o s = some (v, s.h)
  | .nil, t', L, F, R, s, ac, w, hf, hs, h => by simp [frontT] at hf
  | .op j t, t', L, F, R, s, ac, w, hf, hs, h => by
    rw [frontT] at hf
    rw [popsT] at h
    by_cases e : j = i
    · subst e
      rw [ho] at h
      simp only at h
      obtain ⟨hd, z, hz, _⟩ := (stepD_det (by omega)).1 h
      exact ⟨hd, z.1, by rw [hz, ← stF_quiet (by omega) hz]⟩
    · rw [if_neg e] at hf
      split at hf
      case h_2 => cases hf
      rename_i x hx
      rw [hx] at h
      simp only at h
      split at hf
      case isFalse => cases hf
      rename_i hi
      obtain ⟨t1, ht1, _⟩ := Option.map_eq_some_iff.1 hf
      obtain ⟨i1, i2, i3, i4⟩ := indepD_spec hi
      obtain ⟨u, h', L', F', R', a', w', hK, hs'⟩ := stepD_real hT hs h
      obtain ⟨hd, v, hv⟩ := frontV hT ho hk t t1 ht1 hs' hK
      rw [put_t.2] at hd
      exact ⟨hd, v, stF_sil (s' := s) hk (gd_put i1).symm (fun y hy => (ev_put i1 y hy).symm) hv⟩
  | .alt t u, t', L, F, R, s, ac, w, hf, hs, h => by
    rw [frontT] at hf
    rw [popsT] at h
    split at hf
    · rename_i h1 h2; exact frontV hT ho hk t _ h1 hs h.1
    · rename_i h1 h2; exact frontV hT ho hk t _ h1 hs h.1
    · rename_i h1 h2; exact frontV hT ho hk u _ h2 hs h.2
    · cases hf

theorem frontR (ho : getO l i = some o) (hk : kD ρ o = 0) : ∀ (t t' : Tr) {s : St} {v : PV}, frontT ρ a l i o t = some t' → stF T ρ a o s = some (v, s.h) → popsT P T ρ a l t s K →
    popsT P T ρ a l t' (s.put o.dst v s.h) K
  | .nil, t', s, v, hf, hv, h => by simp [frontT] at hf
  | .op j t, t', s, v, hf, hv, h => by
    rw [frontT] at hf
    rw [popsT] at h
    by_cases e : j = i
    · subst e
      rw [ho] at h
      simp only at h
      obtain ⟨hd, z, hz, hK⟩ := (stepD_det (by omega)).1 h
      rw [if_pos rfl] at hf
      injection hf with hf; subst hf
      rw [hv] at hz; injection hz with hz; subst hz
      exact hK
    · rw [if_neg e] at hf
      split at hf
      case h_2 => cases hf
      rename_i x hx
      rw [hx] at h
      simp only at h
      split at hf
      case isFalse => cases hf
      rename_i hi
      obtain ⟨t1, ht1, e1⟩ := Option.map_eq_some_iff.1 hf
      subst e1
      obtain ⟨i1, i2, i3, i4⟩ := indepD_spec hi
      rw [popsT, hx]
      simp only
      by_cases hkx : kD ρ x = 2
      · obtain ⟨n1, n2⟩ := kD_none (ρ := ρ) (o := x) (by omega)
        unfold stepD at h ⊢
        rw [n1] at h ⊢
        simp only at h ⊢
        have h1 := step1_nat (s2 := s.put o.dst v s.h) put_t.2 put_t.1 (gd_put i3) (ev_put i3) h
        refine step1_mono h1 ?_
        rintro s' ⟨u, h', rfl, hK⟩
        have hqs : stF T ρ a o (s.put x.dst u h') = some (v, (s.put x.dst u h').h) := stF_sil hk (gd_put i1) (ev_put i1) hv
        have := frontR ho hk t t1 ht1 hqs hK
        rw [put_t.1] at this
        rw [put_comm (h2 := h') (fun d hd e => i2 d e hd)]
        exact this
      · obtain ⟨hd, z, hz, hK⟩ := (stepD_det hkx).1 h
        refine (stepD_det hkx).2 ⟨by rw [put_t.2]; exact hd, z, stF_same (gd_put i3) (ev_put i3) put_t.1 hz, ?_⟩
        have hqs : stF T ρ a o (s.put x.dst z.1 z.2) = some (v, (s.put x.dst z.1 z.2).h) := stF_sil hk (gd_put i1) (ev_put i1) hv
        have := frontR ho hk t t1 ht1 hqs hK
        rw [put_t.1] at this
        rw [put_comm (h2 := z.2) (fun d hd e => i2 d e hd)]
        exact this
  | .alt t u, t', s, v, hf, hv, h => by
    rw [frontT] at hf
    rw [popsT] at h
    split at hf
    · rename_i h1 h2
      split at hf
      · injection hf with hf; subst hf
        exact frontR ho hk t _ h1 hv h.1
      · injection hf with hf; subst hf
        rw [popsT]
        exact ⟨frontR ho hk t _ h1 hv h.1, frontR ho hk u _ h2 hv h.2⟩
    · rename_i h1 h2
      injection hf with hf; subst hf
      exact frontR ho hk t _ h1 hv h.1
    · rename_i h1 h2
      injection hf with hf; subst hf
      exact frontR ho hk u _ h2 hv h.2
    · cases hf

theorem frontC (hT : TOk P T) (hρ : (ρ.map (·.2)).Nodup) (ho : getO l i = some o) (hk0 : kD ρ o ≠ 0) (hk2 : kD ρ o ≠ 2) : ∀ (t t' : Tr) {L : List BL} {F : Nat → Prop} {R : Reg} {s : St} {ac : Act} {w : World}, frontT ρ a l i o t = some t' → SR L F R s ac w → popsT P T ρ a l t s K →
    stepD P T ρ a o s fun s' => popsT P T ρ a l t' s' K
  | .nil, t', L, F, R, s, ac, w, hf, hs, h => by simp [frontT] at hf
  | .op j t, t', L, F, R, s, ac, w, hf, hs, h => by
    rw [frontT] at hf
    rw [popsT] at h
    by_cases e : j = i
    · subst e
      rw [ho] at h
      rw [if_pos rfl] at hf
      injection hf with hf; subst hf
      exact h
    · rw [if_neg e] at hf
      split at hf
      case h_2 => cases hf
      rename_i x hx
      rw [hx] at h
      simp only at h
      split at hf
      case isFalse => cases hf
      rename_i hi
      obtain ⟨t1, ht1, e1⟩ := Option.map_eq_some_iff.1 hf
      subst e1
      obtain ⟨i1, i2, i3, i4⟩ := indepD_spec hi
      have hkx : kD ρ x ≠ 2 := by omega
      obtain ⟨hd, z, hz, hK⟩ := (stepD_det hkx).1 h
      have hreal : stepD P T ρ a x s (fun s' => s' = s.put x.dst z.1 z.2) := (stepD_det hkx).2 ⟨hd, z, hz, rfl⟩
      obtain ⟨u, h', L', F', R', a', w', he, hs'⟩ := stepD_real hT hs hreal
      rw [he] at hs'
      have ih := frontC hT hρ ho hk0 hk2 t t1 ht1 hs' hK
      obtain ⟨hd2, zo, hzo, hK2⟩ := (stepD_det hk2).1 ih
      obtain ⟨zo', z', c1, c2, c3⟩ := comm2 hρ hs hi hkx hk2 hz hzo
      rw [put_t.2] at hd2
      refine (stepD_det hk2).2 ⟨hd2, zo', c1, ?_⟩
      rw [popsT, hx]
      refine (stepD_det hkx).2 ⟨by rw [put_t.2]; exact hd, z', c2, ?_⟩
      rw [c3]
      exact hK2
  | .alt t u, t', L, F, R, s, ac, w, hf, hs, h => by
    rw [frontT] at hf
    rw [popsT] at h
    split at hf
    · rename_i h1 h2
      split at hf
      · injection hf with hf; subst hf
        exact frontC hT hρ ho hk0 hk2 t _ h1 hs h.1
      · injection hf with hf; subst hf
        obtain ⟨d1, z1, q1, k1⟩ := (stepD_det hk2).1 (frontC hT hρ ho hk0 hk2 t _ h1 hs h.1)
        obtain ⟨d2, z2, q2, k2⟩ := (stepD_det hk2).1 (frontC hT hρ ho hk0 hk2 u _ h2 hs h.2)
        rw [q1] at q2; injection q2 with q2; subst q2
        exact (stepD_det hk2).2 ⟨d1, z1, q1, by rw [popsT]; exact ⟨k1, k2⟩⟩
    · rename_i h1 h2
      injection hf with hf; subst hf
      exact frontC hT hρ ho hk0 hk2 t _ h1 hs h.1
    · rename_i h1 h2
      injection hf with hf; subst hf
      exact frontC hT hρ ho hk0 hk2 u _ h2 hs h.2
    · cases hf

theorem step1_and {o : Oper} {s : St} {K1 K2 : St → Prop} (hc : calle o.op = none) (h1 : step1 P T a o s K1) (h2 : step1 P T a o s K2) : step1 P T a o s fun s' => K1 s' ∧ K2 s' := by
  unfold step1 at h1 h2 ⊢
  rw [hc] at h1 h2 ⊢
  split at h1
  case isFalse => cases h1
  rename_i hd
  rw [if_pos hd] at h2 ⊢
  cases hg : gd a s.t o with
  | none => rw [hg] at h1; cases h1
  | some b =>
    rw [hg] at h1 h2
    cases b with
    | false => exact ⟨h1, h2⟩
    | true =>
      simp only at h1 h2 ⊢
      cases hh : hop T o.op s with
      | none => rw [hh] at h1; cases h1
      | some z => rw [hh] at h1 h2; exact ⟨h1, h2⟩

theorem frontL (ho : getO l i = some o) (hk2 : kD ρ o = 2) : ∀ (t t' : Tr) {s : St}, frontT ρ a l i o t = some t' → popsT P T ρ a l t s K →
    step1 P T a o s fun s' => popsT P T ρ a l t' s' K
  | .nil, t', s, hf, h => by simp [frontT] at hf
  | .op j t, t', s, hf, h => by
    rw [frontT] at hf
    rw [popsT] at h
    obtain ⟨n1, n2⟩ := kD_none (ρ := ρ) (o := o) (by omega)
    by_cases e : j = i
    · subst e
      rw [ho] at h
      rw [if_pos rfl] at hf
      injection hf with hf; subst hf
      simp only at h
      unfold stepD at h
      rw [n1] at h
      exact h
    · rw [if_neg e] at hf
      split at hf
      case h_2 => cases hf
      rename_i x hx
      rw [hx] at h
      simp only at h
      split at hf
      case isFalse => cases hf
      rename_i hi
      obtain ⟨t1, ht1, e1⟩ := Option.map_eq_some_iff.1 hf
      subst e1
      obtain ⟨i1, i2, i3, i4⟩ := indepD_spec hi
      have hkx : kD ρ x = 0 := by omega
      obtain ⟨hd, z, hz, hK⟩ := (stepD_det (by omega)).1 h
      have hzq := stF_quiet (by omega) hz
      have ih := frontL ho hk2 t t1 ht1 hK
      have h1 := step1_nat (s2 := s) (by rw [put_t.2]) (by rw [put_t.1, hzq]) (gd_put i1).symm (fun y hy => (ev_put i1 y hy).symm) ih
      refine step1_mono h1 ?_
      rintro s' ⟨v, h', rfl, hK'⟩
      rw [popsT, hx]
      refine (stepD_det (by omega)).2 ⟨by rw [put_t.2]; exact hd, (z.1, (s.put o.dst v h').h), stF_sil hkx (gd_put i3) (ev_put i3) hz, ?_⟩
      rw [put_t.1]
      rw [put_comm (h2 := h') i2] at hK'
      exact hK'
  | .alt t u, t', s, hf, h => by
    rw [frontT] at hf
    rw [popsT] at h
    split at hf
    · rename_i h1 h2
      split at hf
      · injection hf with hf; subst hf
        exact frontL ho hk2 t _ h1 h.1
      · rename_i hc
        injection hf with hf; subst hf
        have hc' : calle o.op = none := by simpa using hc
        exact step1_and hc' (frontL ho hk2 t _ h1 h.1) (frontL ho hk2 u _ h2 h.2)
    · rename_i h1 h2
      injection hf with hf; subst hf
      exact frontL ho hk2 t _ h1 h.1
    · rename_i h1 h2
      injection hf with hf; subst hf
      exact frontL ho hk2 u _ h2 h.2
    · cases hf

theorem frontT_sound (hT : TOk P T) (hρ : (ρ.map (·.2)).Nodup) (ho : getO l i = some o) {t t' : Tr} {L : List BL} {F : Nat → Prop} {R : Reg} {s : St} {ac : Act} {w : World} (hf : frontT ρ a l i o t = some t') (hs : SR L F R s ac w) (h : popsT P T ρ a l t s K) :
    stepD P T ρ a o s fun s' => popsT P T ρ a l t' s' K := by
  by_cases hk2 : kD ρ o = 2
  · obtain ⟨n1, n2⟩ := kD_none (ρ := ρ) (o := o) (by omega)
    unfold stepD
    rw [n1]
    exact frontL ho hk2 t t' hf h
  · by_cases hk0 : kD ρ o = 0
    · obtain ⟨hd, v, hv⟩ := frontV hT ho hk0 t t' hf hs h
      exact (stepD_det hk2).2 ⟨hd, (v, s.h), hv, frontR ho hk0 t t' hf hv h⟩
    · exact frontC hT hρ ho hk0 hk2 t t' hf hs h

/-- Each way through the tree lists what is left, in an order that is allowed. -/
def okT (ρ : Rsv) (a : Array Oper) (l : List Oper) (vs : List Nat) : List Nat → Tr → Bool
  | U, .nil => U.isEmpty
  | U, .op j t => U.contains j && (match getO l j with
      | some x => (U.erase j).all fun k => match getO l k with
        | some y => indepD ρ a x y || prec a 3 j k || (vs.contains j && vs.contains k)
        | none => true
      | none => false) && okT ρ a l vs (U.erase j) t
  | U, .alt t u => okT ρ a l vs U t && okT ρ a l vs U u

def pj (vs : List Nat) : Tr → Tr
  | .nil => .nil
  | .op j t => if vs.contains j = true then .op j (pj vs t) else pj vs t
  | .alt t u => .alt (pj vs t) (pj vs u)

def cov (ρ : Rsv) (a : Array Oper) (l : List Oper) : Nat → Tr → List Nat → Bool
  | 0, _, rest => rest.isEmpty
  | n + 1, t, rest => rest.all fun v => rest.any (fun u => prec a 3 u v) || match getO l v with
    | some o => (match frontT ρ a l v o t with
      | some t' => cov ρ a l n t' (rest.erase v)
      | none => false)
    | none => false

theorem front_ok {vs : List Nat} : ∀ (t t' : Tr) (U : List Nat), okT ρ a l vs U t = true → frontT ρ a l i o t = some t' → okT ρ a l vs (U.erase i) t' = true
  | .nil, t', U, h, hf => by simp [frontT] at hf
  | .op j t, t', U, h, hf => by
    rw [frontT] at hf
    rw [okT] at h
    simp only [Bool.and_eq_true] at h
    obtain ⟨⟨h1, h2⟩, h3⟩ := h
    by_cases e : j = i
    · subst e
      rw [if_pos rfl] at hf
      injection hf with hf; subst hf
      exact h3
    · rw [if_neg e] at hf
      split at hf
      case h_2 => cases hf
      rename_i x hx
      split at hf
      case isFalse => cases hf
      obtain ⟨t1, ht1, e1⟩ := Option.map_eq_some_iff.1 hf
      subst e1
      rw [hx] at h2
      simp only at h2
      rw [okT, hx]
      simp only [Bool.and_eq_true]
      rw [List.erase_comm]
      refine ⟨⟨?_, ?_⟩, front_ok t t1 _ h3 ht1⟩
      · simp only [List.contains_iff_mem] at h1 ⊢
        exact (List.mem_erase_of_ne e).2 h1
      · rw [List.all_eq_true] at h2 ⊢
        exact fun k hk => h2 k (List.mem_of_mem_erase hk)
  | .alt t u, t', U, h, hf => by
    rw [frontT] at hf
    rw [okT] at h
    simp only [Bool.and_eq_true] at h
    split at hf
    · rename_i h1 h2
      split at hf
      · injection hf with hf; subst hf
        exact front_ok t _ _ h.1 h1
      · injection hf with hf; subst hf
        rw [okT]
        simp only [Bool.and_eq_true]
        exact ⟨front_ok t _ _ h.1 h1, front_ok u _ _ h.2 h2⟩
    · rename_i h1 h2
      injection hf with hf; subst hf
      exact front_ok t _ _ h.1 h1
    · rename_i h1 h2
      injection hf with hf; subst hf
      exact front_ok u _ _ h.2 h2
    · cases hf

theorem front_ex {vs : List Nat} (ho : getO l i = some o) (hv : vs.contains i = false) (hc : calle o.op = none) : ∀ (t : Tr) (U : List Nat), okT ρ a l vs U t = true → i ∈ U → (∀ x ∈ U, prec a 3 x i = false) → ∃ t', frontT ρ a l i o t = some t' ∧ pj vs t' = pj vs t
  | .nil, U, h, hi, hp => by
    rw [okT] at h
    simp at h; subst h; cases hi
  | .op j t, U, h, hi, hp => by
    rw [okT] at h
    simp only [Bool.and_eq_true] at h
    obtain ⟨⟨h1, h2⟩, h3⟩ := h
    by_cases e : j = i
    · subst e
      exact ⟨t, by rw [frontT, if_pos rfl], by rw [pj, if_neg (by rw [hv]; simp)]⟩
    · have him : i ∈ U.erase j := (List.mem_erase_of_ne (fun h => e h.symm)).2 hi
      cases hx : getO l j with
      | none => rw [hx] at h2; cases h2
      | some x =>
        rw [hx] at h2
        simp only at h2
        rw [List.all_eq_true] at h2
        have h4 := h2 i him
        rw [ho] at h4
        have h1' : j ∈ U := by simpa using h1
        simp only [hv, Bool.and_false, Bool.or_false, hp j h1'] at h4
        obtain ⟨t', q1, q2⟩ := front_ex ho hv hc t (U.erase j) h3 him fun x hx => hp x (List.mem_of_mem_erase hx)
        refine ⟨.op j t', by rw [frontT, if_neg e, hx]; simp only [h4, if_true, q1, Option.map_some], ?_⟩
        simp only [pj, q2]
  | .alt t u, U, h, hi, hp => by
    rw [okT] at h
    simp only [Bool.and_eq_true] at h
    obtain ⟨t', q1, q2⟩ := front_ex ho hv hc t U h.1 hi hp
    obtain ⟨u', r1, r2⟩ := front_ex ho hv hc u U h.2 hi hp
    exact ⟨.alt t' u', by rw [frontT, q1, r1]; simp [hc], by simp only [pj, q2, r2]⟩

theorem front_pj {vs : List Nat} (ho : getO l i = some o) (hv : vs.contains i = true) : ∀ (t : Tr) (U : List Nat), okT ρ a l vs U t = true → i ∈ U → (∀ x ∈ U, prec a 3 x i = false) → (frontT ρ a l i o t).map (pj vs) = frontT ρ a l i o (pj vs t)
  | .nil, U, h, hi, hp => by simp [frontT, pj]
  | .op j t, U, h, hi, hp => by
    rw [okT] at h
    simp only [Bool.and_eq_true] at h
    obtain ⟨⟨h1, h2⟩, h3⟩ := h
    by_cases e : j = i
    · subst e
      rw [frontT, if_pos rfl, pj, if_pos hv, frontT, if_pos rfl]; rfl
    · have him : i ∈ U.erase j := (List.mem_erase_of_ne (fun h => e h.symm)).2 hi
      have ih := front_pj ho hv t (U.erase j) h3 him fun x hx => hp x (List.mem_of_mem_erase hx)
      cases hx : getO l j with
      | none => rw [hx] at h2; cases h2
      | some x =>
        rw [hx] at h2
        simp only at h2
        rw [List.all_eq_true] at h2
        have h4 := h2 i him
        rw [ho] at h4
        have h1' : j ∈ U := by simpa using h1
        by_cases hj : vs.contains j = true
        · rw [pj, if_pos hj, frontT, if_neg e, frontT, if_neg e, hx]
          simp only
          split
          · rw [← ih]
            cases frontT ρ a l i o t with
            | none => rfl
            | some t' => simp only [Option.map_some, pj, hj, if_true]
          · rfl
        · have hj' : vs.contains j = false := by simpa using hj
          simp only [hj', Bool.false_and, Bool.or_false, hp j h1'] at h4
          rw [pj, if_neg hj, frontT, if_neg e, hx]
          simp only [h4, if_true]
          rw [← ih]
          cases frontT ρ a l i o t with
          | none => rfl
          | some t' => simp only [Option.map_some, pj, hj', Bool.false_eq_true, if_false]
  | .alt t u, U, h, hi, hp => by
    rw [okT] at h
    simp only [Bool.and_eq_true] at h
    have q1 := front_pj ho hv t U h.1 hi hp
    have q2 := front_pj ho hv u U h.2 hi hp
    rw [frontT, pj, frontT, ← q1, ← q2]
    cases frontT ρ a l i o t <;> cases frontT ρ a l i o u <;> simp only [Option.map_some, Option.map_none]
    split <;> simp only [Option.map_some, pj]

theorem okT_nil {vs : List Nat} : ∀ (t : Tr) {s : St}, okT ρ a l vs [] t = true → popsT P T ρ a l t s K → K s
  | .nil, s, _, h => h
  | .op j t, s, h, _ => by rw [okT] at h; simp at h
  | .alt t u, s, h, hp => by
    rw [okT] at h
    simp only [Bool.and_eq_true] at h
    rw [popsT] at hp
    exact okT_nil t h.1 hp.1
end

def chkT (ρ : Rsv) (a : Array Oper) (vs : List Nat) (t : Tr) : Bool :=
  decide (ρ.map (·.2)).Nodup &&
  (List.range a.size).all (fun i => match a[i]? with
    | some o => (o.after.all fun e => !Region.binds .any e || decide (e.on < i)) && (vs.contains i || (calle o.op).isNone)
    | none => true) &&
  okT ρ a a.toList vs (List.range a.size) t &&
  cov ρ a a.toList vs.length (pj vs t) ((List.range a.size).filter vs.contains)
theorem anyT {P : Program} {T : Tab} (hT : TOk P T) {ops : Array Oper} {Q : Exit → Act → World → Prop} {K : St → Prop} {ρ : Rsv} {vs : List Nat} (hρ : (ρ.map (·.2)).Nodup)
    (hok : ∀ i o, ops[i]? = some o → (∀ e ∈ o.after, Region.binds .any e = true → e.on < i) ∧ (vs.contains i = false → calle o.op = none)) {L0 : List BL} {F0 : Nat → Prop} {R0 : Reg} {w0 : World} (hq : ∀ a' w', NX L0 F0 R0 w0 K a' w' → Q .normal a' w') :
    ∀ (fuel : Nat) (t : Tr) (n : Nat) (l : List Nat) (listed : Array Bool) {a : Act} {w : World},
    listed.size = ops.size → l = (List.range ops.size).filter (fun i => !listed.getD i true) → l.length ≤ fuel →
    (∀ k o, ops[k]? = some o → listed.getD k false = true → ∀ e ∈ o.after, Region.binds .any e = true → listed.getD e.on false = true) →
    okT ρ ops ops.toList vs l t = true → cov ρ ops ops.toList n (pj vs t) (l.filter vs.contains) = true →
    NX L0 F0 R0 w0 (fun s => popsT P T ρ ops ops.toList t s K) a w → wpAny P .any ops Q fuel listed a w := by
  intro fuel
  induction fuel with
  | zero =>
    intro t n l listed a w hsz hl hlen hcl hokt hcov h
    have hl0 : l = [] := List.eq_nil_of_length_eq_zero (by omega)
    subst hl0
    obtain ⟨s, L, F, R, h, hx, hle, hs⟩ := h
    refine ⟨?_, hq a w ⟨s, L, F, R, okT_nil t hokt h, hx, hle, hs⟩⟩
    unfold Region.ready
    rw [List.filter_eq_nil_iff]
    intro i hi
    have : (!listed.getD i true) = false := by
      have := (List.filter_eq_nil_iff.1 hl.symm) i hi
      simpa using this
    simp only [this, Bool.false_and]
    simp
  | succ fuel ih =>
    intro t n l listed a w hsz hl hlen hcl hokt hcov h
    have hsorted : l.Pairwise (· < ·) := by rw [hl]; exact List.Pairwise.filter _ List.pairwise_lt_range
    refine ⟨fun hr => ?_, fun i hi => ?_⟩
    · have hl0 : l = [] := by
        cases hll : l with
        | nil => rfl
        | cons i0 rest =>
          exfalso
          have hmem : i0 ∈ (List.range ops.size).filter (fun i => !listed.getD i true) := by rw [← hl, hll]; simp
          rw [List.mem_filter, List.mem_range] at hmem
          obtain ⟨o, ho⟩ : ∃ o, ops[i0]? = some o := ⟨ops[i0]'hmem.1, Array.getElem?_eq_getElem hmem.1⟩
          have hrd : i0 ∈ Region.ready .any ops listed := by
            rw [mem_ready]
            refine ⟨by simpa using hmem.2, o, ho, fun e he hb => ?_⟩
            have h2 := (hok i0 o ho).1 e he hb
            by_cases hle : listed.getD e.on true = true
            · have hlt : e.on < listed.size := by omega
              simpa [Array.getD, hlt] using hle
            · exfalso
              have hin : e.on ∈ l := by
                rw [hl, List.mem_filter, List.mem_range]
                exact ⟨by omega, by simpa using hle⟩
              rw [hll] at hin hsorted
              rcases List.mem_cons.1 hin with e1 | e1
              · omega
              · have := (List.pairwise_cons.1 hsorted).1 _ e1
                omega
          rw [hr] at hrd
          cases hrd
      subst hl0
      obtain ⟨s, L, F, R, h, hx, hle, hs⟩ := h
      exact hq a w ⟨s, L, F, R, okT_nil t hokt h, hx, hle, hs⟩
    · obtain ⟨hi0, o, ho, hall⟩ := mem_ready.1 hi
      have hisz : i < ops.size := (Array.getElem?_eq_some_iff.1 ho).1
      have him : i ∈ l := by rw [hl, List.mem_filter, List.mem_range]; exact ⟨hisz, by simpa using hi0⟩
      have hog : getO ops.toList i = some o := by rw [getO_eq]; simpa using ho
      have hprec : ∀ x ∈ l, prec ops 3 x i = false := fun x hx => by
        cases hp : prec ops 3 x i with
        | false => rfl
        | true =>
          exfalso
          have h3 := prec_listed hcl 3 x i o ho hall hp
          rw [hl, List.mem_filter, List.mem_range] at hx
          have hjs : x < listed.size := by omega
          have h4 := hx.2
          simp [Array.getD, hjs] at h3 h4
          rw [h3] at h4; cases h4
      have hnd : l.Nodup := hsorted.imp (fun h => Nat.ne_of_lt h)
      obtain ⟨t', n', hf, hcov'⟩ : ∃ t' n', frontT ρ ops ops.toList i o t = some t' ∧ cov ρ ops ops.toList n' (pj vs t') ((l.erase i).filter vs.contains) = true := by
        by_cases hv : vs.contains i = true
        · cases n with
          | zero =>
            rw [cov] at hcov
            exfalso
            have : i ∈ l.filter vs.contains := List.mem_filter.2 ⟨him, hv⟩
            rw [List.isEmpty_iff.1 hcov] at this
            cases this
          | succ n =>
            rw [cov, List.all_eq_true] at hcov
            have h1 := hcov i (List.mem_filter.2 ⟨him, hv⟩)
            have h2 : (l.filter vs.contains).any (fun u => prec ops 3 u i) = false := by
              rw [List.any_eq_false]
              intro x hx
              rw [hprec x (List.mem_filter.1 hx).1]
              simp
            rw [h2, hog] at h1
            simp only [Bool.false_or] at h1
            have hpj := front_pj hog hv t l hokt him hprec
            rw [← hpj] at h1
            cases hf : frontT ρ ops ops.toList i o t with
            | none => rw [hf] at h1; cases h1
            | some t' =>
              rw [hf] at h1
              simp only [Option.map_some] at h1
              refine ⟨t', n, rfl, ?_⟩
              rw [hnd.erase_eq_filter, List.filter_filter]
              rw [List.Nodup.erase_eq_filter (List.Pairwise.filter _ hnd : (l.filter vs.contains).Nodup), List.filter_filter] at h1
              have : (fun a => (vs.contains a && a != i)) = fun a => (a != i && vs.contains a) := by funext a; rw [Bool.and_comm]
              first
                | exact h1
                | (rw [this]; exact h1)
                | (rw [this] at h1; exact h1)
        · have hv' : vs.contains i = false := by simpa using hv
          obtain ⟨t', q1, q2⟩ := front_ex hog hv' ((hok i o ho).2 hv') t l hokt him hprec
          refine ⟨t', n, q1, ?_⟩
          rw [q2]
          have : (l.erase i).filter vs.contains = l.filter vs.contains := by
            rw [hnd.erase_eq_filter, List.filter_filter]
            apply List.filter_congr
            intro x _
            by_cases e : x = i
            · subst e; rw [hv']; simp
            · have : (x != i) = true := by simpa using e
              rw [this]; simp
          rw [this]; exact hcov
      obtain ⟨s, L, F, R, h, hx0, hle0, hs⟩ := h
      have hst := frontT_sound hT hρ hog hf hs h
      have h1 := stepD_sound hT hs hst Q
      have hnew : (l.erase i) = (List.range ops.size).filter (fun k => !(listed.setIfInBounds i true).getD k true) := by
        rw [hnd.erase_eq_filter, hl, List.filter_filter]
        apply List.filter_congr
        intro k hk
        by_cases e : i = k
        · subst e
          have : i < listed.size := by omega
          simp [Array.getD, this]
        · rw [getD_set_ne true e]
          have : (k != i) = true := by simp; exact fun h => e h.symm
          rw [this]; simp
      have hcl' : ∀ k o', ops[k]? = some o' → (listed.setIfInBounds i true).getD k false = true → ∀ e ∈ o'.after, Region.binds .any e = true → (listed.setIfInBounds i true).getD e.on false = true := fun k o' hk hlk e he hb => by
        by_cases e2 : i = k
        · subst e2
          have : o' = o := by rw [ho] at hk; exact (Option.some.inj hk).symm
          subst this
          exact getD_set_true (hall e he hb)
        · rw [getD_set_ne false e2] at hlk
          exact getD_set_true (hcl k o' hk hlk e he hb)
      have next : ∀ a' w', NX L F R w (fun s' => popsT P T ρ ops ops.toList t' s' K) a' w' → wpAny P .any ops Q fuel (listed.setIfInBounds i true) a' w' := fun a' w' hn => by
        refine ih t' n' (l.erase i) (listed.setIfInBounds i true) (by simpa using hsz) hnew ?_ hcl' (front_ok t t' l hokt hf) hcov' (hn.trans hx0 hle0)
        have := List.length_erase_of_mem him
        omega
      unfold wpOp
      rw [ho]
      simp only
      split at h1
      · rename_i hw
        rw [if_pos hw]
        exact h1.imp (fun h2 => Oper.wp_mono next h2) id
      · rename_i hw
        rw [if_neg hw]
        exact next _ _ h1

/-- What a region hands on. -/
def RgJ {α : Type} (m : Nat) (I : α → St) (inv : α → Prop) (s : St) : Prop := ∃ x g, inv x ∧ Sub m g (I x) s

theorem RgJ.mk {α : Type} {m : Nat} {I : α → St} {inv : α → Prop} {l1 : List (Nat × PV)} {h1 : List Blk} {n : Nat} (x : α) (sel : List Nat) {l2 : List (Nat × PV)} {h2 : List Blk} (hI : I x = ⟨tm l2, h2, n⟩) (hinv : inv x)
    (hc : sel.Nodup ∧ selFix m sel = true ∧ SelOK h1 (sg sel) sel.length sel h2 ∧ TmOK l1 (sg sel) sel.length l2) : RgJ m I inv ⟨tm l1, h1, n⟩ :=
  ⟨x, sg sel, hinv, by rw [hI]; exact Sub.of sel hc.1 hc.2.1 hc.2.2.1 hc.2.2.2⟩

@[congr] theorem RgJ_congr {α : Type} {m : Nat} {I : α → St} {inv : α → Prop} {s s' : St} (h : s = s') : RgJ m I inv s = RgJ m I inv s' := by rw [h]

theorem RegQ.of {c : Cx} (hT : TOk c.P c.T) (hmix : c.P.follows .mixedOrders = true) {id : Nat} {ops : Array Oper} {k : List KI} {s : St} (ρ : Rsv) (vs : List Nat) (t : Tr) {α : Type} (I : α → St) (inv : α → Prop)
    (hchk : chkT ρ ops vs t = true) (hk : dallKX c.bad k = true) (walk : popsT c.P c.T ρ ops ops.toList t s (RgJ c.m I inv)) (rest : ∀ x, inv x → go c .next k (nf (I x))) : RegQ c id ops true k s .mk .mk .mk := by
  unfold chkT at hchk
  simp only [Bool.and_eq_true, decide_eq_true_eq, List.all_eq_true, List.mem_range] at hchk
  obtain ⟨⟨⟨h1, h2⟩, h3⟩, h4⟩ := hchk
  intro L F R a w hs
  refine wp_region_any hmix (anyT hT (vs := vs) (K := RgJ c.m I inv) h1 ?_ (L0 := L) (F0 := F) (R0 := R) (w0 := { w with drawn := w.drawn + 1 }) ?_ ops.size t vs.length (List.range ops.size) _ (by simp) ?_ (by simp) ?_ h3 h4 ⟨s, L, F, R, walk, Ext.refl _ _ _, LLe.refl _, hs.drew⟩)
  · intro i o ho
    have hi : i < ops.size := (Array.getElem?_eq_some_iff.1 ho).1
    have := h2 i hi
    rw [ho] at this
    simp only [Bool.and_eq_true, Bool.or_eq_true] at this
    refine ⟨fun e he hb => ?_, fun hv => ?_⟩
    · have h5 := Array.all_eq_true_iff_forall_mem.1 this.1 e he
      simpa [hb] using h5
    · rcases this.2 with h5 | h5
      · rw [hv] at h5; cases h5
      · simpa using h5
  · rintro a' w' ⟨s', L', F', R', hj, hx, hl, hs'⟩
    obtain ⟨x, g, hinv, hsub⟩ := hj
    obtain ⟨L2, hl2, hs2⟩ := hs'.sub hsub
    have hN : N c.P c.m k c.Q (I x) := go_sound (c := c) hT hmix _ .next k (I x) rfl rfl hk (rest x hinv)
    exact ⟨I x, L2, F', R', hN, (Ext.drew w F R).trans hx, (hl.take c.m).take_trans hl2, hs2⟩
  · symm
    rw [List.filter_eq_self]
    intro i hi
    simp at hi
    simp [hi]
  · intro i o _ hl
    exfalso
    by_cases hi : i < ops.size
    · simp [hi] at hl
    · simp [hi] at hl

theorem RegQ.ghost {c : Cx} {id : Nat} {ops : Array Oper} {d : Bool} {k : List KI} {n : Nat} {l1 : List (Nat × PV)} {h1 : List Blk} (gs : List Bool) (l2 : List (Nat × PV)) (h2 : List Blk)
    (hc : WkL h1.length gs.length h1 h2 ∧ GhT h1.length gs.length l1 l2) (h : RegQ c id ops d k ⟨tm l2, h2 ++ gbs gs, n⟩ .mk .mk .mk) : RegQ c id ops d k ⟨tm l1, h1, n⟩ .mk .mk .mk := by
  intro L F R a w hs
  refine wp_mono (h (L ++ gls gs) F R a w (hs.ghost gs hc.1 hc.2)) ?_
  rintro e a' w' ⟨s', L', F', R', hq, hx, hl, hs'⟩
  exact ⟨s', L', F', R', hq, hx, (LLe.push_take L (gls gs) _).trans hl, hs'⟩

theorem WkL_refl {n ng : Nat} : ∀ (xs : List Blk), WkL n ng xs xs
  | [] => trivial
  | x :: xs => ⟨⟨rfl, rfl, .inl ⟨rfl, rfl⟩⟩, WkL_refl xs⟩

theorem SR.rsv {L : List BL} {F : Nat → Prop} {R : Reg} {t : Nat → PV} {h : List Blk} {n : Nat} {a : Act} {w : World} (hs : SR L F R ⟨t, h, n⟩ a w) (gs : List Bool) : SR (L ++ gls gs) F R ⟨t, h ++ gbs gs, n⟩ a w :=
  ⟨hs.hr.ghost gs (WkL_refl h), hs.n, hs.d, fun i => VR.gh (.inl rfl) (hs.t i)⟩

/-- Blocks laid by, at a region. -/
theorem RegQ.rsv {c : Cx} {id : Nat} {ops : Array Oper} {d : Bool} {k : List KI} {n : Nat} {t : Nat → PV} {h : List Blk} (gs : List Bool) (hq : RegQ c id ops d k ⟨t, h ++ gbs gs, n⟩ .mk .mk .mk) : RegQ c id ops d k ⟨t, h, n⟩ .mk .mk .mk := by
  intro L F R a w hs
  refine wp_mono (hq (L ++ gls gs) F R a w (hs.rsv gs)) ?_
  rintro e a' w' ⟨s', L', F', R', hq, hx, hl, hs'⟩
  exact ⟨s', L', F', R', hq, hx, (LLe.push_take L (gls gs) _).trans hl, hs'⟩

/-- A slice of one's own, closed from here on. -/
theorem RegQ.freeze {c : Cx} {id : Nat} {ops : Array Oper} {dd : Bool} {k : List KI} {n : Nat} {l : List (Nat × PV)} {h h' : List Blk} (d : Nat) {x' : PV} (he : closeV h (lk l d) = some (x', h')) (hq : RegQ c id ops dd k ⟨tm (ins l d x'), h', n⟩ .mk .mk .mk) : RegQ c id ops dd k ⟨tm l, h, n⟩ .mk .mk .mk := by
  intro L F R a w hs
  obtain ⟨F', R', hx, hr', hv⟩ := closeV_sound hs.hr (hs.t d) he
  have hs' : SR L F' R' ⟨tm (ins l d x'), h', n⟩ a w := by
    refine ⟨hr', hs.n, hs.d, fun i => ?_⟩
    show VR w R' L (lk (ins l d x') i) _
    rw [lk_ins]
    by_cases e : i = d
    · subst e
      rw [if_pos rfl]
      exact VR.mono (fun _ _ _ => rfl) R0_R (fun b l h => by simp at h) _ _ hv
    · rw [if_neg e]
      exact (hs.t i).ext hs.hr.RF hx (LLe.refl _)
  refine wp_mono (hq L F' R' a w hs') ?_
  rintro e a' w' ⟨s', L', F2, R2, hq, hx2, hl, hs2⟩
  exact ⟨s', L', F2, R2, hq, hx.trans hx2, hl, hs2⟩

/-- A call on the way through a tree. -/
def CallD (P : Program) (T : Tab) (ρ : Rsv) (a : Array Oper) (l : List Oper) (g : Nat) (args : List PV) (dst : Option Nat) (s : St) (t : Tr) (K : St → Prop) (_ : Lk a) (_ : Lk l) (_ : Lk t) (_ : Lk K) : Prop :=
  PCE P g args s.h fun v h' => popsT P T ρ a l t (s.put dst v h') K

theorem popsT_nil {P : Program} {T : Tab} {ρ : Rsv} {a : Array Oper} {l : List Oper} {s : St} {K : St → Prop} : popsT P T ρ a l .nil s K = K (nf s) := rfl
theorem popsT_alt {P : Program} {T : Tab} {ρ : Rsv} {a : Array Oper} {l : List Oper} {s : St} {K : St → Prop} (t u : Tr) : popsT P T ρ a l (.alt t u) s K = (popsT P T ρ a l t (nf s) K ∧ popsT P T ρ a l u (nf s) K) := rfl
theorem popsT_op {P : Program} {T : Tab} {ρ : Rsv} {a : Array Oper} {l : List Oper} {s : St} {K : St → Prop} (i : Nat) (t : Tr) : popsT P T ρ a l (.op i t) s K =
    match getO l i with
    | some o =>
      if dok o.dst s.n then
        match gd a s.t o with
        | some b => BrJ b
          (match rsvOf ρ o.dst with
          | none =>
            match calle o.op with
            | some (f, args) =>
              match ev s.t f with
              | .fn g cap => CallD P T ρ a l g (evs s.t args ++ cap) o.dst s t K .mk .mk .mk .mk
              | _ => False
            | none =>
              match hop T o.op s with
              | some (v, h') => popsT P T ρ a l t (nf (s.put o.dst v h')) K
              | none => False
          | some b =>
            match hopAt T b o.op s with
            | some (v, h') => popsT P T ρ a l t (nf (s.put o.dst v h')) K
            | none => False)
          (popsT P T ρ a l t (nf (s.put o.dst (.tup []) s.h)) K) .mk .mk
        | none => False
      else False
    | none => False := by
  rw [popsT]
  cases getO l i with
  | none => rfl
  | some o =>
    simp only [stepD, step1]
    cases rsvOf ρ o.dst with
    | none =>
      simp only
      split
      · cases gd a s.t o with
        | none => rfl
        | some b => cases b <;> simp only [BrJ_true, BrJ_false] <;> rfl
      · rfl
    | some b =>
      simp only
      split
      · cases gd a s.t o with
        | none => rfl
        | some b => cases b <;> simp only [BrJ_true, BrJ_false] <;> rfl
      · rfl

@[congr] theorem popsT_congr {P : Program} {T : Tab} {ρ : Rsv} {a : Array Oper} {l : List Oper} {t : Tr} {s s' : St} {K : St → Prop} (h : s = s') : popsT P T ρ a l t s K = popsT P T ρ a l t s' K := by rw [h]

theorem CallD.of {P : Program} {T : Tab} {ρ : Rsv} {g : Nat} {args : List PV} {dst : Option Nat} {s : St} {a : Array Oper} {l : List Oper} {t : Tr} {K : St → Prop} (I : List Nat) (r : Nat) {pargs' : List PV} {hI : List Blk} {Φ : PV → List Blk → Prop}
    (spec : PCE P g pargs' hI Φ) (hc : CallC s.h I r pargs' args hI)
    (hk : ∀ v h', Φ v h' → noReg r v ∧ noRegB r h' ∧ popsT P T ρ a l t (nf (s.put dst (ren (gOf I s.h.length) v) (merge s.h I (h'.map (renB (gOf I s.h.length)))))) K) : CallD P T ρ a l g args dst s t K .mk .mk .mk .mk :=
  PCE.frame I r hc.1 hc.2.1 spec hc.2.2.1.out hc.2.2.2 hk

theorem CallD.of0 {P : Program} {T : Tab} {ρ : Rsv} {g : Nat} {args : List PV} {dst : Option Nat} {s : St} {a : Array Oper} {l : List Oper} {t : Tr} {K : St → Prop} {Φ : PV → List Blk → Prop} (r : Nat)
    (spec : PCE P g args [] Φ) (hc : CallC s.h [] (r + 1) args args [])
    (hk : ∀ v h', Φ v h' → noReg (r + 1) v ∧ noRegB (r + 1) h' ∧ popsT P T ρ a l t (nf (s.put dst (ren (gOf [] s.h.length) v) (merge s.h [] (h'.map (renB (gOf [] s.h.length)))))) K) : CallD P T ρ a l g args dst s t K .mk .mk .mk .mk :=
  CallD.of [] (r + 1) spec hc hk

/-- A list of operations, ahead of a tree. -/
def sq : List Nat → Tr → Tr
  | [], t => t
  | i :: is, t => .op i (sq is t)

theorem sq_nil (t : Tr) : sq [] t = t := rfl
theorem sq_cons (i : Nat) (is : List Nat) (t : Tr) : sq (i :: is) t = .op i (sq is t) := rfl
theorem getO_zero (o : Oper) (l : List Oper) : getO (o :: l) 0 = some o := rfl
theorem getO_succ (o : Oper) (l : List Oper) (n : Nat) : getO (o :: l) (n + 1) = getO l n := rfl
theorem rsvOf_nil (dst : Option Nat) : rsvOf [] dst = none := by cases dst <;> rfl
theorem rsvOf_none (ρ : Rsv) : rsvOf ρ none = none := rfl
theorem rsvOf_cons (k b : Nat) (ρ : Rsv) (d : Nat) : rsvOf ((k, b) :: ρ) (some d) = if d = k then some b else rsvOf ρ (some d) := by
  unfold rsvOf
  simp only [List.lookup_cons]
  by_cases e : d = k
  · subst e; simp
  · have : (d == k) = false := by simpa using e
    rw [this, if_neg e]

attribute [go_sem] popsT_nil popsT_alt popsT_op sq_nil sq_cons getO_zero getO_succ rsvOf_nil rsvOf_none rsvOf_cons hopAt newB List.isEmpty_nil
end Go.Fw
