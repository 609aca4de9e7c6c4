/- Regions whose order is drawn. -/
import Derived.Test.YtaloakmffdejgaaFwG
set_option linter.unusedVariables false
namespace Go.Fw
open Go

def kindOf (op : Op) : Nat :=
  match op with
  | .box _ _ | .alloc _ | .buildSlice _ _ _ | .store _ _ _ | .makeSlice _ _ _ => 2
  | .load _ _ => 1
  | .call { callee := .builtin .append, .. } => 2
  | .call { callee := .builtin .clear, .. } => 2
  | .call { callee := .builtin .copy, .. } => 2
  | .call { callee := .value _, .. } => 2
  | .slice _ _ _ (some _) _ => 1
  | _ => 0

def indep (ops : Array Oper) (x y : Oper) : Bool :=
  x.apart ops y && (kindOf x.op == 0 || kindOf y.op == 0 || (kindOf x.op == 1 && kindOf y.op == 1))

/-- The value of an operation that does not touch the memory. -/
def qv (T : Tab) (ops : Array Oper) (o : Oper) (s : St) : Option PV :=
  match gd ops s.t o with
  | some true => (hop T o.op s).map (·.1)
  | some false => some (.tup [])
  | none => none

theorem hop_quiet {T : Tab} {op : Op} {s : St} (hk : kindOf op ≤ 1) {v : PV} {h' : List Blk} (h : hop T op s = some (v, h')) : h' = s.h := by
  unfold hop at h
  split at h
  case h_4 => simp only [Option.map_eq_some_iff] at h; obtain ⟨_, _, e⟩ := h; injection e with _ e; exact e.symm
  case h_8 =>
    split at h
    · injection h with h; injection h with _ e; exact e.symm
    · simp only [Option.map_eq_some_iff] at h; obtain ⟨_, _, e⟩ := h; injection e with _ e; exact e.symm
  case h_11 => simp only [Option.map_eq_some_iff] at h; obtain ⟨_, _, e⟩ := h; injection e with _ e; exact e.symm
  all_goals simp [kindOf] at hk

theorem calle_quiet {op : Op} (hk : kindOf op ≤ 1) : calle op = none := by
  unfold calle
  split
  · simp [kindOf] at hk
  · rfl

theorem step1_quiet {P : Program} {T : Tab} {ops : Array Oper} {o : Oper} {s : St} {K : St → Prop} (hk : kindOf o.op ≤ 1) :
    step1 P T ops o s K ↔ dok o.dst s.n = true ∧ ∃ v, qv T ops o s = some v ∧ K (s.put o.dst v s.h) := by
  unfold step1 qv
  rw [calle_quiet hk]
  by_cases hd : dok o.dst s.n = true
  · rw [if_pos hd]
    cases hg : gd ops s.t o with
    | none => simp
    | some b =>
      cases b with
      | false => simp [hd]
      | true =>
        cases hh : hop T o.op s with
        | none => simp
        | some z =>
          obtain ⟨v, h'⟩ := z
          have := hop_quiet hk hh
          subst this
          simp [hd]
  · rw [if_neg hd]
    simp [hd]

theorem ev_upd {t : Nat → PV} {d : Nat} {v : PV} {x : Operand} (h : x ≠ .tmp d) : ev (upd t d v) x = ev t x := by
  cases x with
  | tmp i =>
    have : i ≠ d := fun e => h (by rw [e])
    simp [ev, upd, this]
  | _ => rfl

theorem evs_congr {t t' : Nat → PV} : ∀ (xs : List Operand), (∀ x ∈ xs, ev t x = ev t' x) → evs t xs = evs t' xs
  | [], _ => rfl
  | x :: xs, h => by rw [evs, evs, h x (by simp), evs_congr xs fun y hy => h y (by simp [hy])]

theorem evp_congr {t t' : Nat → PV} : ∀ (xs : List (Nat × Operand)), (∀ x ∈ xs, ev t x.2 = ev t' x.2) → evp t xs = evp t' xs
  | [], _ => rfl
  | (i, x) :: xs, h => by rw [evp, evp, h (i, x) (by simp), evp_congr xs fun y hy => h y (by simp [hy])]

theorem evo_congr {t t' : Nat → PV} (o : Option Operand) (h : ∀ x, o = some x → ev t x = ev t' x) : evo t o = evo t' o := by
  cases o with
  | none => rfl
  | some x => rw [evo, evo, h x rfl]

theorem sil_congr {T : Tab} {op : Op} {t t' : Nat → PV} (h : ∀ x ∈ op.operands, ev t x = ev t' x) : sil T op t = sil T op t' := by
  unfold sil
  split <;> simp only [Op.operands, Call.operands] at h
  case h_12 ty x lo hi mx =>
    have e0 := h x (by simp)
    have e1 : evo t lo = evo t' lo := evo_congr _ fun y hy => h y (by subst hy; simp)
    have e2 : evo t hi = evo t' hi := evo_congr _ fun y hy => h y (by subst hy; simp)
    have e3 : evo t mx = evo t' mx := evo_congr _ fun y hy => h y (by subst hy; simp)
    rw [e0, e1, e2, e3]
  case h_13 f caps =>
    rw [evs_congr caps.toList fun y hy => h y (by simp at hy; simp [hy])]
  case h_15 ty ps =>
    rw [evp_congr ps.toList fun y hy => h y.2 (by simp at hy ⊢; exact ⟨y.1, hy⟩)]
  all_goals first
    | rfl
    | (simp [h]; done)
    | (rw [h _ (by simp), h _ (by simp), h _ (by simp)])
    | (rw [h _ (by simp), h _ (by simp)])
    | (rw [h _ (by simp)])

theorem hop_congr {T : Tab} {op : Op} {s s' : St} (hh : s.h = s'.h) (h : ∀ x ∈ op.operands, ev s.t x = ev s'.t x) : hop T op s = hop T op s' := by
  unfold hop
  split
  case h_11 => rw [sil_congr h, hh]
  case h_8 t x lo hi =>
    rw [sil_congr h, hh]
    simp only [Op.operands] at h
    have e1 : evo s.t lo = evo s'.t lo := evo_congr _ fun y hy => h y (by subst hy; simp)
    rw [h x (by simp), e1, h hi (by simp)]
  all_goals simp only [Op.operands, Call.operands] at h
  case h_3 t n ps => rw [evp_congr ps.toList fun y hy => h y.2 (by simp at hy ⊢; exact ⟨y.1, hy⟩), hh]
  all_goals first
    | (rw [hh]; done)
    | (rw [h _ (by simp), h _ (by simp), hh]; done)
    | (rw [h _ (by simp), hh]; done)

theorem hop_sil {T : Tab} {op : Op} {s s' : St} (hk : kindOf op = 0) (h : ∀ x ∈ op.operands, ev s.t x = ev s'.t x) : (hop T op s).map (·.1) = (hop T op s').map (·.1) := by
  have e : ∀ s, hop T op s = (sil T op s.t).map fun v => (v, s.h) := fun s => by
    unfold hop
    split
    case h_11 => rfl
    all_goals simp [kindOf] at hk
  rw [e, e, sil_congr h]
  cases sil T op s'.t <;> rfl

theorem mem_looks {ops : Array Oper} {o : Oper} {d : Nat} (h : Operand.tmp d ∈ o.op.operands) : d ∈ o.looksAt ops := by
  unfold Oper.looksAt
  refine List.mem_append_left _ (List.mem_filterMap.2 ⟨.tmp d, by simpa using h, rfl⟩)

theorem ev_apart {ops : Array Oper} {o : Oper} {t : Nat → PV} {d : Nat} {v : PV} (h : d ∉ o.looksAt ops) : ∀ x ∈ o.op.operands, ev (upd t d v) x = ev t x := fun x hx =>
  ev_upd fun e => h (mem_looks (e ▸ hx))

theorem gd_apart {ops : Array Oper} {o : Oper} {t : Nat → PV} {d : Nat} {v : PV} (h : d ∉ o.looksAt ops) : gd ops (upd t d v) o = gd ops t o := by
  unfold gd
  cases hg : o.guard with
  | none => rfl
  | some gw =>
    obtain ⟨j, want⟩ := gw
    simp only
    cases hd : (ops[j]?).bind (·.dst) with
    | none => rfl
    | some d' =>
      have hne : d' ≠ d := fun e => h (by subst e; unfold Oper.looksAt; rw [hg]; simp [hd])
      simp [upd, hne]

/-- The state with one slot changed. -/
def St.set (s : St) (dst : Option Nat) (v : PV) : St := s.put dst v s.h

theorem put_t {s : St} {dst : Option Nat} {v : PV} {h : List Blk} : (s.put dst v h).h = h ∧ (s.put dst v h).n = s.n := by
  cases dst <;> exact ⟨rfl, rfl⟩

theorem gd_put {ops : Array Oper} {o : Oper} {s : St} {dst : Option Nat} {v : PV} {h : List Blk} (hd : ∀ d, dst = some d → d ∉ o.looksAt ops) : gd ops (s.put dst v h).t o = gd ops s.t o := by
  cases dst with
  | none => rfl
  | some d => exact gd_apart (hd d rfl)

theorem ev_put {ops : Array Oper} {o : Oper} {s : St} {dst : Option Nat} {v : PV} {h : List Blk} (hd : ∀ d, dst = some d → d ∉ o.looksAt ops) : ∀ x ∈ o.op.operands, ev (s.put dst v h).t x = ev s.t x := by
  cases dst with
  | none => exact fun _ _ => rfl
  | some d => exact ev_apart (hd d rfl)

theorem put_comm {s : St} {x y : Option Nat} {u v : PV} {h1 h2 h : List Blk} (hne : ∀ d, x = some d → y ≠ some d) : ((s.put x v h1).put y u h) = (s.put y u h2).put x v h := by
  cases x with
  | none => cases y <;> rfl
  | some a =>
    cases y with
    | none => rfl
    | some b =>
      have hab : a ≠ b := fun e => hne a rfl (by rw [e])
      simp only [St.put]
      congr 1
      funext i
      simp only [upd]
      by_cases e1 : i = a
      · subst e1; simp [hab]
      · simp [e1]

theorem step1_mono {P : Program} {T : Tab} {ops : Array Oper} {o : Oper} {s : St} {K K' : St → Prop} (h : step1 P T ops o s K) (hk : ∀ s', K s' → K' s') : step1 P T ops o s K' := by
  unfold step1 at h ⊢
  by_cases hd : dok o.dst s.n = true
  case neg => rw [if_neg hd] at h; cases h
  rw [if_pos hd] at h ⊢
  cases hg : gd ops s.t o with
  | none => rw [hg] at h; cases h
  | some b =>
    rw [hg] at h
    cases b with
    | false => exact hk _ h
    | true =>
      simp only at h ⊢
      cases hc : calle o.op with
      | some fa =>
        obtain ⟨f, args⟩ := fa
        rw [hc] at h
        simp only at h ⊢
        split at h
        · exact PCE.mono h fun _ _ h => hk _ h
        · cases h
      | none =>
        rw [hc] at h
        simp only at h ⊢
        split at h
        · exact hk _ h
        · cases h

theorem pops_mono {P : Program} {T : Tab} {ops : Array Oper} {K K' : St → Prop} : ∀ (os : List Oper) (s : St), pops P T ops os s K → (∀ s', K s' → K' s') → pops P T ops os s K'
  | [], s, h, hk => hk s h
  | o :: os, s, h, hk => step1_mono h fun s' h' => pops_mono os s' h' hk

theorem calle_ops {op : Op} {f : Operand} {args : List Operand} (h : calle op = some (f, args)) : f ∈ op.operands ∧ ∀ x ∈ args, x ∈ op.operands := by
  unfold calle at h
  split at h
  · injection h with h; injection h with e1 e2; subst e1 e2
    simp [Op.operands, Call.operands]
    intro x hx; exact .inr hx
  · cases h

/-- A slot that an operation does not look at, laid behind it. -/
theorem step1_nat {P : Program} {T : Tab} {ops : Array Oper} {o : Oper} {s s2 : St} {K : St → Prop} (hn : s2.n = s.n) (hh : s2.h = s.h) (hg : gd ops s2.t o = gd ops s.t o) (he : ∀ x ∈ o.op.operands, ev s2.t x = ev s.t x)
    (h : step1 P T ops o s K) : step1 P T ops o s2 (fun s' => ∃ u h', s' = s2.put o.dst u h' ∧ K (s.put o.dst u h')) := by
  unfold step1 at h ⊢
  rw [hn, hg, hh]
  by_cases hd : dok o.dst s.n = true
  case neg => rw [if_neg hd] at h; cases h
  rw [if_pos hd] at h ⊢
  cases hg2 : gd ops s.t o with
  | none => rw [hg2] at h; cases h
  | some b =>
    rw [hg2] at h
    cases b with
    | false => exact ⟨_, _, rfl, h⟩
    | true =>
      simp only at h ⊢
      cases hc : calle o.op with
      | some fa =>
        obtain ⟨f, args⟩ := fa
        rw [hc] at h
        obtain ⟨c1, c2⟩ := calle_ops hc
        simp only at h ⊢
        rw [he f c1, evs_congr args fun x hx => he x (c2 x hx)]
        split at h
        · exact PCE.mono h fun v h' hK => ⟨v, h', rfl, hK⟩
        · cases h
      | none =>
        rw [hc] at h
        simp only at h ⊢
        rw [hop_congr hh he]
        split at h
        · exact ⟨_, _, rfl, h⟩
        · cases h

theorem qv_congr {T : Tab} {ops : Array Oper} {o : Oper} {s s2 : St} (hk : kindOf o.op = 0 ∨ s2.h = s.h) (hg : gd ops s2.t o = gd ops s.t o) (he : ∀ x ∈ o.op.operands, ev s2.t x = ev s.t x) : qv T ops o s2 = qv T ops o s := by
  unfold qv
  rw [hg]
  rcases hk with hk | hk
  · rw [hop_sil hk he]
  · rw [hop_congr hk he]

/-- Some real step there is. -/
theorem step1_real {P : Program} {T : Tab} (hT : TOk P T) {ops : Array Oper} {L : List BL} {F : Nat → Prop} {R : Reg} {s : St} {a : Act} {w : World} (hs : SR L F R s a w) {o : Oper} {K : St → Prop} (h : step1 P T ops o s K) :
    ∃ u h' L' F' R' a' w', K (s.put o.dst u h') ∧ SR L' F' R' (s.put o.dst u h') a' w' ∧ (kindOf o.op ≤ 1 → h' = s.h) := by
  by_cases hk : kindOf o.op ≤ 1
  · obtain ⟨hd, v, hv, hK⟩ := (step1_quiet hk).1 h
    unfold qv at hv
    split at hv
    · simp only [Option.map_eq_some_iff] at hv
      obtain ⟨⟨v', h'⟩, hh, rfl⟩ := hv
      obtain ⟨n, w', L', F', R', z, hrun, hn, hx, hl, hr, hv⟩ := hop_sound hT hs hh
      have := hop_quiet hk hh
      subst this
      exact ⟨v', s.h, L', F', R', _, w', hK, hs.put hx hl hr hd hv, fun _ => rfl⟩
    · injection hv with hv; subst hv
      exact ⟨.tup [], s.h, L, F, R, a.put o.dst undef, w, hK, hs.put (Ext.refl _ _ _) (LLe.refl _) hs.hr hd (by rw [VR]; exact ⟨#[], rfl, rfl, trivial⟩), fun _ => rfl⟩
    · cases hv
  · unfold step1 at h
    split at h
    case isFalse => cases h
    rename_i hd
    split at h
    · split at h
      · rename_i f args hc
        split at h
        · rename_i g cap hf
          obtain ⟨vs, hvs⟩ : ∃ vs : List Value, vs.length = (evs s.t args ++ cap).length ∧ VRs w R L (evs s.t args ++ cap) (fun i => vs[i]?) := by
            have hfv := VR_ev hs f
            rw [hf, VR] at hfv
            obtain ⟨cs, hfe, hvl, hcs⟩ := hfv
            refine ⟨args.map a.eval ++ cs.toList, by simp [evs_eq, hvl], ?_⟩
            have h1 : VRs w R L (evs s.t args) (fun i => (args.map a.eval)[i]?) := by
              rw [VRs_iff]
              intro i c hi
              simp only [evs_eq, List.getElem?_map, Option.map_eq_some_iff] at hi
              obtain ⟨x, hx, rfl⟩ := hi
              exact ⟨a.eval x, by simp [hx], VR_ev hs x⟩
            have h2 : VRs w R L cap (fun i => cs.toList[i]?) := by simpa using hcs
            have := VRs.append (rest := []) (by simp [evs_eq]) h1 h2
            simpa using this
          obtain ⟨e, w', fr, ⟨v, pv, h', L', F', R', rfl, hK, hx, hl, hr, hv⟩, _⟩ := h.2 L F R w vs.toArray hs.hr (by simpa using hvs.1) (by simpa using hvs.2) []
          exact ⟨pv, h', L', F', R', a.put o.dst v, w', hK, hs.put hx hl hr hd hv, fun h => absurd h hk⟩
        · cases h
      · split at h
        · rename_i v h' hh
          obtain ⟨n, w', L', F', R', z, hrun, hn, hx, hl, hr, hv⟩ := hop_sound hT hs hh
          exact ⟨v, h', L', F', R', _, w', h, hs.put hx hl hr hd hv, fun h => absurd h hk⟩
        · cases h
    · exact ⟨.tup [], s.h, L, F, R, a.put o.dst undef, w, h, hs.put (Ext.refl _ _ _) (LLe.refl _) hs.hr hd (by rw [VR]; exact ⟨#[], rfl, rfl, trivial⟩), fun _ => rfl⟩
    · cases h

theorem indep_spec {ops : Array Oper} {x y : Oper} (h : indep ops x y = true) :
    (∀ d, x.dst = some d → d ∉ y.looksAt ops) ∧ (∀ d, x.dst = some d → y.dst ≠ some d) ∧ (∀ d, y.dst = some d → d ∉ x.looksAt ops) ∧ (kindOf x.op = 0 ∨ kindOf y.op = 0 ∨ (kindOf x.op = 1 ∧ kindOf y.op = 1)) := by
  unfold indep at h
  simp only [Bool.and_eq_true, Bool.or_eq_true, beq_iff_eq] at h
  obtain ⟨h1, h2, h3⟩ := Oper.apart_spec h.1
  exact ⟨h1, h2, h3, by rcases h.2 with (h | h) | h <;> simp [h]⟩

theorem front_val {P : Program} {T : Tab} (hT : TOk P T) {ops : Array Oper} {o : Oper} (hk : kindOf o.op ≤ 1) {l2 : List Oper} {K : St → Prop} : ∀ (l1 : List Oper) {L : List BL} {F : Nat → Prop} {R : Reg} {s : St} {a : Act} {w : World},
    SR L F R s a w → (∀ x ∈ l1, indep ops x o = true) → pops P T ops (l1 ++ o :: l2) s K → dok o.dst s.n = true ∧ ∃ v, qv T ops o s = some v
  | [], L, F, R, s, a, w, hs, hi, h => by
    obtain ⟨hd, v, hv, _⟩ := (step1_quiet hk).1 h
    exact ⟨hd, v, hv⟩
  | x :: l1, L, F, R, s, a, w, hs, hi, h => by
    obtain ⟨u, h', L', F', R', a', w', hK, hs', hh⟩ := step1_real hT hs h
    obtain ⟨hd, v, hv⟩ := front_val hT hk l1 hs' (fun y hy => hi y (by simp [hy])) hK
    obtain ⟨i1, i2, i3, i4⟩ := indep_spec (hi x (by simp))
    refine ⟨by rw [← (put_t (s := s) (dst := x.dst) (v := u) (h := h')).2]; exact hd, v, ?_⟩
    rw [← hv]
    refine (qv_congr ?_ (gd_put i1) (ev_put i1)).symm
    rcases i4 with h0 | h0 | h0
    · exact .inr (by rw [put_t.1]; exact hh (by omega))
    · exact .inl h0
    · exact .inr (by rw [put_t.1]; exact hh (by omega))

theorem front_rest {P : Program} {T : Tab} {ops : Array Oper} {o : Oper} (hk : kindOf o.op ≤ 1) {l2 : List Oper} {K : St → Prop} {v : PV} : ∀ (l1 : List Oper) {s : St},
    (∀ x ∈ l1, indep ops x o = true) → qv T ops o s = some v → pops P T ops (l1 ++ o :: l2) s K → pops P T ops (l1 ++ l2) (s.put o.dst v s.h) K
  | [], s, hi, hv, h => by
    obtain ⟨hd, v', hv', hK⟩ := (step1_quiet hk).1 h
    rw [hv] at hv'
    injection hv' with e; subst e
    exact hK
  | x :: l1, s, hi, hv, h => by
    obtain ⟨i1, i2, i3, i4⟩ := indep_spec (hi x (by simp))
    by_cases hkx : kindOf x.op ≤ 1
    · obtain ⟨hd, u, hu, hK⟩ := (step1_quiet hkx).1 h
      refine (step1_quiet hkx).2 ⟨by rw [put_t.2]; exact hd, u, ?_, ?_⟩
      · rw [← hu]; exact qv_congr (.inr put_t.1) (gd_put i3) (ev_put i3)
      · have hqs : qv T ops o (s.put x.dst u s.h) = some v := by rw [← hv]; exact qv_congr (.inr put_t.1) (gd_put i1) (ev_put i1)
        have := front_rest hk l1 (fun y hy => hi y (by simp [hy])) hqs hK
        rw [put_t.1] at this ⊢
        rw [put_comm (h2 := s.h) (fun d hd e => i2 d e hd)]
        exact this
    · have hk0 : kindOf o.op = 0 := by omega
      have h1 := step1_nat (s2 := s.put o.dst v s.h) put_t.2 put_t.1 (gd_put i3) (ev_put i3) h
      refine step1_mono h1 ?_
      rintro s' ⟨u, h', rfl, hK⟩
      have hqs : qv T ops o (s.put x.dst u h') = some v := by rw [← hv]; exact qv_congr (.inl hk0) (gd_put i1) (ev_put i1)
      have := front_rest hk l1 (fun y hy => hi y (by simp [hy])) hqs hK
      rw [put_t.1] at this
      rw [put_comm (h2 := h') (fun d hd e => i2 d e hd)]
      exact this

theorem front_loud {P : Program} {T : Tab} {ops : Array Oper} {o : Oper} {l2 : List Oper} {K : St → Prop} : ∀ (l1 : List Oper) {s : St},
    (∀ x ∈ l1, indep ops x o = true) → (∀ x ∈ l1, kindOf x.op = 0) → pops P T ops (l1 ++ o :: l2) s K → step1 P T ops o s fun s' => pops P T ops (l1 ++ l2) s' K
  | [], s, hi, hk, h => h
  | x :: l1, s, hi, hk, h => by
    obtain ⟨i1, i2, i3, i4⟩ := indep_spec (hi x (by simp))
    have hkx : kindOf x.op = 0 := hk x (by simp)
    obtain ⟨hd, u, hu, hK⟩ := (step1_quiet (by omega)).1 h
    have ih := front_loud l1 (fun y hy => hi y (by simp [hy])) (fun y hy => hk y (by simp [hy])) hK
    have h1 := step1_nat (s2 := s) (by rw [put_t.2]) (by rw [put_t.1]) (gd_put i1).symm (fun y hy => (ev_put i1 y hy).symm) ih
    refine step1_mono h1 ?_
    rintro s' ⟨v, h', rfl, hK'⟩
    refine (step1_quiet (by omega)).2 ⟨by rw [put_t.2]; exact hd, u, ?_, ?_⟩
    · rw [← hu]; exact qv_congr (.inl hkx) (gd_put i3) (ev_put i3)
    · rw [put_t.1]
      rw [put_comm (h2 := h') i2] at hK'
      exact hK'

theorem pops_front {P : Program} {T : Tab} (hT : TOk P T) {ops : Array Oper} {o : Oper} {l1 l2 : List Oper} {K : St → Prop} {L : List BL} {F : Nat → Prop} {R : Reg} {s : St} {a : Act} {w : World}
    (hs : SR L F R s a w) (hi : ∀ x ∈ l1, indep ops x o = true) (h : pops P T ops (l1 ++ o :: l2) s K) : step1 P T ops o s fun s' => pops P T ops (l1 ++ l2) s' K := by
  by_cases hk : kindOf o.op ≤ 1
  · obtain ⟨hd, v, hv⟩ := front_val hT hk l1 hs hi h
    exact (step1_quiet hk).2 ⟨hd, v, hv, front_rest hk l1 hi hv h⟩
  · refine front_loud l1 hi (fun x hx => ?_) h
    obtain ⟨_, _, _, i4⟩ := indep_spec (hi x hx)
    omega

/-- Does j come ahead of i, by edges that bind? -/
def prec (ops : Array Oper) : Nat → Nat → Nat → Bool
  | 0, _, _ => false
  | n + 1, j, i =>
    match ops[i]? with
    | some o => o.after.any fun e => Region.binds .any e && (e.on == j || prec ops n j e.on)
    | none => false

def drawOk (ops : Array Oper) : Bool :=
  (List.range ops.size).all fun i =>
    match ops[i]? with
    | some o => (o.after.all fun e => !Region.binds .any e || decide (e.on < i)) &&
        (List.range i).all fun j => match ops[j]? with
          | some x => indep ops x o || prec ops 3 j i
          | none => true
    | none => true

theorem prec_listed {ops : Array Oper} {listed : Array Bool} (hcl : ∀ k o, ops[k]? = some o → listed.getD k false = true → ∀ e ∈ o.after, Region.binds .any e = true → listed.getD e.on false = true) : ∀ (n j i : Nat) (o : Oper),
    ops[i]? = some o → (∀ e ∈ o.after, Region.binds .any e = true → listed.getD e.on false = true) → prec ops n j i = true → listed.getD j false = true
  | 0, j, i, o, _, _, h => by simp [prec] at h
  | n + 1, j, i, o, ho, hr, h => by
    simp only [prec, ho] at h
    obtain ⟨e, he, hb⟩ := Array.any_eq_true'.1 h
    simp only [Bool.and_eq_true, Bool.or_eq_true, beq_iff_eq] at hb
    have hl := hr e he hb.1
    rcases hb.2 with rfl | h2
    · exact hl
    · cases hoe : ops[e.on]? with
      | none => cases n <;> simp [prec, hoe] at h2
      | some oe => exact prec_listed hcl n j e.on oe hoe (hcl e.on oe hoe hl) h2

theorem any_sound {P : Program} {T : Tab} (hT : TOk P T) {ops : Array Oper} {Q : Exit → Act → World → Prop} {K : St → Prop} (hok : drawOk ops = true) : ∀ (fuel : Nat) (l : List Nat) (listed : Array Bool) {L : List BL} {F : Nat → Prop} {R : Reg} {s : St} {a : Act} {w : World},
    listed.size = ops.size → l = (List.range ops.size).filter (fun i => !listed.getD i true) → l.length ≤ fuel →
    (∀ k o, ops[k]? = some o → listed.getD k false = true → ∀ e ∈ o.after, Region.binds .any e = true → listed.getD e.on false = true) →
    SR L F R s a w → pops P T ops (l.filterMap (ops[·]?)) s K → (∀ a' w', NX L F R w K a' w' → Q .normal a' w') → wpAny P .any ops Q fuel listed a w := by
  intro fuel
  have hok' := hok
  simp only [drawOk, List.all_eq_true, List.mem_range] at hok'
  induction fuel with
  | zero =>
    intro l listed L F R s a w hsz hl hlen hcl hs h hq
    have hl0 : l = [] := List.eq_nil_of_length_eq_zero (by omega)
    subst hl0
    refine ⟨?_, hq a w ⟨s, L, F, R, h, Ext.refl _ _ _, LLe.refl _, hs⟩⟩
    unfold Region.ready
    rw [List.filter_eq_nil_iff]
    intro i hi
    have : (!listed.getD i true) = false := by
      have := (List.filter_eq_nil_iff.1 hl.symm) i hi
      simpa using this
    simp only [this, Bool.false_and]
    simp
  | succ fuel ih =>
    intro l listed L F R s a w hsz hl hlen hcl hs h hq
    refine ⟨fun hr => ?_, fun i hi => ?_⟩
    · -- nothing is ready: nothing is left
      have hl0 : l = [] := by
        cases hll : l with
        | nil => rfl
        | cons i0 rest =>
          exfalso
          have hmem : i0 ∈ (List.range ops.size).filter (fun i => !listed.getD i true) := by rw [← hl, hll]; simp
          rw [List.mem_filter, List.mem_range] at hmem
          obtain ⟨o, ho⟩ : ∃ o, ops[i0]? = some o := ⟨ops[i0]'hmem.1, Array.getElem?_eq_getElem hmem.1⟩
          have hrd : i0 ∈ Region.ready .any ops listed := by
            rw [mem_ready]
            refine ⟨by simpa using hmem.2, o, ho, fun e he hb => ?_⟩
            have h1 := hok' i0 hmem.1
            rw [ho] at h1
            simp only [Bool.and_eq_true] at h1
            have h2 := Array.all_eq_true_iff_forall_mem.1 h1.1 e he
            simp [hb] at h2
            by_cases hle : listed.getD e.on true = true
            · have hlt : e.on < listed.size := by omega
              simpa [Array.getD, hlt] using hle
            · exfalso
              have hin : e.on ∈ l := by
                rw [hl, List.mem_filter, List.mem_range]
                exact ⟨by omega, by simpa using hle⟩
              have hsorted : l.Pairwise (· < ·) := by rw [hl]; exact List.Pairwise.filter _ List.pairwise_lt_range
              rw [hll] at hin hsorted
              rcases List.mem_cons.1 hin with e1 | e1
              · omega
              · have := (List.pairwise_cons.1 hsorted).1 _ e1
                omega
          rw [hr] at hrd
          cases hrd
      subst hl0
      exact hq a w ⟨s, L, F, R, h, Ext.refl _ _ _, LLe.refl _, hs⟩
    · obtain ⟨hi0, o, ho, hall⟩ := mem_ready.1 hi
      have hisz : i < ops.size := (Array.getElem?_eq_some_iff.1 ho).1
      have him : i ∈ l := by rw [hl, List.mem_filter, List.mem_range]; exact ⟨hisz, by simpa using hi0⟩
      obtain ⟨l1, l2, hll⟩ := List.append_of_mem him
      have hsorted : l.Pairwise (· < ·) := by rw [hl]; exact List.Pairwise.filter _ List.pairwise_lt_range
      rw [hll] at h hsorted
      have hlt1 : ∀ j ∈ l1, j < i := fun j hj => (List.pairwise_append.1 hsorted).2.2 j hj i (by simp)
      have hlt2 : ∀ j ∈ l2, i < j := fun j hj => (List.pairwise_cons.1 (List.pairwise_append.1 hsorted).2.1).1 j hj
      have hunl : ∀ j ∈ l1, listed.getD j true = false := fun j hj => by
        have : j ∈ l := by rw [hll]; simp [hj]
        rw [hl, List.mem_filter] at this
        simpa using this.2
      have hind : ∀ x ∈ l1.filterMap (ops[·]?), indep ops x o = true := fun x hx => by
        obtain ⟨j, hj, hxj⟩ := List.mem_filterMap.1 hx
        have h1 := hok' i hisz
        rw [ho] at h1
        simp only [Bool.and_eq_true, List.all_eq_true, List.mem_range] at h1
        have h2 := h1.2 j (hlt1 j hj)
        rw [hxj] at h2
        simp only [Bool.or_eq_true] at h2
        rcases h2 with h2 | h2
        · exact h2
        · exfalso
          have h3 := prec_listed hcl 3 j i o ho hall h2
          have h4 := hunl j hj
          have hjs : j < listed.size := by have := hlt1 j hj; omega
          simp [Array.getD, hjs] at h3 h4
          rw [h3] at h4; cases h4
      have h' : pops P T ops (l1.filterMap (ops[·]?) ++ o :: l2.filterMap (ops[·]?)) s K := by
        have e : (l1 ++ i :: l2).filterMap (ops[·]?) = l1.filterMap (ops[·]?) ++ o :: l2.filterMap (ops[·]?) := by
          simp [List.filterMap_append, ho]
        rw [e] at h; exact h
      have hst := pops_front hT hs hind h'
      have h1 := step1_sound hT hs hst Q
      have hnew : (l1 ++ l2) = (List.range ops.size).filter (fun k => !(listed.setIfInBounds i true).getD k true) := by
        have e1 : (List.range ops.size).filter (fun k => !(listed.setIfInBounds i true).getD k true) = ((List.range ops.size).filter (fun k => !listed.getD k true)).filter (fun k => k != i) := by
          rw [List.filter_filter]
          apply List.filter_congr
          intro k hk
          by_cases e : i = k
          · subst e
            have : i < listed.size := by omega
            simp [Array.getD, this]
          · rw [getD_set_ne true e]
            have : (k != i) = true := by simp; exact fun h => e h.symm
            rw [this]; simp
        rw [e1, ← hl, hll, List.filter_append, List.filter_cons]
        have f1 : l1.filter (fun k => k != i) = l1 := List.filter_eq_self.2 fun k hk => by have := hlt1 k hk; simp; omega
        have f2 : l2.filter (fun k => k != i) = l2 := List.filter_eq_self.2 fun k hk => by have := hlt2 k hk; simp; omega
        rw [f1, f2]; simp
      have hcl' : ∀ k o', ops[k]? = some o' → (listed.setIfInBounds i true).getD k false = true → ∀ e ∈ o'.after, Region.binds .any e = true → (listed.setIfInBounds i true).getD e.on false = true := fun k o' hk hlk e he hb => by
        by_cases e2 : i = k
        · subst e2
          have : o' = o := by rw [ho] at hk; exact (Option.some.inj hk).symm
          subst this
          exact getD_set_true (hall e he hb)
        · rw [getD_set_ne false e2] at hlk
          exact getD_set_true (hcl k o' hk hlk e he hb)
      have next : ∀ a' w', NX L F R w (fun s' => pops P T ops (l1.filterMap (ops[·]?) ++ l2.filterMap (ops[·]?)) s' K) a' w' → wpAny P .any ops Q fuel (listed.setIfInBounds i true) a' w' := fun a' w' hn => by
        obtain ⟨s', L', F', R', hK, hx, hle, hs'⟩ := hn
        refine ih (l1 ++ l2) (listed.setIfInBounds i true) (by simpa using hsz) hnew (by rw [hll] at hlen; simp at hlen ⊢; omega) hcl' hs' (by rw [List.filterMap_append]; exact hK) fun a2 w2 h2 => hq a2 w2 (h2.trans hx hle)
      unfold wpOp
      rw [ho]
      simp only
      split at h1
      · rename_i hw
        rw [if_pos hw]
        exact h1.imp (fun h2 => Oper.wp_mono next h2) id
      · rename_i hw
        rw [if_neg hw]
        exact next _ _ h1

theorem filterMap_range' {α : Type} : ∀ (l : List α), (List.range l.length).filterMap (l[·]?) = l
  | [] => rfl
  | a :: l => by
    rw [List.length_cons, List.range_succ_eq_map, List.filterMap_cons]
    simp only [List.getElem?_cons_zero, List.filterMap_map]
    congr 1
    exact filterMap_range' l

theorem filterMap_range (ops : Array Oper) : (List.range ops.size).filterMap (ops[·]?) = ops.toList := by
  have := filterMap_range' ops.toList
  simpa using this

theorem SR.drew {L : List BL} {F : Nat → Prop} {R : Reg} {s : St} {a : Act} {w : World} (hs : SR L F R s a w) : SR L F R s a { w with drawn := w.drawn + 1 } := by
  have hx : Ext w F R { w with drawn := w.drawn + 1 } F R := Ext.drew w F R
  refine ⟨⟨hs.hr.len, fun i b l hb hl => ?_, hs.hr.inj, hs.hr.RF, hs.hr.Flt⟩, hs.n, hs.d, fun i => (hs.t i).ext hs.hr.RF hx (LLe.refl _)⟩
  obtain ⟨r1, r2, r3⟩ := hs.hr.blk i b l hb hl
  refine ⟨r1, r2, ?_⟩
  cases hloc : l.loc with
  | none => rw [hloc] at r3; exact r3
  | some q =>
    obtain ⟨rb, ro, sz⟩ := q
    rw [hloc] at r3
    obtain ⟨arr, e, fz, q1, q2, q3, q4, q5, q6⟩ := r3
    exact ⟨arr, e, fz, q1, q2, q3, q4, q5.ext hs.hr.RF hx (LLe.refl _) fun _ _ h => h, q6⟩

/-- A region whose order is drawn. -/
theorem W_draw {P : Program} {T : Tab} {m : Nat} {Q : Exit → St → Prop} {k : List KI} {s : St} (hT : TOk P T) (hmix : P.follows .mixedOrders = true) {id : Nat} {ops : Array Oper} (hok : drawOk ops = true)
    (h : ∀ K : St → Prop, (∀ s', N P m k Q s' → K s') → pops P T ops ops.toList s K) : W P m (.region id ops true) k Q s := by
  intro L F R a w hs
  refine wp_region_any hmix (any_sound hT hok ops.size (List.range ops.size) _ (by simp) ?_ (by simp) ?_ hs.drew (by rw [filterMap_range]; exact h _ fun _ h => h) fun a' w' hn => N_real (hn.trans (Ext.drew w F R) (LLe.refl _)))
  · symm
    rw [List.filter_eq_self]
    intro i hi
    simp at hi
    simp [hi]
  · intro i o _ hl
    exfalso
    by_cases hi : i < ops.size
    · simp [hi] at hl
    · simp [hi] at hl
end Go.Fw
