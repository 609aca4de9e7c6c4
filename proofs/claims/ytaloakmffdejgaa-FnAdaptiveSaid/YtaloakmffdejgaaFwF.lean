/- Operations in a row, calls, functions. -/
import Derived.Test.YtaloakmffdejgaaFwE
set_option linter.unusedVariables false
namespace Go.Fw
open Go

/-- A function with a body of its own: a call enters it. -/
def Ent (P : Program) (f : Nat) : Prop := ∀ args w, (callFunc f args).run P w = .ok (.enter f args) w

/-- A call of a function, by value. -/
def PCE (P : Program) (f : Nat) (pargs : List PV) (h : List Blk) (Φ : PV → List Blk → Prop) : Prop := Ent P f ∧ PC P f pargs h Φ

theorem PCE.mono {P : Program} {f : Nat} {pargs : List PV} {h : List Blk} {Φ Ψ : PV → List Blk → Prop} (hp : PCE P f pargs h Φ) (hq : ∀ v h', Φ v h' → Ψ v h') : PCE P f pargs h Ψ := ⟨hp.1, hp.2.mono hq⟩

def upd (t : Nat → PV) (d : Nat) (v : PV) : Nat → PV := fun i => if i = d then v else t i

def St.put (s : St) (dst : Option Nat) (v : PV) (h : List Blk) : St :=
  match dst with
  | some d => ⟨upd s.t d v, h, s.n⟩
  | none => ⟨s.t, h, s.n⟩

def dok (dst : Option Nat) (n : Nat) : Bool :=
  match dst with
  | some d => decide (d < n)
  | none => true

/-- Is a guarded operation carried out? -/
def gd (ops : Array Oper) (t : Nat → PV) (o : Oper) : Option Bool :=
  match o.guard with
  | none => some true
  | some (j, want) =>
    match (ops[j]?).bind (·.dst) with
    | some d =>
      match t d with
      | .bool b => some (b == want)
      | .tup [] => some false
      | _ => none
    | none => none

def hop (T : Tab) (op : Op) (s : St) : Option (PV × List Blk) :=
  match op with
  | .box _ x => boxP s.h (ev s.t x)
  | .alloc e => allocP T s.h e
  | .buildSlice t n ps => bsP T s.h t n (evp s.t ps.toList)
  | .load t x => (ld T s.h t (ev s.t x)).map fun v => (v, s.h)
  | .store t x v => (stP T s.h t (ev s.t x) (ev s.t v)).map fun h => (.unk, h)
  | .makeSlice t l c => msP T s.h t (ev s.t l) (ev s.t c)
  | .call { callee := .builtin .append, args := ⟨[x, y]⟩, argTypes := ⟨[xT, yT]⟩ } => apP T s.h xT yT (ev s.t x) (ev s.t y)
  | .slice t x lo (some hi) none =>
    match sil T (.slice t x lo (some hi) none) s.t with
    | some v => some (v, s.h)
    | none => (slB T s.h t (ev s.t x) (evo s.t lo) (ev s.t hi)).map fun v => (v, s.h)
  | .call { callee := .builtin .clear, args := ⟨[x]⟩, argTypes := ⟨[xT]⟩ } => clrP T s.h xT (ev s.t x)
  | .call { callee := .builtin .copy, args := ⟨[x, y]⟩, argTypes := ⟨[xT, yT]⟩ } => cpyP T s.h xT yT (ev s.t x) (ev s.t y)
  | op => (sil T op s.t).map fun v => (v, s.h)

def calle (op : Op) : Option (Operand × List Operand) :=
  match op with
  | .call { callee := .value f, args := args, .. } => some (f, args.toList)
  | _ => none

def step1 (P : Program) (T : Tab) (ops : Array Oper) (o : Oper) (s : St) (K : St → Prop) : Prop :=
  if dok o.dst s.n then
    match gd ops s.t o with
    | some true =>
      match calle o.op with
      | some (f, args) =>
        match ev s.t f with
        | .fn g cap => PCE P g (evs s.t args ++ cap) s.h fun v h' => K (s.put o.dst v h')
        | _ => False
      | none =>
        match hop T o.op s with
        | some (v, h') => K (s.put o.dst v h')
        | none => False
    | some false => K (s.put o.dst (.tup []) s.h)
    | none => False
  else False

def pops (P : Program) (T : Tab) (ops : Array Oper) : List Oper → St → (St → Prop) → Prop
  | [], s, K => K s
  | o :: os, s, K => step1 P T ops o s fun s' => pops P T ops os s' K

def PCK (P : Program) (T : Tab) (ops : Array Oper) (os : List Oper) (K : St → Prop) (dst : Option Nat) (s : St) (g : Nat) (args : List PV) : Prop :=
  PCE P g args s.h fun v h' => pops P T ops os (s.put dst v h') K

theorem pops_nil (P : Program) (T : Tab) (ops : Array Oper) (s : St) (K : St → Prop) : pops P T ops [] s K = K s := rfl
theorem pops_cons (P : Program) (T : Tab) (ops : Array Oper) (o : Oper) (os : List Oper) (s : St) (K : St → Prop) : pops P T ops (o :: os) s K =
    if dok o.dst s.n then
      match gd ops s.t o with
      | some true =>
        match calle o.op with
        | some (f, args) =>
          match ev s.t f with
          | .fn g cap => PCK P T ops os K o.dst s g (evs s.t args ++ cap)
          | _ => False
        | none =>
          match hop T o.op s with
          | some (v, h') => pops P T ops os (s.put o.dst v h') K
          | none => False
      | some false => pops P T ops os (s.put o.dst (.tup []) s.h) K
      | none => False
    else False := rfl

/-- What is known behind a step of the machine. -/
def NX (L : List BL) (F : Nat → Prop) (R : Reg) (w : World) (K : St → Prop) (a' : Act) (w' : World) : Prop :=
  ∃ s' L' F' R', K s' ∧ Ext w F R w' F' R' ∧ LLe L L' ∧ SR L' F' R' s' a' w'

theorem SR.put {L L' : List BL} {F F' : Nat → Prop} {R R' : Reg} {s : St} {a : Act} {w w' : World} (hs : SR L F R s a w) (hx : Ext w F R w' F' R') (hl : LLe L L') {h' : List Blk} (hr : HR w' F' R' L' h') {dst : Option Nat} (hd : dok dst s.n = true)
    {v : PV} {u : Value} (hv : VR w' R' L' v u) : SR L' F' R' (s.put dst v h') (a.put dst u) w' := by
  have hold : ∀ i, VR w' R' L' (s.t i) (a.tmps.getD i undef) := fun i => (hs.t i).ext hs.hr.RF hx hl
  cases dst with
  | none => exact ⟨hr, hs.n, hs.d, hold⟩
  | some d =>
    simp only [dok, decide_eq_true_eq] at hd
    refine ⟨hr, by simpa [Act.put, St.put] using hs.n, hs.d, fun i => ?_⟩
    simp only [St.put, upd, Act.put]
    split
    · rename_i e
      subst e
      have : i < a.tmps.size := by rw [hs.n]; exact hd
      simp [Array.getD, this]; exact hv
    · rename_i e
      have := hold i
      simp only [Array.getD_eq_getD_getElem?] at this ⊢
      rw [Array.getElem?_setIfInBounds_ne (by omega)]; exact this

theorem gd_wanted {ops : Array Oper} {L : List BL} {F : Nat → Prop} {R : Reg} {s : St} {a : Act} {w : World} (hs : SR L F R s a w) {o : Oper} {b : Bool} (h : gd ops s.t o = some b) :
    Region.wanted o (yielded ops a.tmps) = b := by
  unfold gd at h
  unfold Region.wanted
  cases hg : o.guard with
  | none => rw [hg] at h; simp at h; simp [h]
  | some gw =>
    obtain ⟨j, want⟩ := gw
    rw [hg] at h
    simp only at h ⊢
    split at h
    · rename_i d hd
      split at h
      · rename_i c hc
        injection h with h
        have := hs.t d
        rw [hc, VR] at this
        have hget : a.tmps[d]? = some (.bool c) := by
          rw [Array.getD_eq_getD_getElem?] at this
          cases h2 : a.tmps[d]? with
          | none => rw [h2] at this; simp [undef] at this
          | some v => rw [h2] at this; simp at this; rw [this]
        unfold yielded
        rw [hd]
        simp only [Option.bind_some, hget]
        rw [← h]
        cases c <;> cases want <;> rfl
      · rename_i hc
        injection h with h
        have := hs.t d
        rw [hc, VR] at this
        obtain ⟨vs, e1, e2, _⟩ := this
        have hget : ∀ c, a.tmps[d]? ≠ some (.bool c) := by
          intro c hcc
          rw [Array.getD_eq_getD_getElem?, hcc] at e1
          simp at e1
        unfold yielded
        rw [hd, ← h]
        simp only [Option.bind_some]
        cases h2 : a.tmps[d]? with
        | none => rfl
        | some v =>
          cases v with
          | bool c => exact absurd h2 (hget c)
          | _ => rfl
      · cases h
    · cases h

theorem hop_sound {P : Program} {T : Tab} (hT : TOk P T) {L : List BL} {F : Nat → Prop} {R : Reg} {s : St} {a : Act} {w : World} (hs : SR L F R s a w) {o : Oper} {r : PV} {h' : List Blk} (h : hop T o.op s = some (r, h')) :
    ∃ n w' L' F' R' z, (execOp a.eval o).run P w = .ok n w' ∧ ((n = .value z) ∨ (n = .skip ∧ z = undef)) ∧ Ext w F R w' F' R' ∧ LLe L L' ∧ HR w' F' R' L' h' ∧ VR w' R' L' r z := by
  have hv := VR_ev hs
  obtain ⟨dst, op, type, pos, after, guard⟩ := o
  simp only at h
  unfold hop at h
  split at h
  · rename_i e x
    obtain ⟨z, w', L', q1, q2, q3, q4, q5⟩ := boxP_sound (P := P) (e := e) hs.hr (hv x) h
    exact ⟨.value z, w', L', F, R, z, by simp [execOp, q1], .inl rfl, q2, q3, q4, q5⟩
  · rename_i e
    obtain ⟨z, w', L', q1, q2, q3, q4, q5⟩ := allocP_sound hT hs.hr h
    exact ⟨.value z, w', L', F, R, z, by simp [execOp, q1], .inl rfl, q2, q3, q4, q5⟩
  · rename_i t n ps
    have hp : ∀ (i : Nat) (p : Nat × PV) (v : Nat × Value), (evp s.t ps.toList)[i]? = some p → (ps.map fun (i, x) => (i, a.eval x))[i]? = some v → p.1 = v.1 ∧ VR w R L p.2 v.2 := by
      intro i p v h1 h2
      simp only [evp_eq, List.getElem?_map, Option.map_eq_some_iff] at h1
      simp only [Array.getElem?_map, Option.map_eq_some_iff] at h2
      obtain ⟨z, hz, rfl⟩ := h1
      obtain ⟨z', hz', rfl⟩ := h2
      have : z = z' := by simp at hz; rw [hz] at hz'; exact Option.some.inj hz'
      subst this
      exact ⟨rfl, hv _⟩
    obtain ⟨z, w', L', F', R', q1, q2, q3, q4, q5⟩ := bsP_sound hT hs.hr (vs := ps.map fun (i, x) => (i, a.eval x)) (by simp [evp_eq]) hp h
    exact ⟨.value z, w', L', F', R', z, by simp [execOp, q1], .inl rfl, q2, q3, q4, q5⟩
  · rename_i t x
    simp only [Option.map_eq_some_iff] at h
    obtain ⟨v, hl, e⟩ := h
    injection e with e1 e2
    subst e1 e2
    obtain ⟨z, h1, h2⟩ := ld_sound hT hs.hr (hv x) hl
    exact ⟨.value z, w, L, F, R, z, by simp [execOp, h1], .inl rfl, Ext.refl _ _ _, LLe.refl _, hs.hr, h2⟩
  · rename_i t x v
    simp only [Option.map_eq_some_iff] at h
    obtain ⟨h1, hl, e⟩ := h
    injection e with e1 e2
    subst e1 e2
    obtain ⟨w', L', F', R', q1, q2, q3, q4⟩ := stP_sound hT hs.hr (hv x) (hv v) hl
    exact ⟨.skip, w', L', F', R', undef, by simp [execOp, q1], .inr ⟨rfl, rfl⟩, q2, q3, q4, by simp [VR]⟩
  · rename_i t l c
    obtain ⟨z, w', L', q1, q2, q3, q4, q5⟩ := msP_sound hT hs.hr (hv l) (hv c) h
    exact ⟨.value z, w', L', F, R, z, by simp [execOp, q1], .inl rfl, q2, q3, q4, q5⟩
  · rename_i x y xT yT
    obtain ⟨z, w', L', q1, q2, q3, q4, q5⟩ := apP_sound hT hs.hr (ty := type) (hv x) (hv y) h
    exact ⟨.value z, w', L', F, R, z, by simp [execOp, resolve, invoke, builtin, q1], .inl rfl, q2, q3, q4, q5⟩
  · rename_i t x lo hi
    split at h
    · rename_i v2 hl
      injection h with h
      injection h with e1 e2
      subst e1 e2
      obtain ⟨z, h1, h2⟩ := sil_sound (o := ⟨dst, .slice t x lo (some hi) none, type, pos, after, guard⟩) hT hs hl
      exact ⟨.value z, w, L, F, R, z, h1, .inl rfl, Ext.refl _ _ _, LLe.refl _, hs.hr, h2⟩
    · simp only [Option.map_eq_some_iff] at h
      obtain ⟨v, hl, e⟩ := h
      injection e with e1 e2
      subst e1 e2
      have hvo : VRo w R L (evo s.t lo) (lo.map a.eval) := by
        cases lo with
        | none => exact .inl ⟨rfl, rfl⟩
        | some y => exact .inr ⟨_, _, rfl, rfl, hv y⟩
      obtain ⟨z, h1, h2⟩ := slB_sound hT hs.hr (hv x) hvo (hv hi) hl
      exact ⟨.value z, w, L, F, R, z, by simp [execOp, h1], .inl rfl, Ext.refl _ _ _, LLe.refl _, hs.hr, h2⟩
  · rename_i x xT
    obtain ⟨z, w', L', q1, q2, q3, q4, q5⟩ := clrP_sound hT hs.hr (ty := type) (hv x) h
    exact ⟨.value z, w', L', F, R, z, by simp [execOp, resolve, invoke, builtin, q1], .inl rfl, q2, q3, q4, q5⟩
  · rename_i x y xT yT
    obtain ⟨z, w', L', q1, q2, q3, q4, q5⟩ := cpyP_sound hT hs.hr (ty := type) (hv x) (hv y) h
    exact ⟨.value z, w', L', F, R, z, by simp [execOp, resolve, invoke, builtin, q1], .inl rfl, q2, q3, q4, q5⟩
  · simp only [Option.map_eq_some_iff] at h
    obtain ⟨v, hl, e⟩ := h
    injection e with e1 e2
    subst e1 e2
    obtain ⟨z, h1, h2⟩ := sil_sound (o := ⟨dst, op, type, pos, after, guard⟩) hT hs hl
    exact ⟨.value z, w, L, F, R, z, h1, .inl rfl, Ext.refl _ _ _, LLe.refl _, hs.hr, h2⟩

theorem step1_sound {P : Program} {T : Tab} (hT : TOk P T) {ops : Array Oper} {L : List BL} {F : Nat → Prop} {R : Reg} {s : St} {a : Act} {w : World} (hs : SR L F R s a w) {o : Oper} {K : St → Prop} (h : step1 P T ops o s K)
    (Q : Exit → Act → World → Prop) :
    if Region.wanted o (yielded ops a.tmps) then o.wp P a w (NX L F R w K) Q ∨ (o.asks P a w ∧ LetsOut Q) else NX L F R w K (a.put o.dst undef) w := by
  unfold step1 at h
  split at h
  case isFalse => cases h
  rename_i hd
  split at h
  · rename_i hg
    rw [gd_wanted hs hg]
    simp only [if_true]
    left
    split at h
    · rename_i f args hc
      split at h
      · rename_i g cap hf
        obtain ⟨hent, hpc⟩ := h
        have hent' : ∀ args w, (callFunc g args).run P w = .ok (.enter g args) w := hent
        obtain ⟨dst, op, type, pos, after, guard⟩ := o
        simp only at hc hd hpc
        unfold calle at hc
        split at hc
        · rename_i f' args' tys
          injection hc with hc
          injection hc with e1 e2
          subst e1 e2
          have hfv := VR_ev hs f'
          rw [hf, VR] at hfv
          obtain ⟨vs, hfe, hvl, hvs⟩ := hfv
          have hrun : (execOp a.eval ⟨dst, .call ⟨.value f', args', tys⟩, type, pos, after, guard⟩).run P w = .ok (.enter g (args'.map a.eval ++ vs)) w := by
            simp [execOp, resolve, hfe, Deferred.ofValue, invoke, hent']
          unfold Oper.wp
          rw [hrun]
          simp only [Oper.upon]
          have hargs : VRs w R L (evs s.t args'.toList ++ cap) (fun i => (args'.map a.eval ++ vs)[i]?) := by
            have h1 : VRs w R L (evs s.t args'.toList) (fun i => ((args'.map a.eval).toList)[i]?) := by
              rw [VRs_iff]
              intro i c hi
              simp only [evs_eq, List.getElem?_map, Option.map_eq_some_iff] at hi
              obtain ⟨x, hx, rfl⟩ := hi
              exact ⟨a.eval x, by simp at hx; simp [hx], VR_ev hs x⟩
            have h2 : VRs w R L cap (fun i => vs.toList[i]?) := by simpa using hvs
            have h3 := VRs.append (rest := []) (by simp [evs_eq]) h1 h2
            have e : (fun i : Nat => ((args'.map a.eval).toList ++ vs.toList ++ [])[i]?) = fun i : Nat => (args'.map a.eval ++ vs)[i]? := by
              funext i
              rw [List.append_nil, ← Array.toList_append, Array.getElem?_toList]
            rw [e] at h3
            exact h3
          refine (hpc L F R w _ hs.hr (by simp [evs_eq, hvl]) hargs).mono ?_
          rintro e w' ⟨v, pv, h', L', F', R', rfl, hK, hx, hl, hr, hv⟩
          exact ⟨_, L', F', R', hK, hx, hl, hs.put hx hl hr hd hv⟩
        · cases hc
      · cases h
    · rename_i hc
      split at h
      · rename_i v h' hh
        obtain ⟨n, w', L', F', R', z, hrun, hn, hx, hl, hr, hv⟩ := hop_sound hT hs hh
        unfold Oper.wp
        rw [hrun]
        rcases hn with rfl | ⟨rfl, rfl⟩
        · exact ⟨_, L', F', R', h, hx, hl, hs.put hx hl hr hd hv⟩
        · exact ⟨_, L', F', R', h, hx, hl, hs.put hx hl hr hd hv⟩
      · cases h
  · rename_i hg
    rw [gd_wanted hs hg]
    simp only [Bool.false_eq_true, if_false]
    exact ⟨_, L, F, R, h, Ext.refl _ _ _, LLe.refl _, hs.put (Ext.refl _ _ _) (LLe.refl _) hs.hr hd (by rw [VR]; exact ⟨#[], rfl, rfl, trivial⟩)⟩
  · cases h

theorem NX.trans {L L1 : List BL} {F F1 : Nat → Prop} {R R1 : Reg} {w w1 w2 : World} {K : St → Prop} {a : Act} (hx : Ext w F R w1 F1 R1) (hl : LLe L L1) (h : NX L1 F1 R1 w1 K a w2) : NX L F R w K a w2 := by
  obtain ⟨s', L', F', R', hK, hx', hl', hs'⟩ := h
  exact ⟨s', L', F', R', hK, hx.trans hx', hl.trans hl', hs'⟩

theorem pops_sound {P : Program} {T : Tab} (hT : TOk P T) {ops : Array Oper} {Q : Exit → Act → World → Prop} {K : St → Prop} : ∀ (l : List Nat) (os : List Oper) {L : List BL} {F : Nat → Prop} {R : Reg} {s : St} {a : Act} {w : World},
    l.map (ops[·]?) = os.map some → SR L F R s a w → pops P T ops os s K → (∀ a' w', NX L F R w K a' w' → Q .normal a' w') → wpOps P ops Q l a w
  | [], os, L, F, R, s, a, w, hl, hs, h, hq => by
    cases os with
    | nil => exact hq a w ⟨s, L, F, R, h, Ext.refl _ _ _, LLe.refl _, hs⟩
    | cons o os => simp at hl
  | i :: l, os, L, F, R, s, a, w, hl, hs, h, hq => by
    cases os with
    | nil => simp at hl
    | cons o os =>
      simp only [List.map_cons, List.cons.injEq] at hl
      have h1 := step1_sound hT hs h Q
      rw [wpOps_cons]
      unfold wpOp
      rw [hl.1]
      simp only
      have next : ∀ a' w', NX L F R w (fun s' => pops P T ops os s' K) a' w' → wpOps P ops Q l a' w' := fun a' w' hn => by
        obtain ⟨s', L', F', R', hK, hx, hle, hs'⟩ := hn
        exact pops_sound hT l os hl.2 hs' hK fun a2 w2 h2 => hq a2 w2 (h2.trans hx hle)
      split at h1
      · rename_i hw
        rw [if_pos hw]
        exact h1.imp (fun h2 => Oper.wp_mono next h2) id
      · rename_i hw
        rw [if_neg hw]
        exact next _ _ h1

section
variable {P : Program} {T : Tab} {m : Nat} {Q : Exit → St → Prop} {k : List KI} {s : St}

theorem N_real {L : List BL} {F : Nat → Prop} {R : Reg} {w : World} {a' : Act} {w' : World} (h : NX L F R w (N P m k Q) a' w') :
    ∃ s' L' F' R', KQ P m Q k .normal s' ∧ Ext w F R w' F' R' ∧ LLe (L.take m) L' ∧ SR L' F' R' s' a' w' := by
  obtain ⟨s', L', F', R', h1, h2, h3, h4⟩ := h
  exact ⟨s', L', F', R', h1, h2, h3.take m, h4⟩

/-- A region in the order of the text. -/
theorem W_region (hT : TOk P T) {id : Nat} {ops : Array Oper} (h : ∀ K : St → Prop, (∀ s', N P m k Q s' → K s') → pops P T ops ops.toList s K) : W P m (.region id ops false) k Q s := by
  intro L F R a w hs
  refine wp_region (pops_sound hT (List.range ops.size) ops.toList ?_ hs (h _ fun _ h => h) fun a' w' hn => N_real hn)
  apply List.ext_getElem?
  intro i
  simp only [List.getElem?_map]
  by_cases hi : i < ops.size
  · simp [hi]
  · simp [hi]

theorem W_cond {c : Operand} {x y : Code} {b : Bool} (hc : ev s.t c = .bool b) (h : if b then W P m x k Q s else W P m y k Q s) : W P m (.cond c x y) k Q s := by
  intro L F R a w hs
  have hv := VR_ev hs c
  rw [hc, VR] at hv
  refine wp_cond hv ?_
  cases b
  · exact h L F R a w hs
  · exact h L F R a w hs
end

/-- A result. -/
def resP1 (T : Tab) (s : St) : ResultVar → Option PV
  | .tmp t => some (s.t t)
  | .cell a t => ld T s.h t (s.t a)

def resPs (T : Tab) (s : St) : List ResultVar → Option (List PV)
  | [] => some []
  | r :: rs =>
    match resP1 T s r, resPs T s rs with
    | some x, some xs => some (x :: xs)
    | _, _ => none

def resP (T : Tab) (s : St) (rs : List ResultVar) : Option PV :=
  match resPs T s rs with
  | some [x] => some x
  | some xs => some (.tup xs)
  | none => none

/-- The end of a function: its result, and what is kept of the memory. -/
def Ret (T : Tab) (m : Nat) (rs : List ResultVar) (Φ : PV → List Blk → Prop) (e : Exit) (s : St) : Prop :=
  (e = .normal ∨ e = .ret) ∧ ∃ x r h2 g, resP T s rs = some x ∧ x = ren g r ∧ bnd h2.length r = true ∧ SubH m g h2 s.h ∧ Φ r h2

theorem resPs_sound {P : Program} {T : Tab} (hT : TOk P T) {L : List BL} {F : Nat → Prop} {R : Reg} {s : St} {a : Act} {w : World} (hs : SR L F R s a w) (f : ResultVar → Sem Value)
    (f1 : ∀ t, f (.tmp t) = pure (a.tmps.getD t undef)) (f2 : ∀ c t, f (.cell c t) = (do loadVar t (← asAddr (a.tmps.getD c undef)))) : ∀ (rs : List ResultVar) (xs : List PV), resPs T s rs = some xs →
    ∃ vs : List Value, (rs.mapM f).run P w = .ok vs w ∧ vs.length = xs.length ∧ VRs w R L xs (fun i => vs[i]?)
  | [], xs, h => by
    simp [resPs] at h; subst h
    exact ⟨[], by simp, rfl, by simp [VRs]⟩
  | r :: rs, xs, h => by
    simp only [resPs] at h
    split at h
    · rename_i x ys h1 h2
      injection h with h; subst h
      obtain ⟨vs, q1, q2, q3⟩ := resPs_sound hT hs f f1 f2 rs ys h2
      cases r with
      | tmp t =>
        simp only [resP1] at h1
        injection h1 with h1; subst h1
        refine ⟨a.tmps.getD t undef :: vs, ?_, by simp [q2], ?_⟩
        · rw [List.mapM_cons, f1]; simp only [Sem.run_bind, Sem.run_pure, Result.andThen_ok, q1]
        · rw [VRs]; exact ⟨⟨_, rfl, hs.t t⟩, by simpa using q3⟩
      | cell c t =>
        simp only [resP1] at h1
        obtain ⟨z, z1, z2⟩ := ld_sound hT hs.hr (hs.t c) h1
        refine ⟨z :: vs, ?_, by simp [q2], ?_⟩
        · have : (do loadVar t (← asAddr (a.tmps.getD c undef)) : Sem Value).run P w = .ok z w := by
            unfold Instr.loadAt at z1
            generalize a.tmps.getD c undef = u at z1
            cases u with
            | pointer p =>
              cases p with
              | none => simp [Instr.sureAddr] at z1
              | some p => simpa [Instr.sureAddr, asAddr] using z1
            | _ => simp [Instr.sureAddr] at z1
          rw [List.mapM_cons, f2, Sem.run_bind, this, Result.andThen_ok, Sem.run_bind, q1, Result.andThen_ok, Sem.run_pure]
        · rw [VRs]; exact ⟨⟨_, rfl, z2⟩, by simpa using q3⟩
    · cases h

theorem results_run {P : Program} {fn : Func} {tmps : Array Value} {w : World} {vs : List Value}
    (h : ∀ f : ResultVar → Sem Value, (∀ t, f (.tmp t) = pure (tmps.getD t undef)) → (∀ c t, f (.cell c t) = (do loadVar t (← asAddr (tmps.getD c undef)))) → (fn.results.toList.mapM f).run P w = .ok vs w) :
    (results fn tmps).run P w = .ok (if h : vs.toArray.size = 1 then vs.toArray[0] else .tuple vs.toArray) w := by
  unfold results
  rw [Array.mapM_eq_mapM_toList]
  simp only [Sem.run_bind, Sem.run_map]
  rw [h _ (fun _ => rfl) (fun _ _ => rfl)]
  rfl

theorem resP_sound {P : Program} {T : Tab} (hT : TOk P T) {L : List BL} {F : Nat → Prop} {R : Reg} {s : St} {a : Act} {w : World} (hs : SR L F R s a w) {fn : Func} {x : PV} (h : resP T s fn.results.toList = some x) :
    ∃ v, (results fn a.tmps).run P w = .ok v w ∧ VR w R L x v := by
  unfold resP at h
  cases hxs : resPs T s fn.results.toList with
  | none => rw [hxs] at h; cases h
  | some xs =>
    rw [hxs] at h
    have q2 : ∃ vs : List Value, (results fn a.tmps).run P w = .ok (if h : vs.toArray.size = 1 then vs.toArray[0] else .tuple vs.toArray) w ∧ vs.length = xs.length ∧ VRs w R L xs (fun i => vs[i]?) := by
      have base := fun f f1 f2 => resPs_sound hT hs f f1 f2 _ _ hxs
      obtain ⟨vs, _, q2, q3⟩ := base (fun | .tmp t => pure (a.tmps.getD t undef) | .cell c t => do loadVar t (← asAddr (a.tmps.getD c undef))) (fun _ => rfl) (fun _ _ => rfl)
      refine ⟨vs, results_run fun f f1 f2 => ?_, q2, q3⟩
      have e : f = (fun | .tmp t => pure (a.tmps.getD t undef) | .cell c t => do loadVar t (← asAddr (a.tmps.getD c undef))) := by
        funext r
        cases r with
        | tmp t => rw [f1]
        | cell c t => rw [f2]
      rw [e]; assumption
    obtain ⟨vs, q1, q2, q3⟩ := q2
    cases xs with
    | nil =>
      injection h with h; subst h
      cases vs with
      | cons _ _ => simp at q2
      | nil => exact ⟨_, q1, by simp [VR, VRs]⟩
    | cons y ys =>
      cases ys with
      | nil =>
        injection h with h; subst h
        cases vs with
        | nil => simp at q2
        | cons v vs =>
          cases vs with
          | cons _ _ => simp at q2
          | nil =>
            rw [VRs] at q3
            obtain ⟨⟨u, hu, hv⟩, _⟩ := q3
            simp at hu; subst hu
            exact ⟨_, q1, by simpa using hv⟩
      | cons y2 ys =>
        injection h with h; subst h
        have hne : ¬ vs.toArray.size = 1 := by simp; rw [q2]; simp
        refine ⟨_, q1, ?_⟩
        rw [dif_neg hne, VR]
        exact ⟨_, rfl, by simpa using q2, by simpa using q3⟩

/-- The start of a function. -/
def st0 (pargs : List PV) (h : List Blk) (n : Nat) : St := ⟨fun i => pargs.getD i .unk, h, n⟩

theorem PC.of_body {P : Program} {T : Tab} (hT : TOk P T) {f : Nat} {fn : Func} {c : Code} (hf : P.funcs[f]? = some fn) (hb : fn.body = some c) {pargs : List PV} {h : List Blk} {Φ : PV → List Blk → Prop}
    (hn : pargs.length ≤ fn.ntmps) (hw : W P h.length c [] (Ret T h.length fn.results.toList Φ) (st0 pargs h fn.ntmps)) : PC P f pargs h Φ := by
  intro L F R w args hr hlen hargs
  refine calls_of_wp hf hb (wp_mono (hw L F R _ w ⟨hr, by simp [st0]; omega, rfl, fun i => ?_⟩) ?_)
  · simp only [st0]
    by_cases hi : i < pargs.length
    · rw [VRs_iff] at hargs
      obtain ⟨u, hu, hv⟩ := hargs i pargs[i] (List.getElem?_eq_getElem hi)
      have e1 : pargs.getD i .unk = pargs[i] := by simp [List.getD, hi]
      have e2 : (args ++ Array.replicate (fn.ntmps - args.size) undef).getD i undef = u := by
        rw [Array.getD_eq_getD_getElem?, Array.getElem?_append_left (by omega), hu]; rfl
      rw [e1, e2]; exact hv
    · have e1 : pargs.getD i .unk = .unk := by simp [List.getD, hi]
      rw [e1]; simp [VR]
  · rintro e a' w' ⟨s', L', F', R', hq, hx, hl, hs'⟩
    have hLm : L.take h.length = L := by rw [← hr.len]; simp
    rw [hLm] at hl
    simp only [KQ] at hq
    obtain ⟨he, x, r, h2, g, hx1, rfl, hbnd, hsub, hΦ⟩ := hq
    obtain ⟨v, hv1, hv2⟩ := resP_sound hT hs' hx1
    obtain ⟨L2, z1, z2, z3⟩ := hs'.hr.sub hsub
    have fin : bodyPost P fn (fun e w' => ∃ v pv h' L' F' R', e = .returned v ∧ Φ pv h' ∧ Ext w F R w' F' R' ∧ LLe L L' ∧ HR w' F' R' L' h' ∧ VR w' R' L' pv v) .ret a' w' := by
      refine ⟨hs'.d, v, hv1, v, r, h2, L2, F', R', rfl, hΦ, hx, ?_, z2, z3 _ _ hbnd hv2⟩
      intro b l hbl
      obtain ⟨l1, a1, a2, a3⟩ := hl b l hbl
      have hbm : b < h.length := by rw [← hr.len]; exact (List.getElem?_eq_some_iff.1 hbl).1
      have htake : (L'.take h.length)[b]? = some l1 := by rw [List.getElem?_take, if_pos hbm]; exact a1
      obtain ⟨l2, b1, b2, b3⟩ := z1 b l1 htake
      refine ⟨l2, b1, Nat.le_trans a2 b2, fun e => ?_⟩
      rw [b3 (by omega), a3 (by omega)]
    rcases he with rfl | rfl
    · exact fin
    · exact fin
end Go.Fw
