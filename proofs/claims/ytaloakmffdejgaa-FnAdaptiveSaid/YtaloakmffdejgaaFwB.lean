/- The relation of states, contracts, and the rules of control. -/
import Derived.Test.YtaloakmffdejgaaFwA
import Derived.Orders
import Derived.Scope
set_option linter.unusedVariables false
namespace Go.Fw
open Go

def notFrozen (fz : Nat × Nat) (sz : Nat) : Prop := ∀ o, fz.1 ≤ o → o < fz.2 → sz ≤ o

def CR (w : World) (R : Reg) (L : List BL) (cl : Bool) (cells : List PV) (g : Nat → Option Value) : Prop :=
  if cl then VRs w (R0 R) [] cells g else VRs w R L cells g

def BR (w : World) (F : Nat → Prop) (R : Reg) (L : List BL) (b : Blk) (l : BL) : Prop :=
  l.ver = b.ver ∧ (b.mode = 2 → b.cl = true) ∧
  match l.loc with
  | none => b.cells = []
  | some (rb, ro, sz) => ∃ arr e fz, w.heap[rb]? = some (.cells arr e fz) ∧ arr.size = sz ∧ notFrozen fz sz ∧ ro + b.cells.length ≤ sz ∧
      CR w R L b.cl b.cells (fun i => arr[ro + i]?) ∧ (if b.mode = 2 then R 0 rb else ¬ F rb)

structure HR (w : World) (F : Nat → Prop) (R : Reg) (L : List BL) (h : List Blk) : Prop where
  len : L.length = h.length
  blk : ∀ (i : Nat) (b : Blk) (l : BL), h[i]? = some b → L[i]? = some l → BR w F R L b l
  inj : ∀ (i j : Nat) (bi bj : Blk) (li lj : BL), i ≠ j → h[i]? = some bi → h[j]? = some bj → L[i]? = some li → L[j]? = some lj → bi.mode ≠ 2 → bj.mode ≠ 2 →
    ∀ ri oi si rj oj sj, li.loc = some (ri, oi, si) → lj.loc = some (rj, oj, sj) → ri ≠ rj
  RF : ∀ q b, R q b → F b
  Flt : ∀ b, F b → b < w.heap.size

structure Ext (w : World) (F : Nat → Prop) (R : Reg) (w' : World) (F' : Nat → Prop) (R' : Reg) : Prop where
  keep : ∀ b, F b → w'.heap[b]? = w.heap[b]?
  size : w.heap.size ≤ w'.heap.size
  os : w'.os = w.os
  tape : w'.tape = w.tape
  output : w'.output = w.output
  mF : ∀ b, F b → F' b
  mR : ∀ b, R 0 b → R' 0 b
  Rq : ∀ q b, q ≠ 0 → (R' q b ↔ R q b)
  new : ∀ b, F b → R' 0 b → R 0 b

theorem Ext.refl (w : World) (F : Nat → Prop) (R : Reg) : Ext w F R w F R :=
  ⟨fun _ _ => rfl, Nat.le_refl _, rfl, rfl, rfl, fun _ h => h, fun _ h => h, fun _ _ _ => Iff.rfl, fun _ _ h => h⟩

theorem Ext.trans {w w1 w2 : World} {F F1 F2 : Nat → Prop} {R R1 R2 : Reg} (h : Ext w F R w1 F1 R1) (k : Ext w1 F1 R1 w2 F2 R2) : Ext w F R w2 F2 R2 :=
  ⟨fun b hb => (k.keep b (h.mF b hb)).trans (h.keep b hb), Nat.le_trans h.size k.size, k.os.trans h.os, k.tape.trans h.tape, k.output.trans h.output,
   fun b hb => k.mF b (h.mF b hb), fun b hb => k.mR b (h.mR b hb), fun q b hq => (k.Rq q b hq).trans (h.Rq q b hq), fun b hb hr => h.new b hb (k.new b (h.mF b hb) hr)⟩

theorem Ext.R {w w' : World} {F F' : Nat → Prop} {R R' : Reg} (h : Ext w F R w' F' R') (q b : Nat) (hq : R q b) : R' q b := by
  by_cases e : q = 0
  · subst e; exact h.mR b hq
  · exact (h.Rq q b e).2 hq

/-- Values live on. -/
theorem VR.ext {w w' : World} {F F' : Nat → Prop} {R R' : Reg} {L L' : List BL} (hRF : ∀ q b, R q b → F b) (hx : Ext w F R w' F' R') (hL : LLe L L') {x : PV} {v : Value}
    (h : VR w R L x v) : VR w' R' L' x v := VR.mono (fun q b hb => hx.keep b (hRF q b hb)) (fun q b hb => hx.R q b hb) hL x v h

theorem VRs.ext {w w' : World} {F F' : Nat → Prop} {R R' : Reg} {L L' : List BL} (hRF : ∀ q b, R q b → F b) (hx : Ext w F R w' F' R') (hL : LLe L L') {cs : List PV} {g : Nat → Option Value}
    (h : VRs w R L cs g) : VRs w' R' L' cs g := VRs.mono (fun q b hb => hx.keep b (hRF q b hb)) (fun q b hb => hx.R q b hb) hL cs g g h fun _ _ h => h

theorem CR.ext {w w' : World} {F F' : Nat → Prop} {R R' : Reg} {L L' : List BL} (hRF : ∀ q b, R q b → F b) (hx : Ext w F R w' F' R') (hL : LLe L L') {cl : Bool} {cs : List PV} {g g' : Nat → Option Value}
    (h : CR w R L cl cs g) (hg : ∀ i u, g i = some u → g' i = some u) : CR w' R' L' cl cs g' := by
  unfold CR at h ⊢
  split
  · rename_i hc; rw [if_pos hc] at h
    exact VRs.mono (fun q b hb => hx.keep b (hRF 0 b hb.2)) (fun q b hb => ⟨hb.1, hx.mR b hb.2⟩) (LLe.refl _) cs g g' h hg
  · rename_i hc; rw [if_neg hc] at h
    exact VRs.mono (fun q b hb => hx.keep b (hRF q b hb)) (fun q b hb => hx.R q b hb) hL cs g g' h hg

structure St where
  t : Nat → PV
  h : List Blk
  n : Nat

structure SR (L : List BL) (F : Nat → Prop) (R : Reg) (s : St) (a : Act) (w : World) : Prop where
  hr : HR w F R L s.h
  n : a.tmps.size = s.n
  d : a.defers = []
  t : ∀ i, VR w R L (s.t i) (a.tmps.getD i undef)

/-- What a call of a function comes to. -/
def PC (P : Program) (f : FuncId) (pargs : List PV) (h : List Blk) (Φ : PV → List Blk → Prop) : Prop :=
  ∀ (L : List BL) (F : Nat → Prop) (R : Reg) (w : World) (args : Array Value), HR w F R L h → args.size = pargs.length → VRs w R L pargs (fun i => args[i]?) →
    Calls P f args w fun e w' => ∃ v pv h' L' F' R', e = .returned v ∧ Φ pv h' ∧ Ext w F R w' F' R' ∧ LLe L L' ∧ HR w' F' R' L' h' ∧ VR w' R' L' pv v

theorem PC.mono {P : Program} {f : FuncId} {pargs : List PV} {h : List Blk} {Φ Ψ : PV → List Blk → Prop} (hp : PC P f pargs h Φ) (hq : ∀ v h', Φ v h' → Ψ v h') : PC P f pargs h Ψ :=
  fun L F R w args h1 h2 h3 => (hp L F R w args h1 h2 h3).mono fun _ _ ⟨v, pv, h', L', F', R', he, hΦ, r⟩ => ⟨v, pv, h', L', F', R', he, hq _ _ hΦ, r⟩

/-- What a piece of code comes to, from a state. m: the blocks that came in. -/
def PW (P : Program) (m : Nat) (c : Code) (Q : Exit → St → Prop) (s : St) : Prop :=
  ∀ (L : List BL) (F : Nat → Prop) (R : Reg) (a : Act) (w : World), SR L F R s a w →
    c.wp P (fun e a' w' => ∃ s' L' F' R', Q e s' ∧ Ext w F R w' F' R' ∧ LLe (L.take m) L' ∧ SR L' F' R' s' a' w') a w

theorem LLe.take {A B : List BL} (m : Nat) (h : LLe A B) : LLe (A.take m) B := fun b l hb => by
  rw [List.getElem?_take] at hb
  split at hb
  · exact h b l hb
  · cases hb

theorem LLe.take_trans {A B C : List BL} {m : Nat} (h : LLe (A.take m) B) (k : LLe (B.take m) C) : LLe (A.take m) C := by
  refine LLe.trans (B := B.take m) (fun b l hb => ?_) k
  obtain ⟨l', h1, h2⟩ := h b l hb
  refine ⟨l', ?_, h2⟩
  rw [List.getElem?_take] at hb ⊢
  split at hb
  · rename_i hlt; rw [if_pos hlt]; exact h1
  · cases hb

theorem wp_loop_ghost {P : Program} {Q : Exit → Act → World → Prop} {a : Act} {w : World} {c : Code} {β : Type} (I : β → Act → World → Prop) (μ : β → Nat) (x0 : β) (h0 : I x0 a w)
    (round : ∀ x a w, I x a w → c.wp P (Exit.then (fun a' w' => ∃ x', I x' a' w' ∧ μ x' < μ x) Q) a w) : (Code.loop c).wp P Q a w := by
  intro b k cs
  have key : ∀ n x a w, μ x = n → I x a w →
      ∃ e a' w', Q e a' w' ∧ Arrives P (lone (b.at a (.code c :: .inLoop c :: k)) cs w) b k cs e a' w' := by
    intro n
    induction n using Nat.strongRecOn with
    | _ n ih =>
      intro x a w hn hI
      obtain ⟨e, a₁, w₁, hq, harr⟩ := round x a w hI b (.inLoop c :: k) cs
      cases e with
      | normal =>
        obtain ⟨x', hI₁, hlt⟩ := hq
        obtain ⟨e₂, a₂, w₂, hq₂, harr₂⟩ := ih (μ x') (hn ▸ hlt) x' a₁ w₁ rfl hI₁
        exact ⟨e₂, a₂, w₂, hq₂, .of_steps (Steps.trans harr (.one step_inLoop)) harr₂⟩
      | exit id => exact ⟨_, a₁, w₁, hq, .pass (x := .inLoop c) rfl (fun _ _ => .inl (by simp)) harr⟩
      | goto l => exact ⟨_, a₁, w₁, hq, .pass (x := .inLoop c) rfl (fun _ _ => .inl (by simp)) harr⟩
      | ret => exact ⟨_, a₁, w₁, hq, .pass (x := .inLoop c) rfl (fun _ _ => .inl (by simp)) harr⟩
      | panic ch => exact ⟨_, a₁, w₁, hq, .pass (x := .inLoop c) rfl (fun _ _ => .inl (by simp)) harr⟩
      | outgrown => exact ⟨_, a₁, w₁, hq, .pass (x := .inLoop c) rfl (fun _ _ => .inl (by simp)) harr⟩
  obtain ⟨e, a', w', hq, harr⟩ := key _ x0 a w rfl h0
  exact ⟨e, a', w', hq, .of_steps (.one step_loop) harr⟩

inductive KI where
  | seq (c : Code)
  | blk (id : Nat)
  | inv (J : St → Prop)

def KQ (P : Program) (m : Nat) (Q : Exit → St → Prop) : List KI → Exit → St → Prop
  | [], e, s => Q e s
  | .seq c :: k, .normal, s => PW P m c (KQ P m Q k) s
  | .seq _ :: k, e, s => KQ P m Q k e s
  | .blk _ :: k, .normal, s => KQ P m Q k .normal s
  | .blk id :: k, .exit i, s => if i = id then KQ P m Q k .normal s else KQ P m Q k (.exit i) s
  | .blk _ :: k, e, s => KQ P m Q k e s
  | .inv J :: _, .normal, s => J s
  | .inv _ :: k, e, s => KQ P m Q k e s

section
variable {P : Program} {m : Nat} {Q : Exit → St → Prop} {k : List KI} {s : St}

/-- Walking on. -/
def W (P : Program) (m : Nat) (c : Code) (k : List KI) (Q : Exit → St → Prop) (s : St) : Prop := PW P m c (KQ P m Q k) s
def N (P : Program) (m : Nat) (k : List KI) (Q : Exit → St → Prop) (s : St) : Prop := KQ P m Q k .normal s
def X (P : Program) (m : Nat) (id : Nat) (k : List KI) (Q : Exit → St → Prop) (s : St) : Prop := KQ P m Q k (.exit id) s

theorem N_seq {c : Code} (h : W P m c k Q s) : N P m (.seq c :: k) Q s := h
theorem N_blk {id : Nat} (h : N P m k Q s) : N P m (.blk id :: k) Q s := h
theorem N_inv {J : St → Prop} (h : J s) : N P m (.inv J :: k) Q s := h
theorem N_nil (h : Q .normal s) : N P m [] Q s := h
theorem X_seq {c : Code} {id : Nat} (h : X P m id k Q s) : X P m id (.seq c :: k) Q s := h
theorem X_inv {J : St → Prop} {id : Nat} (h : X P m id k Q s) : X P m id (.inv J :: k) Q s := h
theorem X_hit {id : Nat} (h : N P m k Q s) : X P m id (.blk id :: k) Q s := by unfold X; simp only [KQ, if_true]; exact h
theorem X_miss {id id' : Nat} (hne : id ≠ id') (h : X P m id k Q s) : X P m id (.blk id' :: k) Q s := by unfold X; simp only [KQ, if_neg hne]; exact h

theorem KQ_ret : ∀ (k : List KI), Q .ret s → KQ P m Q k .ret s
  | [], h => h
  | .seq _ :: k, h => KQ_ret k h
  | .blk _ :: k, h => KQ_ret k h
  | .inv _ :: k, h => KQ_ret k h

theorem W_skip (h : N P m k Q s) : W P m .skip k Q s :=
  fun L F R a w hs => wp_skip ⟨s, L, F, R, h, Ext.refl _ _ _, (LLe.refl L).take m, hs⟩
theorem W_exit {id : Nat} (h : X P m id k Q s) : W P m (.exit id) k Q s :=
  fun L F R a w hs => wp_exit ⟨s, L, F, R, h, Ext.refl _ _ _, (LLe.refl L).take m, hs⟩
theorem W_ret (h : Q .ret s) : W P m .ret k Q s :=
  fun L F R a w hs => wp_ret ⟨s, L, F, R, KQ_ret k h, Ext.refl _ _ _, (LLe.refl L).take m, hs⟩

theorem W_seq {x y : Code} (h : W P m x (.seq y :: k) Q s) : W P m (.seq x y) k Q s := by
  intro L F R a w hs
  refine wp_seq (wp_mono (h L F R a w hs) ?_)
  rintro e a' w' ⟨s', L', F', R', hq, hx, hl, hs'⟩
  cases e with
  | normal =>
    refine wp_mono (hq L' F' R' a' w' hs') ?_
    rintro e2 a2 w2 ⟨s2, L2, F2, R2, hq2, hx2, hl2, hs2⟩
    exact ⟨s2, L2, F2, R2, hq2, hx.trans hx2, hl.take_trans hl2, hs2⟩
  | exit id => exact ⟨s', L', F', R', hq, hx, hl, hs'⟩
  | goto l => exact ⟨s', L', F', R', hq, hx, hl, hs'⟩
  | ret => exact ⟨s', L', F', R', hq, hx, hl, hs'⟩
  | panic c => exact ⟨s', L', F', R', hq, hx, hl, hs'⟩
  | outgrown => exact ⟨s', L', F', R', hq, hx, hl, hs'⟩

theorem W_block {id : Nat} {c : Code} (h : W P m c (.blk id :: k) Q s) : W P m (.block id c) k Q s := by
  intro L F R a w hs
  refine wp_block (wp_mono (h L F R a w hs) ?_)
  rintro e a' w' ⟨s', L', F', R', hq, hx, hl, hs'⟩
  cases e with
  | normal => exact ⟨s', L', F', R', hq, hx, hl, hs'⟩
  | exit i =>
    simp only [KQ] at hq
    simp only [Exit.inBlock]
    split at hq
    · rename_i e; rw [if_pos e]; exact ⟨s', L', F', R', hq, hx, hl, hs'⟩
    · rename_i e; rw [if_neg e]; exact ⟨s', L', F', R', hq, hx, hl, hs'⟩
  | goto l => exact ⟨s', L', F', R', hq, hx, hl, hs'⟩
  | ret => exact ⟨s', L', F', R', hq, hx, hl, hs'⟩
  | panic c => exact ⟨s', L', F', R', hq, hx, hl, hs'⟩
  | outgrown => exact ⟨s', L', F', R', hq, hx, hl, hs'⟩

/-- Fewer blocks: g: new block numbers to old. -/
structure SubH (m : Nat) (g : Nat → Nat) (h2 h1 : List Blk) : Prop where
  fix : ∀ i, i < m → g i = i
  mle : m ≤ h2.length
  lt : ∀ i, i < h2.length → g i < h1.length
  inj : ∀ i j, i < h2.length → j < h2.length → g i = g j → i = j
  h : ∀ (i : Nat) (b2 : Blk), h2[i]? = some b2 → ∃ b1, h1[g i]? = some b1 ∧ b1.ver = b2.ver ∧ b1.mode = b2.mode ∧ b1.cl = b2.cl ∧
      (if b2.cl then b1.cells = b2.cells else bnds h2.length b2.cells = true ∧ b1.cells = rens g b2.cells)

/-- Less is known: what is forgotten. -/
structure Sub (m : Nat) (g : Nat → Nat) (s2 s1 : St) : Prop where
  n : s2.n = s1.n
  hh : SubH m g s2.h s1.h
  t : ∀ i, s2.t i = .unk ∨ (bnd s2.h.length (s2.t i) = true ∧ s1.t i = ren g (s2.t i))

theorem HR.sub {L : List BL} {F : Nat → Prop} {R : Reg} {h2 h1 : List Blk} {g : Nat → Nat} {w : World} (hs : HR w F R L h1) (h : SubH m g h2 h1) :
    ∃ L2, LLe (L.take m) L2 ∧ HR w F R L2 h2 ∧ ∀ x v, bnd h2.length x = true → VR w R L (ren g x) v → VR w R L2 x v := by
  have hlen := hs.len
  let L2 : List BL := (List.range h2.length).map fun i => L.getD (g i) ⟨0, none⟩
  have hL2 : ∀ i, i < h2.length → L2[i]? = L[g i]? := fun i hi => by
    have := h.lt i hi
    simp [L2, hi, List.getElem?_eq_getElem (l := L) (i := g i) (by omega)]
  have hL2' : ∀ (i : Nat) (l : BL), L2[i]? = some l → i < h2.length ∧ L[g i]? = some l := fun i l hl => by
    have hi : i < h2.length := by
      have := (List.getElem?_eq_some_iff.1 hl).1
      simpa [L2] using this
    exact ⟨hi, (hL2 i hi) ▸ hl⟩
  refine ⟨L2, fun b l hb => ?_, ?_, fun x v hx hv => VR.unren (m := h2.length) (fun b hb => (hL2 b hb).symm) _ _ hx hv⟩
  · rw [List.getElem?_take] at hb
    split at hb
    · rename_i hlt
      refine ⟨l, ?_, Nat.le_refl _, fun _ => rfl⟩
      rw [hL2 b (Nat.lt_of_lt_of_le hlt h.mle), h.fix b hlt]; exact hb
    · cases hb
  · refine ⟨by simp [L2], fun i b l hb hl => ?_, fun i j bi bj li lj hne hbi hbj hli hlj mi mj => ?_, hs.RF, hs.Flt⟩
    · obtain ⟨hi, hl'⟩ := hL2' i l hl
      obtain ⟨b1, hb1, e1, e3, e4, e5⟩ := h.h i b hb
      obtain ⟨r1, r3, r4⟩ := hs.blk _ b1 l hb1 hl'
      refine ⟨by omega, by rw [← e3, ← e4]; exact r3, ?_⟩
      cases hloc : l.loc with
      | none =>
        rw [hloc] at r4
        simp only at r4 ⊢
        split at e5
        · rw [← e5]; exact r4
        · rw [r4] at e5
          have := e5.2
          cases hc : b.cells with
          | nil => rfl
          | cons c cs => rw [hc] at this; simp [rens] at this
      | some q =>
        obtain ⟨rb, ro, sz⟩ := q
        rw [hloc] at r4
        simp only at r4 ⊢
        obtain ⟨arr, e, fz, q1, q2, q3, q4, q5, q6⟩ := r4
        have hlen : b1.cells.length = b.cells.length := by
          split at e5
          · rw [e5]
          · rw [e5.2, rens_eq]; simp
        refine ⟨arr, e, fz, q1, q2, q3, by omega, ?_, by rw [← e3]; exact q6⟩
        unfold CR at q5 ⊢
        rw [e4] at q5
        split at e5
        · rename_i hc
          rw [if_pos hc] at q5 ⊢
          rw [← e5]; exact q5
        · rename_i hc
          rw [if_neg hc] at q5 ⊢
          rw [e5.2] at q5
          exact VRs.unren (m := h2.length) (fun b hb => (hL2 b hb).symm) _ _ e5.1 q5
    · obtain ⟨hi, hli'⟩ := hL2' i li hli
      obtain ⟨hj, hlj'⟩ := hL2' j lj hlj
      obtain ⟨b1, hb1, _, e3, _, _⟩ := h.h i bi hbi
      obtain ⟨b1', hb1', _, e3', _, _⟩ := h.h j bj hbj
      exact hs.inj (g i) (g j) b1 b1' li lj (fun e => hne (h.inj i j hi hj e)) hb1 hb1' hli' hlj' (by omega) (by omega)

theorem SR.sub {L : List BL} {F : Nat → Prop} {R : Reg} {s2 s1 : St} {g : Nat → Nat} {a : Act} {w : World} (hs : SR L F R s1 a w) (h : Sub m g s2 s1) :
    ∃ L2, LLe (L.take m) L2 ∧ SR L2 F R s2 a w := by
  obtain ⟨L2, h1, h2, h3⟩ := hs.hr.sub h.hh
  refine ⟨L2, h1, h2, hs.n.trans h.n.symm, hs.d, fun i => ?_⟩
  rcases h.t i with e | ⟨e1, e2⟩
  · rw [e]; simp [VR]
  · have := hs.t i
    rw [e2] at this
    exact h3 _ _ e1 this

/-- Forgetting, ahead of some code. -/
theorem W_sub {c : Code} {s2 : St} {g : Nat → Nat} (hsub : Sub m g s2 s) (h : W P m c k Q s2) : W P m c k Q s := by
  intro L F R a w hs
  obtain ⟨L2, hl, hs2⟩ := hs.sub hsub
  refine wp_mono (h L2 F R a w hs2) ?_
  rintro e a' w' ⟨s', L', F', R', hq, hx, hl', hs'⟩
  exact ⟨s', L', F', R', hq, hx, hl.take_trans hl', hs'⟩

/-- A loop: the states at a round's head are I x; each round lowers μ. -/
theorem W_loop {c : Code} {α : Type} (I : α → St) (μ : α → Nat) (x0 : α) (g0 : Nat → Nat) (h0 : Sub m g0 (I x0) s)
    (round : ∀ x, W P m c (.inv (fun s' => ∃ x' g, Sub m g (I x') s' ∧ μ x' < μ x) :: k) Q (I x)) : W P m (.loop c) k Q s := by
  refine W_sub h0 ?_
  intro L F R a w hs
  refine wp_loop_ghost (β := (α × List BL × (Nat → Prop) × Reg)) (fun z a' w' => SR z.2.1 z.2.2.1 z.2.2.2 (I z.1) a' w' ∧ Ext w F R w' z.2.2.1 z.2.2.2 ∧ LLe (L.take m) z.2.1)
    (fun z => μ z.1) ⟨x0, L, F, R⟩ ⟨hs, Ext.refl _ _ _, (LLe.refl L).take m⟩ ?_
  rintro ⟨x, L1, F1, R1⟩ a1 w1 ⟨hs1, hx1, hl1⟩
  refine wp_mono (round x L1 F1 R1 a1 w1 hs1) ?_
  rintro e a' w' ⟨s', L', F', R', hq, hx, hl, hs'⟩
  cases e with
  | normal =>
    obtain ⟨x', g, hsub, hlt⟩ := hq
    obtain ⟨L2, hl2, hs2⟩ := hs'.sub hsub
    exact ⟨⟨x', L2, F', R'⟩, ⟨hs2, hx1.trans hx, (hl1.take_trans hl).take_trans hl2⟩, hlt⟩
  | exit id => exact ⟨s', L', F', R', hq, hx1.trans hx, hl1.take_trans hl, hs'⟩
  | goto l => exact ⟨s', L', F', R', hq, hx1.trans hx, hl1.take_trans hl, hs'⟩
  | ret => exact ⟨s', L', F', R', hq, hx1.trans hx, hl1.take_trans hl, hs'⟩
  | panic c => exact ⟨s', L', F', R', hq, hx1.trans hx, hl1.take_trans hl, hs'⟩
  | outgrown => exact ⟨s', L', F', R', hq, hx1.trans hx, hl1.take_trans hl, hs'⟩
end
end Go.Fw
