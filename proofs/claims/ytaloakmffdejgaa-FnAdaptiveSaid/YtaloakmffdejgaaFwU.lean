/- Ends, calls and loops, in the form in which simp closes their side conditions. -/
import Derived.Test.YtaloakmffdejgaaFwR
set_option linter.unusedVariables false
namespace Go.Fw
open Go

def SelOK (h : List Blk) (g : Nat → Nat) (M : Nat) : List Nat → List Blk → Prop
  | [], [] => True
  | i :: is, b2 :: bs => (match h[i]? with
      | some b1 => b1.ver = b2.ver ∧ b1.mode = b2.mode ∧ b1.cl = b2.cl ∧ (if b2.cl then b1.cells = b2.cells else bnds M b2.cells = true ∧ b1.cells = rens g b2.cells)
      | none => False) ∧ SelOK h g M is bs
  | _, _ => False

def sg (sel : List Nat) : Nat → Nat := fun j => sel.getD j 0

theorem SelOK_get {h : List Blk} {g : Nat → Nat} {M : Nat} : ∀ {is : List Nat} {bs : List Blk}, SelOK h g M is bs → is.length = bs.length ∧ ∀ (j i : Nat) (b2 : Blk), is[j]? = some i → bs[j]? = some b2 →
    ∃ b1, h[i]? = some b1 ∧ b1.ver = b2.ver ∧ b1.mode = b2.mode ∧ b1.cl = b2.cl ∧ (if b2.cl then b1.cells = b2.cells else bnds M b2.cells = true ∧ b1.cells = rens g b2.cells)
  | [], [], _ => by simp
  | i :: is, b :: bs, hp => by
    obtain ⟨h1, h2⟩ := SelOK_get hp.2
    refine ⟨by simp [h1], fun j k b2 hj hb => ?_⟩
    cases j with
    | zero =>
      simp at hj hb; subst hj hb
      have := hp.1
      split at this
      · rename_i b1 hb1; exact ⟨b1, hb1, this⟩
      · cases this
    | succ j => exact h2 j k b2 (by simpa using hj) (by simpa using hb)
  | [], _ :: _, hp => by cases hp
  | _ :: _, [], hp => by cases hp

def selFix (m : Nat) (sel : List Nat) : Bool := sel.take m == List.range m && decide (m ≤ sel.length)

theorem SubH.of {m : Nat} {h h2 : List Blk} (sel : List Nat) (hn : sel.Nodup) (hf : selFix m sel = true) (hs : SelOK h (sg sel) sel.length sel h2) : SubH m (sg sel) h2 h := by
  obtain ⟨h1, h3⟩ := SelOK_get hs
  simp only [selFix, Bool.and_eq_true, beq_iff_eq, decide_eq_true_eq] at hf
  have hg : ∀ j, j < sel.length → sel[j]? = some (sg sel j) := fun j hj => by simp [sg, List.getD, hj]
  refine ⟨fun i hi => ?_, by omega, fun i hi => ?_, fun i j hi hj e => ?_, fun i b2 hb => ?_⟩
  · have : (sel.take m)[i]? = (List.range m)[i]? := by rw [hf.1]
    rw [List.getElem?_take, if_pos hi, hg i (by omega)] at this
    simpa [hi] using this
  · obtain ⟨b1, hb1, _⟩ := h3 i (sg sel i) h2[i] (hg i (by omega)) (List.getElem?_eq_getElem hi)
    exact (List.getElem?_eq_some_iff.1 hb1).1
  · have e1 := hg i (by omega)
    have e2 := hg j (by omega)
    rw [← e] at e2
    exact (List.getElem?_inj (by omega) hn).1 (e1.trans e2.symm)
  · have hi : i < h2.length := (List.getElem?_eq_some_iff.1 hb).1
    obtain ⟨b1, q1, q2, q3, q4, q5⟩ := h3 i (sg sel i) b2 (hg i (by omega)) hb
    refine ⟨b1, q1, q2, q3, q4, ?_⟩
    rw [h1] at q5
    exact q5

/-- The conditions at a function's end. -/
def RetC (T : Tab) (m : Nat) (rs : List ResultVar) (s : St) (sel : List Nat) (r : PV) (h2 : List Blk) : Prop :=
  resP T s rs = some (ren (sg sel) r) ∧ bnd sel.length r = true ∧ sel.Nodup ∧ selFix m sel = true ∧ SelOK s.h (sg sel) sel.length sel h2

theorem Ret.mk {T : Tab} {m : Nat} {rs : List ResultVar} {Φ : PV → List Blk → Prop} {s : St} (sel : List Nat) {r : PV} {h2 : List Blk} (hΦ : Φ r h2) (hc : RetC T m rs s sel r h2) : Ret T m rs Φ .ret s := by
  obtain ⟨c1, c2, c3, c4, c5⟩ := hc
  have hl := (SelOK_get c5).1
  exact ⟨.inr rfl, _, r, h2, sg sel, c1, rfl, by rw [← hl]; exact c2, SubH.of sel c3 c4 c5, hΦ⟩

theorem Ret.mkN {T : Tab} {m : Nat} {rs : List ResultVar} {Φ : PV → List Blk → Prop} {s : St} (sel : List Nat) {r : PV} {h2 : List Blk} (hΦ : Φ r h2) (hc : RetC T m rs s sel r h2) : Ret T m rs Φ .normal s := by
  obtain ⟨c1, c2, c3, c4, c5⟩ := hc
  have hl := (SelOK_get c5).1
  exact ⟨.inl rfl, _, r, h2, sg sel, c1, rfl, by rw [← hl]; exact c2, SubH.of sel c3 c4 c5, hΦ⟩

def iv (sel : List Nat) : Nat → Nat := fun i => sel.idxOf i
/-- The blocks that are handed on, renumbered. -/
def cut (h : List Blk) (sel : List Nat) : List Blk := sel.map fun i => match h[i]? with
  | some b => if b.cl then b else ⟨b.ver, b.mode, b.cl, rens (iv sel) b.cells⟩
  | none => ⟨0, 2, true, []⟩

theorem Ret.sel {T : Tab} {m : Nat} {rs : List ResultVar} {Φ : PV → List Blk → Prop} {s : St} {r : PV} (sel : List Nat) (hr : resP T s rs = some r)
    (hc : RetC T m rs s sel (ren (iv sel) r) (cut s.h sel)) (hΦ : Φ (ren (iv sel) r) (cut s.h sel)) : Ret T m rs Φ .ret s := Ret.mk sel hΦ hc
theorem Ret.selN {T : Tab} {m : Nat} {rs : List ResultVar} {Φ : PV → List Blk → Prop} {s : St} {r : PV} (sel : List Nat) (hr : resP T s rs = some r)
    (hc : RetC T m rs s sel (ren (iv sel) r) (cut s.h sel)) (hΦ : Φ (ren (iv sel) r) (cut s.h sel)) : Ret T m rs Φ .normal s := Ret.mkN sel hΦ hc

def TmOK (l1 : List (Nat × PV)) (g : Nat → Nat) (M : Nat) : List (Nat × PV) → Prop
  | [] => True
  | (i, v) :: l => (bnd M v = true ∧ lk l1 i = ren g v) ∧ TmOK l1 g M l

/-- The conditions of forgetting. -/
def SubC (m : Nat) (sel : List Nat) : St → (List (Nat × PV)) → (List (Nat × PV)) → List Blk → List Blk → Nat → Nat → Prop := fun _ l2 l1 h2 h1 n2 n1 =>
  n2 = n1 ∧ sel.Nodup ∧ selFix m sel = true ∧ SelOK h1 (sg sel) sel.length sel h2 ∧ TmOK l1 (sg sel) sel.length l2

theorem TmOK_get {l1 : List (Nat × PV)} {g : Nat → Nat} {M : Nat} : ∀ {l2 : List (Nat × PV)}, TmOK l1 g M l2 → ∀ i, lk l2 i = .unk ∨ (bnd M (lk l2 i) = true ∧ lk l1 i = ren g (lk l2 i))
  | [], _, i => .inl rfl
  | (j, v) :: l, h, i => by
    simp only [lk]
    by_cases e : i = j
    · subst e; rw [if_pos rfl]; exact .inr h.1
    · rw [if_neg e]; exact TmOK_get h.2 i

theorem Sub.of {m : Nat} {l2 l1 : List (Nat × PV)} {h2 h1 : List Blk} {n : Nat} (sel : List Nat) (hn : sel.Nodup) (hf : selFix m sel = true) (hs : SelOK h1 (sg sel) sel.length sel h2) (ht : TmOK l1 (sg sel) sel.length l2) :
    Sub m (sg sel) ⟨tm l2, h2, n⟩ ⟨tm l1, h1, n⟩ := by
  have hl := (SelOK_get hs).1
  refine ⟨rfl, SubH.of sel hn hf hs, fun i => ?_⟩
  have := TmOK_get ht i
  simp only [tm]
  rw [← hl]; exact this

/-- What a round hands on. -/
def InvJ {α : Type} (m : Nat) (I : α → St) (inv : α → Prop) (μ : α → Nat) (x : α) (s : St) : Prop := ∃ x' g, inv x' ∧ Sub m g (I x') s ∧ μ x' < μ x

theorem InvJ.mk {α : Type} {m : Nat} {I : α → St} {inv : α → Prop} {μ : α → Nat} {x : α} {l1 : List (Nat × PV)} {h1 : List Blk} {n : Nat} (x' : α) (sel : List Nat) {l2 : List (Nat × PV)} {h2 : List Blk} (hI : I x' = ⟨tm l2, h2, n⟩) (hinv : inv x') (hμ : μ x' < μ x)
    (hc : sel.Nodup ∧ selFix m sel = true ∧ SelOK h1 (sg sel) sel.length sel h2 ∧ TmOK l1 (sg sel) sel.length l2) : InvJ m I inv μ x ⟨tm l1, h1, n⟩ :=
  ⟨x', sg sel, hinv, by rw [hI]; exact Sub.of sel hc.1 hc.2.1 hc.2.2.1 hc.2.2.2, hμ⟩

theorem LoopJ.ofX {P : Program} {T : Tab} (hT : TOk P T) (hmix : P.follows .mixedOrders = true) {m : Nat} {Q : Exit → St → Prop} {b : Code} {k : List KI} {n : Nat} {l1 : List (Nat × PV)} {h1 : List Blk} (bad ks : List Nat) {α : Type} (I : α → St) (inv : α → Prop) (μ : α → Nat) (x0 : α) (sel : List Nat)
    {l2 : List (Nat × PV)} {h2 : List Blk} (hI : I x0 = ⟨tm l2, h2, n⟩) (h0 : inv x0) (hc : sel.Nodup ∧ selFix m sel = true ∧ SelOK h1 (sg sel) sel.length sel h2 ∧ TmOK l1 (sg sel) sel.length l2)
    (hb : dallX bad b = true) (hk : dallKX bad k = true) (round : ∀ x, inv x → go ⟨P, T, m, ks, Q, bad⟩ (.code b) (.inv (InvJ m I inv μ x) :: k) (nf (I x))) : LoopQ P m Q b k ⟨tm l1, h1, n⟩ .mk .mk .mk .mk := by
  refine W_sub (s2 := I x0) (g := sg sel) (by rw [hI]; exact Sub.of sel hc.1 hc.2.1 hc.2.2.1 hc.2.2.2) ?_
  intro L F R a w hs
  refine wp_loop_ghost (β := (α × List BL × (Nat → Prop) × Reg)) (fun z a' w' => inv z.1 ∧ SR z.2.1 z.2.2.1 z.2.2.2 (I z.1) a' w' ∧ Ext w F R w' z.2.2.1 z.2.2.2 ∧ LLe (L.take m) z.2.1)
    (fun z => μ z.1) ⟨x0, L, F, R⟩ ⟨h0, hs, Ext.refl _ _ _, (LLe.refl L).take m⟩ ?_
  rintro ⟨x, L1, F1, R1⟩ a1 w1 ⟨hi1, hs1, hx1, hl1⟩
  refine wp_mono (W_goX hT hmix bad ks hb (by simpa only [dallKX] using hk) (round x hi1) L1 F1 R1 a1 w1 hs1) ?_
  rintro e a' w' ⟨s', L', F', R', hq, hx, hl, hs'⟩
  cases e with
  | normal =>
    obtain ⟨x', g, hi', hsub, hlt⟩ := hq
    obtain ⟨L2, hl2, hs2⟩ := hs'.sub hsub
    exact ⟨⟨x', L2, F', R'⟩, ⟨hi', hs2, hx1.trans hx, (hl1.take_trans hl).take_trans hl2⟩, hlt⟩
  | exit id => exact ⟨s', L', F', R', hq, hx1.trans hx, hl1.take_trans hl, hs'⟩
  | goto l => exact ⟨s', L', F', R', hq, hx1.trans hx, hl1.take_trans hl, hs'⟩
  | ret => exact ⟨s', L', F', R', hq, hx1.trans hx, hl1.take_trans hl, hs'⟩
  | panic c => exact ⟨s', L', F', R', hq, hx1.trans hx, hl1.take_trans hl, hs'⟩
  | outgrown => exact ⟨s', L', F', R', hq, hx1.trans hx, hl1.take_trans hl, hs'⟩

theorem LoopJ.of {P : Program} {T : Tab} (hT : TOk P T) (hmix : P.follows .mixedOrders = true) {m : Nat} {Q : Exit → St → Prop} {b : Code} {k : List KI} {n : Nat} {l1 : List (Nat × PV)} {h1 : List Blk} (ks : List Nat) {α : Type} (I : α → St) (inv : α → Prop) (μ : α → Nat) (x0 : α) (sel : List Nat)
    {l2 : List (Nat × PV)} {h2 : List Blk} (hI : I x0 = ⟨tm l2, h2, n⟩) (h0 : inv x0) (hc : sel.Nodup ∧ selFix m sel = true ∧ SelOK h1 (sg sel) sel.length sel h2 ∧ TmOK l1 (sg sel) sel.length l2)
    (hb : dall b = true) (hk : dallK k = true) (round : ∀ x, inv x → go ⟨P, T, m, ks, Q, []⟩ (.code b) (.inv (InvJ m I inv μ x) :: k) (nf (I x))) : LoopQ P m Q b k ⟨tm l1, h1, n⟩ .mk .mk .mk .mk :=
  LoopJ.ofX hT hmix [] ks I inv μ x0 sel hI h0 hc hb hk round

/-- How the callee sees an argument, for simp. -/
def PresC (h : List Blk) (I : List Nat) (r : Nat) (x' x : PV) : Prop :=
  match x', x with
  | .unk, _ => True
  | .vz _ n cs, .nils => n = 0 ∧ cs = []
  | .vz q n cs, .sl b ver k off m =>
    match h[b]? with
    | some bl => ver = bl.ver ∧ bl.cl = true ∧ n = m ∧ cs = (bl.cells.drop off).take (m * k) ∧ (I.contains b = false ∧ q = r ∨ bl.mode = 2 ∧ q = 0)
    | none => False
  | x', x => bnd I.length x' = true ∧ x = ren (gOf I h.length) x'

theorem PresC.out {h : List Blk} {I : List Nat} {r : Nat} {x' x : PV} (hc : PresC h I r x' x) : Pres h I r x' x := by
  unfold PresC at hc
  split at hc
  · exact .inl rfl
  · obtain ⟨rfl, rfl⟩ := hc
    exact .inr (.inl ⟨rfl, _, rfl⟩)
  · rename_i q n cs b ver k off m
    split at hc
    · rename_i bl hbl
      obtain ⟨c1, c2, rfl, rfl, c5⟩ := hc
      refine .inr (.inr (.inr ⟨b, ver, k, off, n, bl, rfl, hbl, c1, c2, ?_⟩))
      rcases c5 with ⟨c5, rfl⟩ | ⟨c5, rfl⟩
      · exact .inl ⟨by simpa using c5, rfl⟩
      · exact .inr ⟨c5, rfl⟩
    · cases hc
  · exact .inr (.inr (.inl hc))

def PresCL (h : List Blk) (I : List Nat) (r : Nat) : List PV → List PV → Prop
  | [], [] => True
  | x' :: xs', x :: xs => PresC h I r x' x ∧ PresCL h I r xs' xs
  | _, _ => False

theorem PresCL.out {h : List Blk} {I : List Nat} {r : Nat} : ∀ {xs' xs : List PV}, PresCL h I r xs' xs → PresL h I r xs' xs
  | [], [], _ => trivial
  | _ :: _, _ :: _, hc => ⟨hc.1.out, PresCL.out hc.2⟩
  | [], _ :: _, hc => by cases hc
  | _ :: _, [], hc => by cases hc

/-- The conditions of a call. -/
def CallC (h : List Blk) (I : List Nat) (r : Nat) (pargs' pargs : List PV) (hI : List Blk) : Prop :=
  r ≠ 0 ∧ I.Nodup ∧ PresCL h I r pargs' pargs ∧ PresH h I I hI

theorem CallJ.of {c : Cx} {g : Nat} {args : List PV} {dst : Option Nat} {s : St} {a : Array Oper} {os : List Oper} {k : List KI} (I : List Nat) (r : Nat) {pargs' : List PV} {hI : List Blk} {Φ : PV → List Blk → Prop}
    (spec : PCE c.P g pargs' hI Φ) (hc : CallC s.h I r pargs' args hI)
    (hk : ∀ v h', Φ v h' → noReg r v ∧ noRegB r h' ∧ go c (.ops a os) k (nf (s.put dst (ren (gOf I s.h.length) v) (merge s.h I (h'.map (renB (gOf I s.h.length))))))) : CallJ c g args dst s a os k .mk .mk .mk .mk :=
  PCE.frame I r hc.1 hc.2.1 spec hc.2.2.1.out hc.2.2.2 hk

/-- A call whose arguments hold nothing of the caller's own. -/
theorem CallJ.of0 {c : Cx} {g : Nat} {args : List PV} {dst : Option Nat} {s : St} {a : Array Oper} {os : List Oper} {k : List KI} {Φ : PV → List Blk → Prop} (r : Nat)
    (spec : PCE c.P g args [] Φ) (hc : CallC s.h [] (r + 1) args args [])
    (hk : ∀ v h', Φ v h' → noReg (r + 1) v ∧ noRegB (r + 1) h' ∧ go c (.ops a os) k (nf (s.put dst (ren (gOf [] s.h.length) v) (merge s.h [] (h'.map (renB (gOf [] s.h.length))))))) : CallJ c g args dst s a os k .mk .mk .mk .mk :=
  CallJ.of [] (r + 1) spec hc hk

@[congr] theorem InvJ_congr {α : Type} {m : Nat} {I : α → St} {inv : α → Prop} {μ : α → Nat} {x : α} {s s' : St} (h : s = s') : InvJ m I inv μ x s = InvJ m I inv μ x s' := by rw [h]

attribute [go_sem] ne_eq iv cut Nat.mul_one Nat.add_zero Nat.zero_add Int.toNat_natCast and_self and_true true_and SelOK sg selFix RetC TmOK PresC PresCL CallC PresB PresH noReg noRegs noRegB ren rens bnd bnds gOf setAll renB
  List.getD_cons_zero List.getD_cons_succ List.map_cons List.map_nil List.nodup_cons List.nodup_nil List.not_mem_nil List.mem_cons

@[go_sem] theorem spl_nil (cs : List PV) : spl cs 0 [] = cs := by simp [spl]
@[go_sem] theorem spl_zero (c : PV) (cs : List PV) (x : PV) (xs : List PV) : spl (c :: cs) 0 (x :: xs) = x :: spl cs 0 xs := by simp [spl]
@[go_sem] theorem spl_succ (c : PV) (cs : List PV) (n : Nat) (xs : List PV) : spl (c :: cs) (n + 1) xs = c :: spl cs n xs := by
  simp only [spl, List.take_succ_cons, List.cons_append, List.append_assoc]
  rw [show n + 1 + xs.length = n + xs.length + 1 by omega, List.drop_succ_cons]

@[go_sem] theorem merge_eq {α : Type} (A : List α) (I : List Nat) (B : List α) : merge A I B = setAll A I B ++ B.drop I.length := rfl
end Go.Fw
