/- A contract at a call: the callee sees a part of the memory, and slices lent to it as values. -/
import Derived.Test.YtaloakmffdejgaaFwF
set_option linter.unusedVariables false
namespace Go.Fw
open Go

def setAll {α : Type} (A : List α) : List Nat → List α → List α
  | i :: I, b :: B => setAll (A.set i b) I B
  | _, _ => A

theorem setAll_length {α : Type} : ∀ (I : List Nat) (A B : List α), (setAll A I B).length = A.length
  | [], A, B => by cases B <;> rfl
  | i :: I, A, [] => rfl
  | i :: I, A, b :: B => by rw [setAll, setAll_length I]; simp

theorem setAll_other {α : Type} : ∀ (I : List Nat) (A B : List α) (k : Nat), k ∉ I → (setAll A I B)[k]? = A[k]?
  | [], A, B, k, _ => by cases B <;> rfl
  | i :: I, A, [], k, _ => rfl
  | i :: I, A, b :: B, k, h => by
    simp only [List.mem_cons, not_or] at h
    rw [setAll, setAll_other I _ _ k h.2, List.getElem?_set_ne (by omega)]

theorem setAll_at {α : Type} : ∀ (I : List Nat) (A B : List α) (j i : Nat), I.Nodup → I.length ≤ B.length → I[j]? = some i → i < A.length → (setAll A I B)[i]? = B[j]?
  | [], A, B, j, i, _, _, h, _ => by simp at h
  | i0 :: I, A, [], j, i, _, hl, h, _ => by simp at hl
  | i0 :: I, A, b :: B, j, i, hn, hl, h, hi => by
    simp only [List.nodup_cons] at hn
    cases j with
    | zero =>
      simp at h; subst h
      rw [setAll, setAll_other I _ _ _ hn.1]
      simp [hi]
    | succ j =>
      rw [setAll, setAll_at I _ B j i hn.2 (by simpa using hl) (by simpa using h) (by simpa using hi)]
      simp

def merge {α : Type} (A : List α) (I : List Nat) (B : List α) : List α := setAll A I B ++ B.drop I.length

/-- The callee's block numbers in the caller's memory. -/
def gOf (I : List Nat) (n : Nat) : Nat → Nat := fun j => if j < I.length then I.getD j 0 else n + (j - I.length)

theorem merge_callee {α : Type} {A B : List α} {I : List Nat} (hn : I.Nodup) (hl : I.length ≤ B.length) (hI : ∀ i ∈ I, i < A.length) (j : Nat) (x : α) (h : B[j]? = some x) : (merge A I B)[gOf I A.length j]? = some x := by
  unfold merge gOf
  split
  · rename_i hj
    have e : I[j]? = some (I.getD j 0) := by simp [List.getD, hj]
    have hlt := hI _ (List.mem_of_getElem? e)
    rw [List.getElem?_append_left (by rw [setAll_length]; exact hlt), setAll_at I A B j _ hn hl e hlt]
    exact h
  · rename_i hj
    rw [List.getElem?_append_right (by rw [setAll_length]; omega), setAll_length, List.getElem?_drop]
    have e : I.length + (A.length + (j - I.length) - A.length) = j := by omega
    rw [e]; exact h

theorem merge_cases {α : Type} {A B : List α} {I : List Nat} (hn : I.Nodup) (hl : I.length ≤ B.length) (k : Nat) (x : α) (h : (merge A I B)[k]? = some x) :
    (k ∉ I ∧ k < A.length ∧ A[k]? = some x) ∨ ∃ j, k = gOf I A.length j ∧ B[j]? = some x := by
  unfold merge at h
  by_cases hk : k < A.length
  · rw [List.getElem?_append_left (by rw [setAll_length]; exact hk)] at h
    by_cases hm : k ∈ I
    · obtain ⟨j, hj, e⟩ := List.getElem_of_mem hm
      have e' : I[j]? = some k := by rw [List.getElem?_eq_getElem hj, e]
      rw [setAll_at I A B j k hn hl e' hk] at h
      refine .inr ⟨j, ?_, h⟩
      simp [gOf, hj, List.getD, e]
    · rw [setAll_other I A B k hm] at h
      exact .inl ⟨hm, hk, h⟩
  · rw [List.getElem?_append_right (by rw [setAll_length]; omega), setAll_length, List.getElem?_drop] at h
    refine .inr ⟨I.length + (k - A.length), ?_, h⟩
    unfold gOf
    rw [if_neg (by omega)]
    omega

def renB (g : Nat → Nat) (b : Blk) : Blk := if b.cl then b else { b with cells := rens g b.cells }

/-- How the callee sees an argument. -/
def Pres (h : List Blk) (I : List Nat) (r : Nat) (x' x : PV) : Prop :=
  x' = .unk ∨ (x = .nils ∧ ∃ q, x' = .vz q 0 []) ∨ (bnd I.length x' = true ∧ x = ren (gOf I h.length) x') ∨
  ∃ b ver k off n bl, x = .sl b ver k off n ∧ h[b]? = some bl ∧ ver = bl.ver ∧ bl.cl = true ∧ ((b ∉ I ∧ x' = .vz r n ((bl.cells.drop off).take (n * k))) ∨ (bl.mode = 2 ∧ x' = .vz 0 n ((bl.cells.drop off).take (n * k))))

def PresL (h : List Blk) (I : List Nat) (r : Nat) : List PV → List PV → Prop
  | [], [] => True
  | x' :: xs', x :: xs => Pres h I r x' x ∧ PresL h I r xs' xs
  | _, _ => False

/-- How the callee sees a block. -/
def PresB (n : Nat) (I : List Nat) (b' b : Blk) : Prop :=
  b.ver = b'.ver ∧ b.mode = b'.mode ∧ b.cl = b'.cl ∧ (if b'.cl then b.cells = b'.cells else bnds I.length b'.cells = true ∧ b.cells = rens (gOf I n) b'.cells)

def PresH (h : List Blk) (I : List Nat) : List Nat → List Blk → Prop
  | [], [] => True
  | i :: is, b' :: bs => (match h[i]? with | some b => PresB h.length I b' b | none => False) ∧ PresH h I is bs
  | _, _ => False

theorem PresL_get {h : List Blk} {I : List Nat} {r : Nat} : ∀ {xs' xs : List PV}, PresL h I r xs' xs → xs'.length = xs.length ∧ ∀ (i : Nat) (x' x : PV), xs'[i]? = some x' → xs[i]? = some x → Pres h I r x' x
  | [], [], _ => by simp
  | x' :: xs', x :: xs, hp => by
    obtain ⟨h1, h2⟩ := PresL_get hp.2
    refine ⟨by simp [h1], fun i y' y hy' hy => ?_⟩
    cases i with
    | zero => simp at hy' hy; subst hy' hy; exact hp.1
    | succ i => exact h2 i y' y (by simpa using hy') (by simpa using hy)
  | [], x :: xs, hp => by cases hp
  | x' :: xs', [], hp => by cases hp

theorem PresH_get {h : List Blk} {I : List Nat} : ∀ {is : List Nat} {bs : List Blk}, PresH h I is bs → is.length = bs.length ∧ ∀ (j i : Nat) (b' : Blk), is[j]? = some i → bs[j]? = some b' → ∃ b, h[i]? = some b ∧ PresB h.length I b' b
  | [], [], _ => by simp
  | i :: is, b :: bs, hp => by
    obtain ⟨h1, h2⟩ := PresH_get hp.2
    refine ⟨by simp [h1], fun j k b' hj hb => ?_⟩
    cases j with
    | zero =>
      simp at hj hb; subst hj hb
      have := hp.1
      split at this
      · rename_i b0 hb0; exact ⟨b0, hb0, this⟩
      · cases this
    | succ j => exact h2 j k b' (by simpa using hj) (by simpa using hb)
  | [], b :: bs, hp => by cases hp
  | i :: is, [], hp => by cases hp

def noRegB (r : Nat) : List Blk → Prop
  | [] => True
  | b :: bs => (b.cl = true ∨ noRegs r b.cells) ∧ noRegB r bs

theorem noRegB_get {r : Nat} : ∀ {bs : List Blk}, noRegB r bs → ∀ (j : Nat) (b : Blk), bs[j]? = some b → b.cl = true ∨ noRegs r b.cells
  | [], _, j, b, h => by simp at h
  | c :: bs, hp, j, b, h => by
    cases j with
    | zero => simp at h; subst h; exact hp.1
    | succ j => exact noRegB_get hp.2 j b (by simpa using h)

theorem PC.frame {P : Program} {f : Nat} {pargs pargs' : List PV} {h hI : List Blk} {Φ K : PV → List Blk → Prop} (I : List Nat) (r : Nat) (hr0 : r ≠ 0) (hn : I.Nodup) (spec : PC P f pargs' hI Φ)
    (hargs : PresL h I r pargs' pargs) (hblk : PresH h I I hI)
    (hk : ∀ v h', Φ v h' → noReg r v ∧ noRegB r h' ∧ K (ren (gOf I h.length) v) (merge h I (h'.map (renB (gOf I h.length))))) : PC P f pargs h K := by
  intro L F R w args hr hlen hvr
  obtain ⟨hIl, hIb⟩ := PresH_get hblk
  obtain ⟨hal, hag⟩ := PresL_get hargs
  have hLlen := hr.len
  have hIlt : ∀ i ∈ I, i < h.length := fun i hi => by
    obtain ⟨j, hj, e⟩ := List.getElem_of_mem hi
    have e' : I[j]? = some i := by rw [List.getElem?_eq_getElem hj, e]
    obtain ⟨b, hb, _⟩ := hIb j i _ e' (List.getElem?_eq_getElem (by omega))
    exact (List.getElem?_eq_some_iff.1 hb).1
  let g := gOf I h.length
  have hg : ∀ j, j < I.length → I[j]? = some (g j) := fun j hj => by simp [g, gOf, hj, List.getD]
  let LI : List BL := (List.range I.length).map fun j => L.getD (g j) ⟨0, none⟩
  have hLI : ∀ j, j < I.length → LI[j]? = L[g j]? := fun j hj => by
    have := hIlt _ (List.mem_of_getElem? (hg j hj))
    simp [LI, hj, List.getElem?_eq_getElem (l := L) (i := g j) (by omega)]
  have hLI' : ∀ (j : Nat) (l : BL), LI[j]? = some l → j < I.length ∧ L[g j]? = some l := fun j l hl => by
    have hj : j < I.length := by
      have := (List.getElem?_eq_some_iff.1 hl).1
      simpa [LI] using this
    exact ⟨hj, (hLI j hj) ▸ hl⟩
  let lent : Nat → Prop := fun k => ∃ j b l ro sz, j < I.length ∧ h[g j]? = some b ∧ L[g j]? = some l ∧ b.mode ≠ 2 ∧ l.loc = some (k, ro, sz)
  let Fc : Nat → Prop := fun k => k < w.heap.size ∧ ¬ lent k
  let Rc : Reg := fun q k => if q = r then Fc k else R q k
  have hlentF : ∀ k, lent k → ¬ F k := fun k ⟨j, b, l, ro, sz, hj, hb, hl, hm, hloc⟩ => by
    obtain ⟨_, _, h3⟩ := hr.blk _ b l hb hl
    rw [hloc] at h3
    obtain ⟨arr, e, fz, q1, q2, q3, q4, q5, q6⟩ := h3
    rw [if_neg hm] at q6
    exact q6
  have hFFc : ∀ k, F k → Fc k := fun k hF => ⟨hr.Flt k hF, fun hl => hlentF k hl hF⟩
  have hRRc : ∀ q k, R q k → Rc q k := fun q k hq => by
    simp only [Rc]
    split
    · exact hFFc k (hr.RF _ _ hq)
    · exact hq
  have hRc0 : ∀ k, Rc 0 k ↔ R 0 k := fun k => by simp only [Rc]; rw [if_neg (fun e => hr0 e.symm)]
  have hrc : HR w Fc Rc LI hI := by
    refine ⟨by simp [LI, hIl], ?_, ?_, ?_, fun k hk => hk.1⟩
    · intro j b' l hb' hl
      obtain ⟨hj, hl'⟩ := hLI' j l hl
      obtain ⟨b, hb, p1, p2, p3, p4⟩ := hIb j (g j) b' (hg j hj) hb'
      obtain ⟨r1, r2, r3⟩ := hr.blk _ b l hb hl'
      refine ⟨by omega, by rw [← p2, ← p3]; exact r2, ?_⟩
      cases hloc : l.loc with
      | none =>
        rw [hloc] at r3
        simp only at r3 ⊢
        split at p4
        · rw [← p4]; exact r3
        · rw [r3] at p4
          have := p4.2
          cases hc : b'.cells with
          | nil => rfl
          | cons c cs => rw [hc] at this; simp [rens] at this
      | some q =>
        obtain ⟨rb, ro, sz⟩ := q
        rw [hloc] at r3
        obtain ⟨arr, e, fz, q1, q2, q3, q4, q5, q6⟩ := r3
        have hlen2 : b.cells.length = b'.cells.length := by
          split at p4
          · rw [p4]
          · rw [p4.2, rens_eq]; simp
        refine ⟨arr, e, fz, q1, q2, q3, by omega, ?_, ?_⟩
        · unfold CR at q5 ⊢
          rw [p3] at q5
          split at p4
          · rename_i hc
            rw [if_pos hc] at q5 ⊢
            rw [p4] at q5
            exact VRs.mono (fun _ _ _ => rfl) (fun q k hq => ⟨hq.1, (hRc0 k).2 hq.2⟩) (LLe.refl _) _ _ _ q5 fun _ _ h => h
          · rename_i hc
            rw [if_neg hc] at q5 ⊢
            rw [p4.2] at q5
            exact VRs.mono (fun _ _ _ => rfl) hRRc (LLe.refl _) _ _ _ (VRs.unren (m := I.length) (fun b hb => (hLI b hb).symm) _ _ p4.1 q5) fun _ _ h => h
        · rw [← p2]
          split at q6
          · rename_i hm; rw [if_pos hm]; exact (hRc0 rb).2 q6
          · rename_i hm; rw [if_neg hm]
            exact fun hF => hF.2 ⟨j, b, l, ro, sz, hj, hb, hl', hm, hloc⟩
    · intro i j bi bj li lj hne hbi hbj hli hlj mi mj
      obtain ⟨hi, hli'⟩ := hLI' i li hli
      obtain ⟨hj, hlj'⟩ := hLI' j lj hlj
      obtain ⟨b, hb, _, p2, _, _⟩ := hIb i (g i) bi (hg i hi) hbi
      obtain ⟨b2, hb2, _, p2', _, _⟩ := hIb j (g j) bj (hg j hj) hbj
      refine hr.inj (g i) (g j) b b2 li lj (fun e => hne ?_) hb hb2 hli' hlj' (by omega) (by omega)
      have e1 := hg i hi
      have e2 := hg j hj
      rw [← e] at e2
      exact (List.getElem?_inj hi hn).1 (e1.trans e2.symm)
    · intro q k hq
      simp only [Rc] at hq
      split at hq
      · exact hq
      · exact hFFc k (hr.RF _ _ hq)
  have hargs' : VRs w Rc LI pargs' (fun i => args[i]?) := by
    rw [VRs_iff] at hvr ⊢
    intro i x' hx'
    have hi : i < pargs.length := by rw [← hal]; exact (List.getElem?_eq_some_iff.1 hx').1
    obtain ⟨u, hu, hv⟩ := hvr i pargs[i] (List.getElem?_eq_getElem hi)
    refine ⟨u, hu, ?_⟩
    rcases hag i x' _ hx' (List.getElem?_eq_getElem hi) with rfl | ⟨e, q, rfl⟩ | ⟨hbd, e⟩ | ⟨b, ver, k, off, n, bl, e, hb, hver, hcl, hcase⟩
    · simp [VR]
    · rw [e, VR] at hv
      rw [VR]
      exact ⟨none, 0, hv, Nat.le_refl _, .inl ⟨rfl, rfl⟩⟩
    · rw [e] at hv
      exact VR.mono (fun _ _ _ => rfl) hRRc (LLe.refl _) _ _ (VR.unren (m := I.length) (fun b hb => (hLI b hb).symm) _ _ hbd hv)
    · rw [e] at hv
      obtain ⟨l, hl, hvl⟩ := hr.get hb
      rw [VR] at hv
      obtain ⟨l', hl', hle, p, cap, rfl, hcap, hv⟩ := hv
      have : l' = l := by rw [hl] at hl'; exact (Option.some.inj hl').symm
      subst this
      have key : ∀ q, (∀ rb ro sz, l'.loc = some (rb, ro, sz) → Rc q rb) → VR w Rc LI (.vz q n ((bl.cells.drop off).take (n * k))) (.slice p n cap) := fun q hq => by
        rw [VR]
        refine ⟨p, cap, rfl, hcap, ?_⟩
        rcases hv with ⟨h0, _⟩ | ⟨rb, o, rfl, hv⟩
        · left
          have : n = 0 := by omega
          subst this; simp
        · right
          obtain ⟨ro, sz, z1, z2, z3⟩ := hv (by omega)
          refine ⟨rb, o, rfl, hq _ _ _ z1, ?_⟩
          have hcr := hr.cells hb hl z1
          unfold CR at hcr
          rw [if_pos hcl] at hcr
          have := (VRs.mono (R' := R0 Rc) (fun _ _ _ => rfl) (fun q k hq => ⟨hq.1, (hRc0 k).2 hq.2⟩) (LLe.refl _) _ _ _ hcr fun _ _ h => h).drop_take off (n * k)
          subst z2
          have e : (fun i => w.cell? ⟨rb, ro + off + i, none⟩) = fun i => w.cell? ⟨rb, ro + (off + i), none⟩ := by funext i; rw [Nat.add_assoc]
          rw [e]; exact this
      have hloc : ∀ rb ro sz, l'.loc = some (rb, ro, sz) → rb < w.heap.size ∧ (if bl.mode = 2 then R 0 rb else ¬ F rb) := fun rb ro sz hloc => by
        obtain ⟨_, _, h3⟩ := hr.blk _ bl l' hb hl
        rw [hloc] at h3
        obtain ⟨arr, e, fz, q1, q2, q3, q4, q5, q6⟩ := h3
        exact ⟨(Array.getElem?_eq_some_iff.1 q1).1, q6⟩
      rcases hcase with ⟨hnI, rfl⟩ | ⟨hm, rfl⟩
      · refine key r fun rb ro sz hl1 => ?_
        simp only [Rc, if_true]
        refine ⟨(hloc _ _ _ hl1).1, fun ⟨j, b2, l2, ro2, sz2, hj, hb2, hl2, hm2, hloc2⟩ => ?_⟩
        have hne : b ≠ g j := fun e => hnI (e ▸ List.mem_of_getElem? (hg j hj))
        by_cases hm : bl.mode = 2
        · have := (hloc _ _ _ hl1).2
          rw [if_pos hm] at this
          exact hlentF rb ⟨j, b2, l2, ro2, sz2, hj, hb2, hl2, hm2, hloc2⟩ (hr.RF _ _ this)
        · exact hr.inj b (g j) bl b2 l' l2 hne hb hb2 hl hl2 hm hm2 _ _ _ _ _ _ hl1 hloc2 rfl
      · refine key 0 fun rb ro sz hl1 => ?_
        have := (hloc _ _ _ hl1).2
        rw [if_pos hm] at this
        exact (hRc0 rb).2 this
  refine (spec LI Fc Rc w args hrc (by omega) hargs').mono ?_
  rintro e w' ⟨v, pv, h', L', F', R', rfl, hΦ, hx, hle, hr', hv⟩
  obtain ⟨k1, k2, k3⟩ := hk pv h' hΦ
  have hL'len := hr'.len
  have hIL' : I.length ≤ L'.length := by
    rcases Nat.lt_or_ge L'.length I.length with hlt | hge
    · exfalso
      have hj : L'.length < I.length := hlt
      have hsome : ∃ l, LI[L'.length]? = some l := ⟨LI[L'.length]'(by simp [LI]; exact hj), List.getElem?_eq_getElem _⟩
      obtain ⟨l, hl⟩ := hsome
      obtain ⟨l', h1, _⟩ := hle _ _ hl
      simp at h1
    · exact hge
  have hIh' : I.length ≤ h'.length := by omega
  let Fn : Nat → Prop := fun k => F k ∨ R' 0 k
  let Rn : Reg := fun q k => if q = r then R r k else R' q k
  have hRq : ∀ q k, q ≠ 0 → q ≠ r → (R' q k ↔ R q k) := fun q k h0 h1 => by
    rw [hx.Rq q k h0]; simp only [Rc]; rw [if_neg h1]
  have hR0 : ∀ k, R 0 k → R' 0 k := fun k h0 => hx.mR k ((hRc0 k).2 h0)
  have hRn0 : ∀ k, Rn 0 k ↔ R' 0 k := fun k => by simp only [Rn]; rw [if_neg (fun e => hr0 e.symm)]
  have hext : Ext w F R w' Fn Rn := by
    refine ⟨fun k hF => hx.keep k (hFFc k hF), hx.size, hx.os, hx.tape, hx.output, fun k hF => .inl hF, fun k h0 => (hRn0 k).2 (hR0 k h0), fun q k hq => ?_, fun k hF h0 => ?_⟩
    · simp only [Rn]
      split
      · rename_i e; subst e; exact Iff.rfl
      · rename_i e; exact hRq q k hq e
    · exact (hRc0 k).1 (hx.new k (hFFc k hF) ((hRn0 k).1 h0))
  let Ln : List BL := merge L I L'
  have hILt : ∀ i ∈ I, i < L.length := fun i hi => by rw [hLlen]; exact hIlt i hi
  have hgL : gOf I L.length = gOf I h.length := by rw [hLlen]
  have hLn : ∀ (j : Nat) (l : BL), L'[j]? = some l → Ln[g j]? = some l := fun j l hl => by
    have := merge_callee (A := L) hn hIL' hILt j l hl
    rw [hgL] at this; exact this
  have hleLn : LLe L Ln := fun k l hl => by
    by_cases hm : k ∈ I
    · obtain ⟨j, hj, e⟩ := List.getElem_of_mem hm
      have e' : I[j]? = some k := by rw [List.getElem?_eq_getElem hj, e]
      have ek : g j = k := by
        have := hg j hj
        rw [e'] at this
        exact (Option.some.inj this).symm
      have hLIj : LI[j]? = some l := by rw [hLI j hj, ek]; exact hl
      obtain ⟨l', a1, a2, a3⟩ := hle j l hLIj
      refine ⟨l', ?_, a2, a3⟩
      have := hLn j l' a1
      rw [ek] at this; exact this
    · refine ⟨l, ?_, Nat.le_refl _, fun _ => rfl⟩
      show (merge L I L')[k]? = some l
      unfold merge
      have hk : k < L.length := (List.getElem?_eq_some_iff.1 hl).1
      rw [List.getElem?_append_left (by rw [setAll_length]; exact hk), setAll_other I L L' k hm]
      exact hl
  have hregV : ∀ x v, noReg r x → VR w' R' L' x v → VR w' Rn Ln (ren g x) v := fun x v hx hv =>
    VR.ren hLn x v (VR.reg (r := r) (fun k h0 => (hRn0 k).2 h0) (fun q k hq h1 => by simp only [Rn]; rw [if_neg hq]; exact h1) x v hx hv)
  have hregVs : ∀ cs gg, noRegs r cs → VRs w' R' L' cs gg → VRs w' Rn Ln (rens g cs) gg := fun cs gg hx hv =>
    VRs.ren hLn cs gg (VRs.reg (r := r) (fun k h0 => (hRn0 k).2 h0) (fun q k hq h1 => by simp only [Rn]; rw [if_neg hq]; exact h1) cs gg hx hv)
  have hFnF' : ∀ k, Fn k → F' k := fun k hk => hk.elim (fun hF => hx.mF k (hFFc k hF)) (fun h0 => hr'.RF _ _ h0)
  have hcallee : ∀ (j : Nat) (b : Blk) (l : BL), h'[j]? = some b → L'[j]? = some l → BR w' Fn Rn Ln (renB g b) l := fun j b l hb hl => by
    obtain ⟨r1, r2, r3⟩ := hr'.blk j b l hb hl
    have hreg := noRegB_get k2 j b hb
    have e1 : (renB g b).ver = b.ver := by unfold renB; split <;> rfl
    have e2 : (renB g b).mode = b.mode := by unfold renB; split <;> rfl
    have e3 : (renB g b).cl = b.cl := by unfold renB; split <;> rfl
    have e4 : (renB g b).cells.length = b.cells.length := by
      unfold renB; split
      · rfl
      · simp [rens_eq]
    refine ⟨by rw [e1]; exact r1, by rw [e2, e3]; exact r2, ?_⟩
    cases hloc : l.loc with
    | none =>
      rw [hloc] at r3
      simp only at r3 ⊢
      exact List.eq_nil_of_length_eq_zero (by rw [e4, r3]; rfl)
    | some q =>
      obtain ⟨rb, ro, sz⟩ := q
      rw [hloc] at r3
      obtain ⟨arr, e, fz, q1, q2, q3, q4, q5, q6⟩ := r3
      refine ⟨arr, e, fz, q1, q2, q3, by rw [e4]; exact q4, ?_, ?_⟩
      · unfold CR at q5 ⊢
        rw [e3]
        split at q5
        · rename_i hc
          rw [if_pos hc]
          have : (renB g b).cells = b.cells := by unfold renB; rw [if_pos hc]
          rw [this]
          exact VRs.mono (fun _ _ _ => rfl) (fun q k hq => ⟨hq.1, (hRn0 k).2 hq.2⟩) (LLe.refl _) _ _ _ q5 fun _ _ h => h
        · rename_i hc
          rw [if_neg hc]
          have : (renB g b).cells = rens g b.cells := by unfold renB; rw [if_neg hc]
          rw [this]
          exact hregVs _ _ (hreg.resolve_left hc) q5
      · rw [e2]
        split at q6
        · rename_i hm; rw [if_pos hm]; exact (hRn0 rb).2 q6
        · rename_i hm; rw [if_neg hm]; exact fun hF => q6 (hFnF' rb hF)
  have hother : ∀ (i : Nat) (b : Blk) (l : BL), i ∉ I → h[i]? = some b → L[i]? = some l → (∀ rb ro sz, l.loc = some (rb, ro, sz) → Fc rb) ∧ BR w' Fn Rn Ln b l := fun i b l hi hb hl => by
    obtain ⟨r1, r2, r3⟩ := hr.blk i b l hb hl
    have hFc : ∀ rb ro sz, l.loc = some (rb, ro, sz) → Fc rb := fun rb ro sz hloc => by
      rw [hloc] at r3
      obtain ⟨arr, e, fz, q1, q2, q3, q4, q5, q6⟩ := r3
      refine ⟨(Array.getElem?_eq_some_iff.1 q1).1, fun hlent => ?_⟩
      by_cases hm : b.mode = 2
      · rw [if_pos hm] at q6
        exact hlentF rb hlent (hr.RF _ _ q6)
      · obtain ⟨j, b2, l2, ro2, sz2, hj, hb2, hl2, hm2, hloc2⟩ := hlent
        have hne : i ≠ g j := fun e => hi (e ▸ List.mem_of_getElem? (hg j hj))
        exact hr.inj i (g j) b b2 l l2 hne hb hb2 hl hl2 hm hm2 _ _ _ _ _ _ hloc hloc2 rfl
    refine ⟨hFc, r1, r2, ?_⟩
    cases hloc : l.loc with
    | none => rw [hloc] at r3; exact r3
    | some q =>
      obtain ⟨rb, ro, sz⟩ := q
      rw [hloc] at r3
      obtain ⟨arr, e, fz, q1, q2, q3, q4, q5, q6⟩ := r3
      refine ⟨arr, e, fz, (hx.keep rb (hFc _ _ _ hloc)).trans q1, q2, q3, q4, q5.ext hr.RF hext hleLn fun _ _ h => h, ?_⟩
      split at q6
      · rename_i hm; rw [if_pos hm]; exact (hRn0 rb).2 (hR0 rb q6)
      · rename_i hm; rw [if_neg hm]
        rintro (hF | h0)
        · exact q6 hF
        · exact q6 (hr.RF _ _ ((hRc0 rb).1 (hx.new rb (hFc _ _ _ hloc) h0)))
  let hm : List Blk := merge h I (h'.map (renB g))
  have hml : I.length ≤ (h'.map (renB g)).length := by simpa using hIh'
  have hsplit : ∀ (i : Nat) (b : Blk) (l : BL), hm[i]? = some b → Ln[i]? = some l → (i ∉ I ∧ h[i]? = some b ∧ L[i]? = some l) ∨ ∃ j b0, i = g j ∧ h'[j]? = some b0 ∧ b = renB g b0 ∧ L'[j]? = some l := fun i b l hb hl => by
    rcases merge_cases hn hml i b hb with ⟨a1, a2, a3⟩ | ⟨j, e, hj⟩
    · rcases merge_cases hn hIL' i l hl with ⟨c1, c2, c3⟩ | ⟨j, e, hj⟩
      · exact .inl ⟨a1, a3, c3⟩
      · exfalso
        rw [hgL] at e
        unfold gOf at e
        split at e
        · rename_i hlt
          apply a1
          rw [e]
          simp [List.getD, hlt]
        · omega
    · simp only [List.getElem?_map, Option.map_eq_some_iff] at hj
      obtain ⟨b0, hb0, rfl⟩ := hj
      have hjL : j < L'.length := by rw [hL'len]; exact (List.getElem?_eq_some_iff.1 hb0).1
      have := hLn j L'[j] (List.getElem?_eq_getElem hjL)
      have e2 : i = g j := e
      rw [← e2] at this
      refine .inr ⟨j, b0, e2, hb0, rfl, ?_⟩
      rw [hl] at this
      rw [List.getElem?_eq_getElem hjL]
      exact this.symm
  refine ⟨v, ren g pv, hm, Ln, Fn, Rn, rfl, k3, hext, hleLn, ⟨?_, ?_, ?_, ?_, ?_⟩, hregV pv v k1 hv⟩
  · show (merge L I L').length = (merge h I (h'.map (renB g))).length
    simp only [merge, List.length_append, setAll_length, List.length_drop, List.length_map]
    omega
  · intro i b l hb hl
    rcases hsplit i b l hb hl with ⟨a1, a2, a3⟩ | ⟨j, b0, rfl, a2, rfl, a4⟩
    · exact (hother i b l a1 a2 a3).2
    · exact hcallee j b0 l a2 a4
  · intro i j bi bj li lj hne hbi hbj hli hlj mi mj ri oi si rj oj sj hi hj e
    have hmut : ∀ (j : Nat) (b0 : Blk) (l : BL), h'[j]? = some b0 → L'[j]? = some l → b0.mode ≠ 2 → ∀ rb ro sz, l.loc = some (rb, ro, sz) → ¬ F' rb := fun j b0 l hb hl hm rb ro sz hloc => by
      obtain ⟨_, _, r3⟩ := hr'.blk j b0 l hb hl
      rw [hloc] at r3
      obtain ⟨arr, e, fz, q1, q2, q3, q4, q5, q6⟩ := r3
      rw [if_neg hm] at q6
      exact q6
    have emode : ∀ b : Blk, (renB g b).mode = b.mode := fun b => by unfold renB; split <;> rfl
    rcases hsplit i bi li hbi hli with ⟨a1, a2, a3⟩ | ⟨i', b0, rfl, a2, rfl, a4⟩ <;> rcases hsplit j bj lj hbj hlj with ⟨c1, c2, c3⟩ | ⟨j', b1, rfl, c2, rfl, c4⟩
    · exact hr.inj i j bi bj li lj hne a2 c2 a3 c3 mi mj _ _ _ _ _ _ hi hj e
    · rw [emode] at mj
      exact hmut j' b1 lj c2 c4 mj _ _ _ hj (e ▸ hx.mF _ ((hother i bi li a1 a2 a3).1 _ _ _ hi))
    · rw [emode] at mi
      exact hmut i' b0 li a2 a4 mi _ _ _ hi (e ▸ hx.mF _ ((hother j bj lj c1 c2 c3).1 _ _ _ hj))
    · rw [emode] at mi mj
      exact hr'.inj i' j' b0 b1 li lj (fun e => hne (by rw [e])) a2 c2 a4 c4 mi mj _ _ _ _ _ _ hi hj e
  · intro q k hq
    simp only [Rn] at hq
    split at hq
    · exact .inl (hr.RF _ _ hq)
    · rename_i hqr
      by_cases h0 : q = 0
      · subst h0; exact .inr hq
      · exact .inl (hr.RF _ _ ((hRq q k h0 hqr).1 hq))
  · rintro k (hF | h0)
    · exact Nat.lt_of_lt_of_le (hr.Flt k hF) hx.size
    · exact hr'.Flt k (hr'.RF _ _ h0)

theorem PCE.frame {P : Program} {f : Nat} {pargs pargs' : List PV} {h hI : List Blk} {Φ K : PV → List Blk → Prop} (I : List Nat) (r : Nat) (hr0 : r ≠ 0) (hn : I.Nodup) (spec : PCE P f pargs' hI Φ)
    (hargs : PresL h I r pargs' pargs) (hblk : PresH h I I hI)
    (hk : ∀ v h', Φ v h' → noReg r v ∧ noRegB r h' ∧ K (ren (gOf I h.length) v) (merge h I (h'.map (renB (gOf I h.length))))) : PCE P f pargs h K :=
  ⟨spec.1, spec.2.frame I r hr0 hn hargs hblk hk⟩
end Go.Fw
