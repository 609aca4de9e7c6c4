/- Regions whose orders differ: reserved blocks for what is made, and a tree of the orders. -/
import Derived.Test.YtaloakmffdejgaaFwV
set_option linter.unusedVariables false
namespace Go.Fw
open Go

abbrev Rsv := List (Nat × Nat)
def rsvOf (ρ : Rsv) (dst : Option Nat) : Option Nat :=
  match dst with
  | none => none
  | some d => ρ.lookup d

/-- A new block's content, and the value that leads to it. -/
def newB (T : Tab) (op : Op) (t : Nat → PV) (b : Nat) : Option (PV × Blk) :=
  match op with
  | .box _ x => if nuk (ev t x) then some (.ptr b 1 0, ⟨1, 1, false, cellsOf (ev t x)⟩) else none
  | .alloc e =>
    match T e with
    | some r => some (.ptr b 1 0, ⟨1, 1, false, cellsOf (ofV r.zero)⟩)
    | none => none
  | .makeSlice ty l c =>
    match T ty with
    | some { kind := .slice e, .. } =>
      match T e with
      | some re =>
        match ev t l, ev t c with
        | .int _ l, .int _ c => if 0 ≤ l ∧ l ≤ c ∧ c ≤ 281474976710656 ∧ re.bytes * c ≤ 281474976710656 then some (.sl b 1 re.size 0 l.toNat, ⟨1, 0, true, zer (cellsOf (ofV re.zero)) l.toNat⟩) else none
        | _, _ => none
      | none => none
    | _ => none
  | .buildSlice ty n ps =>
    match T ty with
    | some { kind := .slice e, .. } =>
      match T e with
      | some re =>
        if n * re.size ≤ 16777216 ∧ (evp t ps.toList).all (fun p => nuk p.2) = true then
          match fillP (fun i => some (i * re.size, re.size)) (zer (cellsOf (ofV re.zero)) n) (evp t ps.toList) with
          | some cells => if cells.all clo then some (.sl b 1 re.size 0 n, ⟨1, 0, true, cells⟩) else some (.sl b 1 re.size 0 n, ⟨1, 0, false, cells⟩)
          | none => none
        else none
      | none => none
    | _ => none
  | _ => none

def hopAt (T : Tab) (b : Nat) (op : Op) (s : St) : Option (PV × List Blk) :=
  match s.h[b]? with
  | some bl =>
    if bl.ver = 0 ∧ bl.mode ≠ 2 ∧ bl.cells.isEmpty = true then
      match newB T op s.t b with
      | some (v, nb) => some (v, s.h.set b nb)
      | none => none
    else none
  | none => none

theorem newB_ver {T : Tab} {op : Op} {t : Nat → PV} {b : Nat} {v : PV} {nb : Blk} (h : newB T op t b = some (v, nb)) : nb.ver = 1 ∧ nb.mode ≠ 2 ∧ calle op = none := by
  unfold newB at h
  split at h
  · split at h
    · injection h with h; injection h with _ e; subst e; exact ⟨rfl, by simp, rfl⟩
    · cases h
  · split at h
    · injection h with h; injection h with _ e; subst e; exact ⟨rfl, by simp, rfl⟩
    · cases h
  · split at h
    · split at h
      · split at h
        · split at h
          · injection h with h; injection h with _ e; subst e; exact ⟨rfl, by simp, rfl⟩
          · cases h
        · cases h
      · cases h
    · cases h
  · split at h
    · split at h
      · split at h
        · split at h
          · split at h
            · injection h with h; injection h with _ e; subst e; exact ⟨rfl, by simp, rfl⟩
            · injection h with h; injection h with _ e; subst e; exact ⟨rfl, by simp, rfl⟩
          · cases h
        · cases h
      · cases h
    · cases h
  · cases h

/-- A block of one's own is laid anew. -/
theorem HR.anew {w : World} {F : Nat → Prop} {R : Reg} {L : List BL} {h : List Blk} (hr : HR w F R L h) {i : Nat} {b : Blk} (hb : h[i]? = some b) (hm : b.mode ≠ 2) (hv : b.ver = 0) (arr : Array Value) (e : Nat) (mode : Nat) (cl : Bool) (cells : List PV) (hm2 : mode ≠ 2)
    (hlen : cells.length ≤ arr.size) (hc : CR w R L cl cells (fun i => arr[i]?)) :
    ∃ L', L'[i]? = some ⟨1, some (w.heap.size, 0, arr.size)⟩ ∧ Ext w F R (w.alloc (.cells arr e)) F R ∧ LLe L L' ∧ HR (w.alloc (.cells arr e)) F R L' (h.set i ⟨1, mode, cl, cells⟩) := by
  obtain ⟨l, hl, hlv⟩ := hr.get hb
  have hi : i < L.length := (List.getElem?_eq_some_iff.1 hl).1
  refine ⟨L.set i ⟨1, some (w.heap.size, 0, arr.size)⟩, by simp [hi], ?_⟩
  exact hr.upd (w' := w.alloc (.cells arr e)) (b' := ⟨1, mode, cl, cells⟩) (l' := ⟨1, some (w.heap.size, 0, arr.size)⟩) hb hl hm (by simp only; omega) (fun e => by simp only at e; omega) (by simp) rfl rfl rfl
    (fun k hk _ => heap_alloc_lt w _ _ hk) (fun rb ro sz h' => by simp at h'; right; omega) hm2 rfl
    (fun hext hle => ⟨arr, e, (0, 0), heap_alloc_at w _, rfl, fun o _ h => absurd h (Nat.not_lt_zero _), by simpa using hlen, by
      have := hc.ext (g' := fun i => arr[0 + i]?) hr.RF hext hle (fun j u hu => by simpa using hu)
      exact this⟩)

theorem VR_ptrAt {w : World} {R : Reg} {L : List BL} {b rb sz : Nat} (h : L[b]? = some ⟨1, some (rb, 0, sz)⟩) : VR w R L (.ptr b 1 0) (.pointer (some ⟨rb, 0, none⟩)) := by
  rw [VR]
  exact ⟨_, h, Nat.le_refl _, rb, 0, rfl, fun _ => ⟨0, sz, rfl, rfl⟩⟩
theorem VR_slAt {w : World} {R : Reg} {L : List BL} {b rb sz n cap k : Nat} (h : L[b]? = some ⟨1, some (rb, 0, sz)⟩) (hn : n ≤ cap) (hk : cap * k = sz) : VR w R L (.sl b 1 k 0 n) (.slice (some ⟨rb, 0, none⟩) n cap) := by
  rw [VR]
  exact ⟨_, h, Nat.le_refl _, _, cap, rfl, hn, .inr ⟨rb, 0, rfl, fun _ => ⟨0, sz, rfl, rfl, by omega⟩⟩⟩

theorem VRs_clo {w : World} {R : Reg} {L : List BL} {cs : List PV} {g : Nat → Option Value} (hc : cs.all clo = true) (h : VRs w R L cs g) : VRs w (R0 R) [] cs g := by
  rw [VRs_iff] at h ⊢
  intro i c hi
  obtain ⟨u, hu, hv⟩ := h i c hi
  exact ⟨u, hu, VR_clo (List.all_eq_true.1 hc c (List.mem_of_getElem? hi)) hv⟩

theorem hopAt_sound {P : Program} {T : Tab} (hT : TOk P T) {L : List BL} {F : Nat → Prop} {R : Reg} {s : St} {a : Act} {w : World} (hs : SR L F R s a w) {o : Oper} {b : Nat} {r : PV} {h' : List Blk} (h : hopAt T b o.op s = some (r, h')) :
    ∃ w' L' z, (execOp a.eval o).run P w = .ok (.value z) w' ∧ Ext w F R w' F R ∧ LLe L L' ∧ HR w' F R L' h' ∧ VR w' R L' r z := by
  have hv := VR_ev hs
  obtain ⟨dst, op, type, pos, after, guard⟩ := o
  simp only at h
  unfold hopAt at h
  split at h
  case h_2 => cases h
  rename_i bl hbl
  split at h
  case isFalse => cases h
  rename_i hg
  obtain ⟨g1, g2, g3⟩ := hg
  split at h
  case h_2 => cases h
  rename_i v nb hn
  injection h with h
  injection h with e1 e2
  subst e1 e2
  have hr := hs.hr
  unfold newB at hn
  split at hn
  · rename_i e x
    split at hn
    case isFalse => cases hn
    rename_i hnk
    injection hn with hn
    injection hn with e1 e2
    subst e1 e2
    obtain ⟨z1, z2⟩ := VR_cells (hv x) hnk
    obtain ⟨L', l1, l2, l3, l4⟩ := hr.anew hbl g2 g1 (a.eval x).cells e 1 false (cellsOf (ev s.t x)) (by decide) (by omega) (by simpa [CR] using z2)
    exact ⟨_, L', _, by simp [execOp, Instr.box, newVar, newRow], l2, l3, l4, VR_ptrAt l1⟩
  · rename_i e
    split at hn
    case h_2 => cases hn
    rename_i tr h1
    injection hn with hn
    injection hn with e1 e2
    subst e1 e2
    have ht := hT _ _ h1
    obtain ⟨z2, z1⟩ := VRs_zero w R L tr.zero
    obtain ⟨L', l1, l2, l3, l4⟩ := hr.anew hbl g2 g1 tr.zero.cells e 1 false (cellsOf (ofV tr.zero)) (by decide) (by omega) (by simpa [CR] using z2)
    refine ⟨_, L', _, ?_, l2, l3, l4, VR_ptrAt l1⟩
    simp [execOp, Instr.alloc, newVar, newRow, ht.zero]
  · rename_i ty l c
    split at hn
    case h_2 => cases hn
    rename_i e z0 h1
    have k1 := (hT _ _ h1).kind
    simp only [KOk] at k1
    split at hn
    case h_2 => cases hn
    rename_i re h2
    have ht := hT _ _ h2
    obtain ⟨i', hi, hby, hsz, hz⟩ := ht.info
    split at hn
    case h_2 => cases hn
    rename_i kl l' kc c' hel hec
    have hvl := hv l
    have hvc := hv c
    rw [hel, VR] at hvl
    rw [hec, VR] at hvc
    split at hn
    case isFalse => cases hn
    rename_i hc
    injection hn with hn
    injection hn with e1 e2
    subst e1 e2
    have hzz : VRs w (R0 R) [] (zer (cellsOf (ofV re.zero)) l'.toNat) (fun i => (madeCells re.zero.cells (c'.toNat * i'.size))[i]?) := by
      refine VRs_zer re.zero l'.toNat _ ?_
      rw [ht.zsz, ← hsz]
      exact Nat.mul_le_mul_right _ (by omega)
    have hlen : (zer (cellsOf (ofV re.zero)) l'.toNat).length = l'.toNat * i'.size := by
      rw [zer_length, (VRs_zero w R L re.zero).2, ht.zsz, hsz]
    have hle : l'.toNat * i'.size ≤ c'.toNat * i'.size := Nat.mul_le_mul_right _ (by omega)
    have hmz : (madeCells re.zero.cells (c'.toNat * i'.size)).size = c'.toNat * i'.size := size_madeCells _ _
    obtain ⟨L', l1, l2, l3, l4⟩ := hr.anew hbl g2 g1 (madeCells re.zero.cells (c'.toNat * i'.size)) e 0 true (zer (cellsOf (ofV re.zero)) l'.toNat) (by decide) (by rw [hlen, hmz]; exact hle) (by simpa [CR] using hzz)
    have hrun := run_make (P := P) w ty e i' re.zero k1 hi hz kl kc l' c' hc.1 hc.2.1 (by rw [hby]; exact hc.2.2.2) (by omega)
    refine ⟨_, L', .slice (some ⟨w.heap.size, 0, none⟩) l'.toNat c'.toNat, ?_, l2, l3, l4, VR_slAt l1 (by omega) (by rw [hmz, hsz])⟩
    simp [execOp, hvl, hvc, hrun]
  · rename_i ty n ps
    split at hn
    case h_2 => cases hn
    rename_i e z0 h1
    have k1 := (hT _ _ h1).kind
    simp only [KOk] at k1
    split at hn
    case h_2 => cases hn
    rename_i re h2
    have ht := hT _ _ h2
    split at hn
    case isFalse => cases hn
    rename_i hsz
    have hall := hsz.2
    simp only [List.all_eq_true] at hall
    split at hn
    case h_2 => cases hn
    rename_i cells hcells
    have hp : ∀ (i : Nat) (p : Nat × PV) (v : Nat × Value), (evp s.t ps.toList)[i]? = some p → (ps.map fun (i, x) => (i, a.eval x))[i]? = some v → p.1 = v.1 ∧ VR w R L p.2 v.2 := by
      intro i p v h1 h2
      simp only [evp_eq, List.getElem?_map, Option.map_eq_some_iff] at h1
      simp only [Array.getElem?_map, Option.map_eq_some_iff] at h2
      obtain ⟨z, hz, rfl⟩ := h1
      obtain ⟨z', hz', rfl⟩ := h2
      have : z = z' := by simp at hz; rw [hz] at hz'; exact Option.some.inj hz'
      subst this
      exact ⟨rfl, hv _⟩
    generalize hvs : (ps.map fun (i, x) => (i, a.eval x)) = vs at hp
    have hpl : (evp s.t ps.toList).length = vs.size := by rw [← hvs]; simp [evp_eq]
    have hz : VRs w R L (zer (cellsOf (ofV re.zero)) n) (fun i => ((Array.range (n * re.size)).map (fun i => re.zero.cells[i % re.zero.cells.size]!))[i]?) :=
      VRs_zer re.zero n _ (by rw [ht.zsz]; exact Nat.le_refl _)
    have hzl : (zer (cellsOf (ofV re.zero)) n).length = n * re.size := by
      rw [zer_length, (VRs_zero w R L re.zero).2, ht.zsz]
    obtain ⟨rv, e1, e2, e3⟩ := fillP_sound (w := w) (R := R) (L := L) _ (evp s.t ps.toList) vs.toList _ cells _ (by simpa using hpl)
      (fun i p v h1 h2 => ⟨(hp i p v h1 (by simpa using h2)).1, (hp i p v h1 (by simpa using h2)).2, hall p (List.mem_of_getElem? h1)⟩) (by simp [hzl]) hz hcells
    have hcl := fillP_length _ _ _ _ hcells
    have hrv : rv.size = n * re.size := by rw [e2, hcl, hzl]
    have hrun : (Instr.buildSlice ty n vs).run P w = .ok (.slice (some ⟨w.heap.size, 0, none⟩) n n) (w.alloc (.cells rv e)) := by
      have hlt : ¬ n * re.size > 16777216 := by omega
      unfold Instr.buildSlice
      simp only [Sem.run_bind, run_underlying k1, Result.andThen_ok, ht.size]
      rw [if_neg (by simpa using hlt)]
      by_cases h0 : n * re.size = 0
      · rw [if_pos h0]
        have hr0 : Instr.fill (fun i => some (i * re.size, re.size)) ((Array.range (n * re.size)).map (fun i => (#[] : Array Value)[i % (#[] : Array Value).size]!)) vs.toList = some rv := by
          have : (Array.range (n * re.size)).map (fun i => (#[] : Array Value)[i % (#[] : Array Value).size]!) = (Array.range (n * re.size)).map (fun i => re.zero.cells[i % re.zero.cells.size]!) := by
            rw [h0]; simp
          rw [this]; exact e1
        simp only [Sem.run_bind, Sem.run_pure, Result.andThen_ok, hr0, newRow, run_newObj, bind_pure_comp, Sem.run_map]
        rfl
      · rw [if_neg h0]
        simp only [Sem.run_bind, Sem.run_pure, Result.andThen_ok, ht.zero, e1, newRow, run_newObj, bind_pure_comp, Sem.run_map]
        rfl
    split at hn
    · rename_i hclo
      injection hn with hn
      injection hn with q1 q2
      subst q1 q2
      obtain ⟨L', l1, l2, l3, l4⟩ := hr.anew hbl g2 g1 rv e 0 true cells (by decide) (by omega) (by simpa [CR] using VRs_clo hclo e3)
      exact ⟨_, L', _, by simp [execOp, hvs, hrun], l2, l3, l4, VR_slAt l1 (Nat.le_refl _) (by rw [hrv])⟩
    · injection hn with hn
      injection hn with q1 q2
      subst q1 q2
      obtain ⟨L', l1, l2, l3, l4⟩ := hr.anew hbl g2 g1 rv e 0 false cells (by decide) (by omega) (by simpa [CR] using e3)
      exact ⟨_, L', _, by simp [execOp, hvs, hrun], l2, l3, l4, VR_slAt l1 (Nat.le_refl _) (by rw [hrv])⟩
  · cases hn

def stepD (P : Program) (T : Tab) (ρ : Rsv) (ops : Array Oper) (o : Oper) (s : St) (K : St → Prop) : Prop :=
  match rsvOf ρ o.dst with
  | none => step1 P T ops o s K
  | some b =>
    if dok o.dst s.n then
      match gd ops s.t o with
      | some true =>
        match hopAt T b o.op s with
        | some (v, h') => K (s.put o.dst v h')
        | none => False
      | some false => K (s.put o.dst (.tup []) s.h)
      | none => False
    else False

def popsD (P : Program) (T : Tab) (ρ : Rsv) (ops : Array Oper) : List Oper → St → (St → Prop) → Prop
  | [], s, K => K s
  | o :: os, s, K => stepD P T ρ ops o s fun s' => popsD P T ρ ops os s' K

theorem stepD_mono {P : Program} {T : Tab} {ρ : Rsv} {ops : Array Oper} {o : Oper} {s : St} {K K' : St → Prop} (h : stepD P T ρ ops o s K) (hk : ∀ s', K s' → K' s') : stepD P T ρ ops o s K' := by
  unfold stepD at h ⊢
  split at h
  · exact step1_mono h hk
  · split at h
    case isFalse => cases h
    rename_i hd
    rw [if_pos hd]
    split at h
    · split at h
      · exact hk _ h
      · cases h
    · exact hk _ h
    · cases h

theorem popsD_mono {P : Program} {T : Tab} {ρ : Rsv} {ops : Array Oper} {K K' : St → Prop} : ∀ (os : List Oper) (s : St), popsD P T ρ ops os s K → (∀ s', K s' → K' s') → popsD P T ρ ops os s K'
  | [], s, h, hk => hk s h
  | o :: os, s, h, hk => stepD_mono h fun s' h' => popsD_mono os s' h' hk

theorem popsD_app {P : Program} {T : Tab} {ρ : Rsv} {ops : Array Oper} {K : St → Prop} : ∀ (l1 l2 : List Oper) (s : St), popsD P T ρ ops (l1 ++ l2) s K = popsD P T ρ ops l1 s (fun s' => popsD P T ρ ops l2 s' K)
  | [], l2, s => rfl
  | o :: l1, l2, s => by
    show stepD P T ρ ops o s _ = stepD P T ρ ops o s _
    congr 1
    funext s'
    exact popsD_app l1 l2 s'

theorem stepD_sound {P : Program} {T : Tab} (hT : TOk P T) {ρ : Rsv} {ops : Array Oper} {L : List BL} {F : Nat → Prop} {R : Reg} {s : St} {a : Act} {w : World} (hs : SR L F R s a w) {o : Oper} {K : St → Prop} (h : stepD P T ρ ops o s K)
    (Q : Exit → Act → World → Prop) :
    if Region.wanted o (yielded ops a.tmps) then o.wp P a w (NX L F R w K) Q ∨ (o.asks P a w ∧ LetsOut Q) else NX L F R w K (a.put o.dst undef) w := by
  unfold stepD at h
  split at h
  · exact step1_sound hT hs h Q
  · rename_i b hb
    split at h
    case isFalse => cases h
    rename_i hd
    split at h
    · rename_i hg
      rw [gd_wanted hs hg]
      simp only [if_true]
      left
      split at h
      · rename_i v h' hh
        obtain ⟨w', L', z, hrun, hx, hl, hr, hv⟩ := hopAt_sound hT hs hh
        unfold Oper.wp
        rw [hrun]
        exact ⟨_, L', F, R, h, hx, hl, hs.put hx hl hr hd hv⟩
      · cases h
    · rename_i hg
      rw [gd_wanted hs hg]
      simp only [Bool.false_eq_true, if_false]
      exact ⟨_, L, F, R, h, Ext.refl _ _ _, LLe.refl _, hs.put (Ext.refl _ _ _) (LLe.refl _) hs.hr hd (by rw [VR]; exact ⟨#[], rfl, rfl, trivial⟩)⟩
    · cases h

/-- 0: touches no memory; 1: reads; 3: makes, in a block that is reserved; 2: all else. -/
def kD (ρ : Rsv) (o : Oper) : Nat := match rsvOf ρ o.dst with
  | some _ => 3
  | none => kindOf o.op

def indepD (ρ : Rsv) (ops : Array Oper) (x y : Oper) : Bool :=
  x.apart ops y && (kD ρ x == 0 || kD ρ y == 0 || ((kD ρ x == 1 || kD ρ x == 3) && (kD ρ y == 1 || kD ρ y == 3)))

theorem indepD_spec {ρ : Rsv} {ops : Array Oper} {x y : Oper} (h : indepD ρ ops x y = true) :
    (∀ d, x.dst = some d → d ∉ y.looksAt ops) ∧ (∀ d, x.dst = some d → y.dst ≠ some d) ∧ (∀ d, y.dst = some d → d ∉ x.looksAt ops) ∧ (kD ρ x = 0 ∨ kD ρ y = 0 ∨ ((kD ρ x = 1 ∨ kD ρ x = 3) ∧ (kD ρ y = 1 ∨ kD ρ y = 3))) := by
  unfold indepD at h
  simp only [Bool.and_eq_true, Bool.or_eq_true, beq_iff_eq] at h
  obtain ⟨h1, h2, h3⟩ := Oper.apart_spec h.1
  exact ⟨h1, h2, h3, by rcases h.2 with (h | h) | h <;> simp [h]⟩

/-- What a step comes to, where it is no call. -/
def stF (T : Tab) (ρ : Rsv) (ops : Array Oper) (o : Oper) (s : St) : Option (PV × List Blk) :=
  match gd ops s.t o with
  | some true =>
    match rsvOf ρ o.dst with
    | some b => hopAt T b o.op s
    | none => hop T o.op s
  | some false => some (.tup [], s.h)
  | none => none

theorem stepD_det {P : Program} {T : Tab} {ρ : Rsv} {ops : Array Oper} {o : Oper} {s : St} {K : St → Prop} (hk : kD ρ o ≠ 2) :
    stepD P T ρ ops o s K ↔ dok o.dst s.n = true ∧ ∃ z, stF T ρ ops o s = some z ∧ K (s.put o.dst z.1 z.2) := by
  unfold stepD stF
  unfold kD at hk
  cases hr : rsvOf ρ o.dst with
  | some b =>
    simp only
    by_cases hd : dok o.dst s.n = true
    · rw [if_pos hd]
      cases hg : gd ops s.t o with
      | none => simp
      | some bo =>
        cases bo with
        | false => simp [hd]
        | true =>
          cases hh : hopAt T b o.op s with
          | none => simp
          | some z => simp [hd]
    · rw [if_neg hd]; simp [hd]
  | none =>
    rw [hr] at hk
    simp only at hk ⊢
    have hk1 : kindOf o.op ≤ 1 := by
      have : kindOf o.op ≤ 2 := by unfold kindOf; split <;> omega
      omega
    unfold step1
    rw [calle_quiet hk1]
    by_cases hd : dok o.dst s.n = true
    · rw [if_pos hd]
      cases hg : gd ops s.t o with
      | none => simp
      | some bo =>
        cases bo with
        | false => simp [hd]
        | true =>
          cases hh : hop T o.op s with
          | none => simp
          | some z => simp [hd]
    · rw [if_neg hd]; simp [hd]

theorem stF_quiet {T : Tab} {ρ : Rsv} {ops : Array Oper} {o : Oper} {s : St} {z : PV × List Blk} (hk : kD ρ o ≤ 1) (h : stF T ρ ops o s = some z) : z.2 = s.h := by
  unfold stF at h
  unfold kD at hk
  cases hr : rsvOf ρ o.dst with
  | some b => rw [hr] at hk; simp at hk
  | none =>
    rw [hr] at hk h
    split at h
    · exact hop_quiet hk (v := z.1) (h' := z.2) h
    · injection h with h; subst h; rfl
    · cases h

theorem newB_congr {T : Tab} {op : Op} {t t' : Nat → PV} {b : Nat} (h : ∀ x ∈ op.operands, ev t x = ev t' x) : newB T op t b = newB T op t' b := by
  unfold newB
  split <;> simp only [Op.operands] at h
  · rw [h _ (by simp)]
  · rfl
  · rw [h _ (by simp), h _ (by simp)]
  · rename_i ps
    rw [evp_congr ps.toList fun y hy => h y.2 (by simp at hy ⊢; exact ⟨y.1, hy⟩)]
  · rfl

theorem kind1 {op : Op} (hk : kindOf op = 1) : (∃ t x, op = .load t x) ∨ ∃ t x lo hi mx, op = .slice t x lo (some hi) mx := by
  unfold kindOf at hk
  split at hk <;> simp at hk
  · exact .inl ⟨_, _, rfl⟩
  · exact .inr ⟨_, _, _, _, _, rfl⟩

/-- What is read from. -/
def readX (op : Op) : Option Operand :=
  match op with
  | .load _ x => some x
  | .slice _ x _ _ _ => some x
  | _ => none

/-- What is read from the memory, where it is read. -/
theorem hop_read {T : Tab} {op : Op} {s s2 : St} (hk : kindOf op = 1) (he : ∀ x ∈ op.operands, ev s2.t x = ev s.t x)
    (hh : ∀ x b ver, readX op = some x → ((∃ off, ev s.t x = .ptr b ver off) ∨ ∃ k off n, ev s.t x = .sl b ver k off n) → s2.h[b]? = s.h[b]?) :
    (hop T op s2).map (·.1) = (hop T op s).map (·.1) := by
  rcases kind1 hk with ⟨t, x, rfl⟩ | ⟨t, x, lo, hi, mx, rfl⟩
  · simp only [Op.operands] at he
    simp only [hop, Option.map_map]
    have hx := he x (by simp)
    have hhx := fun b ver => hh x b ver rfl
    rw [hx]
    unfold ld
    split
    · split
      · rename_i b ver off heq
        rw [hhx b ver (.inl ⟨off, heq⟩)]
        cases hb : s.h[b]? with
        | none => rfl
        | some bl => rfl
      · rfl
      · rfl
    · rfl
  · have hsil : sil T (.slice t x lo (some hi) mx) s2.t = sil T (.slice t x lo (some hi) mx) s.t := sil_congr he
    simp only [Op.operands] at he
    have hx := he x (by simp)
    have hhi := he hi (by simp)
    have hlo : evo s2.t lo = evo s.t lo := evo_congr _ fun y hy => he y (by subst hy; simp)
    cases mx with
    | some mx =>
      simp only [hop, hsil]
      cases sil T (.slice t x lo (some hi) (some mx)) s.t <;> rfl
    | none =>
      simp only [hop, hsil]
      cases sil T (.slice t x lo (some hi) none) s.t with
      | some v => rfl
      | none =>
        simp only [hx, hlo, hhi, Option.map_map]
        have hhx := fun b ver => hh x b ver rfl
        unfold slB
        split
        · split
          · split
            · rename_i b ver k off n heq
              rw [hhx b ver (.inr ⟨k, off, n, heq⟩)]
              cases hb : s.h[b]? with
              | none => rfl
              | some bl =>
                simp only
                split
                · split <;> rfl
                · rfl
            · rfl
          · rfl
        · rfl

/-- What a read gives hangs on no reserved block that is still empty, nor on what is laid there. -/
theorem read_apart {T : Tab} {op : Op} {L : List BL} {F : Nat → Prop} {R : Reg} {s s2 : St} {a : Act} {w : World} (hs : SR L F R s a w) (hk : kindOf op = 1) (he : ∀ x ∈ op.operands, ev s2.t x = ev s.t x) {b : Nat} {bl nb : Blk} (hb : s.h[b]? = some bl) (hv : bl.ver = 0) (hnb : nb.ver = 1) (hh : s2.h = s.h.set b nb) {v : PV}
    (h : (hop T op s2).map (·.1) = some v) : (hop T op s).map (·.1) = some v := by
  have hlt : b < s.h.length := (List.getElem?_eq_some_iff.1 hb).1
  have hb2 : s2.h[b]? = some nb := by rw [hh]; simp [hlt]
  have hne : ∀ b', b' ≠ b → s2.h[b']? = s.h[b']? := fun b' hb' => by rw [hh, List.getElem?_set_ne (by omega)]
  have hver : ∀ x ver, ((∃ off, ev s.t x = .ptr b ver off) ∨ ∃ k off n, ev s.t x = .sl b ver k off n) → ver ≤ 0 := by
    intro x ver hx
    obtain ⟨l, hl, hlv⟩ := hs.hr.get hb
    rcases hx with ⟨off, hx⟩ | ⟨k, off, n, hx⟩
    · have := VR_ev hs x
      rw [hx, VR] at this
      obtain ⟨l', hl', hle, _⟩ := this
      rw [hl] at hl'; injection hl' with e; subst e; omega
    · have := VR_ev hs x
      rw [hx, VR] at this
      obtain ⟨l', hl', hle, _⟩ := this
      rw [hl] at hl'; injection hl' with e; subst e; omega
  rcases kind1 hk with ⟨t, x', rfl⟩ | ⟨t, x', lo, hi, mx, rfl⟩
  · rw [← h]
    symm
    refine hop_read hk he fun x b' ver hx hxv => hne b' fun e => ?_
    subst e
    have hv0 := hver x ver hxv
    injection hx with hx; subst hx
    simp only [Op.operands] at he
    have hxx := he x' (by simp)
    rcases hxv with ⟨off, hp⟩ | ⟨k, off, n, hp⟩
    · simp only [hop, hxx, hp, ld, Option.map_map] at h
      split at h
      · simp only [hb2] at h
        rw [if_neg (by omega)] at h
        cases h
      · cases h
    · simp only [hop, hxx, hp, ld] at h
      split at h <;> cases h
  · have hsil : sil T (.slice t x' lo (some hi) mx) s2.t = sil T (.slice t x' lo (some hi) mx) s.t := sil_congr he
    cases mx with
    | some mx =>
      simp only [hop, hsil] at h ⊢
      cases hs2 : sil T (.slice t x' lo (some hi) (some mx)) s.t with
      | none => rw [hs2] at h; cases h
      | some v' => rw [hs2] at h; exact h
    | none =>
      cases hs2 : sil T (.slice t x' lo (some hi) none) s.t with
      | some v' =>
        simp only [hop, hsil, hs2] at h ⊢
        exact h
      | none =>
        rw [← h]
        symm
        refine hop_read hk he fun x b' ver hx hxv => hne b' fun e => ?_
        subst e
        have hv0 := hver x ver hxv
        injection hx with hx; subst hx
        simp only [Op.operands] at he
        have hxx := he x' (by simp)
        rcases hxv with ⟨off, hp⟩ | ⟨k, off, n, hp⟩
        · simp only [hop, hsil, hs2, hxx, hp, slB] at h
          split at h
          · split at h <;> cases h
          · cases h
        · simp only [hop, hsil, hs2, hxx, hp, slB] at h
          split at h
          · split at h
            · simp only [hb2] at h
              split at h
              · rw [if_neg (by omega)] at h; cases h
              · cases h
            · cases h
          · cases h

/-- A read that gives something at first gives the same where an empty reserved block has been laid. -/
theorem read_later {T : Tab} {op : Op} {s s2 : St} (hk : kindOf op = 1) (he : ∀ x ∈ op.operands, ev s2.t x = ev s.t x) {b : Nat} {bl nb : Blk} (hb : s.h[b]? = some bl) (hc : bl.cells = []) (hh : s2.h = s.h.set b nb) {v : PV}
    (h : (hop T op s).map (·.1) = some v) : (hop T op s2).map (·.1) = some v := by
  have hne : ∀ b', b' ≠ b → s2.h[b']? = s.h[b']? := fun b' hb' => by rw [hh, List.getElem?_set_ne (by omega)]
  have hrd : ∀ (r : TR) off, rd r [] off = none := fun r off => by
    unfold rd
    split
    · rw [if_neg]; rintro ⟨h1, h2⟩; simp at h1; omega
    · rfl
  rcases kind1 hk with ⟨t, x', rfl⟩ | ⟨t, x', lo, hi, mx, rfl⟩
  · rw [← h]
    refine hop_read hk he fun x b' ver hx hxv => hne b' fun e => ?_
    subst e
    injection hx with hx; subst hx
    rcases hxv with ⟨off, hp⟩ | ⟨k, off, n, hp⟩
    · simp only [hop, hp, ld, Option.map_map] at h
      split at h
      · simp only [hb, hc, hrd] at h
        split at h <;> cases h
      · cases h
    · simp only [hop, hp, ld] at h
      split at h <;> cases h
  · have hsil : sil T (.slice t x' lo (some hi) mx) s2.t = sil T (.slice t x' lo (some hi) mx) s.t := sil_congr he
    cases mx with
    | some mx =>
      simp only [hop, hsil] at h ⊢
      cases hs2 : sil T (.slice t x' lo (some hi) (some mx)) s.t with
      | none => rw [hs2] at h; cases h
      | some v' => rw [hs2] at h; exact h
    | none =>
      cases hs2 : sil T (.slice t x' lo (some hi) none) s.t with
      | some v' =>
        simp only [hop, hsil, hs2] at h ⊢
        exact h
      | none =>
        rw [← h]
        refine hop_read hk he fun x b' ver hx hxv => hne b' fun e => ?_
        subst e
        injection hx with hx; subst hx
        rcases hxv with ⟨off, hp⟩ | ⟨k, off, n, hp⟩
        · simp only [hop, hs2, hp, slB] at h
          split at h
          · split at h <;> cases h
          · cases h
        · simp only [hop, hs2, hp, slB] at h
          split at h
          · split at h
            · simp only [hb, hc] at h
              split at h
              · rename_i l u _ _
                rw [if_neg] at h
                · cases h
                · rintro ⟨_, h2, _, h4, _, h6⟩
                  have := Nat.mul_pos h2 h4
                  simp only [List.length_nil] at h6
                  omega
              · cases h
            · cases h
          · cases h

section
variable {P : Program} {T : Tab} {ρ : Rsv} {ops : Array Oper}

theorem kD_none {o : Oper} (hk : kD ρ o ≠ 3) : rsvOf ρ o.dst = none ∧ kD ρ o = kindOf o.op := by
  unfold kD at hk ⊢
  cases hr : rsvOf ρ o.dst with
  | some b => rw [hr] at hk; exact absurd rfl hk
  | none => exact ⟨rfl, rfl⟩

/-- An operation that is silent, elsewhere. -/
theorem stF_sil {o : Oper} {s s' : St} {z : PV × List Blk} (hk : kD ρ o = 0) (hg : gd ops s'.t o = gd ops s.t o) (he : ∀ x ∈ o.op.operands, ev s'.t x = ev s.t x) (h : stF T ρ ops o s = some z) : stF T ρ ops o s' = some (z.1, s'.h) := by
  have hq := stF_quiet (by omega) h
  obtain ⟨h1, h2⟩ := kD_none (ρ := ρ) (o := o) (by omega)
  unfold stF at h ⊢
  rw [hg]
  rw [h1] at h ⊢
  split at h
  · have := hop_sil (T := T) (s := s') (s' := s) (by omega) he
    simp only at h ⊢
    rw [h] at this
    cases hh : hop T o.op s' with
    | none => rw [hh] at this; cases this
    | some y =>
      rw [hh] at this
      simp at this
      have hy := hop_quiet (by omega) (v := y.1) (h' := y.2) hh
      rw [← this, ← hy]
  · injection h with h; subst h; rfl
  · cases h

/-- A read, where the memory is the same. -/
theorem stF_same {o : Oper} {s s' : St} {z : PV × List Blk} (hg : gd ops s'.t o = gd ops s.t o) (he : ∀ x ∈ o.op.operands, ev s'.t x = ev s.t x) (hh : s'.h = s.h) (h : stF T ρ ops o s = some z) : stF T ρ ops o s' = some z := by
  unfold stF at h ⊢
  rw [hg]
  split at h
  · split at h
    · rename_i b _
      unfold hopAt at h ⊢
      rw [hh, newB_congr he]; exact h
    · rw [hop_congr hh he]; exact h
  · rw [hh]; exact h
  · cases h

theorem stF_three {o : Oper} {s : St} {z : PV × List Blk} (hk : kD ρ o = 3) (h : stF T ρ ops o s = some z) : ∃ b, rsvOf ρ o.dst = some b ∧
    ((gd ops s.t o = some false ∧ z = (.tup [], s.h)) ∨ (gd ops s.t o = some true ∧ ∃ bl nb, s.h[b]? = some bl ∧ bl.ver = 0 ∧ bl.mode ≠ 2 ∧ bl.cells = [] ∧ newB T o.op s.t b = some (z.1, nb) ∧ nb.ver = 1 ∧ z.2 = s.h.set b nb)) := by
  unfold kD at hk
  cases hr : rsvOf ρ o.dst with
  | none =>
    rw [hr] at hk
    have : kindOf o.op ≤ 2 := by unfold kindOf; split <;> omega
    simp only at hk; omega
  | some b =>
    refine ⟨b, rfl, ?_⟩
    unfold stF at h
    rw [hr] at h
    split at h
    · rename_i hg
      simp only at h
      unfold hopAt at h
      split at h
      case h_2 => cases h
      rename_i bl hbl
      split at h
      case isFalse => cases h
      rename_i hc
      split at h
      case h_2 => cases h
      rename_i v nb hn
      injection h with h; subst h
      exact .inr ⟨hg, bl, nb, hbl, hc.1, hc.2.1, by simpa using hc.2.2, hn, (newB_ver hn).1, rfl⟩
    · rename_i hg
      injection h with h; subst h
      exact .inl ⟨hg, rfl⟩
    · cases h

theorem stF_mk3 {o : Oper} {s : St} {b : Nat} {bl nb : Blk} {v : PV} (hr : rsvOf ρ o.dst = some b) (hg : gd ops s.t o = some true) (hb : s.h[b]? = some bl) (h1 : bl.ver = 0) (h2 : bl.mode ≠ 2) (h3 : bl.cells = []) (hn : newB T o.op s.t b = some (v, nb)) :
    stF T ρ ops o s = some (v, s.h.set b nb) := by
  unfold stF
  rw [hg, hr]
  simp [hopAt, hb, h1, h2, h3, hn]

theorem rsvOf_inj (hρ : (ρ.map (·.2)).Nodup) {x y : Option Nat} {b : Nat} (hx : rsvOf ρ x = some b) (hy : rsvOf ρ y = some b) : ∃ d, x = some d ∧ y = some d := by
  cases x with
  | none => cases hx
  | some d =>
  cases y with
  | none => cases hy
  | some d' =>
  refine ⟨d, rfl, ?_⟩
  congr 1
  simp only [rsvOf] at hx hy
  induction ρ with
  | nil => simp at hx
  | cons p ρ ih =>
    obtain ⟨i, j⟩ := p
    simp only [List.map_cons, List.nodup_cons] at hρ
    have hmem : ∀ {e : Nat}, ρ.lookup e = some b → b ∈ ρ.map (·.2) := fun {e} h => by
      clear ih hx hy hρ
      induction ρ with
      | nil => simp at h
      | cons q ρ ih =>
        rw [List.lookup_cons] at h
        split at h
        · injection h with h; simp [h]
        · simp [ih h]
    rw [List.lookup_cons] at hx hy
    by_cases e1 : d == i
    · rw [e1] at hx
      injection hx with hx
      by_cases e2 : d' == i
      · simp at e1 e2; omega
      · rw [show (d' == i) = false by simpa using e2] at hy
        exact absurd (by rw [hx]; exact hmem hy) hρ.1
    · rw [show (d == i) = false by simpa using e1] at hx
      by_cases e2 : d' == i
      · rw [e2] at hy
        injection hy with hy
        exact absurd (by rw [hy]; exact hmem hx) hρ.1
      · rw [show (d' == i) = false by simpa using e2] at hy
        exact ih hρ.2 hx hy

/-- Two steps that are no calls, the other way round. -/
theorem comm2 (hρ : (ρ.map (·.2)).Nodup) {x o : Oper} {L : List BL} {F : Nat → Prop} {R : Reg} {s : St} {a : Act} {w : World} (hs : SR L F R s a w) (hi : indepD ρ ops x o = true) (hx2 : kD ρ x ≠ 2) (ho2 : kD ρ o ≠ 2) {z zo : PV × List Blk}
    (hx : stF T ρ ops x s = some z) (ho : stF T ρ ops o (s.put x.dst z.1 z.2) = some zo) :
    ∃ zo' z', stF T ρ ops o s = some zo' ∧ stF T ρ ops x (s.put o.dst zo'.1 zo'.2) = some z' ∧ (s.put o.dst zo'.1 zo'.2).put x.dst z'.1 z'.2 = (s.put x.dst z.1 z.2).put o.dst zo.1 zo.2 := by
  obtain ⟨i1, i2, i3, i4⟩ := indepD_spec hi
  have gx : ∀ v h, gd ops (s.put o.dst v h).t x = gd ops s.t x := fun v h => gd_put i3
  have ex : ∀ v h, ∀ y ∈ x.op.operands, ev (s.put o.dst v h).t y = ev s.t y := fun v h => ev_put i3
  have go_ : ∀ v h, gd ops (s.put x.dst v h).t o = gd ops s.t o := fun v h => gd_put i1
  have eo : ∀ v h, ∀ y ∈ o.op.operands, ev (s.put x.dst v h).t y = ev s.t y := fun v h => ev_put i1
  have fin : ∀ (v u : PV) (h1 h2 h : List Blk), (s.put o.dst v h1).put x.dst u h = (s.put x.dst u h2).put o.dst v h := fun v u h1 h2 h => put_comm fun d hd e => i2 d e hd
  have hk : kD ρ x = 0 ∨ kD ρ x = 1 ∨ kD ρ x = 3 := by
    unfold kD at hx2 ⊢
    split
    · exact .inr (.inr rfl)
    · rename_i hr
      rw [hr] at hx2
      have : kindOf x.op ≤ 2 := by unfold kindOf; split <;> omega
      simp only at hx2; omega
  have hko : kD ρ o = 0 ∨ kD ρ o = 1 ∨ kD ρ o = 3 := by
    unfold kD at ho2 ⊢
    split
    · exact .inr (.inr rfl)
    · rename_i hr
      rw [hr] at ho2
      have : kindOf o.op ≤ 2 := by unfold kindOf; split <;> omega
      simp only at ho2; omega
  by_cases ho0 : kD ρ o = 0
  · -- o is silent
    have h1 := stF_sil ho0 (go_ z.1 z.2).symm (fun y hy => (eo z.1 z.2 y hy).symm) ho
    have h2 := stF_quiet (by omega) ho
    rw [put_t.1] at h2
    refine ⟨(zo.1, s.h), z, h1, stF_same (gx _ _) (ex _ _) put_t.1 hx, ?_⟩
    rw [fin _ _ _ z.2, h2]
  by_cases hx0 : kD ρ x ≤ 1
  · have hzq := stF_quiet hx0 hx
    have h1 : stF T ρ ops o s = some zo := stF_same (go_ z.1 z.2).symm (fun y hy => (eo z.1 z.2 y hy).symm) (by rw [put_t.1, hzq]) ho
    have h2 : stF T ρ ops x (s.put o.dst zo.1 zo.2) = some (z.1, zo.2) := by
      by_cases hx00 : kD ρ x = 0
      · have := stF_sil (s' := s.put o.dst zo.1 zo.2) hx00 (gx _ _) (ex _ _) hx
        rw [put_t.1] at this
        exact this
      · have hx1 : kD ρ x = 1 := by omega
        rcases hko with e | ho1 | ho3
        · exact absurd e ho0
        · have hq := stF_quiet (by omega) h1
          have := stF_same (s' := s.put o.dst zo.1 zo.2) (gx _ _) (ex _ _) (by rw [put_t.1, hq]) hx
          rw [this, hq, ← hzq]
        · obtain ⟨b, hr, hcase⟩ := stF_three ho3 h1
          rcases hcase with ⟨_, e⟩ | ⟨hgt, bl, nb, hb, c1, c2, c3, hn, c4, c5⟩
          · have hq : zo.2 = s.h := by rw [e]
            have := stF_same (s' := s.put o.dst zo.1 zo.2) (gx _ _) (ex _ _) (by rw [put_t.1, hq]) hx
            rw [this, hq, ← hzq]
          · obtain ⟨n1, n2⟩ := kD_none (ρ := ρ) (o := x) (by omega)
            have hxx := hx
            unfold stF at hx ⊢
            rw [gx]
            rw [n1] at hx ⊢
            split at hx
            · simp only at hx ⊢
              have hl := read_later (T := T) (op := x.op) (s := s) (s2 := s.put o.dst zo.1 zo.2) (nb := nb) (v := z.1) (by omega) (ex _ _) hb c3 (by rw [put_t.1, c5]) (by rw [hx]; rfl)
              cases hh : hop T x.op (s.put o.dst zo.1 zo.2) with
              | none => rw [hh] at hl; cases hl
              | some y =>
                rw [hh] at hl
                simp at hl
                have hy := hop_quiet (by omega) (v := y.1) (h' := y.2) hh
                rw [put_t.1] at hy
                rw [← hl, ← hy]
            · injection hx with hx
              rw [put_t.1, ← hx]
            · cases hx
    refine ⟨zo, (z.1, zo.2), h1, h2, ?_⟩
    exact fin _ _ _ _ _
  · have hx3 : kD ρ x = 3 := by omega
    obtain ⟨b, hr, hcase⟩ := stF_three hx3 hx
    rcases hcase with ⟨hgf, e⟩ | ⟨hgt, bl, nb, hb, c1, c2, c3, hn, c4, c5⟩
    · have hz2 : z.2 = s.h := by rw [e]
      have h1 : stF T ρ ops o s = some zo := stF_same (go_ z.1 z.2).symm (fun y hy => (eo z.1 z.2 y hy).symm) (by rw [put_t.1, hz2]) ho
      refine ⟨zo, (z.1, zo.2), h1, ?_, fin _ _ _ _ _⟩
      unfold stF
      rw [gx, hgf, e, put_t.1]
    · rcases hko with e | ho1 | ho3
      · exact absurd e ho0
      · -- o reads
        obtain ⟨n1, n2⟩ := kD_none (ρ := ρ) (o := o) (by omega)
        have hq := stF_quiet (by omega) ho
        rw [put_t.1] at hq
        have h1 : stF T ρ ops o s = some (zo.1, s.h) := by
          unfold stF at ho ⊢
          rw [go_] at ho
          rw [n1] at ho ⊢
          split at ho
          · simp only at ho ⊢
            have hl := read_apart (T := T) (op := o.op) (s2 := s.put x.dst z.1 z.2) (nb := nb) (v := zo.1) hs (by omega) (eo _ _) hb c1 c4 (by rw [put_t.1, c5]) (by rw [ho]; rfl)
            cases hh : hop T o.op s with
            | none => rw [hh] at hl; cases hl
            | some y =>
              rw [hh] at hl
              simp at hl
              have hy := hop_quiet (by omega) (v := y.1) (h' := y.2) hh
              rw [← hl, ← hy]
          · injection ho with ho; rw [← ho]
          · cases ho
        refine ⟨(zo.1, s.h), z, h1, stF_same (gx _ _) (ex _ _) put_t.1 hx, ?_⟩
        rw [fin _ _ _ z.2, hq]
      · -- both make
        obtain ⟨b2, hr2, hcase2⟩ := stF_three ho3 ho
        have hlt : b < s.h.length := (List.getElem?_eq_some_iff.1 hb).1
        rcases hcase2 with ⟨hgf, e⟩ | ⟨hgt2, bl2, nb2, hb2, d1, d2, d3, hn2, d4, d5⟩
        · rw [go_] at hgf
          refine ⟨(.tup [], s.h), z, ?_, stF_same (gx _ _) (ex _ _) put_t.1 hx, ?_⟩
          · unfold stF; rw [hgf]
          · rw [fin _ _ _ z.2, e, put_t.1]
        · have hne : b ≠ b2 := fun e => by
            subst e
            obtain ⟨d, e1, e2⟩ := rsvOf_inj hρ hr hr2
            exact i2 d e1 e2
          rw [put_t.1, c5, List.getElem?_set_ne (by omega)] at hb2
          rw [go_] at hgt2
          rw [newB_congr (t' := s.t) (eo _ _)] at hn2
          have h1 := stF_mk3 (ρ := ρ) (ops := ops) hr2 hgt2 hb2 d1 d2 d3 hn2
          refine ⟨(zo.1, s.h.set b2 nb2), (z.1, (s.h.set b2 nb2).set b nb), h1, ?_, ?_⟩
          · have hb' : (s.put o.dst zo.1 (s.h.set b2 nb2)).h[b]? = some bl := by rw [put_t.1, List.getElem?_set_ne (by omega)]; exact hb
            have hn' : newB T x.op (s.put o.dst zo.1 (s.h.set b2 nb2)).t b = some (z.1, nb) := by rw [newB_congr (t' := s.t) (ex _ _)]; exact hn
            have := stF_mk3 (ρ := ρ) (ops := ops) (s := s.put o.dst zo.1 (s.h.set b2 nb2)) hr (by rw [gx]; exact hgt) hb' c1 c2 c3 hn'
            rw [put_t.1] at this
            exact this
          · rw [fin _ _ _ z.2, d5, put_t.1, c5, List.set_comm _ _ (by omega)]
end
end Go.Fw
