/- The operations that read, write or make memory. -/
import Derived.Test.YtaloakmffdejgaaFwC
set_option linter.unusedVariables false
namespace Go.Fw
open Go

/-- The real values behind a row of cells. -/
theorem VRs_vals {w : World} {R : Reg} {L : List BL} : ∀ (cs : List PV) (g : Nat → Option Value), VRs w R L cs g →
    ∃ vs : List Value, vs.length = cs.length ∧ (∀ (j : Nat) (v : Value), vs[j]? = some v → g j = some v) ∧ VRs w R L cs (fun i => vs[i]?)
  | [], g, h => ⟨[], rfl, by simp, by simp [VRs]⟩
  | c :: cs, g, h => by
    rw [VRs] at h
    obtain ⟨⟨u, h1, h2⟩, h3⟩ := h
    obtain ⟨vs, k1, k2, k3⟩ := VRs_vals cs _ h3
    refine ⟨u :: vs, by simp [k1], fun j v hj => ?_, ?_⟩
    · cases j with
      | zero => simp at hj; subst hj; exact h1
      | succ j => exact k2 j v (by simpa using hj)
    · rw [VRs]
      exact ⟨⟨u, by simp, h2⟩, by simpa using k3⟩

def rd (r : TR) (cs : List PV) (off : Nat) : Option PV :=
  if r.agg then (if off + r.size ≤ cs.length ∧ r.size ≠ 0 then some (.agg ((cs.drop off).take r.size)) else none) else cs[off]?

theorem rd_sound {P : Program} {t : Nat} {r : TR} (hr : TROk P t r) {w : World} {R : Reg} {L : List BL} {cs : List PV} {rb o off : Nat} {x : PV}
    (hc : VRs w R L cs (fun i => w.cell? ⟨rb, o + i, none⟩)) (h : rd r cs off = some x) :
    ∃ z, (Instr.loadAt t (.pointer (some ⟨rb, o + off, none⟩))).run P w = .ok z w ∧ VR w R L x z := by
  unfold rd at h
  split at h
  · rename_i hag
    split at h
    · rename_i hb
      replace hb := hb.1
      injection h with h; subst h
      obtain ⟨vs, h1, h2, h3⟩ := VRs_vals _ _ (hc.drop_take off r.size)
      have hlen : vs.length = r.size := by rw [h1]; simp; omega
      have hl := run_loadCells_list (P := P) w ⟨rb, o + off, none⟩ vs (fun j v hj => by
        have := h2 j v hj
        rw [Addr.add_lit]
        simpa [Nat.add_assoc] using this)
      rw [hlen] at hl
      have hag' := hr.agg w
      rw [hag] at hag'
      refine ⟨.agg vs.toArray, ?_, ?_⟩
      · simp [Instr.loadAt, Instr.sureAddr, loadVar, hag', hr.size, hl]
      · rw [VR]
        exact ⟨_, rfl, by simpa using h1, by simpa using h3⟩
    · cases h
  · rename_i hag
    rw [VRs_iff] at hc
    obtain ⟨u, hu, hv⟩ := hc off x h
    have hag' := hr.agg w
    simp only [Bool.not_eq_true] at hag
    rw [hag] at hag'
    exact ⟨u, by simp [Instr.loadAt, Instr.sureAddr, loadVar, hag', hu], hv⟩

def ld (T : Tab) (h : List Blk) (t : Nat) (x : PV) : Option PV :=
  match T t with
  | some r =>
    match x with
    | .ptr b ver off =>
      match h[b]? with
      | some bl => if ver = bl.ver then rd r bl.cells off else none
      | none => none
    | .vptr _ cs off => rd r cs off
    | _ => none
  | none => none

theorem R0_R {R : Reg} (q b : Nat) (h : R0 R q b) : R q b := by
  obtain ⟨rfl, h⟩ := h
  exact h

theorem CR.lift {w : World} {R : Reg} {L : List BL} {cl : Bool} {cs : List PV} {g : Nat → Option Value} (h : CR w R L cl cs g) : VRs w R L cs g := by
  unfold CR at h
  split at h
  · exact VRs.mono (fun _ _ _ => rfl) R0_R (LLe.nil L) cs g g h fun _ _ h => h
  · exact h

/-- A block's cells, as the machine has them. -/
theorem HR.cells {w : World} {F : Nat → Prop} {R : Reg} {L : List BL} {h : List Blk} (hr : HR w F R L h) {i : Nat} {b : Blk} {l : BL} (hb : h[i]? = some b) (hl : L[i]? = some l) {rb ro sz : Nat} (hloc : l.loc = some (rb, ro, sz)) :
    CR w R L b.cl b.cells (fun i => w.cell? ⟨rb, ro + i, none⟩) := by
  obtain ⟨h1, h2, h3⟩ := hr.blk i b l hb hl
  rw [hloc] at h3
  obtain ⟨arr, e, fz, q1, q2, q3, q4, q5, q6⟩ := h3
  have : (fun i => w.cell? ⟨rb, ro + i, none⟩) = fun i => arr[ro + i]? := by
    funext i
    simp [World.cell?, q1]
  rw [this]; exact q5

theorem HR.get {w : World} {F : Nat → Prop} {R : Reg} {L : List BL} {h : List Blk} (hr : HR w F R L h) {i : Nat} {b : Blk} (hb : h[i]? = some b) : ∃ l, L[i]? = some l ∧ l.ver = b.ver := by
  have hlt : i < h.length := (List.getElem?_eq_some_iff.1 hb).1
  have hlt' : i < L.length := by rw [hr.len]; exact hlt
  exact ⟨L[i], List.getElem?_eq_getElem hlt', (hr.blk i b _ hb (List.getElem?_eq_getElem hlt')).1⟩

theorem ld_sound {P : Program} {T : Tab} (hT : TOk P T) {w : World} {F : Nat → Prop} {R : Reg} {L : List BL} {h : List Blk} (hr : HR w F R L h) {t : Nat} {X r : PV} {u : Value} (hx : VR w R L X u) (he : ld T h t X = some r) :
    ∃ z, (Instr.loadAt t u).run P w = .ok z w ∧ VR w R L r z := by
  unfold ld at he
  split at he
  · rename_i tr h1
    have ht := hT _ _ h1
    split at he
    · rename_i b ver off
      split at he
      · rename_i bl hbl
        split at he
        · rename_i hver
          rw [VR] at hx
          obtain ⟨l, hl, hle, rb, o, rfl, hx⟩ := hx
          obtain ⟨l', hl', hv'⟩ := hr.get hbl
          have : l' = l := by rw [hl] at hl'; exact (Option.some.inj hl').symm
          subst this
          obtain ⟨ro, sz, q1, rfl⟩ := hx (by omega)
          exact rd_sound ht (hr.cells hbl hl q1).lift he
        · cases he
      · cases he
    · rename_i q cs off
      rw [VR] at hx
      obtain ⟨rb, ro, rfl, hq, hc⟩ := hx
      have hc' : VRs w R L cs (fun i => w.cell? ⟨rb, ro + i, none⟩) := VRs.mono (fun _ _ _ => rfl) R0_R (LLe.nil L) cs _ _ hc fun _ _ h => h
      exact rd_sound ht hc' he
    · cases he
  · cases he

theorem run_storeCells_any (P : Program) (g o : Nat) (t : TypeId) (fz : Nat × Nat) : ∀ (vs : List Value) (i : Nat) (cur : Array Value) (w : World), w.heap[g]? = some (.cells cur t fz) → notFrozen fz cur.size → o + i + vs.length ≤ cur.size → (∀ v ∈ vs, v.oneCell' = true) →
    (storeCells ⟨g, o, none⟩ vs i).run P w = .ok () (w.setRow g (cur.toList.take (o + i) ++ vs ++ cur.toList.drop (o + i + vs.length)).toArray)
  | [], i, cur, w, hg, _, _, _ => by
    simp only [storeCells, List.append_nil, List.length_nil, Nat.add_zero, List.take_append_drop, Array.toArray_toList]
    rw [setRow_self w g cur t fz hg]
    rfl
  | v :: rest, i, cur, w, hg, hfz, hl, h1 => by
    have hi : o + i < cur.size := by simp at hl; omega
    have hadd : (⟨g, o, none⟩ : Addr).add i = ⟨g, o + i, none⟩ := Addr.add_lit _ _ _
    have hcell : w.cell? ⟨g, o + i, none⟩ = some cur[o + i] := by simp [World.cell?, hg, hi]
    have hfro : w.frozen? ⟨g, o + i, none⟩ = false := by
      obtain ⟨lo, hi'⟩ := fz
      simp only [World.frozen?, hg, Bool.and_eq_false_iff, decide_eq_false_iff_not]
      by_cases h : lo ≤ o + i
      · right
        intro h2
        have := hfz (o + i) h h2
        omega
      · exact .inl h
    have hst : (store ((⟨g, o, none⟩ : Addr).add i) v).run P w = .ok () (w.setRow g (cur.setIfInBounds (o + i) v)) := by
      rw [hadd, run_store P w _ v _ (h1 v (by simp)), hcell]
      simp [hfro, setCell_eq_setRow w g (o + i) cur t fz v hg]
    have ih := run_storeCells_any P g o t fz rest (i + 1) (cur.setIfInBounds (o + i) v) (w.setRow g (cur.setIfInBounds (o + i) v)) (setRow_heap w g cur _ t _ hg) (by simpa using hfz) (by simp at hl ⊢; omega) (fun x hx => h1 x (by simp [hx]))
    simp only [storeCells, Sem.run_bind, hst, Result.andThen_ok, ih, setRow_setRow]
    congr 3
    have e := list_seg_step cur.toList (o + i) v rest (by simp at hl ⊢; omega)
    simpa [Array.toList_setIfInBounds, Nat.add_assoc] using e

/-- One block is written, or laid anew. -/
theorem HR.upd {w w' : World} {F : Nat → Prop} {R : Reg} {L : List BL} {h : List Blk} (hr : HR w F R L h) {i : Nat} {b b' : Blk} {l l' : BL} (hb : h[i]? = some b) (hl : L[i]? = some l) (hm : b.mode ≠ 2)
    (hv1 : l.ver ≤ l'.ver) (hv2 : l.ver = l'.ver → l'.loc = l.loc) (hs : w.heap.size ≤ w'.heap.size) (ho : w'.os = w.os) (ht : w'.tape = w.tape) (hu : w'.output = w.output)
    (hk : ∀ k, k < w.heap.size → (∀ ro sz, l.loc ≠ some (k, ro, sz)) → w'.heap[k]? = w.heap[k]?)
    (hf : ∀ rb ro sz, l'.loc = some (rb, ro, sz) → (∃ ro sz, l.loc = some (rb, ro, sz)) ∨ w.heap.size ≤ rb)
    (hm' : b'.mode ≠ 2) (hver : l'.ver = b'.ver)
    (hcr : Ext w F R w' F R → LLe L (L.set i l') → match l'.loc with
      | none => b'.cells = []
      | some (rb, ro, sz) => ∃ arr e fz, w'.heap[rb]? = some (.cells arr e fz) ∧ arr.size = sz ∧ notFrozen fz sz ∧ ro + b'.cells.length ≤ sz ∧
        CR w' R (L.set i l') b'.cl b'.cells (fun i => arr[ro + i]?)) :
    Ext w F R w' F R ∧ LLe L (L.set i l') ∧ HR w' F R (L.set i l') (h.set i b') := by
  have hi : i < h.length := (List.getElem?_eq_some_iff.1 hb).1
  have hiL : i < L.length := (List.getElem?_eq_some_iff.1 hl).1
  have hown : ∀ rb ro sz, l.loc = some (rb, ro, sz) → ¬ F rb ∧ rb < w.heap.size := fun rb ro sz hloc => by
    obtain ⟨_, _, h3⟩ := hr.blk i b l hb hl
    rw [hloc] at h3
    obtain ⟨arr, e, fz, q1, q2, q3, q4, q5, q6⟩ := h3
    rw [if_neg hm] at q6
    exact ⟨q6, (Array.getElem?_eq_some_iff.1 q1).1⟩
  have hext : Ext w F R w' F R := by
    refine ⟨fun k hF => hk k (hr.Flt k hF) fun ro sz hloc => (hown _ _ _ hloc).1 hF, hs, ho, ht, hu, fun _ h => h, fun _ h => h, fun _ _ _ => Iff.rfl, fun _ _ h => h⟩
  have hle : LLe L (L.set i l') := fun k lk hkk => by
    rw [List.getElem?_set]
    by_cases e : i = k
    · subst e
      have : lk = l := by rw [hl] at hkk; exact (Option.some.inj hkk).symm
      subst this
      exact ⟨l', by simp [hiL], hv1, hv2⟩
    · exact ⟨lk, by simp [e, hkk], Nat.le_refl _, fun _ => rfl⟩
  refine ⟨hext, hle, ⟨by simp [hr.len], ?_, ?_, hr.RF, fun k hF => Nat.lt_of_lt_of_le (hr.Flt k hF) hs⟩⟩
  · intro j bj lj hbj hlj
    rw [List.getElem?_set] at hbj hlj
    by_cases e : i = j
    · subst e
      simp [hi] at hbj
      simp [hiL] at hlj
      subst hbj hlj
      refine ⟨hver, fun e => absurd e hm', ?_⟩
      have := hcr hext hle
      cases hloc : l'.loc with
      | none => rw [hloc] at this; exact this
      | some q =>
        obtain ⟨rb, ro, sz⟩ := q
        rw [hloc] at this
        obtain ⟨arr, e, fz, q1, q2, q3, q4, q5⟩ := this
        refine ⟨arr, e, fz, q1, q2, q3, q4, q5, ?_⟩
        rw [if_neg hm']
        rcases hf rb ro sz hloc with ⟨ro', sz', h'⟩ | h'
        · exact (hown _ _ _ h').1
        · intro hF
          have := hr.Flt _ hF
          omega
    · simp [e] at hbj hlj
      obtain ⟨r1, r2, r3⟩ := hr.blk j bj lj hbj hlj
      refine ⟨r1, r2, ?_⟩
      cases hloc : lj.loc with
      | none => rw [hloc] at r3; exact r3
      | some q =>
        obtain ⟨rb, ro, sz⟩ := q
        rw [hloc] at r3
        obtain ⟨arr, et, fz, q1, q2, q3, q4, q5, q6⟩ := r3
        refine ⟨arr, et, fz, ?_, q2, q3, q4, q5.ext hr.RF hext hle fun _ _ h => h, q6⟩
        rw [hk rb (Array.getElem?_eq_some_iff.1 q1).1 ?_]
        · exact q1
        · intro ro' sz' hl'
          by_cases hmj : bj.mode = 2
          · rw [if_pos hmj] at q6
            exact (hown _ _ _ hl').1 (hr.RF _ _ q6)
          · exact hr.inj i j b bj l lj e hb hbj hl hlj hm hmj _ _ _ _ _ _ hl' hloc rfl
  · intro p q bp bq lp lq hne hbp hbq hlp hlq mp mq rp op sp rq oq sq hp hq
    rw [List.getElem?_set] at hbp hbq hlp hlq
    have hreal : ∀ j bj lj, i ≠ j → h[j]? = some bj → L[j]? = some lj → ∀ rb ro sz, lj.loc = some (rb, ro, sz) → rb < w.heap.size := fun j bj lj _ h1 h2 rb ro sz h3 => by
      obtain ⟨_, _, h4⟩ := hr.blk j bj lj h1 h2
      rw [h3] at h4
      obtain ⟨arr, e, fz, q1, _⟩ := h4
      exact (Array.getElem?_eq_some_iff.1 q1).1
    by_cases ep : i = p
    · subst ep
      have eq : i ≠ q := hne
      simp [hi] at hbp
      simp [hiL] at hlp
      simp [eq] at hbq hlq
      subst hbp hlp
      rcases hf _ _ _ hp with ⟨ro', sz', h'⟩ | h'
      · exact hr.inj i q b bq l lq eq hb hbq hl hlq hm mq _ _ _ _ _ _ h' hq
      · have := hreal q bq lq eq hbq hlq _ _ _ hq
        omega
    · simp [ep] at hbp hlp
      by_cases eq : i = q
      · subst eq
        simp [hi] at hbq
        simp [hiL] at hlq
        subst hbq hlq
        rcases hf _ _ _ hq with ⟨ro', sz', h'⟩ | h'
        · exact hr.inj p i bp b lp l (fun e => ep e.symm) hbp hb hlp hl mp hm _ _ _ _ _ _ hp h'
        · have := hreal p bp lp ep hbp hlp _ _ _ hp
          omega
      · simp [eq] at hbq hlq
        exact hr.inj p q bp bq lp lq hne hbp hbq hlp hlq mp mq _ _ _ _ _ _ hp hq

/-- A new block. -/
theorem HR.push {w w' : World} {F : Nat → Prop} {R : Reg} {L : List BL} {h : List Blk} (hr : HR w F R L h) {b : Blk} {l : BL}
    (hs : w.heap.size ≤ w'.heap.size) (ho : w'.os = w.os) (ht : w'.tape = w.tape) (hu : w'.output = w.output)
    (hk : ∀ k, k < w.heap.size → w'.heap[k]? = w.heap[k]?)
    (hf : ∀ rb ro sz, l.loc = some (rb, ro, sz) → w.heap.size ≤ rb)
    (hm : b.mode ≠ 2) (hver : l.ver = b.ver)
    (hcr : match l.loc with
      | none => b.cells = []
      | some (rb, ro, sz) => ∃ arr e fz, w'.heap[rb]? = some (.cells arr e fz) ∧ arr.size = sz ∧ notFrozen fz sz ∧ ro + b.cells.length ≤ sz ∧
        CR w R L b.cl b.cells (fun i => arr[ro + i]?)) :
    Ext w F R w' F R ∧ LLe L (L ++ [l]) ∧ HR w' F R (L ++ [l]) (h ++ [b]) := by
  have hext : Ext w F R w' F R := ⟨fun k hF => hk k (hr.Flt k hF), hs, ho, ht, hu, fun _ h => h, fun _ h => h, fun _ _ _ => Iff.rfl, fun _ _ h => h⟩
  have hle : LLe L (L ++ [l]) := fun k lk hkk => ⟨lk, by rw [List.getElem?_append_left (List.getElem?_eq_some_iff.1 hkk).1]; exact hkk, Nat.le_refl _, fun _ => rfl⟩
  have hsplit : ∀ (j : Nat) (bj : Blk) (lj : BL), (h ++ [b])[j]? = some bj → (L ++ [l])[j]? = some lj → (j < h.length ∧ h[j]? = some bj ∧ L[j]? = some lj) ∨ (j = h.length ∧ bj = b ∧ lj = l) := fun j bj lj h1 h2 => by
    have hlen := hr.len
    by_cases hj : j < h.length
    · rw [List.getElem?_append_left hj] at h1
      rw [List.getElem?_append_left (by omega)] at h2
      exact .inl ⟨hj, h1, h2⟩
    · rw [List.getElem?_append_right (by omega)] at h1 h2
      have : j = h.length := by
        have := (List.getElem?_eq_some_iff.1 h1).1
        simp at this
        omega
      subst this
      simp at h1
      rw [hlen] at h2
      simp at h2
      exact .inr ⟨rfl, h1.symm, h2.symm⟩
  have hreal : ∀ (j : Nat) (bj : Blk) (lj : BL), h[j]? = some bj → L[j]? = some lj → ∀ rb ro sz, lj.loc = some (rb, ro, sz) → rb < w.heap.size := fun j bj lj h1 h2 rb ro sz h3 => by
    obtain ⟨_, _, h4⟩ := hr.blk j bj lj h1 h2
    rw [h3] at h4
    obtain ⟨arr, e, fz, q1, _⟩ := h4
    exact (Array.getElem?_eq_some_iff.1 q1).1
  refine ⟨hext, hle, ⟨by simp [hr.len], ?_, ?_, hr.RF, fun k hF => Nat.lt_of_lt_of_le (hr.Flt k hF) hs⟩⟩
  · intro j bj lj h1 h2
    rcases hsplit j bj lj h1 h2 with ⟨_, h1, h2⟩ | ⟨_, rfl, rfl⟩
    · obtain ⟨r1, r2, r3⟩ := hr.blk j bj lj h1 h2
      refine ⟨r1, r2, ?_⟩
      cases hloc : lj.loc with
      | none => rw [hloc] at r3; exact r3
      | some q =>
        obtain ⟨rb, ro, sz⟩ := q
        rw [hloc] at r3
        obtain ⟨arr, e, fz, q1, q2, q3, q4, q5, q6⟩ := r3
        refine ⟨arr, e, fz, ?_, q2, q3, q4, q5.ext hr.RF hext hle fun _ _ h => h, q6⟩
        rw [hk rb (Array.getElem?_eq_some_iff.1 q1).1]
        exact q1
    · refine ⟨hver, fun e => absurd e hm, ?_⟩
      cases hloc : lj.loc with
      | none => rw [hloc] at hcr; exact hcr
      | some q =>
        obtain ⟨rb, ro, sz⟩ := q
        rw [hloc] at hcr
        obtain ⟨arr, e, fz, q1, q2, q3, q4, q5⟩ := hcr
        refine ⟨arr, e, fz, q1, q2, q3, q4, q5.ext hr.RF hext hle fun _ _ h => h, ?_⟩
        rw [if_neg hm]
        intro hF
        have h1 := hr.Flt _ hF
        have h2 := hf _ _ _ hloc
        omega
  · intro p q bp bq lp lq hne hbp hbq hlp hlq mp mq rp op sp rq oq sq hp hq
    rcases hsplit p bp lp hbp hlp with ⟨_, h1, h2⟩ | ⟨e1, rfl, rfl⟩ <;> rcases hsplit q bq lq hbq hlq with ⟨_, h3, h4⟩ | ⟨e2, rfl, rfl⟩
    · exact hr.inj p q bp bq lp lq hne h1 h3 h2 h4 mp mq _ _ _ _ _ _ hp hq
    · have a1 := hreal p bp lp h1 h2 _ _ _ hp
      have a2 := hf _ _ _ hq
      omega
    · have a1 := hreal q bq lq h3 h4 _ _ _ hq
      have a2 := hf _ _ _ hp
      omega
    · omega

def clo (x : PV) : Bool :=
  match x with
  | .int _ _ | .bool _ | .str _ | .nils | .nilp | .nilfn | .nili => true
  | .vz q _ _ => q == 0
  | .fn _ [] => true
  | _ => false

theorem VR_clo {w : World} {R : Reg} {L : List BL} {x : PV} {v : Value} (hc : clo x = true) (h : VR w R L x v) : VR w (R0 R) [] x v := by
  cases x with
  | vz q n cs =>
    simp [clo] at hc
    subst hc
    rw [VR] at h ⊢
    obtain ⟨p, cap, h1, h2, h3⟩ := h
    refine ⟨p, cap, h1, h2, h3.imp id ?_⟩
    rintro ⟨rb, ro, e, hq, hcs⟩
    refine ⟨rb, ro, e, ⟨rfl, hq⟩, VRs.mono (fun _ _ _ => rfl) (fun q b hb => ⟨hb.1, rfl, hb.2⟩) (LLe.refl _) cs _ _ hcs fun _ _ h => h⟩
  | fn f cap =>
    cases cap with
    | nil => simpa [VR, VRs] using h
    | cons c cs => simp [clo] at hc
  | int k n => simpa [VR] using h
  | bool b => simpa [VR] using h
  | str s => simpa [VR] using h
  | nils => simpa [VR] using h
  | nilp => simpa [VR] using h
  | nilfn => simpa [VR] using h
  | nili => simpa [VR] using h
  | _ => simp [clo] at hc

/-- A value on its way into a row of closed cells: an own slice is frozen. -/
def closeV (h : List Blk) (x : PV) : Option (PV × List Blk) :=
  match x with
  | .sl b ver k off n =>
    match h[b]? with
    | some bl => if ver = bl.ver ∧ bl.cl = true then some (.vz 0 n ((bl.cells.drop off).take (n * k)), h.set b { bl with mode := 2 }) else none
    | none => none
  | x => if clo x then some (x, h) else none

theorem Ext.same_R0 {w w' : World} {F F' : Nat → Prop} {R R' : Reg} (hRF : ∀ q b, R q b → F b) (hx : Ext w F R w' F' R') {x : PV} {v : Value} (h : VR w (R0 R) [] x v) : VR w' (R0 R') [] x v :=
  VR.mono (fun q b hb => hx.keep b (hRF 0 b hb.2)) (fun q b hb => ⟨hb.1, hx.mR b hb.2⟩) (LLe.refl _) x v h

theorem HR.freeze {w : World} {F : Nat → Prop} {R : Reg} {L : List BL} {h : List Blk} (hr : HR w F R L h) {i : Nat} {b : Blk} (hb : h[i]? = some b) (hcl : b.cl = true) :
    ∃ F' R', Ext w F R w F' R' ∧ HR w F' R' L (h.set i { b with mode := 2 }) ∧ ∀ l, L[i]? = some l → ∀ rb ro sz, l.loc = some (rb, ro, sz) → R' 0 rb := by
  by_cases hm : b.mode = 2
  · have : h.set i { b with mode := 2 } = h := by
      have e : ({ b with mode := 2 } : Blk) = b := by cases b; simp_all
      rw [e]
      obtain ⟨hlt, rfl⟩ := List.getElem?_eq_some_iff.1 hb
      exact List.set_getElem_self hlt
    rw [this]
    refine ⟨F, R, Ext.refl _ _ _, hr, fun l hl rb ro sz hloc => ?_⟩
    obtain ⟨_, _, h3⟩ := hr.blk i b l hb hl
    rw [hloc] at h3
    obtain ⟨arr, e, fz, q1, q2, q3, q4, q5, q6⟩ := h3
    rw [if_pos hm] at q6
    exact q6
  · obtain ⟨l, hl, hv⟩ := hr.get hb
    let isrb : Nat → Prop := fun k => ∃ ro sz, l.loc = some (k, ro, sz)
    have hi : i < h.length := (List.getElem?_eq_some_iff.1 hb).1
    have hown : ∀ k, isrb k → ¬ F k ∧ k < w.heap.size := fun k ⟨ro, sz, hloc⟩ => by
      obtain ⟨_, _, h3⟩ := hr.blk i b l hb hl
      rw [hloc] at h3
      obtain ⟨arr, e, fz, q1, q2, q3, q4, q5, q6⟩ := h3
      rw [if_neg hm] at q6
      exact ⟨q6, (Array.getElem?_eq_some_iff.1 q1).1⟩
    have hext : Ext w F R w (fun k => F k ∨ isrb k) (fun q k => R q k ∨ q = 0 ∧ isrb k) := by
      refine ⟨fun _ _ => rfl, Nat.le_refl _, rfl, rfl, rfl, fun _ h => .inl h, fun _ h => .inl h, fun q k hq => ⟨fun h => h.resolve_right fun e => hq e.1, fun h => .inl h⟩, fun k hF h => ?_⟩
      exact h.resolve_right fun e => (hown k e.2).1 hF
    refine ⟨_, _, hext, ⟨by simp [hr.len], ?_, ?_, ?_, ?_⟩, fun l' hl' rb ro sz hloc => .inr ⟨rfl, ro, sz, ?_⟩⟩
    · intro j bj lj hbj hlj
      rw [List.getElem?_set] at hbj
      by_cases e : i = j
      · subst e
        simp [hi] at hbj
        have : lj = l := by rw [hl] at hlj; exact (Option.some.inj hlj).symm
        subst this
        obtain ⟨r1, r2, r3⟩ := hr.blk i b lj hb hl
        subst hbj
        refine ⟨r1, fun _ => hcl, ?_⟩
        cases hloc : lj.loc with
        | none => rw [hloc] at r3; exact r3
        | some q =>
          obtain ⟨rb, ro, sz⟩ := q
          rw [hloc] at r3
          obtain ⟨arr, et, fz, q1, q2, q3, q4, q5, q6⟩ := r3
          exact ⟨arr, et, fz, q1, q2, q3, q4, q5.ext hr.RF hext (LLe.refl _) fun _ _ h => h, .inr ⟨rfl, ro, sz, hloc⟩⟩
      · simp [e] at hbj
        obtain ⟨r1, r2, r3⟩ := hr.blk j bj lj hbj hlj
        refine ⟨r1, r2, ?_⟩
        cases hloc : lj.loc with
        | none => rw [hloc] at r3; exact r3
        | some q =>
          obtain ⟨rb, ro, sz⟩ := q
          rw [hloc] at r3
          obtain ⟨arr, et, fz, q1, q2, q3, q4, q5, q6⟩ := r3
          refine ⟨arr, et, fz, q1, q2, q3, q4, q5.ext hr.RF hext (LLe.refl _) fun _ _ h => h, ?_⟩
          split at q6
          · rename_i hmj; rw [if_pos hmj]; exact .inl q6
          · rename_i hmj; rw [if_neg hmj]
            rintro (hF | ⟨ro', sz', hl'⟩)
            · exact q6 hF
            · exact hr.inj i j b bj l lj e hb hbj hl hlj hm hmj _ _ _ _ _ _ hl' hloc rfl
    · intro p q bp bq lp lq hne hbp hbq hlp hlq mp mq
      rw [List.getElem?_set] at hbp hbq
      by_cases ep : i = p
      · subst ep; simp [hi] at hbp; subst hbp; simp at mp
      · by_cases eq : i = q
        · subst eq; simp [hi] at hbq; subst hbq; simp at mq
        · simp [ep] at hbp; simp [eq] at hbq
          exact hr.inj p q bp bq lp lq hne hbp hbq hlp hlq mp mq
    · rintro q k (h | ⟨_, h⟩)
      · exact .inl (hr.RF _ _ h)
      · exact .inr h
    · rintro k (h | h)
      · exact hr.Flt _ h
      · exact (hown k h).2
    · have : l' = l := by rw [hl] at hl'; exact (Option.some.inj hl').symm
      subst this
      exact hloc

theorem closeV_sound {w : World} {F : Nat → Prop} {R : Reg} {L : List BL} {h h' : List Blk} (hr : HR w F R L h) {x x' : PV} {v : Value} (hx : VR w R L x v) (he : closeV h x = some (x', h')) :
    ∃ F' R', Ext w F R w F' R' ∧ HR w F' R' L h' ∧ VR w (R0 R') [] x' v := by
  unfold closeV at he
  split at he
  · rename_i b ver k off n
    split at he
    · rename_i bl hbl
      split at he
      · rename_i hc
        injection he with he
        injection he with e1 e2
        subst e1 e2
        obtain ⟨F', R', hx1, hr1, hR⟩ := hr.freeze hbl hc.2
        refine ⟨F', R', hx1, hr1, ?_⟩
        obtain ⟨l, hl, hv⟩ := hr.get hbl
        rw [VR] at hx
        obtain ⟨l', hl', hle, p, cap, rfl, hcap, hx⟩ := hx
        have : l' = l := by rw [hl] at hl'; exact (Option.some.inj hl').symm
        subst this
        rw [VR]
        refine ⟨p, cap, rfl, hcap, ?_⟩
        rcases hx with ⟨h0, _⟩ | ⟨rb, o, rfl, hx⟩
        · left
          have : n = 0 := by omega
          subst this; simp
        · right
          obtain ⟨ro, sz, z1, z2, z3⟩ := hx (by omega)
          refine ⟨rb, o, rfl, ⟨rfl, hR _ hl _ _ _ z1⟩, ?_⟩
          have hcr := hr.cells hbl hl z1
          unfold CR at hcr
          rw [if_pos hc.2] at hcr
          have hcr' := VRs.mono (fun _ _ _ => rfl) (fun q b hb => (⟨hb.1, rfl, hx1.mR b hb.2⟩ : R0 (R0 R') q b)) (LLe.refl _) _ _ _ hcr fun _ _ h => h
          have := hcr'.drop_take off (n * k)
          subst z2
          have e : (fun i => w.cell? ⟨rb, ro + off + i, none⟩) = fun i => w.cell? ⟨rb, ro + (off + i), none⟩ := by funext i; rw [Nat.add_assoc]
          rw [e]; exact this
      · cases he
    · cases he
  · split at he
    · rename_i hc
      injection he with he
      injection he with e1 e2
      subst e1 e2
      exact ⟨F, R, Ext.refl _ _ _, hr, VR_clo hc hx⟩
    · cases he

def closeL (h : List Blk) : List PV → Option (List PV × List Blk)
  | [] => some ([], h)
  | c :: cs =>
    match closeV h c with
    | some (c', h1) =>
      match closeL h1 cs with
      | some (cs', h2) => some (c' :: cs', h2)
      | none => none
    | none => none

theorem closeL_sound {w : World} {L : List BL} : ∀ (cs : List PV) {F : Nat → Prop} {R : Reg} {h h' : List Blk} {cs' : List PV} (g : Nat → Option Value), HR w F R L h → VRs w R L cs g → closeL h cs = some (cs', h') →
    ∃ F' R', Ext w F R w F' R' ∧ HR w F' R' L h' ∧ VRs w (R0 R') [] cs' g ∧ cs'.length = cs.length
  | [], F, R, h, h', cs', g, hr, hc, he => by
    simp [closeL] at he
    obtain ⟨rfl, rfl⟩ := he
    exact ⟨F, R, Ext.refl _ _ _, hr, by simp [VRs], rfl⟩
  | c :: cs, F, R, h, h', cs', g, hr, hc, he => by
    rw [VRs] at hc
    obtain ⟨⟨u, h1, h2⟩, h3⟩ := hc
    simp only [closeL] at he
    split at he
    · rename_i c1 h1' hc1
      split at he
      · rename_i cs2 h2' hc2
        injection he with he
        injection he with e1 e2
        subst e1 e2
        obtain ⟨F1, R1, x1, r1, v1⟩ := closeV_sound hr h2 hc1
        obtain ⟨F2, R2, x2, r2, v2, len⟩ := closeL_sound cs _ r1 (h3.ext hr.RF x1 (LLe.refl _)) hc2
        refine ⟨F2, R2, x1.trans x2, r2, ?_, by simp [len]⟩
        rw [VRs]
        exact ⟨⟨u, h1, x2.same_R0 r1.RF v1⟩, v2⟩
      · cases he
    · cases he

def one (x : PV) : Bool :=
  match x with
  | .agg _ | .tup _ | .unk => false
  | _ => true

theorem VR_one {w : World} {R : Reg} {L : List BL} {x : PV} {v : Value} (ho : one x = true) (h : VR w R L x v) : v.oneCell' = true := by
  cases x with
  | agg cs => simp [one] at ho
  | tup cs => simp [one] at ho
  | unk => simp [one] at ho
  | vz q n cs => rw [VR] at h; obtain ⟨p, cap, rfl, _⟩ := h; rfl
  | sl b ver k off n => rw [VR] at h; obtain ⟨l, _, _, p, cap, rfl, _⟩ := h; rfl
  | ptr b ver off => rw [VR] at h; obtain ⟨l, _, _, p, cap, rfl, _⟩ := h; rfl
  | vptr q cs off => rw [VR] at h; obtain ⟨rb, ro, rfl, _⟩ := h; rfl
  | fn f cap => rw [VR] at h; obtain ⟨vs, rfl, _⟩ := h; rfl
  | ifc t y => rw [VR] at h; obtain ⟨vs, rfl, _⟩ := h; rfl
  | _ => rw [VR] at h; subst h; rfl

theorem closeV_one {h h' : List Blk} {x x' : PV} (he : closeV h x = some (x', h')) : one x = true := by
  cases x <;> simp [closeV, clo] at he <;> rfl

theorem closeL_one : ∀ {cs cs' : List PV} {h h' : List Blk}, closeL h cs = some (cs', h') → cs.all one = true
  | [], cs', h, h', _ => rfl
  | c :: cs, cs', h, h', he => by
    simp only [closeL] at he
    split at he
    · rename_i c1 h1 hc
      split at he
      · rename_i cs2 h2 hc2
        simp only [List.all_cons, Bool.and_eq_true]
        exact ⟨closeV_one hc, closeL_one hc2⟩
      · cases he
    · cases he

theorem VRs_one {w : World} {R : Reg} {L : List BL} {cs : List PV} {vs : List Value} (hl : vs.length = cs.length) (ho : cs.all one = true) (h : VRs w R L cs (fun i => vs[i]?)) : ∀ v ∈ vs, v.oneCell' = true := by
  intro v hv
  rw [VRs_iff] at h
  obtain ⟨i, hi, rfl⟩ := List.getElem_of_mem hv
  have hi' : i < cs.length := by omega
  obtain ⟨u, hu, hvr⟩ := h i cs[i] (List.getElem?_eq_getElem hi')
  simp [hi] at hu
  subst hu
  exact VR_one (List.all_eq_true.1 ho _ (List.getElem_mem hi')) hvr

/-- A splice of cells. -/
def spl (cells : List PV) (off : Nat) (xs : List PV) : List PV := cells.take off ++ xs ++ cells.drop (off + xs.length)

theorem spl_length {cells xs : List PV} {off : Nat} (h : off + xs.length ≤ cells.length) : (spl cells off xs).length = cells.length := by
  simp [spl]; omega

theorem spl_get {cells xs : List PV} {off : Nat} (h : off + xs.length ≤ cells.length) (i : Nat) : (spl cells off xs)[i]? = if i < off then cells[i]? else if i < off + xs.length then xs[i - off]? else cells[i]? := by
  unfold spl
  rw [List.append_assoc, List.getElem?_append]
  simp only [List.length_take]
  have hm : min off cells.length = off := by omega
  rw [hm]
  split
  · rename_i hlt; rw [List.getElem?_take, if_pos hlt]
  · rename_i hge
    rw [List.getElem?_append]
    split
    · rename_i h1; rw [if_pos (by omega)]
    · rename_i h1; rw [if_neg (by omega), List.getElem?_drop]
      congr 1; omega

def stP (T : Tab) (h : List Blk) (t : Nat) (x v : PV) : Option (List Blk) :=
  match T t, x with
  | some r, .ptr b ver off =>
    if nuk v = true ∧ (cellsOf v).length = r.size then
      match h[b]? with
      | some bl =>
        if bl.cl then
          match closeL h (cellsOf v) with
          | some (cs, h1) =>
            match h1[b]? with
            | some b1 => if ver = b1.ver ∧ b1.mode ≠ 2 ∧ b1.cl = true ∧ off + cs.length ≤ b1.cells.length then some (h1.set b { b1 with cells := spl b1.cells off cs }) else none
            | none => none
          | none => none
        else if ver = bl.ver ∧ bl.mode ≠ 2 ∧ (cellsOf v).all one = true ∧ off + (cellsOf v).length ≤ bl.cells.length then some (h.set b { bl with cells := spl bl.cells off (cellsOf v) })
        else none
      | none => none
    else none
  | _, _ => none

theorem heap_setRow_other (w : World) (g : Nat) (cs : Array Value) (k : Nat) (h : k ≠ g) : (w.setRow g cs).heap[k]? = w.heap[k]? := by
  unfold World.setRow
  simp only [Array.getElem?_modify]
  rw [if_neg (by omega)]

theorem size_setRow (w : World) (g : Nat) (cs : Array Value) : (w.setRow g cs).heap.size = w.heap.size := by
  simp [World.setRow]

/-- Cells written into a block of one's own. -/
theorem HR.write {P : Program} {w : World} {F : Nat → Prop} {R : Reg} {L : List BL} {h : List Blk} (hr : HR w F R L h) {b ver off : Nat} {bl : Blk} (hb : h[b]? = some bl) (hver : ver = bl.ver) (hm : bl.mode ≠ 2)
    {u : Value} (hx : VR w R L (.ptr b ver off) u) {cs : List PV} {vs : List Value} (hl : vs.length = cs.length) (hone : ∀ v ∈ vs, v.oneCell' = true)
    (hc : if bl.cl then VRs w (R0 R) [] cs (fun i => vs[i]?) else VRs w R L cs (fun i => vs[i]?)) (hfit : off + cs.length ≤ bl.cells.length) (hne : cs ≠ []) :
    ∃ a, u = .pointer (some a) ∧ ∃ w' L', (storeCells a vs).run P w = .ok () w' ∧ Ext w F R w' F R ∧ LLe L L' ∧ HR w' F R L' (h.set b { bl with cells := spl bl.cells off cs }) := by
  obtain ⟨l, hlb, hv⟩ := hr.get hb
  rw [VR] at hx
  obtain ⟨l', hl', hle, rb, o, rfl, hx⟩ := hx
  have : l' = l := by rw [hlb] at hl'; exact (Option.some.inj hl').symm
  subst this
  obtain ⟨ro, sz, z1, rfl⟩ := hx (by omega)
  obtain ⟨r1, r2, r3⟩ := hr.blk b bl l' hb hlb
  rw [z1] at r3
  obtain ⟨arr, et, fz, q1, q2, q3, q4, q5, q6⟩ := r3
  subst q2
  have hrun := run_storeCells_any P rb (ro + off) et fz vs 0 arr w q1 q3 (by omega) hone
  simp only [Nat.add_zero] at hrun
  generalize harr : (arr.toList.take (ro + off) ++ vs ++ arr.toList.drop (ro + off + vs.length)).toArray = arr' at hrun
  have hsz : arr'.size = arr.size := by rw [← harr]; simp; omega
  have hget : ∀ i, arr'[i]? = if i < ro + off then arr[i]? else if i < ro + off + vs.length then vs[i - (ro + off)]? else arr[i]? := fun i => by
    rw [← harr]
    simp only [List.getElem?_toArray]
    rw [List.append_assoc, List.getElem?_append]
    simp only [List.length_take, Array.length_toList]
    have hm' : min (ro + off) arr.size = ro + off := by omega
    rw [hm']
    split
    · rename_i hlt; rw [List.getElem?_take, if_pos hlt]; simp
    · rename_i hge
      rw [List.getElem?_append]
      split
      · rename_i h1; rw [if_pos (by omega)]
      · rename_i h1; rw [if_neg (by omega), List.getElem?_drop]
        simp
        congr 1; omega
  refine ⟨_, rfl, w.setRow rb arr', L.set b l', hrun, ?_⟩
  refine hr.upd hb hlb hm (Nat.le_refl _) (fun _ => rfl) (by rw [size_setRow]; exact Nat.le_refl _) rfl rfl rfl (fun k _ hk => heap_setRow_other _ _ _ _ fun e => hk ro arr.size (by rw [e]; exact z1))
    (fun rb' ro' sz' h' => .inl ⟨ro', sz', h'⟩) hm r1 (fun hext hle => ?_)
  rw [z1]
  refine ⟨arr', et, fz, setRow_heap w rb arr arr' et fz q1, hsz, q3, by simp only; rw [spl_length hfit]; exact q4, ?_⟩
  have hq5 := q5.ext (g' := fun i => arr[ro + i]?) hr.RF hext hle fun _ _ h => h
  unfold CR at hq5 ⊢
  simp only
  have comb : ∀ (RR : Reg) (LL : List BL), VRs (w.setRow rb arr') RR LL bl.cells (fun i => arr[ro + i]?) → VRs (w.setRow rb arr') RR LL cs (fun i => vs[i]?) →
      VRs (w.setRow rb arr') RR LL (spl bl.cells off cs) (fun i => arr'[ro + i]?) := fun RR LL h1 h2 => by
    rw [VRs_iff] at h1 h2 ⊢
    intro i c hi
    rw [spl_get hfit] at hi
    rw [hget]
    split at hi
    · rename_i hlt
      rw [if_pos (by omega)]
      exact h1 i c hi
    · rename_i hge
      rw [if_neg (by omega)]
      split at hi
      · rename_i hlt
        rw [if_pos (by omega)]
        have e : ro + i - (ro + off) = i - off := by omega
        rw [e]
        exact h2 _ c hi
      · rename_i hge2
        rw [if_neg (by omega)]
        exact h1 i c hi
  split
  · rename_i hcl
    rw [if_pos hcl] at hq5 hc
    exact comb _ _ hq5 (VRs.mono (fun q b hb => hext.keep b (hr.RF 0 b hb.2)) (fun q b hb => hb) (LLe.refl _) _ _ _ hc fun _ _ h => h)
  · rename_i hcl
    rw [if_neg hcl] at hq5 hc
    exact comb _ _ hq5 (hc.ext hr.RF hext hle)

theorem stP_sound {P : Program} {T : Tab} (hT : TOk P T) {w : World} {F : Nat → Prop} {R : Reg} {L : List BL} {h h' : List Blk} (hr : HR w F R L h) {t : Nat} {X V : PV} {u v : Value} (hx : VR w R L X u) (hv : VR w R L V v)
    (he : stP T h t X V = some h') : ∃ w' L' F' R', (Instr.storeAt t u v).run P w = .ok () w' ∧ Ext w F R w' F' R' ∧ LLe L L' ∧ HR w' F' R' L' h' := by
  unfold stP at he
  split at he
  · rename_i tr b ver off h1
    have ht := hT _ _ h1
    split at he
    · rename_i hn
      obtain ⟨z1, z2⟩ := VR_cells hv hn.1
      have hrunsz : v.cells.size = tr.size := by rw [z1]; exact hn.2
      have hst : ∀ a w', (storeCells a v.cells.toList).run P w = .ok () w' → (Instr.storeAt t (.pointer (some a)) v).run P w = .ok () w' := fun a w' hrun => by
        simp [Instr.storeAt, Instr.sureAddr, storeVar, ht.size, hrunsz, hrun]
      split at he
      · rename_i bl hbl
        split at he
        · rename_i hcl
          split at he
          · rename_i cs h1' hcs
            split at he
            · rename_i b1 hb1
              split at he
              · rename_i hc
                injection he with he
                subst he
                obtain ⟨F1, R1, x1, r1, v1, len1⟩ := closeL_sound _ _ hr z2 hcs
                by_cases hne : cs = []
                · subst hne
                  have h0 : v.cells.toList = [] := by
                    apply List.eq_nil_of_length_eq_zero
                    simp at len1 ⊢
                    rw [← len1] at z1
                    simpa using z1
                  have hx' := hx
                  rw [VR] at hx'
                  obtain ⟨l, _, _, rb, o, rfl, _⟩ := hx'
                  refine ⟨w, L, F1, R1, hst _ _ (by rw [h0]; rfl), x1, LLe.refl _, ?_⟩
                  have : h1'.set b { b1 with cells := spl b1.cells off [] } = h1' := by
                    have e : spl b1.cells off [] = b1.cells := by simp [spl]
                    rw [e]
                    obtain ⟨hlt, rfl⟩ := List.getElem?_eq_some_iff.1 hb1
                    exact List.set_getElem_self hlt
                  rw [this]; exact r1
                · obtain ⟨a, rfl, w', L', q1, q2, q3, q4⟩ := HR.write (P := P) r1 hb1 hc.1 hc.2.1 (VR.ext hr.RF x1 (LLe.refl _) hx) (cs := cs) (vs := v.cells.toList) (by simp; omega) (VRs_one (by simp; omega) (closeL_one hcs) (by simpa using z2)) (by rw [if_pos hc.2.2.1]; simpa using v1) hc.2.2.2 hne
                  exact ⟨w', L', F1, R1, hst _ _ q1, x1.trans q2, q3, q4⟩
              · cases he
            · cases he
          · cases he
        · rename_i hcl
          split at he
          · rename_i hc
            injection he with he
            subst he
            by_cases hne : cellsOf V = []
            · have h0 : v.cells.toList = [] := by
                apply List.eq_nil_of_length_eq_zero
                simp
                rw [hne] at z1
                simpa using z1
              have hx' := hx
              rw [VR] at hx'
              obtain ⟨l, _, _, rb, o, rfl, _⟩ := hx'
              refine ⟨w, L, F, R, hst _ _ (by rw [h0]; rfl), Ext.refl _ _ _, LLe.refl _, ?_⟩
              have : h.set b { bl with cells := spl bl.cells off (cellsOf V) } = h := by
                have e : spl bl.cells off (cellsOf V) = bl.cells := by simp [spl, hne]
                rw [e]
                obtain ⟨hlt, rfl⟩ := List.getElem?_eq_some_iff.1 hbl
                exact List.set_getElem_self hlt
              rw [this]; exact hr
            · obtain ⟨a, rfl, w', L', q1, q2, q3, q4⟩ := HR.write (P := P) hr hbl hc.1 hc.2.1 hx (cs := cellsOf V) (vs := v.cells.toList) (by simpa using z1) (VRs_one (by simpa using z1) hc.2.2.1 (by simpa using z2)) (by rw [if_neg hcl]; simpa using z2) hc.2.2.2 hne
              exact ⟨w', L', F, R, hst _ _ q1, q2, q3, q4⟩
          · cases he
      · cases he
    · cases he
  · cases he

theorem heap_alloc_lt (w : World) (o : Obj) (k : Nat) (h : k < w.heap.size) : (w.alloc o).heap[k]? = w.heap[k]? := by
  show (w.heap.push o)[k]? = _
  rw [Array.getElem?_push, if_neg (by omega)]

theorem heap_alloc_at (w : World) (o : Obj) : (w.alloc o).heap[w.heap.size]? = some o := by
  show (w.heap.push o)[w.heap.size]? = _
  simp

/-- A new block whose cells are known. -/
theorem HR.fresh {w : World} {F : Nat → Prop} {R : Reg} {L : List BL} {h : List Blk} (hr : HR w F R L h) (arr : Array Value) (e : Nat) (mode : Nat) (cl : Bool) (cells : List PV) (hm : mode ≠ 2)
    (hlen : cells.length ≤ arr.size) (hc : CR w R L cl cells (fun i => arr[i]?)) :
    Ext w F R (w.alloc (.cells arr e)) F R ∧ LLe L (L ++ [⟨0, some (w.heap.size, 0, arr.size)⟩]) ∧
      HR (w.alloc (.cells arr e)) F R (L ++ [⟨0, some (w.heap.size, 0, arr.size)⟩]) (h ++ [⟨0, mode, cl, cells⟩]) := by
  refine hr.push (by simp) rfl rfl rfl (fun k hk => heap_alloc_lt _ _ _ hk) (fun rb ro sz h => ?_) hm rfl ?_
  · simp at h; omega
  · exact ⟨arr, e, (0, 0), heap_alloc_at _ _, rfl, fun o _ h => absurd h (Nat.not_lt_zero _), by simpa using hlen, by simpa using hc⟩

theorem get_last {w : World} {L : List BL} {h : List Blk} {l : BL} (hlen : L.length = h.length) : (L ++ [l])[h.length]? = some l := by
  rw [← hlen]; simp

def boxP (h : List Blk) (x : PV) : Option (PV × List Blk) :=
  if nuk x then some (.ptr h.length 0 0, h ++ [⟨0, 1, false, cellsOf x⟩]) else none

theorem boxP_sound {P : Program} {w : World} {F : Nat → Prop} {R : Reg} {L : List BL} {h h' : List Blk} (hr : HR w F R L h) {e : Nat} {X r : PV} {u : Value} (hx : VR w R L X u) (he : boxP h X = some (r, h')) :
    ∃ z w' L', (Instr.box e u).run P w = .ok z w' ∧ Ext w F R w' F R ∧ LLe L L' ∧ HR w' F R L' h' ∧ VR w' R L' r z := by
  unfold boxP at he
  split at he
  · rename_i hn
    injection he with he
    injection he with e1 e2
    subst e1 e2
    obtain ⟨z1, z2⟩ := VR_cells hx hn
    obtain ⟨q1, q2, q3⟩ := hr.fresh u.cells e 1 false (cellsOf X) (by decide) (by omega) (by simpa [CR] using z2)
    refine ⟨.pointer (some ⟨w.heap.size, 0, none⟩), _, _, ?_, q1, q2, q3, ?_⟩
    · simp [Instr.box, newVar, newRow]
    · rw [VR]
      exact ⟨_, get_last (w := w) hr.len, Nat.le_refl _, w.heap.size, 0, rfl, fun _ => ⟨0, _, rfl, rfl⟩⟩
  · cases he

def allocP (T : Tab) (h : List Blk) (t : Nat) : Option (PV × List Blk) :=
  match T t with
  | some r => some (.ptr h.length 0 0, h ++ [⟨0, 1, false, cellsOf (ofV r.zero)⟩])
  | none => none

theorem allocP_sound {P : Program} {T : Tab} (hT : TOk P T) {w : World} {F : Nat → Prop} {R : Reg} {L : List BL} {h h' : List Blk} (hr : HR w F R L h) {t : Nat} {r : PV} (he : allocP T h t = some (r, h')) :
    ∃ z w' L', (Instr.alloc t true (.tuple #[])).run P w = .ok z w' ∧ Ext w F R w' F R ∧ LLe L L' ∧ HR w' F R L' h' ∧ VR w' R L' r z := by
  unfold allocP at he
  split at he
  · rename_i tr h1
    injection he with he
    injection he with e1 e2
    subst e1 e2
    have ht := hT _ _ h1
    obtain ⟨z2, z1⟩ := VRs_zero w R L tr.zero
    obtain ⟨q1, q2, q3⟩ := hr.fresh tr.zero.cells t 1 false (cellsOf (ofV tr.zero)) (by decide) (by omega) (by simpa [CR] using z2)
    refine ⟨.pointer (some ⟨w.heap.size, 0, none⟩), _, _, ?_, q1, q2, q3, ?_⟩
    · simp [Instr.alloc, newVar, newRow, ht.zero]
    · rw [VR]
      exact ⟨_, get_last (w := w) hr.len, Nat.le_refl _, w.heap.size, 0, rfl, fun _ => ⟨0, _, rfl, rfl⟩⟩
  · cases he

/-- n zero values in a row. -/
def zer (z : List PV) : Nat → List PV
  | 0 => []
  | n + 1 => z ++ zer z n

theorem zer_length (z : List PV) : ∀ n, (zer z n).length = n * z.length
  | 0 => by simp [zer]
  | n + 1 => by simp [zer, zer_length z n, Nat.add_mul]; omega

theorem zer_get (z : List PV) : ∀ (n i : Nat) (c : PV), (zer z n)[i]? = some c → i < n * z.length ∧ z[i % z.length]? = some c
  | 0, i, c, h => by simp [zer] at h
  | n + 1, i, c, h => by
    simp only [zer, List.getElem?_append] at h
    split at h
    · rename_i hlt
      refine ⟨by rw [Nat.add_mul]; omega, ?_⟩
      rw [Nat.mod_eq_of_lt hlt]; exact h
    · rename_i hge
      obtain ⟨h1, h2⟩ := zer_get z n _ c h
      refine ⟨by rw [Nat.add_mul]; omega, ?_⟩
      rwa [Nat.mod_eq_sub_mod (by omega)]

theorem VRs_zer {w : World} {R : Reg} {L : List BL} (v : Value) (n m : Nat) (hm : n * v.cells.size ≤ m) :
    VRs w R L (zer (cellsOf (ofV v)) n) (fun i => ((Array.range m).map (fun i => v.cells[i % v.cells.size]!))[i]?) := by
  obtain ⟨z2, z1⟩ := VRs_zero w R L v
  rw [VRs_iff] at z2 ⊢
  intro i c hi
  obtain ⟨h1, h2⟩ := zer_get _ _ _ _ hi
  rw [z1] at h1 h2
  obtain ⟨u, hu, hv⟩ := z2 _ c h2
  refine ⟨u, ?_, hv⟩
  have him : i < m := by omega
  simp [him, getElem!_def, hu]

def bsP (T : Tab) (h : List Blk) (t n : Nat) (ps : List (Nat × PV)) : Option (PV × List Blk) :=
  match T t with
  | some { kind := .slice e, .. } =>
    match T e with
    | some re =>
      if n * re.size ≤ 16777216 ∧ ps.all (fun p => nuk p.2) = true then
        match fillP (fun i => some (i * re.size, re.size)) (zer (cellsOf (ofV re.zero)) n) ps with
        | some cells =>
          match closeL h cells with
          | some (cells', h1) => some (.sl h1.length 0 re.size 0 n, h1 ++ [⟨0, 0, true, cells'⟩])
          | none => some (.sl h.length 0 re.size 0 n, h ++ [⟨0, 0, false, cells⟩])
        | none => none
      else none
    | none => none
  | _ => none

theorem fillP_length (place : Nat → Option (Nat × Nat)) : ∀ (ps : List (Nat × PV)) (cells r : List PV), fillP place cells ps = some r → r.length = cells.length
  | [], cells, r, h => by simp [fillP] at h; rw [h]
  | (i, x) :: ps, cells, r, h => by
    simp only [fillP] at h
    split at h
    · cases h
    · split at h
      · rename_i hc
        rw [fillP_length place ps _ r h]
        simp; omega
      · cases h

theorem VR_slNew {w w' : World} {R : Reg} {L : List BL} {h : List Blk} (hlen : L.length = h.length) (rb sz n k : Nat) (hsz : n * k = sz) :
    VR w' R (L ++ [⟨0, some (rb, 0, sz)⟩]) (.sl h.length 0 k 0 n) (.slice (some ⟨rb, 0, none⟩) n n) := by
  rw [VR]
  exact ⟨_, get_last (w := w) hlen, Nat.le_refl _, _, n, rfl, Nat.le_refl _, .inr ⟨rb, 0, rfl, fun _ => ⟨0, sz, rfl, rfl, by omega⟩⟩⟩

theorem bsP_sound {P : Program} {T : Tab} (hT : TOk P T) {w : World} {F : Nat → Prop} {R : Reg} {L : List BL} {h h' : List Blk} (hr : HR w F R L h) {t n : Nat} {ps : List (Nat × PV)} {vs : Array (Nat × Value)} {r : PV}
    (hl : ps.length = vs.size) (hp : ∀ (i : Nat) (p : Nat × PV) (v : Nat × Value), ps[i]? = some p → vs[i]? = some v → p.1 = v.1 ∧ VR w R L p.2 v.2) (he : bsP T h t n ps = some (r, h')) :
    ∃ z w' L' F' R', (Instr.buildSlice t n vs).run P w = .ok z w' ∧ Ext w F R w' F' R' ∧ LLe L L' ∧ HR w' F' R' L' h' ∧ VR w' R' L' r z := by
  unfold bsP at he
  split at he
  · rename_i e z0 h1
    have k1 := (hT _ _ h1).kind
    simp only [KOk] at k1
    split at he
    · rename_i re h2
      have ht := hT _ _ h2
      split at he
      · rename_i hsz
        have hall := hsz.2
        simp only [List.all_eq_true] at hall
        split at he
        · rename_i cells hcells
          have hz : VRs w R L (zer (cellsOf (ofV re.zero)) n) (fun i => ((Array.range (n * re.size)).map (fun i => re.zero.cells[i % re.zero.cells.size]!))[i]?) :=
            VRs_zer re.zero n _ (by rw [ht.zsz]; exact Nat.le_refl _)
          have hzl : (zer (cellsOf (ofV re.zero)) n).length = n * re.size := by
            rw [zer_length, (VRs_zero w R L re.zero).2, ht.zsz]
          obtain ⟨rv, e1, e2, e3⟩ := fillP_sound (w := w) (R := R) (L := L) _ ps vs.toList _ cells _ (by simpa using hl)
            (fun i p v h1 h2 => ⟨(hp i p v h1 (by simpa using h2)).1, (hp i p v h1 (by simpa using h2)).2, hall p (List.mem_of_getElem? h1)⟩) (by simp [hzl]) hz hcells
          have hcl := fillP_length _ _ _ _ hcells
          have hrv : rv.size = n * re.size := by rw [e2, hcl, hzl]
          have hrun : (Instr.buildSlice t n vs).run P w = .ok (.slice (some ⟨w.heap.size, 0, none⟩) n n) (w.alloc (.cells rv e)) := by
            have hlt : ¬ n * re.size > 16777216 := by omega
            unfold Instr.buildSlice
            simp only [Sem.run_bind, run_underlying k1, Result.andThen_ok, ht.size]
            rw [if_neg (by simpa using hlt)]
            by_cases h0 : n * re.size = 0
            · rw [if_pos h0]
              have hr0 : Instr.fill (fun i => some (i * re.size, re.size)) ((Array.range (n * re.size)).map (fun i => (#[] : Array Value)[i % (#[] : Array Value).size]!)) vs.toList = some rv := by
                have : (Array.range (n * re.size)).map (fun i => (#[] : Array Value)[i % (#[] : Array Value).size]!) = (Array.range (n * re.size)).map (fun i => re.zero.cells[i % re.zero.cells.size]!) := by
                  rw [h0]; simp
                rw [this]; exact e1
              simp only [Sem.run_bind, Sem.run_pure, Result.andThen_ok, hr0, newRow, run_newObj, bind_pure_comp, Sem.run_map]
              rfl
            · rw [if_neg h0]
              simp only [Sem.run_bind, Sem.run_pure, Result.andThen_ok, ht.zero, e1, newRow, run_newObj, bind_pure_comp, Sem.run_map]
              rfl
          split at he
          · rename_i cells' h1' hcs
            injection he with he
            injection he with q1 q2
            subst q1 q2
            obtain ⟨F1, R1, x1, r1, v1, len1⟩ := closeL_sound _ _ hr e3 hcs
            obtain ⟨y1, y2, y3⟩ := r1.fresh rv e 0 true cells' (by decide) (by omega) (by simpa [CR] using v1)
            exact ⟨_, _, _, F1, R1, hrun, x1.trans y1, y2, y3, VR_slNew (w := w) r1.len _ _ _ _ (by omega)⟩
          · injection he with he
            injection he with q1 q2
            subst q1 q2
            obtain ⟨y1, y2, y3⟩ := hr.fresh rv e 0 false cells (by decide) (by omega) (by simpa [CR] using e3)
            exact ⟨_, _, _, F, R, hrun, y1, y2, y3, VR_slNew (w := w) hr.len _ _ _ _ (by omega)⟩
        · cases he
      · cases he
    · cases he
  · cases he
end Go.Fw
