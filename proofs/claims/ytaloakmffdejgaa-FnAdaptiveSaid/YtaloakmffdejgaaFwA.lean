/- The frame of a small pure logic over the walk: values as trees, a heap of owned blocks, and how both stand to the machine's memory. -/
import Derived.Calls
import Derived.Orders
import Derived.Laws.Entries
import Derived.Laws.Cells
import Derived.Laws.World
import Derived.Laws.CopyRow
set_option linter.unusedVariables false
namespace Go.Fw
open Go

inductive PV where
  | unk
  | int (k : IntKind) (n : Int)
  | bool (b : Bool)
  | str (s : List UInt8)
  | agg (cs : List PV)
  | tup (cs : List PV)
  | nils
  | vz (q n : Nat) (cs : List PV)
  | sl (b ver k off n : Nat)
  | ptr (b ver off : Nat)
  | vptr (q : Nat) (cs : List PV) (off : Nat)
  | nilp
  | fn (f : Nat) (cap : List PV)
  | nilfn
  | ifc (t : Nat) (v : PV)
  | nili

structure BL where
  ver : Nat
  loc : Option (Nat × Nat × Nat)

structure Blk where
  ver : Nat
  mode : Nat
  cl : Bool
  cells : List PV

abbrev Reg := Nat → Nat → Prop
def R0 (R : Reg) : Reg := fun q b => q = 0 ∧ R 0 b

mutual
def VR (w : World) (R : Reg) (L : List BL) (x : PV) (v : Value) : Prop :=
  match x with
  | .unk => True
  | .int k n => v = .int k n
  | .bool b => v = .bool b
  | .str s => v = .string ⟨s.toArray⟩
  | .agg cs => ∃ vs : Array Value, v = .agg vs ∧ vs.size = cs.length ∧ VRs w R L cs (fun i => vs[i]?)
  | .tup cs => ∃ vs : Array Value, v = .tuple vs ∧ vs.size = cs.length ∧ VRs w R L cs (fun i => vs[i]?)
  | .nils => v = .slice none 0 0
  | .vz q n cs => ∃ p cap, v = .slice p n cap ∧ n ≤ cap ∧ (cs = [] ∧ n = 0 ∨
      ∃ rb ro, p = some ⟨rb, ro, none⟩ ∧ R q rb ∧ VRs w (R0 R) [] cs (fun i => w.cell? ⟨rb, ro + i, none⟩))
  | .sl b ver k off n => ∃ l, L[b]? = some l ∧ ver ≤ l.ver ∧ ∃ p cap, v = .slice p n cap ∧ n ≤ cap ∧
      ((cap = 0 ∧ (ver = l.ver → ∀ rb ro sz, l.loc = some (rb, ro, sz) → ro + off = sz)) ∨
        ∃ rb o, p = some ⟨rb, o, none⟩ ∧ (ver = l.ver → ∃ ro sz, l.loc = some (rb, ro, sz) ∧ o = ro + off ∧ o + cap * k = sz))
  | .ptr b ver off => ∃ l, L[b]? = some l ∧ ver ≤ l.ver ∧ ∃ rb o, v = .pointer (some ⟨rb, o, none⟩) ∧ (ver = l.ver → ∃ ro sz, l.loc = some (rb, ro, sz) ∧ o = ro + off)
  | .vptr q cs off => ∃ rb ro, v = .pointer (some ⟨rb, ro + off, none⟩) ∧ R q rb ∧ VRs w (R0 R) [] cs (fun i => w.cell? ⟨rb, ro + i, none⟩)
  | .nilp => v = .pointer none
  | .fn f cap => ∃ vs : Array Value, v = .func (.func f) #[] vs ∧ vs.size = cap.length ∧ VRs w R L cap (fun i => vs[i]?)
  | .nilfn => v = .nilFunc
  | .ifc t x => ∃ y, v = .iface t y ∧ VR w R L x y
  | .nili => v = .nilIface
termination_by structural x
def VRs (w : World) (R : Reg) (L : List BL) (cs : List PV) (g : Nat → Option Value) : Prop :=
  match cs with
  | [] => True
  | c :: cs => (∃ u, g 0 = some u ∧ VR w R L c u) ∧ VRs w R L cs (fun i => g (i + 1))
termination_by structural cs
end

theorem VRs_iff {w : World} {R : Reg} {L : List BL} : ∀ (cs : List PV) (g : Nat → Option Value),
    VRs w R L cs g ↔ ∀ i c, cs[i]? = some c → ∃ u, g i = some u ∧ VR w R L c u
  | [], g => by simp [VRs]
  | c :: cs, g => by
    rw [VRs, VRs_iff cs]
    constructor
    · rintro ⟨h0, h⟩ i c' hc
      cases i with
      | zero => simp at hc; subst hc; exact h0
      | succ i => exact h i c' (by simpa using hc)
    · intro h
      exact ⟨h 0 c (by simp), fun i c' hc => h (i + 1) c' (by simpa using hc)⟩

def LLe (L L' : List BL) : Prop := ∀ (b : Nat) (l : BL), L[b]? = some l → ∃ l' : BL, L'[b]? = some l' ∧ l.ver ≤ l'.ver ∧ (l.ver = l'.ver → l'.loc = l.loc)

theorem LLe.refl (L : List BL) : LLe L L := fun b l h => ⟨l, h, Nat.le_refl _, fun _ => rfl⟩
theorem LLe.nil (L : List BL) : LLe [] L := fun _ _ h => by simp at h
theorem LLe.trans {A B C : List BL} (h : LLe A B) (k : LLe B C) : LLe A C := fun b l hl => by
  obtain ⟨l1, h1, h2, h3⟩ := h b l hl
  obtain ⟨l2, k1, k2, k3⟩ := k b l1 h1
  refine ⟨l2, k1, Nat.le_trans h2 k2, fun e => ?_⟩
  have e1 : l.ver = l1.ver := by omega
  have e2 : l1.ver = l2.ver := by omega
  exact (k3 e2).trans (h3 e1)

mutual
theorem VR.mono {w w' : World} {R R' : Reg} {L L' : List BL} (hw : ∀ q b, R q b → w'.heap[b]? = w.heap[b]?) (hR : ∀ q b, R q b → R' q b) (hL : LLe L L')
    (x : PV) (v : Value) (h : VR w R L x v) : VR w' R' L' x v := by
  have h0 : ∀ q b, R0 R q b → w'.heap[b]? = w.heap[b]? := fun q b h => hw 0 b h.2
  have hR0 : ∀ q b, R0 R q b → R0 R' q b := fun q b h => ⟨h.1, hR 0 b h.2⟩
  match x with
  | .unk => trivial
  | .int k n => simpa [VR] using h
  | .bool b => simpa [VR] using h
  | .str s => simpa [VR] using h
  | .nils => simpa [VR] using h
  | .nilp => simpa [VR] using h
  | .nilfn => simpa [VR] using h
  | .nili => simpa [VR] using h
  | .agg cs =>
    rw [VR] at h ⊢
    obtain ⟨vs, h1, h2, h3⟩ := h
    exact ⟨vs, h1, h2, VRs.mono hw hR hL cs _ _ h3 fun _ _ h => h⟩
  | .tup cs =>
    rw [VR] at h ⊢
    obtain ⟨vs, h1, h2, h3⟩ := h
    exact ⟨vs, h1, h2, VRs.mono hw hR hL cs _ _ h3 fun _ _ h => h⟩
  | .fn f cs =>
    rw [VR] at h ⊢
    obtain ⟨vs, h1, h2, h3⟩ := h
    exact ⟨vs, h1, h2, VRs.mono hw hR hL cs _ _ h3 fun _ _ h => h⟩
  | .ifc t y =>
    rw [VR] at h ⊢
    obtain ⟨z, h1, h2⟩ := h
    exact ⟨z, h1, VR.mono hw hR hL y z h2⟩
  | .vz q n cs =>
    rw [VR] at h ⊢
    obtain ⟨p, cap, h1, h2, h3⟩ := h
    refine ⟨p, cap, h1, h2, h3.imp id ?_⟩
    rintro ⟨rb, ro, e, hq, hc⟩
    refine ⟨rb, ro, e, hR _ _ hq, VRs.mono h0 hR0 (LLe.refl _) cs _ _ hc fun i u hu => ?_⟩
    simpa [World.cell?, hw q rb hq] using hu
  | .vptr q cs off =>
    rw [VR] at h ⊢
    obtain ⟨rb, ro, e, hq, hc⟩ := h
    refine ⟨rb, ro, e, hR _ _ hq, VRs.mono h0 hR0 (LLe.refl _) cs _ _ hc fun i u hu => ?_⟩
    simpa [World.cell?, hw q rb hq] using hu
  | .sl b ver k off n =>
    rw [VR] at h ⊢
    obtain ⟨l, h1, h2, p, cap, h3, h4, h5⟩ := h
    obtain ⟨l', k1, k2, k3⟩ := hL b l h1
    refine ⟨l', k1, Nat.le_trans h2 k2, p, cap, h3, h4, h5.imp ?_ ?_⟩
    · rintro ⟨e1, e2⟩
      refine ⟨e1, fun e => ?_⟩
      rw [k3 (by omega)]
      exact e2 (by omega)
    rintro ⟨rb, o, e1, e2⟩
    refine ⟨rb, o, e1, fun e => ?_⟩
    rw [k3 (by omega)]
    exact e2 (by omega)
  | .ptr b ver off =>
    rw [VR] at h ⊢
    obtain ⟨l, h1, h2, rb, o, h3, h4⟩ := h
    obtain ⟨l', k1, k2, k3⟩ := hL b l h1
    refine ⟨l', k1, Nat.le_trans h2 k2, rb, o, h3, fun e => ?_⟩
    rw [k3 (by omega)]
    exact h4 (by omega)
termination_by structural x
theorem VRs.mono {w w' : World} {R R' : Reg} {L L' : List BL} (hw : ∀ q b, R q b → w'.heap[b]? = w.heap[b]?) (hR : ∀ q b, R q b → R' q b) (hL : LLe L L')
    (cs : List PV) (g g' : Nat → Option Value) (h : VRs w R L cs g) (hg : ∀ i u, g i = some u → g' i = some u) : VRs w' R' L' cs g' := by
  match cs with
  | [] => simp [VRs]
  | c :: cs =>
    rw [VRs] at h ⊢
    obtain ⟨⟨u, h1, h2⟩, h3⟩ := h
    exact ⟨⟨u, hg _ _ h1, VR.mono hw hR hL c u h2⟩, VRs.mono hw hR hL cs _ _ h3 fun i u hu => hg _ _ hu⟩
termination_by structural cs
end

mutual
def ren (g : Nat → Nat) (x : PV) : PV :=
  match x with
  | .agg cs => .agg (rens g cs)
  | .tup cs => .tup (rens g cs)
  | .fn f cs => .fn f (rens g cs)
  | .ifc t y => .ifc t (ren g y)
  | .sl b ver k off n => .sl (g b) ver k off n
  | .ptr b ver off => .ptr (g b) ver off
  | .unk => .unk
  | .int k n => .int k n
  | .bool b => .bool b
  | .str s => .str s
  | .nils => .nils
  | .vz q n cs => .vz q n cs
  | .vptr q cs off => .vptr q cs off
  | .nilp => .nilp
  | .nilfn => .nilfn
  | .nili => .nili
termination_by structural x
def rens (g : Nat → Nat) (cs : List PV) : List PV :=
  match cs with
  | [] => []
  | c :: cs => ren g c :: rens g cs
termination_by structural cs
end

theorem rens_eq (g : Nat → Nat) : ∀ cs, rens g cs = cs.map (ren g)
  | [] => by simp [rens]
  | c :: cs => by simp [rens, rens_eq g cs]

mutual
def bnd (m : Nat) (x : PV) : Bool :=
  match x with
  | .agg cs | .tup cs | .fn _ cs => bnds m cs
  | .ifc _ y => bnd m y
  | .sl b _ _ _ _ | .ptr b _ _ => decide (b < m)
  | _ => true
termination_by structural x
def bnds (m : Nat) (cs : List PV) : Bool :=
  match cs with
  | [] => true
  | c :: cs => bnd m c && bnds m cs
termination_by structural cs
end

mutual
theorem VR.ren {w : World} {R : Reg} {L L' : List BL} {g : Nat → Nat} (hg : ∀ b l, L[b]? = some l → L'[g b]? = some l) (x : PV) (v : Value) (h : VR w R L x v) :
    VR w R L' (Fw.ren g x) v := by
  match x with
  | .unk => simp [Fw.ren, VR]
  | .int k n => simpa [Fw.ren, VR] using h
  | .bool b => simpa [Fw.ren, VR] using h
  | .str s => simpa [Fw.ren, VR] using h
  | .nils => simpa [Fw.ren, VR] using h
  | .nilp => simpa [Fw.ren, VR] using h
  | .nilfn => simpa [Fw.ren, VR] using h
  | .nili => simpa [Fw.ren, VR] using h
  | .vz q n cs => simpa [Fw.ren, VR] using h
  | .vptr q cs off => simpa [Fw.ren, VR] using h
  | .agg cs =>
    rw [Fw.ren]; rw [VR] at h ⊢
    obtain ⟨vs, h1, h2, h3⟩ := h
    exact ⟨vs, h1, by simp [rens_eq, h2], VRs.ren hg cs _ h3⟩
  | .tup cs =>
    rw [Fw.ren]; rw [VR] at h ⊢
    obtain ⟨vs, h1, h2, h3⟩ := h
    exact ⟨vs, h1, by simp [rens_eq, h2], VRs.ren hg cs _ h3⟩
  | .fn f cs =>
    rw [Fw.ren]; rw [VR] at h ⊢
    obtain ⟨vs, h1, h2, h3⟩ := h
    exact ⟨vs, h1, by simp [rens_eq, h2], VRs.ren hg cs _ h3⟩
  | .ifc t y =>
    rw [Fw.ren]; rw [VR] at h ⊢
    obtain ⟨z, h1, h2⟩ := h
    exact ⟨z, h1, VR.ren hg y z h2⟩
  | .sl b ver k off n =>
    rw [Fw.ren]; rw [VR] at h ⊢
    obtain ⟨l, h1, h2⟩ := h
    exact ⟨l, hg b l h1, h2⟩
  | .ptr b ver off =>
    rw [Fw.ren]; rw [VR] at h ⊢
    obtain ⟨l, h1, h2⟩ := h
    exact ⟨l, hg b l h1, h2⟩
termination_by structural x
theorem VRs.ren {w : World} {R : Reg} {L L' : List BL} {g : Nat → Nat} (hg : ∀ b l, L[b]? = some l → L'[g b]? = some l) (cs : List PV) (f : Nat → Option Value) (h : VRs w R L cs f) :
    VRs w R L' (rens g cs) f := by
  match cs with
  | [] => simp [rens, VRs]
  | c :: cs =>
    rw [rens]; rw [VRs] at h ⊢
    obtain ⟨⟨u, h1, h2⟩, h3⟩ := h
    exact ⟨⟨u, h1, VR.ren hg c u h2⟩, VRs.ren hg cs _ h3⟩
termination_by structural cs
end

mutual
theorem VR.unren {w : World} {R : Reg} {L L' : List BL} {g : Nat → Nat} {m : Nat} (hg : ∀ b, b < m → L'[g b]? = L[b]?) (x : PV) (v : Value) (hb : bnd m x = true) (h : VR w R L' (Fw.ren g x) v) :
    VR w R L x v := by
  match x with
  | .unk => simp [VR]
  | .int k n => simpa [Fw.ren, VR] using h
  | .bool b => simpa [Fw.ren, VR] using h
  | .str s => simpa [Fw.ren, VR] using h
  | .nils => simpa [Fw.ren, VR] using h
  | .nilp => simpa [Fw.ren, VR] using h
  | .nilfn => simpa [Fw.ren, VR] using h
  | .nili => simpa [Fw.ren, VR] using h
  | .vz q n cs => simpa [Fw.ren, VR] using h
  | .vptr q cs off => simpa [Fw.ren, VR] using h
  | .agg cs =>
    rw [Fw.ren, VR] at h; rw [VR]; rw [bnd] at hb
    obtain ⟨vs, h1, h2, h3⟩ := h
    exact ⟨vs, h1, by simpa [rens_eq] using h2, VRs.unren hg cs _ hb h3⟩
  | .tup cs =>
    rw [Fw.ren, VR] at h; rw [VR]; rw [bnd] at hb
    obtain ⟨vs, h1, h2, h3⟩ := h
    exact ⟨vs, h1, by simpa [rens_eq] using h2, VRs.unren hg cs _ hb h3⟩
  | .fn f cs =>
    rw [Fw.ren, VR] at h; rw [VR]; rw [bnd] at hb
    obtain ⟨vs, h1, h2, h3⟩ := h
    exact ⟨vs, h1, by simpa [rens_eq] using h2, VRs.unren hg cs _ hb h3⟩
  | .ifc t y =>
    rw [Fw.ren, VR] at h; rw [VR]; rw [bnd] at hb
    obtain ⟨z, h1, h2⟩ := h
    exact ⟨z, h1, VR.unren hg y z hb h2⟩
  | .sl b ver k off n =>
    rw [Fw.ren, VR] at h; rw [VR]; simp [bnd] at hb
    rw [hg b hb] at h
    exact h
  | .ptr b ver off =>
    rw [Fw.ren, VR] at h; rw [VR]; simp [bnd] at hb
    rw [hg b hb] at h
    exact h
termination_by structural x
theorem VRs.unren {w : World} {R : Reg} {L L' : List BL} {g : Nat → Nat} {m : Nat} (hg : ∀ b, b < m → L'[g b]? = L[b]?) (cs : List PV) (f : Nat → Option Value) (hb : bnds m cs = true) (h : VRs w R L' (rens g cs) f) :
    VRs w R L cs f := by
  match cs with
  | [] => simp [VRs]
  | c :: cs =>
    rw [rens, VRs] at h; rw [VRs]
    simp only [bnds, Bool.and_eq_true] at hb
    obtain ⟨⟨u, h1, h2⟩, h3⟩ := h
    exact ⟨⟨u, h1, VR.unren hg c u hb.1 h2⟩, VRs.unren hg cs _ hb.2 h3⟩
termination_by structural cs
end

mutual
def noReg (r : Nat) (x : PV) : Prop :=
  match x with
  | .agg cs | .tup cs | .fn _ cs => noRegs r cs
  | .ifc _ y => noReg r y
  | .vz q _ _ | .vptr q _ _ => q ≠ r
  | _ => True
termination_by structural x
def noRegs (r : Nat) (cs : List PV) : Prop :=
  match cs with
  | [] => True
  | c :: cs => noReg r c ∧ noRegs r cs
termination_by structural cs
end

mutual
theorem VR.reg {w : World} {R R' : Reg} {L : List BL} {r : Nat} (h0 : ∀ b, R 0 b → R' 0 b) (hr : ∀ q b, q ≠ r → R q b → R' q b) (x : PV) (v : Value) (hx : noReg r x) (h : VR w R L x v) :
    VR w R' L x v := by
  have hR0 : ∀ q b, R0 R q b → R0 R' q b := fun q b h => ⟨h.1, h0 b h.2⟩
  match x with
  | .unk => trivial
  | .int k n => simpa [VR] using h
  | .bool b => simpa [VR] using h
  | .str s => simpa [VR] using h
  | .nils => simpa [VR] using h
  | .nilp => simpa [VR] using h
  | .nilfn => simpa [VR] using h
  | .nili => simpa [VR] using h
  | .sl b ver k off n => simpa [VR] using h
  | .ptr b ver off => simpa [VR] using h
  | .agg cs =>
    rw [noReg] at hx; rw [VR] at h ⊢
    obtain ⟨vs, h1, h2, h3⟩ := h
    exact ⟨vs, h1, h2, VRs.reg h0 hr cs _ hx h3⟩
  | .tup cs =>
    rw [noReg] at hx; rw [VR] at h ⊢
    obtain ⟨vs, h1, h2, h3⟩ := h
    exact ⟨vs, h1, h2, VRs.reg h0 hr cs _ hx h3⟩
  | .fn f cs =>
    rw [noReg] at hx; rw [VR] at h ⊢
    obtain ⟨vs, h1, h2, h3⟩ := h
    exact ⟨vs, h1, h2, VRs.reg h0 hr cs _ hx h3⟩
  | .ifc t y =>
    rw [noReg] at hx; rw [VR] at h ⊢
    obtain ⟨z, h1, h2⟩ := h
    exact ⟨z, h1, VR.reg h0 hr y z hx h2⟩
  | .vz q n cs =>
    rw [noReg] at hx; rw [VR] at h ⊢
    obtain ⟨p, cap, h1, h2, h3⟩ := h
    refine ⟨p, cap, h1, h2, h3.imp id ?_⟩
    rintro ⟨rb, ro, e, hq, hc⟩
    exact ⟨rb, ro, e, hr _ _ hx hq, VRs.mono (fun _ _ _ => rfl) hR0 (LLe.refl _) cs _ _ hc fun _ _ h => h⟩
  | .vptr q cs off =>
    rw [noReg] at hx; rw [VR] at h ⊢
    obtain ⟨rb, ro, e, hq, hc⟩ := h
    exact ⟨rb, ro, e, hr _ _ hx hq, VRs.mono (fun _ _ _ => rfl) hR0 (LLe.refl _) cs _ _ hc fun _ _ h => h⟩
termination_by structural x
theorem VRs.reg {w : World} {R R' : Reg} {L : List BL} {r : Nat} (h0 : ∀ b, R 0 b → R' 0 b) (hr : ∀ q b, q ≠ r → R q b → R' q b) (cs : List PV) (g : Nat → Option Value) (hx : noRegs r cs) (h : VRs w R L cs g) :
    VRs w R' L cs g := by
  match cs with
  | [] => simp [VRs]
  | c :: cs =>
    rw [VRs] at h ⊢
    simp only [noRegs] at hx
    obtain ⟨⟨u, h1, h2⟩, h3⟩ := h
    exact ⟨⟨u, h1, VR.reg h0 hr c u hx.1 h2⟩, VRs.reg h0 hr cs _ hx.2 h3⟩
termination_by structural cs
end
end Go.Fw
