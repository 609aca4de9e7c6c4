/- The operations that touch no memory, in the pure logic; each is what the machine does. -/
import Derived.Test.YtaloakmffdejgaaFwB
import Derived.Laws.Tables
import Derived.Laws.StructEq
set_option linter.unusedVariables false
namespace Go.Fw
open Go

inductive TK where
  | slice (e : Nat)
  | array (n e : Nat)
  | struct (fs : List (Nat × Nat × Bool))
  | int (k : IntKind)
  | str
  | bool
  | ptr (e : Nat)
  | other

structure TR where
  size : Nat
  bytes : Nat
  agg : Bool
  eqs : List TK
  flag : Bool
  kind : TK
  zero : Value

/-- A field that is compared as it stands. -/
def EK (P : Program) (t : Nat) : TK → Prop
  | .int k => P.underlying t = some (.int k)
  | .str => P.underlying t = some .string
  | .bool => P.underlying t = some .bool
  | _ => False

def FEq (P : Program) : List Field → List TK → Nat → Prop
  | [], [], _ => True
  | f :: fs, k :: ks, i => f.name ≠ "_" ∧ f.offset = i ∧ (∀ w, (isAgg f.type).run P w = .ok false w) ∧ EK P f.type k ∧ FEq P fs ks (i + 1)
  | _, _, _ => False

def EqOk (P : Program) (t : Nat) (ks : List TK) : Prop := ks = [] ∨ (P.eqGuardType P.depth t = false ∧ P.stoodInHeld t = false ∧ P.underlying t = some (.struct (P.fieldsOf t)) ∧ FEq P (P.fieldsOf t).toList ks 0)

def KOk (P : Program) (t : Nat) : TK → Prop
  | .slice e => P.underlying t = some (.slice e)
  | .array n e => P.underlying t = some (.array n e)
  | .struct fs => ∃ fields : Array Field, P.underlying t = some (.struct fields) ∧ fields.toList.mapM (fun f => (P.info? f.type).map fun i => (f.offset, i.size)) = some (fs.map fun z => (z.1, z.2.1)) ∧ ∀ (i : Nat) (z : Nat × Nat × Bool), fs[i]? = some z → ∃ f : Field, fields[i]? = some f ∧ f.offset = z.1 ∧
      (∀ w, (sizeOf f.type).run P w = .ok z.2.1 w) ∧ (∀ w, (isAgg f.type).run P w = .ok z.2.2 w) ∧ z.2.1 ≠ 0
  | .int k => P.underlying t = some (.int k)
  | .str => P.underlying t = some .string
  | .bool => P.underlying t = some .bool
  | .ptr e => P.underlying t = some (.pointer e)
  | .other => (P.underlying t).isSome = true

structure TROk (P : Program) (t : Nat) (r : TR) : Prop where
  size : ∀ w, (sizeOf t).run P w = .ok r.size w
  agg : ∀ w, (isAgg t).run P w = .ok r.agg w
  zero : ∀ w, (zeroValue t).run P w = .ok r.zero w
  info : ∃ i, P.info? t = some i ∧ i.bytes = r.bytes ∧ i.size = r.size ∧ i.zero = some r.zero
  zsz : r.zero.cells.size = r.size
  eqs : EqOk P t r.eqs
  kind : KOk P t r.kind

theorem info_of {P : Program} {t b s : Nat} {z : Value} (h : (P.info? t).map (fun i => (i.bytes, i.size, i.zero)) = some (b, s, some z)) : ∃ i, P.info? t = some i ∧ i.bytes = b ∧ i.size = s ∧ i.zero = some z := by
  simp only [Option.map_eq_some_iff] at h
  obtain ⟨i, hi, e⟩ := h
  injection e with e1 e2
  injection e2 with e2 e3
  exact ⟨i, hi, e1, e2, e3⟩

def FOk (P : Program) : List Field → List (Nat × Nat × Bool) → Prop
  | [], [] => True
  | f :: fs, z :: zs => f.offset = z.1 ∧ (∀ w, (sizeOf f.type).run P w = .ok z.2.1 w) ∧ (∀ w, (isAgg f.type).run P w = .ok z.2.2 w) ∧ z.2.1 ≠ 0 ∧ FOk P fs zs
  | _, _ => False

theorem FOk_get {P : Program} : ∀ (fs : List Field) (zs : List (Nat × Nat × Bool)), FOk P fs zs → ∀ (i : Nat) (z : Nat × Nat × Bool), zs[i]? = some z → ∃ f : Field, fs[i]? = some f ∧ f.offset = z.1 ∧
      (∀ w, (sizeOf f.type).run P w = .ok z.2.1 w) ∧ (∀ w, (isAgg f.type).run P w = .ok z.2.2 w) ∧ z.2.1 ≠ 0
  | [], [], _, i, z, h => by simp at h
  | f :: fs, z0 :: zs, h, i, z, hz => by
    cases i with
    | zero => simp at hz; subst hz; exact ⟨f, rfl, h.1, h.2.1, h.2.2.1, h.2.2.2.1⟩
    | succ i => exact FOk_get fs zs h.2.2.2.2 i z (by simpa using hz)
  | [], _ :: _, h, _, _, _ => by cases h
  | _ :: _, [], h, _, _, _ => by cases h

theorem struct_ok {P : Program} {t : Nat} {fields : Array Field} {fs : List (Nat × Nat × Bool)} (hu : P.underlying t = some (.struct fields))
    (hm : fields.toList.mapM (fun f => (P.info? f.type).map fun i => (f.offset, i.size)) = some (fs.map fun z => (z.1, z.2.1))) (hf : FOk P fields.toList fs) : KOk P t (.struct fs) :=
  ⟨fields, hu, hm, fun i z hz => by
    obtain ⟨f, h1, h2⟩ := FOk_get _ _ hf i z hz
    exact ⟨f, by simpa using h1, h2⟩⟩

theorem eq_struct {P : Program} {t : Nat} {fields : Array Field} {ks : List TK} (h1 : P.eqGuardType P.depth t = false) (h2 : P.stoodInHeld t = false) (hu : P.underlying t = some (.struct fields)) (hf : FEq P fields.toList ks 0) : EqOk P t ks := by
  have e : P.fieldsOf t = fields := by simp [Program.fieldsOf, hu]
  exact .inr ⟨h1, h2, by rw [e]; exact hu, by rw [e]; exact hf⟩

abbrev Tab := Nat → Option TR
def TOk (P : Program) (T : Tab) : Prop := ∀ t r, T t = some r → TROk P t r

/-- The table that is flagged: appends within what is known of a row stay there. -/
def flagged (T : Tab) : Tab := fun t => (T t).map fun r => { r with flag := true }
theorem TOk.flagged {P : Program} {T : Tab} (h : TOk P T) : TOk P (flagged T) := by
  intro t r hr
  simp only [Fw.flagged, Option.map_eq_some_iff] at hr
  obtain ⟨r0, h0, rfl⟩ := hr
  have := h t r0 h0
  exact ⟨this.size, this.agg, this.zero, this.info, this.zsz, this.eqs, this.kind⟩

/-- A constant. -/
def ofV1 : Value → PV
  | .int k n => .int k n
  | .bool b => .bool b
  | .string s => .str s.data.toList
  | .slice a n c => if a.isNone && n == 0 && c == 0 then .nils else .unk
  | .pointer a => if a.isNone then .nilp else .unk
  | .nilFunc => .nilfn
  | .nilIface => .nili
  | .func (.func f) fs cs => if fs.isEmpty && cs.isEmpty then .fn f [] else .unk
  | _ => .unk
def ofV : Value → PV
  | .agg cs => .agg (cs.toList.map ofV1)
  | v => ofV1 v

theorem VR_ofV1 (w : World) (R : Reg) (L : List BL) (v : Value) : VR w R L (ofV1 v) v := by
  cases v with
  | int k n => simp [ofV1, VR]
  | bool b => simp [ofV1, VR]
  | string s => simp [ofV1, VR]
  | slice a n c =>
    simp only [ofV1]
    split
    · rename_i h
      simp at h
      simp [VR, h]
    · simp [VR]
  | pointer a =>
    simp only [ofV1]
    split
    · rename_i h
      simp at h
      simp [VR, h]
    · simp [VR]
  | func f fs cs =>
    cases f with
    | func f =>
      simp only [ofV1]
      split
      · rename_i h
        simp at h
        simp [VR, VRs, h]
      · simp [VR]
    | _ => simp [ofV1, VR]
  | nilFunc => simp [ofV1, VR]
  | nilIface => simp [ofV1, VR]
  | _ => simp [ofV1, VR]

theorem VRs_map (w : World) (R : Reg) (L : List BL) (vs : List Value) : VRs w R L (vs.map ofV1) (fun i => vs[i]?) := by
  rw [VRs_iff]
  intro i c hc
  simp only [List.getElem?_map, Option.map_eq_some_iff] at hc
  obtain ⟨v, hv, rfl⟩ := hc
  exact ⟨v, hv, VR_ofV1 _ _ _ _⟩

theorem VR_ofV (w : World) (R : Reg) (L : List BL) (v : Value) : VR w R L (ofV v) v := by
  unfold ofV
  split
  · rename_i cs
    rw [VR]
    refine ⟨cs, rfl, by simp, ?_⟩
    simpa using VRs_map w R L cs.toList
  · exact VR_ofV1 _ _ _ _

def ev (t : Nat → PV) : Operand → PV
  | .tmp i => t i
  | .const v => ofV v
  | .global _ => .unk
  | .func f => .fn f []

theorem VR_ev {L : List BL} {F : Nat → Prop} {R : Reg} {s : St} {a : Act} {w : World} (hs : SR L F R s a w) (x : Operand) : VR w R L (ev s.t x) (a.eval x) := by
  cases x with
  | tmp i => exact hs.t i
  | const v => exact VR_ofV _ _ _ _
  | global g => simp [ev, VR]
  | func f => simp [ev, VR, VRs, Act.eval]

def intP (op : BinOp) (k : IntKind) (a b : Int) : Option PV :=
  match op with
  | .add => some (.int k (k.wrap (a + b)))
  | .sub => some (.int k (k.wrap (a - b)))
  | .mul => some (.int k (k.wrap (a * b)))
  | .quo => if b = 0 then none else some (.int k (k.wrap (a.tdiv b)))
  | .rem => if b = 0 then none else some (.int k (a.tmod b))
  | .and => some (.int k (bits .and k a b))
  | .or => some (.int k (bits .or k a b))
  | .xor => some (.int k (bits .xor k a b))
  | .andNot => some (.int k (bits .andNot k a b))
  | .eql => some (.bool (decide (a = b)))
  | .neq => some (.bool (!decide (a = b)))
  | .lss => some (.bool (decide (a < b)))
  | .leq => some (.bool (decide (a ≤ b)))
  | .gtr => some (.bool (decide (b < a)))
  | .geq => some (.bool (decide (b ≤ a)))
  | _ => none

def strP (op : BinOp) (a b : List UInt8) : Option PV :=
  match op with
  | .add => if a.length + b.length ≤ 9223372036854775807 then some (.str (a ++ b)) else none
  | .eql => some (.bool (decide (a = b)))
  | .neq => some (.bool (!decide (a = b)))
  | .lss => some (.bool (Op.bytesLess a b))
  | .leq => some (.bool (Op.bytesLess a b || decide (a = b)))
  | .gtr => some (.bool (!(Op.bytesLess a b || decide (a = b))))
  | .geq => some (.bool (!(Op.bytesLess a b)))
  | _ => none

def shP (op : BinOp) (k : IntKind) (a b : Int) : Option PV :=
  if 0 ≤ b ∧ b ≤ k.bits then
    match op with
    | .shl => some (.int k (k.wrap (a * 2 ^ b.toNat)))
    | .shr => some (.int k (a / 2 ^ b.toNat))
    | _ => none
  else none

def isSh : BinOp → Bool
  | .shl | .shr => true
  | _ => false

/-- Are rows of cells alike? -/
def eqL : List TK → List PV → List PV → Option Bool
  | [], [], [] => some true
  | .int k :: ks, .int k1 a :: xs, .int k2 b :: ys => if k1 = k2 then (eqL ks xs ys).map (decide (a = b) && ·) else none
  | .str :: ks, .str a :: xs, .str b :: ys => (eqL ks xs ys).map (decide (a = b) && ·)
  | .bool :: ks, .bool a :: xs, .bool b :: ys => (eqL ks xs ys).map ((a == b) && ·)
  | _, _, _ => none

def eqS (T : Tab) (op : BinOp) (xt : Nat) (xs ys : List PV) : Option PV :=
  match T xt with
  | some r =>
    match r.eqs with
    | [] => none
    | k :: ks =>
      match eqL (k :: ks) xs ys with
      | some b =>
        match op with
        | .eql => some (.bool b)
        | .neq => some (.bool (!b))
        | _ => none
      | none => none
  | none => none

def binP (T : Tab) (op : BinOp) (xt : Nat) (x y : PV) : Option PV :=
  match x, y with
  | .agg xs, .agg ys => eqS T op xt xs ys
  | .int k a, .int k' b => if isSh op then shP op k a b else if k = k' then intP op k a b else none
  | .str a, .str b => strP op a b
  | .bool a, .bool b =>
    match T xt with
    | some { kind := .bool, .. } =>
      match op with
      | .eql => some (.bool (a == b))
      | .neq => some (.bool (!(a == b)))
      | _ => none
    | _ => none
  | _, _ => none

theorem bytes_toList (s : List UInt8) : (⟨s.toArray⟩ : ByteArray).toList = s := by
  have key : ∀ (n i : Nat) (acc : List UInt8), s.length - i = n → ByteArray.toList.loop ⟨s.toArray⟩ i acc = acc.reverse ++ s.drop i := by
    intro n
    induction n with
    | zero =>
      intro i acc h
      rw [ByteArray.toList.loop]
      have : ¬ i < (⟨s.toArray⟩ : ByteArray).size := by simp [ByteArray.size]; omega
      rw [if_neg this, List.drop_of_length_le (by omega)]
      simp
    | succ n ih =>
      intro i acc h
      rw [ByteArray.toList.loop]
      have hlt : i < s.length := by omega
      have : i < (⟨s.toArray⟩ : ByteArray).size := by simpa [ByteArray.size] using hlt
      rw [if_pos this, ih (i + 1) _ (by omega), List.drop_eq_getElem_cons hlt]
      simp [ByteArray.get!, hlt]
  simpa [ByteArray.toList] using key s.length 0 [] rfl

theorem beq_dec {α : Type} [BEq α] [LawfulBEq α] [DecidableEq α] (a b : α) : (a == b) = decide (a = b) := by
  rw [Bool.eq_iff_iff]; simp

theorem eqGuard_pure (op : BinOp) (t : Nat) (x y : Operand) (u v : Value) (h : (∃ k n, u = .int k n) ∨ (∃ b, u = .bool b) ∨ (∃ s, u = .string s)) : eqGuard op t x y u v = pure () := by
  rcases h with ⟨k, n, rfl⟩ | ⟨b, rfl⟩ | ⟨s, rfl⟩ <;> cases op <;> rfl

theorem eqL_sound {P : Program} {w : World} {R : Reg} {L : List BL} {us vs : Array Value} (d : Nat) : ∀ (fs : List Field) (ks : List TK) (xs ys : List PV) (i : Nat) (b : Bool), FEq P fs ks i →
    VRs w R L xs (fun j => us[i + j]?) → VRs w R L ys (fun j => vs[i + j]?) → eqL ks xs ys = some b → (Op.eqFields (d + 1) us vs fs).run P w = .ok b w
  | [], [], xs, ys, i, b, _, _, _, h => by
    cases xs <;> cases ys <;> simp [eqL] at h
    subst h; simp [Op.eqFields]
  | [], k :: ks, _, _, _, _, hf, _, _, _ => by cases hf
  | f :: fs, [], _, _, _, _, hf, _, _, _ => by cases hf
  | f :: fs, k :: ks, xs, ys, i, b, hf, hx, hy, h => by
    obtain ⟨f1, f2, f3, f4, f5⟩ := hf
    cases xs with
    | nil => cases k <;> simp [eqL] at h
    | cons x xs =>
    cases ys with
    | nil => cases k <;> cases x <;> simp [eqL] at h
    | cons y ys =>
    rw [VRs] at hx hy
    obtain ⟨⟨u, u1, u2⟩, hx'⟩ := hx
    obtain ⟨⟨v, v1, v2⟩, hy'⟩ := hy
    simp only [Nat.add_zero] at u1 v1
    have hx2 : VRs w R L xs (fun j => us[i + 1 + j]?) := VRs.mono (fun _ _ _ => rfl) (fun _ _ h => h) (LLe.refl _) _ _ _ hx' fun j z hz => by rw [← hz]; congr 1; omega
    have hy2 : VRs w R L ys (fun j => vs[i + 1 + j]?) := VRs.mono (fun _ _ _ => rfl) (fun _ _ h => h) (LLe.refl _) _ _ _ hy' fun j z hz => by rw [← hz]; congr 1; omega
    have step : ∀ c : Bool, (Op.equalIn (d + 1) f.type u v).run P w = .ok c w → ∀ b', eqL ks xs ys = some b' → (c && b') = b → (Op.eqFields (d + 1) us vs (f :: fs)).run P w = .ok b w := by
      intro c hc b' hb' e
      have ih := eqL_sound d fs ks xs ys (i + 1) b' f5 hx2 hy2 hb'
      simp only [Op.eqFields, if_pos f1, Sem.run_bind]
      have pu : (part f.type us f.offset).run P w = .ok u w := by simp [part, f3, f2, u1]
      have pv : (part f.type vs f.offset).run P w = .ok v w := by simp [part, f3, f2, v1]
      simp only [pu, pv, hc, Result.andThen_ok]
      cases c
      · simp at e; subst e; simp
      · simp at e; subst e; simpa using ih
    cases k <;> cases x <;> (try (simp [eqL] at h; done)) <;> cases y <;> (try (simp [eqL] at h; done))
    · rename_i k k1 a k2 b'
      simp only [eqL] at h
      split at h
      · rename_i hk
        subst hk
        simp only [Option.map_eq_some_iff] at h
        obtain ⟨b2, hb2, e⟩ := h
        rw [VR] at u2 v2
        subst u2 v2
        refine step (decide (a = b')) ?_ b2 hb2 e
        rw [run_equalIn_int w d f.type k1 k a b' f4]
        rfl
      · cases h
    · rename_i a b'
      simp only [eqL, Option.map_eq_some_iff] at h
      obtain ⟨b2, hb2, e⟩ := h
      rw [VR] at u2 v2
      subst u2 v2
      refine step (decide (a = b')) ?_ b2 hb2 e
      rw [run_equalIn_string w d f.type _ _ f4, bytes_toList, bytes_toList]
      congr 1
      rw [Bool.eq_iff_iff]; simp
    · rename_i a b'
      simp only [eqL, Option.map_eq_some_iff] at h
      obtain ⟨b2, hb2, e⟩ := h
      rw [VR] at u2 v2
      subst u2 v2
      exact step (a == b') (run_equalIn_bool' w d f.type a b' f4) b2 hb2 e

theorem eqS_sound {P : Program} {T : Tab} (hT : TOk P T) {w : World} {R : Reg} {L : List BL} {op : BinOp} {xt : Nat} {X Y : List PV} {r : PV} {x y : Operand} {u v : Value}
    (hx : VR w R L (.agg X) u) (hy : VR w R L (.agg Y) v) (h : eqS T op xt X Y = some r) :
    ∃ z, (do eqGuard op xt x y u v; binOp op xt u v : Sem Value).run P w = .ok z w ∧ VR w R L r z := by
  unfold eqS at h
  split at h
  case h_2 => cases h
  rename_i tr hT0
  have he := (hT _ _ hT0).eqs
  split at h
  case h_1 => cases h
  rename_i k ks hk
  rw [hk] at he
  rcases he with he | ⟨e1, e2, e3, e4⟩
  · cases he
  split at h
  case h_2 => cases h
  rename_i b hb
  rw [VR] at hx hy
  obtain ⟨us, rfl, hul, hx⟩ := hx
  obtain ⟨vs, rfl, hvl, hy⟩ := hy
  have hr : (Op.equalIn 10000 xt (.agg us) (.agg vs)).run P w = .ok b w := by
    rw [show (10000 : Nat) = 9999 + 1 from rfl, run_equalIn_struct w 9999 xt us vs e3 e2]
    exact eqL_sound (us := us) (vs := vs) 9998 _ (k :: ks) X Y 0 b e4 (by simpa using hx) (by simpa using hy) hb
  split at h
  · injection h with h; subst h
    exact ⟨.bool b, by simp [run_eqGuard_agg w _ xt x y us vs e1, run_eql_struct, hr], by rw [VR]⟩
  · injection h with h; subst h
    exact ⟨.bool (!b), by simp [run_eqGuard_agg w _ xt x y us vs e1, run_neq_struct, hr], by rw [VR]⟩
  · cases h

theorem binP_sound {P : Program} {T : Tab} (hT : TOk P T) {w : World} {R : Reg} {L : List BL} {op : BinOp} {xt : Nat} {X Y r : PV} {x y : Operand} {u v : Value}
    (hx : VR w R L X u) (hy : VR w R L Y v) (h : binP T op xt X Y = some r) :
    ∃ z, (do eqGuard op xt x y u v; binOp op xt u v : Sem Value).run P w = .ok z w ∧ VR w R L r z := by
  unfold binP at h
  split at h
  · exact eqS_sound hT hx hy h
  · rename_i k a k' b
    rw [VR] at hx hy
    subst hx hy
    rw [eqGuard_pure op xt x y _ _ (.inl ⟨_, _, rfl⟩)]
    split at h
    · rename_i hsh
      unfold shP at h
      split at h
      · rename_i hb
        cases op <;> simp [isSh] at hsh h
        · subst h
          refine ⟨_, ?_, by rw [VR]⟩
          simp [binOp_shl, shift_shl k k' a b hb.1 hb.2]
        · subst h
          refine ⟨_, ?_, by rw [VR]⟩
          simp [binOp_shr, shift_shr k k' a b hb.1 hb.2]
      · cases h
    · rename_i hsh
      split at h
      · rename_i hk
        subst hk
        cases op <;> simp [isSh] at hsh <;> simp only [intP] at h
        all_goals first
          | (injection h with h; subst h; refine ⟨_, ?_, by rw [VR]⟩; simp [binOp_add, binOp_sub, binOp_mul, binOp_and, binOp_or, binOp_xor, binOp_andNot, intBits_and, intBits_or, intBits_xor, intBits_andNot, binOp_lss, binOp_leq, binOp_gtr, binOp_geq, Op.intArith]; done)
          | (split at h; · cases h
             rename_i hb; injection h with h; subst h; refine ⟨_, ?_, by rw [VR]⟩; simp [binOp_quo, binOp_rem, Op.intDiv, hb]; done)
          | (injection h with h; subst h; refine ⟨_, ?_, by rw [VR]⟩; first | rw [binOp_eql, beq_dec] | rw [binOp_neq, bne, beq_dec]
             rfl)
      · cases h
  · rename_i a b
    rw [VR] at hx hy
    subst hx hy
    rw [eqGuard_pure op xt x y _ _ (.inr (.inr ⟨_, rfl⟩))]
    have hb : ∀ op, binOp op xt (.string ⟨a.toArray⟩) (.string ⟨b.toArray⟩) = Op.stringOp op ⟨a.toArray⟩ ⟨b.toArray⟩ := by intro op; cases op <;> simp [binOp]
    cases op <;> simp only [strP] at h
    case add =>
      split at h
      · rename_i hl
        injection h with h; subst h
        refine ⟨.string ⟨(a ++ b).toArray⟩, ?_, by rw [VR]⟩
        have e : (⟨a.toArray⟩ : ByteArray) ++ ⟨b.toArray⟩ = ⟨(a ++ b).toArray⟩ := by
          apply ByteArray.ext; simp
        have hn : ¬ ((((⟨a.toArray⟩ : ByteArray).size + (⟨b.toArray⟩ : ByteArray).size : Nat) : Int) > IntKind.i64.max) := by
          simp [ByteArray.size]; omega
        simp only [pure_bind, hb, Op.stringOp, if_neg hn, e]
        rfl
      · cases h
    all_goals first
      | (cases h; done)
      | (injection h with h; subst h; refine ⟨_, ?_, by rw [VR]⟩; simp only [pure_bind, hb, Op.stringOp, bytes_toList, beq_dec]; rfl)
  · rename_i a b
    rw [VR] at hx hy
    subst hx hy
    rw [eqGuard_pure op xt x y _ _ (.inr (.inl ⟨_, rfl⟩))]
    split at h
    · rename_i hT0
      have hk := (hT _ _ hT0).kind
      simp only [KOk] at hk
      have he : (Op.equal xt (.bool a) (.bool b)).run P w = .ok (a == b) w := by
        rw [Op.equal, show Op.maxDepth = 9999 + 1 from rfl, Op.equalIn]
        simp [run_underlying hk]
      split at h
      · injection h with h; subst h
        refine ⟨_, ?_, by rw [VR]⟩
        simp [binOp, he]
      · injection h with h; subst h
        refine ⟨_, ?_, by rw [VR]⟩
        simp [binOp, he]
      · cases h
    · cases h
  · cases h

def unP (op : UnOp) (x : PV) : Option PV :=
  match op, x with
  | .not, .bool b => some (.bool (!b))
  | .neg, .int k n => some (.int k (k.wrap (0 - n)))
  | _, _ => none

theorem unP_sound {P : Program} {w : World} {R : Reg} {L : List BL} {op : UnOp} {X r : PV} {u : Value} (hx : VR w R L X u) (h : unP op X = some r) :
    ∃ z, (Op.unary op u).run P w = .ok z w ∧ VR w R L r z := by
  unfold unP at h
  split at h
  · rename_i b
    rw [VR] at hx; subst hx; injection h with h; subst h
    exact ⟨.bool (!b), by simp [Op.unary], by rw [VR]⟩
  · rename_i k n
    rw [VR] at hx; subst hx; injection h with h; subst h
    exact ⟨.int k (k.wrap (0 - n)), by simp [Op.unary, Op.intArith], by rw [VR]⟩
  · cases h

def convP (T : Tab) (src dst : Nat) (x : PV) : Option PV :=
  match x with
  | .int _ n => match T src, T dst with
    | some { kind := .int _, .. }, some { kind := .int k, .. } => some (.int k (k.wrap n))
    | _, _ => none
  | .str s => match T src, T dst with
    | some { kind := .str, .. }, some { kind := .str, .. } => some (.str s)
    | _, _ => none
  | _ => none

theorem convP_sound {P : Program} {T : Tab} (hT : TOk P T) {w : World} {R : Reg} {L : List BL} {src dst : Nat} {X r : PV} {u : Value} (hx : VR w R L X u) (h : convP T src dst X = some r) :
    ∃ z, (convert src dst u).run P w = .ok z w ∧ VR w R L r z := by
  unfold convP at h
  split at h
  · rw [VR] at hx; subst hx
    split at h
    · rename_i h1 h2
      have k1 := (hT _ _ h1).kind
      have k2 := (hT _ _ h2).kind
      simp only [KOk] at k1 k2
      injection h with h; subst h
      refine ⟨_, ?_, by rw [VR]⟩
      simp [convert, run_underlying k1, run_underlying k2, Conv.intToInt]
    · cases h
  · rw [VR] at hx; subst hx
    split at h
    · rename_i h1 h2
      have k1 := (hT _ _ h1).kind
      have k2 := (hT _ _ h2).kind
      simp only [KOk] at k1 k2
      injection h with h; subst h
      refine ⟨_, ?_, by rw [VR]⟩
      simp [convert, run_underlying k1, run_underlying k2]
    · cases h
  · cases h

def fieldAddrP (T : Tab) (st : Nat) (x : PV) (f : Nat) : Option PV :=
  match T st with
  | some { kind := .struct fs, .. } =>
    match fs[f]? with
    | some z =>
      match x with
      | .ptr b ver off => some (.ptr b ver (off + z.1))
      | .vptr q cs off => some (.vptr q cs (off + z.1))
      | _ => none
    | none => none
  | _ => none

theorem fieldAddrP_sound {P : Program} {T : Tab} (hT : TOk P T) {w : World} {R : Reg} {L : List BL} {st f : Nat} {X r : PV} {u : Value} (hx : VR w R L X u) (h : fieldAddrP T st X f = some r) :
    ∃ z, (Instr.fieldAt st u f).run P w = .ok z w ∧ VR w R L r z := by
  unfold fieldAddrP at h
  split at h
  · rename_i fs h1
    have k1 := (hT _ _ h1).kind
    simp only [KOk] at k1
    obtain ⟨fields, hu, hmp, hf⟩ := k1
    split at h
    · rename_i z hz
      obtain ⟨fd, e1, e2, e3, e4, e5⟩ := hf f z hz
      split at h
      · rename_i b ver off
        injection h with h; subst h
        rw [VR] at hx
        obtain ⟨l, hl, hle, rb, o, rfl, hx⟩ := hx
        refine ⟨.pointer (some ⟨rb, o + z.1, none⟩), ?_, ?_⟩
        · simp [Instr.fieldAt, run_underlying hu, e1, Instr.sureAddr, fieldPlace, e3, e5, e2, Addr.add_lit]
        · rw [VR]
          refine ⟨l, hl, hle, rb, o + z.1, rfl, fun e => ?_⟩
          obtain ⟨ro, sz, q1, q2⟩ := hx e
          exact ⟨ro, sz, q1, by omega⟩
      · rename_i q cs off
        injection h with h; subst h
        rw [VR] at hx
        obtain ⟨rb, ro, rfl, hq, hc⟩ := hx
        refine ⟨.pointer (some ⟨rb, ro + (off + z.1), none⟩), ?_, ?_⟩
        · simp [Instr.fieldAt, run_underlying hu, e1, Instr.sureAddr, fieldPlace, e3, e5, e2, Addr.add_lit, Nat.add_assoc]
        · rw [VR]; exact ⟨rb, ro, rfl, hq, hc⟩
      · cases h
    · cases h
  · cases h

def indexAddrP (T : Tab) (t : Nat) (x i : PV) : Option PV :=
  match i with
  | .int _ i =>
    match T t with
    | some { kind := .slice e, .. } =>
      match T e with
      | some re =>
        match x with
        | .vz q n cs => if 0 ≤ i ∧ i < n then some (.vptr q cs (i.toNat * re.size)) else none
        | .sl b ver k off n => if 0 ≤ i ∧ i < n ∧ k = re.size then some (.ptr b ver (off + i.toNat * re.size)) else none
        | _ => none
      | none => none
    | some { kind := .array n e, .. } =>
      match T e with
      | some re =>
        match x with
        | .ptr b ver off => if 0 ≤ i ∧ i < n then some (.ptr b ver (off + i.toNat * re.size)) else none
        | .vptr q cs off => if 0 ≤ i ∧ i < n then some (.vptr q cs (off + i.toNat * re.size)) else none
        | _ => none
      | none => none
    | _ => none
  | _ => none

theorem indexAddrP_sound {P : Program} {T : Tab} (hT : TOk P T) {w : World} {R : Reg} {L : List BL} {t : Nat} {X I r : PV} {u v : Value} (hx : VR w R L X u) (hi : VR w R L I v) (h : indexAddrP T t X I = some r) :
    ∃ z, (Instr.indexAt t u v).run P w = .ok z w ∧ VR w R L r z := by
  unfold indexAddrP at h
  split at h
  · rename_i ki i
    rw [VR] at hi; subst hi
    split at h
    · rename_i e h1
      have k1 := (hT _ _ h1).kind
      simp only [KOk] at k1
      split at h
      · rename_i re h2
        have hsz := (hT _ _ h2).size
        split at h
        · rename_i q n cs
          split at h
          · rename_i hb
            injection h with h; subst h
            rw [VR] at hx
            obtain ⟨p, cap, rfl, hcap, hx⟩ := hx
            rcases hx with ⟨_, hn⟩ | ⟨rb, ro, rfl, hq, hc⟩
            · omega
            · refine ⟨.pointer (some ⟨rb, ro + i.toNat * re.size, none⟩), ?_, ?_⟩
              · simp [Instr.indexAt, run_underlying k1, asIntOf, hb, hsz, Addr.add_lit]
              · rw [VR]; exact ⟨rb, ro, rfl, hq, hc⟩
          · cases h
        · rename_i b ver k off n
          split at h
          · rename_i hb
            injection h with h; subst h
            rw [VR] at hx
            obtain ⟨l, hl, hle, p, cap, rfl, hcap, hx⟩ := hx
            rcases hx with ⟨hc0, _⟩ | ⟨rb, o, rfl, hx⟩
            · omega
            · refine ⟨.pointer (some ⟨rb, o + i.toNat * re.size, none⟩), ?_, ?_⟩
              · simp [Instr.indexAt, run_underlying k1, asIntOf, hb, hsz, Addr.add_lit]
              · rw [VR]
                refine ⟨l, hl, hle, rb, _, rfl, fun e => ?_⟩
                obtain ⟨ro, sz, q1, q2, q3⟩ := hx e
                exact ⟨ro, sz, q1, by omega⟩
          · cases h
        · cases h
      · cases h
    · rename_i n e h1
      have k1 := (hT _ _ h1).kind
      simp only [KOk] at k1
      split at h
      · rename_i re h2
        have hsz := (hT _ _ h2).size
        split at h
        · rename_i b ver off
          split at h
          · rename_i hb
            injection h with h; subst h
            rw [VR] at hx
            obtain ⟨l, hl, hle, rb, o, rfl, hx⟩ := hx
            refine ⟨.pointer (some ⟨rb, o + i.toNat * re.size, none⟩), ?_, ?_⟩
            · simp [Instr.indexAt, run_underlying k1, asIntOf, hb, hsz, Addr.add_lit, Instr.sureAddr]
            · rw [VR]
              refine ⟨l, hl, hle, rb, _, rfl, fun e => ?_⟩
              obtain ⟨ro, sz, q1, q2⟩ := hx e
              exact ⟨ro, sz, q1, by omega⟩
          · cases h
        · rename_i q cs off
          split at h
          · rename_i hb
            injection h with h; subst h
            rw [VR] at hx
            obtain ⟨rb, ro, rfl, hq, hc⟩ := hx
            refine ⟨.pointer (some ⟨rb, ro + (off + i.toNat * re.size), none⟩), ?_, ?_⟩
            · simp [Instr.indexAt, run_underlying k1, asIntOf, hb, hsz, Addr.add_lit, Instr.sureAddr, Nat.add_assoc]
            · rw [VR]; exact ⟨rb, ro, rfl, hq, hc⟩
          · cases h
        · cases h
      · cases h
    · cases h
  · cases h

/-- A part of a struct's or an array's cells. -/
def partP (ag : Bool) (size off : Nat) (cs : List PV) : Option PV :=
  if ag then some (.agg ((cs.drop off).take size)) else cs[off]?

def fieldP (T : Tab) (st : Nat) (x : PV) (f : Nat) : Option PV :=
  match T st with
  | some { kind := .struct fs, .. } =>
    match fs[f]?, x with
    | some z, .agg cs => if z.1 + z.2.1 ≤ cs.length then partP z.2.2 z.2.1 z.1 cs else none
    | _, _ => none
  | _ => none

theorem VRs.drop_take {w : World} {R : Reg} {L : List BL} {cs : List PV} {g : Nat → Option Value} (h : VRs w R L cs g) (o n : Nat) : VRs w R L ((cs.drop o).take n) (fun i => g (o + i)) := by
  rw [VRs_iff] at h ⊢
  intro i c hc
  rw [List.getElem?_take] at hc
  split at hc
  · exact h (o + i) c (by simpa using hc)
  · cases hc

theorem part_sound {P : Program} {w : World} {R : Reg} {L : List BL} {t off : Nat} {ag : Bool} {size : Nat} {cs : List PV} {vs : Array Value} {r : PV} (hl : vs.size = cs.length) (hc : VRs w R L cs (fun i => vs[i]?))
    (h1 : ∀ w, (isAgg t).run P w = .ok ag w) (h2 : ∀ w, (sizeOf t).run P w = .ok size w) (hb : off + size ≤ cs.length) (h : partP ag size off cs = some r) :
    ∃ z, (part t vs off).run P w = .ok z w ∧ VR w R L r z := by
  unfold partP at h
  cases ag with
  | true =>
    simp only [if_true] at h
    injection h with h; subst h
    refine ⟨.agg (vs.extract off (off + size)), by simp [part, h1, h2], ?_⟩
    rw [VR]
    refine ⟨_, rfl, by simp; omega, ?_⟩
    have := hc.drop_take off size
    rw [VRs_iff] at this ⊢
    intro i c hi
    obtain ⟨u, hu, hv⟩ := this i c hi
    refine ⟨u, ?_, hv⟩
    rw [List.getElem?_take] at hi
    split at hi
    · simp [Array.getElem?_extract]
      refine ⟨by omega, hu⟩
    · cases hi
  | false =>
    simp only [Bool.false_eq_true, if_false] at h
    rw [VRs_iff] at hc
    obtain ⟨u, hu, hv⟩ := hc off r h
    exact ⟨u, by simp [part, h1, hu], hv⟩

theorem fieldP_sound {P : Program} {T : Tab} (hT : TOk P T) {w : World} {R : Reg} {L : List BL} {st f : Nat} {X r : PV} {u : Value} (hx : VR w R L X u) (h : fieldP T st X f = some r) :
    ∃ z, (Instr.field st u f).run P w = .ok z w ∧ VR w R L r z := by
  unfold fieldP at h
  split at h
  · rename_i fs h1
    have k1 := (hT _ _ h1).kind
    simp only [KOk] at k1
    obtain ⟨fields, hu, hmp, hf⟩ := k1
    split at h
    · rename_i z cs hz
      obtain ⟨fd, e1, e2, e3, e4, e5⟩ := hf f z hz
      split at h
      · rename_i hb
        rw [VR] at hx
        obtain ⟨vs, rfl, hl, hc⟩ := hx
        obtain ⟨y, hy, hv⟩ := part_sound hl hc e4 e3 hb h
        exact ⟨y, by simp [Instr.field, run_underlying hu, e1, asAgg, e2, hy], hv⟩
      · cases h
    · cases h
  · cases h


def indexP (T : Tab) (t : Nat) (x i : PV) : Option PV :=
  match i with
  | .int _ i =>
    match x with
    | .str s => match T t with
      | some { kind := .str, .. } => if 0 ≤ i then (s[i.toNat]?).map fun b => .int .u8 b.toNat else none
      | _ => none
    | .agg cs => match T t with
      | some { kind := .array n e, .. } => match T e with
        | some re => if 0 ≤ i ∧ i < n ∧ i.toNat * re.size + re.size ≤ cs.length then partP re.agg re.size (i.toNat * re.size) cs else none
        | none => none
      | _ => none
    | _ => none
  | _ => none

theorem indexP_sound {P : Program} {T : Tab} (hT : TOk P T) {w : World} {R : Reg} {L : List BL} {t : Nat} {X I r : PV} {u v : Value} (hx : VR w R L X u) (hi : VR w R L I v) (h : indexP T t X I = some r) :
    ∃ z, (Instr.index t u v).run P w = .ok z w ∧ VR w R L r z := by
  cases I with
  | int ki i =>
    rw [VR] at hi; subst hi
    cases X with
    | str s =>
      rw [VR] at hx; subst hx
      simp only [indexP] at h
      split at h
      · rename_i h1
        have k1 := (hT _ _ h1).kind
        simp only [KOk] at k1
        split at h
        · rename_i h0
          simp only [Option.map_eq_some_iff] at h
          obtain ⟨b, hb, rfl⟩ := h
          refine ⟨.int .u8 b.toNat, ?_, by rw [VR]⟩
          have hlt : i.toNat < s.length := (List.getElem?_eq_some_iff.1 hb).1
          have : (⟨s.toArray⟩ : ByteArray)[i.toNat]? = some b := by
            have hsz : i.toNat < (⟨s.toArray⟩ : ByteArray).size := by simpa [ByteArray.size] using hlt
            rw [getElem?_pos (⟨s.toArray⟩ : ByteArray) i.toNat hsz]
            congr 1
            have := (List.getElem?_eq_some_iff.1 hb).2
            simpa [ByteArray.getElem_eq_getElem_data] using this
          simp [Instr.index, asIntOf, run_underlying k1, h0, this]
        · cases h
      · cases h
    | agg cs =>
      simp only [indexP] at h
      split at h
      · rename_i n e h1
        have k1 := (hT _ _ h1).kind
        simp only [KOk] at k1
        split at h
        · rename_i re h2
          split at h
          · rename_i hb
            rw [VR] at hx
            obtain ⟨vs, rfl, hl, hc⟩ := hx
            obtain ⟨y, hy, hv⟩ := part_sound (P := P) hl hc (hT _ _ h2).agg (hT _ _ h2).size hb.2.2 h
            exact ⟨y, by simp [Instr.index, asIntOf, run_underlying k1, hb.1, hb.2.1, (hT _ _ h2).size, hy], hv⟩
          · cases h
        · cases h
      · cases h
    | _ => simp [indexP] at h
  | _ => simp [indexP] at h

/-- A bound of a cut, if it is given. -/
def cutB (o : Option PV) (d : Nat) : Option Nat :=
  match o with
  | none => some d
  | some (.int _ i) => if 0 ≤ i then some i.toNat else none
  | some _ => none

def sliceP (T : Tab) (t : Nat) (x : PV) (lo hi mx : Option PV) : Option PV :=
  match T t with
  | some { kind := .str, .. } =>
    match x, mx with
    | .str s, none =>
      match cutB lo 0, cutB hi s.length with
      | some l, some h => if l ≤ h ∧ h ≤ s.length then some (.str ((s.drop l).take (h - l))) else none
      | _, _ => none
    | _, _ => none
  | some { kind := .slice e, .. } =>
    match T e with
    | some re =>
      match x with
      | .nils =>
        match cutB lo 0, cutB hi 0, cutB mx 0 with
        | some 0, some 0, some 0 => if mx.isSome → hi.isSome then some .nils else none
        | _, _, _ => none
      | .vz q n cs =>
        match cutB lo 0, cutB hi n, cutB mx n with
        | some l, some h, some m => if l ≤ h ∧ h ≤ m ∧ m ≤ n ∧ (mx.isSome → hi.isSome) then some (.vz q (h - l) ((cs.drop (l * re.size)).take ((h - l) * re.size))) else none
        | _, _, _ => none
      | .sl b ver k off n =>
        match cutB lo 0, cutB hi n, cutB mx n with
        | some l, some h, some m => if l ≤ h ∧ h ≤ m ∧ m ≤ n ∧ (mx.isSome → hi.isSome) ∧ k = re.size then some (if mx.isSome then .unk else .sl b ver k (off + l * k) (h - l)) else none
        | _, _, _ => none
      | _ => none
    | none => none
  | _ => none

/-- How an operand that may be missing stands to its value. -/
def VRo (w : World) (R : Reg) (L : List BL) (o : Option PV) (v : Option Value) : Prop :=
  (o = none ∧ v = none) ∨ ∃ x z, o = some x ∧ v = some z ∧ VR w R L x z

theorem cutB_run {P : Program} {w : World} {R : Reg} {L : List BL} {o : Option PV} {v : Option Value} {d l y : Nat} (ho : VRo w R L o v) (h : cutB o d = some l) (hle : l ≤ y) :
    (o = none ∧ v = none ∧ l = d) ∨ ∃ x z, o = some x ∧ v = some z ∧ ∀ code, (Instr.sliceBound z y code).run P w = .ok l w := by
  rcases ho with ⟨rfl, rfl⟩ | ⟨x, z, rfl, rfl, hz⟩
  · left; simp [cutB] at h; exact ⟨rfl, rfl, h.symm⟩
  · right
    refine ⟨x, z, rfl, rfl, fun code => ?_⟩
    cases x with
    | int k i =>
      rw [VR] at hz; subst hz
      simp only [cutB] at h
      split at h
      · rename_i h0
        injection h with h; subst h
        have : i ≤ (y : Int) := by omega
        simp [Instr.sliceBound, asIntOf, h0, this]
      · cases h
    | _ => simp [cutB] at h

/-- The three bounds of a cut of a slice. -/
theorem bounds_run {P : Program} {w : World} {R : Reg} {L : List BL} {lo hi mx : Option PV} {vl vh vm : Option Value} {n cap l h m : Nat} (hl : VRo w R L lo vl) (hh : VRo w R L hi vh) (hm : VRo w R L mx vm)
    (e1 : cutB lo 0 = some l) (e2 : cutB hi n = some h) (e3 : cutB mx n = some m) (h1 : l ≤ h) (h2 : h ≤ m) (h3 : m ≤ n) (hc : n ≤ cap) (hmx : mx.isSome → hi.isSome) :
    ∃ m', h ≤ m' ∧ m' ≤ cap ∧ (Instr.sliceBounds true n cap vl vh vm).run P w = .ok (l, h, m') w ∧ (mx = none → m' = cap) := by
  rcases cutB_run (P := P) (y := cap) hm e3 (by omega) with ⟨rfl, rfl, rfl⟩ | ⟨xm, zm, rfl, rfl, a3⟩
  · refine ⟨cap, by omega, Nat.le_refl _, ?_, fun _ => rfl⟩
    rcases cutB_run (P := P) (y := cap) hh e2 (by omega) with ⟨rfl, rfl, rfl⟩ | ⟨xh, zh, rfl, rfl, a2⟩ <;>
      rcases cutB_run (P := P) (y := h) hl e1 h1 with ⟨rfl, rfl, rfl⟩ | ⟨xl, zl, rfl, rfl, a1⟩ <;> simp_all [Instr.sliceBounds]
  · refine ⟨m, h2, by omega, ?_, fun h => by cases h⟩
    rcases cutB_run (P := P) (y := m) hh e2 h2 with ⟨rfl, rfl, rfl⟩ | ⟨xh, zh, rfl, rfl, a2⟩
    · simp at hmx
    · rcases cutB_run (P := P) (y := h) hl e1 h1 with ⟨rfl, rfl, rfl⟩ | ⟨xl, zl, rfl, rfl, a1⟩ <;> simp_all [Instr.sliceBounds]

theorem sliceP_sound {P : Program} {T : Tab} (hT : TOk P T) {w : World} {R : Reg} {L : List BL} {t : Nat} {X r : PV} {u : Value} {lo hi mx : Option PV} {vl vh vm : Option Value} (hx : VR w R L X u)
    (hl : VRo w R L lo vl) (hh : VRo w R L hi vh) (hm : VRo w R L mx vm) (h : sliceP T t X lo hi mx = some r) :
    ∃ z, (Instr.sliceAt t u vl vh vm).run P w = .ok z w ∧ VR w R L r z := by
  unfold sliceP at h
  split at h
  · rename_i h1
    have k1 := (hT _ _ h1).kind
    simp only [KOk] at k1
    split at h
    · rename_i s
      rw [VR] at hx; subst hx
      rcases hm with ⟨_, rfl⟩ | ⟨_, _, e, _, _⟩
      case inr => cases e
      split at h
      · rename_i l hb e1 e2
        split at h
        · rename_i hle
          injection h with h; subst h
          have hsz : (⟨s.toArray⟩ : ByteArray).size = s.length := by simp [ByteArray.size]
          have key : (Instr.sliceBounds false s.length s.length vl vh none).run P w = .ok (l, hb, s.length) w := by
            rcases cutB_run (P := P) (y := s.length) hh e2 hle.2 with ⟨rfl, rfl, rfl⟩ | ⟨xh, zh, rfl, rfl, a2⟩ <;>
              (rcases cutB_run (P := P) (y := _) hl e1 hle.1 with ⟨rfl, rfl, rfl⟩ | ⟨xl, zl, rfl, rfl, a1⟩ <;> simp_all [Instr.sliceBounds])
          refine ⟨.string ⟨((s.drop l).take (hb - l)).toArray⟩, ?_, by rw [VR]⟩
          have e : (⟨s.toArray⟩ : ByteArray).extract l hb = ⟨((s.drop l).take (hb - l)).toArray⟩ := by
            apply ByteArray.ext
            apply Array.ext'
            simp [List.extract_eq_take_drop]
          simp [Instr.sliceAt, Instr.slice, run_underlying k1, hsz, key, e]
        · cases h
      · cases h
    · cases h
  · rename_i e h1
    have k1 := (hT _ _ h1).kind
    simp only [KOk] at k1
    split at h
    · rename_i re h2
      have hsz := (hT _ _ h2).size
      split at h
      · rw [VR] at hx; subst hx
        split at h
        · rename_i e1 e2 e3
          split at h
          · rename_i hmx
            injection h with h; subst h
            obtain ⟨m', q1, q2, q3, q4⟩ := bounds_run (P := P) (n := 0) (cap := 0) hl hh hm e1 e2 e3 (Nat.le_refl _) (Nat.le_refl _) (Nat.le_refl _) (Nat.le_refl _) hmx
            refine ⟨.slice none 0 0, ?_, by rw [VR]⟩
            have : m' = 0 := by omega
            subst this
            simp [Instr.sliceAt, Instr.slice, run_underlying k1, q3, hsz]
          · cases h
        · cases h
      · rename_i q n cs
        rw [VR] at hx
        obtain ⟨p, cap, rfl, hcap, hx⟩ := hx
        split at h
        · rename_i l hb m e1 e2 e3
          split at h
          · rename_i hle
            injection h with h; subst h
            obtain ⟨m', q1, q2, q3, q4⟩ := bounds_run (P := P) hl hh hm e1 e2 e3 hle.1 hle.2.1 hle.2.2.1 hcap hle.2.2.2
            refine ⟨.slice (if m' = l then p else p.map (·.add (l * re.size))) (hb - l) (m' - l), by simp [Instr.sliceAt, Instr.slice, run_underlying k1, q3, hsz], ?_⟩
            rw [VR]
            refine ⟨_, _, rfl, by omega, ?_⟩
            by_cases hml : m' = l
            · left
              have : hb - l = 0 := by omega
              simp [this]
            · rcases hx with ⟨rfl, rfl⟩ | ⟨rb, ro, rfl, hq, hc⟩
              · left; simp; omega
              · right
                refine ⟨rb, ro + l * re.size, ?_, hq, ?_⟩
                · simp [hml, Addr.add_lit]
                · have := hc.drop_take (l * re.size) ((hb - l) * re.size)
                  simpa [Nat.add_assoc] using this
          · cases h
        · cases h
      · rename_i b ver k off n
        rw [VR] at hx
        obtain ⟨lb, hlb, hver, p, cap, rfl, hcap, hx⟩ := hx
        split at h
        · rename_i l hb m e1 e2 e3
          split at h
          · rename_i hle
            injection h with h; subst h
            obtain ⟨m', q1, q2, q3, q4⟩ := bounds_run (P := P) hl hh hm e1 e2 e3 hle.1 hle.2.1 hle.2.2.1 hcap hle.2.2.2.1
            have hk := hle.2.2.2.2
            subst hk
            refine ⟨.slice (if m' = l then p else p.map (·.add (l * re.size))) (hb - l) (m' - l), by simp [Instr.sliceAt, Instr.slice, run_underlying k1, q3, hsz], ?_⟩
            cases hmx : mx.isSome
            case true => simp [VR]
            have hmc : m' = cap := q4 (by simpa using hmx)
            subst hmc
            simp only [Bool.false_eq_true, if_false]
            rw [VR]
            refine ⟨lb, hlb, hver, _, _, rfl, by omega, ?_⟩
            by_cases hml : m' = l
            · left
              refine ⟨by omega, fun e rb' ro' sz' hloc => ?_⟩
              rcases hx with ⟨hc0, hx⟩ | ⟨rb, o, rfl, hx⟩
              · have := hx e _ _ _ hloc
                have hl0 : l = 0 := by omega
                subst hl0; omega
              · obtain ⟨ro, sz, z1, z2, z3⟩ := hx e
                rw [hloc] at z1
                injection z1 with z1
                injection z1 with _ z1
                injection z1 with z0 z1
                subst hml; omega
            · rcases hx with ⟨hc0, _⟩ | ⟨rb, o, rfl, hx⟩
              · omega
              · right
                refine ⟨rb, o + l * re.size, by simp [hml, Addr.add_lit], fun e => ?_⟩
                obtain ⟨ro, sz, z1, z2, z3⟩ := hx e
                refine ⟨ro, sz, z1, by omega, ?_⟩
                have h1 : (m' - l) * re.size + l * re.size = m' * re.size := by
                  rw [← Nat.add_mul]
                  congr 1; omega
                omega
          · cases h
        · cases h
      · cases h
    · cases h
  · cases h

/-- The cells of a value. -/
def cellsOf (x : PV) : List PV :=
  match x with
  | .agg cs => cs
  | y => [y]

/-- A struct's or an array's cells, filled with parts. -/
def fillP (place : Nat → Option (Nat × Nat)) (cells : List PV) : List (Nat × PV) → Option (List PV)
  | [] => some cells
  | (i, x) :: rest =>
    match place i with
    | none => none
    | some (off, size) =>
      if (cellsOf x).length = size ∧ off + size ≤ cells.length then fillP place (cells.take off ++ cellsOf x ++ cells.drop (off + size)) rest else none

def cellsP (x : PV) : Option (List PV) :=
  match x with
  | .agg cs => some cs
  | .tup _ => none
  | .unk => none
  | y => some [y]

def nuk (x : PV) : Bool :=
  match x with
  | .unk => false
  | .tup _ => false
  | _ => true

theorem VR_cells {w : World} {R : Reg} {L : List BL} {x : PV} {v : Value} (hx : VR w R L x v) (hn : nuk x = true) :
    v.cells.size = (cellsOf x).length ∧ VRs w R L (cellsOf x) (fun i => v.cells[i]?) := by
  cases x with
  | agg cs =>
    rw [VR] at hx
    obtain ⟨vs, rfl, hl, hc⟩ := hx
    exact ⟨hl, hc⟩
  | unk => simp [nuk] at hn
  | tup cs => simp [nuk] at hn
  | vz q n cs =>
    have hx' := hx
    rw [VR] at hx
    obtain ⟨p, cap, rfl, _⟩ := hx
    exact ⟨by simp [Value.cells, cellsOf], by simp [VRs, Value.cells, cellsOf]; exact hx'⟩
  | sl b ver k off n =>
    have hx' := hx
    rw [VR] at hx
    obtain ⟨l, _, _, p, cap, rfl, _⟩ := hx
    exact ⟨by simp [Value.cells, cellsOf], by simp [VRs, Value.cells, cellsOf]; exact hx'⟩
  | ptr b ver off =>
    have hx' := hx
    rw [VR] at hx
    obtain ⟨l, _, _, p, cap, rfl, _⟩ := hx
    exact ⟨by simp [Value.cells, cellsOf], by simp [VRs, Value.cells, cellsOf]; exact hx'⟩
  | vptr q cs off =>
    have hx' := hx
    rw [VR] at hx
    obtain ⟨rb, ro, rfl, _⟩ := hx
    exact ⟨by simp [Value.cells, cellsOf], by simp [VRs, Value.cells, cellsOf]; exact hx'⟩
  | fn f cap =>
    have hx' := hx
    rw [VR] at hx
    obtain ⟨vs, rfl, _⟩ := hx
    exact ⟨by simp [Value.cells, cellsOf], by simp [VRs, Value.cells, cellsOf]; exact hx'⟩
  | ifc t y =>
    have hx' := hx
    rw [VR] at hx
    obtain ⟨vs, rfl, _⟩ := hx
    exact ⟨by simp [Value.cells, cellsOf], by simp [VRs, Value.cells, cellsOf]; exact hx'⟩
  | _ =>
    have hx' := hx
    rw [VR] at hx
    subst hx
    exact ⟨by simp [Value.cells, cellsOf], by simp [VRs, Value.cells, cellsOf]; exact hx'⟩

theorem foldl_fill (vs : List Value) : ∀ (off : Nat) (acc : Array Value) (k : Nat),
    ((vs.zipIdx k).foldl (fun cs x => cs.setIfInBounds (off + x.2) x.1) acc).size = acc.size ∧
    ∀ i, ((vs.zipIdx k).foldl (fun cs x => cs.setIfInBounds (off + x.2) x.1) acc)[i]? = if off + k ≤ i ∧ i < off + k + vs.length ∧ i < acc.size then vs[i - (off + k)]? else acc[i]? := by
  induction vs with
  | nil => intro off acc k; simp; omega
  | cons v vs ih =>
    intro off acc k
    simp only [List.zipIdx_cons, List.foldl_cons]
    obtain ⟨h1, h2⟩ := ih off (acc.setIfInBounds (off + k) v) (k + 1)
    refine ⟨by rw [h1]; simp, fun i => ?_⟩
    rw [h2 i]
    simp only [Array.size_setIfInBounds, List.length_cons]
    by_cases hi : i = off + k
    · subst hi
      rw [if_neg (by omega)]
      by_cases hs : off + k < acc.size
      · rw [if_pos (by omega)]
        simp [hs]
      · rw [if_neg (by omega)]
        simp [hs]
    · by_cases hc : off + (k + 1) ≤ i ∧ i < off + (k + 1) + vs.length ∧ i < acc.size
      · rw [if_pos hc, if_pos (by omega)]
        have : i - (off + k) = (i - (off + (k + 1))) + 1 := by omega
        rw [this, List.getElem?_cons_succ]
      · rw [if_neg hc, if_neg (by omega), Array.getElem?_setIfInBounds_ne (by omega)]

theorem fillP_sound {w : World} {R : Reg} {L : List BL} (place : Nat → Option (Nat × Nat)) : ∀ (ps : List (Nat × PV)) (vs : List (Nat × Value)) (cells r : List PV) (cv : Array Value),
    ps.length = vs.length → (∀ (i : Nat) (p : Nat × PV) (v : Nat × Value), ps[i]? = some p → vs[i]? = some v → p.1 = v.1 ∧ VR w R L p.2 v.2 ∧ nuk p.2 = true) →
    cv.size = cells.length → VRs w R L cells (fun i => cv[i]?) → fillP place cells ps = some r →
    ∃ rv, Instr.fill place cv vs = some rv ∧ rv.size = r.length ∧ VRs w R L r (fun i => rv[i]?)
  | [], vs, cells, r, cv, hl, _, hs, hc, h => by
    cases vs with
    | nil => simp [fillP] at h; subst h; exact ⟨cv, rfl, hs, hc⟩
    | cons v vs => simp at hl
  | (i, x) :: ps, vs, cells, r, cv, hl, hp, hs, hc, h => by
    cases vs with
    | nil => simp at hl
    | cons v vs =>
      obtain ⟨j, u⟩ := v
      obtain ⟨e1, e2, e3⟩ := hp 0 (i, x) (j, u) rfl rfl
      simp only at e1 e2 e3
      subst e1
      obtain ⟨z1, z2⟩ := VR_cells e2 e3
      simp only [fillP] at h
      split at h
      · cases h
      · rename_i off size hpl
        by_cases hcond : (cellsOf x).length = size ∧ off + size ≤ cells.length
        case neg => rw [if_neg hcond] at h; cases h
        · rw [if_pos hcond] at h
          obtain ⟨rfl, hcond'⟩ := hcond
          generalize cellsOf x = xs at h z1 z2 hcond' hpl
          obtain ⟨q1, q2⟩ := foldl_fill u.cells.toList off cv 0
          have hfold : (u.cells.zipIdx.foldl (fun cs (x : Value × Nat) => cs.setIfInBounds (off + x.2) x.1) cv) = (u.cells.toList.zipIdx.foldl (fun cs x => cs.setIfInBounds (off + x.2) x.1) cv) := by
            rw [← Array.foldl_toList]; simp
          have ih := fillP_sound place ps vs _ r (u.cells.toList.zipIdx.foldl (fun cs x => cs.setIfInBounds (off + x.2) x.1) cv) (by simpa using hl)
            (fun k p v h1 h2 => hp (k + 1) p v (by simpa using h1) (by simpa using h2)) (by rw [q1]; simp; omega) ?_ h
          · obtain ⟨rv, h1, h2, h3⟩ := ih
            refine ⟨rv, ?_, h2, h3⟩
            simp only [Instr.fill, hpl]
            rw [if_neg (by simp; omega)]
            rw [hfold]; exact h1
          · rw [VRs_iff] at hc z2 ⊢
            intro k c hk
            simp only [q2]
            simp only [Nat.add_zero, Array.length_toList]
            rw [List.append_assoc, List.getElem?_append] at hk
            simp only [List.length_take] at hk
            have hm : min off cells.length = off := by omega
            rw [hm] at hk
            split at hk
            · rename_i hlt
              rw [List.getElem?_take, if_pos hlt] at hk
              rw [if_neg (by omega)]
              exact hc k c hk
            · rename_i hge
              rw [List.getElem?_append] at hk
              split at hk
              · rename_i hlt
                obtain ⟨y, hy, hv⟩ := z2 (k - off) c hk
                rw [if_pos (by omega)]
                exact ⟨y, by simpa using hy, hv⟩
              · rename_i hge2
                rw [List.getElem?_drop] at hk
                rw [if_neg (by omega)]
                have : off + xs.length + (k - off - xs.length) = k := by omega
                rw [this] at hk
                exact hc k c hk

def buildP (T : Tab) (t : Nat) (ps : List (Nat × PV)) : Option PV :=
  match T t with
  | some { kind := .struct fs, zero := z, .. } => if ps.all (fun p => nuk p.2) then (fillP (fun i => (fs[i]?).map fun z => (z.1, z.2.1)) (cellsOf (ofV z)) ps).map .agg else none
  | some { kind := .array n e, zero := z, .. } =>
    match T e with
    | some re => if ps.all (fun p => nuk p.2) then (fillP (fun i => some (i * re.size, re.size)) (cellsOf (ofV z)) ps).map .agg else none
    | none => none
  | _ => none

theorem fill_congr (p q : Nat → Option (Nat × Nat)) : ∀ (vs : List (Nat × Value)) (cv : Array Value) (r : Array Value), (∀ (i : Nat) (z : Nat × Nat), q i = some z → p i = some z) → Instr.fill q cv vs = some r → Instr.fill p cv vs = some r
  | [], cv, r, _, h => h
  | (i, v) :: rest, cv, r, hpq, h => by
    simp only [Instr.fill] at h ⊢
    cases hq : q i with
    | none => rw [hq] at h; cases h
    | some z =>
      obtain ⟨off, size⟩ := z
      rw [hq] at h
      rw [hpq i _ hq]
      simp only at h ⊢
      split at h
      · cases h
      · rename_i hc
        rw [if_neg hc]
        exact fill_congr p q rest _ r hpq h

theorem ofV1_cells (v : Value) : cellsOf (ofV1 v) = [ofV1 v] := by
  cases v with
  | slice a n c => simp only [ofV1]; split <;> rfl
  | pointer a => simp only [ofV1]; split <;> rfl
  | func f fs cs =>
    cases f with
    | func f => simp only [ofV1]; split <;> rfl
    | _ => rfl
  | _ => rfl

theorem VRs_zero (w : World) (R : Reg) (L : List BL) (v : Value) : VRs w R L (cellsOf (ofV v)) (fun i => v.cells[i]?) ∧ (cellsOf (ofV v)).length = v.cells.size := by
  by_cases h : ∃ cs, v = .agg cs
  · obtain ⟨cs, rfl⟩ := h
    simpa [ofV, cellsOf, Value.cells] using VRs_map w R L cs.toList
  · have e1 : ofV v = ofV1 v := by
      cases v <;> first | rfl | exact absurd ⟨_, rfl⟩ h
    have e2 : v.cells = #[v] := by
      cases v <;> first | rfl | exact absurd ⟨_, rfl⟩ h
    rw [e1, e2, ofV1_cells]
    exact ⟨by simp [VRs]; exact VR_ofV1 _ _ _ _, by simp⟩

theorem buildP_sound {P : Program} {T : Tab} (hT : TOk P T) {w : World} {R : Reg} {L : List BL} {t : Nat} {ps : List (Nat × PV)} {vs : Array (Nat × Value)} {r : PV}
    (hl : ps.length = vs.size) (hp : ∀ (i : Nat) (p : Nat × PV) (v : Nat × Value), ps[i]? = some p → vs[i]? = some v → p.1 = v.1 ∧ VR w R L p.2 v.2) (h : buildP T t ps = some r) :
    ∃ z, (Instr.build t vs).run P w = .ok z w ∧ VR w R L r z := by
  unfold buildP at h
  split at h
  · rename_i fs z h1
    have ht := hT _ _ h1
    have k1 := ht.kind
    simp only [KOk] at k1
    obtain ⟨fields, hu, hmp, hf⟩ := k1
    split at h
    · rename_i hall
      simp only [Option.map_eq_some_iff] at h
      obtain ⟨rc, h, rfl⟩ := h
      obtain ⟨q1, q2⟩ := VRs_zero w R L z
      simp only [List.all_eq_true] at hall
      obtain ⟨rv, e1, e2, e3⟩ := fillP_sound (w := w) (R := R) (L := L) _ ps vs.toList _ rc z.cells (by simpa using hl)
        (fun i p v h1 h2 => ⟨(hp i p v h1 (by simpa using h2)).1, (hp i p v h1 (by simpa using h2)).2, hall p (List.mem_of_getElem? h1)⟩) q2.symm q1 h
      obtain ⟨i, hi, _, _, hz⟩ := ht.info
      refine ⟨.agg rv, run_build w t vs rv ?_, by rw [VR]; exact ⟨rv, rfl, e2, e3⟩⟩
      unfold Program.built
      simp only [hi, hu, hz, hmp]
      refine fill_congr _ _ _ _ _ (fun i z hz => ?_) e1
      simp only [Option.map_eq_some_iff] at hz
      obtain ⟨y, hy, rfl⟩ := hz
      simp [hy]
    · cases h
  · rename_i n e z h1
    have ht := hT _ _ h1
    have k1 := ht.kind
    simp only [KOk] at k1
    split at h
    · rename_i re h2
      split at h
      · rename_i hall
        simp only [Option.map_eq_some_iff] at h
        obtain ⟨rc, h, rfl⟩ := h
        obtain ⟨q1, q2⟩ := VRs_zero w R L z
        simp only [List.all_eq_true] at hall
        obtain ⟨rv, e1, e2, e3⟩ := fillP_sound (w := w) (R := R) (L := L) _ ps vs.toList _ rc z.cells (by simpa using hl)
          (fun i p v h1 h2 => ⟨(hp i p v h1 (by simpa using h2)).1, (hp i p v h1 (by simpa using h2)).2, hall p (List.mem_of_getElem? h1)⟩) q2.symm q1 h
        obtain ⟨i, hi, _, _, hz⟩ := ht.info
        obtain ⟨ie, hie, _, hsz, _⟩ := (hT _ _ h2).info
        refine ⟨.agg rv, run_build w t vs rv ?_, by rw [VR]; exact ⟨rv, rfl, e2, e3⟩⟩
        unfold Program.built
        simp only [k1, hi, hz, hie, hsz]
        exact e1
      · cases h
    · cases h
  · cases h

def lenP (T : Tab) (t : Nat) (x : PV) : Option PV :=
  match T t with
  | some { kind := .str, .. } => match x with
    | .str s => some (.int .i64 s.length)
    | _ => none
  | some { kind := .slice _, .. } => match x with
    | .nils => some (.int .i64 0)
    | .vz _ n _ => some (.int .i64 n)
    | .sl _ _ _ _ n => some (.int .i64 n)
    | _ => none
  | some { kind := .array n _, .. } => some (.int .i64 n)
  | _ => none

theorem lenP_sound {P : Program} {T : Tab} (hT : TOk P T) {w : World} {R : Reg} {L : List BL} {t ty : Nat} {X r : PV} {u : Value} (hx : VR w R L X u) (h : lenP T t X = some r) :
    ∃ z, (Builtin.len_ #[t] ty #[u]).run P w = .ok z w ∧ VR w R L r z := by
  unfold lenP at h
  split at h
  · rename_i h1
    have k1 := (hT _ _ h1).kind
    simp only [KOk] at k1
    split at h
    · rename_i s
      rw [VR] at hx; subst hx
      injection h with h; subst h
      have hsz : (⟨s.toArray⟩ : ByteArray).size = s.length := by simp [ByteArray.size]
      exact ⟨.int .i64 s.length, by simp [Builtin.len_, run_underlying k1, goInt, hsz], by rw [VR]⟩
    · cases h
  · rename_i h1
    have k1 := (hT _ _ h1).kind
    simp only [KOk] at k1
    split at h
    · rw [VR] at hx; subst hx
      injection h with h; subst h
      exact ⟨.int .i64 0, by simp [Builtin.len_, run_underlying k1, goInt], by rw [VR]⟩
    · rename_i q n cs
      rw [VR] at hx
      obtain ⟨p, cap, rfl, _⟩ := hx
      injection h with h; subst h
      exact ⟨.int .i64 n, by simp [Builtin.len_, run_underlying k1, goInt], by rw [VR]⟩
    · rename_i n
      rw [VR] at hx
      obtain ⟨l, _, _, p, cap, rfl, _⟩ := hx
      injection h with h; subst h
      exact ⟨.int .i64 n, by simp [Builtin.len_, run_underlying k1, goInt], by rw [VR]⟩
    · cases h
  · rename_i h1
    have k1 := (hT _ _ h1).kind
    simp only [KOk] at k1
    injection h with h; subst h
    exact ⟨.int .i64 _, by simp [Builtin.len_, run_underlying k1, goInt]; rfl, by rw [VR]⟩
  · cases h

def evs (t : Nat → PV) : List Operand → List PV
  | [] => []
  | x :: xs => ev t x :: evs t xs

theorem evs_eq (t : Nat → PV) : ∀ xs, evs t xs = xs.map (ev t)
  | [] => rfl
  | x :: xs => by rw [evs, evs_eq t xs]; rfl

def evp (t : Nat → PV) : List (Nat × Operand) → List (Nat × PV)
  | [] => []
  | (i, x) :: xs => (i, ev t x) :: evp t xs

theorem evp_eq (t : Nat → PV) : ∀ xs, evp t xs = xs.map fun (i, x) => (i, ev t x)
  | [] => rfl
  | (i, x) :: xs => by rw [evp, evp_eq t xs]; rfl

def evo (t : Nat → PV) : Option Operand → Option PV
  | none => none
  | some x => some (ev t x)

/-- The operations that touch no memory. -/
def sil (T : Tab) (op : Op) (t : Nat → PV) : Option PV :=
  match op with
  | .move x => some (ev t x)
  | .assign x => some (ev t x)
  | .pick c a b => match ev t c with
    | .bool c => some (if c then ev t a else ev t b)
    | _ => none
  | .nilCheck x => match ev t x with
    | .ptr b ver off => some (.ptr b ver off)
    | .vptr q cs off => some (.vptr q cs off)
    | _ => none
  | .binOp op xt x y _ => binP T op xt (ev t x) (ev t y)
  | .unOp op _ x => unP op (ev t x)
  | .convert src dst x => convP T src dst (ev t x)
  | .fieldAddr st x f => fieldAddrP T st (ev t x) f
  | .field st x f => fieldP T st (ev t x) f
  | .indexAddr ty x i => indexAddrP T ty (ev t x) (ev t i)
  | .index ty x i => indexP T ty (ev t x) (ev t i)
  | .slice ty x lo hi mx => match T ty with
    | some { kind := .array _ _, .. } => none
    | _ => sliceP T ty (ev t x) (evo t lo) (evo t hi) (evo t mx)
  | .makeFunc (.func f) ⟨[]⟩ caps => some (.fn f (evs t caps.toList))
  | .extract x i => match ev t x with
    | .tup vs => vs[i]?
    | _ => none
  | .build ty ps => buildP T ty (evp t ps.toList)
  | .call { callee := .builtin .len, args := ⟨[x]⟩, argTypes := ⟨[ty]⟩ } => lenP T ty (ev t x)
  | .call { callee := .builtin .cap, args := ⟨[x]⟩, argTypes := ⟨[ty]⟩ } => match T ty, ev t x with
    | some { kind := .slice _, .. }, .nils => some (.int .i64 0)
    | _, _ => none
  | .call { callee := .builtin .max, args := ⟨[x, y]⟩, .. } => match ev t x, ev t y with
    | .int k a, .int k' b => if k = k' then some (.int k (if b > a then b else a)) else none
    | _, _ => none
  | .call { callee := .builtin .min, args := ⟨[x, y]⟩, .. } => match ev t x, ev t y with
    | .int k a, .int k' b => if k = k' then some (.int k (if b < a then b else a)) else none
    | _, _ => none
  | _ => none

theorem sil_sound {P : Program} {T : Tab} (hT : TOk P T) {L : List BL} {F : Nat → Prop} {R : Reg} {s : St} {a : Act} {w : World} (hs : SR L F R s a w) {o : Oper} {r : PV} (h : sil T o.op s.t = some r) :
    ∃ z, (execOp a.eval o).run P w = .ok (.value z) w ∧ VR w R L r z := by
  have hv := VR_ev hs
  have lift : ∀ (x : Sem Value), (∃ z, x.run P w = .ok z w ∧ VR w R L r z) → execOp a.eval o = (do pure (.value (← x))) → ∃ z, (execOp a.eval o).run P w = .ok (.value z) w ∧ VR w R L r z := by
    rintro x ⟨z, h1, h2⟩ he
    exact ⟨z, by simp [he, h1], h2⟩
  have hvo : ∀ x, VRo w R L (evo s.t x) (x.map a.eval) := fun x => by
    cases x with
    | none => exact .inl ⟨rfl, rfl⟩
    | some x => exact .inr ⟨_, _, rfl, rfl, hv x⟩
  obtain ⟨dst, op, type, pos, after, guard⟩ := o
  simp only at h
  unfold sil at h
  split at h
  · rename_i x
    injection h with h; subst h
    exact ⟨a.eval x, by simp [execOp], hv x⟩
  · rename_i x
    injection h with h; subst h
    exact ⟨a.eval x, by simp [execOp], hv x⟩
  · rename_i c x y
    split at h
    · rename_i b hb
      injection h with h; subst h
      have hc := hv c
      rw [hb, VR] at hc
      refine ⟨if b then a.eval x else a.eval y, by simp [execOp, hc, asBool], ?_⟩
      split <;> exact hv _
    · cases h
  · rename_i x
    split at h
    · rename_i b ver off hb
      injection h with h; subst h
      have hc := hv x
      rw [hb] at hc
      have hc' := hc
      rw [VR] at hc'
      obtain ⟨l, _, _, rb, o, e, _⟩ := hc'
      exact ⟨a.eval x, by simp [execOp, e], hc⟩
    · rename_i q cs off hb
      injection h with h; subst h
      have hc := hv x
      rw [hb] at hc
      have hc' := hc
      rw [VR] at hc'
      obtain ⟨rb, ro, e, _⟩ := hc'
      exact ⟨a.eval x, by simp [execOp, e], hc⟩
    · cases h
  · exact lift _ (binP_sound hT (hv _) (hv _) h) rfl
  · exact lift _ (unP_sound (hv _) h) rfl
  · exact lift _ (convP_sound hT (hv _) h) rfl
  · exact lift _ (fieldAddrP_sound hT (hv _) h) rfl
  · exact lift _ (fieldP_sound hT (hv _) h) rfl
  · exact lift _ (indexAddrP_sound hT (hv _) (hv _) h) rfl
  · exact lift _ (indexP_sound hT (hv _) (hv _) h) rfl
  · split at h
    · cases h
    · exact lift _ (sliceP_sound hT (hv _) (hvo _) (hvo _) (hvo _) h) rfl
  · rename_i f caps
    injection h with h; subst h
    refine ⟨.func (.func f) #[] (caps.map a.eval), by simp [execOp, Instr.makeFunc], ?_⟩
    rw [VR]
    refine ⟨_, rfl, by simp [evs_eq], ?_⟩
    rw [VRs_iff]
    intro i c hc
    simp only [evs_eq, List.getElem?_map, Option.map_eq_some_iff] at hc
    obtain ⟨x, hx, rfl⟩ := hc
    exact ⟨a.eval x, by simp at hx; simp [hx], hv x⟩
  · rename_i x i
    split at h
    · rename_i vs hb
      have hc := hv x
      rw [hb, VR] at hc
      obtain ⟨us, e, hl, hc⟩ := hc
      rw [VRs_iff] at hc
      obtain ⟨u, hu, hr⟩ := hc i r h
      exact ⟨u, by simp [execOp, e, Instr.extract, hu], hr⟩
    · cases h
  · rename_i ty ps
    refine lift _ (buildP_sound hT (vs := ps.map fun (i, x) => (i, a.eval x)) (by simp [evp_eq]) ?_ h) rfl
    intro i p v h1 h2
    simp only [evp_eq, List.getElem?_map, Option.map_eq_some_iff] at h1
    simp only [Array.getElem?_map, Option.map_eq_some_iff] at h2
    obtain ⟨z, hz, rfl⟩ := h1
    obtain ⟨z', hz', rfl⟩ := h2
    have : z = z' := by simp at hz; rw [hz] at hz'; exact Option.some.inj hz'
    subst this
    exact ⟨rfl, hv _⟩
  · rename_i x ty
    obtain ⟨z, h1, h2⟩ := lenP_sound (ty := type) hT (hv x) h
    exact ⟨z, by simp [execOp, resolve, invoke, builtin, h1], h2⟩
  · rename_i x ty
    split at h
    · rename_i e z0 h1 hx
      have k1 := (hT _ _ h1).kind
      simp only [KOk] at k1
      injection h with h; subst h
      have hx' := hv x
      rw [hx, VR] at hx'
      exact ⟨.int .i64 0, by simp [execOp, resolve, invoke, builtin, Builtin.cap_, run_underlying k1, goInt, hx'], by rw [VR]⟩
    · cases h
  · rename_i x y tys
    split at h
    · rename_i k p k' q hx hy
      split at h
      · rename_i hk
        injection h with h; subst h
        have hx' := hv x
        have hy' := hv y
        rw [hx, VR] at hx'
        rw [hy, VR] at hy'
        refine ⟨.int k (if q > p then q else p), by simp [execOp, resolve, invoke, builtin, Builtin.max_, Builtin.max2, hx', hy'], by rw [VR]⟩
      · cases h
    · cases h
  · rename_i x y tys
    split at h
    · rename_i k p k' q hx hy
      split at h
      · rename_i hk
        injection h with h; subst h
        have hx' := hv x
        have hy' := hv y
        rw [hx, VR] at hx'
        rw [hy, VR] at hy'
        refine ⟨.int k (if q < p then q else p), by simp [execOp, resolve, invoke, builtin, Builtin.min_, Builtin.min2, hx', hy'], by rw [VR]⟩
      · cases h
    · cases h
  · cases h
end Go.Fw
