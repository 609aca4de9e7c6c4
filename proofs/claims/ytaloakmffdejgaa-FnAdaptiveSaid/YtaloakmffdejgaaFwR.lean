/- The walk as a function that simp can carry out. -/
import Derived.Test.YtaloakmffdejgaaFwS
set_option linter.unusedVariables false
namespace Go.Fw
open Go

inductive Job where
  | code (c : Code)
  | ops (a : Array Oper) (os : List Oper)
  | next
  | exit (id : Nat)
  | ret

def csize : Code → Nat
  | .region _ ops _ => ops.size + 5
  | .seq a b => csize a + csize b + 3
  | .cond _ a b => csize a + csize b + 1
  | .block _ c => csize c + 3
  | _ => 3

def ksize : List KI → Nat
  | [] => 0
  | .seq c :: k => csize c + 1 + ksize k
  | _ :: k => 1 + ksize k

def jsize : Job → Nat
  | .code c => csize c
  | .ops _ os => os.length + 2
  | _ => 1

theorem csize_pos (c : Code) : 3 ≤ csize c ∨ 1 ≤ csize c := by
  cases c <;> simp [csize] <;> omega

/-- The regions whose order is drawn are such that no order differs. -/
def dallX (bad : List Nat) : Code → Bool
  | .region id ops d => bad.contains id || !d || drawOk ops
  | .seq a b => dallX bad a && dallX bad b
  | .cond _ a b => dallX bad a && dallX bad b
  | .block _ c => dallX bad c
  | _ => true

def dallKX (bad : List Nat) : List KI → Bool
  | [] => true
  | .seq c :: k => dallX bad c && dallKX bad k
  | _ :: k => dallKX bad k

def dallJ (bad : List Nat) : Job → Bool
  | .code c => dallX bad c
  | _ => true

abbrev dall : Code → Bool := dallX []
abbrev dallK : List KI → Bool := dallKX []

/-- Where a walk stops: a loop; a call. -/
def LoopJ (P : Program) (m : Nat) (Q : Exit → St → Prop) (c : Code) (k : List KI) (s : St) : Prop := W P m (.loop c) k Q s

structure Cx where
  P : Program
  T : Tab
  m : Nat
  ks : List Nat
  Q : Exit → St → Prop
  bad : List Nat

def St.keep (s : St) (ks : List Nat) : St := ⟨fun i => if ks.contains i then s.t i else .unk, s.h, s.n⟩

/-- The slots that a text's first step branches on. -/
def hd : Code → List Nat
  | .cond (.tmp i) _ _ => [i]
  | .seq a _ => hd a
  | .block _ a => hd a
  | _ => []

def go (c : Cx) (j : Job) (k : List KI) (s : St) : Prop :=
  match j with
  | .code .skip => go c .next k s
  | .code (.seq a b) => go c (.code a) (.seq b :: k) s
  | .code (.block id b) => go c (.code b) (.blk id :: k) s
  | .code (.region id ops d) => if c.bad.contains id = true then W c.P c.m (.region id ops d) k c.Q s else go c (.ops ops ops.toList) k s
  | .code (.cond x a b) =>
    match ev s.t x with
    | .bool t => if t = true then go c (.code a) k s else go c (.code b) k s
    | _ => False
  | .code (.exit id) => go c (.exit id) k s
  | .code .ret => go c .ret k s
  | .code (.loop b) => LoopJ c.P c.m c.Q b k s
  | .code (.scope _) => False
  | .code (.label _) => False
  | .code (.goto _) => False
  | .code (.refuse _) => False
  | .code (.rangeFunc _ _ _ _) => False
  | .ops a [] => go c .next k s
  | .ops a (o :: os) =>
    if dok o.dst s.n then
      match gd a s.t o with
      | some true =>
        match calle o.op with
        | some (f, args) =>
          match ev s.t f with
          | .fn g cap => PCE c.P g (evs s.t args ++ cap) s.h fun v h' => go c (.ops a os) k (s.put o.dst v h')
          | _ => False
        | none =>
          match hop c.T o.op s with
          | some (v, h') => go c (.ops a os) k (s.put o.dst v h')
          | none => False
      | some false => go c (.ops a os) k (s.put o.dst (.tup []) s.h)
      | none => False
    else False
  | .next =>
    match k with
    | [] => c.Q .normal s
    | .seq b :: k => go c (.code b) k (s.keep (hd b ++ c.ks))
    | .blk _ :: k => go c .next k s
    | .inv J :: _ => J s
  | .exit id =>
    match k with
    | [] => c.Q (.exit id) s
    | .seq _ :: k => go c (.exit id) k s
    | .blk i :: k => if id = i then go c .next k s else go c (.exit id) k s
    | .inv _ :: k => go c (.exit id) k s
  | .ret => c.Q .ret s
termination_by jsize j + ksize k
decreasing_by
  all_goals simp_wf
  all_goals simp only [jsize, ksize, csize, List.length_cons, Array.length_toList]
  all_goals omega

/-- A lock: an argument that a later one's type names is left alone by simp. -/
inductive Lk {α : Sort _} (x : α) : Type
  | mk

/-- A call on the way. -/
def CallJ (c : Cx) (g : Nat) (args : List PV) (dst : Option Nat) (s : St) (a : Array Oper) (os : List Oper) (k : List KI) (_ : Lk c) (_ : Lk a) (_ : Lk os) (_ : Lk k) : Prop :=
  PCE c.P g args s.h fun v h' => go c (.ops a os) k (s.put dst v h')

/-- A region on the way, whose orders differ. -/
def RegQ (c : Cx) (id : Nat) (a : Array Oper) (d : Bool) (k : List KI) (s : St) (_ : Lk c) (_ : Lk a) (_ : Lk k) : Prop := W c.P c.m (.region id a d) k c.Q s
@[congr] theorem RegQ_congr {c : Cx} {id : Nat} {a : Array Oper} {d : Bool} {k : List KI} {s s' : St} {x : Lk c} {y : Lk a} {z : Lk k} (h : s = s') : RegQ c id a d k s x y z = RegQ c id a d k s' x y z := by rw [h]

/-- A branch: simp goes no further where the condition is not known. -/
def BrJ (b : Bool) (A B : Prop) (_ : Lk A) (_ : Lk B) : Prop := if b = true then A else B
theorem BrJ_true (A B : Prop) (x : Lk A) (y : Lk B) : BrJ true A B x y = A := by simp [BrJ]
theorem BrJ_false (A B : Prop) (x : Lk A) (y : Lk B) : BrJ false A B x y = B := by simp [BrJ]
theorem BrJ_not (b : Bool) (A B : Prop) (x : Lk A) (y : Lk B) : BrJ (!b) A B x y = BrJ b B A y x := by cases b <;> simp [BrJ]
theorem BrJ.of {b : Bool} {A B : Prop} {x : Lk A} {y : Lk B} (h1 : b = true → A) (h2 : b = false → B) : BrJ b A B x y := by
  unfold BrJ
  split
  · rename_i h; exact h1 h
  · rename_i h; exact h2 (by simpa using h)
theorem BrJ.ofP {p : Prop} [Decidable p] {A B : Prop} {x : Lk A} {y : Lk B} (h1 : p → A) (h2 : ¬p → B) : BrJ (decide p) A B x y := BrJ.of (fun h => h1 (by simpa using h)) (fun h => h2 (by simpa using h))

/-- A state not yet simplified: with it the congruence lemma always changes something, and simp leaves the rest alone. -/
def nf (s : St) : St := s
theorem nf_eq (s : St) : nf s = s := by cases s; simp [nf]
@[congr] theorem go_congr {c : Cx} {j : Job} {k : List KI} {s s' : St} (h : s = s') : go c j k s = go c j k s' := by rw [h]
/-- A loop on the way. -/
def LoopQ (P : Program) (m : Nat) (Q : Exit → St → Prop) (c : Code) (k : List KI) (s : St) (_ : Lk P) (_ : Lk Q) (_ : Lk c) (_ : Lk k) : Prop := LoopJ P m Q c k s

section
variable {c : Cx} {k : List KI} {s : St}
theorem go_skip : go c (.code .skip) k s = go c .next k (nf s) := by rw [go]; rfl
theorem go_seq (a b : Code) : go c (.code (.seq a b)) k s = go c (.code a) (.seq b :: k) (nf s) := by rw [go]; rfl
theorem go_block (id : Nat) (b : Code) : go c (.code (.block id b)) k s = go c (.code b) (.blk id :: k) (nf s) := by rw [go]; rfl
theorem go_region (id : Nat) (ops : Array Oper) (d : Bool) : go c (.code (.region id ops d)) k s = if c.bad.contains id = true then RegQ c id ops d k (nf s) .mk .mk .mk else go c (.ops ops ops.toList) k (nf s) := by rw [go]; rfl
theorem go_cond (x : Operand) (a b : Code) : go c (.code (.cond x a b)) k s = (match ev s.t x with | .bool t => BrJ t (go c (.code a) k (nf s)) (go c (.code b) k (nf s)) .mk .mk | _ => False) := by rw [go]; rfl
theorem go_exit (id : Nat) : go c (.code (.exit id)) k s = go c (.exit id) k (nf s) := by rw [go]; rfl
theorem go_ret : go c (.code .ret) k s = c.Q .ret (nf s) := by rw [go, go]; rfl
theorem go_loop (b : Code) : go c (.code (.loop b)) k s = LoopQ c.P c.m c.Q b k (nf s) .mk .mk .mk .mk := by rw [go]; rfl
theorem go_ops_nil (a : Array Oper) : go c (.ops a []) k s = go c .next k (nf s) := by rw [go]; rfl
theorem go_ops_cons (a : Array Oper) (o : Oper) (os : List Oper) : go c (.ops a (o :: os)) k s =
    if dok o.dst s.n then
      match gd a s.t o with
      | some b => BrJ b
        (match calle o.op with
        | some (f, args) =>
          match ev s.t f with
          | .fn g cap => CallJ c g (evs s.t args ++ cap) o.dst s a os k .mk .mk .mk .mk
          | _ => False
        | none =>
          match hop c.T o.op s with
          | some (v, h') => go c (.ops a os) k (nf (s.put o.dst v h'))
          | none => False)
        (go c (.ops a os) k (nf (s.put o.dst (.tup []) s.h))) .mk .mk
      | none => False
    else False := by
  rw [go]
  cases gd a s.t o with
  | none => rfl
  | some b => cases b <;> simp only [BrJ_true, BrJ_false] <;> rfl
theorem go_next_nil : go c .next [] s = c.Q .normal (nf s) := by rw [go]; rfl
theorem go_next_seq (b : Code) : go c .next (.seq b :: k) s = go c (.code b) k (nf (s.keep (hd b ++ c.ks))) := by (conv => lhs; rw [go]); rfl
theorem go_next_blk (id : Nat) : go c .next (.blk id :: k) s = go c .next k (nf s) := by rw [go]; rfl
theorem go_next_inv (J : St → Prop) : go c .next (.inv J :: k) s = J (nf s) := by rw [go]; rfl
theorem go_exit_seq (id : Nat) (b : Code) : go c (.exit id) (.seq b :: k) s = go c (.exit id) k (nf s) := by rw [go]; rfl
theorem go_exit_blk (id i : Nat) : go c (.exit id) (.blk i :: k) s = if id = i then go c .next k (nf s) else go c (.exit id) k (nf s) := by rw [go]; rfl
theorem go_exit_inv (id : Nat) (J : St → Prop) : go c (.exit id) (.inv J :: k) s = go c (.exit id) k (nf s) := by rw [go]; rfl
theorem hd_cond (i : Nat) (a b : Code) : hd (.cond (.tmp i) a b) = [i] := rfl
theorem hd_seq (a b : Code) : hd (.seq a b) = hd a := rfl
theorem hd_block (i : Nat) (a : Code) : hd (.block i a) = hd a := rfl
theorem hd_region (i : Nat) (a : Array Oper) (d : Bool) : hd (.region i a d) = [] := rfl
theorem hd_exit (i : Nat) : hd (.exit i) = [] := rfl
theorem hd_loop (a : Code) : hd (.loop a) = [] := rfl
theorem hd_ret : hd .ret = [] := rfl
theorem hd_skip : hd .skip = [] := rfl
attribute [go_sem ↓] hd_cond hd_seq hd_block hd_region hd_exit hd_loop hd_ret hd_skip
end

theorem go_ops_pops {c : Cx} {k : List KI} (a : Array Oper) : ∀ (os : List Oper) (s : St), go c (.ops a os) k s = pops c.P c.T a os s (fun s' => go c .next k s')
  | [], s => by rw [go_ops_nil]; rfl
  | o :: os, s => by
    rw [go]
    show _ = step1 c.P c.T a o s fun s' => pops c.P c.T a os s' _
    unfold step1
    simp only [go_ops_pops a os]
    rfl

theorem W_keep' {P : Program} {m : Nat} {c : Code} {k : List KI} {Q : Exit → St → Prop} {s : St} (ks : List Nat) (hw : W P m c k Q (s.keep ks)) : W P m c k Q s := by
  intro L F R a w hs
  refine hw L F R a w ⟨hs.hr, hs.n, hs.d, fun i => ?_⟩
  have := hs.t i
  simp only [St.keep]
  split
  · exact this
  · simp [VR]

theorem go_sound {c : Cx} (hT : TOk c.P c.T) (hmix : c.P.follows .mixedOrders = true) : ∀ (n : Nat) (j : Job) (k : List KI) (s : St), jsize j + ksize k = n → dallJ c.bad j = true → dallKX c.bad k = true → go c j k s →
    match j with
    | .code b => W c.P c.m b k c.Q s
    | .ops a os => pops c.P c.T a os s (N c.P c.m k c.Q)
    | .next => N c.P c.m k c.Q s
    | .exit id => X c.P c.m id k c.Q s
    | .ret => KQ c.P c.m c.Q k .ret s := by
  intro n
  induction n using Nat.strongRecOn with
  | _ n ih =>
    intro j k s hn hj hk h
    have next : ∀ (k' : List KI) (s' : St), 1 + ksize k' < n → dallKX c.bad k' = true → go c .next k' s' → N c.P c.m k' c.Q s' := fun k' s' hlt hk' h' => ih _ hlt .next k' s' rfl rfl hk' h'
    match j with
    | .code .skip => rw [go_skip] at h; exact W_skip (next k s (by simp only [jsize, csize] at hn; omega) hk h)
    | .code (.seq a b) =>
      rw [go_seq] at h
      exact W_seq (ih _ (by simp only [jsize, ksize, csize] at hn ⊢; omega) (.code a) (.seq b :: k) s rfl (by simp only [dallJ, dallX, Bool.and_eq_true] at hj ⊢; exact hj.1) (by simp only [dallJ, dallX, Bool.and_eq_true] at hj; simp only [dallKX, hj.2, hk, Bool.and_true]) h)
    | .code (.block id b) =>
      rw [go_block] at h
      exact W_block (ih _ (by simp only [jsize, ksize, csize] at hn ⊢; omega) (.code b) (.blk id :: k) s rfl (by simpa only [dallJ, dallX] using hj) (by simpa only [dallKX] using hk) h)
    | .code (.region id ops d) =>
      have key : go c (.ops ops ops.toList) k s → ∀ K : St → Prop, (∀ s', N c.P c.m k c.Q s' → K s') → pops c.P c.T ops ops.toList s K := fun h K hK => by
        have h1 : pops c.P c.T ops ops.toList s (N c.P c.m k c.Q) := ih _ (by simp only [jsize, csize, Array.length_toList] at hn ⊢; omega) (.ops ops ops.toList) k s rfl rfl hk h
        exact pops_mono _ _ h1 hK
      rw [go_region] at h
      split at h
      · exact h
      · rename_i hbad
        have hbad' : c.bad.contains id = false := by simpa using hbad
        cases d with
        | false => exact W_region hT (key h)
        | true => exact W_draw hT hmix (by simpa only [dallJ, dallX, hbad', Bool.not_true, Bool.false_or] using hj) (key h)
    | .code (.cond x a b) =>
      rw [go_cond] at h
      split at h
      · rename_i t ht
        refine W_cond ht ?_
        cases t with
        | true => exact ih _ (by simp only [jsize, csize] at hn ⊢; omega) (.code a) k s rfl (by simp only [dallJ, dallX, Bool.and_eq_true] at hj ⊢; exact hj.1) hk (by simpa [BrJ_true, nf] using h)
        | false => exact ih _ (by simp only [jsize, csize] at hn ⊢; omega) (.code b) k s rfl (by simp only [dallJ, dallX, Bool.and_eq_true] at hj ⊢; exact hj.2) hk (by simpa [BrJ_false, nf] using h)
      · cases h
    | .code (.exit id) =>
      rw [go_exit] at h
      exact W_exit (ih _ (by simp only [jsize, csize] at hn ⊢; omega) (.exit id) k s rfl rfl hk h)
    | .code .ret => rw [go_ret] at h; exact W_ret h
    | .code (.loop b) => rw [go_loop] at h; exact h
    | .code (.scope b) => rw [go] at h; cases h
    | .code (.label l) => rw [go] at h; cases h
    | .code (.goto l) => rw [go] at h; cases h
    | .code (.refuse w) => rw [go] at h; cases h
    | .code (.rangeFunc f p a b) => rw [go] at h; cases h
    | .ops a os =>
      rw [go_ops_pops] at h
      exact pops_mono _ _ h fun s' h' => next k s' (by simp only [jsize] at hn; omega) hk h'
    | .next =>
      match k with
      | [] => rw [go_next_nil] at h; exact h
      | .seq b :: k =>
        rw [go_next_seq] at h
        exact W_keep' (hd b ++ c.ks) (ih _ (by simp only [jsize, ksize] at hn ⊢; omega) (.code b) k _ rfl (by simp only [dallKX, Bool.and_eq_true] at hk; exact hk.1) (by simp only [dallKX, Bool.and_eq_true] at hk; exact hk.2) h)
      | .blk id :: k => rw [go_next_blk] at h; exact N_blk (next k s (by simp only [jsize, ksize] at hn; omega) (by simpa only [dallKX] using hk) h)
      | .inv J :: k => rw [go_next_inv] at h; exact h
    | .exit id =>
      match k with
      | [] => rw [go] at h; exact h
      | .seq b :: k => rw [go_exit_seq] at h; exact X_seq (ih _ (by simp only [jsize, ksize] at hn ⊢; omega) (.exit id) k s rfl rfl (by simp only [dallKX, Bool.and_eq_true] at hk; exact hk.2) h)
      | .blk i :: k =>
        rw [go_exit_blk] at h
        split at h
        · rename_i e; subst e; exact X_hit (next k s (by simp only [jsize, ksize] at hn; omega) (by simpa only [dallKX] using hk) h)
        · rename_i e; exact X_miss e (ih _ (by simp only [jsize, ksize] at hn ⊢; omega) (.exit id) k s rfl rfl (by simpa only [dallKX] using hk) h)
      | .inv J :: k => rw [go_exit_inv] at h; exact X_inv (ih _ (by simp only [jsize, ksize] at hn ⊢; omega) (.exit id) k s rfl rfl (by simpa only [dallKX] using hk) h)
    | .ret => rw [go] at h; exact KQ_ret k h

theorem W_go {P : Program} {T : Tab} (hT : TOk P T) (hmix : P.follows .mixedOrders = true) {m : Nat} {b : Code} {k : List KI} {Q : Exit → St → Prop} {s : St} (ks : List Nat) (hb : dall b = true) (hk : dallK k = true) (h : go ⟨P, T, m, ks, Q, []⟩ (.code b) k (nf s)) : W P m b k Q s :=
  go_sound (c := ⟨P, T, m, ks, Q, []⟩) hT hmix _ (.code b) k s rfl hb hk h

theorem W_goX {P : Program} {T : Tab} (hT : TOk P T) (hmix : P.follows .mixedOrders = true) {m : Nat} {b : Code} {k : List KI} {Q : Exit → St → Prop} {s : St} (bad ks : List Nat) (hb : dallX bad b = true) (hk : dallKX bad k = true) (h : go ⟨P, T, m, ks, Q, bad⟩ (.code b) k (nf s)) : W P m b k Q s :=
  go_sound (c := ⟨P, T, m, ks, Q, bad⟩) hT hmix _ (.code b) k s rfl hb hk h

attribute [go_sem] if_true if_false decide_true decide_false not_true_eq_false not_false_eq_true Bool.not_true Bool.not_false Bool.and_true Bool.true_and Bool.and_false Bool.false_and BrJ_true BrJ_false BrJ_not beq_true beq_false
attribute [go_sem] nf_eq go_skip go_seq go_block go_region go_cond go_exit go_ret go_loop go_ops_nil go_ops_cons go_next_nil go_next_seq go_next_blk go_next_inv go_exit_seq go_exit_blk go_exit_inv

@[go_sem] theorem keep_tm (ks : List Nat) (l : List (Nat × PV)) (h : List Blk) (n : Nat) : (St.mk (tm l) h n).keep ks = ⟨tm (kp ks l), h, n⟩ := by
  unfold St.keep
  congr 1
  funext i
  simp only [tm, lk_kp]
end Go.Fw
