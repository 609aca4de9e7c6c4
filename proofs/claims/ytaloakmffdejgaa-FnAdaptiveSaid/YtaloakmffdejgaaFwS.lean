/- The states as lists of slots, and what the walk's simp does. -/
import Derived.Test.YtaloakmffdejgaaFwH
import Derived.KernelRfl
set_option linter.unusedVariables false
namespace Go.Fw
open Go

def lk : List (Nat × PV) → Nat → PV
  | [], _ => .unk
  | (j, v) :: l, i => if i = j then v else lk l i
def tm (l : List (Nat × PV)) : Nat → PV := fun i => lk l i
def ins : List (Nat × PV) → Nat → PV → List (Nat × PV)
  | [], d, v => [(d, v)]
  | (j, u) :: l, d, v => if d = j then (d, v) :: l else (j, u) :: ins l d v

theorem lk_ins (d : Nat) (v : PV) (i : Nat) : ∀ l, lk (ins l d v) i = if i = d then v else lk l i
  | [] => by simp [ins, lk]
  | (j, u) :: l => by
    simp only [ins]
    by_cases h : d = j
    · subst h
      simp only [if_true, lk]
      by_cases h2 : i = d
      · simp [h2]
      · simp [h2]
    · rw [if_neg h]
      simp only [lk]
      rw [lk_ins d v i l]
      by_cases h2 : i = j
      · subst h2
        rw [if_pos rfl, if_neg (fun e => h e.symm), if_pos rfl]
      · simp [h2]

@[go_sem] theorem tm_apply (l : List (Nat × PV)) (i : Nat) : tm l i = lk l i := rfl
@[go_sem] theorem put_tm (l : List (Nat × PV)) (h h' : List Blk) (n d : Nat) (v : PV) : (St.mk (tm l) h n).put (some d) v h' = ⟨tm (ins l d v), h', n⟩ := by
  have e : upd (tm l) d v = tm (ins l d v) := by
    funext i
    simp only [upd, tm, lk_ins]
  show (⟨upd (tm l) d v, h', n⟩ : St) = _
  rw [e]
@[go_sem] theorem put_none (t : Nat → PV) (h h' : List Blk) (n : Nat) (v : PV) : (St.mk t h n).put none v h' = ⟨t, h', n⟩ := rfl

def enum : Nat → List PV → List (Nat × PV)
  | _, [] => []
  | i, v :: vs => (i, v) :: enum (i + 1) vs

theorem lk_enum : ∀ (vs : List PV) (k i : Nat), lk (enum k vs) i = if k ≤ i then vs.getD (i - k) .unk else .unk
  | [], k, i => by simp [enum, lk]
  | v :: vs, k, i => by
    simp only [enum, lk, lk_enum vs (k + 1) i]
    by_cases h : i = k
    · subst h; simp
    · rw [if_neg h]
      by_cases h2 : k ≤ i
      · rw [if_pos h2, if_pos (by omega)]
        have : i - k = (i - (k + 1)) + 1 := by omega
        rw [this]; simp
      · rw [if_neg h2, if_neg (by omega)]

theorem st0_eq (pargs : List PV) (h : List Blk) (n : Nat) : st0 pargs h n = ⟨tm (enum 0 pargs), h, n⟩ := by
  unfold st0
  congr 1
  funext i
  simp [tm, lk_enum]

/-- Slots that are kept. -/
def kp (ks : List Nat) : List (Nat × PV) → List (Nat × PV)
  | [] => []
  | (j, v) :: l => if ks.contains j then (j, v) :: kp ks l else kp ks l

theorem lk_kp (ks : List Nat) (i : Nat) : ∀ l, lk (kp ks l) i = if ks.contains i then lk l i else .unk
  | [] => by simp [kp, lk]
  | (j, v) :: l => by
    simp only [kp]
    by_cases hj : ks.contains j
    · rw [if_pos hj]
      simp only [lk, lk_kp ks i l]
      by_cases h : i = j
      · subst h; rw [if_pos rfl, if_pos hj, if_pos rfl]
      · simp [h]
    · rw [if_neg hj, lk_kp ks i l]
      by_cases h : i = j
      · subst h; rw [if_neg hj, if_neg hj]
      · simp [lk, h]

theorem W_keep {P : Program} {m : Nat} {c : Code} {k : List KI} {Q : Exit → St → Prop} {l : List (Nat × PV)} {h : List Blk} {n : Nat} (ks : List Nat) (hw : W P m c k Q ⟨tm (kp ks l), h, n⟩) : W P m c k Q ⟨tm l, h, n⟩ := by
  intro L F R a w hs
  refine hw L F R a w ⟨hs.hr, hs.n, hs.d, fun i => ?_⟩
  have := hs.t i
  simp only [tm, lk_kp] at this ⊢
  split
  · exact this
  · simp [VR]

attribute [go_sem] lk ins enum kp pops_nil pops_cons gd dok hop calle sil ev evs evp evo ofV ofV1 intP strP shP isSh binP unP convP fieldAddrP indexAddrP partP fieldP indexP cutB sliceP cellsOf nuk fillP buildP lenP
  rd ld clo closeV closeL one stP boxP allocP zer bsP msP srcP appP apzP apP appI slB clrP lenV narrow cpyP eqL eqS resP1 resPs resP
  List.getElem?_cons_zero List.getElem?_cons_succ List.getElem?_nil List.length_cons List.length_nil List.nil_append List.cons_append
  List.size_toArray List.getElem?_toArray Option.bind_some Option.bind_none Option.map_some Option.map_none Option.isSome_some Option.isSome_none
  List.all_cons List.all_nil List.take_zero List.take_succ_cons List.drop_zero List.drop_succ_cons List.take_nil List.drop_nil List.append_nil
  List.set_cons_zero List.set_cons_succ List.contains_cons List.contains_nil Bool.or_false Bool.or_true Bool.false_or Bool.true_or

theorem PCE.of_body {P : Program} {T : Tab} (hT : TOk P T) {f : Nat} {fn : Func} {c : Code} (hf : P.funcs[f]? = some fn) (hname : (fn.name == "runtime.NumGoroutine") = false) (hb : fn.body = some c) {n : Nat} {rs : List ResultVar} (hnt : fn.ntmps = n) (hrs : fn.results.toList = rs)
    {pargs : List PV} {h : List Blk} {Φ : PV → List Blk → Prop} (hn : pargs.length ≤ n) (hw : W P h.length c [] (Ret T h.length rs Φ) ⟨tm (enum 0 pargs), h, n⟩) : PCE P f pargs h Φ := by
  refine ⟨fun args w => ?_, ?_⟩
  · have h1 : fn.name ≠ "runtime.NumGoroutine" := by simpa using hname
    simp [callFunc, hf, h1, hb, mark]
  · subst hnt hrs
    exact PC.of_body hT hf hb hn (by rw [st0_eq]; exact hw)

mutual
theorem ren_id (x : PV) : ren id x = x := by
  match x with
  | .agg cs => rw [ren, rens_id cs]
  | .tup cs => rw [ren, rens_id cs]
  | .fn f cs => rw [ren, rens_id cs]
  | .ifc t y => rw [ren, ren_id y]
  | .unk => simp [ren]
  | .int k n => simp [ren]
  | .bool b => simp [ren]
  | .str s => simp [ren]
  | .nils => simp [ren]
  | .vz q n cs => simp [ren]
  | .sl b v k o n => simp [ren]
  | .ptr b v o => simp [ren]
  | .vptr q cs o => simp [ren]
  | .nilp => simp [ren]
  | .nilfn => simp [ren]
  | .nili => simp [ren]
termination_by structural x
theorem rens_id (cs : List PV) : rens id cs = cs := by
  match cs with
  | [] => simp [rens]
  | c :: cs => rw [rens, ren_id c, rens_id cs]
termination_by structural cs
end

theorem SubH.refl (h : List Blk) (hc : ∀ (i : Nat) (b : Blk), h[i]? = some b → b.cl = true ∨ bnds h.length b.cells = true) : SubH h.length id h h :=
  ⟨fun _ _ => rfl, Nat.le_refl _, fun _ h => h, fun _ _ _ _ h => h, fun i b hb => ⟨b, hb, rfl, rfl, rfl, by
    split
    · rfl
    · rename_i hcl
      refine ⟨(hc i b hb).resolve_left hcl, ?_⟩
      rw [rens_id]⟩⟩
end Go.Fw
