/- Ghost blocks: a nil slice is seen as an empty slice of a block that holds nothing; a closed block is seen as an open one. -/
import Derived.Test.YtaloakmffdejgaaFwU
set_option linter.unusedVariables false
namespace Go.Fw
open Go

def Gh (n ng : Nat) (x y : PV) : Prop := x = y ∨ (x = .nils ∧ ∃ b k off, y = .sl b 0 k off 0 ∧ n ≤ b ∧ b < n + ng)

/-- The same, for simp. -/
def GhC (n ng : Nat) (x y : PV) : Prop :=
  match x, y with
  | .nils, .sl b ver _ _ m => ver = 0 ∧ m = 0 ∧ n ≤ b ∧ b < n + ng
  | x, y => x = y

theorem GhC.out {n ng : Nat} {x y : PV} (h : GhC n ng x y) : Gh n ng x y := by
  unfold GhC at h
  split at h
  · rename_i b ver k off m
    obtain ⟨rfl, rfl, h1, h2⟩ := h
    exact .inr ⟨rfl, b, k, off, rfl, h1, h2⟩
  · exact .inl h

def GhL (n ng : Nat) : List PV → List PV → Prop
  | [], [] => True
  | x :: xs, y :: ys => GhC n ng x y ∧ GhL n ng xs ys
  | _, _ => False

theorem GhL_get {n ng : Nat} : ∀ {xs ys : List PV}, GhL n ng xs ys → xs.length = ys.length ∧ ∀ (i : Nat) (y : PV), ys[i]? = some y → ∃ x, xs[i]? = some x ∧ Gh n ng x y
  | [], [], _ => by simp
  | x :: xs, y :: ys, h => by
    obtain ⟨h1, h2⟩ := GhL_get h.2
    refine ⟨by simp [h1], fun i z hz => ?_⟩
    cases i with
    | zero => simp at hz; subst hz; exact ⟨x, rfl, h.1.out⟩
    | succ i => simpa using h2 i z (by simpa using hz)
  | [], _ :: _, h => by cases h
  | _ :: _, [], h => by cases h

def gbs (gs : List Bool) : List Blk := gs.map fun c => ⟨0, 0, c, []⟩
def gls (gs : List Bool) : List BL := gs.map fun _ => ⟨0, none⟩

theorem LLe.push (L M : List BL) : LLe L (L ++ M) := fun b l h => ⟨l, by rw [List.getElem?_append_left (List.getElem?_eq_some_iff.1 h).1]; exact h, Nat.le_refl _, fun _ => rfl⟩
theorem LLe.push_take (L M : List BL) (m : Nat) : LLe (L.take m) ((L ++ M).take m) := fun b l h => by
  rw [List.getElem?_take] at h ⊢
  split at h
  · rename_i hlt
    exact ⟨l, by rw [if_pos hlt, List.getElem?_append_left (List.getElem?_eq_some_iff.1 h).1]; exact h, Nat.le_refl _, fun _ => rfl⟩
  · cases h

theorem VR.gh {w : World} {R : Reg} {L : List BL} {gs : List Bool} {x y : PV} {v : Value} (hg : Gh L.length gs.length x y) (h : VR w R L x v) : VR w R (L ++ gls gs) y v := by
  rcases hg with rfl | ⟨rfl, b, k, off, rfl, h1, h2⟩
  · exact VR.mono (fun _ _ _ => rfl) (fun _ _ h => h) (LLe.push _ _) _ _ h
  · have h' : v = .slice none 0 0 := by simpa [VR] using h
    subst h'
    rw [VR]
    have hl : (L ++ gls gs)[b]? = some ⟨0, none⟩ := by
      rw [List.getElem?_append_right h1]
      simp [gls, show b - L.length < gs.length by omega]
    exact ⟨⟨0, none⟩, hl, Nat.le_refl _, none, 0, rfl, Nat.le_refl _, .inl ⟨rfl, fun _ _ _ _ h => by cases h⟩⟩

def WkB (n ng : Nat) (b1 b2 : Blk) : Prop :=
  b1.ver = b2.ver ∧ b1.mode = b2.mode ∧ ((b1.cl = b2.cl ∧ b1.cells = b2.cells) ∨ (b2.cl = false ∧ b1.mode ≠ 2 ∧ GhL n ng b1.cells b2.cells))

def WkL (n ng : Nat) : List Blk → List Blk → Prop
  | [], [] => True
  | x :: xs, y :: ys => WkB n ng x y ∧ WkL n ng xs ys
  | _, _ => False

theorem WkL_get {n ng : Nat} : ∀ {xs ys : List Blk}, WkL n ng xs ys → xs.length = ys.length ∧ ∀ (i : Nat) (y : Blk), ys[i]? = some y → ∃ x, xs[i]? = some x ∧ WkB n ng x y
  | [], [], _ => by simp
  | x :: xs, y :: ys, h => by
    obtain ⟨h1, h2⟩ := WkL_get h.2
    refine ⟨by simp [h1], fun i z hz => ?_⟩
    cases i with
    | zero => simp at hz; subst hz; exact ⟨x, rfl, h.1⟩
    | succ i => simpa using h2 i z (by simpa using hz)
  | [], _ :: _, h => by cases h
  | _ :: _, [], h => by cases h

theorem HR.ghost {w : World} {F : Nat → Prop} {R : Reg} {L : List BL} {h1 h2 : List Blk} (hr : HR w F R L h1) (gs : List Bool) (hw : WkL h1.length gs.length h1 h2) : HR w F R (L ++ gls gs) (h2 ++ gbs gs) := by
  obtain ⟨hl, hg⟩ := WkL_get hw
  have hlen := hr.len
  have hgl : (gls gs).length = gs.length := by simp [gls]
  have hgb : (gbs gs).length = gs.length := by simp [gbs]
  have hghost : ∀ (i : Nat) (b : Blk), h2.length ≤ i → (h2 ++ gbs gs)[i]? = some b → b.ver = 0 ∧ b.mode = 0 ∧ b.cells = [] := by
    intro i b hi hb
    rw [List.getElem?_append_right hi] at hb
    simp only [gbs, List.getElem?_map, Option.map_eq_some_iff] at hb
    obtain ⟨c, _, rfl⟩ := hb
    exact ⟨rfl, rfl, rfl⟩
  have hghostL : ∀ (i : Nat) (l : BL), L.length ≤ i → (L ++ gls gs)[i]? = some l → l = ⟨0, none⟩ := by
    intro i l hi hb
    rw [List.getElem?_append_right hi] at hb
    simp only [gls, List.getElem?_map, Option.map_eq_some_iff] at hb
    obtain ⟨c, _, rfl⟩ := hb
    rfl
  refine ⟨by simp [hlen, hl, hgl, hgb], fun i b l hb hli => ?_, fun i j bi bj li lj hne hbi hbj hli hlj mi mj => ?_, hr.RF, hr.Flt⟩
  · by_cases hi : i < h2.length
    · rw [List.getElem?_append_left hi] at hb
      rw [List.getElem?_append_left (by omega)] at hli
      obtain ⟨b1, hb1, e1, e2, e3⟩ := hg i b hb
      obtain ⟨r1, r2, r3⟩ := hr.blk i b1 l hb1 hli
      refine ⟨by omega, fun hm => ?_, ?_⟩
      · rcases e3 with ⟨e3, _⟩ | ⟨_, e4, _⟩
        · rw [← e3]; exact r2 (by omega)
        · omega
      · have hcl : b1.cells.length = b.cells.length := by
          rcases e3 with ⟨_, e4⟩ | ⟨_, _, e4⟩
          · rw [e4]
          · exact (GhL_get e4).1
        cases hloc : l.loc with
        | none =>
          rw [hloc] at r3
          simp only at r3 ⊢
          rw [r3] at hcl
          exact List.eq_nil_of_length_eq_zero (by simpa using hcl.symm)
        | some q =>
          obtain ⟨rb, ro, sz⟩ := q
          rw [hloc] at r3
          simp only at r3 ⊢
          obtain ⟨arr, e, fz, q1, q2, q3, q4, q5, q6⟩ := r3
          refine ⟨arr, e, fz, q1, q2, q3, by omega, ?_, by rw [← e2]; exact q6⟩
          rcases e3 with ⟨e3, e4⟩ | ⟨e3, _, e4⟩
          · unfold CR at q5 ⊢
            rw [e3, e4] at q5
            split at q5
            · rename_i hc; rw [if_pos hc]; exact q5
            · rename_i hc; rw [if_neg hc]; exact VRs.mono (fun _ _ _ => rfl) (fun _ _ h => h) (LLe.push _ _) _ _ _ q5 fun _ _ h => h
          · have q5' := q5.lift
            unfold CR
            rw [e3]
            simp only [Bool.false_eq_true, if_false]
            rw [VRs_iff] at q5' ⊢
            intro j c hj
            obtain ⟨x, hx, hgx⟩ := (GhL_get e4).2 j c hj
            obtain ⟨u, hu, hv⟩ := q5' j x hx
            rw [← hlen] at hgx
            exact ⟨u, hu, VR.gh hgx hv⟩
    · obtain ⟨g1, g2, g3⟩ := hghost i b (by omega) hb
      have := hghostL i l (by omega) hli
      subst this
      exact ⟨g1.symm, fun hm => by omega, g3⟩
  · intro ri oi si rj oj sj ei ej
    have hi : i < L.length := by
      by_cases hi : i < L.length
      · exact hi
      · rw [hghostL i li (by omega) hli] at ei; cases ei
    have hj : j < L.length := by
      by_cases hj : j < L.length
      · exact hj
      · rw [hghostL j lj (by omega) hlj] at ej; cases ej
    rw [List.getElem?_append_left (by omega)] at hbi hbj hli hlj
    obtain ⟨b1, hb1, _, e2, _⟩ := hg i bi hbi
    obtain ⟨b1', hb1', _, e2', _⟩ := hg j bj hbj
    exact hr.inj i j b1 b1' li lj hne hb1 hb1' hli hlj (by omega) (by omega) _ _ _ _ _ _ ei ej

def GhT (n ng : Nat) (l1 : List (Nat × PV)) : List (Nat × PV) → Prop
  | [] => True
  | (i, y) :: l => GhC n ng (lk l1 i) y ∧ GhT n ng l1 l

theorem GhT_get {n ng : Nat} {l1 : List (Nat × PV)} : ∀ {l2 : List (Nat × PV)}, GhT n ng l1 l2 → ∀ i, lk l2 i = .unk ∨ Gh n ng (lk l1 i) (lk l2 i)
  | [], _, i => .inl rfl
  | (j, y) :: l, h, i => by
    simp only [lk]
    by_cases e : i = j
    · subst e; rw [if_pos rfl]; exact .inr h.1.out
    · rw [if_neg e]; exact GhT_get h.2 i

theorem SR.ghost {L : List BL} {F : Nat → Prop} {R : Reg} {l1 l2 : List (Nat × PV)} {h1 h2 : List Blk} {n : Nat} {a : Act} {w : World} (hs : SR L F R ⟨tm l1, h1, n⟩ a w) (gs : List Bool) (hw : WkL h1.length gs.length h1 h2) (ht : GhT h1.length gs.length l1 l2) :
    SR (L ++ gls gs) F R ⟨tm l2, h2 ++ gbs gs, n⟩ a w := by
  refine ⟨hs.hr.ghost gs hw, hs.n, hs.d, fun i => ?_⟩
  have hlen := hs.hr.len
  rcases GhT_get ht i with e | e
  · show VR w R _ (lk l2 i) _
    rw [e]; simp [VR]
  · refine VR.gh ?_ (hs.t i)
    rw [hlen]; exact e

/-- At a loop. -/
theorem LoopQ.ghost {P : Program} {m : Nat} {Q : Exit → St → Prop} {b : Code} {k : List KI} {n : Nat} {l1 : List (Nat × PV)} {h1 : List Blk} {x1 : Lk P} {x2 : Lk Q} {x3 : Lk b} {x4 : Lk k} (gs : List Bool) (l2 : List (Nat × PV)) (h2 : List Blk)
    (hc : WkL h1.length gs.length h1 h2 ∧ GhT h1.length gs.length l1 l2) (h : LoopQ P m Q b k ⟨tm l2, h2 ++ gbs gs, n⟩ x1 x2 x3 x4) : LoopQ P m Q b k ⟨tm l1, h1, n⟩ x1 x2 x3 x4 := by
  intro L F R a w hs
  refine wp_mono (h (L ++ gls gs) F R a w (hs.ghost gs hc.1 hc.2)) ?_
  rintro e a' w' ⟨s', L', F', R', hq, hx, hl, hs'⟩
  exact ⟨s', L', F', R', hq, hx, (LLe.push_take L (gls gs) m).trans hl, hs'⟩

attribute [go_sem] GhC GhL WkB WkL GhT gbs Nat.lt_irrefl Nat.zero_lt_succ Nat.le_refl Nat.zero_le
end Go.Fw
