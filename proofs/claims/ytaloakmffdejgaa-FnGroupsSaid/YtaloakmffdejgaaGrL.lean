/- Groups with the same key are joined. -/
import Derived.Test.YtaloakmffdejgaaGrK
set_option linter.unusedSimpArgs false
set_option linter.unusedVariables false
set_option maxRecDepth 100000
set_option maxHeartbeats 8000000
namespace Go.Proofs.Ytaloakmffdejgaa
open Go Go.Fw

def ltK (x y : Gp) : Bool := decide (x.key < y.key)
theorem ltK_swo : SWO ltK := ⟨fun x => by simp [ltK], fun x y z h1 h2 => by simp [ltK] at *; omega, fun x y z h1 h2 => by simp [ltK] at *; omega⟩
theorem cmpK : CmpG 134 ltK := c_cmpKey

def comb (h g : Gp) : Gp := ⟨g.key, h.count + g.count, h.sum + g.sum, if g.least < h.least then g.least else h.least, if g.most > h.most then g.most else h.most⟩
def jstep (out : List Gp) (g : Gp) : List Gp := if out.length = 0 ∨ (out.getD (out.length - 1) default).key ≠ g.key then out ++ [g] else out.set (out.length - 1) (comb (out.getD (out.length - 1) default) g)

def bJ (M : Int) (i : Nat) (g : Gp) : Prop := (-M ≤ g.key ∧ g.key ≤ M) ∧ (-(M * i) ≤ g.count ∧ g.count ≤ M * i) ∧ (-(M * i) ≤ g.sum ∧ g.sum ≤ M * i) ∧ (-M ≤ g.least ∧ g.least ≤ M) ∧ (-M ≤ g.most ∧ g.most ≤ M)
theorem jstep_length (out : List Gp) (g : Gp) : (jstep out g).length ≤ out.length + 1 := by
  unfold jstep; split <;> simp
theorem getD_mem {l : List Gp} {i : Nat} (h : i < l.length) : l.getD i default ∈ l := by simp [List.getD, h]
theorem jstep_bJ {M : Int} (hM : 0 ≤ M) {out : List Gp} {g : Gp} {i : Nat} (h : ∀ x ∈ out, bJ M i x) (hg : bGM M g) : ∀ x ∈ jstep out g, bJ M (i + 1) x := by
  have e : M * ((i + 1 : Nat) : Int) = M * i + M := by rw [Int.natCast_add, Int.mul_add]; simp
  have hMi : 0 ≤ M * (i : Int) := Int.mul_nonneg hM (by omega)
  have up : ∀ x, bJ M i x → bJ M (i + 1) x := fun x hx => by unfold bJ at *; rw [e]; omega
  unfold jstep
  split
  · intro x hx
    rcases List.mem_append.1 hx with hx | hx
    · exact up x (h x hx)
    · rw [List.mem_singleton.1 hx]; unfold bJ; rw [e]; unfold bGM at hg; omega
  · rename_i hc
    intro x hx
    rcases List.mem_or_eq_of_mem_set hx with hx | rfl
    · exact up x (h x hx)
    · have hl := h _ (getD_mem (l := out) (i := out.length - 1) (by omega))
      generalize out.getD (out.length - 1) default = l at hl hc
      unfold bJ at *; unfold bGM at hg; unfold comb; dsimp only; rw [e]
      refine ⟨by omega, by omega, by omega, ?_, ?_⟩
      · split <;> omega
      · split <;> omega

theorem c_joined (q : Nat) (gs : List Gp) (hn : gs.length ≤ 200) (M : Int) (hM : 0 ≤ M) (hM2 : M ≤ 1000000) (hb : ∀ g ∈ gs, bGM M g) :
    PCE Try.prog 72 [.vz q gs.length (fl gc gs)] [] (fun r h => ∃ (D : List Gp) (ver : Nat), Loc ltK gs D 0 gs.length ∧ SO ltK D 0 gs.length ∧ (∀ g ∈ D.foldl jstep [], bG g) ∧ r = .sl 0 ver 5 0 (D.foldl jstep []).length ∧ h = [⟨ver, 0, true, fl gc (D.foldl jstep [])⟩]) := by
  refine PCE.of_body tok Try.func72 (by kernel_rfl) rfl Try.ntmps72 (by rw [Try.results72]) (by simp) (W_go tok mix [0, 2, 3, 4, 6, 7, 8, 14, 15, 16] (by decide +kernel) rfl ?_)
  simp +decide only [go_sem, Nat.reduceAdd, Nat.reduceSub, Nat.reduceMul]
  refine CallJ.of0 q (c_copyG q gs (by omega)) (by simp +decide [go_sem]) ?_
  rintro _ _ ⟨rfl, rfl⟩
  refine ⟨by simp [go_sem], by simp [go_sem], ?_⟩
  simp +decide  only [go_sem, Nat.reduceAdd, Nat.reduceSub, Nat.reduceMul]
  refine CallJ.of [0] (q + 1) (c_SortStableG 134 0 ltK ltK_swo cmpK (by decide) 1 gs.length (by omega) gs rfl) (by simp +decide [go_sem]) ?_
  rintro _ _ ⟨rfl, D, l1, s1, rfl⟩
  refine ⟨by simp [go_sem], by simp [go_sem], ?_⟩
  have hDl : D.length = gs.length := l1.len
  have hDb : ∀ g ∈ D, bGM M g := by
    intro g hg
    obtain ⟨i, hi, rfl⟩ := List.getElem_of_mem hg
    obtain ⟨k, k1, k2, k3⟩ := l1.from_ i (by omega) (by omega)
    have e : D.getD i default = D[i] := by simp [List.getD, hi]
    rw [← e, k3]; exact hb _ (getD_mem k2)
  rw [← hDl] at l1 s1 ⊢
  clear hb
  have hn : D.length ≤ 200 := by omega
  simp +decide  only [go_sem, Nat.reduceAdd, Nat.reduceSub, Nat.reduceMul]
  refine LoopJ.of tok mix [0, 2, 3, 4, 6, 7, 8, 14, 15, 16] (fun z : Nat × List Gp × Nat => ⟨tm [(0, .vz q D.length (fl gc gs)), (2, .nils), (3, .sl 0 1 5 0 D.length), (4, .sl 1 z.2.2 5 0 z.2.1.length), (14, .sl 0 1 5 0 D.length), (15, .int .i64 D.length), (16, .int .i64 z.1)], [⟨1, 0, true, fl gc D⟩, ⟨z.2.2, 0, true, fl gc z.2.1⟩], 71⟩)
    (fun z => z.1 ≤ D.length ∧ z.2.1 = (D.take z.1).foldl jstep [] ∧ z.2.1.length ≤ z.1 ∧ ∀ x ∈ z.2.1, bJ M z.1 x) (fun z => D.length - z.1) (0, [], 0) [0, 1] rfl ⟨Nat.zero_le _, rfl, Nat.le_refl _, fun x hx => by cases hx⟩ (by simp +decide [go_sem]) (by decide +kernel) rfl ?_
  rintro ⟨i, out, ver⟩ ⟨i1, i2, i3, i4⟩
  dsimp only at i1 i2 i3 i4
  simp +decide  only [go_sem, Nat.reduceAdd, Nat.reduceSub, Nat.reduceMul]
  refine BrJ.ofP (fun h1 => ?_) fun h1 => ?_
  · have h1' : i < D.length := by omega
    have c0 : (0:Int) ≤ i := by omega
    have c1 : i * 5 + 5 ≤ D.length * 5 := by omega
    have hg : bGM M (D.getD i default) := hDb _ (getD_mem h1')
    have inext : (D.take (i + 1)).foldl jstep [] = jstep out (D.getD i default) := by rw [take_snoc h1', List.foldl_append, ← i2]; rfl
    have jb := jstep_bJ hM i4 hg
    have jl := jstep_length out (D.getD i default)
    simp +decide  only [go_sem, Nat.reduceAdd, Nat.reduceSub, Nat.reduceMul, h1, c0, gcs_length, c1, gcs_at _ _ h1', wrap_in (n := ↑out.length - 1) (by omega) (by omega)]
    generalize D.getD i default = g at *
    have b1 : (out.length + 1) * 40 ≤ 140737488355328 := by omega
    have b2 : out.length + 1 ≤ 140737488355328 := by omega
    refine BrJ.ofP (fun k1 => ?_) fun k1 => ?_
    · have e : jstep out g = out ++ [g] := by unfold jstep; rw [if_pos (.inl (by omega))]
      simp +decide  only [go_sem, Nat.reduceAdd, Nat.reduceSub, Nat.reduceMul, k1, gcs_length, take_gcs, b1, b2, Nat.le_refl, wrap_in (n := ↑i + 1) (by omega) (by omega)]
      refine InvJ.mk (i + 1, jstep out g, ver + 1) [0, 1] rfl ⟨by simp only; omega, inext.symm, by simp only; omega, jb⟩ (by simp only; omega) ?_
      rw [e]
      simp +decide [go_sem, fl_append, fl_one]
    · obtain ⟨p, hp⟩ : ∃ p, out.length = p + 1 := ⟨out.length - 1, by omega⟩
      have c2 : (0 : Int) ≤ out.length - 1 := by omega
      have c3 : (out.length : Int) - 1 < out.length := by omega
      have c4 : ((out.length : Int) - 1).toNat = p := by omega
      have c5 : p < out.length := by omega
      have c6 : p * 5 + 5 ≤ out.length * 5 := by omega
      simp +decide  only [go_sem, Nat.reduceAdd, Nat.reduceSub, Nat.reduceMul, k1, c2, c3, c4, gcs_0 _ _ c5]
      refine BrJ.ofP (fun k2 => ?_) fun k2 => ?_
      · have e : jstep out g = out.set p (comb (out.getD p default) g) := by
          unfold jstep; rw [if_neg]
          · rw [hp]; rfl
          · rintro (h | h)
            · omega
            · rw [hp] at h; exact h k2
        have hl := i4 _ (getD_mem c5)
        have hset : spl (fl gc out) (p * 5) [.int .i64 g.key, .int .i64 ((out.getD p default).count + g.count), .int .i64 ((out.getD p default).sum + g.sum), .int .i64 (if g.least < (out.getD p default).least then g.least else (out.getD p default).least), .int .i64 (if g.most > (out.getD p default).most then g.most else (out.getD p default).most)] = fl gc (out.set p (comb (out.getD p default) g)) := gcs_set out p (comb (out.getD p default) g) c5
        have hl' := hl
        have hg' := hg
        unfold bJ at hl'
        unfold bGM at hg'
        have hMi : M * (i : Int) ≤ 1000000 * 200 := Int.le_trans (Int.mul_le_mul_of_nonneg_right hM2 (by omega)) (by omega)
        simp +decide  only [go_sem, Nat.reduceAdd, Nat.reduceSub, Nat.reduceMul, k1, k2, c2, c3, c4, gcs_length, c6, gcs_at _ _ c5, wrap_in (n := (out.getD p default).count + g.count) (by omega) (by omega), wrap_in (n := (out.getD p default).sum + g.sum) (by omega) (by omega), hset, wrap_in (n := ↑i + 1) (by omega) (by omega)]
        refine InvJ.mk (i + 1, jstep out g, ver) [0, 1] rfl ⟨by simp only; omega, inext.symm, by simp only; omega, jb⟩ (by simp only; omega) ?_
        rw [e]
        simp +decide [go_sem, List.length_set]
      · have e : jstep out g = out ++ [g] := by
          unfold jstep; rw [if_pos]; rw [hp]; exact .inr k2
        simp +decide  only [go_sem, Nat.reduceAdd, Nat.reduceSub, Nat.reduceMul, k1, k2, gcs_length, take_gcs, b1, b2, Nat.le_refl, wrap_in (n := ↑i + 1) (by omega) (by omega)]
        refine InvJ.mk (i + 1, jstep out g, ver + 1) [0, 1] rfl ⟨by simp only; omega, inext.symm, by simp only; omega, jb⟩ (by simp only; omega) ?_
        rw [e]
        simp +decide [go_sem, fl_append, fl_one]
  · simp +decide  only [go_sem, Nat.reduceAdd, Nat.reduceSub, Nat.reduceMul, h1]
    refine Ret.sel [1] rfl (by simp +decide [go_sem]) ?_
    have : i = D.length := by omega
    subst this
    rw [List.take_length] at i2
    have hMi : M * (D.length : Int) ≤ 1000000 * 200 := Int.le_trans (Int.mul_le_mul_of_nonneg_right hM2 (by omega)) (by omega)
    exact ⟨D, ver, l1, s1, fun g hg => by rw [← i2] at hg; have := i4 g hg; unfold bJ at this; unfold bG bGM; omega, by rw [← i2]; rfl, by rw [← i2]; rfl⟩
end Go.Proofs.Ytaloakmffdejgaa
