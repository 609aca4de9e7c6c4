/- Two lists of groups are merged. -/
import Derived.Test.YtaloakmffdejgaaGrP
import Derived.Test.YtaloakmffdejgaaGrN
set_option linter.unusedSimpArgs false
set_option linter.unusedVariables false
set_option maxRecDepth 100000
set_option maxHeartbeats 8000000
namespace Go.Proofs.Ytaloakmffdejgaa
open Go Go.Fw

theorem okG_bGM {g : Gp} (h : okG g = true) : bGM 1000000 g := by
  unfold okG at h
  simp only [Bool.and_eq_true, inR, decide_eq_true_eq] at h
  obtain ⟨⟨⟨⟨h1, h2⟩, h3⟩, h4⟩, h5⟩ := h
  have hs : 0 ≤ g.sum ∧ g.sum ≤ 1000000 := by
    split at h5
    · simp only [Bool.and_eq_true, decide_eq_true_eq] at h5; omega
    · rename_i hc
      simp only [Bool.and_eq_true, decide_eq_true_eq] at h5
      have m1 : 0 ≤ (g.count - 2) * g.least := Int.mul_nonneg (by omega) (by omega)
      have m2 : (g.count - 2) * g.most ≤ 998 * 999 := Int.le_trans (Int.mul_le_mul_of_nonneg_right (show g.count - 2 ≤ 998 by omega) (by omega)) (by omega)
      omega
  unfold bGM; omega

theorem validG_bGM {gs : List Gp} (h : validG gs) : ∀ g ∈ gs, bGM 1000000 g := by
  intro g hg
  obtain ⟨i, hi, rfl⟩ := List.getElem_of_mem hg
  have := h.2.1 i hi
  rw [show gs.getD i default = gs[i] by simp [List.getD, hi]] at this
  exact okG_bGM this

def MgΦ (g1 g2 : List Gp) (r : PV) (h : List Blk) : Prop := ∃ (D : List Gp) (ver : Nat), Loc ltK (g1 ++ g2) D 0 (g1 ++ g2).length ∧ SO ltK D 0 (g1 ++ g2).length ∧
  ((validG (D.foldl jstep []) ∧ r = .tup [.sl 0 ver 5 0 (D.foldl jstep []).length, .bool true] ∧ h = [⟨ver, 0, true, fl gc (D.foldl jstep [])⟩]) ∨
   (¬ validG (D.foldl jstep []) ∧ r = .tup [.nils, .bool false] ∧ h = []))

theorem c_MergeGroups (q1 q2 q : Nat) (g1 g2 : List Gp) (v1 : validG g1) (v2 : validG g2) (hq1 : q1 < q) (hq2 : q2 < q) (hz1 : q1 ≠ 0) (hz2 : q2 ≠ 0) :
    PCE Try.prog 28 [.vz q1 g1.length (fl gc g1), .vz q2 g2.length (fl gc g2)] [] (MgΦ g1 g2) := by
  have hn1 := v1.1
  have hn2 := v2.1
  have hb1 := validG_bGM v1
  have hb2 := validG_bGM v2
  have up : ∀ g, bGM 1000000 g → bG g := fun g h => by unfold bG; unfold bGM at *; omega
  refine PCE.of_body tok Try.func28 (by kernel_rfl) rfl Try.ntmps28 (by rw [Try.results28]) (by simp) (W_go tok mix [0, 1, 4, 5, 6] (by decide +kernel) rfl ?_)
  simp +decide only [go_sem, Nat.reduceAdd, Nat.reduceSub, Nat.reduceMul]
  refine CallJ.of0 q1 (c_IsValidGroups q1 g1 (by omega) fun g hg => up g (hb1 g hg)) (by simp +decide [go_sem]) ?_
  rintro _ _ ⟨⟨b, rfl, hv⟩, rfl⟩
  refine ⟨by simp [go_sem], by simp [go_sem], ?_⟩
  have hb : b = true := hv.2 v1
  subst hb
  clear hv
  simp +decide  only [go_sem, Nat.reduceAdd, Nat.reduceSub, Nat.reduceMul]
  refine CallJ.of0 q2 (c_IsValidGroups q2 g2 (by omega) fun g hg => up g (hb2 g hg)) (by simp +decide [go_sem]) ?_
  rintro _ _ ⟨⟨b, rfl, hv⟩, rfl⟩
  refine ⟨by simp [go_sem], by simp [go_sem], ?_⟩
  have hb : b = true := hv.2 v2
  subst hb
  clear hv
  have z1 : (q1 == 0) = false := by simpa using hz1
  have z2 : (q2 == 0) = false := by simpa using hz2
  simp +decide  only [go_sem, Nat.reduceAdd, Nat.reduceSub, Nat.reduceMul, z1, z2]
  refine CallJ.of [0] (q + 1) (c_ConcatG 0 0 q1 q2 q g1 g2 (by omega) (by omega) hq1 hq2) (by simp +decide [go_sem]) ?_
  rintro _ _ ⟨v, rfl, rfl⟩
  refine ⟨by simp [go_sem], by simp [go_sem]; omega, ?_⟩
  have hl : (g1 ++ g2).length ≤ 128 := by rw [List.length_append]; omega
  have hbb : ∀ g ∈ g1 ++ g2, bGM 1000000 g := fun g hg => by
    rcases List.mem_append.1 hg with h | h
    · exact hb1 g h
    · exact hb2 g h
  generalize hgs : g1 ++ g2 = gs at *
  simp +decide  only [go_sem, Nat.reduceAdd, Nat.reduceSub, Nat.reduceMul]
  refine CallJ.of [] (q + 1) (c_joined (q + 1) gs (by omega) 1000000 (by decide) (by decide) hbb) (by simp +decide [go_sem, take_gcs]) ?_
  rintro _ _ ⟨D, v2, l1, s1, hbD, rfl, rfl⟩
  refine ⟨by simp [go_sem], by simp [go_sem], ?_⟩
  have hDl : D.length = gs.length := l1.len
  have hJ : ∀ (E out : List Gp), (E.foldl jstep out).length ≤ out.length + E.length := by
    intro E
    induction E with
    | nil => intro out; simp
    | cons g E ih =>
      intro out
      have h1 := ih (jstep out g)
      have h2 := jstep_length out g
      rw [List.foldl_cons, List.length_cons]; omega
  have hJl : (D.foldl jstep []).length ≤ 200 := by have := hJ D []; simp at this; omega
  generalize hE : D.foldl jstep [] = E at *
  simp +decide  only [go_sem, Nat.reduceAdd, Nat.reduceSub, Nat.reduceMul]
  refine CallJ.of [] (q + 1) (c_IsValidGroups (q + 1) E (by omega) hbD) (by simp +decide [go_sem, take_gcs]) ?_
  rintro _ _ ⟨⟨b, rfl, hv⟩, rfl⟩
  refine ⟨by simp [go_sem], by simp [go_sem], ?_⟩
  cases b
  · simp +decide  only [go_sem, Nat.reduceAdd, Nat.reduceSub, Nat.reduceMul]
    refine Ret.sel [] rfl (by simp +decide [go_sem]) ?_
    exact ⟨D, 0, by rw [hgs]; exact l1, by rw [hgs]; exact s1, .inr ⟨by rw [hE]; exact fun h => Bool.noConfusion (hv.2 h), rfl, rfl⟩⟩
  · simp +decide  only [go_sem, Nat.reduceAdd, Nat.reduceSub, Nat.reduceMul]
    refine Ret.sel [2] rfl (by simp +decide [go_sem]) ?_
    exact ⟨D, v2, by rw [hgs]; exact l1, by rw [hgs]; exact s1, .inl ⟨by rw [hE]; exact hv.1 rfl, by rw [hE]; rfl, by rw [hE]; rfl⟩⟩
end Go.Proofs.Ytaloakmffdejgaa
