/- The groups of records. -/
import Derived.Test.YtaloakmffdejgaaGrL
set_option linter.unusedSimpArgs false
set_option linter.unusedVariables false
set_option maxRecDepth 100000
set_option maxHeartbeats 8000000
namespace Go.Proofs.Ytaloakmffdejgaa
open Go Go.Fw

def okRs (rs : List (Int × Int)) : Bool := decide (rs.length ≤ 64) && rs.all okR
def toG (r : Int × Int) : Gp := ⟨r.1, 1, r.2, r.2, r.2⟩

theorem c_GroupRecords (q : Nat) (rs : List (Int × Int)) (hn : rs.length ≤ 1000) :
    PCE Try.prog 26 [.vz q rs.length (rcs rs)] [] (fun r h => (okRs rs = false ∧ r = .tup [.nils, .bool false] ∧ h = []) ∨
      (okRs rs = true ∧ ∃ (D : List Gp) (ver : Nat), Loc ltK (rs.map toG) D 0 (rs.map toG).length ∧ SO ltK D 0 (rs.map toG).length ∧ (∀ g ∈ D.foldl jstep [], bG g) ∧ r = .tup [.sl 0 ver 5 0 (D.foldl jstep []).length, .bool true] ∧ h = [⟨ver, 0, true, fl gc (D.foldl jstep [])⟩])) := by
  refine PCE.of_body tok Try.func26 (by kernel_rfl) rfl Try.ntmps26 (by rw [Try.results26]) (by simp) (W_go tok mix [0, 2, 3, 4, 6, 11, 12, 13] (by decide +kernel) rfl ?_)
  simp +decide only [go_sem, Nat.reduceAdd, Nat.reduceSub, Nat.reduceMul]
  refine CallJ.of0 q (c_IsValidRecords q rs hn) (by simp +decide [go_sem]) ?_
  rintro _ _ ⟨rfl, rfl⟩
  refine ⟨by simp [go_sem], by simp [go_sem], ?_⟩
  have e0 : (decide (rs.length ≤ 64) && rs.all okR) = okRs rs := rfl
  rw [e0]
  simp +decide  only [go_sem, Nat.reduceAdd, Nat.reduceSub, Nat.reduceMul]
  refine BrJ.of (fun h1 => ?_) fun h1 => ?_
  · simp +decide  only [go_sem, Nat.reduceAdd, Nat.reduceSub, Nat.reduceMul, h1]
    have h1' := h1
    unfold okRs at h1'
    simp only [Bool.and_eq_true, decide_eq_true_eq, List.all_eq_true] at h1'
    obtain ⟨hl, hok⟩ := h1'
    refine LoopJ.of tok mix [0, 2, 3, 4, 6, 11, 12, 13] (fun z : Nat × Nat => ⟨tm [(0, .vz q rs.length (rcs rs)), (2, .nils), (3, .bool false), (4, .sl 0 z.2 5 0 z.1), (11, .vz q rs.length (rcs rs)), (12, .int .i64 rs.length), (13, .int .i64 z.1)], [⟨z.2, 0, true, fl gc ((rs.take z.1).map toG)⟩], 32⟩)
      (fun z => z.1 ≤ rs.length) (fun z => rs.length - z.1) (0, 0) [0] rfl (Nat.zero_le _) (by simp +decide [go_sem]) (by decide +kernel) rfl ?_
    rintro ⟨i, ver⟩ i1
    dsimp only at i1
    simp +decide  only [go_sem, Nat.reduceAdd, Nat.reduceSub, Nat.reduceMul]
    refine BrJ.ofP (fun k1 => ?_) fun k1 => ?_
    · have k1' : i < rs.length := by omega
      have c0 : (0:Int) ≤ i := by omega
      have c1 : i * 2 + 2 ≤ rs.length * 2 := by omega
      have l0 : ((rs.take i).map toG).length = i := by simp; omega
      have b0 : i * 5 ≤ (fl gc ((rs.take i).map toG)).length := by rw [gcs_length, l0]; exact Nat.le_refl _
      have b3 : (fl gc ((rs.take i).map toG)).take (i * 5) = fl gc ((rs.take i).map toG) := by rw [List.take_of_length_le]; rw [gcs_length, l0]; exact Nat.le_refl _
      have b1 : (i + 1) * 40 ≤ 140737488355328 := by omega
      have b2 : i + 1 ≤ 140737488355328 := by omega
      simp +decide  only [go_sem, Nat.reduceAdd, Nat.reduceSub, Nat.reduceMul, k1, c0, rcs_length, c1, rcs_at _ _ k1', wrap_in (n := ↑i + 1) (by omega) (by omega), b0, b1, b2, b3]
      refine InvJ.mk (i + 1, ver + 1) [0] rfl (by simp only; omega) (by simp only; omega) ?_
      have e : (rs.take (i + 1)).map toG = (rs.take i).map toG ++ [toG (rs.getD i (0, 0))] := by
        rw [List.take_add_one, List.map_append, List.getElem?_eq_getElem k1']; simp [List.getD, k1', -List.map_take]
      simp only [e, fl_append, fl_one]
      simp +decide [go_sem, toG]
    · have : i = rs.length := by omega
      subst this
      rw [List.take_length]
      simp +decide  only [go_sem, Nat.reduceAdd, Nat.reduceSub, Nat.reduceMul, k1]
      have hbg : ∀ g ∈ rs.map toG, bGM 100000 g := by
        intro g hg
        obtain ⟨r, hr, rfl⟩ := List.mem_map.1 hg
        have := hok r hr
        simp only [okR, inR, Bool.and_eq_true, decide_eq_true_eq] at this
        unfold bGM toG; dsimp only; omega
      have ht : (fl gc (rs.map toG)).take (rs.length * 5) = fl gc (rs.map toG) := by rw [List.take_of_length_le]; rw [gcs_length]; simp
      refine CallJ.of [] (q + 1) (c_joined (q + 1) (rs.map toG) (by simp; omega) 100000 (by decide) (by decide) hbg) (by simp +decide [go_sem, ht]) ?_
      rintro _ _ ⟨D, v2, l1, s1, hbD, rfl, rfl⟩
      refine ⟨by simp [go_sem], by simp [go_sem], ?_⟩
      simp +decide  only [go_sem, Nat.reduceAdd, Nat.reduceSub, Nat.reduceMul]
      refine Ret.sel [1] rfl (by simp +decide [go_sem]) ?_
      first | exact .inr ⟨h1, D, v2, l1, s1, hbD, rfl, rfl⟩ | exact ⟨D, v2, l1, s1, hbD, rfl, rfl⟩ | exact .inr ⟨D, v2, l1, s1, hbD, rfl, rfl⟩
  · simp +decide  only [go_sem, Nat.reduceAdd, Nat.reduceSub, Nat.reduceMul, h1]
    refine Ret.sel [] rfl (by simp +decide [go_sem]) ?_
    first | exact .inl ⟨h1, rfl, rfl⟩ | exact ⟨rfl, rfl⟩ | exact .inl ⟨rfl, rfl⟩
end Go.Proofs.Ytaloakmffdejgaa
