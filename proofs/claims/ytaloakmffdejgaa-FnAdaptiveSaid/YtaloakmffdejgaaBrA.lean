/- The bridge: from a contract over a row of bytes to the walk that a statement's frame asks for. -/
import Derived.Test.YtaloakmffdejgaaGrA
import Derived.OpenShut
import Derived.Below
set_option linter.unusedVariables false
namespace Go.Proofs.Ytaloakmffdejgaa
open Go Go.Fw Go.ChangeMaps Go.WideShapes Go.RowKit Go.ChangeShapes

/-- A slice of bytes that came in: nil, or a row of cap numbers, of which the first len are its elements. -/
def IsRow (k : IntKind) (w : World) (a : Option Addr) (len cap : Nat) (zs : List Int) : Prop :=
  (a = none ∧ len = 0 ∧ cap = 0 ∧ zs = []) ∨
  ∃ x, a = some x ∧ len ≤ cap ∧ cap ≤ maxLen ∧ zs.length = cap ∧ (∀ i, i < zs.length → w.cell? (x.add i) = some (.int k (zs.getD i 0))) ∧ ∀ n ∈ zs, (Lit.int k n).wf = true

theorem bridge {f : Nat} (h : ∀ code : List UInt8, PCE Try.prog f [.vz 1 code.length (bys code)] [] (fun r h => r = .bool true ∧ h = []))
    (a0 : Option Addr) (len0 cap0 : Nat) (z0 : List Int) (w : World) (w0 : IsRow .u8 w a0 len0 cap0 z0) :
    Calls Try.prog f #[.slice a0 len0 cap0] w fun e w' => e = .returned (.bool true) ∧ Below w.heap.size w w' := by
  have fin : ∀ (code : List UInt8) (R : Reg), (∀ q b, R q b → b < w.heap.size) → len0 = code.length → VR w R [] (.vz 1 code.length (bys code)) (.slice a0 len0 cap0) →
      Calls Try.prog f #[.slice a0 len0 cap0] w fun e w' => e = .returned (.bool true) ∧ Below w.heap.size w w' := by
    intro code R hR hl hv
    have hr : HR w (fun b => b < w.heap.size) R [] [] := ⟨rfl, fun i b l h => by simp at h, fun i j bi bj li lj _ h => by simp at h, hR, fun b h => h⟩
    refine ((h code).2 [] (fun b => b < w.heap.size) R w #[.slice a0 len0 cap0] hr rfl ?_).mono ?_
    · rw [VRs]
      exact ⟨⟨_, rfl, hv⟩, by simp [VRs]⟩
    · rintro e w' ⟨v, pv, h', L', F', R', he, ⟨rfl, rfl⟩, hx, _, _, hb⟩
      rw [VR] at hb
      subst hb
      exact ⟨he, hx.os, hx.tape, hx.output, hx.size, hx.keep⟩
  rcases w0 with ⟨rfl, rfl, rfl, rfl⟩ | ⟨x, rfl, h1, h2, h3, h4, h5⟩
  · refine fin [] (fun _ _ => False) (fun _ _ h => h.elim) rfl ?_
    rw [VR]
    exact ⟨none, 0, rfl, Nat.le_refl _, .inl ⟨rfl, rfl⟩⟩
  · by_cases h0 : len0 = 0
    · subst h0
      refine fin [] (fun _ _ => False) (fun _ _ h => h.elim) rfl ?_
      rw [VR]
      exact ⟨some x, cap0, rfl, Nat.zero_le _, .inl ⟨rfl, rfl⟩⟩
    · have hb : ∀ i, i < z0.length → 0 ≤ z0.getD i 0 ∧ z0.getD i 0 ≤ 255 := fun i hi => by
        have := h5 (z0.getD i 0) (by simp [List.getD, hi])
        generalize z0.getD i 0 = n at this
        simp [Lit.wf, IntKind.min, IntKind.max, IntKind.signed, IntKind.bits] at this
        omega
      obtain ⟨b, off, rfl, hcell⟩ := ints_at h4 (by omega)
      let code : List UInt8 := (z0.take len0).map fun n => UInt8.ofNat n.toNat
      have hcl : code.length = len0 := by simp [code]; omega
      refine fin code (fun q k => q = 1 ∧ k = b) ?_ hcl.symm ?_
      · rintro q k ⟨_, rfl⟩
        have := hcell 0 (by omega)
        simp only [World.cell?] at this
        by_cases hk : k < w.heap.size
        · exact hk
        · simp [Array.getElem?_eq_none (Nat.le_of_not_lt hk)] at this
      · rw [VR, hcl]
        refine ⟨_, cap0, rfl, h1, .inr ⟨b, off, rfl, ⟨rfl, rfl⟩, ?_⟩⟩
        rw [VRs_iff]
        intro i c hi
        simp only [bys, code, List.getElem?_map, Option.map_eq_some_iff] at hi
        obtain ⟨u, ⟨n, hn, rfl⟩, rfl⟩ := hi
        rw [List.getElem?_take] at hn
        split at hn
        · rename_i hlt
          have hi : i < z0.length := by omega
          have e : z0.getD i 0 = n := by simp [List.getD, hn]
          have hbn := hb i hi
          rw [e] at hbn
          refine ⟨_, hcell i hi, ?_⟩
          rw [e, VR]
          congr 1
          have : (UInt8.ofNat n.toNat).toNat = n.toNat := by
            rw [UInt8.toNat_ofNat']; omega
          rw [this]; omega
        · cases hn
end Go.Proofs.Ytaloakmffdejgaa
