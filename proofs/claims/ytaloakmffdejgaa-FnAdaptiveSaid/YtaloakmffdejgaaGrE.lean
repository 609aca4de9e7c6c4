/- Groups: their cells, and the small functions on them. -/
import Derived.Test.YtaloakmffdejgaaGrD
set_option linter.unusedSimpArgs false
set_option linter.unusedVariables false
set_option maxRecDepth 100000
namespace Go.Proofs.Ytaloakmffdejgaa
open Go Go.Fw

section
variable {α : Type} (ec : α → List PV) (k : Nat) (hk : ∀ x, (ec x).length = k)
def fl (l : List α) : List PV := l.flatMap ec
@[go_sem] theorem fl_nil : fl ec [] = [] := rfl
theorem fl_cons (x : α) (l : List α) : fl ec (x :: l) = ec x ++ fl ec l := by simp [fl]
theorem fl_append (a b : List α) : fl ec (a ++ b) = fl ec a ++ fl ec b := by simp [fl]
theorem fl_one (a : α) : fl ec [a] = ec a := by simp [fl]
theorem fl_all (p : PV → Bool) (h : ∀ x, (ec x).all p = true) (l : List α) : (fl ec l).all p = true := by
  rw [List.all_eq_true]; intro y hy
  obtain ⟨x, _, hx⟩ := List.mem_flatMap.1 hy
  exact List.all_eq_true.1 (h x) y hx
include hk
theorem fl_length (l : List α) : (fl ec l).length = l.length * k := by
  induction l with
  | nil => simp [fl]
  | cons x l ih => rw [fl_cons, List.length_append, ih, hk, List.length_cons, Nat.succ_mul, Nat.add_comm]
theorem take_fl (l : List α) : (fl ec l).take (l.length * k) = fl ec l := by rw [List.take_of_length_le]; rw [fl_length ec k hk]; exact Nat.le_refl _
theorem fl_drop : ∀ (l : List α) (i : Nat), (fl ec l).drop (i * k) = fl ec (l.drop i)
  | [], i => by simp [fl]
  | x :: l, 0 => by simp
  | x :: l, i + 1 => by
    rw [fl_cons, Nat.succ_mul, Nat.add_comm, ← List.drop_drop, List.drop_left' (hk x), fl_drop l i]; simp
theorem fl_take : ∀ (l : List α) (i : Nat), (fl ec l).take (i * k) = fl ec (l.take i)
  | [], i => by simp [fl]
  | x :: l, 0 => by simp [fl]
  | x :: l, i + 1 => by
    rw [fl_cons, Nat.succ_mul, Nat.add_comm, ← hk x, List.take_length_add_append, hk x, fl_take l i]
    simp [fl_cons]
theorem fl_at (l : List α) (i : Nat) (d : α) (h : i < l.length) : ((fl ec l).drop (i * k)).take k = ec (l.getD i d) := by
  rw [fl_drop ec k hk]
  have e : l.drop i = l.getD i d :: l.drop (i + 1) := by
    rw [List.drop_eq_getElem_cons h]; simp [List.getD, h]
  rw [e, fl_cons, ← hk (l.getD i d), List.take_left]
theorem fl_cell (l : List α) (i c : Nat) (d : α) (h : i < l.length) (hc : c < k) : (fl ec l)[i * k + c]? = (ec (l.getD i d))[c]? := by
  rw [← fl_at ec k hk l i d h, List.getElem?_take, if_pos hc, List.getElem?_drop]
theorem fl_set (l : List α) (i : Nat) (x : α) (h : i < l.length) : spl (fl ec l) (i * k) (ec x) = fl ec (l.set i x) := by
  unfold spl
  have e : l.set i x = l.take i ++ (x :: l.drop (i + 1)) := by rw [List.set_eq_take_append_cons_drop, if_pos h]
  rw [e, fl_append, fl_cons, fl_take ec k hk, hk, show i * k + k = (i + 1) * k by rw [Nat.succ_mul], fl_drop ec k hk, List.append_assoc]
end

structure Gp where
  key : Int
  count : Int
  sum : Int
  least : Int
  most : Int
deriving DecidableEq

instance : Inhabited Gp := ⟨⟨0, 0, 0, 0, 0⟩⟩
@[go_sem] def gc (g : Gp) : List PV := [.int .i64 g.key, .int .i64 g.count, .int .i64 g.sum, .int .i64 g.least, .int .i64 g.most]
theorem gc5 (g : Gp) : (gc g).length = 5 := rfl
theorem gcs_length (gs : List Gp) : (fl gc gs).length = gs.length * 5 := fl_length gc 5 gc5 gs
theorem take_gcs (gs : List Gp) : (fl gc gs).take (gs.length * 5) = fl gc gs := take_fl gc 5 gc5 gs
theorem gcs_one (gs : List Gp) : (fl gc gs).all one = true := fl_all gc one (fun _ => rfl) gs
theorem gcs_at (gs : List Gp) (i : Nat) (h : i < gs.length) : ((fl gc gs).drop (i * 5)).take 5 = gc (gs.getD i default) := fl_at gc 5 gc5 gs i default h
theorem gcs_0 (gs : List Gp) (i : Nat) (h : i < gs.length) : (fl gc gs)[i * 5]? = some (.int .i64 (gs.getD i default).key) := by
  have := fl_cell gc 5 gc5 gs i 0 default h (by omega); simpa [gc] using this
theorem gcs_1 (gs : List Gp) (i : Nat) (h : i < gs.length) : (fl gc gs)[i * 5 + 1]? = some (.int .i64 (gs.getD i default).count) := by
  have := fl_cell gc 5 gc5 gs i 1 default h (by omega); simpa [gc] using this
theorem gcs_set (gs : List Gp) (i : Nat) (x : Gp) (h : i < gs.length) : spl (fl gc gs) (i * 5) [.int .i64 x.key, .int .i64 x.count, .int .i64 x.sum, .int .i64 x.least, .int .i64 x.most] = fl gc (gs.set i x) := fl_set gc 5 gc5 gs i x h

def bGM (M : Int) (g : Gp) : Prop := (-M ≤ g.key ∧ g.key ≤ M) ∧ (-M ≤ g.count ∧ g.count ≤ M) ∧ (-M ≤ g.sum ∧ g.sum ≤ M) ∧ (-M ≤ g.least ∧ g.least ≤ M) ∧ (-M ≤ g.most ∧ g.most ≤ M)
def bG (g : Gp) : Prop := bGM 1000000000 g

def okG (g : Gp) : Bool := inR g.key (-100000) 100000 && inR g.count 1 1000 && inR g.least 0 g.most && decide (g.most ≤ 999) &&
  (if g.count = 1 then decide (g.least = g.most) && decide (g.sum = g.least)
   else inR g.sum (g.least + g.most + (g.count - 2) * g.least) (g.least + g.most + (g.count - 2) * g.most))

theorem mulB {a b : Int} (h1 : -2000000000 ≤ a ∧ a ≤ 2000000000) (h2 : -2000000000 ≤ b ∧ b ≤ 2000000000) : -4000000000000000000 ≤ a * b ∧ a * b ≤ 4000000000000000000 := by
  have h3 : a.natAbs ≤ 2000000000 := by omega
  have h4 : b.natAbs ≤ 2000000000 := by omega
  have h5 : (a * b).natAbs ≤ 2000000000 * 2000000000 := by rw [Int.natAbs_mul]; exact Nat.mul_le_mul h3 h4
  omega

theorem c_isGroup (g : Gp) (hb : bG g) : PCE Try.prog 75 [.agg (gc g)] [] (fun r h => r = .bool (okG g) ∧ h = []) := by
  obtain ⟨h1, h2, h3, h4, h5⟩ := hb
  have m1 := mulB (a := g.count - 2) (b := g.least) (by omega) (by omega)
  have m2 := mulB (a := g.count - 2) (b := g.most) (by omega) (by omega)
  refine PCE.of_body tok Try.func75 (by kernel_rfl) rfl Try.ntmps75 (by rw [Try.results75]) (by simp) (W_go tok mix [0, 1, 2, 3] (by decide +kernel) rfl ?_)
  simp +decide only [go_sem, Nat.reduceAdd, Nat.reduceSub, Nat.reduceMul]
  refine CallJ.of0 1 (c_isKey _) (by simp +decide [go_sem]) ?_
  rintro _ _ ⟨rfl, rfl⟩
  refine ⟨by simp [go_sem], by simp [go_sem], ?_⟩
  simp +decide  only [go_sem, Nat.reduceAdd, Nat.reduceSub, Nat.reduceMul]
  refine BrJ.of (fun k1 => ?_) fun k1 => ?_
  · simp +decide  only [go_sem, Nat.reduceAdd, Nat.reduceSub, Nat.reduceMul, k1]
    refine CallJ.of0 1 (c_in _ _ _) (by simp +decide [go_sem]) ?_
    rintro _ _ ⟨rfl, rfl⟩
    refine ⟨by simp [go_sem], by simp [go_sem], ?_⟩
    simp +decide  only [go_sem, Nat.reduceAdd, Nat.reduceSub, Nat.reduceMul, k1]
    refine BrJ.of (fun k2 => ?_) fun k2 => ?_
    · simp +decide  only [go_sem, Nat.reduceAdd, Nat.reduceSub, Nat.reduceMul, k1, k2]
      refine CallJ.of0 1 (c_in _ _ _) (by simp +decide [go_sem]) ?_
      rintro _ _ ⟨rfl, rfl⟩
      refine ⟨by simp [go_sem], by simp [go_sem], ?_⟩
      simp +decide  only [go_sem, Nat.reduceAdd, Nat.reduceSub, Nat.reduceMul, k1, k2]
      refine BrJ.of (fun k3 => ?_) fun k3 => ?_
      · simp +decide  only [go_sem, Nat.reduceAdd, Nat.reduceSub, Nat.reduceMul, k1, k2, k3]
        refine BrJ.ofP (fun k4 => ?_) fun k4 => ?_
        · have k4' : ¬ g.most ≤ 999 := by omega
          simp +decide  only [go_sem, Nat.reduceAdd, Nat.reduceSub, Nat.reduceMul, k1, k2, k3, k4]
          refine Ret.sel [] rfl (by simp +decide [go_sem]) ?_
          simp +decide [go_sem, okG, k4']
        · have k4' : g.most ≤ 999 := by omega
          simp +decide  only [go_sem, Nat.reduceAdd, Nat.reduceSub, Nat.reduceMul, k1, k2, k3, k4]
          refine BrJ.ofP (fun k5 => ?_) fun k5 => ?_
          · simp +decide  only [go_sem, Nat.reduceAdd, Nat.reduceSub, Nat.reduceMul, k5]
            refine BrJ.ofP (fun k6 => ?_) fun k6 => ?_
            · simp +decide  only [go_sem, Nat.reduceAdd, Nat.reduceSub, Nat.reduceMul, k6]
              refine Ret.sel [] rfl (by simp +decide [go_sem]) ?_
              have k3' := k3
              rw [k6] at k3'
              simp +decide [go_sem, okG, k1, k2, k3', k4', k5, k6]
            · simp +decide  only [go_sem, Nat.reduceAdd, Nat.reduceSub, Nat.reduceMul, k6]
              refine Ret.sel [] rfl (by simp +decide [go_sem]) ?_
              simp +decide [go_sem, okG, k1, k2, k3, k4', k5, k6]
          · simp +decide  only [go_sem, Nat.reduceAdd, Nat.reduceSub, Nat.reduceMul, k5, wrap_in (n := g.least + g.most) (by omega) (by omega), wrap_in (n := g.count - 2) (by omega) (by omega), wrap_in (n := (g.count - 2) * g.least) (by omega) (by omega), wrap_in (n := (g.count - 2) * g.most) (by omega) (by omega), wrap_in (n := g.least + g.most + (g.count - 2) * g.least) (by omega) (by omega), wrap_in (n := g.least + g.most + (g.count - 2) * g.most) (by omega) (by omega)]
            refine CallJ.of0 1 (c_in _ _ _) (by simp +decide [go_sem]) ?_
            rintro _ _ ⟨rfl, rfl⟩
            refine ⟨by simp [go_sem], by simp [go_sem], ?_⟩
            simp +decide  only [go_sem, Nat.reduceAdd, Nat.reduceSub, Nat.reduceMul]
            refine Ret.sel [] rfl (by simp +decide [go_sem]) ?_
            simp +decide [go_sem, okG, k1, k2, k3, k4', k5]
      · simp +decide  only [go_sem, Nat.reduceAdd, Nat.reduceSub, Nat.reduceMul, k1, k2, k3]
        refine Ret.sel [] rfl (by simp +decide [go_sem]) ?_
        simp +decide [go_sem, okG, k3]
    · simp +decide  only [go_sem, Nat.reduceAdd, Nat.reduceSub, Nat.reduceMul, k1, k2]
      refine Ret.sel [] rfl (by simp +decide [go_sem]) ?_
      simp +decide [go_sem, okG, k2]
  · simp +decide  only [go_sem, Nat.reduceAdd, Nat.reduceSub, Nat.reduceMul, k1]
    refine Ret.sel [] rfl (by simp +decide [go_sem]) ?_
    simp +decide [go_sem, okG, k1]

theorem c_isTop (k : Int) : PCE Try.prog 76 [.int .i64 k] [] (fun r h => r = .bool (inR k 1 16) ∧ h = []) := by
  refine PCE.of_body tok Try.func76 (by kernel_rfl) rfl Try.ntmps76 (by rw [Try.results76]) (by simp) (W_go tok mix [0, 2] (by decide +kernel) rfl ?_)
  simp +decide only [go_sem, Nat.reduceAdd, Nat.reduceSub, Nat.reduceMul]
  refine CallJ.of0 1 (c_in _ _ _) (by simp +decide [go_sem]) ?_
  rintro _ _ ⟨rfl, rfl⟩
  refine ⟨by simp [go_sem], by simp [go_sem], ?_⟩
  simp +decide  only [go_sem, Nat.reduceAdd, Nat.reduceSub, Nat.reduceMul]
  refine Ret.sel [] rfl (by simp +decide [go_sem]) ?_
  exact ⟨rfl, rfl⟩

theorem c_isNaN (k : Int) : PCE Try.prog 137 [.int .i64 k] [] (fun r h => r = .bool false ∧ h = []) := by
  refine PCE.of_body tok Try.func137 (by kernel_rfl) rfl Try.ntmps137 (by rw [Try.results137]) (by simp) (W_go tok mix [0, 2] (by decide +kernel) rfl ?_)
  simp +decide only [go_sem, Nat.reduceAdd, Nat.reduceSub, Nat.reduceMul]
  refine Ret.sel [] rfl (by simp +decide [go_sem]) ?_
  exact ⟨rfl, rfl⟩

theorem c_Compare (x y : Int) : PCE Try.prog 80 [.int .i64 x, .int .i64 y] [] (fun r h => r = .int .i64 (if x < y then -1 else if y < x then 1 else 0) ∧ h = []) := by
  refine PCE.of_body tok Try.func80 (by kernel_rfl) rfl Try.ntmps80 (by rw [Try.results80]) (by simp) (W_go tok mix [0, 1, 4, 5, 6] (by decide +kernel) rfl ?_)
  simp +decide only [go_sem, Nat.reduceAdd, Nat.reduceSub, Nat.reduceMul]
  refine CallJ.of0 1 (c_isNaN _) (by simp +decide [go_sem]) ?_
  rintro _ _ ⟨rfl, rfl⟩
  refine ⟨by simp [go_sem], by simp [go_sem], ?_⟩
  simp +decide  only [go_sem, Nat.reduceAdd, Nat.reduceSub, Nat.reduceMul]
  refine CallJ.of0 1 (c_isNaN _) (by simp +decide [go_sem]) ?_
  rintro _ _ ⟨rfl, rfl⟩
  refine ⟨by simp [go_sem], by simp [go_sem], ?_⟩
  simp +decide  only [go_sem, Nat.reduceAdd, Nat.reduceSub, Nat.reduceMul]
  refine BrJ.ofP (fun h1 => ?_) fun h1 => ?_
  · simp +decide  only [go_sem, Nat.reduceAdd, Nat.reduceSub, Nat.reduceMul, h1]
    refine Ret.sel [] rfl (by simp +decide [go_sem]) ?_
    simp +decide [go_sem, h1]
  · simp +decide  only [go_sem, Nat.reduceAdd, Nat.reduceSub, Nat.reduceMul, h1]
    refine BrJ.ofP (fun h2 => ?_) fun h2 => ?_
    · simp +decide  only [go_sem, Nat.reduceAdd, Nat.reduceSub, Nat.reduceMul, h2]
      refine Ret.sel [] rfl (by simp +decide [go_sem]) ?_
      simp +decide [go_sem, h1, h2]
    · simp +decide  only [go_sem, Nat.reduceAdd, Nat.reduceSub, Nat.reduceMul, h2]
      refine Ret.sel [] rfl (by simp +decide [go_sem]) ?_
      simp +decide [go_sem, h1, h2]

theorem c_cmpKey (x y : Gp) : PCE Try.prog 134 [.agg (gc x), .agg (gc y)] [] (fun r h => (∃ v : Int, r = .int .i64 v ∧ decide (v < 0) = decide (x.key < y.key)) ∧ h = []) := by
  refine PCE.of_body tok Try.func134 (by kernel_rfl) rfl Try.ntmps134 (by rw [Try.results134]) (by simp) (W_go tok mix [0, 1, 2, 3, 4] (by decide +kernel) rfl ?_)
  simp +decide only [go_sem, Nat.reduceAdd, Nat.reduceSub, Nat.reduceMul]
  refine CallJ.of0 1 (c_Compare _ _) (by simp +decide [go_sem]) ?_
  rintro _ _ ⟨rfl, rfl⟩
  refine ⟨by simp [go_sem], by simp [go_sem], ?_⟩
  simp +decide  only [go_sem, Nat.reduceAdd, Nat.reduceSub, Nat.reduceMul]
  refine Ret.sel [] rfl (by simp +decide [go_sem]) ?_
  refine ⟨⟨_, rfl, ?_⟩, rfl⟩
  by_cases h1 : x.key < y.key
  · simp [h1]
  · by_cases h2 : y.key < x.key <;> simp [h1, h2]

theorem c_cmpCount (x y : Gp) : PCE Try.prog 79 [.agg (gc x), .agg (gc y)] [] (fun r h => (∃ v : Int, r = .int .i64 v ∧ decide (v < 0) = decide (y.count < x.count)) ∧ h = []) := by
  refine PCE.of_body tok Try.func79 (by kernel_rfl) rfl Try.ntmps79 (by rw [Try.results79]) (by simp) (W_go tok mix [0, 1, 2, 3, 4] (by decide +kernel) rfl ?_)
  simp +decide only [go_sem, Nat.reduceAdd, Nat.reduceSub, Nat.reduceMul]
  refine CallJ.of0 1 (c_Compare _ _) (by simp +decide [go_sem]) ?_
  rintro _ _ ⟨rfl, rfl⟩
  refine ⟨by simp [go_sem], by simp [go_sem], ?_⟩
  simp +decide  only [go_sem, Nat.reduceAdd, Nat.reduceSub, Nat.reduceMul]
  refine Ret.sel [] rfl (by simp +decide [go_sem]) ?_
  refine ⟨⟨_, rfl, ?_⟩, rfl⟩
  by_cases h1 : y.count < x.count
  · simp [h1]
  · by_cases h2 : x.count < y.count <;> simp [h1, h2]

theorem c_copyG (q : Nat) (gs : List Gp) (hn : gs.length ≤ 1000) : PCE Try.prog 77 [.vz q gs.length (fl gc gs)] [] (fun r h => r = .sl 0 1 5 0 gs.length ∧ h = [⟨1, 0, true, fl gc gs⟩]) := by
  have b1 : gs.length * 40 ≤ 140737488355328 := by omega
  have b2 : gs.length ≤ 140737488355328 := by omega
  refine PCE.of_body tok Try.func77 (by kernel_rfl) rfl Try.ntmps77 (by rw [Try.results77]) (by simp) (W_go tok mix [0, 2] (by decide +kernel) rfl ?_)
  simp +decide only [go_sem, Nat.reduceAdd, Nat.reduceSub, Nat.reduceMul]
  simp +decide  only [go_sem, Nat.reduceAdd, Nat.reduceSub, Nat.reduceMul, gcs_length, gcs_one, b1, b2]
  refine Ret.sel [0] rfl (by simp +decide [go_sem]) ?_
  exact ⟨rfl, rfl⟩

def keyLt (gs : List Gp) (n : Nat) : Prop := ∀ i, i + 1 < n → (gs.getD i default).key < (gs.getD (i + 1) default).key

theorem c_IsValidGroups (q : Nat) (gs : List Gp) (hn : gs.length ≤ 1000) (hb : ∀ g ∈ gs, bG g) : PCE Try.prog 29 [.vz q gs.length (fl gc gs)] [] (fun r h => (∃ b : Bool, r = .bool b ∧ (b = true ↔ gs.length ≤ 64 ∧ (∀ i, i < gs.length → okG (gs.getD i default) = true) ∧ keyLt gs gs.length)) ∧ h = []) := by
  refine PCE.of_body tok Try.func29 (by kernel_rfl) rfl Try.ntmps29 (by rw [Try.results29]) (by simp) (W_go tok mix [0, 2, 3, 4, 5, 6, 7] (by decide +kernel) rfl ?_)
  simp +decide only [go_sem, Nat.reduceAdd, Nat.reduceSub, Nat.reduceMul]
  refine LoopJ.of tok mix [0, 2, 3, 4, 5, 6, 7] (fun i : Nat => ⟨tm [(0, .vz q gs.length (fl gc gs)), (2, .bool false), (5, .vz q gs.length (fl gc gs)), (6, .int .i64 gs.length), (7, .int .i64 i)], [], 34⟩)
    (fun i => i ≤ gs.length ∧ (∀ k, k < i → okG (gs.getD k default) = true) ∧ keyLt gs i) (fun i => gs.length - i) 0 [] rfl ⟨Nat.zero_le _, fun k h => by omega, fun k h => by omega⟩ (by simp +decide [go_sem]) (by decide +kernel) rfl ?_
  intro i ⟨i1, i2, i3⟩
  simp +decide  only [go_sem, Nat.reduceAdd, Nat.reduceSub, Nat.reduceMul]
  refine BrJ.ofP (fun h1 => ?_) fun h1 => ?_
  · have h1' : i < gs.length := by omega
    have c0 : (0:Int) ≤ i := by omega
    have c1 : i * 5 + 5 ≤ gs.length * 5 := by omega
    have hg : bG (gs.getD i default) := hb _ (by simp [List.getD, h1'])
    simp +decide  only [go_sem, Nat.reduceAdd, Nat.reduceSub, Nat.reduceMul, h1, c0, gcs_length, c1, gcs_at _ _ h1']
    refine CallJ.of0 q (c_isGroup _ hg) (by simp +decide [go_sem]) ?_
    rintro _ _ ⟨rfl, rfl⟩
    refine ⟨by simp [go_sem], by simp [go_sem], ?_⟩
    simp +decide  only [go_sem, Nat.reduceAdd, Nat.reduceSub, Nat.reduceMul]
    refine BrJ.of (fun h2 => ?_) fun h2 => ?_
    · simp +decide  only [go_sem, Nat.reduceAdd, Nat.reduceSub, Nat.reduceMul, h2]
      refine BrJ.ofP (fun h3 => ?_) fun h3 => ?_
      · have c2 : (0:Int) ≤ i - 1 := by omega
        have c3 : (i:Int) - 1 < gs.length := by omega
        have c4 : ((i:Int) - 1).toNat = i - 1 := by omega
        have c5 : i - 1 < gs.length := by omega
        simp +decide  only [go_sem, Nat.reduceAdd, Nat.reduceSub, Nat.reduceMul, h2, h3, wrap_in (n := ↑i - 1) (by omega) (by omega), c2, c3, c4, gcs_0 _ _ c5]
        refine BrJ.ofP (fun h4 => ?_) fun h4 => ?_
        · simp +decide  only [go_sem, Nat.reduceAdd, Nat.reduceSub, Nat.reduceMul, h2, h3, h4]
          refine Ret.sel [] rfl (by simp +decide [go_sem]) ?_
          refine ⟨⟨false, rfl, ?_⟩, rfl⟩
          simp only [Bool.false_eq_true, false_iff]
          rintro ⟨_, _, hk⟩
          have := hk (i - 1) (by omega)
          rw [show i - 1 + 1 = i by omega] at this
          omega
        · simp +decide  only [go_sem, Nat.reduceAdd, Nat.reduceSub, Nat.reduceMul, h2, h3, h4, wrap_in (n := ↑i + 1) (by omega) (by omega)]
          refine InvJ.mk (i + 1) [] rfl ⟨by omega, fun k hk => ?_, fun k hk => ?_⟩ (by omega) ?_
          · by_cases e : k = i
            · rw [e]; exact h2
            · exact i2 k (by omega)
          · by_cases e : k + 1 = i
            · subst e
              have e2 : k + 1 - 1 = k := by omega
              rw [e2] at h4
              omega
            · exact i3 k (by omega)
          · simp +decide [go_sem]
      · simp +decide  only [go_sem, Nat.reduceAdd, Nat.reduceSub, Nat.reduceMul, h2, h3, wrap_in (n := ↑i + 1) (by omega) (by omega)]
        refine InvJ.mk (i + 1) [] rfl ⟨by omega, fun k hk => ?_, fun k hk => by omega⟩ (by omega) ?_
        · by_cases e : k = i
          · rw [e]; exact h2
          · exact i2 k (by omega)
        · simp +decide [go_sem]
    · simp +decide  only [go_sem, Nat.reduceAdd, Nat.reduceSub, Nat.reduceMul, h2]
      refine Ret.sel [] rfl (by simp +decide [go_sem]) ?_
      refine ⟨⟨false, rfl, ?_⟩, rfl⟩
      simp only [Bool.false_eq_true, false_iff]
      rintro ⟨_, hk, _⟩
      rw [hk i h1'] at h2
      cases h2
  · simp +decide  only [go_sem, Nat.reduceAdd, Nat.reduceSub, Nat.reduceMul, h1]
    refine Ret.sel [] rfl (by simp +decide [go_sem]) ?_
    have : i = gs.length := by omega
    subst this
    refine ⟨⟨_, rfl, ?_⟩, rfl⟩
    simp only [decide_eq_true_eq]
    exact ⟨fun h => ⟨by omega, i2, i3⟩, fun h => by omega⟩
end Go.Proofs.Ytaloakmffdejgaa
