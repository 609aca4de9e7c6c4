/- make and append. -/
import Derived.Test.YtaloakmffdejgaaFwD
import Derived.Laws.Append
import Derived.Laws.MakeOwn
import Derived.IntWalk
set_option linter.unusedVariables false
namespace Go.Fw
open Go

theorem wrap_in {n : Int} (h0 : -9223372036854775808 ≤ n) (h1 : n ≤ 9223372036854775807) : IntKind.i64.wrap n = n := IntWalk.i64_in n ⟨h0, h1⟩

def msP (T : Tab) (h : List Blk) (t : Nat) (l c : PV) : Option (PV × List Blk) :=
  match T t with
  | some { kind := .slice e, .. } =>
    match T e with
    | some re =>
      match l, c with
      | .int _ l, .int _ c => if 0 ≤ l ∧ l ≤ c ∧ c ≤ 281474976710656 ∧ re.bytes * c ≤ 281474976710656 then some (.sl h.length 0 re.size 0 l.toNat, h ++ [⟨0, 0, true, zer (cellsOf (ofV re.zero)) l.toNat⟩]) else none
      | _, _ => none
    | none => none
  | _ => none

theorem msP_sound {P : Program} {T : Tab} (hT : TOk P T) {w : World} {F : Nat → Prop} {R : Reg} {L : List BL} {h h' : List Blk} (hr : HR w F R L h) {t : Nat} {A B r : PV} {u v : Value} (ha : VR w R L A u) (hb : VR w R L B v)
    (he : msP T h t A B = some (r, h')) : ∃ z w' L', (Instr.makeSlice t u v).run P w = .ok z w' ∧ Ext w F R w' F R ∧ LLe L L' ∧ HR w' F R L' h' ∧ VR w' R L' r z := by
  unfold msP at he
  split at he
  · rename_i e z0 h1
    have k1 := (hT _ _ h1).kind
    simp only [KOk] at k1
    split at he
    case h_2 => cases he
    · rename_i re h2
      have ht := hT _ _ h2
      obtain ⟨i', hi, hby, hsz, hz⟩ := ht.info
      split at he
      case h_2 => cases he
      rename_i kl l kc c
      rw [VR] at ha hb
      subst ha hb
      split at he
      · rename_i hc
        injection he with he
        injection he with e1 e2
        subst e1 e2
        have hzz : VRs w (R0 R) [] (zer (cellsOf (ofV re.zero)) l.toNat) (fun i => (madeCells re.zero.cells (c.toNat * i'.size))[i]?) := by
          refine VRs_zer re.zero l.toNat _ ?_
          rw [ht.zsz, ← hsz]
          exact Nat.mul_le_mul_right _ (by omega)
        have hlen : (zer (cellsOf (ofV re.zero)) l.toNat).length = l.toNat * i'.size := by
          rw [zer_length, (VRs_zero w R L re.zero).2, ht.zsz, hsz]
        have hle : l.toNat * i'.size ≤ c.toNat * i'.size := Nat.mul_le_mul_right _ (by omega)
        have hmz : (madeCells re.zero.cells (c.toNat * i'.size)).size = c.toNat * i'.size := size_madeCells _ _
        obtain ⟨y1, y2, y3⟩ := hr.fresh (madeCells re.zero.cells (c.toNat * i'.size)) e 0 true (zer (cellsOf (ofV re.zero)) l.toNat) (by decide) (by rw [hlen, hmz]; exact hle) (by simpa [CR] using hzz)
        refine ⟨.slice (some ⟨w.heap.size, 0, none⟩) l.toNat c.toNat, _, _, run_make w t e i' re.zero k1 hi hz kl kc l c hc.1 hc.2.1 (by rw [hby]; exact hc.2.2.2) (by omega), y1, y2, y3, ?_⟩
        rw [VR]
        refine ⟨_, get_last (w := w) hr.len, Nat.le_refl _, _, _, rfl, by omega, .inr ⟨w.heap.size, 0, rfl, fun _ => ⟨0, _, rfl, rfl, ?_⟩⟩⟩
        rw [hmz, hsz]; omega
      · cases he
  · cases he

/-- What is appended. -/
def srcP (T : Tab) (h : List Blk) (xT : Nat) (re : TR) (x : PV) : Option (Nat × List PV × Bool) :=
  match T xT with
  | some { kind := .slice _, .. } =>
    match x with
    | .nils => some (0, [], true)
    | .vz _ n cs => if cs.length = n * re.size then some (n, cs, true) else none
    | .sl b ver k off n =>
      match h[b]? with
      | some bl => if ver = bl.ver ∧ k = re.size ∧ off + n * k ≤ bl.cells.length then some (n, (bl.cells.drop off).take (n * k), bl.cl) else none
      | none => none
    | _ => none
  | some { kind := .str, .. } =>
    match x with
    | .str s => if re.size = 1 then some (s.length, s.map fun b => .int .u8 b.toNat, true) else none
    | _ => none
  | _ => none

def appP (T : Tab) (h : List Blk) (sT xT : Nat) (s x : PV) : Option (PV × List Blk) :=
  match T sT with
  | some { kind := .slice e, .. } =>
    match T e with
    | some re =>
      match srcP T h xT re x with
      | some (m, new, ncl) =>
        if new.all one = true ∧ 0 < re.size then
          match s with
          | .nils => if m * re.bytes ≤ 140737488355328 ∧ m ≤ 140737488355328 then some (.sl h.length 0 re.size 0 m, h ++ [⟨0, 0, ncl, new⟩]) else none
          | .sl b ver k off n =>
            match h[b]? with
            | some bl =>
              if ver = bl.ver ∧ bl.mode = 0 ∧ k = re.size ∧ off + n * k ≤ bl.cells.length ∧ (bl.cl = true → ncl = true) ∧ (n + m) * re.bytes ≤ 140737488355328 ∧ n + m ≤ 140737488355328 then
                some (.sl b (ver + 1) k 0 (n + m), h.set b ⟨ver + 1, 0, bl.cl, (bl.cells.drop off).take (n * k) ++ new⟩)
              else none
            | none => none
          | _ => none
        else none
      | none => none
    | none => none
  | _ => none

theorem run_append_in {P : Program} {w w' : World} {sT xT ty e : Nat} {i : TypeInfo} {d : TypeDesc} {base : Option Addr} {n cap m size : Nat} {x : Value} {news : List Value}
    (ht : P.underlying sT = some (.slice e)) (hs : (sizeOf e).run P w = .ok size w) (hx : P.underlying xT = some d) (hd : (∃ e, d = .slice e) ∨ d = .string)
    (hl : (Builtin.lenOf x).run P w = .ok m w) (hf : (Builtin.firstCells size m x).run P w = .ok news.toArray w) (hc : n + m ≤ cap)
    (hst : ∀ a, base = some a → (storeCells (a.add (n * size)) news).run P w = .ok () w') (hno : base = none → w' = w) :
    (Builtin.append_ #[sT, xT] ty #[.slice base n cap, x]).run P w = .ok (.slice base (n + m) cap) w' := by
  rcases hd with ⟨e', rfl⟩ | rfl <;> cases base with
  | none => simp [Builtin.append_, run_underlying ht, run_underlying hx, hs, hl, hf, hc, hno rfl]
  | some a => simp [Builtin.append_, run_underlying ht, run_underlying hx, hs, hl, hf, hc, hst a rfl]

theorem run_append_out {P : Program} {w : World} {sT xT ty e : Nat} {i : TypeInfo} {z : Value} {d : TypeDesc} {base : Option Addr} {n cap m : Nat} {x : Value} {olds news : List Value}
    (ht : P.underlying sT = some (.slice e)) (hi : P.info? e = some i) (hz : i.zero = some z) (hx : P.underlying xT = some d) (hd : (∃ e, d = .slice e) ∨ d = .string)
    (hl : (Builtin.lenOf x).run P w = .ok m w) (hf : (Builtin.firstCells i.size m x).run P w.drew = .ok news.toArray w.drew) (ho : (Builtin.firstCells i.size n (.slice base n cap)).run P w.drew = .ok olds.toArray w.drew)
    (hc : cap < n + m) (hb : (n + m) * i.bytes ≤ 140737488355328) (hn : n + m ≤ 140737488355328) :
    (Builtin.append_ #[sT, xT] ty #[.slice base n cap, x]).run P w = .ok (.slice (some ⟨w.heap.size, 0, none⟩) (n + m) (grownCap w (n + m) cap e))
      (w.drew.alloc (.cells (olds.toArray ++ news.toArray ++ Builtin.zeroCells z.cells (grownCap w (n + m) cap e - (n + m))) e)) := by
  have h1 : ¬ (n + m ≤ cap) := by omega
  have h63' : ¬ (9223372036854775807 < ((n : Int) + (m : Int))) := by omega
  have h48 := growslice_fits hc hb
  have h48' : ¬ (281474976710656 < Builtin.nextslicecap (n + m) cap * i.bytes) := by omega
  rcases hd with ⟨e', rfl⟩ | rfl <;>
    (simp [Builtin.append_, run_underlying ht, run_underlying hx, sizeOf, typeInfo, zeroValue, hi, hz, hl, h1, h63', h48', Question.forced, hf, ho, newRow, grownCap]
     congr 2
     apply Array.ext'
     simp)


theorem srcP_sound {P : Program} {T : Tab} (hT : TOk P T) {w : World} {F : Nat → Prop} {R : Reg} {L : List BL} {h : List Blk} (hr : HR w F R L h) {xT : Nat} {re : TR} {X : PV} {v : Value} (hx : VR w R L X v)
    {m : Nat} {new : List PV} {ncl : Bool} (he : srcP T h xT re X = some (m, new, ncl)) :
    ∃ d, P.underlying xT = some d ∧ ((∃ e, d = .slice e) ∨ d = .string) ∧ new.length = m * re.size ∧ (Builtin.lenOf v).run P w = .ok m w ∧
      ∃ news : List Value, news.length = new.length ∧ (Builtin.firstCells re.size m v).run P w = .ok news.toArray w ∧ (Builtin.firstCells re.size m v).run P w.drew = .ok news.toArray w.drew ∧
        VRs w R L new (fun i => news[i]?) ∧ (ncl = true → VRs w (R0 R) [] new (fun i => news[i]?)) := by
  unfold srcP at he
  split at he
  · rename_i e z0 h1
    have k1 := (hT _ _ h1).kind
    simp only [KOk] at k1
    split at he
    · rw [VR] at hx; subst hx
      injection he with he
      simp at he
      obtain ⟨rfl, rfl, rfl⟩ := he
      refine ⟨_, k1, .inl ⟨_, rfl⟩, by simp, by simp [Builtin.lenOf], [], rfl, by simp [Builtin.firstCells], by simp [Builtin.firstCells], by simp [VRs], fun _ => by simp [VRs]⟩
    · rename_i q n cs
      split at he
      · rename_i hlen
        injection he with he
        simp at he
        obtain ⟨rfl, rfl, rfl⟩ := he
        rw [VR] at hx
        obtain ⟨p, cap, rfl, hcap, hx⟩ := hx
        refine ⟨_, k1, .inl ⟨_, rfl⟩, hlen, by simp [Builtin.lenOf], ?_⟩
        rcases hx with ⟨rfl, rfl⟩ | ⟨rb, ro, rfl, hq, hc⟩
        · refine ⟨[], rfl, ?_, ?_, by simp [VRs], fun _ => by simp [VRs]⟩ <;> cases p <;> simp [Builtin.firstCells, loadCells, loadCellsFrom]
        · obtain ⟨vs, q1, q2, q3⟩ := VRs_vals _ _ hc
          have hld : ∀ w', w'.heap = w.heap → (Builtin.firstCells re.size n (.slice (some ⟨rb, ro, none⟩) n cap)).run P w' = .ok vs.toArray w' := fun w' hw => by
            refine run_firstCells_some (P := P) w' re.size n ⟨rb, ro, none⟩ n cap vs (by rw [q1, hlen]) fun j u hj => ?_
            have := q2 j u hj
            rw [Addr.add_lit]
            simpa [World.cell?, hw] using this
          refine ⟨vs, q1, hld w rfl, hld w.drew rfl, VRs.mono (fun _ _ _ => rfl) R0_R (LLe.nil L) _ _ _ q3 fun _ _ h => h, fun hq0 => ?_⟩
          exact q3
      · cases he
    · rename_i b ver k off n
      split at he
      · rename_i bl hbl
        split at he
        · rename_i hc
          injection he with he
          simp at he
          obtain ⟨rfl, rfl, rfl⟩ := he
          obtain ⟨l, hl, hv⟩ := hr.get hbl
          rw [VR] at hx
          obtain ⟨l', hl', hle, p, cap, rfl, hcap, hx⟩ := hx
          have : l' = l := by rw [hl] at hl'; exact (Option.some.inj hl').symm
          subst this
          have hlen : ((bl.cells.drop off).take (n * k)).length = n * re.size := by
            rw [← hc.2.1]; simp; omega
          refine ⟨_, k1, .inl ⟨_, rfl⟩, hlen, by simp [Builtin.lenOf], ?_⟩
          rcases hx with ⟨h0, _⟩ | ⟨rb, o, rfl, hx⟩
          · have hn : n = 0 := by omega
            subst hn
            refine ⟨[], by simp, ?_, ?_, by simp [VRs], fun _ => by simp [VRs]⟩ <;> cases p <;> simp [Builtin.firstCells, loadCells, loadCellsFrom]
          · obtain ⟨ro, sz, z1, z2, z3⟩ := hx (by omega)
            subst z2
            have hcr := hr.cells hbl hl z1
            have e : (fun i => w.cell? ⟨rb, ro + off + i, none⟩) = fun i => w.cell? ⟨rb, ro + (off + i), none⟩ := by funext i; rw [Nat.add_assoc]
            have hld : ∀ vs : List Value, vs.length = n * re.size → (∀ (j : Nat) (u : Value), vs[j]? = some u → w.cell? ⟨rb, ro + off + j, none⟩ = some u) → ∀ w', w'.heap = w.heap →
                (Builtin.firstCells re.size n (.slice (some ⟨rb, ro + off, none⟩) n cap)).run P w' = .ok vs.toArray w' := fun vs q1 q2 w' hw => by
              refine run_firstCells_some (P := P) w' re.size n ⟨rb, ro + off, none⟩ n cap vs q1 fun j u hj => ?_
              have := q2 j u hj
              rw [Addr.add_lit]
              simpa [World.cell?, hw] using this
            unfold CR at hcr
            split at hcr
            · rename_i hcl
              have hd := hcr.drop_take off (n * k)
              rw [← e] at hd
              obtain ⟨vs, q1, q2, q3⟩ := VRs_vals _ _ hd
              exact ⟨vs, q1, hld vs (by rw [q1, hlen]) q2 w rfl, hld vs (by rw [q1, hlen]) q2 w.drew rfl, VRs.mono (fun _ _ _ => rfl) R0_R (LLe.nil L) _ _ _ q3 fun _ _ h => h, fun _ => q3⟩
            · rename_i hcl
              have hd := hcr.drop_take off (n * k)
              rw [← e] at hd
              obtain ⟨vs, q1, q2, q3⟩ := VRs_vals _ _ hd
              exact ⟨vs, q1, hld vs (by rw [q1, hlen]) q2 w rfl, hld vs (by rw [q1, hlen]) q2 w.drew rfl, q3, fun h => absurd h hcl⟩
        · cases he
      · cases he
    · cases he
  · rename_i h1
    have k1 := (hT _ _ h1).kind
    simp only [KOk] at k1
    split at he
    · rename_i s
      split at he
      · rename_i h1s
        injection he with he
        simp at he
        obtain ⟨rfl, rfl, rfl⟩ := he
        rw [VR] at hx; subst hx
        have hsz : (⟨s.toArray⟩ : ByteArray).size = s.length := by simp [ByteArray.size]
        have hf : ∀ w', (Builtin.firstCells re.size s.length (.string ⟨s.toArray⟩)).run P w' = .ok (s.map fun b => Value.int .u8 b.toNat).toArray w' := fun w' => by
          have : (⟨s.toArray⟩ : ByteArray).extract 0 s.length = ⟨s.toArray⟩ := by
            apply ByteArray.ext
            apply Array.ext'
            simp
          simp [Builtin.firstCells, this]
        have hv : ∀ RR LL, VRs w RR LL (s.map fun b => PV.int .u8 b.toNat) (fun i => (s.map fun b => Value.int .u8 b.toNat)[i]?) := fun RR LL => by
          rw [VRs_iff]
          intro i c hi
          simp only [List.getElem?_map, Option.map_eq_some_iff] at hi ⊢
          obtain ⟨b, hb, rfl⟩ := hi
          exact ⟨_, ⟨b, hb, rfl⟩, by rw [VR]⟩
        refine ⟨_, k1, .inr rfl, by simp [h1s], by simp [Builtin.lenOf, hsz], _, by simp, hf w, hf w.drew, hv _ _, fun _ => hv _ _⟩
      · cases he
    · cases he
  · cases he

theorem Ext.drew (w : World) (F : Nat → Prop) (R : Reg) : Ext w F R w.drew F R :=
  ⟨fun _ _ => rfl, Nat.le_refl _, rfl, rfl, rfl, fun _ h => h, fun _ h => h, fun _ _ _ => Iff.rfl, fun _ _ h => h⟩

theorem VRs.append {w : World} {R : Reg} {L : List BL} {as bs : List PV} {us vs : List Value} (hl : us.length = as.length) (h1 : VRs w R L as (fun i => us[i]?)) (h2 : VRs w R L bs (fun i => vs[i]?)) {rest : List Value} :
    VRs w R L (as ++ bs) (fun i => (us ++ vs ++ rest)[i]?) := by
  rw [VRs_iff] at h1 h2 ⊢
  intro i c hi
  rw [List.getElem?_append] at hi
  split at hi
  · rename_i hlt
    obtain ⟨u, hu, hv⟩ := h1 i c hi
    refine ⟨u, ?_, hv⟩
    rw [List.append_assoc, List.getElem?_append_left (by omega)]; exact hu
  · rename_i hge
    obtain ⟨u, hu, hv⟩ := h2 _ c hi
    refine ⟨u, ?_, hv⟩
    have hlt := (List.getElem?_eq_some_iff.1 hu).1
    rw [List.append_assoc, List.getElem?_append_right (by omega), hl, List.getElem?_append_left hlt]; exact hu

theorem appP_sound {P : Program} {T : Tab} (hT : TOk P T) {w : World} {F : Nat → Prop} {R : Reg} {L : List BL} {h h' : List Blk} (hr : HR w F R L h) {sT xT ty : Nat} {S X r : PV} {u v : Value} (hs : VR w R L S u) (hx : VR w R L X v)
    (he : appP T h sT xT S X = some (r, h')) : ∃ z w' L', (Builtin.append_ #[sT, xT] ty #[u, v]).run P w = .ok z w' ∧ Ext w F R w' F R ∧ LLe L L' ∧ HR w' F R L' h' ∧ VR w' R L' r z := by
  unfold appP at he
  split at he
  case h_2 => cases he
  rename_i e z0 h1
  have k1 := (hT _ _ h1).kind
  simp only [KOk] at k1
  split at he
  case h_2 => cases he
  rename_i re h2
  have ht := hT _ _ h2
  obtain ⟨i, hi, hby, hsz, hz⟩ := ht.info
  split at he
  case h_2 => cases he
  rename_i m new ncl hsrc
  obtain ⟨d, kd, hd, hnl, hlen, news, hn1, hf1, hf2, hv1, hv2⟩ := srcP_sound hT hr hx hsrc
  split at he
  case isFalse => cases he
  rename_i hone
  have hone' : ∀ x ∈ news, x.oneCell' = true := VRs_one hn1 hone.1 hv1
  have hzsz : re.zero.cells.size = re.size := ht.zsz
  split at he
  · -- nil
    split at he
    case isFalse => cases he
    rename_i hb
    injection he with he
    injection he with e1 e2
    subst e1 e2
    rw [VR] at hs; subst hs
    by_cases hm : m = 0
    · subst hm
      have hnew : new = [] := List.eq_nil_of_length_eq_zero (by omega)
      subst hnew
      refine ⟨_, w, L ++ [⟨0, none⟩], run_append_in (w' := w) (i := i) k1 (ht.size w) kd hd hlen hf1 (by omega) (fun a h => by cases h) (fun _ => rfl), ?_⟩
      obtain ⟨q1, q2, q3⟩ := hr.push (w' := w) (b := ⟨0, 0, ncl, []⟩) (l := ⟨0, none⟩) (Nat.le_refl _) rfl rfl rfl (fun _ _ => rfl) (fun _ _ _ h => by cases h) (fun e => by cases e) rfl rfl
      refine ⟨q1, q2, q3, ?_⟩
      rw [VR]
      exact ⟨_, get_last (w := w) hr.len, Nat.le_refl _, _, _, rfl, by omega, .inl ⟨rfl, fun _ _ _ _ h => by cases h⟩⟩
    · have hrun := run_append_out (P := P) (w := w) (sT := sT) (xT := xT) (ty := ty) (base := none) (n := 0) (cap := 0) (olds := []) k1 hi hz kd hd hlen (by rw [hsz]; exact hf2) (by simp [Builtin.firstCells]) (by omega) (by simpa [hby] using hb.1) (by omega)
      simp only [Nat.zero_add] at hrun
      have hge := grownCap_ge w m 0 e
      generalize hG : grownCap w m 0 e = G at hrun hge
      generalize harr : (([] : List Value).toArray ++ news.toArray ++ Builtin.zeroCells re.zero.cells (G - m)) = arr at hrun
      have harr' : arr.toList = news ++ (Builtin.zeroCells re.zero.cells (G - m)).toList := by rw [← harr]; simp
      have hasz : arr.size = G * re.size := by
        rw [← harr]
        simp only [Array.size_append, List.size_toArray, size_zeroCells, hzsz, List.length_nil, hn1, hnl, Nat.zero_add, ← Nat.add_mul]
        congr 1; omega
      have hml : m * re.size ≤ G * re.size := Nat.mul_le_mul_right _ hge
      have hget : ∀ RR LL, VRs w RR LL new (fun i => news[i]?) → VRs w RR LL new (fun i => arr[i]?) := fun RR LL hh => by
        have := VRs.append (us := []) (as := []) (vs := news) (rest := (Builtin.zeroCells re.zero.cells (G - m)).toList) rfl (by simp [VRs]) hh
        simpa [← Array.getElem?_toList, harr'] using this
      refine ⟨_, _, L ++ [⟨0, some (w.heap.size, 0, arr.size)⟩], hrun, ?_⟩
      obtain ⟨q1, q2, q3⟩ := hr.push (w' := w.drew.alloc (.cells arr e)) (b := ⟨0, 0, ncl, new⟩) (l := ⟨0, some (w.heap.size, 0, arr.size)⟩) (by simp) rfl rfl rfl (fun k hk => heap_alloc_lt w.drew _ _ hk)
        (fun rb ro sz h => by simp at h; omega) (fun e => by cases e) rfl
        ⟨arr, e, (0, 0), heap_alloc_at w.drew _, rfl, fun o _ h => absurd h (Nat.not_lt_zero _), by simp only [hasz]; omega, by
          unfold CR
          simp only [Nat.zero_add]
          split
          · rename_i hc; exact hget _ _ (hv2 hc)
          · exact hget _ _ hv1⟩
      refine ⟨q1, q2, q3, ?_⟩
      rw [VR]
      refine ⟨_, get_last (w := w) hr.len, Nat.le_refl _, _, _, rfl, hge, .inr ⟨w.heap.size, 0, rfl, fun _ => ⟨0, arr.size, rfl, rfl, ?_⟩⟩⟩
      rw [hasz]; omega
  · -- an own slice
    rename_i b ver k off n
    split at he
    case h_2 => cases he
    rename_i bl hbl
    split at he
    case isFalse => cases he
    rename_i hc
    obtain ⟨c1, c2, c3, c4, c5, c6, c7⟩ := hc
    subst c1 c3
    injection he with he
    injection he with e1 e2
    subst e1 e2
    obtain ⟨l, hl, hv⟩ := hr.get hbl
    have hbL : b < L.length := (List.getElem?_eq_some_iff.1 hl).1
    rw [VR] at hs
    obtain ⟨l', hl', hle, p, cap, rfl, hcap, hs⟩ := hs
    have : l' = l := by rw [hl] at hl'; exact (Option.some.inj hl').symm
    subst this
    have hm2 : bl.mode ≠ 2 := by omega
    have hwl : ((bl.cells.drop off).take (n * re.size)).length = n * re.size := by simp; omega
    by_cases hin : n + m ≤ cap
    · rcases hs with ⟨h0, _⟩ | ⟨rb, o, rfl, hs⟩
      · have hn : n = 0 := by omega
        have hm : m = 0 := by omega
        subst hn hm h0
        have hnew : new = [] := List.eq_nil_of_length_eq_zero (by omega)
        have hnews : news = [] := List.eq_nil_of_length_eq_zero (by rw [hn1, hnew]; rfl)
        subst hnew hnews
        refine ⟨_, w, L.set b ⟨bl.ver + 1, none⟩, run_append_in (w' := w) (i := i) k1 (ht.size w) kd hd hlen hf1 hin (fun a h => by simp [storeCells]) (fun _ => rfl), ?_⟩
        obtain ⟨q1, q2, q3⟩ := hr.upd (w' := w) (b' := ⟨bl.ver + 1, 0, bl.cl, (bl.cells.drop off).take (0 * re.size) ++ []⟩) (l' := ⟨bl.ver + 1, none⟩) hbl hl hm2 (by simp only; omega) (fun e => by simp only at e; omega) (Nat.le_refl _) rfl rfl rfl (fun _ _ _ => rfl)
          (fun _ _ _ h => by cases h) (fun e => by cases e) rfl (fun _ _ => by simp)
        refine ⟨q1, q2, q3, ?_⟩
        rw [VR]
        exact ⟨⟨bl.ver + 1, none⟩, by simp [hbL], Nat.le_refl _, _, _, rfl, by omega, .inl ⟨rfl, fun _ _ _ _ h => by cases h⟩⟩
      · obtain ⟨ro, sz, z1, z2, z3⟩ := hs (by omega)
        subst z2
        obtain ⟨r1, r2, r3⟩ := hr.blk b bl l' hbl hl
        rw [z1] at r3
        obtain ⟨arr, et, fz, q1, q2, q3, q4, q5, q6⟩ := r3
        subst q2
        have hmul : (n + m) * re.size ≤ cap * re.size := Nat.mul_le_mul_right _ hin
        rw [Nat.add_mul] at hmul
        have hrun := run_storeCells_any P rb (ro + off + n * re.size) et fz news 0 arr w q1 q3 (by rw [hn1, hnl]; omega) hone'
        simp only [Nat.add_zero] at hrun
        generalize harr : (arr.toList.take (ro + off + n * re.size) ++ news ++ arr.toList.drop (ro + off + n * re.size + news.length)).toArray = arr' at hrun
        have hsz' : arr'.size = arr.size := by rw [← harr]; simp; rw [hn1, hnl]; omega
        refine ⟨_, w.setRow rb arr', L.set b ⟨bl.ver + 1, some (rb, ro + off, arr.size)⟩, run_append_in (w' := w.setRow rb arr') (i := i) k1 (ht.size w) kd hd hlen hf1 hin (fun a h => by injection h with h; subst h; rw [Addr.add_lit]; exact hrun) (fun h => by cases h), ?_⟩
        obtain ⟨y1, y2, y3⟩ := hr.upd (w' := w.setRow rb arr') (b' := ⟨bl.ver + 1, 0, bl.cl, (bl.cells.drop off).take (n * re.size) ++ new⟩) (l' := ⟨bl.ver + 1, some (rb, ro + off, arr.size)⟩) hbl hl hm2 (by simp only; omega) (fun e => by simp only at e; omega)
          (by rw [size_setRow]; exact Nat.le_refl _) rfl rfl rfl (fun k _ hk => heap_setRow_other _ _ _ _ fun e => hk ro arr.size (by rw [e]; exact z1))
          (fun rb' ro' sz' h' => by simp at h'; obtain ⟨h1, h2, h3⟩ := h'; subst h1; exact .inl ⟨_, _, z1⟩) (fun e => by cases e) rfl (fun hext hle => by
            refine ⟨arr', et, fz, setRow_heap w rb arr arr' et fz q1, hsz', q3, ?_, ?_⟩
            · simp only [List.length_append, hwl, hnl]; omega
            · have hq5 := q5.ext (g' := fun i => arr[ro + i]?) hr.RF hext hle fun _ _ h => h
              unfold CR at hq5 ⊢
              have comb : ∀ (RR : Reg) (LL : List BL), VRs (w.setRow rb arr') RR LL bl.cells (fun i => arr[ro + i]?) → VRs (w.setRow rb arr') RR LL new (fun i => news[i]?) →
                  VRs (w.setRow rb arr') RR LL ((bl.cells.drop off).take (n * re.size) ++ new) (fun i => arr'[ro + off + i]?) := fun RR LL h1 h2 => by
                have h3 := h1.drop_take off (n * re.size)
                rw [VRs_iff] at h2 h3 ⊢
                intro i c hi
                rw [List.getElem?_append, hwl] at hi
                have hget : arr'[ro + off + i]? = (arr.toList.take (ro + off + n * re.size) ++ (news ++ arr.toList.drop (ro + off + n * re.size + news.length)))[ro + off + i]? := by
                  rw [← harr]
                  simp only [List.getElem?_toArray, List.append_assoc]
                simp only [hget]
                split at hi
                · rename_i hlt
                  obtain ⟨y, hy, hyv⟩ := h3 i c hi
                  refine ⟨y, ?_, hyv⟩
                  rw [List.getElem?_append_left (by simp; omega), List.getElem?_take, if_pos (by omega)]
                  simpa [Nat.add_assoc] using hy
                · rename_i hge
                  obtain ⟨y, hy, hyv⟩ := h2 _ c hi
                  refine ⟨y, ?_, hyv⟩
                  have hlt := (List.getElem?_eq_some_iff.1 hy).1
                  rw [List.getElem?_append_right (by simp; omega), List.getElem?_append_left (by simp; omega)]
                  have e : ro + off + i - (List.take (ro + off + n * re.size) arr.toList).length = i - n * re.size := by simp; omega
                  rw [e]; exact hy
              split
              · rename_i hcl
                simp only at hcl
                rw [if_pos hcl] at hq5
                exact comb _ _ hq5 (VRs.mono (fun q b hb => hext.keep b (hr.RF 0 b hb.2)) (fun q b hb => hb) (LLe.refl _) _ _ _ (hv2 (c5 hcl)) fun _ _ h => h)
              · rename_i hcl
                simp only at hcl
                rw [if_neg hcl] at hq5
                exact comb _ _ hq5 (hv1.ext hr.RF hext hle))
        refine ⟨y1, y2, y3, ?_⟩
        rw [VR]
        exact ⟨⟨bl.ver + 1, some (rb, ro + off, arr.size)⟩, by simp [hbL], Nat.le_refl _, _, _, rfl, hin, .inr ⟨rb, ro + off, rfl, fun _ => ⟨ro + off, arr.size, rfl, rfl, z3⟩⟩⟩
    · -- a new row
      have hold : ∃ olds : List Value, olds.length = n * re.size ∧ (Builtin.firstCells i.size n (.slice p n cap)).run P w.drew = .ok olds.toArray w.drew ∧
          (if bl.cl then VRs w (R0 R) [] ((bl.cells.drop off).take (n * re.size)) (fun i => olds[i]?) else VRs w R L ((bl.cells.drop off).take (n * re.size)) (fun i => olds[i]?)) := by
        rcases hs with ⟨h0, _⟩ | ⟨rb, o, rfl, hs⟩
        · have hn : n = 0 := by omega
          subst hn
          refine ⟨[], by simp, ?_, ?_⟩
          · cases p <;> simp [Builtin.firstCells, loadCells, loadCellsFrom]
          · simp [VRs]
        · obtain ⟨ro, sz, z1, z2, z3⟩ := hs (by omega)
          subst z2
          have hcr := hr.cells hbl hl z1
          have e : (fun i => w.cell? ⟨rb, ro + off + i, none⟩) = fun i => w.cell? ⟨rb, ro + (off + i), none⟩ := by funext i; rw [Nat.add_assoc]
          unfold CR at hcr
          split at hcr
          · rename_i hcl
            have hdt := hcr.drop_take off (n * re.size)
            rw [← e] at hdt
            obtain ⟨vs, q1, q2, q3⟩ := VRs_vals _ _ hdt
            refine ⟨vs, by rw [q1, hwl], run_firstCells_some (P := P) w.drew i.size n _ n cap vs (by rw [q1, hwl, hsz]) fun j u hj => ?_, by rw [if_pos hcl]; exact q3⟩
            rw [Addr.add_lit]; exact q2 j u hj
          · rename_i hcl
            have hdt := hcr.drop_take off (n * re.size)
            rw [← e] at hdt
            obtain ⟨vs, q1, q2, q3⟩ := VRs_vals _ _ hdt
            refine ⟨vs, by rw [q1, hwl], run_firstCells_some (P := P) w.drew i.size n _ n cap vs (by rw [q1, hwl, hsz]) fun j u hj => ?_, by rw [if_neg hcl]; exact q3⟩
            rw [Addr.add_lit]; exact q2 j u hj
      obtain ⟨olds, ho1, ho2, ho3⟩ := hold
      have hrun := run_append_out (P := P) (w := w) (sT := sT) (xT := xT) (ty := ty) (base := p) (n := n) (cap := cap) (olds := olds) k1 hi hz kd hd hlen (by rw [hsz]; exact hf2) ho2 (by omega) (by rw [hby]; exact c6) c7
      have hge := grownCap_ge w (n + m) cap e
      generalize hG : grownCap w (n + m) cap e = G at hrun hge
      generalize harr : (olds.toArray ++ news.toArray ++ Builtin.zeroCells re.zero.cells (G - (n + m))) = arr at hrun
      have harr' : arr.toList = olds ++ news ++ (Builtin.zeroCells re.zero.cells (G - (n + m))).toList := by rw [← harr]; simp
      have hasz : arr.size = G * re.size := by
        rw [← harr]
        simp only [Array.size_append, List.size_toArray, size_zeroCells, hzsz, ho1, hn1, hnl, ← Nat.add_mul]
        congr 1; omega
      have hml : (n + m) * re.size ≤ G * re.size := Nat.mul_le_mul_right _ hge
      rw [Nat.add_mul] at hml
      refine ⟨_, _, L.set b ⟨bl.ver + 1, some (w.heap.size, 0, arr.size)⟩, hrun, ?_⟩
      obtain ⟨y1, y2, y3⟩ := hr.upd (w' := w.drew.alloc (.cells arr e)) (b' := ⟨bl.ver + 1, 0, bl.cl, (bl.cells.drop off).take (n * re.size) ++ new⟩) (l' := ⟨bl.ver + 1, some (w.heap.size, 0, arr.size)⟩) hbl hl hm2 (by simp only; omega) (fun e => by simp only at e; omega)
        (by simp) rfl rfl rfl (fun k hk _ => heap_alloc_lt w.drew _ _ hk)
        (fun rb' ro' sz' h' => by simp at h'; right; omega) (fun e => by cases e) rfl (fun hext hle => by
          refine ⟨arr, e, (0, 0), heap_alloc_at w.drew _, rfl, fun o _ h => absurd h (Nat.not_lt_zero _), ?_, ?_⟩
          · simp only [List.length_append, hwl, hnl, hasz]; omega
          · have comb : ∀ (RR : Reg) (LL : List BL), VRs w RR LL ((bl.cells.drop off).take (n * re.size)) (fun i => olds[i]?) → VRs w RR LL new (fun i => news[i]?) →
                VRs w RR LL ((bl.cells.drop off).take (n * re.size) ++ new) (fun i => arr[0 + i]?) := fun RR LL h1 h2 => by
              have := VRs.append (rest := (Builtin.zeroCells re.zero.cells (G - (n + m))).toList) (by rw [ho1, hwl]) h1 h2
              simpa [← Array.getElem?_toList, harr'] using this
            unfold CR
            split
            · rename_i hcl
              simp only at hcl
              rw [if_pos hcl] at ho3
              exact VRs.mono (fun q b hb => hext.keep b (hr.RF 0 b hb.2)) (fun q b hb => hb) (LLe.refl _) _ _ _ (comb _ _ ho3 (hv2 (c5 hcl))) fun _ _ h => h
            · rename_i hcl
              simp only at hcl
              rw [if_neg hcl] at ho3
              exact (comb _ _ ho3 hv1).ext hr.RF hext hle)
      refine ⟨y1, y2, y3, ?_⟩
      rw [VR]
      refine ⟨⟨bl.ver + 1, some (w.heap.size, 0, arr.size)⟩, by simp [hbL], Nat.le_refl _, _, _, rfl, hge, .inr ⟨w.heap.size, 0, rfl, fun _ => ⟨0, arr.size, rfl, rfl, ?_⟩⟩⟩
      rw [hasz]; omega
  · cases he
/-- The append of new zero elements to nil. -/
def apzP (T : Tab) (h : List Blk) (sT xT : Nat) (s x : PV) : Option (PV × List Blk) :=
  match T sT with
  | some { kind := .slice e, .. } =>
    match T xT with
    | some { kind := .int _, .. } =>
      match T e with
      | some re =>
        match s with
        | .nils =>
          match x with
          | .int _ n => if 0 < n ∧ n.toNat * re.bytes ≤ 140737488355328 ∧ n ≤ 140737488355328 ∧ 0 < re.size then some (.sl h.length 0 re.size 0 n.toNat, h ++ [⟨0, 0, true, zer (cellsOf (ofV re.zero)) n.toNat⟩]) else none
          | _ => none
        | _ => none
      | none => none
    | _ => none
  | _ => none

/-- The append within what is known of a row: where the table is flagged. -/
def appI (T : Tab) (h : List Blk) (sT xT : Nat) (s x : PV) : Option (PV × List Blk) :=
  match T sT with
  | some { kind := .slice e, .. } =>
    match T e with
    | some re =>
      if re.flag = true then
        match srcP T h xT re x with
        | some (m, new, ncl) =>
          match s with
          | .sl b ver k off n =>
            match h[b]? with
            | some bl =>
              if new.all one = true ∧ ver = bl.ver ∧ bl.mode ≠ 2 ∧ k = re.size ∧ 0 < k ∧ off + (n + m) * k ≤ bl.cells.length ∧ (bl.cl = true → ncl = true) then
                some (.sl b ver k off (n + m), h.set b { bl with cells := spl bl.cells (off + n * k) new })
              else none
            | none => none
          | _ => none
        | none => none
      else none
    | none => none
  | _ => none

def apP (T : Tab) (h : List Blk) (sT xT : Nat) (s x : PV) : Option (PV × List Blk) :=
  match apzP T h sT xT s x with
  | some r => some r
  | none =>
    match appI T h sT xT s x with
    | some r => some r
    | none => appP T h sT xT s x

/-- A cut beyond a slice's length, within what is known of its row. -/
def slB (T : Tab) (h : List Blk) (t : Nat) (x : PV) (lo : Option PV) (hi : PV) : Option PV :=
  match T t with
  | some { kind := .slice e, .. } =>
    match T e with
    | some re =>
      match x with
      | .sl b ver k off n =>
        match h[b]? with
        | some bl =>
          match cutB lo 0, cutB (some hi) 0 with
          | some l, some u => if l ≤ u ∧ 0 < u ∧ k = re.size ∧ 0 < k ∧ ver = bl.ver ∧ off + u * k ≤ bl.cells.length then some (.sl b ver k (off + l * k) (u - l)) else none
          | _, _ => none
        | none => none
      | _ => none
    | none => none
  | _ => none

def clrP (T : Tab) (h : List Blk) (t : Nat) (x : PV) : Option (PV × List Blk) :=
  match T t with
  | some { kind := .slice e, .. } =>
    match T e with
    | some re =>
      match x with
      | .nils => some (.unk, h)
      | .sl b ver k off n =>
        match h[b]? with
        | some bl => if ver = bl.ver ∧ bl.mode ≠ 2 ∧ k = re.size ∧ 0 < k ∧ off + n * k ≤ bl.cells.length ∧ (zer (cellsOf (ofV re.zero)) 1).all one = true then some (.unk, h.set b { bl with cells := spl bl.cells off (zer (cellsOf (ofV re.zero)) n) }) else none
        | none => none
      | _ => none
    | none => none
  | _ => none

def lenV (x : PV) : Option Nat :=
  match x with
  | .nils => some 0
  | .vz _ n _ => some n
  | .sl _ _ _ _ n => some n
  | .str s => some s.length
  | _ => none

/-- The first n elements. -/
def narrow (k n : Nat) (x : PV) : PV :=
  match x with
  | .vz q _ cs => .vz q n (cs.take (n * k))
  | .sl b ver kk off _ => .sl b ver kk off n
  | .str s => .str (s.take n)
  | x => x

def cpyP (T : Tab) (h : List Blk) (dT xT : Nat) (d x : PV) : Option (PV × List Blk) :=
  match T dT with
  | some { kind := .slice e, .. } =>
    match T e with
    | some re =>
      match lenV x with
      | some m =>
        match d with
        | .nils => some (.int .i64 0, h)
        | .sl b ver k off dn =>
          match srcP T h xT re (narrow re.size (min m dn) x) with
          | some (n, new, ncl) =>
            match h[b]? with
            | some bl => if n = min m dn ∧ new.all one = true ∧ ver = bl.ver ∧ bl.mode ≠ 2 ∧ k = re.size ∧ 0 < k ∧ off + dn * k ≤ bl.cells.length ∧ (bl.cl = true → ncl = true) then some (.int .i64 ((min m dn : Nat) : Int), h.set b { bl with cells := spl bl.cells off new }) else none
            | none => none
          | none => none
        | _ => none
      | none => none
    | none => none
  | _ => none

set_option maxRecDepth 8000 in
theorem run_append_zero {P : Program} {w : World} {sT xT ty e n : Nat} {i : TypeInfo} {z : Value} {k k' : IntKind}
    (ht : P.underlying sT = some (.slice e)) (hi : P.info? e = some i) (hz : i.zero = some z) (hx : P.underlying xT = some (.int k)) (hn0 : 0 < n) (hs0 : 0 < i.size)
    (hb : n * i.bytes ≤ 140737488355328) (hn : n ≤ 140737488355328) :
    (Builtin.append_ #[sT, xT] ty #[.slice none 0 0, .int k' n]).run P w = .ok (.slice (some ⟨w.heap.size, 0, none⟩) n (grownCap w n 0 e))
      (w.drew.alloc (.cells (Builtin.zeroCells z.cells n ++ Builtin.zeroCells z.cells (grownCap w n 0 e - n)) e)) := by
  have h63' : ¬ (9223372036854775807 < (n : Int)) := by omega
  have h48 := growslice_fits (need := n) (old := 0) hn0 hb
  have h48' : ¬ (281474976710656 < Builtin.nextslicecap n 0 * i.bytes) := by omega
  have hw : IntKind.i64.wrap (n : Int) = n := wrap_in (by omega) (by omega)
  have hneg : ¬ ((n : Int) < 0) := by omega
  have hbi : ¬ ((281474976710656 : Int) < (n : Int) * (i.bytes : Int)) := by
    rw [← Int.natCast_mul]; omega
  have hne : n ≠ 0 := by omega
  have hse : i.size ≠ 0 := by omega
  simp [Builtin.append_, run_underlying ht, run_underlying hx, sizeOf, typeInfo, zeroValue, hi, hz, hw, hneg, hbi, hne, h63', h48', Question.forced, newRow, grownCap, asInt, asIntOf, Builtin.firstCells]
  intro h0
  exact absurd h0 (Nat.mul_ne_zero hne hse)

theorem apzP_sound {P : Program} {T : Tab} (hT : TOk P T) {w : World} {F : Nat → Prop} {R : Reg} {L : List BL} {h h' : List Blk} (hr : HR w F R L h) {sT xT ty : Nat} {S X r : PV} {u v : Value} (hs : VR w R L S u) (hx : VR w R L X v)
    (he : apzP T h sT xT S X = some (r, h')) : ∃ z w' L', (Builtin.append_ #[sT, xT] ty #[u, v]).run P w = .ok z w' ∧ Ext w F R w' F R ∧ LLe L L' ∧ HR w' F R L' h' ∧ VR w' R L' r z := by
  unfold apzP at he
  split at he
  case h_2 => cases he
  rename_i e z0 h1
  have k1 := (hT _ _ h1).kind
  simp only [KOk] at k1
  split at he
  case h_2 => cases he
  rename_i kk z1 h3
  have k3 := (hT _ _ h3).kind
  simp only [KOk] at k3
  split at he
  case h_2 => cases he
  rename_i re h2
  have ht := hT _ _ h2
  obtain ⟨i, hi, hby, hsz, hz⟩ := ht.info
  split at he
  case h_2 => cases he
  split at he
  case h_2 => cases he
  rename_i k n
  split at he
  case isFalse => cases he
  rename_i hc
  obtain ⟨c1, c2, c3, c4⟩ := hc
  injection he with he
  injection he with e1 e2
  subst e1 e2
  simp only [VR] at hs hx
  subst hs hx
  obtain ⟨m, rfl⟩ : ∃ m : Nat, n = m := ⟨n.toNat, by omega⟩
  have hrun := run_append_zero (P := P) (w := w) (sT := sT) (xT := xT) (ty := ty) (k' := k) k1 hi hz k3 (n := m) (by omega) (by omega) (by rw [hby]; simpa using c2) (by omega)
  have hge := grownCap_ge w m 0 e
  generalize hG : grownCap w m 0 e = G at hrun hge
  simp only [Int.toNat_natCast] at c2 ⊢
  have hzsz : re.zero.cells.size = re.size := ht.zsz
  have hzz : VRs w (R0 R) [] (zer (cellsOf (ofV re.zero)) m) (fun i => (Builtin.zeroCells re.zero.cells m)[i]?) := VRs_zer re.zero m _ (Nat.le_refl _)
  have hlen : (zer (cellsOf (ofV re.zero)) m).length = m * re.size := by
    rw [zer_length, (VRs_zero w R L re.zero).2, hzsz]
  have hA : (Builtin.zeroCells re.zero.cells m).size = m * re.size := by rw [size_zeroCells, hzsz]
  have hB : (Builtin.zeroCells re.zero.cells (G - m)).size = (G - m) * re.size := by rw [size_zeroCells, hzsz]
  have hsum : m * re.size + (G - m) * re.size = G * re.size := by rw [← Nat.add_mul]; congr 1; omega
  have hz2 : VRs w (R0 R) [] (zer (cellsOf (ofV re.zero)) m) (fun i => (Builtin.zeroCells re.zero.cells m ++ Builtin.zeroCells re.zero.cells (G - m))[i]?) := by
    rw [VRs_iff] at hzz ⊢
    intro j c hj
    obtain ⟨u, hu, hv⟩ := hzz j c hj
    have : j < (Builtin.zeroCells re.zero.cells m).size := (Array.getElem?_eq_some_iff.1 hu).1
    exact ⟨u, by rw [Array.getElem?_append_left this]; exact hu, hv⟩
  generalize hX : Builtin.zeroCells re.zero.cells m ++ Builtin.zeroCells re.zero.cells (G - m) = arr at hrun hz2
  have hasz : arr.size = G * re.size := by rw [← hX, Array.size_append, hA, hB, hsum]
  obtain ⟨q1, q2, q3⟩ := hr.push (w' := w.drew.alloc (.cells arr e)) (b := ⟨0, 0, true, zer (cellsOf (ofV re.zero)) m⟩) (l := ⟨0, some (w.heap.size, 0, arr.size)⟩) (by simp) rfl rfl rfl (fun k hk => heap_alloc_lt w.drew _ _ hk)
    (fun rb ro sz h => by simp at h; omega) (fun e => by cases e) rfl
    ⟨arr, e, (0, 0), heap_alloc_at w.drew _, rfl, fun o _ h => absurd h (Nat.not_lt_zero _), by simp only [hasz, hlen]; have := Nat.mul_le_mul_right re.size hge; omega, by
      unfold CR
      simpa using hz2⟩
  refine ⟨_, _, _, hrun, q1, q2, q3, ?_⟩
  rw [VR]
  refine ⟨_, get_last (w := w) hr.len, Nat.le_refl _, _, _, rfl, hge, .inr ⟨w.heap.size, 0, rfl, fun _ => ⟨0, arr.size, rfl, rfl, ?_⟩⟩⟩
  rw [hasz]; omega

theorem spl_none (cells : List PV) (off : Nat) : spl cells off [] = cells := by simp [spl]

theorem set_same {h : List Blk} {b : Nat} {bl : Blk} (hb : h[b]? = some bl) (off : Nat) : h.set b { bl with cells := spl bl.cells off [] } = h := by
  rw [spl_none]
  apply List.ext_getElem?
  intro i
  rw [List.getElem?_set]
  split
  · rename_i e; subst e
    have := (List.getElem?_eq_some_iff.1 hb).1
    rw [if_pos this, hb]
  · rfl

/-- Cells written through a slice. -/
theorem HR.slw {P : Program} {w : World} {F : Nat → Prop} {R : Reg} {L : List BL} {h : List Blk} (hr : HR w F R L h) {b ver k off n : Nat} {bl : Blk} (hb : h[b]? = some bl) (hver : ver = bl.ver) (hm : bl.mode ≠ 2)
    {u : Value} (hx : VR w R L (.sl b ver k off n) u) {cs : List PV} {vs : List Value} (hl : vs.length = cs.length) (hone : ∀ v ∈ vs, v.oneCell' = true)
    (hc : if bl.cl then VRs w (R0 R) [] cs (fun i => vs[i]?) else VRs w R L cs (fun i => vs[i]?)) (j : Nat) (hfit : off + j * k + cs.length ≤ bl.cells.length) (hk : 0 < k) :
    ∃ p cap, u = .slice p n cap ∧ n ≤ cap ∧ (∀ m, off + m * k ≤ bl.cells.length → m ≤ cap) ∧
      ((cs = [] ∧ vs = []) ∨ ∃ rb o, p = some ⟨rb, o, none⟩ ∧ ∃ w' L', (storeCells ⟨rb, o + j * k, none⟩ vs).run P w = .ok () w' ∧ Ext w F R w' F R ∧ LLe L L' ∧ HR w' F R L' (h.set b { bl with cells := spl bl.cells (off + j * k) cs })) ∧
      ∀ m, m ≤ cap → VR w R L (.sl b ver k off m) (.slice p m cap) := by
  obtain ⟨l, hlb, hv⟩ := hr.get hb
  rw [VR] at hx
  obtain ⟨l', hl', hle, p, cap, rfl, hcap, hx⟩ := hx
  have : l' = l := by rw [hlb] at hl'; exact (Option.some.inj hl').symm
  subst this
  obtain ⟨r1, r2, r3⟩ := hr.blk b bl l' hb hlb
  have hloc : ∀ rb ro sz, l'.loc = some (rb, ro, sz) → ro + bl.cells.length ≤ sz := fun rb ro sz e => by
    rw [e] at r3
    obtain ⟨arr, et, fz, q1, q2, q3, q4, q5, q6⟩ := r3
    exact q4
  have hnone : l'.loc = none → bl.cells.length = 0 := fun e => by
    rw [e] at r3
    rw [r3]; rfl
  refine ⟨p, cap, rfl, hcap, ?_, ?_, fun m hm' => ?_⟩
  · intro m hfm
    rcases hx with ⟨h0, hx⟩ | ⟨rb, o, rfl, hx⟩
    · have hz : m * k = 0 := by
        cases hlc : l'.loc with
        | none => have := hnone hlc; omega
        | some z =>
          obtain ⟨rb, ro, sz⟩ := z
          have e1 := hx (by omega) rb ro sz hlc
          have e2 := hloc rb ro sz hlc
          omega
      rcases Nat.mul_eq_zero.1 hz with h | h <;> omega
    · obtain ⟨ro, sz, z1, z2, z3⟩ := hx (by omega)
      have e2 := hloc rb ro sz z1
      exact Nat.le_of_mul_le_mul_right (c := k) (by omega) hk
  · by_cases hcs : cs = []
    · left
      subst hcs
      exact ⟨rfl, List.eq_nil_of_length_eq_zero (by simpa using hl)⟩
    · right
      have hpos : 0 < cs.length := List.length_pos_iff.2 hcs
      rcases hx with ⟨h0, hx⟩ | ⟨rb, o, rfl, hx⟩
      · exfalso
        cases hlc : l'.loc with
        | none => have := hnone hlc; omega
        | some z =>
          obtain ⟨rb, ro, sz⟩ := z
          have e1 := hx (by omega) rb ro sz hlc
          have e2 := hloc rb ro sz hlc
          omega
      · obtain ⟨ro, sz, z1, z2, z3⟩ := hx (by omega)
        obtain ⟨a, ea, w', L', q1, q2, q3, q4⟩ := hr.write (P := P) (ver := ver) (off := off + j * k) (u := .pointer (some ⟨rb, o + j * k, none⟩)) hb hver hm
          (by rw [VR]; exact ⟨l', hlb, by omega, rb, o + j * k, rfl, fun _ => ⟨ro, sz, z1, by omega⟩⟩) hl hone hc hfit hcs
        injection ea with ea
        injection ea with ea
        subst ea
        exact ⟨rb, o, rfl, w', L', q1, q2, q3, q4⟩
  · rw [VR]
    exact ⟨l', hlb, hle, p, cap, rfl, hm', hx⟩

theorem appI_sound {P : Program} {T : Tab} (hT : TOk P T) {w : World} {F : Nat → Prop} {R : Reg} {L : List BL} {h h' : List Blk} (hr : HR w F R L h) {sT xT ty : Nat} {S X r : PV} {u v : Value} (hs : VR w R L S u) (hx : VR w R L X v)
    (he : appI T h sT xT S X = some (r, h')) : ∃ z w' L', (Builtin.append_ #[sT, xT] ty #[u, v]).run P w = .ok z w' ∧ Ext w F R w' F R ∧ LLe L L' ∧ HR w' F R L' h' ∧ VR w' R L' r z := by
  unfold appI at he
  split at he
  case h_2 => cases he
  rename_i e z0 h1
  have k1 := (hT _ _ h1).kind
  simp only [KOk] at k1
  split at he
  case h_2 => cases he
  rename_i re h2
  have ht := hT _ _ h2
  obtain ⟨i, hi, hby, hsz, hz⟩ := ht.info
  split at he
  case isFalse => cases he
  split at he
  case h_2 => cases he
  rename_i m new ncl hsrc
  obtain ⟨d, kd, hd, hnl, hlen, news, hn1, hf1, hf2, hv1, hv2⟩ := srcP_sound hT hr hx hsrc
  split at he
  case h_2 => cases he
  rename_i b ver k off n
  split at he
  case h_2 => cases he
  rename_i bl hbl
  split at he
  case isFalse => cases he
  rename_i hc
  obtain ⟨c1, c2, c3, c4, c5, c6, c7⟩ := hc
  injection he with he
  injection he with e1 e2
  subst e1 e2
  have hone : ∀ v ∈ news, v.oneCell' = true := VRs_one hn1 c1 hv1
  have e6 : off + n * k + new.length = off + (n + m) * k := by rw [hnl, ← c4, Nat.add_mul]; omega
  obtain ⟨p, cap, rfl, hcap, hfit, hst, hvr⟩ := hr.slw (P := P) hbl c2 c3 hs (by rw [hn1]) hone (by
    split
    · rename_i hcl; exact hv2 (c7 hcl)
    · exact hv1) n (by omega) c5
  have hin := hfit (n + m) c6
  rcases hst with ⟨rfl, rfl⟩ | ⟨rb, o, rfl, w', L', q1, q2, q3, q4⟩
  · refine ⟨_, w, L, run_append_in (w' := w) (i := i) k1 (ht.size w) kd hd hlen hf1 hin (fun a h => by simp [storeCells]) (fun _ => rfl), Ext.refl _ _ _, LLe.refl _, ?_, hvr _ hin⟩
    rw [set_same hbl]; exact hr
  · refine ⟨_, w', L', run_append_in (w' := w') (i := i) k1 (ht.size w) kd hd hlen hf1 hin (fun a h => by injection h with h; subst h; rw [Addr.add_lit, ← c4]; exact q1) (fun h => by cases h), q2, q3, q4, (hvr _ hin).ext hr.RF q2 q3⟩

theorem slB_sound {P : Program} {T : Tab} (hT : TOk P T) {w : World} {F : Nat → Prop} {R : Reg} {L : List BL} {h : List Blk} (hr : HR w F R L h) {t : Nat} {X r hi : PV} {lo : Option PV} {u vh : Value} {vl : Option Value} (hx : VR w R L X u)
    (hl : VRo w R L lo vl) (hh : VR w R L hi vh) (he : slB T h t X lo hi = some r) : ∃ z, (Instr.sliceAt t u vl (some vh) none).run P w = .ok z w ∧ VR w R L r z := by
  unfold slB at he
  split at he
  case h_2 => cases he
  rename_i e z0 h1
  have k1 := (hT _ _ h1).kind
  simp only [KOk] at k1
  split at he
  case h_2 => cases he
  rename_i re h2
  have hsz := (hT _ _ h2).size
  split at he
  case h_2 => cases he
  rename_i b ver k off n
  split at he
  case h_2 => cases he
  rename_i bl hbl
  split at he
  case h_2 => cases he
  rename_i l uu e1 e2
  split at he
  case isFalse => cases he
  rename_i hc
  obtain ⟨c1, c0, c2, c3, c4, c5⟩ := hc
  injection he with he; subst he
  subst c2
  have hmul : l * re.size ≤ uu * re.size := Nat.mul_le_mul_right _ c1
  obtain ⟨l0, hlb, hv⟩ := hr.get hbl
  have hx0 := hx
  rw [VR] at hx
  obtain ⟨l', hl', hle, p, cap, rfl, hcap, hx⟩ := hx
  have : l' = l0 := by rw [hlb] at hl'; exact (Option.some.inj hl').symm
  subst this
  obtain ⟨r1, r2, r3⟩ := hr.blk b bl l' hbl hlb
  have hloc : ∀ rb ro sz, l'.loc = some (rb, ro, sz) → ro + bl.cells.length ≤ sz := fun rb ro sz e => by
    rw [e] at r3
    obtain ⟨arr, et, fz, q1, q2, q3, q4, q5, q6⟩ := r3
    exact q4
  have hnone : l'.loc = none → bl.cells.length = 0 := fun e => by
    rw [e] at r3
    rw [r3]; rfl
  have hucap : uu ≤ cap := by
    rcases hx with ⟨h0, hx⟩ | ⟨rb, o, rfl, hx⟩
    · have hz : uu * re.size = 0 := by
        cases hlc : l'.loc with
        | none => have := hnone hlc; omega
        | some z =>
          obtain ⟨rb, ro, sz⟩ := z
          have e1 := hx (by omega) rb ro sz hlc
          have e2 := hloc rb ro sz hlc
          omega
      rcases Nat.mul_eq_zero.1 hz with h | h <;> omega
    · obtain ⟨ro, sz, z1, z2, z3⟩ := hx (by omega)
      have e2 := hloc rb ro sz z1
      exact Nat.le_of_mul_le_mul_right (c := re.size) (by omega) c3
  have key : (Instr.sliceBounds true n cap vl (some vh) none).run P w = .ok (l, uu, cap) w := by
    rcases cutB_run (P := P) (y := cap) (.inr ⟨hi, vh, rfl, rfl, hh⟩) e2 hucap with ⟨h, _⟩ | ⟨xh, zh, e3, e4, a2⟩
    · cases h
    · injection e4 with e4
      subst e4
      rcases cutB_run (P := P) (y := uu) hl e1 c1 with ⟨rfl, rfl, rfl⟩ | ⟨xl, zl, rfl, rfl, a1⟩ <;> simp_all [Instr.sliceBounds]
  refine ⟨.slice (if cap = l then p else p.map (·.add (l * re.size))) (uu - l) (cap - l), by simp [Instr.sliceAt, Instr.slice, run_underlying k1, key, hsz], ?_⟩
  rw [VR]
  refine ⟨l', hlb, hle, _, _, rfl, by omega, ?_⟩
  by_cases hml : cap = l
  · left
    refine ⟨by omega, fun e rb' ro' sz' hlc => ?_⟩
    rcases hx with ⟨hc0, hx⟩ | ⟨rb, o, rfl, hx⟩
    · have := hx e _ _ _ hlc
      have hl0 : l = 0 := by omega
      subst hl0; omega
    · obtain ⟨ro, sz, z1, z2, z3⟩ := hx e
      rw [hlc] at z1
      injection z1 with z1
      injection z1 with _ z1
      injection z1 with z0 z1
      subst hml; omega
  · rcases hx with ⟨hc0, _⟩ | ⟨rb, o, rfl, hx⟩
    · omega
    · right
      refine ⟨rb, o + l * re.size, by simp [hml, Addr.add_lit], fun e => ?_⟩
      obtain ⟨ro, sz, z1, z2, z3⟩ := hx e
      refine ⟨ro, sz, z1, by omega, ?_⟩
      have h1 : (cap - l) * re.size + l * re.size = cap * re.size := by
        rw [← Nat.add_mul]
        congr 1; omega
      omega

theorem all_zer (z : List PV) (p : PV → Bool) (h : (zer z 1).all p = true) : ∀ n, (zer z n).all p = true
  | 0 => by simp [zer]
  | n + 1 => by
    simp only [zer, List.append_nil] at h
    simp only [zer, List.all_append, Bool.and_eq_true]
    exact ⟨h, all_zer z p (by simpa [zer] using h) n⟩

theorem clrP_sound {P : Program} {T : Tab} (hT : TOk P T) {w : World} {F : Nat → Prop} {R : Reg} {L : List BL} {h h' : List Blk} (hr : HR w F R L h) {t ty : Nat} {X r : PV} {u : Value} (hx : VR w R L X u)
    (he : clrP T h t X = some (r, h')) : ∃ z w' L', (Builtin.clear_ #[t] ty #[u]).run P w = .ok z w' ∧ Ext w F R w' F R ∧ LLe L L' ∧ HR w' F R L' h' ∧ VR w' R L' r z := by
  unfold clrP at he
  split at he
  case h_2 => cases he
  rename_i e z0 h1
  have k1 := (hT _ _ h1).kind
  simp only [KOk] at k1
  split at he
  case h_2 => cases he
  rename_i re h2
  have ht := hT _ _ h2
  split at he
  case h_3 => cases he
  · injection he with he
    injection he with e1 e2
    subst e1 e2
    rw [VR] at hx; subst hx
    exact ⟨.tuple #[], w, L, by simp [Builtin.clear_, run_underlying k1], Ext.refl _ _ _, LLe.refl _, hr, by simp [VR]⟩
  · rename_i b ver k off n
    split at he
    case h_2 => cases he
    rename_i bl hbl
    split at he
    case isFalse => cases he
    rename_i hc
    obtain ⟨c1, c2, c3, c4, c5, c6⟩ := hc
    injection he with he
    injection he with e1 e2
    subst e1 e2
    have hzl : (zer (cellsOf (ofV re.zero)) n).length = n * k := by
      rw [zer_length, (VRs_zero w R L re.zero).2, ht.zsz, c3]
    have hzv : ∀ RR LL, VRs w RR LL (zer (cellsOf (ofV re.zero)) n) (fun i => (Builtin.zeroCells re.zero.cells n).toList[i]?) := fun RR LL => by
      have := VRs_zer (w := w) (R := RR) (L := LL) re.zero n (n * re.zero.cells.size) (Nat.le_refl _)
      have e : (fun i : Nat => (Builtin.zeroCells re.zero.cells n).toList[i]?) = fun i : Nat => (Builtin.zeroCells re.zero.cells n)[i]? := by funext i; simp only [Array.getElem?_toList]
      rw [e]; exact this
    have hvl : (Builtin.zeroCells re.zero.cells n).toList.length = (zer (cellsOf (ofV re.zero)) n).length := by
      rw [hzl, Array.length_toList, size_zeroCells, ht.zsz, c3]
    obtain ⟨p, cap, rfl, hcap, hfit, hst, hvr⟩ := hr.slw (P := P) hbl c1 c2 hx hvl (VRs_one hvl (all_zer _ _ c6 n) (hzv R L)) (by split <;> exact hzv _ _) 0 (by rw [hzl]; omega) c4
    rcases hst with ⟨e1, e2⟩ | ⟨rb, o, rfl, w', L', q1, q2, q3, q4⟩
    · have hn : n = 0 := by
        rw [e1] at hzl
        have : n * k = 0 := by simpa using hzl.symm
        rcases Nat.mul_eq_zero.1 this with h | h <;> omega
      subst hn
      refine ⟨.tuple #[], w, L, by cases p <;> simp [Builtin.clear_, run_underlying k1], Ext.refl _ _ _, LLe.refl _, ?_, by simp [VR]⟩
      rw [e1, set_same hbl]; exact hr
    · rw [Nat.zero_mul, Nat.add_zero] at q1 q4
      refine ⟨.tuple #[], w', L', ?_, q2, q3, q4, by simp [VR]⟩
      cases n with
      | zero =>
        simp [Builtin.zeroCells, storeCells] at q1
        subst q1
        simp [Builtin.clear_, run_underlying k1]
      | succ n => simp [Builtin.clear_, run_underlying k1, ht.zero, q1]

theorem narrow_sound {w : World} {R : Reg} {L : List BL} {X : PV} {v : Value} {m n size : Nat} (hx : VR w R L X v) (hl : lenV X = some m) (hn : n ≤ m) :
    (∀ P w, (Builtin.lenOf v).run P w = .ok m w) ∧ ∃ v', VR w R L (narrow size n X) v' ∧ ∀ k P w, (Builtin.firstCells k n v).run P w = (Builtin.firstCells k n v').run P w := by
  cases X <;> simp only [lenV] at hl <;> (try (cases hl; done)) <;> injection hl with hl <;> subst hl
  · rename_i s
    rw [VR] at hx; subst hx
    refine ⟨fun P w => by simp [Builtin.lenOf, ByteArray.size], .string ⟨(s.take n).toArray⟩, by simp [narrow, VR], fun k P w => ?_⟩
    have e1 : (⟨s.toArray⟩ : ByteArray).extract 0 n = ⟨(s.take n).toArray⟩ := by
      apply ByteArray.ext
      apply Array.ext'
      simp [List.extract_eq_take_drop]
    have e2 : (⟨(s.take n).toArray⟩ : ByteArray).extract 0 n = ⟨(s.take n).toArray⟩ := by
      apply ByteArray.ext
      apply Array.ext'
      simp [List.extract_eq_take_drop, List.take_take]
    simp only [Builtin.firstCells, e1, e2]
  · rw [VR] at hx; subst hx
    exact ⟨fun P w => by simp [Builtin.lenOf], _, by simp [narrow, VR], fun k P w => rfl⟩
  · rename_i q m cs
    rw [VR] at hx
    obtain ⟨p, cap, rfl, hcap, hx⟩ := hx
    refine ⟨fun P w => by simp [Builtin.lenOf], .slice p n cap, ?_, fun k P w => by cases p <;> rfl⟩
    simp only [narrow]
    rw [VR]
    refine ⟨p, cap, rfl, by omega, ?_⟩
    rcases hx with ⟨rfl, rfl⟩ | ⟨rb, ro, rfl, hq, hc⟩
    · left; simp; omega
    · right
      refine ⟨rb, ro, rfl, hq, ?_⟩
      have := hc.drop_take 0 (n * size)
      simpa using this
  · rename_i b ver k off m
    rw [VR] at hx
    obtain ⟨l, h1, h2, p, cap, rfl, hcap, hx⟩ := hx
    refine ⟨fun P w => by simp [Builtin.lenOf], .slice p n cap, ?_, fun k P w => by cases p <;> rfl⟩
    simp only [narrow]
    rw [VR]
    exact ⟨l, h1, h2, p, cap, rfl, by omega, hx⟩

theorem cpyP_sound {P : Program} {T : Tab} (hT : TOk P T) {w : World} {F : Nat → Prop} {R : Reg} {L : List BL} {h h' : List Blk} (hr : HR w F R L h) {dT xT ty : Nat} {D X r : PV} {u v : Value} (hd : VR w R L D u) (hx : VR w R L X v)
    (he : cpyP T h dT xT D X = some (r, h')) : ∃ z w' L', (Builtin.copy_ #[dT, xT] ty #[u, v]).run P w = .ok z w' ∧ Ext w F R w' F R ∧ LLe L L' ∧ HR w' F R L' h' ∧ VR w' R L' r z := by
  unfold cpyP at he
  split at he
  case h_2 => cases he
  rename_i e z0 h1
  have k1 := (hT _ _ h1).kind
  simp only [KOk] at k1
  split at he
  case h_2 => cases he
  rename_i re h2
  have ht := hT _ _ h2
  split at he
  case h_2 => cases he
  rename_i m hm
  split at he
  case h_3 => cases he
  · injection he with he
    injection he with e1 e2
    subst e1 e2
    rw [VR] at hd; subst hd
    obtain ⟨hlen, v', hv', hfc⟩ := narrow_sound (n := 0) (size := re.size) hx hm (Nat.zero_le _)
    have hc : ∃ cells : Array Value, (Builtin.firstCells re.size 0 v).run P w = .ok cells w := by
      cases X <;> simp only [lenV] at hm <;> (try (cases hm; done)) <;> rw [VR] at hx
      · subst hx; exact ⟨_, by simp [Builtin.firstCells]; rfl⟩
      · subst hx; exact ⟨_, by simp [Builtin.firstCells]; rfl⟩
      · obtain ⟨p, cap, rfl, _⟩ := hx
        cases p <;> exact ⟨#[], by simp [Builtin.firstCells, loadCells, loadCellsFrom]⟩
      · obtain ⟨l, _, _, p, cap, rfl, _⟩ := hx
        cases p <;> exact ⟨#[], by simp [Builtin.firstCells, loadCells, loadCellsFrom]⟩
    obtain ⟨cells, hcells⟩ := hc
    exact ⟨.int .i64 0, w, L, by simp [Builtin.copy_, run_underlying k1, hlen, ht.size, hcells, goInt], Ext.refl _ _ _, LLe.refl _, hr, by simp [VR]⟩
  · rename_i b ver k off dn
    split at he
    case h_2 => cases he
    rename_i n new ncl hsrc
    split at he
    case h_2 => cases he
    rename_i bl hbl
    split at he
    case isFalse => cases he
    rename_i hc
    obtain ⟨c0, c1, c2, c3, c4, c5, c6, c7⟩ := hc
    injection he with he
    injection he with e1 e2
    subst e1 e2
    obtain ⟨hlen, v', hv', hfc⟩ := narrow_sound (n := min m dn) (size := re.size) hx hm (Nat.min_le_left _ _)
    obtain ⟨d, kd, hdd, hnl, hlen2, news, hn1, hf1, hf2, hv1, hv2⟩ := srcP_sound hT hr hv' hsrc
    rw [c0] at hf1 hnl
    have hmul : min m dn * k ≤ dn * k := Nat.mul_le_mul_right _ (Nat.min_le_right _ _)
    obtain ⟨p, cap, rfl, hcap, hfit, hst, hvr⟩ := hr.slw (P := P) hbl c2 c3 hd (by rw [hn1]) (VRs_one hn1 c1 hv1) (by
      split
      · rename_i hcl; exact hv2 (c7 hcl)
      · exact hv1) 0 (by rw [hnl, ← c4]; omega) c5
    have hf : (Builtin.firstCells re.size (min m dn) v).run P w = .ok news.toArray w := by rw [hfc]; exact hf1
    rcases hst with ⟨rfl, rfl⟩ | ⟨rb, o, rfl, w', L', q1, q2, q3, q4⟩
    · refine ⟨.int .i64 (min m dn : Nat), w, L, ?_, Ext.refl _ _ _, LLe.refl _, ?_, by simp [VR]⟩
      · have hf' : (Builtin.firstCells re.size (Nat.min m dn) v).run P w = .ok (#[] : Array Value) w := hf
        cases p <;> simp [Builtin.copy_, run_underlying k1, hlen, ht.size, hf', goInt, storeCells] <;> rfl
      · rw [set_same hbl]; exact hr
    · rw [Nat.zero_mul, Nat.add_zero] at q1 q4
      refine ⟨.int .i64 (min m dn : Nat), w', L', ?_, q2, q3, q4, by simp [VR]⟩
      have hf' : (Builtin.firstCells re.size (Nat.min m dn) v).run P w = .ok news.toArray w := hf
      simp [Builtin.copy_, run_underlying k1, hlen, ht.size, hf', goInt, q1]

theorem apP_sound {P : Program} {T : Tab} (hT : TOk P T) {w : World} {F : Nat → Prop} {R : Reg} {L : List BL} {h h' : List Blk} (hr : HR w F R L h) {sT xT ty : Nat} {S X r : PV} {u v : Value} (hs : VR w R L S u) (hx : VR w R L X v)
    (he : apP T h sT xT S X = some (r, h')) : ∃ z w' L', (Builtin.append_ #[sT, xT] ty #[u, v]).run P w = .ok z w' ∧ Ext w F R w' F R ∧ LLe L L' ∧ HR w' F R L' h' ∧ VR w' R L' r z := by
  unfold apP at he
  split at he
  · rename_i r2 h2
    rw [he] at h2
    exact apzP_sound hT hr hs hx h2
  · split at he
    · rename_i r2 h2
      rw [he] at h2
      exact appI_sound hT hr hs hx h2
    · exact appP_sound hT hr hs hx he
end Go.Fw
