/- The abstract evaluator: struct and slice literals, make, stores. -/
import Derived.Test.YtlaldhmpoggkjaaGreatDoorAeOp8
set_option autoImplicit false
set_option linter.unusedVariables false
set_option linter.unusedSimpArgs false
namespace Go.AE
section
variable {P : Program} {κ : Kp} {H H' : Heap} {w : World} {U : Nat → Prop}

/-- Parts of a literal, told by the evaluator and by the machine. -/
def PartsRel (κ : Kp) (H : Heap) (w : World) (S : Nat → Prop) (ps : List (Nat × AV)) (us : List (Nat × Value)) : Prop :=
  us.length = ps.length ∧ ∀ (i : Nat) (p : Nat × AV) (u : Nat × Value), ps[i]? = some p → us[i]? = some u → u.1 = p.1 ∧ VRel κ H w S p.2 u.2
theorem parts_rel {env : Env} {a : Act} (he : EnvOk κ H w U env a) {ps : List (Nat × Operand)} {vs : List (Nat × AV)} (h : parts env ps = some vs) :
    PartsRel κ H w (Stab κ H U) vs (ps.map fun p => (p.1, a.eval p.2)) := by
  obtain ⟨h1, h2⟩ := parts_ok he h
  refine ⟨by simp [h1], fun i v u hv hu => ?_⟩
  simp only [List.getElem?_map, Option.map_eq_some_iff] at hu
  obtain ⟨p, hp, rfl⟩ := hu
  obtain ⟨h3, h4⟩ := h2 i p v hp hv
  exact ⟨h3.symm, h4⟩
theorem fields_run : ∀ {fs : List Field}, (∀ f ∈ fs, (sizeT P f.type).isSome = true) → (fs.mapM fun (f : Field) => (do pure (f.offset, ← sizeOf f.type) : Sem (Nat × Nat))).run P w = .ok (fs.map fun f => (f.offset, (sizeT P f.type).getD 0)) w
  | [], _ => by simp only [List.mapM_nil, Sem.run_pure, List.map_nil]
  | f :: fs, h => by
    obtain ⟨n, hn⟩ := Option.isSome_iff_exists.1 (h f (List.mem_cons_self ..))
    have hr := fields_run (fs := fs) (fun g hg => h g (List.mem_cons_of_mem _ hg))
    simp only [List.mapM_cons, Sem.run_bind, sizeT_run hn, Result.andThen_ok, Sem.run_pure, hr, List.map_cons, hn, Option.getD_some]
theorem buildV_ok {t : TypeId} {ps : List (Nat × AV)} {us : List (Nat × Value)} {e : Eff} (h : buildV P t ps = some e) (hp : PartsRel κ H w (Stab κ H U) ps us) :
    RetOk P κ H w (Stab κ H U) (Instr.build t us.toArray) e := by
  unfold buildV at h
  split at h
  · rename_i fs z hu hz
    split at h
    · rename_i cs hf
      split at h
      · rename_i hall
        obtain ⟨ds, hd, rfl⟩ := map_inv hz
        obtain ⟨v, hv, hone, rfl⟩ := zeroDs_run hd
        have hrel : VRels κ H w (Stab κ H U) ((v.cells.toList.map D.sc).map .d) v.cells.toList := sc_rels _ hone
        have hplace : ∀ (i : Nat), ((fs[i]?).bind fun (f : Field) => (sizeT P f.type).map fun n => (f.offset, n)) = (fs.map fun (f : Field) => (f.offset, (sizeT P f.type).getD 0))[i]? := by
          intro i
          cases hi : fs[i]? with
          | none => simp [hi]
          | some f =>
            have hm : f ∈ fs.toList := by simpa using Array.mem_of_getElem? hi
            obtain ⟨n, hn⟩ := Option.isSome_iff_exists.1 (List.all_eq_true.1 hall f hm)
            simp [hi, hn]
        obtain ⟨vs, h1, h2, h3⟩ := fillD_ok hf hrel hp
        refine ⟨_, .agg vs, ret_inv h, ?_, VRel.agg' h2⟩
        have hfr : (fs.mapM fun (f : Field) => (do pure (f.offset, ← sizeOf f.type) : Sem (Nat × Nat))).run P w = .ok (fs.map fun (f : Field) => (f.offset, (sizeT P f.type).getD 0)) w := by
          have := fields_run (P := P) (w := w) (fs := fs.toList) (fun f hf => List.all_eq_true.1 hall f hf)
          rw [← Array.toArray_toList (xs := fs), List.mapM_toArray]
          simp only [map_eq_pure_bind, Sem.run_bind, this, Result.andThen_ok, Sem.run_pure]
          congr 1
          exact Array.ext' (by simp)
        simp only [funext hplace] at h1
        simp only [Instr.build, Sem.run_bind, hv, run_underlying hu, Result.andThen_ok, hfr]
        simp only [List.toList_toArray, h1]
        rfl
      · cases h
    · cases h
  · cases h

theorem cellsD_ok (hh : HRel κ H w U) (hh' : HRel κ H' w U) (he : Ext κ H w κ H' w) :
    ∀ {cs : List AV} {ds : List D} {fr : List Nat} {vs : List Value}, cellsD (get H) cs = some (ds, fr) →
    (∀ k ty sz xs fz, H[k]? = some (.arr ty sz xs fz) → ∃ fz', H'[k]? = some (.arr ty sz xs fz') ∧ (fz = true ∨ k ∈ fr → fz' = true)) → VRels κ H w (Stab κ H U) cs vs →
    ds.length = vs.length ∧ ∀ (i : Nat) (d : D) (v : Value), ds[i]? = some d → vs[i]? = some v → Rd w (Stab κ H' U) d v
  | [], ds, fr, vs, h, hs, hv => by
    simp only [cellsD, Option.some.injEq, Prod.mk.injEq] at h
    obtain ⟨rfl, _⟩ := h
    obtain rfl : vs = [] := List.eq_nil_of_length_eq_zero hv.1.symm
    exact ⟨rfl, fun i d v hd _ => by simp at hd⟩
  | c :: cs, ds, fr, vs, h, hs, hv => by
    cases vs with
    | nil => exact absurd hv.1 (by simp)
    | cons v vs =>
      simp only [cellsD] at h
      split at h
      · rename_i x a hx
        split at h
        · rename_i xs b hxs
          simp only [Option.some.injEq, Prod.mk.injEq] at h
          obtain ⟨rfl, rfl⟩ := h
          have h1 := cellD_ok hh hh' he hx (fun k ty sz ys fz hk => by
            obtain ⟨fz', h1, h2⟩ := hs k ty sz ys fz hk
            exact ⟨fz', h1, fun hc => h2 (hc.imp id (fun hm => List.mem_append_left _ hm))⟩) (hv.2 0 _ _ rfl rfl)
          obtain ⟨h2, h3⟩ := cellsD_ok hh hh' he hxs (fun k ty sz ys fz hk => by
            obtain ⟨fz', h1, h2⟩ := hs k ty sz ys fz hk
            exact ⟨fz', h1, fun hc => h2 (hc.imp id (fun hm => List.mem_append_right _ hm))⟩) ⟨by simpa using hv.1, fun i c v hc hv' => hv.2 (i + 1) c v (by simpa using hc) (by simpa using hv')⟩
          refine ⟨by simp [h2], fun i d u hd hu => ?_⟩
          cases i with
          | zero => simp at hd hu; subst hd hu; exact h1
          | succ i => simp at hd hu; exact h3 i d u hd hu
        · cases h
      · cases h
theorem freeze_same (H : Heap) (fr : List Nat) : ∀ k ty sz xs fz, H[k]? = some (.arr ty sz xs fz) → ∃ fz', (freezeAll H fr)[k]? = some (.arr ty sz xs fz') ∧ (fz = true ∨ k ∈ fr → fz' = true) := by
  intro k ty s ys fz hk
  rw [freezeAll_get]
  by_cases hm : k ∈ fr
  · rw [if_pos hm, hk]; exact ⟨true, rfl, fun _ => rfl⟩
  · rw [if_neg hm, hk]; exact ⟨fz, rfl, fun hc => hc.elim id (fun hc => absurd hc hm)⟩
theorem rep_length {α : Type} (l : List α) : ∀ n, (rep l n).length = n * l.length
  | 0 => by simp [rep]
  | n + 1 => by simp [rep, rep_length l n, Nat.add_mul, Nat.add_comm]
theorem rep_get {α : Type} (l : List α) (h0 : 0 < l.length) : ∀ n j, j < n * l.length → (rep l n)[j]? = l[j % l.length]?
  | 0, j, h => by simp at h
  | n + 1, j, h => by
    rw [rep]
    rcases Nat.lt_or_ge j l.length with hlt | hge
    · rw [List.getElem?_append_left hlt, Nat.mod_eq_of_lt hlt]
    · rw [List.getElem?_append_right hge, rep_get l h0 n (j - l.length) (by rw [Nat.add_mul] at h; omega)]
      rw [Nat.mod_eq_sub_mod hge]
theorem rep_rels {S : Nat → Prop} {cs : List AV} {vs : List Value} (h : VRels κ H w S cs vs) : ∀ n, VRels κ H w S (rep cs n) (rep vs n)
  | 0 => .nil
  | n + 1 => h.append (rep_rels h n)
theorem range_rep (z : Array Value) (n len : Nat) (hz : z.size = n) (h0 : 0 < n) : ((Array.range (len * n)).map (z[· % z.size]!)).toList = rep z.toList len := by
  apply List.ext_getElem?
  intro j
  by_cases hj : j < len * n
  · rw [rep_get z.toList (by simpa [hz] using h0) len j (by simpa [hz] using hj)]
    have hm : j % z.size < z.size := Nat.mod_lt _ (by omega)
    simp [hj, hm]
  · rw [List.getElem?_eq_none (by simp; omega), List.getElem?_eq_none (by rw [rep_length]; simp [hz]; omega)]
theorem chunks_get {α : Type} (n : Nat) : ∀ (m j : Nat) (l : List α), j < m → (chunks n m l)[j]? = some ((l.drop (j * n)).take n)
  | 0, j, l, h => by omega
  | m + 1, 0, l, h => by simp [chunks]
  | m + 1, j + 1, l, h => by
    simp only [chunks, List.getElem?_cons_succ]
    rw [chunks_get n m j (l.drop n) (by omega), List.drop_drop]
    congr 3
    rw [Nat.add_mul, Nat.one_mul, Nat.add_comm]
theorem chunks_length {α : Type} (n : Nat) : ∀ (m : Nat) (l : List α), (chunks n m l).length = m
  | 0, l => rfl
  | m + 1, l => by simp [chunks, chunks_length n m]
theorem chunks_flat {S : Nat → Prop} {n m : Nat} {ds : List D} {vs : List Value} (hl : ds.length = m * n) (h : ∀ (i : Nat) (d : D) (v : Value), ds[i]? = some d → vs[i]? = some v → Rd w S d v) :
    FlatRel w S n (chunks n m ds) vs ∧ AllLen n (chunks n m ds) := by
  have hj' : ∀ j cs, (chunks n m ds)[j]? = some cs → j < m ∧ cs = (ds.drop (j * n)).take n := by
    intro j cs hj
    have hlt : j < m := by have := (List.getElem?_eq_some_iff.1 hj).1; rwa [chunks_length] at this
    rw [chunks_get n m j ds hlt] at hj
    exact ⟨hlt, (Option.some.inj hj).symm⟩
  refine ⟨fun j cs i d v hj hi hv => ?_, fun j cs hj => ?_⟩
  · obtain ⟨hlt, rfl⟩ := hj' j cs hj
    rw [List.getElem?_take] at hi
    split at hi
    · rw [List.getElem?_drop] at hi
      exact h _ d v hi hv
    · cases hi
  · obtain ⟨hlt, rfl⟩ := hj' j cs hj
    have : (j + 1) * n ≤ m * n := Nat.mul_le_mul_right _ hlt
    rw [Nat.add_mul, Nat.one_mul] at this
    simp; omega
theorem buildS_ok (hh : HRel κ H w U) {t : TypeId} {len : Nat} {ps : List (Nat × AV)} {us : List (Nat × Value)} {e : Eff} (h : buildS P (get H) t len ps = some e) (hp : PartsRel κ H w (Stab κ H U) ps us) :
    PrimOk P κ (freezeAll H e.frz) w U e.act ((do pure (.value (← Instr.buildSlice t len us.toArray)) : Sem Next).run P w) ∧
      ∃ w', (do pure (.value (← Instr.buildSlice t len us.toArray)) : Sem Next).run P w = .ok (.value (.slice (some ⟨w.heap.size, 0, none⟩) len len)) w' := by
  unfold buildS at h
  split at h
  · cases h
  rename_i el he
  have hu := sliceE_run he
  split at h
  · rename_i n z hs hz
    split at h
    · cases h
    rename_i hc
    simp only [not_or, ne_eq, Decidable.not_not, Nat.not_lt] at hc
    obtain ⟨hn0, hzn, hlim⟩ := hc
    split at h
    · rename_i cs hf
      obtain ⟨dz, hd, rfl⟩ := map_inv hz
      obtain ⟨v, hv, hone, rfl⟩ := zeroDs_run hd
      have hvn : v.cells.size = n := by simpa using hzn
      have hrel0 : VRels κ H w (Stab κ H U) ((v.cells.toList.map D.sc).map .d) v.cells.toList := sc_rels _ hone
      have hrel := rep_rels hrel0 len
      have hzeros := range_rep v.cells n len hvn (by omega)
      rw [← hzeros] at hrel
      obtain ⟨vs, h1, h2, h3⟩ := fillD_ok hf hrel hp
      have hvs : vs.size = len * n := by rw [h3]; simp
      have hrun : (Instr.buildSlice t len us.toArray).run P w = .ok (.slice (some ⟨w.heap.size, 0, none⟩) len len) { w with heap := w.heap.push (.cells vs el), drawn := w.drawn + 0 } := by
        have hno : ¬ (len * n > 2 ^ 24) := by simpa using hlim
        by_cases hl0 : len = 0
        · subst hl0
          simp only [Nat.zero_mul] at h1 hno
          simp only [Instr.buildSlice, Sem.run_bind, run_underlying hu, Result.andThen_ok, sizeT_run hs, Nat.zero_mul]
          have e0 : ∀ g : Nat → Value, Array.map g (Array.range 0) = #[] := fun g => by simp
          rw [e0] at h1
          simp only [Nat.not_lt_zero, gt_iff_lt, if_false, if_true, Sem.run_pure, Result.andThen_ok, e0, List.toList_toArray, h1]
          simp [newRow, h1]
        · have hne : ¬ (len * n = 0) := by
            intro h0
            rcases Nat.mul_eq_zero.1 h0 with h0 | h0
            · exact hl0 h0
            · exact hn0 h0
          simp only [Instr.buildSlice, Sem.run_bind, run_underlying hu, Result.andThen_ok, sizeT_run hs, if_neg hno, if_neg hne, hv, Sem.run_pure, List.toList_toArray, h1]
          simp [newRow]
      split at h
      · rename_i ds fr hcd
        injection h with h
        subst h
        have hfr := freezeAll_rel fr H hh
        obtain ⟨hl, hrd⟩ := cellsD_ok hh hfr.1 hfr.2 hcd (freeze_same H fr) h2
        have hdl : ds.length = len * n := by rw [hl]; simpa using hvs
        obtain ⟨hflat, hall⟩ := chunks_flat (m := len) hdl hrd
        refine ⟨?_, _, by simp only [Sem.run_bind, hrun, Result.andThen_ok, Sem.run_pure]; rfl⟩
        refine ⟨.slice (some ⟨w.heap.size, 0, none⟩) len len, .cells vs el, 0, by simp [hrun], ⟨rfl, vs, rfl, by omega, hall, by rw [chunks_length]; omega, ?_⟩, chunks_length _ _ _, len, rfl, Nat.le_refl _, Nat.le_trans (Nat.le_mul_of_pos_right len (Nat.pos_of_ne_zero hn0)) (by omega), vs, el, rfl, by omega⟩
        intro j cs i d v hj hi hv
        exact hflat j cs i d v hj hi (by simpa using hv)
      · injection h with h
        subst h
        refine ⟨?_, _, by simp only [Sem.run_bind, hrun, Result.andThen_ok, Sem.run_pure]; rfl⟩
        exact ⟨.slice (some ⟨w.heap.size, 0, none⟩) len len, .cells vs el, 0, by simp [hrun], ⟨vs, rfl, h2⟩, rfl⟩
    · cases h
  · cases h
end
end Go.AE
