/- The abstract evaluator: reading memory, addresses, slices, tuples. -/
import Derived.Test.YtlaldhmpoggkjaaGreatDoorAeOp3
set_option autoImplicit false
set_option linter.unusedVariables false
set_option linter.unusedSimpArgs false
namespace Go.AE
section
variable {P : Program} {κ : Kp} {H H' : Heap} {w : World} {U : Nat → Prop}

theorem aggT_run {t : TypeId} {b : Bool} (h : aggT P t = some b) : (isAgg t).run P w = .ok b w := by
  unfold aggT at h
  unfold isAgg
  split at h
  · rename_i hu; injection h with h; subst h; simp [run_underlying hu]
  · rename_i hu; injection h with h; subst h; simp [run_underlying hu]
  · rename_i d hn1 hn2 hu
    injection h with h; subst h
    simp only [Sem.run_bind, run_underlying hu, Result.andThen_ok]
    cases d <;> first | rfl | exact absurd rfl (hn1 _) | exact absurd rfl (hn2 _ _)
  · cases h
theorem sizeT_run {t : TypeId} {n : Nat} (h : sizeT P t = some n) : (sizeOf t).run P w = .ok n w := by
  obtain ⟨i, hi, rfl⟩ := Option.map_eq_some_iff.1 h
  simp [sizeOf, typeInfo, hi]
theorem add_off (b o n : Nat) : (⟨b, o, none⟩ : Addr).add n = ⟨b, o + n, none⟩ := by unfold Addr.add; split <;> simp_all

/-- Cells from an address on. -/
def CellsAt (κ : Kp) (H : Heap) (w : World) (S : Nat → Prop) (b o : Nat) (cs : List AV) : Prop :=
  ∀ (i : Nat) (c : AV), cs[i]? = some c → ∃ v, w.cell? ⟨b, o + i, none⟩ = some v ∧ VRel κ H w S c v
theorem CellsAt.of_row {S : Nat → Prop} {g : Nat} {vs : Array Value} {ty : TypeId} {fr : Nat × Nat} {cs : List AV} (hg : w.heap[g]? = some (.cells vs ty fr)) (h : VRels κ H w S cs vs.toList) : CellsAt κ H w S g 0 cs := by
  intro i c hc
  obtain ⟨v, hv, hr⟩ := h.get hc
  exact ⟨v, by simpa [World.cell?, hg] using hv, hr⟩
theorem readBox_ok {S : Nat → Prop} {t : TypeId} {cs : List AV} {b o off : Nat} {r : AV} (h : readBox P t cs off = some r) (hc : CellsAt κ H w S b o cs) :
    ∃ u, (loadVar t ⟨b, o + off, none⟩).run P w = .ok u w ∧ VRel κ H w S r u := by
  unfold readBox at h
  split at h
  · rename_i n ha hs
    split at h
    · rename_i hle
      injection h with h
      subst h
      have hex : ∀ j, j < n → ∃ v, w.cell? ⟨b, o + off + j, none⟩ = some v ∧ ∃ c, cs[off + j]? = some c ∧ VRel κ H w S c v := by
        intro j hj
        have hlt : off + j < cs.length := by omega
        obtain ⟨v, hv, hr⟩ := hc (off + j) _ (List.getElem?_eq_getElem hlt)
        exact ⟨v, by rw [Nat.add_assoc]; exact hv, _, List.getElem?_eq_getElem hlt, hr⟩
      let f : Nat → Value := fun j => if hj : j < n then (hex j hj).choose else undef
      have hf : ∀ j, j < n → w.cell? ⟨b, o + off + j, none⟩ = some (f j) ∧ ∃ c, cs[off + j]? = some c ∧ VRel κ H w S c (f j) := by
        intro j hj
        simp only [f, hj, dif_pos]
        exact (hex j hj).choose_spec
      refine ⟨.agg ((List.range n).map f).toArray, ?_, .agg _ _ (by simp; omega) fun i c v hi hv => ?_⟩
      · simp only [loadVar, Sem.run_bind, aggT_run ha, Result.andThen_ok, if_true, sizeT_run hs]
        rw [run_loadCells w _ n f (fun j hj => by rw [add_off]; exact (hf j hj).1)]
        rfl
      · have hi' : i < n := by
          have := (List.getElem?_eq_some_iff.1 hi).1
          simp at this; omega
        simp only [List.getElem?_take, hi', if_true, List.getElem?_drop] at hi
        simp [hi'] at hv
        subst hv
        obtain ⟨c', hc', hr⟩ := (hf i hi').2
        rw [hi] at hc'; injection hc' with hc'; subst hc'
        exact hr
    · cases h
  · rename_i n ha hs
    obtain ⟨v, hv, hr⟩ := hc off r h
    refine ⟨v, ?_, hr⟩
    simp [loadVar, aggT_run ha, hv]
  · cases h
theorem loadAV_ok (hh : HRel κ H w U) {t : TypeId} {p r : AV} {u : Value} (h : loadAV P (get H) t p = some r) (hp : VRel κ H w (Stab κ H U) p u) :
    ∃ z, (Instr.loadAt t u).run P w = .ok z w ∧ VRel κ H w (Stab κ H U) r z := by
  cases hp with
  | ptr k off g ty cs hk ho =>
    simp only [loadAV, get, ho] at h
    obtain ⟨vs, hg, hr⟩ := hh.obj k g _ hk ho
    obtain ⟨z, hz, hr⟩ := readBox_ok h (CellsAt.of_row hg hr)
    exact ⟨z, by simpa [Instr.loadAt, Instr.sureAddr] using hz, hr⟩
  | ap k len i off g ty sz xs fz ho hl hv =>
    simp only [loadAV, get, ho] at h
    split at h
    · rename_i hlen
      obtain ⟨c, hc, h⟩ := bind_inv h
      obtain ⟨vs, hg, hsz, hl1, hl2, hr⟩ := hh.obj k g _ (hv hlen) ho
      have hi : i < xs.length := (List.getElem?_eq_some_iff.1 hc).1
      have hcl := hl1 i c hc
      have hat : CellsAt κ H w (Stab κ H U) g (i * sz) (c.map .d) := by
        intro j x hx
        simp only [List.getElem?_map, Option.map_eq_some_iff] at hx
        obtain ⟨d, hd, rfl⟩ := hx
        have hj : j < sz := by rw [← hcl]; exact (List.getElem?_eq_some_iff.1 hd).1
        have hlt : i * sz + j < vs.size := by
          have : (i + 1) * sz ≤ xs.length * sz := Nat.mul_le_mul_right _ hi
          rw [Nat.add_mul, Nat.one_mul] at this
          omega
        exact ⟨vs[i * sz + j], by simp [World.cell?, hg, hlt], .d _ _ (hr i c j d _ hc hd (Array.getElem?_eq_getElem hlt))⟩
      obtain ⟨z, hz, hr⟩ := readBox_ok h hat
      exact ⟨z, by simpa [Instr.loadAt, Instr.sureAddr] using hz, hr⟩
    · cases h
  | dp b o cs f hS hb hcell hr =>
    simp only [loadAV] at h
    have hat : CellsAt κ H w (Stab κ H U) b o (cs.map .d) := by
      intro j x hx
      simp only [List.getElem?_map, Option.map_eq_some_iff] at hx
      obtain ⟨d, hd, rfl⟩ := hx
      exact ⟨f j, hcell j (List.getElem?_eq_some_iff.1 hd).1, .d _ _ (hr j d hd)⟩
    obtain ⟨z, hz, hr⟩ := readBox_ok h hat
    exact ⟨z, by simpa [Instr.loadAt, Instr.sureAddr] using hz, hr⟩
  | _ => simp [loadAV] at h

/-! ### By value -/
theorem stab_frozen (hh : HRel κ H w U) {k g : Nat} {ty : TypeId} {sz : Nat} {xs : List (List D)} (hk : κ k = some g) (ho : H[k]? = some (.arr ty sz xs true)) : Stab κ H U g := by
  refine ⟨hh.inU k g hk, ?_⟩
  rintro ⟨k', o, hk', ho', hm⟩
  obtain rfl := hh.inj k' k g hk' hk
  rw [ho] at ho'
  injection ho' with ho'
  subst ho'
  cases hm
theorem row_rd (hh : HRel κ H w U) {S : Nat → Prop} {k len : Nat} {ty : TypeId} {sz : Nat} {xs : List (List D)} {fz : Bool} {v : Value} (ho : H[k]? = some (.arr ty sz xs fz)) (hlen : xs.length = len)
    (hv : RowIs κ w k sz len v) (hS : ∀ g, κ k = some g → S g) (hS' : ∀ b, Stab κ H U b → S b) : Rd w S (.sl sz xs) v := by
  rcases hv with ⟨h0, rfl, _⟩ | ⟨g, cap, e, n, hk, rfl, hle, hs, hc⟩
  · obtain rfl : xs = [] := List.eq_nil_of_length_eq_zero (hlen.trans h0)
    exact .nil _ _ _
  · obtain ⟨vs, hg, hsz, hl1, hl2, hr⟩ := hh.obj k g _ hk ho
    subst hlen
    have hlt : ∀ j i, j < xs.length → i < sz → j * sz + i < vs.size := fun j i hj hi => by
      have : (j + 1) * sz ≤ xs.length * sz := Nat.mul_le_mul_right _ hj
      rw [Nat.add_mul, Nat.one_mul] at this
      omega
    refine .sl sz g 0 cap xs (fun j i => vs.getD (j * sz + i) undef) (hS g hk) (hh.lt k g hk) hle hl1 (fun j i hj hi => ?_) (fun j cs i d hj hi => ?_)
    · have := hlt j i hj hi
      simp [World.cell?, hg, this]
    · have hj' := (List.getElem?_eq_some_iff.1 hj).1
      have hi' : i < sz := by rw [← hl1 j cs hj]; exact (List.getElem?_eq_some_iff.1 hi).1
      have := hlt j i hj' hi'
      refine (hr j cs i d _ hj hi ?_).mono hS'
      simp [this]

/-- All rows of a list are frozen. -/
def FrozenL (H : Heap) (l : List Nat) : Prop := ∀ k ∈ l, ∀ ty sz xs fz, H[k]? = some (.arr ty sz xs fz) → fz = true
theorem freezeAll_get : ∀ (l : List Nat) (H : Heap) (k : Nat), (freezeAll H l)[k]? = if k ∈ l then (H[k]?).map AO.frz else H[k]?
  | [], H, k => by simp [freezeAll]
  | j :: r, H, k => by
    rw [freezeAll, freezeAll_get r, freeze1_get]
    by_cases e : k = j
    · subst e
      by_cases hm : k ∈ r
      · simp only [hm, if_true, List.mem_cons, true_or, Option.map_map]
        congr 1
        funext o
        cases o <;> rfl
      · simp [hm]
    · by_cases hm : k ∈ r <;> simp [e, hm]
theorem freezeAll_frozen (l : List Nat) (H : Heap) : FrozenL (freezeAll H l) l := by
  intro k hk ty sz xs fz h
  rw [freezeAll_get, if_pos hk] at h
  simp only [Option.map_eq_some_iff] at h
  obtain ⟨o, _, ho⟩ := h
  cases o <;> simp [AO.frz] at ho
  exact ho.2.2.2
/-- A cell by value, told over a later heap in which its rows are frozen. -/
theorem cellD_ok (hh : HRel κ H w U) (hh' : HRel κ H' w U) (he : Ext κ H w κ H' w) {c : AV} {x : D} {fr : List Nat} {v : Value} (h : cellD (get H) c = some (x, fr))
    (hsame : ∀ k ty sz xs fz, H[k]? = some (.arr ty sz xs fz) → ∃ fz', H'[k]? = some (.arr ty sz xs fz') ∧ (fz = true ∨ k ∈ fr → fz' = true)) (hv : VRel κ H w (Stab κ H U) c v) : Rd w (Stab κ H' U) x v := by
  have hon : ∀ b, Stab κ H U b → b < w.heap.size → Stab κ H' U b := fun b hb hl => hb.on he hh.dom hl
  cases hv with
  | d x' v h' =>
    simp only [cellD, Option.some.injEq, Prod.mk.injEq] at h
    obtain ⟨rfl, _⟩ := h
    exact h'.move (Nat.le_refl _) (fun _ _ _ => rfl) hon
  | csl sz xs a n h' =>
    simp only [cellD, Option.some.injEq, Prod.mk.injEq] at h
    obtain ⟨rfl, _⟩ := h
    exact h'.move (Nat.le_refl _) (fun _ _ _ => rfl) hon
  | osl k len a c ty sz xs fz ho hl hv =>
    simp only [cellD, get, ho] at h
    split at h
    · rename_i hlen
      simp only [Option.some.injEq, Prod.mk.injEq] at h
      obtain ⟨rfl, rfl⟩ := h
      obtain ⟨fz', ho', hf⟩ := hsame k ty sz xs fz ho
      have : fz' = true := hf (by cases fz <;> simp)
      subst this
      exact row_rd hh' ho' hlen (hv hlen) (fun g hk => stab_frozen hh' hk ho') (fun b hb => hb)
    · cases h
  | _ => simp [cellD] at h
end
end Go.AE
