/- The abstract evaluator: make of a slice, append. -/
import Derived.Test.YtlaldhmpoggkjaaGreatDoorAeOp10
set_option autoImplicit false
set_option linter.unusedVariables false
set_option linter.unusedSimpArgs false
namespace Go.AE
section
variable {P : Program} {κ : Kp} {H H' : Heap} {w : World} {U : Nat → Prop}

theorem roomy_inv {e : TypeId} {n : Nat} (h : roomy P e n = true) : ∃ i, P.info? e = some i ∧ n * i.bytes ≤ 140737488355328 ∧ 0 < i.bytes ∧ n ≤ 140737488355328 := by
  unfold roomy at h
  split at h
  · rename_i i hi
    simp only [Bool.and_eq_true, decide_eq_true_eq] at h
    exact ⟨i, hi, h.1, h.2, Nat.le_trans (Nat.le_mul_of_pos_right n h.2) h.1⟩
  · cases h
theorem sizeT_info {t : TypeId} {n : Nat} {i : TypeInfo} (h : sizeT P t = some n) (hi : P.info? t = some i) : i.size = n := by
  simp [sizeT, hi] at h; exact h
theorem zeroT_info {t : TypeId} {z : Value} {i : TypeInfo} (h : zeroT P t = some z) (hi : P.info? t = some i) : i.zero = some z := by
  simpa [zeroT, hi] using h

theorem made_flat {S : Nat → Prop} {z : Array Value} {n l c : Nat} (hz : z.size = n) (h0 : 0 < n) (hone : z.toList.all Value.oneCell' = true) (hlc : l ≤ c) :
    FlatRel w S n (List.replicate l (z.toList.map D.sc)) (madeCells z (c * n)).toList ∧ AllLen n (List.replicate l (z.toList.map D.sc)) := by
  have hm : ∀ j cs, (List.replicate l (z.toList.map D.sc))[j]? = some cs → j < l ∧ cs = z.toList.map D.sc := by
    intro j cs hj
    obtain ⟨h1, h2⟩ := List.getElem?_eq_some_iff.1 hj
    exact ⟨by simpa using h1, by simpa using h2.symm⟩
  refine ⟨fun j cs i d v hj hi hv => ?_, fun j cs hj => ?_⟩
  · obtain ⟨hlt, rfl⟩ := hm j cs hj
    simp only [List.getElem?_map, Option.map_eq_some_iff] at hi
    obtain ⟨u, hu, rfl⟩ := hi
    have hi' : i < n := by rw [← hz]; have := (List.getElem?_eq_some_iff.1 hu).1; simpa using this
    have him : (j + 1) * n ≤ c * n := Nat.mul_le_mul_right _ (by omega)
    rw [Nat.add_mul, Nat.one_mul] at him
    have hlt2 : j * n + i < c * n := by omega
    have hmod : (j * n + i) % n = i := by rw [Nat.mul_comm, Nat.mul_add_mod, Nat.mod_eq_of_lt hi']
    have huv : u = v := by
      rw [Array.getElem?_toList] at hu hv
      obtain ⟨hu1, hu2⟩ := Array.getElem?_eq_some_iff.1 hu
      simp only [madeCells, Array.getElem?_map, Array.getElem?_range, if_pos hlt2, Option.map_some, Option.some.injEq, hz, hmod] at hv
      rw [getElem!_pos z i hu1, hu2] at hv
      exact hv
    subst huv
    exact .sc _ (List.all_eq_true.1 hone _ (List.mem_of_getElem? hu))
  · obtain ⟨hlt, rfl⟩ := hm j cs hj
    simpa using hz
theorem makeSlice_ok {t : TypeId} {l c : AV} {ul uc : Value} {e : Eff}
    (h : (match cellsInt l, cellsInt c, sliceE P t with
      | some l, some c, some e => match sizeT P e, zeroDs P e with
        | some n, some z => if 0 ≤ l ∧ l ≤ c ∧ n ≠ 0 ∧ z.length = n ∧ roomy P e c.toNat then some (Eff.mk [] (.new (.arr e n (List.replicate l.toNat z) false) (some l.toNat))) else none
        | _, _ => none
      | _, _, _ => none) = some e) (hl : VRel κ H w (Stab κ H U) l ul) (hc : VRel κ H w (Stab κ H U) c uc) :
    PrimOk P κ (freezeAll H e.frz) w U e.act ((do pure (.value (← Instr.makeSlice t ul uc)) : Sem Next).run P w) := by
  have hint : ∀ {x : AV} {u : Value} {n : Int}, cellsInt x = some n → VRel κ H w (Stab κ H U) x u → ∃ k, u = .int k n := by
    intro x u n hx hr
    unfold cellsInt at hx
    split at hx
    · rename_i k m
      injection hx with hx
      subst hx
      exact ⟨k, hr.sc_inv⟩
    · cases hx
  split at h
  · rename_i l' c' el hl' hc' he
    split at h
    · rename_i n z hs hz
      split at h
      · rename_i hcond
        obtain ⟨h0, hlc, hn, hzl, hroom⟩ := hcond
        injection h with h
        subst h
        obtain ⟨kl, rfl⟩ := hint hl' hl
        obtain ⟨kc, rfl⟩ := hint hc' hc
        obtain ⟨i, hi, hb, hb0, hcn⟩ := roomy_inv hroom
        have hsz := sizeT_info hs hi
        obtain ⟨v, hv, hone, rfl⟩ : ∃ v : Value, i.zero = some v ∧ v.cells.toList.all Value.oneCell' = true ∧ z = v.cells.toList.map .sc := by
          obtain ⟨v, hv, h⟩ := bind_inv hz
          split at h
          · rename_i hall
            injection h with h
            exact ⟨v, zeroT_info hv hi, hall, h.symm⟩
          · cases h
        have hvn : v.cells.size = n := by simpa using hzl
        have hrun := run_make (P := P) w t el i v (sliceE_run he) hi hv kl kc l' c' h0 hlc (by
          have : ((i.bytes * c'.toNat : Nat) : Int) ≤ 281474976710656 := by rw [Nat.mul_comm]; omega
          have hcc : (c'.toNat : Int) = c' := Int.toNat_of_nonneg (by omega)
          rw [Int.natCast_mul, hcc] at this
          exact this) (by omega)
        have hll : l'.toNat ≤ c'.toNat := by omega
        obtain ⟨hf, ha⟩ := made_flat (w := w) (S := Stab κ H U) hvn (Nat.pos_of_ne_zero hn) hone hll
        have hmul : l'.toNat * n ≤ c'.toNat * n := Nat.mul_le_mul_right _ hll
        refine ⟨_, .cells (madeCells v.cells (c'.toNat * n)) el, 0, by simp [hrun, hsz], ⟨rfl, _, rfl, Nat.pos_of_ne_zero hn, ha, by simp [size_madeCells]; exact hmul, ?_⟩, by simp, c'.toNat, rfl, hll, by omega, _, _, rfl, by simp [size_madeCells]⟩
        intro j cs i d v hj hi hv
        exact hf j cs i d v hj hi (by simpa using hv)
      · cases h
    · cases h
  · cases h

/-! ### append -/
theorem append_types {t t2 ty e e2 : TypeId} {b a : Option Addr} {l c m d : Nat} (h : P.underlying t = some (.slice e)) (h2 : P.underlying t2 = some (.slice e2)) :
    (Builtin.append_ #[t, t2] ty #[.slice b l c, .slice a m d]).run P w = (Builtin.append_ #[t, t] ty #[.slice b l c, .slice a m d]).run P w := by
  simp [Builtin.append_, run_underlying h, run_underlying h2]
theorem run_append_none {t ty e : TypeId} {n : Nat} {b a : Option Addr} {len cap c : Nat} (h : P.underlying t = some (.slice e)) (hs : sizeT P e = some n) (hle : len ≤ cap) :
    (Builtin.append_ #[t, t] ty #[.slice b len cap, .slice a 0 c]).run P w = .ok (.slice b len cap) w := by
  cases a <;> cases b <;> simp [Builtin.append_, run_underlying h, sizeT_run hs, Builtin.lenOf, hle, Builtin.firstCells, loadCells, loadCellsFrom, storeCells]
/-- A row that has grown, laid anew. -/
theorem grown_flat {S : Nat → Prop} {sz need cap : Nat} {xs : List (List D)} {vs : List Value} {z : Array Value} (hf : FlatRel w S sz xs vs) (ha : AllLen sz xs) (hl : vs.length = xs.length * sz) (hx : xs.length = need) (hc : need ≤ cap) (hz : z.size = sz) :
    ∀ row : Array Value, row.toList = vs ++ (Builtin.zeroCells z (cap - need)).toList →
    row.size = cap * sz ∧ xs.length * sz ≤ row.size ∧ ∀ (j : Nat) (cs : List D) (i : Nat) (d : D) (v : Value), xs[j]? = some cs → cs[i]? = some d → row[j * sz + i]? = some v → Rd w S d v := by
  intro row hrow
  have hsz : row.size = cap * sz := by
    have : row.toList.length = vs.length + (Builtin.zeroCells z (cap - need)).toList.length := by rw [hrow]; simp
    simp only [Array.length_toList, size_zeroCells, hz, hl, hx] at this
    rw [this, ← Nat.add_mul]
    congr 1
    omega
  have hmul : xs.length * sz ≤ cap * sz := Nat.mul_le_mul_right _ (by omega)
  refine ⟨hsz, by omega, fun j cs i d v hj hi hv => ?_⟩
  have hm := hf.more (us := (Builtin.zeroCells z (cap - need)).toList) hl ha
  rw [← hrow] at hm
  exact hm j cs i d v hj hi (by simpa using hv)
end
end Go.AE
