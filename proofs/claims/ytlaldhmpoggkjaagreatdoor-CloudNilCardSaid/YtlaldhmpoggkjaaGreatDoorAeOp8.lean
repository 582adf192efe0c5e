/- The abstract evaluator: objects that are made. -/
import Derived.Test.YtlaldhmpoggkjaaGreatDoorAeOp7
set_option autoImplicit false
set_option linter.unusedVariables false
set_option linter.unusedSimpArgs false
namespace Go.AE
section
variable {P : Program} {κ : Kp} {H H' : Heap} {w : World} {U : Nat → Prop}

/-- Elements, each of sz cells, that lie one behind the other. -/
def FlatRel (w : World) (S : Nat → Prop) (sz : Nat) (xs : List (List D)) (vs : List Value) : Prop :=
  ∀ (j : Nat) (cs : List D) (i : Nat) (d : D) (v : Value), xs[j]? = some cs → cs[i]? = some d → vs[j * sz + i]? = some v → Rd w S d v
def AllLen (sz : Nat) (xs : List (List D)) : Prop := ∀ (j : Nat) (cs : List D), xs[j]? = some cs → cs.length = sz
theorem Rd.one {S : Nat → Prop} {x : D} {v : Value} (h : Rd w S x v) : v.oneCell' = true := by cases h <;> first | assumption | rfl
theorem div_lt {q m sz : Nat} (h : q < m * sz) : q / sz < m := by
  rcases Nat.eq_zero_or_pos sz with h0 | h0
  · subst h0; simp at h
  · exact (Nat.div_lt_iff_lt_mul h0).2 h
theorem Rd.flat {S : Nat → Prop} {sz n c : Nat} {xs : List (List D)} {a : Option Addr} (h : Rd w S (.sl sz xs) (.slice a n c)) (hx : xs ≠ []) (h0 : 0 < sz) :
    ∃ b o news, a = some ⟨b, o, none⟩ ∧ n = xs.length ∧ n ≤ c ∧ news.length = n * sz ∧ (∀ j u, news[j]? = some u → w.cell? ((⟨b, o, none⟩ : Addr).add j) = some u) ∧ FlatRel w S sz xs news ∧ AllLen sz xs ∧ ∀ u ∈ news, u.oneCell' = true := by
  cases h with
  | nil => exact absurd rfl hx
  | sl _ b o _ _ f hS hb hc hl hcell hr =>
    refine ⟨b, o, (List.range (xs.length * sz)).map fun q => f (q / sz) (q % sz), rfl, rfl, hc, by simp, fun j u hj => ?_, fun j cs i d v hj hi hv => ?_, hl, fun u hu => ?_⟩
    · simp only [List.getElem?_map, Option.map_eq_some_iff] at hj
      obtain ⟨q, hq, rfl⟩ := hj
      have hlt : j < xs.length * sz := by have := (List.getElem?_eq_some_iff.1 hq).1; simpa using this
      have : q = j := by
        rw [List.getElem?_range hlt] at hq
        exact (Option.some.inj hq).symm
      subst this
      rw [add_off]
      have := hcell (q / sz) (q % sz) (div_lt hlt) (Nat.mod_lt _ h0)
      rwa [Nat.add_assoc, show q / sz * sz + q % sz = q by rw [Nat.mul_comm]; exact Nat.div_add_mod q sz] at this
    · have hj' := (List.getElem?_eq_some_iff.1 hj).1
      have hi' : i < sz := by rw [← hl j cs hj]; exact (List.getElem?_eq_some_iff.1 hi).1
      have hlt : j * sz + i < xs.length * sz := by
        have : (j + 1) * sz ≤ xs.length * sz := Nat.mul_le_mul_right _ hj'
        rw [Nat.add_mul, Nat.one_mul] at this
        omega
      simp only [List.getElem?_map, List.getElem?_range hlt, Option.map_some, Option.some.injEq] at hv
      have h1 : (j * sz + i) / sz = j := by
        rw [Nat.mul_comm, Nat.mul_add_div h0, Nat.div_eq_of_lt hi']; rfl
      have h2 : (j * sz + i) % sz = i := by
        rw [Nat.mul_comm, Nat.mul_add_mod, Nat.mod_eq_of_lt hi']
      rw [h1, h2] at hv
      subst hv
      exact hr j cs i d hj hi
    · obtain ⟨q, hq, rfl⟩ := List.mem_map.1 hu
      have hlt : q < xs.length * sz := by simpa using hq
      have hj := div_lt hlt
      have hi := Nat.mod_lt q h0
      have hcs := List.getElem?_eq_getElem hj
      have hlen := hl _ _ hcs
      have hd : (xs[q / sz]'hj)[q % sz]? = some ((xs[q / sz]'hj)[q % sz]'(by rw [hlen]; exact hi)) := List.getElem?_eq_getElem _
      exact (hr _ _ _ _ hcs hd).one
theorem FlatRel.append {S : Nat → Prop} {sz : Nat} {xs ys : List (List D)} {vs us : List Value} (h : FlatRel w S sz xs vs) (k : FlatRel w S sz ys us) (hl : vs.length = xs.length * sz) (hx : AllLen sz xs) : FlatRel w S sz (xs ++ ys) (vs ++ us) := by
  intro j cs i d v hj hi hv
  rcases Nat.lt_or_ge j xs.length with hlt | hge
  · rw [List.getElem?_append_left hlt] at hj
    have hi' : i < sz := by rw [← hx j cs hj]; exact (List.getElem?_eq_some_iff.1 hi).1
    have : (j + 1) * sz ≤ xs.length * sz := Nat.mul_le_mul_right _ hlt
    rw [Nat.add_mul, Nat.one_mul] at this
    rw [List.getElem?_append_left (by omega)] at hv
    exact h j cs i d v hj hi hv
  · rw [List.getElem?_append_right hge] at hj
    obtain ⟨q, rfl⟩ := Nat.exists_eq_add_of_le hge
    rw [Nat.add_sub_cancel_left] at hj
    have he : (xs.length + q) * sz + i = vs.length + (q * sz + i) := by rw [hl, Nat.add_mul]; omega
    rw [he, List.getElem?_append_right (by omega), Nat.add_sub_cancel_left] at hv
    exact k q cs i d v hj hi hv
theorem FlatRel.more {S : Nat → Prop} {sz : Nat} {xs : List (List D)} {vs us : List Value} (h : FlatRel w S sz xs vs) (hl : vs.length = xs.length * sz) (hx : AllLen sz xs) : FlatRel w S sz xs (vs ++ us) := by
  have := h.append (ys := []) (us := us) (fun j cs i d v hj _ _ => by simp at hj) hl hx
  simpa using this
theorem AllLen.append {sz : Nat} {xs ys : List (List D)} (h : AllLen sz xs) (k : AllLen sz ys) : AllLen sz (xs ++ ys) := by
  intro j cs hj
  rcases Nat.lt_or_ge j xs.length with hlt | hge
  · rw [List.getElem?_append_left hlt] at hj; exact h j cs hj
  · rw [List.getElem?_append_right hge] at hj; exact k _ cs hj

/-! ### Boxes -/
theorem zeroDs_run {t : TypeId} {z : List D} (h : zeroDs P t = some z) : ∃ v : Value, (∀ w, (zeroValue t).run P w = .ok v w) ∧ v.cells.toList.all Value.oneCell' = true ∧ z = v.cells.toList.map .sc := by
  obtain ⟨v, hv, h⟩ := bind_inv h
  split at h
  · rename_i hall
    injection h with h
    obtain ⟨i, hi, hz⟩ := bind_inv hv
    exact ⟨v, fun w => by simp [zeroValue, typeInfo, hi, hz], hall, h.symm⟩
  · cases h
theorem sc_rels {S : Nat → Prop} : ∀ (vs : List Value), vs.all Value.oneCell' = true → VRels κ H w S ((vs.map D.sc).map .d) vs
  | [], _ => .nil
  | v :: vs, h => by
    simp only [List.all_cons, Bool.and_eq_true] at h
    exact .cons (.sc v h.1) (sc_rels vs h.2)
theorem new_box {S : Nat → Prop} {ty : TypeId} {cs : List AV} {vs : Array Value} (hr : VRels κ H w S cs vs.toList) : ObjIs κ H w S (.box ty cs) (.cells vs ty) := ⟨vs, rfl, hr⟩
theorem alloc_ok {t : TypeId} {z : List AV} (h : zeroCells P t = some z) : PrimOk P κ H w U (.new (.box t z) none) ((do pure (.value (← Instr.alloc t true (.tuple #[]))) : Sem Next).run P w) := by
  obtain ⟨ds, hd, rfl⟩ := map_inv h
  obtain ⟨v, hv, hall, rfl⟩ := zeroDs_run hd
  refine ⟨.pointer (some ⟨w.heap.size, 0, none⟩), .cells v.cells t, 0, ?_, new_box (sc_rels _ hall), rfl⟩
  simp [Instr.alloc, hv, newVar, newRow]
theorem box_ok {t : TypeId} {x : AV} {cs : List AV} {v : Value} (h : x.cells? = some cs) (hx : VRel κ H w (Stab κ H U) x v) : PrimOk P κ H w U (.new (.box t cs) none) ((do pure (.value (← Instr.box t v)) : Sem Next).run P w) := by
  refine ⟨.pointer (some ⟨w.heap.size, 0, none⟩), .cells v.cells t, 0, ?_, new_box (hx.cells_ok h).1, rfl⟩
  simp [Instr.box, newVar, newRow]

/-! ### Structs and literal slices -/
theorem foldl_splice (off : Nat) : ∀ (vs : List Value) (k : Nat) (cells : Array Value), off + k + vs.length ≤ cells.size →
    ((vs.zipIdx k).foldl (fun (cs : Array Value) (p : Value × Nat) => cs.setIfInBounds (off + p.2) p.1) cells).toList = splice cells.toList (off + k) vs
  | [], k, cells, h => by simp [splice]
  | v :: vs, k, cells, h => by
    simp only [List.zipIdx_cons, List.foldl_cons]
    rw [foldl_splice off vs (k + 1) _ (by simp at h ⊢; omega)]
    have hk : off + k < cells.toList.length := by simp at h ⊢; omega
    simp only [Array.toList_setIfInBounds, splice, List.length_cons]
    generalize cells.toList = l at hk
    apply List.ext_getElem?
    intro j
    simp only [List.getElem?_append, List.length_append, List.length_take, List.length_set, List.getElem?_take, List.getElem?_drop, List.getElem?_set, List.length_cons]
    have hmin : min (off + (k + 1)) l.length = off + k + 1 := by omega
    have hmin' : min (off + k) l.length = off + k := by omega
    rw [hmin, hmin']
    rcases Nat.lt_trichotomy j (off + k) with h1 | h1 | h1
    · simp [show j < off + k + 1 + vs.length by omega, show j < off + k + 1 by omega, show j < off + (k + 1) by omega, show off + k ≠ j by omega, h1, show j < off + k + (vs.length + 1) by omega]
    · subst h1
      simp [hk, show off + k < off + k + 1 + vs.length by omega, show off + k < off + k + (vs.length + 1) by omega, show off + k < off + (k + 1) by omega]
    · by_cases h2 : j < off + k + 1 + vs.length
      · have h3 : j < off + k + (vs.length + 1) := by omega
        obtain ⟨q, rfl⟩ : ∃ q, j = off + k + 1 + q := ⟨j - (off + k + 1), by omega⟩
        have e1 : off + k + 1 + q - (off + k + 1) = q := by omega
        have e2 : off + k + 1 + q - (off + k) = q + 1 := by omega
        simp [h2, h3, show ¬ off + k + 1 + q < off + k + 1 by omega, show ¬ off + k + 1 + q < off + k by omega, e1, e2]
      · have h3 : ¬ j < off + k + (vs.length + 1) := by omega
        obtain ⟨q, rfl⟩ : ∃ q, j = off + k + 1 + vs.length + q := ⟨j - (off + k + 1 + vs.length), by omega⟩
        have e3 : off + k + (vs.length + 1) + (off + k + 1 + vs.length + q - (off + k + (vs.length + 1))) = off + k + 1 + vs.length + q := by omega
        have e4 : off + (k + 1) + vs.length + (off + k + 1 + vs.length + q - (off + k + 1 + vs.length)) = off + k + 1 + vs.length + q := by omega
        simp only [h2, h3, if_false, e3, e4]
        simp [show ¬ off + k = off + k + 1 + vs.length + q by omega]
theorem parts_ok {env : Env} {a : Act} (he : EnvOk κ H w U env a) : ∀ {ps : List (Nat × Operand)} {vs : List (Nat × AV)}, parts env ps = some vs →
    vs.length = ps.length ∧ ∀ (i : Nat) (p : Nat × Operand) (v : Nat × AV), ps[i]? = some p → vs[i]? = some v → v.1 = p.1 ∧ VRel κ H w (Stab κ H U) v.2 (a.eval p.2)
  | [], vs, h => by simp only [parts, Option.some.injEq] at h; subst h; exact ⟨rfl, fun i p v hp _ => by simp at hp⟩
  | (n, x) :: r, vs, h => by
    simp only [parts] at h
    cases hx : opd env x with
    | none => simp [hx] at h
    | some v =>
      cases hr : parts env r with
      | none => simp [hx, hr] at h
      | some us =>
        simp only [hx, hr, Option.some.injEq] at h
        subst h
        obtain ⟨h1, h2⟩ := parts_ok he hr
        refine ⟨by simp [h1], fun i p v' hp hv => ?_⟩
        cases i with
        | zero => simp at hp hv; subst hp hv; exact ⟨rfl, opd_ok he hx⟩
        | succ i => simp at hp hv; exact h2 i p v' hp hv
theorem fillD_ok {S : Nat → Prop} {place : Nat → Option (Nat × Nat)} : ∀ {ps : List (Nat × AV)} {us : List (Nat × Value)} {cells r : List AV} {vs : Array Value}, fillD place cells ps = some r → VRels κ H w S cells vs.toList →
    (us.length = ps.length ∧ ∀ (i : Nat) (p : Nat × AV) (u : Nat × Value), ps[i]? = some p → us[i]? = some u → u.1 = p.1 ∧ VRel κ H w S p.2 u.2) →
    ∃ vs' : Array Value, Instr.fill place vs us = some vs' ∧ VRels κ H w S r vs'.toList ∧ vs'.size = vs.size
  | [], us, cells, r, vs, h, hr, hu => by
    simp only [fillD, Option.some.injEq] at h
    subst h
    obtain rfl : us = [] := List.eq_nil_of_length_eq_zero hu.1
    exact ⟨vs, rfl, hr, rfl⟩
  | (i, x) :: ps, us, cells, r, vs, h, hr, hu => by
    cases us with
    | nil => exact absurd hu.1 (by simp)
    | cons u us =>
      obtain ⟨hu1, hu2⟩ := hu.2 0 _ _ rfl rfl
      obtain ⟨j, v⟩ := u
      simp only at hu1 hu2
      subst hu1
      simp only [fillD] at h
      split at h
      · cases h
      · rename_i off n hpl
        split at h
        · rename_i cs hcs
          split at h
          · rename_i hc
            obtain ⟨hc1, hc2⟩ := hc
            obtain ⟨hv1, hv2⟩ := hu2.cells_ok hcs
            have hsz : v.cells.size = n := by have := hv1.1; rw [hc1] at this; simpa using this.symm
            have hcl : cells.length = vs.size := by simpa using hr.1
            have hfold := foldl_splice off v.cells.toList 0 vs (by simp; omega)
            have hz : v.cells.zipIdx.toList = v.cells.toList.zipIdx := by simp
            have hrel : VRels κ H w S (splice cells off cs) ((v.cells.zipIdx.foldl (fun (cs : Array Value) (p : Value × Nat) => cs.setIfInBounds (off + p.2) p.1) vs)).toList := by
              rw [← Array.foldl_toList, hz]
              rw [hfold, Nat.add_zero]
              exact hr.splice_ hv1 off
            obtain ⟨vs', h1, h2, h3⟩ := fillD_ok (place := place) (us := us) h hrel ⟨by simpa using hu.1, fun i p u hp hu' => hu.2 (i + 1) p u (by simpa using hp) (by simpa using hu')⟩
            refine ⟨vs', ?_, h2, ?_⟩
            · simp only [Instr.fill, hpl]
              rw [if_neg (by simp [hsz]; omega)]
              exact h1
            · rw [h3]
              have : (splice cells off cs).length = cells.length := by simp [splice]; omega
              have h4 := hrel.1
              rw [this] at h4
              simpa [hcl] using h4.symm
          · cases h
        · cases h
end
end Go.AE
