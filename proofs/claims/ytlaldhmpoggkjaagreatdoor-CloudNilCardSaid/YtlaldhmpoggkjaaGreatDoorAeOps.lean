/- The abstract evaluator: each operation of the machine comes to what the evaluator says of it. -/
import Derived.Test.YtlaldhmpoggkjaaGreatDoorAeHeap
import Derived.WalkKit
import Derived.Lib.Strings
set_option autoImplicit false
set_option linter.unusedVariables false
set_option linter.unusedSimpArgs false
namespace Go.AE

section
variable {P : Program} {κ : Kp} {H H' : Heap} {w : World} {U : Nat → Prop}

def EnvOk (κ : Kp) (H : Heap) (w : World) (U : Nat → Prop) (env : Env) (a : Act) : Prop :=
  ∀ t v, lookup env t = some v → ∃ u, a.tmps[t]? = some u ∧ VRel κ H w (Stab κ H U) v u

theorem VRel.sc {S : Nat → Prop} (v : Value) (h1 : v.oneCell' = true := by rfl) : VRel κ H w S (.sc v) v := .d _ _ (.sc v h1)
theorem VRel.sc_inv {S : Nat → Prop} {v u : Value} (h : VRel κ H w S (.d (.sc v)) u) : u = v := by
  cases h with
  | d _ _ h => cases h with | sc v => rfl
theorem constAV_ok {S : Nat → Prop} {v : Value} {x : AV} (h : constAV v = some x) : VRel κ H w S x v := by
  cases v with
  | agg cs =>
    simp only [constAV] at h
    split at h
    · rename_i hall
      injection h with h
      subst h
      refine .agg _ _ (by simp) fun i c v hc hv => ?_
      simp only [List.getElem?_map, Option.map_eq_some_iff] at hc
      obtain ⟨u, hu, rfl⟩ := hc
      have : u = v := by
        have h1 : cs.toList[i]? = cs[i]? := by simp
        rw [h1, hv] at hu; injection hu with hu; exact hu.symm
      subst this
      exact .sc _ (List.all_eq_true.1 hall _ (List.mem_of_getElem? hu))
    · cases h
  | tuple vs => simp [constAV] at h
  | func fn a c =>
    cases fn with
    | func g =>
      simp only [constAV] at h
      split at h
      · rename_i hz
        injection h with h
        subst h
        obtain rfl : a = #[] := Array.size_eq_zero_iff.1 hz.1
        obtain rfl : c = #[] := Array.size_eq_zero_iff.1 hz.2
        exact .fn g [] #[] rfl (fun i c v hc _ => by simp at hc)
      · cases h
    | _ => simp [constAV] at h
  | _ => simp only [constAV, Option.some.injEq] at h; subst h; exact .sc _
theorem opd_ok {env : Env} {a : Act} {x : Operand} {v : AV} (he : EnvOk κ H w U env a) (h : opd env x = some v) : VRel κ H w (Stab κ H U) v (a.eval x) := by
  cases x with
  | tmp t =>
    obtain ⟨u, hu, hv⟩ := he t v h
    have : a.eval (.tmp t) = u := by simp [Act.eval, Array.getD_eq_getD_getElem?, hu]
    rw [this]; exact hv
  | const c => exact constAV_ok h
  | global g => simp [opd] at h
  | func f =>
    simp only [opd, Option.some.injEq] at h
    subst h
    exact .fn f [] #[] rfl (fun i c v hc _ => by simp at hc)
theorem opds_ok {env : Env} {a : Act} (he : EnvOk κ H w U env a) : ∀ {xs : List Operand} {vs : List AV}, opds env xs = some vs → VRels κ H w (Stab κ H U) vs (xs.map a.eval)
  | [], vs, h => by simp only [opds, Option.some.injEq] at h; subst h; exact ⟨rfl, fun i c v hc _ => by simp at hc⟩
  | x :: r, vs, h => by
    simp only [opds] at h
    cases hx : opd env x with
    | none => simp [hx] at h
    | some v =>
      cases hr : opds env r with
      | none => simp [hx, hr] at h
      | some us =>
        simp only [hx, hr, Option.some.injEq] at h
        subst h
        have h1 := opd_ok he hx
        have h2 := opds_ok he hr
        refine ⟨by simp [h2.1], fun i c u hc hu => ?_⟩
        cases i with
        | zero => simp at hc hu; subst hc hu; exact h1
        | succ i => simp at hc hu; exact h2.2 i c u hc (by simpa using hu)

theorem VRels.nil {S : Nat → Prop} : VRels κ H w S [] [] := ⟨rfl, fun i c v hc _ => by simp at hc⟩
theorem VRels.cons {S : Nat → Prop} {x : AV} {v : Value} {xs : List AV} {vs : List Value} (h : VRel κ H w S x v) (hs : VRels κ H w S xs vs) : VRels κ H w S (x :: xs) (v :: vs) :=
  ⟨by simp [hs.1], fun i c u hc hu => by
    cases i with
    | zero => simp at hc hu; subst hc hu; exact h
    | succ i => simp at hc hu; exact hs.2 i c u hc hu⟩
theorem VRels.append {S : Nat → Prop} {xs ys : List AV} {vs us : List Value} (h : VRels κ H w S xs vs) (k : VRels κ H w S ys us) : VRels κ H w S (xs ++ ys) (vs ++ us) :=
  ⟨by simp [h.1, k.1], fun i c v hc hv => by
    rcases Nat.lt_or_ge i xs.length with hi | hi
    · rw [List.getElem?_append_left hi] at hc
      rw [List.getElem?_append_left (by rw [← h.1]; exact hi)] at hv
      exact h.2 i c v hc hv
    · rw [List.getElem?_append_right hi] at hc
      rw [List.getElem?_append_right (by rw [← h.1]; exact hi), ← h.1] at hv
      exact k.2 _ c v hc hv⟩
theorem VRels.take_ {S : Nat → Prop} {xs : List AV} {vs : List Value} (h : VRels κ H w S xs vs) (n : Nat) : VRels κ H w S (xs.take n) (vs.take n) :=
  ⟨by simp [h.1], fun i c v hc hv => by
    simp only [List.getElem?_take] at hc hv
    split at hc
    · rename_i hi; rw [if_pos hi] at hv; exact h.2 i c v hc hv
    · cases hc⟩
theorem VRels.drop_ {S : Nat → Prop} {xs : List AV} {vs : List Value} (h : VRels κ H w S xs vs) (n : Nat) : VRels κ H w S (xs.drop n) (vs.drop n) :=
  ⟨by simp [h.1], fun i c v hc hv => by
    simp only [List.getElem?_drop] at hc hv
    exact h.2 _ c v hc hv⟩
theorem VRels.splice_ {S : Nat → Prop} {xs ys : List AV} {vs us : List Value} (h : VRels κ H w S xs vs) (k : VRels κ H w S ys us) (n : Nat) : VRels κ H w S (splice xs n ys) (splice vs n us) := by
  unfold splice
  rw [k.1]
  exact ((h.take_ n).append k).append (h.drop_ _)
theorem VRels.get {S : Nat → Prop} {xs : List AV} {vs : List Value} (h : VRels κ H w S xs vs) {i : Nat} {c : AV} (hc : xs[i]? = some c) : ∃ v, vs[i]? = some v ∧ VRel κ H w S c v := by
  have hlt : i < xs.length := (List.getElem?_eq_some_iff.1 hc).1
  have : i < vs.length := by rw [← h.1]; exact hlt
  exact ⟨vs[i], List.getElem?_eq_getElem this, h.2 i c _ hc (List.getElem?_eq_getElem this)⟩
theorem VRel.agg_inv {S : Nat → Prop} {cs : List AV} {v : Value} (h : VRel κ H w S (.agg cs) v) : ∃ vs : Array Value, v = .agg vs ∧ VRels κ H w S cs vs.toList := by
  cases h with
  | agg _ vs hl h => exact ⟨vs, rfl, by simpa using hl, fun i c v hc hv => h i c v hc (by simpa using hv)⟩
theorem VRel.tup_inv {S : Nat → Prop} {cs : List AV} {v : Value} (h : VRel κ H w S (.tup cs) v) : ∃ vs : Array Value, v = .tuple vs ∧ VRels κ H w S cs vs.toList := by
  cases h with
  | tup _ vs hl h => exact ⟨vs, rfl, by simpa using hl, fun i c v hc hv => h i c v hc (by simpa using hv)⟩
theorem VRel.fn_inv {S : Nat → Prop} {f : FuncId} {cs : List AV} {v : Value} (h : VRel κ H w S (.fn f cs) v) : ∃ vs : Array Value, v = .func (.func f) #[] vs ∧ VRels κ H w S cs vs.toList := by
  cases h with
  | fn _ _ vs hl h => exact ⟨vs, rfl, by simpa using hl, fun i c v hc hv => h i c v hc (by simpa using hv)⟩
theorem VRel.of_agg {S : Nat → Prop} {cs : List AV} {vs : List Value} (h : VRels κ H w S cs vs) : VRel κ H w S (.agg cs) (.agg vs.toArray) :=
  .agg cs _ (by simpa using h.1) fun i c v hc hv => h.2 i c v hc (by simpa using hv)
theorem VRel.of_tup {S : Nat → Prop} {cs : List AV} {vs : List Value} (h : VRels κ H w S cs vs) : VRel κ H w S (.tup cs) (.tuple vs.toArray) :=
  .tup cs _ (by simpa using h.1) fun i c v hc hv => h.2 i c v hc (by simpa using hv)
theorem VRel.one_ok {S : Nat → Prop} {x : AV} {v : Value} (h : VRel κ H w S x v) (hx : x.cell1 = true) : v.oneCell' = true := by
  cases h with
  | d x v h =>
    cases h with
    | sc v h1 => exact h1
    | _ => rfl
  | agg _ _ _ _ => cases hx
  | tup _ _ _ _ => cases hx
  | un => cases hx
  | _ => rfl
theorem oneCell_cells {v : Value} (h : v.oneCell' = true) : v.cells = #[v] := by
  cases v <;> simp_all [Value.oneCell', Value.cells]
/-- The cells of a value. -/
theorem VRel.cells_ok {S : Nat → Prop} {x : AV} {v : Value} {cs : List AV} (h : VRel κ H w S x v) (hc : x.cells? = some cs) :
    VRels κ H w S cs v.cells.toList ∧ ∀ u ∈ v.cells.toList, u.oneCell' = true := by
  have key : ∀ (cs : List AV) (vs : List Value), VRels κ H w S cs vs → cs.all AV.cell1 = true → ∀ u ∈ vs, u.oneCell' = true := by
    intro cs vs hr hall u hu
    obtain ⟨i, hi, hiu⟩ := List.getElem_of_mem hu
    have hi' : i < cs.length := by rw [hr.1]; exact hi
    exact (hr.2 i _ u (List.getElem?_eq_getElem hi') (by rw [List.getElem?_eq_getElem hi, hiu])).one_ok (List.all_eq_true.1 hall _ (List.getElem_mem _))
  by_cases ha : ∃ l, x = .agg l
  · obtain ⟨l, rfl⟩ := ha
    obtain ⟨vs, rfl, hr⟩ := h.agg_inv
    simp only [AV.cells?] at hc
    split at hc
    · rename_i hall
      injection hc with hc
      subst hc
      exact ⟨hr, key _ _ hr hall⟩
    · cases hc
  · have hx : x.cell1 = true ∧ cs = [x] := by
      cases x <;> first
        | exact absurd ⟨_, rfl⟩ ha
        | (simp only [AV.cells?] at hc; split at hc <;> first | (rename_i h1; injection hc with hc; exact ⟨h1, hc.symm⟩) | cases hc)
    obtain ⟨h1, rfl⟩ := hx
    have h2 := h.one_ok h1
    rw [oneCell_cells h2]
    exact ⟨.cons h .nil, fun u hu => by simp at hu; subst hu; exact h2⟩
end
end Go.AE
