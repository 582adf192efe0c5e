/- The abstract evaluator: values handed over to a call and back. -/
import Derived.Test.YtlaldhmpoggkjaaGreatDoorAeOp14
set_option autoImplicit false
set_option linter.unusedVariables false
set_option linter.unusedSimpArgs false
namespace Go.AE
section
variable {P : Program} {κ κ' : Kp} {H H' : Heap} {w w' : World} {U : Nat → Prop}

/-- A value that refers to no object. -/
def PureRel (w : World) (S : Nat → Prop) (x : AV) (v : Value) : Prop := ∀ (κ : Kp) (H : Heap), VRel κ H w S x v
def PureRels (w : World) (S : Nat → Prop) (xs : List AV) (vs : List Value) : Prop :=
  xs.length = vs.length ∧ ∀ (i : Nat) (x : AV) (v : Value), xs[i]? = some x → vs[i]? = some v → PureRel w S x v
theorem PureRels.rels {S : Nat → Prop} {xs : List AV} {vs : List Value} (h : PureRels w S xs vs) (κ : Kp) (H : Heap) : VRels κ H w S xs vs := ⟨h.1, fun i x v hx hv => h.2 i x v hx hv κ H⟩
theorem PureRel.d {S : Nat → Prop} {x : D} {v : Value} (h : Rd w S x v) : PureRel w S (.d x) v := fun _ _ => .d x v h

/-- Which rows a later heap has frozen. -/
def FrozenAt (H H' : Heap) (fr : List Nat) : Prop := ∀ k ty sz xs fz, H[k]? = some (.arr ty sz xs fz) → ∃ fz', H'[k]? = some (.arr ty sz xs fz') ∧ (fz = true ∨ k ∈ fr → fz' = true)
theorem FrozenAt.mono {fr fr' : List Nat} (h : FrozenAt H H' fr) (hs : ∀ k ∈ fr', k ∈ fr) : FrozenAt H H' fr' := fun k ty sz xs fz hk => by
  obtain ⟨fz', h1, h2⟩ := h k ty sz xs fz hk
  exact ⟨fz', h1, fun hc => h2 (hc.imp id (hs k))⟩

theorem listM_ok {S : Nat → Prop} {f : AV → Option (AV × List Nat)} {R : AV → Value → Prop} {ALL : List Nat} (hf : ∀ c x fr v, f c = some (x, fr) → (∀ k ∈ fr, k ∈ ALL) → VRel κ H w S c v → R x v) :
    ∀ {cs xs : List AV} {fr : List Nat} {vs : List Value}, listM f cs = some (xs, fr) → (∀ k ∈ fr, k ∈ ALL) → VRels κ H w S cs vs → xs.length = vs.length ∧ ∀ (i : Nat) (x : AV) (v : Value), xs[i]? = some x → vs[i]? = some v → R x v
  | [], xs, fr, vs, h, hA, hv => by
    simp only [listM, Option.some.injEq, Prod.mk.injEq] at h
    obtain ⟨rfl, _⟩ := h
    exact ⟨hv.1, fun i x v hx _ => by simp at hx⟩
  | c :: cs, xs, fr, vs, h, hA, hv => by
    simp only [listM] at h
    split at h
    · rename_i x a hx
      split at h
      · rename_i ys b hys
        simp only [Option.some.injEq, Prod.mk.injEq] at h
        obtain ⟨rfl, rfl⟩ := h
        cases vs with
        | nil => exact absurd hv.1 (by simp)
        | cons v vs =>
          obtain ⟨h1, h2⟩ := listM_ok hf hys (fun k hk => hA k (List.mem_append_right _ hk)) (vs := vs) ⟨by simpa using hv.1, fun i c v hc hv' => hv.2 (i + 1) c v (by simpa using hc) (by simpa using hv')⟩
          have h0 := hf c x a v hx (fun k hk => hA k (List.mem_append_left _ hk)) (hv.2 0 _ _ rfl rfl)
          refine ⟨by simp [h1], fun i y u hy hu => ?_⟩
          cases i with
          | zero => simp at hy hu; subst hy hu; exact h0
          | succ i => simp at hy hu; exact h2 i y u hy hu
      · cases h
    · cases h

/-- Data, by value. -/
theorem toV1_ok (hh : HRel κ H w U) (hh' : HRel κ H' w U) (he : Ext κ H w κ H' w) {c x : AV} {fr : List Nat} {v : Value} (h : toV1 (get H) c = some (x, fr)) (hs : FrozenAt H H' fr) (hv : VRel κ H w (Stab κ H U) c v) :
    PureRel w (Stab κ H' U) x v := by
  unfold toV1 at h
  split at h
  · rename_i cs
    split at h
    · rename_i ds a hd
      simp only [Option.some.injEq, Prod.mk.injEq] at h
      obtain ⟨rfl, rfl⟩ := h
      obtain ⟨vs, rfl, hrs⟩ := hv.agg_inv
      obtain ⟨h1, h2⟩ := cellsD_ok hh hh' he hd hs hrs
      intro κ0 H0
      refine VRel.agg' ⟨by simpa using h1, fun i c u hc hu => ?_⟩
      simp only [List.getElem?_map, Option.map_eq_some_iff] at hc
      obtain ⟨d, hd', rfl⟩ := hc
      exact .d _ _ (h2 i d u hd' hu)
    · cases h
  · rename_i cs0
    simp only [Option.some.injEq, Prod.mk.injEq] at h
    obtain ⟨rfl, rfl⟩ := h
    cases hv with
    | dp b o cs f hS hb hcell hr =>
      intro κ0 H0
      exact .dp b o cs0 f (hS.on he hh.dom hb) hb hcell (fun i d hi => (hr i d hi).move (Nat.le_refl _) (fun _ _ _ => rfl) (fun b hb hbl => hb.on he hh.dom hbl))
  · split at h
    · rename_i d a hd
      simp only [Option.some.injEq, Prod.mk.injEq] at h
      obtain ⟨rfl, rfl⟩ := h
      exact PureRel.d (cellD_ok hh hh' he hd hs hv)
    · cases h
theorem toV_ok (hh : HRel κ H w U) (hh' : HRel κ H' w U) (he : Ext κ H w κ H' w) : ∀ {n : Nat} {c x : AV} {fr : List Nat} {v : Value}, toV (get H) n c = some (x, fr) → FrozenAt H H' fr → VRel κ H w (Stab κ H U) c v →
    PureRel w (Stab κ H' U) x v
  | 0, c, x, fr, v, h, hs, hv => toV1_ok hh hh' he h hs hv
  | n + 1, c, x, fr, v, h, hs, hv => by
    simp only [toV] at h
    have hl : ∀ {cs xs : List AV} {fr' : List Nat} {vs : List Value}, listM (toV (get H) n) cs = some (xs, fr') → (∀ k ∈ fr', k ∈ fr) → VRels κ H w (Stab κ H U) cs vs → PureRels w (Stab κ H' U) xs vs := fun h1 h2 h3 =>
      listM_ok (ALL := fr) (fun c x fr' v h hA hv => toV_ok hh hh' he h (hs.mono hA) hv) h1 h2 h3
    split at h
    · obtain ⟨⟨xs, fr'⟩, hx, he'⟩ := map_inv h
      simp only [Prod.mk.injEq] at he'
      obtain ⟨rfl, rfl⟩ := he'
      obtain ⟨vs, rfl, hrs⟩ := hv.fn_inv
      have := hl hx (fun k hk => hk) hrs
      exact fun κ0 H0 => .fn _ _ _ (by simpa using this.1) fun i c u hc hu => this.2 i c u hc (by simpa using hu) κ0 H0
    · obtain ⟨⟨xs, fr'⟩, hx, he'⟩ := map_inv h
      simp only [Prod.mk.injEq] at he'
      obtain ⟨rfl, rfl⟩ := he'
      obtain ⟨vs, rfl, hrs⟩ := hv.tup_inv
      have := hl hx (fun k hk => hk) hrs
      exact fun κ0 H0 => .tup _ _ (by simpa using this.1) fun i c u hc hu => this.2 i c u hc (by simpa using hu) κ0 H0
    · exact toV1_ok hh hh' he h hs hv
theorem freezeAll_at (H : Heap) (fr : List Nat) : FrozenAt H (freezeAll H fr) fr := freeze_same H fr
/-- Values whose rows alone are handed over by value. -/
theorem cellR_ok (hh : HRel κ H w U) (hh' : HRel κ H' w U) (he : Ext κ H w κ H' w) {c x : AV} {fr : List Nat} {v : Value} (h : cellR (get H) c = some (x, fr)) (hs : FrozenAt H H' fr) (hv : VRel κ H w (Stab κ H U) c v) :
    VRel κ H' w (Stab κ H' U) x v := by
  have hd : ∀ {p : D × List Nat}, cellD (get H) c = some p → x = .d p.1 → fr = p.2 → VRel κ H' w (Stab κ H' U) x v := by
    rintro ⟨d, f⟩ h1 rfl rfl
    exact .d _ _ (cellD_ok hh hh' he h1 hs hv)
  unfold cellR at h
  split at h
  all_goals first
    | (obtain ⟨p, h1, h2⟩ := map_inv h; simp only [Prod.mk.injEq] at h2; exact hd h1 h2.1.symm h2.2.symm)
    | (cases h; done)
    | (simp only [Option.some.injEq, Prod.mk.injEq] at h; obtain ⟨rfl, rfl⟩ := h; exact hv.on he hh.dom hh.lt)
theorem toR_ok (hh : HRel κ H w U) (hh' : HRel κ H' w U) (he : Ext κ H w κ H' w) {c x : AV} {fr : List Nat} {v : Value} (h : toR (get H) c = some (x, fr)) (hs : FrozenAt H H' fr) (hv : VRel κ H w (Stab κ H U) c v) :
    VRel κ H' w (Stab κ H' U) x v := by
  unfold toR at h
  split at h
  · obtain ⟨⟨xs, fr'⟩, hx, he'⟩ := map_inv h
    simp only [Prod.mk.injEq] at he'
    obtain ⟨rfl, rfl⟩ := he'
    obtain ⟨vs, rfl, hrs⟩ := hv.agg_inv
    have := listM_ok (R := fun x v => VRel κ H' w (Stab κ H' U) x v) (ALL := fr') (fun c x f v h hA hv => cellR_ok hh hh' he h (hs.mono hA) hv) hx (fun k hk => hk) hrs
    exact VRel.agg' this
  · exact cellR_ok hh hh' he h hs hv
theorem toRs_ok (hh : HRel κ H w U) (hh' : HRel κ H' w U) (he : Ext κ H w κ H' w) {c x : AV} {fr : List Nat} {v : Value} (h : toRs (get H) c = some (x, fr)) (hs : FrozenAt H H' fr) (hv : VRel κ H w (Stab κ H U) c v) :
    VRel κ H' w (Stab κ H' U) x v := by
  unfold toRs at h
  split at h
  · obtain ⟨⟨xs, fr'⟩, hx, he'⟩ := map_inv h
    simp only [Prod.mk.injEq] at he'
    obtain ⟨rfl, rfl⟩ := he'
    obtain ⟨vs, rfl, hrs⟩ := hv.tup_inv
    have := listM_ok (R := fun x v => VRel κ H' w (Stab κ H' U) x v) (ALL := fr') (fun c x f v h hA hv => toR_ok hh hh' he h (hs.mono hA) hv) hx (fun k hk => hk) hrs
    exact .tup _ _ (by simpa using this.1) fun i c u hc hu => this.2 i c u hc (by simpa using hu)
  · exact toR_ok hh hh' he h hs hv
/-- Scalars read nothing. -/
theorem scalar1_ok {S S' : Nat → Prop} {x : AV} {v : Value} (h : x.scalar1 = true) (hv : PureRel w S x v) : PureRel w S' x v := by
  have hd : ∀ {x : D} {v : Value}, x.scalar = true → Rd w S x v → Rd w S' x v := by
    intro x v hx hr
    cases hr with
    | sc v h1 => exact .sc v h1
    | _ => cases hx
  unfold AV.scalar1 at h
  split at h
  · have := hv (fun _ => none) []
    cases this with
    | d _ _ hr => exact PureRel.d (hd h hr)
  · rename_i cs
    have h0 := hv (fun _ => none) []
    obtain ⟨vs, rfl, hrs⟩ := h0.agg_inv
    intro κ0 H0
    refine VRel.agg' ⟨hrs.1, fun i c u hc hu => ?_⟩
    have hs := List.all_eq_true.1 h c (List.mem_of_getElem? hc)
    split at hs
    · have := hrs.2 i _ u hc hu
      cases this with
      | d _ _ hr => exact .d _ _ (hd hs hr)
    · cases hs
  · cases h
theorem scalar_ok {S S' : Nat → Prop} {x : AV} {v : Value} (h : x.scalar = true) (hv : PureRel w S x v) : PureRel w S' x v := by
  unfold AV.scalar at h
  split at h
  · rename_i cs
    have h0 := hv (fun _ => none) []
    obtain ⟨vs, rfl, hrs⟩ := h0.tup_inv
    intro κ0 H0
    refine .tup _ _ (by simpa using hrs.1) fun i c u hc hu => ?_
    have hs := List.all_eq_true.1 h c (List.mem_of_getElem? hc)
    exact scalar1_ok (S := S) hs (fun κ1 H1 => ((hv κ1 H1).tup_inv.elim fun vs' hv' => by
      obtain ⟨he, hr⟩ := hv'
      injection he with he
      subst he
      exact hr.2 i c u hc (by simpa using hu))) κ0 H0
  · exact scalar1_ok h hv
end
end Go.AE
