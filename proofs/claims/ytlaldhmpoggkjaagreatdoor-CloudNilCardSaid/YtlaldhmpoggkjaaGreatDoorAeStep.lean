/- The abstract evaluator: one operation of a region. -/
import Derived.Test.YtlaldhmpoggkjaaGreatDoorAeCall3
set_option autoImplicit false
set_option linter.unusedVariables false
set_option linter.unusedSimpArgs false
namespace Go.AE
section
variable {P : Program} {κ κ' : Kp} {H H' : Heap} {w w' : World} {U : Nat → Prop}

theorem Ext.pushed (κ : Kp) (H : Heap) (w : World) {ob : Obj} (hp : Plain ob) (n : Nat) : Ext κ H w κ H { w with heap := w.heap.push ob, drawn := w.drawn + n } where
  os := rfl
  tape := rfl
  output := rfl
  size := by simp
  keep := fun b hb _ => getElem?_push_old _ _ _ hb
  shape := fun b hb => by simp only [World.shape?]; rw [getElem?_push_old _ _ _ hb]
  len := Nat.le_refl _
  objs := fun k o h => ⟨o, h, .refl o⟩
  old := fun _ _ _ h _ _ => h
  oldA := fun _ _ _ _ _ _ _ _ _ _ => rfl
  new := fun _ _ h => .inl h
  frz := frozen_push w hp n
theorem HRel.pushed (h : HRel κ H w U) {ob : Obj} (hp : Plain ob) (n : Nat) : HRel κ H { w with heap := w.heap.push ob, drawn := w.drawn + n } U :=
  h.mk' (.pushed κ H w hp n) h.dom (fun k g hk => by have := h.lt k g hk; simp; omega) h.inj (fun k g o hk ho => .inl ⟨hk, ho, getElem?_push_old _ _ _ (h.lt k g hk)⟩)

def newAV (len : Nat) (o : AO) : Option Nat → AV
  | none => match o with
    | .mp _ => .mp len
    | _ => .ptr len 0
  | some m => match o with
    | .box _ _ => .bsl len m
    | _ => .osl len m
/-- A new object. -/
theorem new_ok (h : HRel κ H w U) {o : AO} {ln : Option Nat} {ob : Obj} {u : Value} {n : Nat} (ho : ObjIs κ H w (Stab κ H U) o ob) (hv : NewVal w.heap.size o ob u ln) :
    HRel (upd κ H.length w.heap.size) (H ++ [o]) { w with heap := w.heap.push ob, drawn := w.drawn + n } U ∧ Ext κ H w (upd κ H.length w.heap.size) (H ++ [o]) { w with heap := w.heap.push ob, drawn := w.drawn + n } ∧ Dead κ H (upd κ H.length w.heap.size) (H ++ [o]) ∧
      VRel (upd κ H.length w.heap.size) (H ++ [o]) { w with heap := w.heap.push ob, drawn := w.drawn + n } (Stab (upd κ H.length w.heap.size) (H ++ [o]) U) (newAV H.length o ln) u := by
  let w1 : World := { w with drawn := w.drawn + n }
  have h1 : HRel κ H w1 U := h.same_heap rfl rfl rfl rfl
  have he1 : Ext κ H w κ H w1 := .same_heap κ H rfl rfl rfl rfl
  have hp : Plain ob := by
    cases o with
    | box ty cs => obtain ⟨vs, rfl, _⟩ := ho; exact plain_cells _ _
    | arr ty sz xs fz => obtain ⟨_, vs, rfl, _⟩ := ho; exact plain_cells _ _
    | mp es => obtain ⟨_, rfl⟩ := ho; exact plain_map _ _
    | gone => exact ho.elim
  have he := Ext.alloc h1 o ob hp
  have hor : ORel (upd κ H.length w1.heap.size) (H ++ [o]) { w1 with heap := w1.heap.push ob } (Stab (upd κ H.length w1.heap.size) (H ++ [o]) U) o w1.heap.size := by
    cases o with
    | box ty cs =>
      obtain ⟨vs, rfl, hr⟩ := ho
      exact ⟨vs, Array.getElem?_push_size, (hr.on he1 h.dom h.lt).on he h1.dom h1.lt⟩
    | arr ty sz xs fz =>
      obtain ⟨_, vs, rfl, q1, q2, q3, q4⟩ := ho
      exact ⟨vs, Array.getElem?_push_size, q1, q2, q3, fun j cs i d v hj hi hv => ((q4 j cs i d v hj hi hv).move he1.size (fun _ _ _ => rfl) (fun _ h _ => h)).move he.size (fun b hb hbl => he.keep b hbl hb.2) (fun b hb hbl => hb.on he h1.dom hbl)⟩
    | mp es =>
      obtain ⟨rfl, rfl⟩ := ho
      exact ⟨#[], 0, Array.getElem?_push_size, ⟨by simp, by simp⟩, rfl, fun i e m hi _ => by simp at hi⟩
    | gone => exact ho.elim
  refine ⟨h1.alloc o ob hp hor, he1.trans he h.dom, .push o, ?_⟩
  have hg : (H ++ [o])[H.length]? = some o := by simp
  cases ln with
  | none =>
    cases o with
    | box ty cs => obtain rfl := hv; exact .ptr _ _ _ ty cs (upd_same _ _ _) hg
    | mp es => obtain rfl := hv; exact .mp _ _ es (upd_same _ _ _) hg
    | arr ty sz xs fz => exact hv.elim
    | gone => exact hv.elim
  | some m =>
    cases o with
    | arr ty sz xs fz =>
      obtain ⟨q1, cap, rfl, q2, q3, vs, ty', rfl, q4⟩ := hv
      exact .osl _ _ _ _ ty sz xs fz hg (by omega) fun _ => .inr ⟨w.heap.size, cap, ty', vs.size, upd_same _ _ _, rfl, q2, q3, shape_push w1 vs ty' (0, 0), q4⟩
    | box ty cs => obtain rfl := hv; exact .bsl _ _ _ ty cs (upd_same _ _ _) hg
    | mp es => exact hv.elim
    | gone => exact hv.elim

/-- One operation: what the evaluator says of it is so. -/
theorem prim_step {C : Cfg} {callE : CallE} (hs : Sound C.P callE) (hh : HRel κ H w U) {e : Eff} {r : Result Next} (hp : PrimOk C.P κ (freezeAll H e.frz) w U e.act r) {v : AV} (ha : apply C callE H e = some (v, H'))
    {o : Oper} {a : Act} {next : Act → World → Prop} {Q : Exit → Act → World → Prop}
    (hn : ∀ κ' w' u, HRel κ' H' w' U → Ext κ H w κ' H' w' → Dead κ H κ' H' → VRel κ' H' w' (Stab κ' H' U) v u → next (a.put o.dst u) w') : o.upon C.P a next Q r := by
  have hF := freezeAll_rel e.frz H hh
  have hD := Dead.freezeAll κ e.frz H
  unfold apply at ha
  obtain ⟨frz, act⟩ := e
  cases act with
  | ret x =>
    simp only [Option.some.injEq, Prod.mk.injEq] at ha
    obtain ⟨rfl, rfl⟩ := ha
    obtain ⟨u, rfl, hv⟩ := hp
    exact hn κ w u hF.1 hF.2 hD hv
  | lit x =>
    simp only [Option.some.injEq, Prod.mk.injEq] at ha
    obtain ⟨rfl, rfl⟩ := ha
    obtain ⟨u, ob, n, rfl, hv, hpl⟩ := hp
    exact hn κ _ u (hF.1.pushed hpl n) (hF.2.trans (.pushed _ _ _ hpl n) hh.dom) hD hv
  | new x ln =>
    obtain ⟨u, ob, n, rfl, ho, hv⟩ := hp
    have hg : H' = freezeAll H frz ++ [x] ∧ v = newAV (freezeAll H frz).length x ln := by
      rw [freezeAll_length]
      cases ln with
      | none => simp only [Option.some.injEq, Prod.mk.injEq] at ha; exact ⟨ha.2.symm, ha.1.symm.trans (by cases x <;> rfl)⟩
      | some m => simp only [Option.some.injEq, Prod.mk.injEq] at ha; exact ⟨ha.2.symm, ha.1.symm.trans (by cases x <;> rfl)⟩
    obtain ⟨rfl, rfl⟩ := hg
    obtain ⟨q1, q2, q3, q4⟩ := new_ok (n := n) hF.1 ho hv
    exact hn _ _ u q1 (hF.2.trans q2 hh.dom) (hD.trans q3) q4
  | wr k x y =>
    simp only [Option.some.injEq, Prod.mk.injEq] at ha
    obtain ⟨rfl, rfl⟩ := ha
    obtain ⟨κ', w', u, hr, q1, q2, q3, q4⟩ := hp
    have := hn κ' w' u q1 (hF.2.trans q2 hh.dom) (hD.trans q4) q3
    rcases hr with rfl | ⟨rfl, rfl⟩
    · exact this
    · exact this
  | call f args =>
    obtain ⟨vals, rfl, hvs⟩ := hp
    exact doCall_sound hs f args _ v H' ha κ w U vals hF.1 hvs o a next Q fun u w' hpost => by
      obtain ⟨κ', q1, q2, q3, q4⟩ := hpost
      exact hn κ' w' u q1 (hF.2.trans q2 hh.dom) (hD.trans q3) q4
end
end Go.AE
