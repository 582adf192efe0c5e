/- The abstract evaluator: what becomes of the relation where an object is made, written, moved or frozen. -/
import Derived.Test.YtlaldhmpoggkjaaGreatDoorAeRel
set_option autoImplicit false
set_option linter.unusedVariables false
set_option linter.unusedSimpArgs false
namespace Go.AE

def upd (κ : Kp) (k g : Nat) : Kp := fun j => if j = k then some g else κ j
theorem upd_same (κ : Kp) (k g : Nat) : upd κ k g k = some g := by simp [upd]
theorem upd_ne (κ : Kp) {k g j : Nat} (h : j ≠ k) : upd κ k g j = κ j := by simp [upd, h]

/-- Boxes that the machine has not made yet stay so. -/
def Dead (κ : Kp) (H : Heap) (κ' : Kp) (H' : Heap) : Prop := ∀ (k : Nat) (ty : TypeId) (cs : List AV), κ k = none → H[k]? = some (.box ty cs) → κ' k = none ∧ H'[k]? = some (.box ty cs)
theorem Dead.refl (κ : Kp) (H : Heap) : Dead κ H κ H := fun _ _ _ h1 h2 => ⟨h1, h2⟩
theorem Dead.trans {κ κ' κ'' : Kp} {H H' H'' : Heap} (h : Dead κ H κ' H') (k : Dead κ' H' κ'' H'') : Dead κ H κ'' H'' := fun j ty cs h1 h2 =>
  k j ty cs (h j ty cs h1 h2).1 (h j ty cs h1 h2).2
/-- One object is set: no box that is not made. -/
theorem Dead.set {κ κ' : Kp} {H : Heap} {k : Nat} {o o' : AO} (ho : H[k]? = some o) (hk : κ k ≠ none ∨ ∀ ty cs, o ≠ .box ty cs) (hne : ∀ j, j ≠ k → κ' j = κ j) : Dead κ H κ' (H.set k o') := by
  intro j ty cs h1 h2
  have e : j ≠ k := by
    rintro rfl
    rcases hk with hk | hk
    · exact hk h1
    · rw [ho] at h2; injection h2 with h2; exact hk _ _ h2
  exact ⟨(hne j e).trans h1, by rw [List.getElem?_set_ne (Ne.symm e)]; exact h2⟩
theorem Dead.push {κ : Kp} {H : Heap} {g : Nat} (o : AO) : Dead κ H (upd κ H.length g) (H ++ [o]) := by
  intro j ty cs h1 h2
  have hlt : j < H.length := (List.getElem?_eq_some_iff.1 h2).1
  exact ⟨by rw [upd_ne _ (Nat.ne_of_lt hlt)]; exact h1, by rw [List.getElem?_append_left hlt]; exact h2⟩
/-- A block none of whose cells is frozen. -/
def Plain (ob : Obj) : Prop := ∀ c t f, ob = .cells c t f → f = (0, 0)
theorem plain_cells (c : Array Value) (t : TypeId) : Plain (.cells c t (0, 0)) := fun _ _ _ h => by injection h with _ _ h; exact h.symm
theorem plain_map (es : Array MapEntry) (c : Nat) : Plain (.map es c) := fun _ _ _ h => by cases h
theorem frozen_push (w : World) {ob : Obj} (h : Plain ob) (n : Nat) (a : Addr) : ({ w with heap := w.heap.push ob, drawn := w.drawn + n } : World).frozen? a = w.frozen? a := by
  unfold World.frozen?
  simp only [Array.getElem?_push]
  by_cases e : a.block = w.heap.size
  · rw [if_pos e]
    have hn : w.heap[a.block]? = none := by rw [e]; simp
    rw [hn]
    cases ob with
    | cells c t f => obtain rfl := h _ _ _ rfl; simp
    | _ => rfl
  · rw [if_neg e]
theorem frozen_set (w : World) {g : Nat} {ob ob' : Obj} (hob : w.heap[g]? = some ob) (hs : ∀ c e f, ob = .cells c e f → ∃ c', ob' = .cells c' e f ∧ c'.size = c.size) (hs' : ∀ c e f, ob' = .cells c e f → ∃ c', ob = .cells c' e f) (a : Addr) :
    ({ w with heap := w.heap.setIfInBounds g ob' } : World).frozen? a = w.frozen? a := by
  unfold World.frozen?
  simp only [Array.getElem?_setIfInBounds]
  by_cases e : g = a.block
  · subst e
    have hlt : a.block < w.heap.size := (Array.getElem?_eq_some_iff.1 hob).1
    rw [if_pos rfl, if_pos hlt, hob]
    cases ob with
    | cells c t f => obtain ⟨c', rfl, _⟩ := hs _ _ _ rfl; rfl
    | _ =>
      cases ob' with
      | cells c t f => obtain ⟨_, h1⟩ := hs' _ _ _ rfl; cases h1
      | _ => rfl
  · rw [if_neg e]
section
variable {κ κ' : Kp} {H H' : Heap} {w w' : World} {U : Nat → Prop}

/-- The heap's relation anew: what is touched is told, all else is as it was. -/
theorem HRel.mk' (h : HRel κ H w U) (he : Ext κ H w κ' H' w') (dom : ∀ k g, κ' k = some g → k < H'.length) (lt : ∀ k g, κ' k = some g → g < w'.heap.size)
    (inj : ∀ k k' g, κ' k = some g → κ' k' = some g → k = k')
    (obj : ∀ (k g : Nat) (o : AO), κ' k = some g → H'[k]? = some o → (κ k = some g ∧ H[k]? = some o ∧ w'.heap[g]? = w.heap[g]?) ∨ ORel κ' H' w' (Stab κ' H' U) o g) : HRel κ' H' w' U where
  dom := dom
  lt := lt
  inU := fun k g hk => by
    rcases he.new k g hk with h1 | h1
    · exact h.inU k g h1
    · exact h.newU g h1
  newU := fun b hb => h.newU b (Nat.le_trans he.size hb)
  inj := inj
  obj := fun k g o hk ho => by
    rcases obj k g o hk ho with ⟨h1, h2, h3⟩ | h1
    · exact (h.obj k g o h1 h2).on he h.dom h.lt h3
    · exact h1

theorem HRel.none_at (h : HRel κ H w U) {k : Nat} (hk : H.length ≤ k) : κ k = none := by
  cases hc : κ k with
  | none => rfl
  | some g => have := h.dom k g hc; omega

/-! ### Orders drawn -/
theorem Ext.same_heap (κ : Kp) (H : Heap) (ho : w'.os = w.os) (ht : w'.tape = w.tape) (hout : w'.output = w.output) (hh : w'.heap = w.heap) : Ext κ H w κ H w' where
  os := ho
  tape := ht
  output := hout
  size := by rw [hh]; exact Nat.le_refl _
  keep := fun b _ _ => by rw [hh]
  shape := fun b _ => by simp [World.shape?, hh]
  len := Nat.le_refl _
  objs := fun k o h => ⟨o, h, .refl o⟩
  old := fun _ _ _ h _ _ => h
  oldA := fun _ _ _ _ _ _ _ _ _ _ => rfl
  new := fun _ _ h => .inl h
  frz := fun a => by simp [World.frozen?, hh]
theorem HRel.same_heap (h : HRel κ H w U) (ho : w'.os = w.os) (ht : w'.tape = w.tape) (hout : w'.output = w.output) (hh : w'.heap = w.heap) : HRel κ H w' U :=
  h.mk' (.same_heap κ H ho ht hout hh) h.dom (fun k g hk => by rw [hh]; exact h.lt k g hk) h.inj (fun k g o hk ho' => .inl ⟨hk, ho', by rw [hh]⟩)

/-! ### A new object -/
theorem getElem?_push_old (a : Array Obj) (o : Obj) (b : Nat) (hb : b < a.size) : (a.push o)[b]? = a[b]? := by
  rw [Array.getElem?_push]; simp [Nat.ne_of_lt hb]
theorem Ext.alloc (h : HRel κ H w U) (o : AO) (obj : Obj) (hp : Plain obj) : Ext κ H w (upd κ H.length w.heap.size) (H ++ [o]) { w with heap := w.heap.push obj } where
  os := rfl
  tape := rfl
  output := rfl
  size := by simp
  keep := fun b hb _ => getElem?_push_old _ _ _ hb
  shape := fun b hb => by simp only [World.shape?]; rw [getElem?_push_old _ _ _ hb]
  len := by simp
  objs := fun k o' ho' => ⟨o', by
    have hlt : k < H.length := (List.getElem?_eq_some_iff.1 ho').1
    rw [List.getElem?_append_left hlt]; exact ho', .refl o'⟩
  old := fun k g o' hk _ _ => by rw [upd_ne _ (Nat.ne_of_lt (h.dom k g hk))]; exact hk
  oldA := fun k ty sz xs fz xs' fz' ho' _ _ => by
    have hlt : k < H.length := (List.getElem?_eq_some_iff.1 ho').1
    exact upd_ne _ (Nat.ne_of_lt hlt)
  new := fun k g hk => by
    by_cases e : k = H.length
    · subst e; rw [upd_same] at hk; injection hk with hk; exact .inr (Nat.le_of_eq hk)
    · rw [upd_ne _ e] at hk; exact .inl hk
  frz := frozen_push w hp 0
theorem HRel.alloc (h : HRel κ H w U) (o : AO) (obj : Obj) (hp : Plain obj)
    (ho : ORel (upd κ H.length w.heap.size) (H ++ [o]) { w with heap := w.heap.push obj } (Stab (upd κ H.length w.heap.size) (H ++ [o]) U) o w.heap.size) :
    HRel (upd κ H.length w.heap.size) (H ++ [o]) { w with heap := w.heap.push obj } U := by
  refine h.mk' (.alloc h o obj hp) (fun k g hk => ?_) (fun k g hk => ?_) (fun k k' g hk hk' => ?_) (fun k g o' hk ho' => ?_)
  · by_cases e : k = H.length
    · subst e; simp
    · rw [upd_ne _ e] at hk; have := h.dom k g hk; simp; omega
  · by_cases e : k = H.length
    · subst e; rw [upd_same] at hk; injection hk with hk; simp; omega
    · rw [upd_ne _ e] at hk; have := h.lt k g hk; simp; omega
  · by_cases e : k = H.length <;> by_cases e' : k' = H.length
    · exact e.trans e'.symm
    · subst e; rw [upd_same] at hk; rw [upd_ne _ e'] at hk'; injection hk with hk; have := h.lt k' g hk'; omega
    · subst e'; rw [upd_same] at hk'; rw [upd_ne _ e] at hk; injection hk' with hk'; have := h.lt k g hk; omega
    · rw [upd_ne _ e] at hk; rw [upd_ne _ e'] at hk'; exact h.inj k k' g hk hk'
  · by_cases e : k = H.length
    · subst e
      rw [upd_same] at hk; injection hk with hk; subst hk
      have : o' = o := by simpa using ho'.symm
      subst this
      exact .inr ho
    · rw [upd_ne _ e] at hk
      have hlt := h.dom k g hk
      rw [List.getElem?_append_left hlt] at ho'
      exact .inl ⟨hk, ho', getElem?_push_old _ _ _ (h.lt k g hk)⟩

/-! ### An object written in place -/
theorem Mut.of_mut {k g : Nat} {o : AO} (hk : κ k = some g) (ho : H[k]? = some o) (hm : o.mut = true) : Mut κ H g := ⟨k, o, hk, ho, hm⟩
theorem Ext.write (h : HRel κ H w U) {k g : Nat} {o o' : AO} {ob ob' : Obj} (hk : κ k = some g) (ho : H[k]? = some o) (hm : o.mut = true) (hl : o.later o')
    (hob : w.heap[g]? = some ob) (hs : ∀ c e f, ob = .cells c e f → ∃ c', ob' = .cells c' e f ∧ c'.size = c.size) (hs' : ∀ c e f, ob' = .cells c e f → ∃ c', ob = .cells c' e f) :
    Ext κ H w κ (H.set k o') { w with heap := w.heap.setIfInBounds g ob' } where
  os := rfl
  tape := rfl
  output := rfl
  size := by simp
  keep := fun b hb hn => by
    have : g ≠ b := fun e => hn (e ▸ Mut.of_mut hk ho hm)
    simp [Array.getElem?_setIfInBounds, this]
  shape := fun b hb => by
    by_cases e : g = b
    · subst e
      have hlt := h.lt k g hk
      simp only [World.shape?, hob]
      rw [Array.getElem?_setIfInBounds_self_of_lt (by exact hlt)]
      cases ob with
      | cells c e f =>
        obtain ⟨c', rfl, hsz⟩ := hs _ _ _ rfl
        simp [hsz]
      | _ =>
        cases ob' with
        | cells c e f => obtain ⟨_, h1⟩ := hs' _ _ _ rfl; cases h1
        | _ => rfl
    · simp [World.shape?, Array.getElem?_setIfInBounds, e]
  len := by simp
  objs := fun j o1 ho1 => by
    by_cases e : j = k
    · subst e
      rw [ho] at ho1; injection ho1 with ho1; subst ho1
      have hlt : j < H.length := (List.getElem?_eq_some_iff.1 ho).1
      exact ⟨o', by simp [hlt], hl⟩
    · exact ⟨o1, by rw [List.getElem?_set_ne (Ne.symm e)]; exact ho1, .refl o1⟩
  old := fun _ _ _ h _ _ => h
  oldA := fun _ _ _ _ _ _ _ _ _ _ => rfl
  new := fun _ _ h => .inl h
  frz := frozen_set w hob hs hs'
theorem HRel.write (h : HRel κ H w U) {k g : Nat} {o o' : AO} {ob ob' : Obj} (hk : κ k = some g) (ho : H[k]? = some o) (hm : o.mut = true) (hl : o.later o')
    (hob : w.heap[g]? = some ob) (hs : ∀ c e f, ob = .cells c e f → ∃ c', ob' = .cells c' e f ∧ c'.size = c.size) (hs' : ∀ c e f, ob' = .cells c e f → ∃ c', ob = .cells c' e f)
    (hr : ORel κ (H.set k o') { w with heap := w.heap.setIfInBounds g ob' } (Stab κ (H.set k o') U) o' g) :
    HRel κ (H.set k o') { w with heap := w.heap.setIfInBounds g ob' } U := by
  refine h.mk' (.write h hk ho hm hl hob hs hs') (fun j b hj => by simpa using h.dom j b hj) (fun j b hj => by simpa using h.lt j b hj) h.inj (fun j b o1 hj ho1 => ?_)
  by_cases e : j = k
  · subst e
    rw [hk] at hj; injection hj with hj; subst hj
    have hlt : j < H.length := (List.getElem?_eq_some_iff.1 ho).1
    have : o1 = o' := by simpa [hlt] using ho1.symm
    subst this
    exact .inr hr
  · rw [List.getElem?_set_ne (Ne.symm e)] at ho1
    refine .inl ⟨hj, ho1, ?_⟩
    have : g ≠ b := fun e' => e (h.inj j k b hj (e' ▸ hk))
    simp [Array.getElem?_setIfInBounds, this]

/-! ### A row moved to a new block -/
theorem Ext.moved (h : HRel κ H w U) {k : Nat} {ty : TypeId} {sz : Nat} {xs xs' : List (List D)} {obj : Obj} (ho : H[k]? = some (.arr ty sz xs false)) (hlen : xs.length < xs'.length) (hp : Plain obj) :
    Ext κ H w (upd κ k w.heap.size) (H.set k (.arr ty sz xs' false)) { w with heap := w.heap.push obj } where
  os := rfl
  tape := rfl
  output := rfl
  size := by simp
  keep := fun b hb _ => getElem?_push_old _ _ _ hb
  shape := fun b hb => by simp only [World.shape?]; rw [getElem?_push_old _ _ _ hb]
  len := by simp
  objs := fun j o1 ho1 => by
    by_cases e : j = k
    · subst e
      rw [ho] at ho1; injection ho1 with ho1; subst ho1
      have hlt : j < H.length := (List.getElem?_eq_some_iff.1 ho).1
      exact ⟨.arr ty sz xs' false, by simp [hlt], xs', false, rfl, Nat.le_of_lt hlen, fun hf => by cases hf⟩
    · exact ⟨o1, by rw [List.getElem?_set_ne (Ne.symm e)]; exact ho1, .refl o1⟩
  old := fun j g o1 hj ho1 hn => by
    have : j ≠ k := by rintro rfl; rw [ho] at ho1; injection ho1 with ho1; exact hn _ _ _ _ ho1.symm
    rw [upd_ne _ this]; exact hj
  oldA := fun j ty1 sz1 xs1 fz1 xs2 fz2 h1 h2 hl => by
    by_cases e : j = k
    · subst e
      have hlt : j < H.length := (List.getElem?_eq_some_iff.1 ho).1
      rw [ho] at h1
      injection h1 with h1
      injection h1 with _ _ h1 _
      subst h1
      simp [hlt] at h2
      obtain ⟨_, _, rfl, _⟩ := h2
      omega
    · exact upd_ne _ e
  new := fun j g hj => by
    by_cases e : j = k
    · subst e; rw [upd_same] at hj; injection hj with hj; exact .inr (Nat.le_of_eq hj)
    · rw [upd_ne _ e] at hj; exact .inl hj
  frz := frozen_push w hp 0
theorem HRel.moved (h : HRel κ H w U) {k : Nat} {ty : TypeId} {sz : Nat} {xs xs' : List (List D)} {obj : Obj} (ho : H[k]? = some (.arr ty sz xs false)) (hlen : xs.length < xs'.length) (hp : Plain obj)
    (hr : ORel (upd κ k w.heap.size) (H.set k (.arr ty sz xs' false)) { w with heap := w.heap.push obj } (Stab (upd κ k w.heap.size) (H.set k (.arr ty sz xs' false)) U) (.arr ty sz xs' false) w.heap.size) :
    HRel (upd κ k w.heap.size) (H.set k (.arr ty sz xs' false)) { w with heap := w.heap.push obj } U := by
  have hlt : k < H.length := (List.getElem?_eq_some_iff.1 ho).1
  refine h.mk' (.moved h ho hlen hp) (fun j b hj => ?_) (fun j b hj => ?_) (fun j j' b hj hj' => ?_) (fun j b o1 hj ho1 => ?_)
  · by_cases e : j = k
    · subst e; simpa using hlt
    · rw [upd_ne _ e] at hj; simpa using h.dom j b hj
  · by_cases e : j = k
    · subst e; rw [upd_same] at hj; injection hj with hj; simp; omega
    · rw [upd_ne _ e] at hj; have := h.lt j b hj; simp; omega
  · by_cases e : j = k <;> by_cases e' : j' = k
    · exact e.trans e'.symm
    · subst e; rw [upd_same] at hj; rw [upd_ne _ e'] at hj'; injection hj with hj; have := h.lt j' b hj'; omega
    · subst e'; rw [upd_same] at hj'; rw [upd_ne _ e] at hj; injection hj' with hj'; have := h.lt j b hj; omega
    · rw [upd_ne _ e] at hj; rw [upd_ne _ e'] at hj'; exact h.inj j j' b hj hj'
  · by_cases e : j = k
    · subst e
      rw [upd_same] at hj; injection hj with hj; subst hj
      have : o1 = .arr ty sz xs' false := by simpa [hlt] using ho1.symm
      subst this
      exact .inr hr
    · rw [upd_ne _ e] at hj
      rw [List.getElem?_set_ne (Ne.symm e)] at ho1
      exact .inl ⟨hj, ho1, getElem?_push_old _ _ _ (h.lt j b hj)⟩

/-! ### Rows that freeze -/
theorem freeze1_get (H : Heap) (k j : Nat) : (freeze1 H k)[j]? = if j = k then (H[j]?).map AO.frz else H[j]? := by
  unfold freeze1
  rw [List.getElem?_modify]
  by_cases e : j = k
  · subst e; simp
  · simp [e, Ne.symm e]
theorem freeze1_length (H : Heap) (k : Nat) : (freeze1 H k).length = H.length := by simp [freeze1]
theorem Ext.freeze1 (κ : Kp) (H : Heap) (w : World) (k : Nat) : Ext κ H w κ (freeze1 H k) w where
  os := rfl
  tape := rfl
  output := rfl
  size := Nat.le_refl _
  keep := fun _ _ _ => rfl
  shape := fun _ _ => rfl
  len := by rw [freeze1_length]; exact Nat.le_refl _
  objs := fun j o ho => by
    by_cases e : j = k
    · subst e
      refine ⟨_, by rw [freeze1_get, if_pos rfl, ho]; rfl, ?_⟩
      cases o with
      | arr ty sz xs fz => exact ⟨xs, true, rfl, Nat.le_refl _, fun _ => ⟨rfl, rfl⟩⟩
      | _ => exact .refl _
    · exact ⟨o, by rw [freeze1_get, if_neg e]; exact ho, .refl o⟩
  old := fun _ _ _ h _ _ => h
  oldA := fun _ _ _ _ _ _ _ _ _ _ => rfl
  new := fun _ _ h => .inl h
  frz := fun _ => rfl
theorem ORel.thawed {S : Nat → Prop} {ty : TypeId} {sz g : Nat} {xs : List (List D)} {fz fz' : Bool} (h : ORel κ H w S (.arr ty sz xs fz) g) : ORel κ H w S (.arr ty sz xs fz') g := h
theorem HRel.freeze1 (h : HRel κ H w U) (k : Nat) : HRel κ (freeze1 H k) w U := by
  refine h.mk' (.freeze1 κ H w k) (fun j b hj => by rw [freeze1_length]; exact h.dom j b hj) h.lt h.inj (fun j b o hj ho => ?_)
  rw [freeze1_get] at ho
  by_cases e : j = k
  · subst e
    rw [if_pos rfl] at ho
    have hlt := h.dom j b hj
    rw [List.getElem?_eq_getElem hlt] at ho
    simp only [Option.map_some, Option.some.injEq] at ho
    have ho0 := List.getElem?_eq_getElem hlt
    generalize H[j] = o0 at ho ho0
    cases o0 with
    | arr ty sz xs fz =>
      subst ho
      exact .inr (ORel.thawed (fz := fz) ((h.obj j b _ hj ho0).on (.freeze1 κ H w j) h.dom h.lt rfl))
    | _ => subst ho; exact .inl ⟨hj, ho0, rfl⟩
  · rw [if_neg e] at ho
    exact .inl ⟨hj, ho, rfl⟩
theorem freezeAll_length (H : Heap) : ∀ l, (freezeAll H l).length = H.length
  | [] => rfl
  | k :: r => by rw [freezeAll, freezeAll_length _ r, freeze1_length]
end
theorem Dead.freeze1 (κ : Kp) (H : Heap) (k : Nat) : Dead κ H κ (freeze1 H k) := by
  intro j ty cs h1 h2
  refine ⟨h1, ?_⟩
  rw [freeze1_get, h2]
  split <;> rfl
theorem Dead.freezeAll (κ : Kp) : ∀ (l : List Nat) (H : Heap), Dead κ H κ (freezeAll H l)
  | [], H => .refl κ H
  | k :: r, H => (Dead.freeze1 κ H k).trans (Dead.freezeAll κ r _)
theorem freezeAll_rel {κ : Kp} {w : World} {U : Nat → Prop} : ∀ (l : List Nat) (H : Heap), HRel κ H w U → HRel κ (freezeAll H l) w U ∧ Ext κ H w κ (freezeAll H l) w
  | [], H, h => ⟨h, .refl κ H w⟩
  | k :: r, H, h => by
    obtain ⟨h1, h2⟩ := freezeAll_rel r (freeze1 H k) (h.freeze1 k)
    exact ⟨h1, (Ext.freeze1 κ H w k).trans h2 h.dom⟩
end Go.AE
