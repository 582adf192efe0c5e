/- The abstract evaluator: calls. -/
import Derived.Test.YtlaldhmpoggkjaaGreatDoorAeCall
set_option autoImplicit false
set_option linter.unusedVariables false
set_option linter.unusedSimpArgs false
namespace Go.AE
section
variable {P : Program} {κ κ' : Kp} {H H' : Heap} {w w' : World} {U : Nat → Prop}

def κ0 : Kp := fun _ => none
theorem mut_none {b : Nat} : ¬ Mut κ0 [] b := fun ⟨_, _, h, _⟩ => by cases h
theorem HRel.empty (w : World) {U : Nat → Prop} (hU : ∀ b, w.heap.size ≤ b → U b) : HRel κ0 [] w U where
  dom := fun _ _ h => by cases h
  lt := fun _ _ h => by cases h
  inU := fun _ _ h => by cases h
  newU := hU
  inj := fun _ _ _ h => by cases h
  obj := fun _ _ _ h => by cases h
/-- A call that saw nothing of the heap. -/
theorem Ext.forget {κc : Kp} {Hc : Heap} (he : Ext κ0 [] w κc Hc w') : Ext κ H w κ H w' where
  os := he.os
  tape := he.tape
  output := he.output
  size := he.size
  keep := fun b hb _ => he.keep b hb mut_none
  shape := he.shape
  len := Nat.le_refl _
  objs := fun k o h => ⟨o, h, .refl o⟩
  old := fun _ _ _ h _ _ => h
  oldA := fun _ _ _ _ _ _ _ _ _ _ => rfl
  new := fun _ _ h => .inl h
  frz := he.frz
theorem HRel.forget (h : HRel κ H w U) {κc : Kp} {Hc : Heap} (he : Ext κ0 [] w κc Hc w') : HRel κ H w' U :=
  h.mk' (.forget he) h.dom (fun k g hk => Nat.lt_of_lt_of_le (h.lt k g hk) he.size) h.inj (fun k g o hk ho => .inl ⟨hk, ho, he.keep g (h.lt k g hk) mut_none⟩)
theorem stab_new (h : HRel κ H w U) {b : Nat} (hb : w.heap.size ≤ b) : Stab κ H U b :=
  ⟨h.newU b hb, fun ⟨k, o, hk, _⟩ => by have := h.lt k b hk; omega⟩

/-! ### Rows that are handed over -/
/-- What the caller's heap is, behind the call: its own objects, and rows of the callee. -/
structure TakeOk (κc : Kp) (Hc : Heap) (acc : List Nat × List AO) : Prop where
  len : acc.1.length = acc.2.length
  nodup : acc.1.Nodup
  row : ∀ (i id : Nat), acc.1[i]? = some id → ∃ ty sz xs, Hc[id]? = some (.arr ty sz xs false) ∧ acc.2[i]? = some (.arr ty sz xs false)
def Pre (a b : List Nat × List AO) : Prop := a.1 <+: b.1 ∧ a.2 <+: b.2
theorem Pre.refl (a : List Nat × List AO) : Pre a a := ⟨List.prefix_refl _, List.prefix_refl _⟩
theorem Pre.trans {a b c : List Nat × List AO} (h : Pre a b) (k : Pre b c) : Pre a c := ⟨h.1.trans k.1, h.2.trans k.2⟩
theorem prefix_get {α : Type} {a b : List α} (h : a <+: b) {i : Nat} {x : α} (hx : a[i]? = some x) : b[i]? = some x := by
  obtain ⟨t, rfl⟩ := h
  rw [List.getElem?_append_left (List.getElem?_eq_some_iff.1 hx).1]
  exact hx
/-- The map of blocks behind a call whose rows are handed over. -/
def κt (κ : Kp) (base : Nat) (κc : Kp) (ids : List Nat) : Kp := fun j => if j < base then κ j else match ids[j - base]? with
  | some id => κc id
  | none => none
/-- A value of the callee, as the caller has it: over every heap that ends with the rows. -/
def TRel (κ : Kp) (base : Nat) (κc : Kp) (w' : World) (S : Nat → Prop) (acc : List Nat × List AO) (x : AV) (v : Value) : Prop :=
  ∀ (fin : List Nat × List AO) (H0 : Heap), Pre acc fin → H0.length = base → VRel (κt κ base κc fin.1) (H0 ++ fin.2) w' S x v
theorem TRel.mono {S : Nat → Prop} {κc : Kp} {base : Nat} {acc acc' : List Nat × List AO} {x : AV} {v : Value} (h : TRel κ base κc w' S acc x v) (hp : Pre acc acc') : TRel κ base κc w' S acc' x v :=
  fun fin H0 hf hl => h fin H0 (hp.trans hf) hl
theorem takeRow_ok {κc : Kp} {Hc : Heap} {base : Nat} {S S' : Nat → Prop} (hS : ∀ b, S b → S' b) {c x : AV} {acc acc' : List Nat × List AO} {v : Value} (h : takeRow (get Hc) base c acc = some (x, acc')) (ha : TakeOk κc Hc acc) (hv : VRel κc Hc w' S c v) :
    TakeOk κc Hc acc' ∧ Pre acc acc' ∧ TRel κ base κc w' S' acc' x v := by
  unfold takeRow at h
  split at h
  · simp only [Option.some.injEq, Prod.mk.injEq] at h
    obtain ⟨rfl, rfl⟩ := h
    cases hv with
    | d _ _ hr => exact ⟨ha, .refl _, fun fin H0 _ _ => .d _ _ (hr.mono hS)⟩
  · rename_i k len
    split at h
    · rename_i ty sz xs hk
      split at h
      · rename_i hc
        obtain ⟨hlen, hnot⟩ := hc
        simp only [Option.some.injEq, Prod.mk.injEq] at h
        obtain ⟨rfl, rfl⟩ := h
        have hk' : Hc[k]? = some (.arr ty sz xs false) := hk
        refine ⟨⟨by simp [ha.len], ?_, fun i id hi => ?_⟩, ⟨List.prefix_append _ _, List.prefix_append _ _⟩, fun fin H0 hp hl => ?_⟩
        · rw [List.nodup_append]
          refine ⟨ha.nodup, by simp, fun a h1 b h2 => ?_⟩
          simp at h2
          subst h2
          rintro rfl
          exact hnot h1
        · rcases Nat.lt_or_ge i acc.1.length with hlt | hge
          · rw [List.getElem?_append_left hlt] at hi
            obtain ⟨ty', sz', xs', h1, h2⟩ := ha.row i id hi
            exact ⟨ty', sz', xs', h1, by rw [List.getElem?_append_left (by rw [← ha.len]; exact hlt)]; exact h2⟩
          · rw [List.getElem?_append_right hge] at hi
            have : i - acc.1.length = 0 := by
              have := (List.getElem?_eq_some_iff.1 hi).1
              simp at this
              omega
            rw [this] at hi
            simp at hi
            subst hi
            refine ⟨ty, sz, xs, hk', ?_⟩
            rw [List.getElem?_append_right (by rw [← ha.len]; exact hge), ← ha.len, this]
            rfl
        · cases hv with
          | osl _ _ a c ty2 sz2 xs2 fz2 ho hl2 hrow =>
            rw [hk'] at ho
            injection ho with ho
            injection ho with e1 e2 e3 e4
            subst e1 e2 e3 e4
            have hid : fin.1[acc.2.length]? = some k := prefix_get hp.1 (by rw [← ha.len, List.getElem?_append_right (Nat.le_refl _)]; simp)
            have hob : fin.2[acc.2.length]? = some (.arr ty sz xs false) := prefix_get hp.2 (by rw [List.getElem?_append_right (Nat.le_refl _)]; simp)
            have hkt : κt κ base κc fin.1 (base + acc.2.length) = κc k := by
              have hn : ¬ base + acc.2.length < base := by omega
              simp only [κt, if_neg hn, Nat.add_sub_cancel_left, hid]
            refine .osl _ _ _ _ ty sz xs false (by rw [List.getElem?_append_right (by omega)]; rw [hl, Nat.add_sub_cancel_left]; exact hob) hl2 fun hlen' => ?_
            rcases hrow hlen' with ⟨h1, h2, h3⟩ | ⟨g, cap, e, n, h1, h2, h3, h4, h5, h6⟩
            · exact .inl ⟨h1, h2, hkt.trans h3⟩
            · exact .inr ⟨g, cap, e, n, hkt.trans h1, h2, h3, h4, h5, h6⟩
      · cases h
    · cases h
  · cases h
theorem takeRows_ok {κc : Kp} {Hc : Heap} {base : Nat} {S S' : Nat → Prop} (hS : ∀ b, S b → S' b) : ∀ {cs xs : List AV} {acc acc' : List Nat × List AO} {vs : List Value}, takeRows (get Hc) base cs acc = some (xs, acc') → TakeOk κc Hc acc → VRels κc Hc w' S cs vs →
    TakeOk κc Hc acc' ∧ Pre acc acc' ∧ xs.length = vs.length ∧ ∀ (i : Nat) (x : AV) (v : Value), xs[i]? = some x → vs[i]? = some v → TRel κ base κc w' S' acc' x v
  | [], xs, acc, acc', vs, h, ha, hv => by
    simp only [takeRows, Option.some.injEq, Prod.mk.injEq] at h
    obtain ⟨rfl, rfl⟩ := h
    exact ⟨ha, .refl _, hv.1, fun i x v hx _ => by simp at hx⟩
  | c :: cs, xs, acc, acc', vs, h, ha, hv => by
    simp only [takeRows] at h
    split at h
    · rename_i x acc1 hx
      split at h
      · rename_i ys acc2 hys
        simp only [Option.some.injEq, Prod.mk.injEq] at h
        obtain ⟨rfl, rfl⟩ := h
        cases vs with
        | nil => exact absurd hv.1 (by simp)
        | cons v vs =>
          obtain ⟨h1, h2, h3⟩ := takeRow_ok (κ := κ) hS hx ha (hv.2 0 _ _ rfl rfl)
          obtain ⟨k1, k2, k3, k4⟩ := takeRows_ok hS hys h1 (vs := vs) ⟨by simpa using hv.1, fun i c v hc hv' => hv.2 (i + 1) c v (by simpa using hc) (by simpa using hv')⟩
          refine ⟨k1, h2.trans k2, by simp [k3], fun i y u hy hu => ?_⟩
          cases i with
          | zero => simp at hy hu; subst hy hu; exact h3.mono k2
          | succ i => simp at hy hu; exact k4 i y u hy hu
      · cases h
    · cases h
theorem take1_ok {κc : Kp} {Hc : Heap} {base : Nat} {S S' : Nat → Prop} (hS : ∀ b, S b → S' b) {c x : AV} {acc acc' : List Nat × List AO} {v : Value} (h : take1 (get Hc) base c acc = some (x, acc')) (ha : TakeOk κc Hc acc) (hv : VRel κc Hc w' S c v) :
    TakeOk κc Hc acc' ∧ Pre acc acc' ∧ TRel κ base κc w' S' acc' x v := by
  unfold take1 at h
  split at h
  · obtain ⟨⟨xs, acc1⟩, hx, he⟩ := map_inv h
    simp only [Prod.mk.injEq] at he
    obtain ⟨rfl, rfl⟩ := he
    obtain ⟨vs, rfl, hrs⟩ := hv.agg_inv
    obtain ⟨h1, h2, h3, h4⟩ := takeRows_ok (κ := κ) hS hx ha hrs
    exact ⟨h1, h2, fun fin H0 hp hl => VRel.agg' ⟨h3, fun i c u hc hu => h4 i c u hc hu fin H0 hp hl⟩⟩
  · exact takeRow_ok hS h ha hv
theorem takeL_ok {κc : Kp} {Hc : Heap} {base : Nat} {S S' : Nat → Prop} (hS : ∀ b, S b → S' b) : ∀ {cs xs : List AV} {acc acc' : List Nat × List AO} {vs : List Value}, takeL (get Hc) base cs acc = some (xs, acc') → TakeOk κc Hc acc → VRels κc Hc w' S cs vs →
    TakeOk κc Hc acc' ∧ Pre acc acc' ∧ xs.length = vs.length ∧ ∀ (i : Nat) (x : AV) (v : Value), xs[i]? = some x → vs[i]? = some v → TRel κ base κc w' S' acc' x v
  | [], xs, acc, acc', vs, h, ha, hv => by
    simp only [takeL, Option.some.injEq, Prod.mk.injEq] at h
    obtain ⟨rfl, rfl⟩ := h
    exact ⟨ha, .refl _, hv.1, fun i x v hx _ => by simp at hx⟩
  | c :: cs, xs, acc, acc', vs, h, ha, hv => by
    simp only [takeL] at h
    split at h
    · rename_i x acc1 hx
      split at h
      · rename_i ys acc2 hys
        simp only [Option.some.injEq, Prod.mk.injEq] at h
        obtain ⟨rfl, rfl⟩ := h
        cases vs with
        | nil => exact absurd hv.1 (by simp)
        | cons v vs =>
          obtain ⟨h1, h2, h3⟩ := take1_ok (κ := κ) hS hx ha (hv.2 0 _ _ rfl rfl)
          obtain ⟨k1, k2, k3, k4⟩ := takeL_ok hS hys h1 (vs := vs) ⟨by simpa using hv.1, fun i c v hc hv' => hv.2 (i + 1) c v (by simpa using hc) (by simpa using hv')⟩
          refine ⟨k1, h2.trans k2, by simp [k3], fun i y u hy hu => ?_⟩
          cases i with
          | zero => simp at hy hu; subst hy hu; exact h3.mono k2
          | succ i => simp at hy hu; exact k4 i y u hy hu
      · cases h
    · cases h
theorem take_ok {κc : Kp} {Hc : Heap} {base : Nat} {S S' : Nat → Prop} (hS : ∀ b, S b → S' b) {c x : AV} {acc : List Nat × List AO} {v : Value} (h : take (get Hc) base c = some (x, acc)) (hv : VRel κc Hc w' S c v) :
    TakeOk κc Hc acc ∧ TRel κ base κc w' S' acc x v := by
  have h0 : TakeOk κc Hc ([], []) := ⟨rfl, by simp, fun i id hi => by simp at hi⟩
  unfold take at h
  split at h
  · obtain ⟨⟨xs, acc1⟩, hx, he⟩ := map_inv h
    simp only [Prod.mk.injEq] at he
    obtain ⟨rfl, rfl⟩ := he
    obtain ⟨vs, rfl, hrs⟩ := hv.tup_inv
    obtain ⟨h1, h2, h3, h4⟩ := takeL_ok (κ := κ) hS hx h0 hrs
    exact ⟨h1, fun fin H0 hp hl => .tup _ _ (by simpa using h3) fun i c u hc hu => h4 i c u hc (by simpa using hu) fin H0 hp hl⟩
  · obtain ⟨h1, _, h3⟩ := take1_ok (κ := κ) hS h h0 hv
    exact ⟨h1, h3⟩

/-- The heap behind a call whose rows are handed over. -/
theorem taken (h : HRel κ H w U) {κc : Kp} {Hc : Heap} {acc : List Nat × List AO} (hc : HRel κc Hc w' (Stab κ H U)) (he : Ext κ0 [] w κc Hc w') (ha : TakeOk κc Hc acc) :
    HRel (κt κ H.length κc acc.1) (H ++ acc.2) w' U ∧ Ext κ H w (κt κ H.length κc acc.1) (H ++ acc.2) w' ∧ Dead κ H (κt κ H.length κc acc.1) (H ++ acc.2) ∧
      ∀ b, Stab κc Hc (Stab κ H U) b → Stab (κt κ H.length κc acc.1) (H ++ acc.2) U b := by
  have hlo : ∀ {k}, k < H.length → κt κ H.length κc acc.1 k = κ k := fun hk => by simp [κt, hk]
  have hhi : ∀ {k g}, ¬ k < H.length → κt κ H.length κc acc.1 k = some g → ∃ id, acc.1[k - H.length]? = some id ∧ κc id = some g := by
    intro k g hk hg
    simp only [κt, if_neg hk] at hg
    split at hg
    · rename_i id hid; exact ⟨id, hid, hg⟩
    · cases hg
  have hcnew : ∀ {k g}, κc k = some g → w.heap.size ≤ g := fun hk => by
    rcases he.new _ _ hk with h1 | h1
    · cases h1
    · exact h1
  have hext : Ext κ H w (κt κ H.length κc acc.1) (H ++ acc.2) w' := {
    os := he.os
    tape := he.tape
    output := he.output
    size := he.size
    keep := fun b hb _ => he.keep b hb mut_none
    shape := he.shape
    len := by simp
    objs := fun k o ho => ⟨o, by rw [List.getElem?_append_left (List.getElem?_eq_some_iff.1 ho).1]; exact ho, .refl o⟩
    old := fun k g o hk ho _ => (hlo (List.getElem?_eq_some_iff.1 ho).1).trans hk
    oldA := fun k ty sz xs fz xs' fz' ho _ _ => hlo (List.getElem?_eq_some_iff.1 ho).1
    new := fun k g hk => by
      by_cases hlt : k < H.length
      · rw [hlo hlt] at hk; exact .inl hk
      · obtain ⟨id, _, hg⟩ := hhi hlt hk
        exact .inr (hcnew hg)
    frz := he.frz }
  have hstab : ∀ b, Stab κc Hc (Stab κ H U) b → Stab (κt κ H.length κc acc.1) (H ++ acc.2) U b := by
    rintro b ⟨⟨hU, hm⟩, hmc⟩
    refine ⟨hU, ?_⟩
    rintro ⟨k, o, hk, ho, hmo⟩
    by_cases hlt : k < H.length
    · rw [hlo hlt] at hk
      rw [List.getElem?_append_left hlt] at ho
      exact hm ⟨k, o, hk, ho, hmo⟩
    · obtain ⟨id, hid, hg⟩ := hhi hlt hk
      obtain ⟨ty, sz, xs, h1, h2⟩ := ha.row _ id hid
      exact hmc ⟨id, _, hg, h1, rfl⟩
  refine ⟨h.mk' hext (fun k g hk => ?_) (fun k g hk => ?_) (fun k k' g hk hk' => ?_) (fun k g o hk ho => ?_), hext, fun k ty cs h1 h2 => ?_, hstab⟩
  · by_cases hlt : k < H.length
    · simp; omega
    · obtain ⟨id, hid, _⟩ := hhi hlt hk
      have := (List.getElem?_eq_some_iff.1 hid).1
      rw [ha.len] at this
      simp; omega
  · by_cases hlt : k < H.length
    · rw [hlo hlt] at hk; exact Nat.lt_of_lt_of_le (h.lt k g hk) he.size
    · obtain ⟨id, _, hg⟩ := hhi hlt hk; exact hc.lt id g hg
  · by_cases hlt : k < H.length <;> by_cases hlt' : k' < H.length
    · rw [hlo hlt] at hk; rw [hlo hlt'] at hk'; exact h.inj k k' g hk hk'
    · rw [hlo hlt] at hk; obtain ⟨id, _, hg⟩ := hhi hlt' hk'; have := h.lt k g hk; have := hcnew hg; omega
    · rw [hlo hlt'] at hk'; obtain ⟨id, _, hg⟩ := hhi hlt hk; have := h.lt k' g hk'; have := hcnew hg; omega
    · obtain ⟨id, hid, hg⟩ := hhi hlt hk
      obtain ⟨id', hid', hg'⟩ := hhi hlt' hk'
      obtain rfl := hc.inj id id' g hg hg'
      obtain ⟨h1, h2⟩ := List.getElem?_eq_some_iff.1 hid
      obtain ⟨h1', h2'⟩ := List.getElem?_eq_some_iff.1 hid'
      rcases Nat.lt_trichotomy (k - H.length) (k' - H.length) with hl | hl | hl
      · exact absurd (h2.trans h2'.symm) (List.pairwise_iff_getElem.1 ha.nodup _ _ h1 h1' hl)
      · omega
      · exact absurd (h2'.trans h2.symm) (List.pairwise_iff_getElem.1 ha.nodup _ _ h1' h1 hl)
  · by_cases hlt : k < H.length
    · rw [hlo hlt] at hk
      rw [List.getElem?_append_left hlt] at ho
      exact .inl ⟨hk, ho, he.keep g (h.lt k g hk) mut_none⟩
    · obtain ⟨id, hid, hg⟩ := hhi hlt hk
      obtain ⟨ty, sz, xs, h1, h2⟩ := ha.row _ id hid
      rw [List.getElem?_append_right (by omega)] at ho
      rw [h2] at ho
      injection ho with ho
      subst ho
      obtain ⟨vs, q1, q2, q3, q4, q5⟩ := hc.obj id g _ hg h1
      exact .inr ⟨vs, q1, q2, q3, q4, fun j cs i d v hj hi hv => (q5 j cs i d v hj hi hv).mono hstab⟩
  · have hlt := (List.getElem?_eq_some_iff.1 h2).1
    exact ⟨(hlo hlt).trans h1, by rw [List.getElem?_append_left hlt]; exact h2⟩
end
end Go.AE
