/- The abstract evaluator: every order of a region. -/
import Derived.Test.YtlaldhmpoggkjaaGreatDoorAeDraw4
set_option autoImplicit false
set_option linter.unusedVariables false
set_option linter.unusedSimpArgs false
namespace Go.AE

structure Early where
  i : Nat
  d : Tmp
  slot : Nat
/-- Some operations are done, R and E are left. -/
structure DInv (C : Cfg) (callE : CallE) (ops : List Oper) (κs : Kp) (Hs : Heap) (ws : World) (U : Nat → Prop) (nt : Nat) (envF : Env) (HF : Heap) (listed : Array Bool) (R : List Item) (E : List Early) (κ : Kp) (env : Env) (H : Heap) (rs : List (Nat × Rc)) (a : Act) (w : World) : Prop where
  items : ∀ x ∈ R, ops[x.1]? = some x.2
  early : ∀ e ∈ E, ∃ o t z, ops[e.i]? = some o ∧ o.op = .alloc t ∧ o.guard = none ∧ Ms ops e.i = 0 ∧ o.dst = some e.d ∧ lookup env e.d = some (.ptr e.slot 0) ∧ κ e.slot = none ∧ H[e.slot]? = some (.box t z) ∧ zeroCells C.P t = some z ∧ Hs.length ≤ e.slot
  slots : (E.map (·.slot)).Nodup
  inds : (E.map (·.i)).Nodup
  idx : ∀ j o, ops[j]? = some o → (listed.getD j true = false ↔ j ∈ R.map (·.1) ∨ j ∈ E.map (·.i))
  lsize : listed.size = ops.length
  sorted : (R.map (·.1)).Pairwise (· < ·)
  disj : ∀ j ∈ R.map (·.1), j ∉ E.map (·.i)
  closed : ∀ i o, ops[i]? = some o → listed.getD i false = true → ∀ e ∈ o.after, Region.binds .any e = true → listed.getD e.on false = true
  run : RunL C callE ops R env H rs envF HF
  pairs : Pairs (masks ops) rs
  rel : HRel κ H w U
  env : EnvOk κ H w U (hide env (E.map (·.d))) a
  size : a.tmps.size = nt
  defers : a.defers = []
  since : Since κs Hs ws κ H w
  dom : ∀ k g, κs k = some g → k < Hs.length

section
variable {C : Cfg} {callE : CallE} {ops : List Oper} {κs : Kp} {Hs : Heap} {ws : World} {U : Nat → Prop} {nt : Nat} {envF : Env} {HF : Heap}

theorem getD_same {listed : Array Bool} {j : Nat} (h : j < listed.size) : listed.getD j true = listed.getD j false := by simp [h]
theorem getD_lt {listed : Array Bool} {j : Nat} (h : listed.getD j false = true) : j < listed.size := by
  rcases Nat.lt_or_ge j listed.size with h1 | h1
  · exact h1
  · simp [Array.getElem?_eq_none h1] at h
theorem DInv.done {listed : Array Bool} {R : List Item} {E : List Early} {κ : Kp} {env : Env} {H : Heap} {rs : List (Nat × Rc)} {a : Act} {w : World} (hok : regionOk ops = true) (h : DInv C callE ops κs Hs ws U nt envF HF listed R E κ env H rs a w)
    (hr : Region.ready .any ops.toArray listed = []) : R = [] ∧ E = [] := by
  have hall : ∀ j o, ops[j]? = some o → listed.getD j true = true := by
    intro j
    induction j using Nat.strongRecOn with
    | _ j ih =>
      intro o ho
      cases hl : listed.getD j true with
      | true => rfl
      | false =>
        have : j ∈ Region.ready .any ops.toArray listed := mem_ready.2 ⟨hl, o, by simpa using ho, fun e he hb => by
          have hlt := edge_lt hok ho he hb
          have hjl := (List.getElem?_eq_some_iff.1 ho).1
          have := ih e.on hlt _ (List.getElem?_eq_getElem (Nat.lt_trans hlt hjl))
          rwa [getD_same (by rw [h.lsize]; omega)] at this⟩
        rw [hr] at this
        cases this
  constructor
  · cases hR : R with
    | nil => rfl
    | cons x R' =>
      have hx := h.items x (by rw [hR]; exact List.mem_cons_self ..)
      have h1 := hall _ _ hx
      have h2 := (h.idx _ _ hx).2 (.inl (by rw [hR]; simp))
      rw [h1] at h2
      cases h2
  · cases hE : E with
    | nil => rfl
    | cons x E' =>
      obtain ⟨o, t, z, ho, _⟩ := h.early x (by rw [hE]; exact List.mem_cons_self ..)
      have h1 := hall _ _ ho
      have h2 := (h.idx _ _ ho).2 (.inr (by rw [hE]; simp))
      rw [h1] at h2
      cases h2
theorem DInv.at_end {listed : Array Bool} {κ : Kp} {env : Env} {H : Heap} {rs : List (Nat × Rc)} {a : Act} {w : World} (h : DInv C callE ops κs Hs ws U nt envF HF listed [] [] κ env H rs a w) : At κ HF w U nt envF a ∧ Since κs Hs ws κ HF w := by
  obtain ⟨_, h2, h3⟩ := h.run
  subst h3
  refine ⟨⟨h.rel, h.env.same fun t v ht => ?_, h.size, h.defers⟩, h.since⟩
  rw [lookup_hide]
  simpa [h2 t] using ht
theorem set_getD {listed : Array Bool} {j k : Nat} (hj : j < listed.size) (d : Bool) : (listed.setIfInBounds j true).getD k d = if k = j then true else listed.getD k d := by
  by_cases e : k = j
  · subst e; simp [hj]
  · rw [if_neg e]; exact getD_set_ne d (Ne.symm e)
theorem quiet_apply {e : Eff} {v : AV} {H : Heap} (h : quiet e = some v) : apply C callE H e = some (v, H) := by
  unfold quiet at h
  split at h
  · injection h with h; subst h; rfl
  · injection h with h; subst h; rfl
  · cases h

/-- One of R is done. -/
theorem DInv.stepR {listed : Array Bool} {p s : List Item} {E : List Early} {κ κ' : Kp} {env : Env} {H H1 : Heap} {rp rt : List (Nat × Rc)} {rc : Rc} {a : Act} {w w' : World} {j : Nat} {o : Oper} {v : AV} {u : Value}
    (hok : regionOk ops = true) (hd : dstsOk nt ops = true) (h : DInv C callE ops κs Hs ws U nt envF HF listed (p ++ (j, o) :: s) E κ env H (rp ++ (j, rc) :: rt) a w) (hready : ∀ e ∈ o.after, Region.binds .any e = true → listed.getD e.on false = true)
    (hrun : RunL C callE ops (p ++ s) (bindD env o.dst v) H1 (rp ++ rt) envF HF) (hrel : HRel κ' H1 w' U) (hs : Since κ H w κ' H1 w') (hv : VRel κ' H1 w' (Stab κ' H1 U) v u) :
    DInv C callE ops κs Hs ws U nt envF HF (listed.setIfInBounds j true) (p ++ s) E κ' (bindD env o.dst v) H1 (rp ++ rt) (a.put o.dst u) w' := by
  have hjo : ops[j]? = some o := h.items (j, o) (by simp)
  have hjlt : j < listed.size := by rw [h.lsize]; exact (List.getElem?_eq_some_iff.1 hjo).1
  have hdo : ∀ d, o.dst = some d → d < a.tmps.size := by rw [h.size]; exact dsts_lt hd (List.mem_of_getElem? hjo)
  have hnd : ∀ e ∈ E, o.dst ≠ some e.d := fun e he hc => by
    obtain ⟨q, t, z, hq, _, _, _, hqd, _⟩ := h.early e he
    have := dst_one hok hjo hq hc hqd
    exact h.disj j (by simp) (this ▸ List.mem_map_of_mem he)
  have hsorted := h.sorted
  simp only [List.map_append, List.map_cons] at hsorted
  have hnj : j ∉ (p ++ s).map (·.1) := by
    rw [List.pairwise_append] at hsorted
    obtain ⟨h1, h2, h3⟩ := hsorted
    rw [List.pairwise_cons] at h2
    simp only [List.map_append, List.mem_append]
    rintro (hm | hm)
    · exact Nat.lt_irrefl _ (h3 j hm j (List.mem_cons_self ..))
    · exact Nat.lt_irrefl _ (h2.1 j hm)
  have hsub : List.Sublist (p ++ s) (p ++ (j, o) :: s) := List.Sublist.append (List.Sublist.refl _) (List.sublist_cons_self _ _)
  exact {
    items := fun x hx => h.items x (hsub.subset hx)
    early := fun e he => by
      obtain ⟨q, t, z, q1, q2, q3, q4, q5, q6, q7, q8, q9, q10⟩ := h.early e he
      obtain ⟨d1, d2⟩ := hs.dead e.slot t z q7 q8
      exact ⟨q, t, z, q1, q2, q3, q4, q5, by rw [lookup_bind, if_neg (hnd e he)]; exact q6, d1, d2, q9, q10⟩
    slots := h.slots
    inds := h.inds
    idx := fun k q hq => by
      rw [set_getD hjlt]
      by_cases e : k = j
      · subst e
        simp only [if_true]
        constructor
        · intro hc; cases hc
        · rintro (hc | hc)
          · exact absurd hc hnj
          · exact absurd hc (h.disj k (by simp))
      · rw [if_neg e, h.idx k q hq]
        simp only [List.map_append, List.map_cons, List.mem_append, List.mem_cons, e, false_or]
    lsize := by simpa using h.lsize
    sorted := List.Pairwise.sublist (hsub.map _) h.sorted
    disj := fun k hk => h.disj k ((hsub.map _).subset hk)
    closed := fun i q hq hl e he hb => by
      rw [set_getD hjlt] at hl ⊢
      by_cases e1 : e.on = j
      · rw [if_pos e1]
      · rw [if_neg e1]
        by_cases e2 : i = j
        · subst e2
          rw [hjo] at hq
          injection hq with hq
          subst hq
          exact hready e he hb
        · rw [if_neg e2] at hl
          exact h.closed i q hq hl e he hb
    run := hrun
    pairs := List.Pairwise.sublist (List.Sublist.append (List.Sublist.refl _) (List.sublist_cons_self _ _)) h.pairs
    rel := hrel
    env := by
      have h1 := (h.env.on hs.ext h.rel).put hv hdo
      refine h1.same fun t x hx => ?_
      rw [lookup_hide, lookup_bind] at hx
      rw [lookup_bind, lookup_hide]
      by_cases e : t ∈ E.map (·.d)
      · rw [if_pos e] at hx; cases hx
      · rw [if_neg e] at hx ⊢; exact hx
    size := (put_size _ _ _).trans h.size
    defers := (put_defers _ _ _).trans h.defers
    since := h.since.trans hs h.dom
    dom := h.dom }
/-- One of E is done. -/
theorem DInv.stepE {listed : Array Bool} {R : List Item} {E1 E2 : List Early} {x : Early} {κ : Kp} {env : Env} {H : Heap} {rs : List (Nat × Rc)} {a : Act} {w w' : World} {o : Oper} {u : Value} {g : Nat}
    (hok : regionOk ops = true) (hd : dstsOk nt ops = true) (h : DInv C callE ops κs Hs ws U nt envF HF listed R (E1 ++ x :: E2) κ env H rs a w) (hxo : ops[x.i]? = some o) (hdst : o.dst = some x.d) (hready : ∀ e ∈ o.after, Region.binds .any e = true → listed.getD e.on false = true)
    (hrel : HRel (upd κ x.slot g) H w' U) (hs : Ext κ H w (upd κ x.slot g) H w') (hv : VRel (upd κ x.slot g) H w' (Stab (upd κ x.slot g) H U) (.ptr x.slot 0) u) :
    DInv C callE ops κs Hs ws U nt envF HF (listed.setIfInBounds x.i true) R (E1 ++ E2) (upd κ x.slot g) env H rs (a.put o.dst u) w' := by
  have hjlt : x.i < listed.size := by rw [h.lsize]; exact (List.getElem?_eq_some_iff.1 hxo).1
  have hdo : ∀ d, o.dst = some d → d < a.tmps.size := by rw [h.size]; exact dsts_lt hd (List.mem_of_getElem? hxo)
  have hsub : List.Sublist (E1 ++ E2) (E1 ++ x :: E2) := List.Sublist.append (List.Sublist.refl _) (List.sublist_cons_self _ _)
  have hslots := h.slots
  have hinds := h.inds
  simp only [List.map_append, List.map_cons, List.nodup_append, List.nodup_cons] at hslots hinds
  have hsl : ∀ e ∈ E1 ++ E2, e.slot ≠ x.slot := fun e he => by
    rcases List.mem_append.1 he with he | he
    · exact hslots.2.2 _ (List.mem_map_of_mem he) _ (List.mem_cons_self ..)
    · exact fun hc => hslots.2.1.1 (hc ▸ List.mem_map_of_mem he)
  have hin : x.i ∉ (E1 ++ E2).map (·.i) := by
    simp only [List.map_append, List.mem_append]
    rintro (hm | hm)
    · exact hinds.2.2 _ hm _ (List.mem_cons_self ..) rfl
    · exact hinds.2.1.1 hm
  have hxslot : Hs.length ≤ x.slot := by
    obtain ⟨_, _, _, _, _, _, _, _, _, _, _, _, q10⟩ := h.early x (by simp)
    exact q10
  exact {
    items := h.items
    early := fun e he => by
      obtain ⟨q, t, z, q1, q2, q3, q4, q5, q6, q7, q8⟩ := h.early e (hsub.subset he)
      exact ⟨q, t, z, q1, q2, q3, q4, q5, q6, by rw [upd_ne _ (hsl e he)]; exact q7, q8⟩
    slots := List.Nodup.sublist (hsub.map _) h.slots
    inds := List.Nodup.sublist (hsub.map _) h.inds
    idx := fun k q hq => by
      rw [set_getD hjlt]
      by_cases e : k = x.i
      · subst e
        simp only [if_true]
        constructor
        · intro hc; cases hc
        · rintro (hc | hc)
          · exact absurd (by simp) (h.disj x.i hc)
          · exact absurd hc hin
      · rw [if_neg e, h.idx k q hq]
        simp only [List.map_append, List.map_cons, List.mem_append, List.mem_cons, e, false_or]
    lsize := by simpa using h.lsize
    sorted := h.sorted
    disj := fun k hk hc => h.disj k hk ((hsub.map _).subset hc)
    closed := fun i q hq hl e he hb => by
      rw [set_getD hjlt] at hl ⊢
      by_cases e1 : e.on = x.i
      · rw [if_pos e1]
      · rw [if_neg e1]
        by_cases e2 : i = x.i
        · subst e2
          rw [hxo] at hq
          injection hq with hq
          subst hq
          exact hready e he hb
        · rw [if_neg e2] at hl
          exact h.closed i q hq hl e he hb
    run := h.run
    pairs := h.pairs
    rel := hrel
    env := by
      have h1 := (h.env.on hs h.rel).put hv hdo
      refine h1.same fun t y hy => ?_
      rw [lookup_hide] at hy
      rw [lookup_bind, lookup_hide]
      by_cases e : t ∈ (E1 ++ E2).map (·.d)
      · rw [if_pos e] at hy; cases hy
      · rw [if_neg e] at hy
        by_cases e2 : t = x.d
        · subst e2
          rw [if_pos hdst]
          obtain ⟨_, _, _, _, _, _, _, _, q6, _⟩ := h.early x (by simp)
          rw [q6] at hy
          exact hy
        · rw [if_neg (by rw [hdst]; simpa using fun hc => e2 hc.symm), if_neg]
          · exact hy
          · simp only [List.map_append, List.map_cons, List.mem_append, List.mem_cons] at e ⊢
            rintro (hc | hc | hc)
            · exact e (.inl hc)
            · exact e2 hc
            · exact e (.inr hc)
    size := (put_size _ _ _).trans h.size
    defers := (put_defers _ _ _).trans h.defers
    since := ⟨h.since.ext.trans hs h.dom, fun k ty cs h1 h2 => by
      obtain ⟨d1, d2⟩ := h.since.dead k ty cs h1 h2
      have : k ≠ x.slot := by
        have := (List.getElem?_eq_some_iff.1 h2).1
        omega
      exact ⟨by rw [upd_ne _ this]; exact d1, d2⟩⟩
    dom := h.dom }
end
end Go.AE
