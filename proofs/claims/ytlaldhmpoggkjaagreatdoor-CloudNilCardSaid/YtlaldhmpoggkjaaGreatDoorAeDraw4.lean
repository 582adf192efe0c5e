/- The abstract evaluator: a region whose order is drawn comes to what the evaluator says, in every order. -/
import Derived.Test.YtlaldhmpoggkjaaGreatDoorAeDraw3
set_option autoImplicit false
set_option linter.unusedVariables false
set_option linter.unusedSimpArgs false
namespace Go.AE
section
variable {P : Program} {κ κ' : Kp} {H H' : Heap} {w w' : World} {U : Nat → Prop}

theorem stab_back (h : HRel κ H w U) (o : AO) {b : Nat} (hb : Stab (upd κ H.length w.heap.size) (H ++ [o]) U b) : Stab κ H U b := by
  refine ⟨hb.1, ?_⟩
  rintro ⟨k, q, hk, hq, hm⟩
  have hlt := h.dom k b hk
  exact hb.2 ⟨k, q, by rw [upd_ne _ (Nat.ne_of_lt hlt)]; exact hk, by rw [List.getElem?_append_left hlt]; exact hq, hm⟩
theorem op_okD (hh : HRel κ H w U) {env : Env} {a : Act} (he : EnvOk κ H w U env a) {o : Oper} {e : Eff} (h : opEffD P (get H) env o = some e) :
    PrimOk P κ (freezeAll H e.frz) w U e.act ((execOp a.eval o).run P w) := by
  unfold opEffD at h
  cases ho : o.op with
  | buildSlice t len ps =>
    simp only [ho] at h
    split at h
    · rename_i fr ty sz xs fz ln hb
      injection h with h
      subst h
      obtain ⟨vs, hv, hb⟩ := bind_inv hb
      have hp := parts_rel he hv
      obtain ⟨h1, w1, h2⟩ := buildS_ok hh hb hp
      have e1 : (ps.toList.map fun p => (p.1, a.eval p.2)).toArray = ps.map fun (i, x) => (i, a.eval x) := Array.ext' (by simp)
      rw [e1] at h1 h2
      have hex : (execOp a.eval o).run P w = (do pure (.value (← Instr.buildSlice t len (ps.map fun (i, x) => (i, a.eval x)))) : Sem Next).run P w := by
        unfold execOp
        simp only [ho]
      rw [hex]
      obtain ⟨u, ob, n, hr, hob, hnv⟩ := h1
      have hpl : Plain ob := by obtain ⟨_, vs, rfl, _⟩ := hob; exact plain_cells _ _
      refine ⟨u, ob, n, hr, ?_, hpl⟩
      have hF := (freezeAll_rel fr H hh).1
      rw [hr] at h2
      injection h2 with h2 h3
      injection h2 with h2
      subst h2
      cases ln with
      | none => exact hnv.elim
      | some m =>
        obtain ⟨hl, cap, hu, hle, hmx, vs', ty', hobe, hsz⟩ := hnv
        injection hu with hu1 hu2 hu3
        subst hu2 hu3
        obtain ⟨q1, q2, q3, q4⟩ := new_ok (n := n) hF hob (u := .slice (some ⟨w.heap.size, 0, none⟩) len len) (ln := some len) ⟨hl, len, rfl, Nat.le_refl _, hmx, vs', ty', hobe, hsz⟩
        refine .csl sz xs _ _ ?_
        cases q4 with
        | osl _ _ _ _ ty2 sz2 xs2 fz2 ho2 hl2 hrow =>
          have hg : (freezeAll H fr ++ [AO.arr ty sz xs fz])[(freezeAll H fr).length]? = some (.arr ty sz xs fz) := by simp
          rw [hg] at ho2
          injection ho2 with ho2
          injection ho2 with e1 e2 e3 e4
          subst e1 e2 e3 e4
          exact row_rd q1 hg hl (hrow hl) (fun g hk => by
            rw [upd_same] at hk
            injection hk with hk
            exact stab_new hF (Nat.le_of_eq hk)) (fun b hb => stab_back hF _ hb)
    · cases h
  | _ =>
    simp only [ho] at h
    exact op_ok hh he h
/-- A box that the evaluator has made already is made. -/
theorem fill_ok (h : HRel κ H w U) {slot : Nat} {ty : TypeId} {z : List AV} (hk : κ slot = none) (ho : H[slot]? = some (.box ty z)) {ob : Obj} {u : Value} {n : Nat} (hob : ObjIs κ H w (Stab κ H U) (.box ty z) ob) (hu : NewVal w.heap.size (.box ty z) ob u none) :
    HRel (upd κ slot w.heap.size) H { w with heap := w.heap.push ob, drawn := w.drawn + n } U ∧ Ext κ H w (upd κ slot w.heap.size) H { w with heap := w.heap.push ob, drawn := w.drawn + n } ∧
      ∀ S, VRel (upd κ slot w.heap.size) H { w with heap := w.heap.push ob, drawn := w.drawn + n } S (.ptr slot 0) u := by
  have hpl : Plain ob := by obtain ⟨vs, rfl, _⟩ := hob; exact plain_cells _ _
  have he : Ext κ H w (upd κ slot w.heap.size) H { w with heap := w.heap.push ob, drawn := w.drawn + n } := {
    frz := frozen_push w hpl n
    os := rfl
    tape := rfl
    output := rfl
    size := by simp
    keep := fun b hb _ => getElem?_push_old _ _ _ hb
    shape := fun b hb => by simp only [World.shape?]; rw [getElem?_push_old _ _ _ hb]
    len := Nat.le_refl _
    objs := fun k o h => ⟨o, h, .refl o⟩
    old := fun k g o hk' _ _ => by
      have : k ≠ slot := by rintro rfl; rw [hk] at hk'; cases hk'
      rw [upd_ne _ this]; exact hk'
    oldA := fun k ty' sz xs fz xs' fz' ho' _ _ => by
      have : k ≠ slot := by rintro rfl; rw [ho] at ho'; injection ho' with ho'; cases ho'
      exact upd_ne _ this
    new := fun k g hk' => by
      by_cases e : k = slot
      · subst e; rw [upd_same] at hk'; injection hk' with hk'; exact .inr (Nat.le_of_eq hk')
      · rw [upd_ne _ e] at hk'; exact .inl hk' }
  obtain ⟨vs, rfl, hr⟩ := hob
  obtain rfl := hu
  refine ⟨h.mk' he (fun k g hk' => ?_) (fun k g hk' => ?_) (fun k k' g hk1 hk2 => ?_) (fun k g o hk' ho' => ?_), he, fun S => .ptr _ _ _ ty z (upd_same _ _ _) ho⟩
  · by_cases e : k = slot
    · subst e; exact (List.getElem?_eq_some_iff.1 ho).1
    · rw [upd_ne _ e] at hk'; exact h.dom k g hk'
  · by_cases e : k = slot
    · subst e; rw [upd_same] at hk'; injection hk' with hk'; simp; omega
    · rw [upd_ne _ e] at hk'; have := h.lt k g hk'; simp; omega
  · by_cases e : k = slot <;> by_cases e' : k' = slot
    · exact e.trans e'.symm
    · subst e; rw [upd_same] at hk1; rw [upd_ne _ e'] at hk2; injection hk1 with hk1; have := h.lt k' g hk2; omega
    · subst e'; rw [upd_same] at hk2; rw [upd_ne _ e] at hk1; injection hk2 with hk2; have := h.lt k g hk1; omega
    · rw [upd_ne _ e] at hk1; rw [upd_ne _ e'] at hk2; exact h.inj k k' g hk1 hk2
  · by_cases e : k = slot
    · subst e
      rw [upd_same] at hk'; injection hk' with hk'; subst hk'
      rw [ho] at ho'; injection ho' with ho'; subst ho'
      exact .inr ⟨vs, Array.getElem?_push_size, hr.on he h.dom h.lt⟩
    · rw [upd_ne _ e] at hk'
      exact .inl ⟨hk', ho', getElem?_push_old _ _ _ (h.lt k g hk')⟩

/-- Slots that are not read yet. -/
def hide (env : Env) (D : List Tmp) : Env := env.filter fun p => !D.contains p.1
theorem lookup_hide (D : List Tmp) (t : Nat) : ∀ (env : Env), lookup (hide env D) t = if t ∈ D then none else lookup env t
  | [] => by simp [hide, lookup]
  | (s, v) :: env => by
    have ih := lookup_hide D t env
    unfold hide at ih ⊢
    rw [List.filter_cons]
    by_cases hs : s ∈ D
    · simp only [List.contains_eq_mem, hs, decide_true, Bool.not_true, Bool.false_eq_true, if_false]
      simp only [List.contains_eq_mem] at ih
      rw [ih]
      by_cases ht : t ∈ D
      · rw [if_pos ht, if_pos ht]
      · rw [if_neg ht, if_neg ht]
        have : s ≠ t := fun e => ht (e ▸ hs)
        simp [lookup, this]
    · simp only [List.contains_eq_mem, hs, decide_false, Bool.not_false, if_true, lookup]
      simp only [List.contains_eq_mem] at ih
      by_cases e : s = t
      · subst e; rw [if_pos rfl, if_neg hs, if_pos rfl]
      · rw [if_neg e, if_neg e]; exact ih
theorem EnvOk.same {env env2 : Env} {a : Act} (h : EnvOk κ H w U env a) (hs : ∀ t v, lookup env2 t = some v → lookup env t = some v) : EnvOk κ H w U env2 a := fun t v hv => h t v (hs t v hv)
end
end Go.AE
