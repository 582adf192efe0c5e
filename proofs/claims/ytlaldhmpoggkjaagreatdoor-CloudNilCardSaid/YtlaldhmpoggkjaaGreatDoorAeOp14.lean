/- The abstract evaluator: each operation. -/
import Derived.Test.YtlaldhmpoggkjaaGreatDoorAeOp13
set_option autoImplicit false
set_option linter.unusedVariables false
set_option linter.unusedSimpArgs false
namespace Go.AE
section
variable {P : Program} {κ : Kp} {H H' : Heap} {w : World} {U : Nat → Prop}

theorem RetOk.prim {s : Sem Value} {e : Eff} (h : RetOk P κ H w (Stab κ H U) s e) : PrimOk P κ (freezeAll H e.frz) w U e.act ((do pure (.value (← s)) : Sem Next).run P w) := by
  obtain ⟨r, u, rfl, hr, hv⟩ := h
  exact prim_value hr hv
theorem bind_ret {x : Option AV} {e : Eff} (h : x.bind ret = some e) : ∃ v, x = some v ∧ e = ⟨[], .ret v⟩ := by
  obtain ⟨v, hv, h⟩ := bind_inv h
  exact ⟨v, hv, ret_inv h⟩
theorem opt_opd {env : Env} {a : Act} (he : EnvOk κ H w U env a) {lo : Option Operand} {r : Option AV} (h : (match lo with | none => some none | some l => (opd env l).map some) = some r) : ORelO κ H w (Stab κ H U) r (lo.map a.eval) := by
  cases lo with
  | none => simp only [Option.some.injEq] at h; subst h; simp [ORelO]
  | some l =>
    obtain ⟨v, hv, rfl⟩ := map_inv h
    have := opd_ok he hv
    simpa [ORelO] using this
theorem builtinAV_ok (hh : HRel κ H w U) {b : Builtin} {ts : List TypeId} {ty : TypeId} {cs : Array Bool} {vs : List AV} {us : List Value} {e : Eff} (h : builtinAV P (get H) b ts vs = some e) (hv : VRels κ H w (Stab κ H U) vs us) :
    PrimOk P κ (freezeAll H e.frz) w U e.act ((builtin b ts.toArray ty cs us.toArray).run P w) := by
  have one : ∀ {x : AV} {us : List Value}, VRels κ H w (Stab κ H U) [x] us → ∃ u, us = [u] ∧ VRel κ H w (Stab κ H U) x u := by
    intro x us hv
    match us, hv with
    | [u], hv => exact ⟨u, rfl, hv.2 0 _ _ rfl rfl⟩
    | [], hv => exact absurd hv.1 (by simp)
    | _ :: _ :: _, hv => exact absurd hv.1 (by simp)
  unfold builtinAV at h
  split at h
  · obtain ⟨u, rfl, hu⟩ := one hv
    exact (lenAV_ok h hu ty).prim
  · rename_i s x
    match us, hv with
    | [u, v], hv => exact appendAV_ok (ty := ty) hh h (hv.2 0 _ _ rfl rfl) (hv.2 1 _ _ rfl rfl)
    | [], hv => exact absurd hv.1 (by simp)
    | [_], hv => exact absurd hv.1 (by simp)
    | _ :: _ :: _ :: _, hv => exact absurd hv.1 (by simp)
  · rename_i x r
    obtain ⟨v, hm, rfl⟩ := bind_ret h
    cases us with
    | nil => exact absurd hv.1 (by simp)
    | cons u us =>
      obtain ⟨z, hz, hr⟩ := minAV_ok (P := P) (w := w) (f := Builtin.min2) (by intros; simp [Builtin.min2]) hm (hv.2 0 _ _ rfl rfl) (us := us) ⟨by simpa using hv.1, fun i c v hc hv' => hv.2 (i + 1) c v (by simpa using hc) (by simpa using hv')⟩
      exact prim_value (by simpa [Builtin.min_] using hz) hr
  · rename_i x r
    obtain ⟨v, hm, rfl⟩ := bind_ret h
    cases us with
    | nil => exact absurd hv.1 (by simp)
    | cons u us =>
      obtain ⟨z, hz, hr⟩ := minAV_ok (P := P) (w := w) (f := Builtin.max2) (by intros; simp [Builtin.max2]) hm (hv.2 0 _ _ rfl rfl) (us := us) ⟨by simpa using hv.1, fun i c v hc hv' => hv.2 (i + 1) c v (by simpa using hc) (by simpa using hv')⟩
      exact prim_value (by simpa [Builtin.max_] using hz) hr
  · cases h

theorem op_ok (hh : HRel κ H w U) {env : Env} {a : Act} (he : EnvOk κ H w U env a) {o : Oper} {e : Eff} (h : opEff P (get H) env o = some e) :
    PrimOk P κ (freezeAll H e.frz) w U e.act ((execOp a.eval o).run P w) := by
  unfold opEff at h
  unfold execOp
  cases ho : o.op with
  | move x =>
    simp only [ho] at h ⊢
    obtain ⟨v, hv, rfl⟩ := bind_ret h
    exact ⟨_, rfl, opd_ok he hv⟩
  | assign x =>
    simp only [ho] at h ⊢
    obtain ⟨v, hv, rfl⟩ := bind_ret h
    exact ⟨_, rfl, opd_ok he hv⟩
  | pick c x y =>
    simp only [ho] at h ⊢
    split at h
    · rename_i t hc
      obtain ⟨v, hv, rfl⟩ := bind_ret h
      have h1 := (opd_ok he hc).sc_inv
      refine ⟨a.eval (if t then x else y), ?_, opd_ok he hv⟩
      cases t <;> simp [h1, asBool]
    · cases h
  | alloc t =>
    simp only [ho] at h ⊢
    obtain ⟨z, hz, h⟩ := bind_inv h
    injection h with h; subst h
    exact alloc_ok hz
  | box t x =>
    simp only [ho] at h ⊢
    obtain ⟨v, hv, h⟩ := bind_inv h
    obtain ⟨cs, hcs, h⟩ := bind_inv h
    injection h with h; subst h
    exact box_ok hcs (opd_ok he hv)
  | build t ps =>
    simp only [ho] at h ⊢
    obtain ⟨vs, hv, h⟩ := bind_inv h
    have hp := parts_rel he hv
    have := (buildV_ok h hp).prim
    have e1 : (ps.toList.map fun p => (p.1, a.eval p.2)).toArray = ps.map fun (i, x) => (i, a.eval x) := Array.ext' (by simp)
    rw [e1] at this
    exact this
  | buildSlice t len ps =>
    simp only [ho] at h ⊢
    obtain ⟨vs, hv, h⟩ := bind_inv h
    have hp := parts_rel he hv
    have := (buildS_ok hh h hp).1
    have e1 : (ps.toList.map fun p => (p.1, a.eval p.2)).toArray = ps.map fun (i, x) => (i, a.eval x) := Array.ext' (by simp)
    rw [e1] at this
    exact this
  | load t p =>
    simp only [ho] at h ⊢
    obtain ⟨q, hq, h⟩ := bind_inv h
    obtain ⟨v, hv, rfl⟩ := bind_ret h
    obtain ⟨z, hz, hr⟩ := loadAV_ok hh hv (opd_ok he hq)
    exact prim_value hz hr
  | store t p x =>
    simp only [ho] at h ⊢
    obtain ⟨q, hq, h⟩ := bind_inv h
    obtain ⟨v, hv, h⟩ := bind_inv h
    exact storeAV_ok hh h (opd_ok he hq) (opd_ok he hv)
  | nilCheck x =>
    simp only [ho] at h ⊢
    obtain ⟨v, hv, h⟩ := bind_inv h
    have hr := opd_ok he hv
    generalize a.eval x = ux at hr
    split at h
    all_goals first | (cases h; done) | skip
    all_goals obtain rfl := ret_inv h
    all_goals cases hr
    all_goals exact ⟨_, rfl, by constructor <;> assumption⟩
  | binOp op t x y z =>
    simp only [ho] at h ⊢
    obtain ⟨u, hu, h⟩ := bind_inv h
    obtain ⟨v, hv, h⟩ := bind_inv h
    obtain ⟨r, hr, rfl⟩ := bind_ret h
    obtain ⟨z, hz, hrel⟩ := binAV_ok x y hr (opd_ok he hu) (opd_ok he hv)
    exact prim_value hz hrel
  | unOp op t x =>
    simp only [ho] at h ⊢
    obtain ⟨u, hu, h⟩ := bind_inv h
    obtain ⟨r, hr, rfl⟩ := bind_ret h
    obtain ⟨z, hz, hrel⟩ := unAV_ok (P := P) hr (opd_ok he hu)
    exact prim_value hz hrel
  | convert s t x =>
    simp only [ho] at h ⊢
    obtain ⟨u, hu, h⟩ := bind_inv h
    obtain ⟨r, hr, rfl⟩ := bind_ret h
    obtain ⟨z, hz, hrel⟩ := convAV_ok (P := P) hr (opd_ok he hu)
    exact prim_value hz hrel
  | makeFunc fn first caps =>
    cases fn with
    | func f =>
      simp only [ho] at h ⊢
      split at h
      · rename_i hz
        obtain ⟨cs, hcs, h⟩ := bind_inv h
        obtain rfl := ret_inv h
        have hrs := opds_ok he hcs
        obtain rfl : first = #[] := Array.size_eq_zero_iff.1 hz
        refine ⟨.func (.func f) #[] (caps.map a.eval), by simp [Instr.makeFunc], .fn f cs _ (by simpa using hrs.1) fun i c v hc hv => hrs.2 i c v hc (by simpa using hv)⟩
      · cases h
    | _ => simp only [ho] at h; cases h
  | makeMap t r =>
    cases r with
    | none =>
      simp only [ho] at h ⊢
      split at h
      · injection h with h; subst h
        exact makeMap_ok
      · cases h
    | some r => simp only [ho] at h; cases h
  | makeSlice t l c =>
    simp only [ho] at h ⊢
    obtain ⟨l', hl, h⟩ := bind_inv h
    obtain ⟨c', hc, h⟩ := bind_inv h
    exact makeSlice_ok h (opd_ok he hl) (opd_ok he hc)
  | slice t x lo hi mx =>
    simp only [ho] at h ⊢
    obtain ⟨x', hx, h⟩ := bind_inv h
    obtain ⟨lo', hlo, h⟩ := bind_inv h
    obtain ⟨hi', hhi, h⟩ := bind_inv h
    obtain ⟨mx', hmx, h⟩ := bind_inv h
    obtain ⟨r, z, h1, h2, h3⟩ := sliceV_ok (P := P) hh h (opd_ok he hx) (opt_opd he hlo) (opt_opd he hhi) (opt_opd he hmx)
    rw [h1]
    exact prim_value h2 h3
  | fieldAddr t x i =>
    simp only [ho] at h ⊢
    obtain ⟨v, hv, h⟩ := bind_inv h
    exact (fieldP_ok h (opd_ok he hv)).prim
  | field t x i =>
    simp only [ho] at h ⊢
    obtain ⟨v, hv, h⟩ := bind_inv h
    exact (fieldV_ok h (opd_ok he hv)).prim
  | indexAddr t x ix =>
    simp only [ho] at h ⊢
    obtain ⟨v, hv, h⟩ := bind_inv h
    obtain ⟨i, hi, h⟩ := bind_inv h
    exact (indexP_ok hh h (opd_ok he hv) (opd_ok he hi)).prim
  | index t x ix =>
    simp only [ho] at h ⊢
    obtain ⟨v, hv, h⟩ := bind_inv h
    obtain ⟨i, hi, h⟩ := bind_inv h
    exact (indexV_ok h (opd_ok he hv) (opd_ok he hi)).prim
  | lookup t m k ok =>
    simp only [ho] at h ⊢
    obtain ⟨v, hv, h⟩ := bind_inv h
    obtain ⟨i, hi, h⟩ := bind_inv h
    exact (lookupAV_ok hh h (opd_ok he hv) (opd_ok he hi)).prim
  | mapUpdate t m k x =>
    simp only [ho] at h ⊢
    obtain ⟨v, hv, h⟩ := bind_inv h
    obtain ⟨i, hi, h⟩ := bind_inv h
    obtain ⟨y, hy, h⟩ := bind_inv h
    exact updateAV_ok hh h (opd_ok he hv) (opd_ok he hi) (opd_ok he hy)
  | extract x i =>
    simp only [ho] at h ⊢
    obtain ⟨v, hv, h⟩ := bind_inv h
    have hr := opd_ok he hv
    split at h
    · obtain ⟨c, hc, rfl⟩ := bind_ret h
      obtain ⟨vs, hev, hrs⟩ := hr.tup_inv
      obtain ⟨u, hu, hru⟩ := hrs.get hc
      exact prim_value (by rw [hev]; simp only [Instr.extract]; rw [Array.getElem?_toList] at hu; rw [hu]; rfl) hru
    · cases h
  | call c =>
    simp only [ho] at h ⊢
    cases hc : c.callee with
    | builtin b =>
      simp only [hc] at h
      obtain ⟨vs, hvs, h⟩ := bind_inv h
      have := builtinAV_ok (ty := o.type) (cs := c.args.map fun | .const _ => true | _ => false) hh h (opds_ok he hvs)
      have e1 : (c.args.toList.map a.eval).toArray = c.args.map a.eval := Array.ext' (by simp)
      rw [e1] at this
      simp only [resolve, hc, Sem.run_bind, Sem.run_pure, Result.andThen_ok, invoke]
      exact this
    | value f =>
      simp only [hc] at h
      obtain ⟨fv, hf, h⟩ := bind_inv h
      obtain ⟨vs, hvs, h⟩ := bind_inv h
      split at h
      · injection h with h; subst h
        obtain ⟨us, hev, hus⟩ := (opd_ok he hf).fn_inv
        have hrs := opds_ok he hvs
        refine ⟨c.args.toList.map a.eval ++ us.toList, ?_, hrs.append hus⟩
        have e1 : (c.args.toList.map a.eval ++ us.toList).toArray = c.args.map a.eval ++ us := Array.ext' (by simp)
        rw [e1]
        simp [resolve, hc, hev, Deferred.ofValue, invoke]
      · cases h
    | invoke x m => simp only [hc] at h; cases h
  | _ => simp only [ho] at h; cases h
end
end Go.AE
