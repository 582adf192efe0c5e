/- The abstract evaluator: what an operation looks at. -/
import Derived.Test.YtlaldhmpoggkjaaGreatDoorAeRegion
set_option autoImplicit false
set_option linter.unusedVariables false
set_option linter.unusedSimpArgs false
namespace Go.AE
section
variable {P : Program} {C : Cfg} {callE : CallE} {env env' : Env} {H H' : Heap} {hf : HF}

theorem opds_congr : ∀ {xs : List Operand}, (∀ x ∈ xs, opd env x = opd env' x) → opds env xs = opds env' xs
  | [], _ => rfl
  | x :: xs, h => by
    simp only [opds]
    rw [h x (List.mem_cons_self ..), opds_congr fun y hy => h y (List.mem_cons_of_mem _ hy)]
theorem parts_congr : ∀ {xs : List (Nat × Operand)}, (∀ x ∈ xs, opd env x.2 = opd env' x.2) → parts env xs = parts env' xs
  | [], _ => rfl
  | (n, x) :: xs, h => by
    simp only [parts]
    rw [h (n, x) (List.mem_cons_self ..), parts_congr fun y hy => h y (List.mem_cons_of_mem _ hy)]
theorem opEff_congr {o : Oper} (h : ∀ x ∈ o.op.operands, opd env x = opd env' x) : opEff P hf env o = opEff P hf env' o := by
  unfold opEff
  cases ho : o.op with
  | build t ps =>
    simp only [ho, Op.operands] at h ⊢
    rw [parts_congr fun x hx => h x.2 (by simpa using ⟨x.1, Array.mem_toList_iff.1 hx⟩)]
  | buildSlice t n ps =>
    simp only [ho, Op.operands] at h ⊢
    rw [parts_congr fun x hx => h x.2 (by simpa using ⟨x.1, Array.mem_toList_iff.1 hx⟩)]
  | pick c a b =>
    simp only [ho, Op.operands] at h ⊢
    rw [h c (by simp)]
    have : ∀ t : Bool, opd env (if t then a else b) = opd env' (if t then a else b) := fun t => by cases t <;> simp [h a (by simp), h b (by simp)]
    simp only [this]
  | makeFunc fn first caps =>
    cases fn with
    | func f =>
      simp only [ho, Op.operands] at h ⊢
      rw [opds_congr fun x hx => h x (by simp [Array.mem_toList_iff.1 hx])]
    | _ => rfl
  | makeMap t r => cases r <;> rfl
  | slice t x lo hi mx =>
    simp only [ho, Op.operands] at h ⊢
    rw [h x (by simp)]
    cases lo <;> cases hi <;> cases mx <;> simp_all
  | call c =>
    simp only [ho, Op.operands, Call.operands] at h ⊢
    have hargs : opds env c.args.toList = opds env' c.args.toList := opds_congr fun x hx => h x (by simp [Array.mem_toList_iff.1 hx])
    cases hc : c.callee with
    | builtin b => simp only [hargs]
    | value f => rw [hc] at h; simp only [hargs, h f (by simp)]
    | invoke x m => rfl
  | _ =>
    simp only [ho, Op.operands] at h ⊢
    try simp_all
theorem lookAt {ops : Array Oper} {o : Oper} (h : ∀ t ∈ o.looksAt ops, lookup env t = lookup env' t) : ∀ x ∈ o.op.operands, opd env x = opd env' x := by
  intro x hx
  cases x with
  | tmp t => exact h t (List.mem_append_left _ (List.mem_filterMap.2 ⟨.tmp t, by simpa using hx, rfl⟩))
  | _ => rfl
theorem opEffD_congr {ops : Array Oper} {o : Oper} (h : ∀ t ∈ o.looksAt ops, lookup env t = lookup env' t) : opEffD P hf env o = opEffD P hf env' o := by
  have h1 := lookAt h
  unfold opEffD
  cases ho : o.op with
  | buildSlice t n ps =>
    simp only [ho, Op.operands] at h1 ⊢
    rw [parts_congr fun x hx => h1 x.2 (by simpa using ⟨x.1, Array.mem_toList_iff.1 hx⟩)]
  | _ => exact opEff_congr h1
theorem guardOk_congr {ops : List Oper} {o : Oper} (h : ∀ t ∈ o.looksAt ops.toArray, lookup env t = lookup env' t) : guardOk ops env o = guardOk ops env' o := by
  unfold guardOk
  cases hg : o.guard with
  | none => rfl
  | some gw =>
    obtain ⟨j, want⟩ := gw
    cases ht : (ops[j]?).bind (·.dst) with
    | none => simp only [ht]
    | some t =>
      have : t ∈ o.looksAt ops.toArray := List.mem_append_right _ (by simp [hg, ht])
      simp only [ht, h t this]
theorem readId_congr {ops : Array Oper} {o : Oper} (h : ∀ t ∈ o.looksAt ops, lookup env t = lookup env' t) : readId env o = readId env' o := by
  have h1 := lookAt h
  unfold readId
  cases ho : o.op with
  | load t p => simp only [ho, Op.operands] at h1 ⊢; rw [h1 p (by simp)]
  | indexAddr t x i => simp only [ho, Op.operands] at h1 ⊢; rw [h1 x (by simp)]
  | buildSlice t n ps =>
    simp only [ho, Op.operands] at h1 ⊢
    rw [parts_congr fun x hx => h1 x.2 (by simpa using ⟨x.1, Array.mem_toList_iff.1 hx⟩)]
  | _ => rfl
theorem itemEff_congr {ops : List Oper} {o : Oper} (h : ∀ t ∈ o.looksAt ops.toArray, lookup env t = lookup env' t) : itemEff C callE ops o env H = itemEff C callE ops o env' H := by
  unfold itemEff
  rw [guardOk_congr h, opEffD_congr h, readId_congr h]

/-! ### What a quiet operation reads -/
def Agree (h h' : HF) (k : Nat) : Prop := h' k = h k ∨ ∃ ty sz xs f f', h k = some (.arr ty sz xs f) ∧ h' k = some (.arr ty sz xs f')
theorem Agree.symm {h h' : HF} {k : Nat} (a : Agree h h' k) : Agree h' h k := by
  rcases a with a | ⟨ty, sz, xs, f, f', h1, h2⟩
  · exact .inl a.symm
  · exact .inr ⟨ty, sz, xs, f', f, h2, h1⟩
theorem Agree.trans {h h' h'' : HF} {k : Nat} (a : Agree h h' k) (b : Agree h' h'' k) : Agree h h'' k := by
  rcases a with a | ⟨ty, sz, xs, f, f', h1, h2⟩
  · rcases b with b | ⟨ty, sz, xs, f, f', h1, h2⟩
    · exact .inl (b.trans a)
    · exact .inr ⟨ty, sz, xs, f, f', a ▸ h1, h2⟩
  · rcases b with b | ⟨ty', sz', xs', g, g', h1', h2'⟩
    · exact .inr ⟨ty, sz, xs, f, f', h1, b.trans h2⟩
    · rw [h2] at h1'; injection h1' with h1'; injection h1' with e1 e2 e3 e4; subst e1 e2 e3 e4
      exact .inr ⟨ty, sz, xs, f, g', h1, h2'⟩
theorem loadAV_agree {h h' : HF} {t : TypeId} {p : AV} (ha : ∀ k, (∃ off, p = .ptr k off) ∨ (∃ len i off, p = .ap k len i off) → Agree h h' k) : loadAV P h' t p = loadAV P h t p := by
  unfold loadAV
  split
  · rename_i k off
    rcases ha k (.inl ⟨off, rfl⟩) with a | ⟨ty, sz, xs, f, f', h1, h2⟩
    · rw [a]
    · rw [h1, h2]
  · rename_i k len i off
    rcases ha k (.inr ⟨len, i, off, rfl⟩) with a | ⟨ty, sz, xs, f, f', h1, h2⟩
    · rw [a]
    · rw [h1, h2]
  · rfl
  · rfl
theorem indexP_agree {h h' : HF} {t : TypeId} {x ix : AV} (ha : ∀ k, (∃ len, x = .osl k len) → Agree h h' k) : indexP P h' t x ix = indexP P h t x ix := by
  unfold indexP
  cases x with
  | osl k len =>
    rcases ha k ⟨len, rfl⟩ with a | ⟨ty, sz, xs, f, f', h1, h2⟩
    · simp only [a]
    · simp only [h1, h2]
  | d y => cases y <;> rfl
  | _ => rfl
def flat1 : AV → Bool
  | .d _ | .csl _ _ => true
  | _ => false
theorem cellsD_flat {h h' : HF} : ∀ {cs : List AV}, cs.all flat1 = true → cellsD h' cs = cellsD h cs
  | [], _ => rfl
  | c :: cs, hc => by
    simp only [List.all_cons, Bool.and_eq_true] at hc
    have : cellD h' c = cellD h c := by cases c <;> first | rfl | cases hc.1
    simp only [cellsD, this, cellsD_flat (h := h) (h' := h') hc.2]
theorem rep_flat {cs : List AV} (h : cs.all flat1 = true) : ∀ n, (rep cs n).all flat1 = true
  | 0 => rfl
  | n + 1 => by simp only [rep, List.all_append, h, rep_flat h n, Bool.and_self]
theorem fillD_flat {place : Nat → Option (Nat × Nat)} : ∀ {ps : List (Nat × AV)} {cs r : List AV}, fillD place cs ps = some r → cs.all flat1 = true → ps.all (fun p => noRow p.2) = true → r.all flat1 = true
  | [], cs, r, h, hc, _ => by simp only [fillD, Option.some.injEq] at h; subst h; exact hc
  | (i, x) :: ps, cs, r, h, hc, hp => by
    simp only [List.all_cons, Bool.and_eq_true] at hp
    simp only [fillD] at h
    split at h
    · cases h
    · split at h
      · rename_i vs hvs
        split at h
        · refine fillD_flat h ?_ hp.2
          have hvf : vs.all flat1 = true := by
            cases x with
            | agg l =>
              simp only [AV.cells?] at hvs
              split at hvs
              · injection hvs with hvs
                subst hvs
                refine List.all_eq_true.2 fun c hcm => ?_
                have := List.all_eq_true.1 hp.1 c hcm
                cases c <;> first | rfl | cases this
              · cases hvs
            | d y => simp only [AV.cells?] at hvs; split at hvs <;> first | (injection hvs with hvs; subst hvs; rfl) | cases hvs
            | csl a b => simp only [AV.cells?] at hvs; split at hvs <;> first | (injection hvs with hvs; subst hvs; rfl) | cases hvs
            | _ => cases hp.1
          refine List.all_eq_true.2 fun c hcm => ?_
          unfold splice at hcm
          simp only [List.mem_append] at hcm
          rcases hcm with (hcm | hcm) | hcm
          · exact List.all_eq_true.1 hc c (List.mem_of_mem_take hcm)
          · exact List.all_eq_true.1 hvf c hcm
          · exact List.all_eq_true.1 hc c (List.mem_of_mem_drop hcm)
        · cases h
      · cases h
theorem buildS_flat {h h' : HF} {t : TypeId} {n : Nat} {ps : List (Nat × AV)} (hp : ps.all (fun p => noRow p.2) = true) : buildS P h' t n ps = buildS P h t n ps := by
  unfold buildS
  split
  · rfl
  · split
    · split
      · rfl
      · split
        · rename_i hz _ _ cs hf
          obtain ⟨ds, _, rfl⟩ := map_inv hz
          have hz0 : (List.map AV.d ds).all flat1 = true := List.all_eq_true.2 fun c hc => by
            obtain ⟨d, _, rfl⟩ := List.mem_map.1 hc
            rfl
          have hzf := rep_flat hz0 n
          rw [cellsD_flat (h := h) (h' := h') (fillD_flat hf hzf hp)]
        · rfl
    · rfl
/-- A quiet operation tells the same of a heap that is the same where it reads. -/
theorem quiet_local {o : Oper} {e : Eff} {v : AV} {rd : Option Nat} (h : opEffD P (get H) env o = some e) (hq : quiet e = some v) (hr : readId env o = some rd) (ha : ∀ k, rd = some k → Agree (get H) (get H') k) :
    opEffD P (get H') env o = some e := by
  unfold opEffD at h ⊢
  unfold readId at hr
  cases ho : o.op with
  | buildSlice t n ps =>
    simp only [ho] at h hr ⊢
    split at hr
    · rename_i vs hvs
      split at hr
      · rename_i hall
        rw [hvs] at h ⊢
        simp only [Option.bind_some] at h ⊢
        rw [buildS_flat (h := get H) (h' := get H') hall]
        exact h
      · cases hr
    · cases hr
  | load t p =>
    simp only [ho] at hr
    simp only [ho, opEff] at h ⊢
    obtain ⟨x, hx, h⟩ := bind_inv h
    rw [hx] at hr ⊢
    simp only [Option.bind_some] at h ⊢
    rw [loadAV_agree (h := get H) (h' := get H')]
    · exact h
    · rintro k (⟨off, rfl⟩ | ⟨len, i, off, rfl⟩) <;> (simp only [Option.some.injEq] at hr; exact ha k hr.symm)
  | indexAddr t x i =>
    simp only [ho] at hr
    simp only [ho, opEff] at h ⊢
    obtain ⟨y, hy, h⟩ := bind_inv h
    obtain ⟨z, hz, h⟩ := bind_inv h
    rw [hy] at hr
    rw [hy, hz]
    simp only [Option.bind_some] at h ⊢
    rw [indexP_agree (h := get H) (h' := get H')]
    · exact h
    · rintro k ⟨len, rfl⟩; simp only [Option.some.injEq] at hr; exact ha k hr.symm
  | move _ => simpa only [ho, opEff] using h
  | assign _ => simpa only [ho, opEff] using h
  | pick _ _ _ => simpa only [ho, opEff] using h
  | build _ _ => simpa only [ho, opEff] using h
  | nilCheck _ => simpa only [ho, opEff] using h
  | binOp _ _ _ _ _ => simpa only [ho, opEff] using h
  | unOp _ _ _ => simpa only [ho, opEff] using h
  | convert _ _ _ => simpa only [ho, opEff] using h
  | makeFunc fn _ _ => cases fn <;> simpa only [ho, opEff] using h
  | fieldAddr _ _ _ => simpa only [ho, opEff] using h
  | field _ _ _ => simpa only [ho, opEff] using h
  | index _ _ _ => simpa only [ho, opEff] using h
  | extract _ _ => simpa only [ho, opEff] using h
  | _ => simp only [ho] at hr; cases hr
end
end Go.AE
