/- The abstract evaluator: regions in their own order. -/
import Derived.Test.YtlaldhmpoggkjaaGreatDoorAeStep
set_option autoImplicit false
set_option linter.unusedVariables false
set_option linter.unusedSimpArgs false
namespace Go.AE
section
variable {P : Program} {κ κ' : Kp} {H H' : Heap} {w w' : World} {U : Nat → Prop}

/-- Where the machine stands, told by the evaluator. -/
structure At (κ : Kp) (H : Heap) (w : World) (U : Nat → Prop) (nt : Nat) (env : Env) (a : Act) : Prop where
  rel : HRel κ H w U
  env : EnvOk κ H w U env a
  size : a.tmps.size = nt
  defers : a.defers = []
/-- What has come of the start. -/
structure Since (κ0 : Kp) (H0 : Heap) (w0 : World) (κ : Kp) (H : Heap) (w : World) : Prop where
  ext : Ext κ0 H0 w0 κ H w
  dead : Dead κ0 H0 κ H
theorem Since.refl (κ : Kp) (H : Heap) (w : World) : Since κ H w κ H w := ⟨.refl _ _ _, .refl _ _⟩
theorem Since.trans {κ0 κ1 κ2 : Kp} {H0 H1 H2 : Heap} {w0 w1 w2 : World} (h : Since κ0 H0 w0 κ1 H1 w1) (k : Since κ1 H1 w1 κ2 H2 w2) (hd : ∀ k g, κ0 k = some g → k < H0.length) : Since κ0 H0 w0 κ2 H2 w2 :=
  ⟨h.ext.trans k.ext hd, h.dead.trans k.dead⟩

theorem lookup_bind (env : Env) (dst : Option Tmp) (v : AV) (t : Nat) : lookup (bindD env dst v) t = if dst = some t then some v else lookup env t := by
  cases dst with
  | none => simp [bindD]
  | some d => simp [bindD, lookup]
theorem tmps_put (a : Act) (dst : Option Tmp) (u : Value) (t : Nat) (hd : ∀ d, dst = some d → d < a.tmps.size) : (a.put dst u).tmps[t]? = if dst = some t then some u else a.tmps[t]? := by
  cases dst with
  | none => simp [Act.put]
  | some d =>
    by_cases e : d = t
    · subst e; simp [Act.put, hd d rfl]
    · simp [Act.put, Array.getElem?_setIfInBounds, e]
theorem put_size (a : Act) (dst : Option Tmp) (u : Value) : (a.put dst u).tmps.size = a.tmps.size := by cases dst <;> simp [Act.put]
theorem put_defers (a : Act) (dst : Option Tmp) (u : Value) : (a.put dst u).defers = a.defers := by cases dst <;> rfl
theorem EnvOk.on {env : Env} {a : Act} (he : EnvOk κ H w U env a) (hx : Ext κ H w κ' H' w') (hh : HRel κ H w U) : EnvOk κ' H' w' U env a := fun t v h => by
  obtain ⟨u, h1, h2⟩ := he t v h
  exact ⟨u, h1, h2.on hx hh.dom hh.lt⟩
theorem EnvOk.put {env : Env} {a : Act} {dst : Option Tmp} {v : AV} {u : Value} (he : EnvOk κ H w U env a) (hv : VRel κ H w (Stab κ H U) v u) (hd : ∀ d, dst = some d → d < a.tmps.size) : EnvOk κ H w U (bindD env dst v) (a.put dst u) := by
  intro t x h
  rw [lookup_bind] at h
  rw [tmps_put _ _ _ _ hd]
  split at h
  · rename_i e
    injection h with h
    subst h
    exact ⟨u, by rw [if_pos e], hv⟩
  · rename_i e
    rw [if_neg e]
    exact he t x h
theorem guard_ok {ops : List Oper} {env : Env} {a : Act} (he : EnvOk κ H w U env a) {o : Oper} {b : Bool} (h : guardOk ops env o = some b) : Region.wanted o (yielded ops.toArray a.tmps) = b := by
  unfold guardOk at h
  unfold Region.wanted
  split at h
  · rename_i hg
    injection h with h
    rw [hg]
    exact h
  · rename_i j want hg
    rw [hg]
    split at h
    · rename_i t ht
      have hy : yielded ops.toArray a.tmps j = match a.tmps[t]? with | some (.bool b) => some b | _ => none := by
        simp only [yielded, List.getElem?_toArray, ht, Option.bind_some]
        rfl
      split at h
      · rename_i c hl
        injection h with h
        obtain ⟨u, h1, h2⟩ := he t _ hl
        obtain rfl := h2.sc_inv
        simp only [hy, h1]
        rw [← h]
        cases c <;> cases want <;> rfl
      · rename_i hl
        injection h with h
        obtain ⟨u, h1, h2⟩ := he t _ hl
        cases h2 with
        | un =>
          simp only [hy, h1]
          rw [← h]
          cases want <;> rfl
      · cases h
    · cases h
theorem lookup_drop (dst : Option Tmp) (t : Nat) (v : AV) : ∀ env : Env, lookup (dropT env dst) t = some v → dst ≠ some t ∧ lookup env t = some v
  | [], h => by simp [dropT, lookup] at h
  | (s, x) :: env, h => by
    simp only [dropT, List.filter_cons] at h
    split at h
    · rename_i hs
      simp only [lookup] at h ⊢
      split at h
      · rename_i e
        subst e
        refine ⟨fun hd => ?_, by rw [if_pos rfl]; exact h⟩
        subst hd
        simp at hs
      · rename_i e
        rw [if_neg e]
        exact lookup_drop dst t v env h
    · rename_i hs
      obtain ⟨h1, h2⟩ := lookup_drop dst t v env h
      refine ⟨h1, ?_⟩
      simp only [lookup]
      rw [if_neg ?_]
      · exact h2
      · intro e
        subst e
        apply hs
        simp only [Bool.not_eq_true', beq_eq_false_iff_ne]
        exact fun e => h1 e.symm
theorem EnvOk.drop {env : Env} {a : Act} {dst : Option Tmp} {u : Value} (he : EnvOk κ H w U env a) (hd : ∀ d, dst = some d → d < a.tmps.size) : EnvOk κ H w U (dropT env dst) (a.put dst u) := by
  intro t x h
  obtain ⟨h1, h2⟩ := lookup_drop dst t x env h
  obtain ⟨u', q1, q2⟩ := he t x h2
  exact ⟨u', by rw [tmps_put _ _ _ _ hd, if_neg h1]; exact q1, q2⟩
theorem prim_idle {e : Eff} {r : Result Next} (hp : PrimOk P κ (freezeAll H e.frz) w U e.act r) {v : AV} (ha : e.act = .ret v) {o : Oper} {a : Act} {next : Act → World → Prop} {Q : Exit → Act → World → Prop}
    (hn : ∀ u, next (a.put o.dst u) w) : o.upon P a next Q r := by
  rw [ha] at hp
  obtain ⟨u, rfl, _⟩ := hp
  exact hn u
theorem dsts_lt {nt : Nat} {ops : List Oper} (h : dstsOk nt ops = true) {o : Oper} (ho : o ∈ ops) : ∀ d, o.dst = some d → d < nt := by
  intro d hd
  have := List.all_eq_true.1 h o ho
  simpa [hd] using this

theorem runOps_ok {C : Cfg} {callE : CallE} (hs : Sound C.P callE) {ops : List Oper} {nt : Nat} {Q : Exit → Act → World → Prop} : ∀ {l : List Oper} {env env' : Env} {κ : Kp} {H H' : Heap} {w : World} {a : Act}, runOps C callE ops l env H = some (env', H') → dstsOk nt l = true → At κ H w U nt env a →
    (∀ κ' w' a', At κ' H' w' U nt env' a' → Since κ H w κ' H' w' → Q .normal a' w') → wpList C.P ops.toArray Q l a w
  | [], env, env', κ, H, H', w, a, h, hd, hat, hq => by
    simp only [runOps, Option.some.injEq, Prod.mk.injEq] at h
    obtain ⟨rfl, rfl⟩ := h
    exact hq κ w a hat (.refl _ _ _)
  | o :: l, env, env', κ, H, H', w, a, h, hd, hat, hq => by
    simp only [runOps] at h
    split at h
    · rename_i env1 H1 h1
      have hdo : ∀ d, o.dst = some d → d < a.tmps.size := by rw [hat.size]; exact dsts_lt hd (List.mem_cons_self ..)
      have hdl : dstsOk nt l = true := by
        simp only [dstsOk, List.all_cons, Bool.and_eq_true] at hd ⊢
        exact hd.2
      unfold oneOp at h1
      split at h1
      · rename_i hg
        split at h1
        · rename_i e he
          split at h1
          · split at h1
            · rename_i v ha
              simp only [Option.some.injEq, Prod.mk.injEq] at h1
              obtain ⟨rfl, rfl⟩ := h1
              unfold wpList
              rw [guard_ok hat.env hg, if_pos rfl]
              refine .inl (prim_idle (op_ok hat.rel hat.env he) ha fun u => ?_)
              refine runOps_ok hs h hdl ⟨hat.rel, hat.env.drop hdo, (put_size _ _ _).trans hat.size, (put_defers _ _ _).trans hat.defers⟩ fun κ'' w'' a'' r1 r2 => ?_
              exact hq κ'' w'' a'' r1 r2
            · cases h1
          split at h1
          · rename_i v H2 ha
            simp only [Option.some.injEq, Prod.mk.injEq] at h1
            obtain ⟨rfl, rfl⟩ := h1
            unfold wpList
            rw [guard_ok hat.env hg, if_pos rfl]
            refine .inl (prim_step hs hat.rel (op_ok hat.rel hat.env he) ha fun κ' w' u q1 q2 q3 q4 => ?_)
            refine runOps_ok hs h hdl ⟨q1, (hat.env.on q2 hat.rel).put q4 hdo, (put_size _ _ _).trans hat.size, (put_defers _ _ _).trans hat.defers⟩ fun κ'' w'' a'' r1 r2 => ?_
            exact hq κ'' w'' a'' r1 (Since.trans ⟨q2, q3⟩ r2 hat.rel.dom)
          · cases h1
        · cases h1
      · rename_i hg
        simp only [Option.some.injEq, Prod.mk.injEq] at h1
        obtain ⟨rfl, rfl⟩ := h1
        unfold wpList
        rw [guard_ok hat.env hg, if_neg (by simp)]
        exact runOps_ok hs h hdl ⟨hat.rel, hat.env.put .un hdo, (put_size _ _ _).trans hat.size, (put_defers _ _ _).trans hat.defers⟩ hq
      · cases h1
    · cases h
end
end Go.AE
