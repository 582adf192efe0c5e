/- The abstract evaluator: what it says is so. -/
import Derived.Test.YtlaldhmpoggkjaaGreatDoorAeEval
set_option autoImplicit false
set_option linter.unusedVariables false
set_option linter.unusedSimpArgs false
namespace Go.AE
section
variable {C : Cfg} {callE : CallE} {κ : Kp} {H : Heap} {w : World} {U : Nat → Prop} {nt : Nat}

/-! ### Loops -/
theorem least {p : Nat → Prop} (h : ∃ n, p n) : ∃ n, p n ∧ ∀ m, p m → n ≤ m := by
  obtain ⟨n, hn⟩ := h
  induction n using Nat.strongRecOn with
  | _ n ih =>
    by_cases hm : ∃ m, m < n ∧ p m
    · obtain ⟨m, h1, h2⟩ := hm
      exact ih m h1 h2
    · refine ⟨n, hn, fun m hp => ?_⟩
      rcases Nat.lt_or_ge m n with h1 | h1
      · exact absurd ⟨m, h1, hp⟩ hm
      · exact h1
theorem wp_loop_fuel {P : Program} {c : Code} {Q : Exit → Act → World → Prop} {a : Act} {R : Nat → Act → World → Prop} (n : Nat) (h0 : R n a w)
    (round : ∀ n a w, R n a w → c.wp P (Exit.then (fun a' w' => ∃ m, m < n ∧ R m a' w') Q) a w) : (Code.loop c).wp P Q a w := by
  classical
  let μ : Act → World → Nat := fun a w => if h : ∃ n, R n a w then Classical.choose (least h) else 0
  refine wp_loop (fun a w => ∃ n, R n a w) μ ⟨n, h0⟩ fun a w hI => ?_
  have hμ : μ a w = Classical.choose (least hI) := dif_pos hI
  have hspec := Classical.choose_spec (least hI)
  rw [← hμ] at hspec
  refine wp_mono (round (μ a w) a w hspec.1) fun e a' w' hq => ?_
  cases e with
  | normal =>
    obtain ⟨m, hlt, hR⟩ := hq
    have hI' : ∃ n, R n a' w' := ⟨m, hR⟩
    refine ⟨hI', Nat.lt_of_le_of_lt ?_ hlt⟩
    have hμ' : μ a' w' = Classical.choose (least hI') := dif_pos hI'
    rw [hμ']
    exact (Classical.choose_spec (least hI')).2 m hR
  | _ => exact hq

/-! ### Results -/
theorem result1_ok {env : Env} {a : Act} (hat : At κ H w U nt env a) {r : ResultVar} {v : AV} (h : result1 C.P H env r = some v) :
    ∃ u, (match r with | .tmp t => (pure (a.tmps.getD t undef) : Sem Value) | .cell b t => do loadVar t (← asAddr (a.tmps.getD b undef))).run C.P w = .ok u w ∧ VRel κ H w (Stab κ H U) v u := by
  cases r with
  | tmp t =>
    simp only [result1] at h
    obtain ⟨u, h1, h2⟩ := hat.env t v h
    exact ⟨u, by simp [Array.getD_eq_getD_getElem?, h1], h2⟩
  | cell b t =>
    simp only [result1] at h
    obtain ⟨p, hp, h⟩ := bind_inv h
    obtain ⟨u, h1, h2⟩ := hat.env b p hp
    obtain ⟨z, h3, h4⟩ := loadAV_ok hat.rel h h2
    refine ⟨z, ?_, h4⟩
    have e : a.tmps.getD b undef = u := by simp [Array.getD_eq_getD_getElem?, h1]
    simp only [e]
    cases u with
    | pointer q =>
      cases q with
      | none => simp [Instr.loadAt, Instr.sureAddr] at h3
      | some q => simpa [Instr.loadAt, Instr.sureAddr, asAddr] using h3
    | _ => simp [Instr.loadAt, Instr.sureAddr] at h3
theorem resultsL_ok {env : Env} {a : Act} (hat : At κ H w U nt env a) : ∀ {rs : List ResultVar} {vs : List AV}, resultsL C.P H env rs = some vs →
    ∃ us, (rs.mapM fun (r : ResultVar) => (match r with | .tmp t => (pure (a.tmps.getD t undef) : Sem Value) | .cell b t => do loadVar t (← asAddr (a.tmps.getD b undef)))).run C.P w = .ok us w ∧ VRels κ H w (Stab κ H U) vs us
  | [], vs, h => by
    simp only [resultsL, Option.some.injEq] at h
    subst h
    exact ⟨[], by simp, .nil⟩
  | r :: rs, vs, h => by
    simp only [resultsL] at h
    split at h
    · rename_i v hv
      split at h
      · rename_i vs' hvs
        injection h with h
        subst h
        obtain ⟨u, h1, h2⟩ := result1_ok hat hv
        obtain ⟨us, h3, h4⟩ := resultsL_ok hat hvs
        exact ⟨u :: us, by simp only [List.mapM_cons, Sem.run_bind, h1, Result.andThen_ok, h3, Sem.run_pure], .cons h2 h4⟩
      · cases h
    · cases h
theorem results_ok {env : Env} {a : Act} (hat : At κ H w U nt env a) {fn : Func} {v : AV} (h : resultAV C.P H env fn.results.toList = some v) :
    ∃ u, (results fn a.tmps).run C.P w = .ok u w ∧ VRel κ H w (Stab κ H U) v u := by
  unfold resultAV at h
  have key : ∀ {vs : List AV} {us : List Value}, (fn.results.toList.mapM fun (r : ResultVar) => (match r with | .tmp t => (pure (a.tmps.getD t undef) : Sem Value) | .cell b t => do loadVar t (← asAddr (a.tmps.getD b undef)))).run C.P w = .ok us w →
      (results fn a.tmps).run C.P w = .ok (if h : us.toArray.size = 1 then us.toArray[0] else .tuple us.toArray) w := by
    intro vs us hus
    unfold results
    rw [← Array.toArray_toList (xs := fn.results), List.mapM_toArray]
    simp only [map_eq_pure_bind, Sem.run_bind, Result.andThen_ok, Sem.run_pure]
    exact congrArg (fun r => Result.andThen (Result.andThen r _) _) hus
  split at h
  · rename_i v' hr
    injection h with h
    subst h
    obtain ⟨us, h1, h2⟩ := resultsL_ok hat hr
    match us, h2 with
    | [u], h2 => exact ⟨u, by rw [key (vs := []) h1]; rfl, h2.2 0 _ _ rfl rfl⟩
    | [], h2 => exact absurd h2.1 (by simp)
    | _ :: _ :: _, h2 => exact absurd h2.1 (by simp)
  · rename_i vs hne hr
    injection h with h
    subst h
    obtain ⟨us, h1, h2⟩ := resultsL_ok hat hr
    refine ⟨.tuple us.toArray, ?_, VRel.of_tup h2⟩
    rw [key (vs := []) h1, dif_neg]
    intro hs
    match us, h2 with
    | [u], h2 =>
      match vs, h2 with
      | [x], _ => exact hne x rfl
      | [], h2 => exact absurd h2.1 (by simp)
      | _ :: _ :: _, h2 => exact absurd h2.1 (by simp)
    | [], _ => simp at hs
    | _ :: _ :: _, _ => simp at hs
  · cases h

/-! ### Functions -/
/-- What is told of the functions that are not walked through. -/
def IntrOk (C : Cfg) : Prop := ∀ f sem, C.intr f = some sem → (∀ args H r H', sem args H = some (r, H') → ∀ (κ : Kp) (w : World) (U : Nat → Prop) (vals : List Value),
    HRel κ H w U → VRels κ H w (Stab κ H U) args vals → Enters C.P f vals.toArray w (Post κ H w U r H')) ∧ (C.reader f = true → ∀ args H r H', sem args H = some (r, H') → H' = H)
/-- Functions that are told to leave the heap are told, not walked through. -/
def ReadersTold (C : Cfg) : Prop := ∀ f, C.reader f = true → ∃ sem, C.intr f = some sem

theorem lookup_envOf : ∀ (vs : List AV) (i t : Nat), lookup (envOf i vs) t = if t < i then none else vs[t - i]?
  | [], i, t => by simp [envOf, lookup]
  | v :: vs, i, t => by
    simp only [envOf, lookup]
    by_cases e : i = t
    · subst e; simp
    · rw [if_neg e, lookup_envOf vs (i + 1) t]
      by_cases h1 : t < i
      · rw [if_pos h1, if_pos (by omega)]
      · rw [if_neg h1, if_neg (by omega)]
        have : t - i = t - (i + 1) + 1 := by omega
        rw [this]
        rfl
theorem lookup_restrict (env : Env) (t : Nat) (v : AV) : ∀ ks, lookup (restrict env ks) t = some v → lookup env t = some v
  | [], h => by simp [restrict, lookup] at h
  | k :: ks, h => by
    simp only [restrict] at h
    split at h
    · rename_i x hx
      simp only [lookup] at h
      split at h
      · rename_i e
        subst e
        injection h with h
        rw [hx, h]
      · exact lookup_restrict env t v ks h
    · exact lookup_restrict env t v ks h
/-- The frame of a function that is entered. -/
theorem enter_at {f : FuncId} {fn : Func} {args : List AV} {vals : List Value} (hh : HRel κ H w U) (hv : VRels κ H w (Stab κ H U) args vals) (hn : args.length ≤ fn.ntmps) :
    At κ H w U fn.ntmps (envOf 0 args) { tmps := vals.toArray ++ Array.replicate (fn.ntmps - vals.toArray.size) undef, defers := [] } where
  rel := hh
  env := fun t v h => by
    rw [lookup_envOf, if_neg (by omega)] at h
    obtain ⟨u, h1, h2⟩ := hv.get h
    have hlt : t < vals.length := (List.getElem?_eq_some_iff.1 h1).1
    refine ⟨u, ?_, h2⟩
    rw [Array.getElem?_append_left (by simpa using hlt)]
    simpa using h1
  size := by
    have := hv.1
    simp
    omega
  defers := rfl
/-- The body of a function, told by the evaluator. -/
theorem calls_ok {n : Nat} (hs : Sound C.P (callN C n)) (hr : Readers C (callN C n)) (hag : ∀ nt, AgainSound C nt (againN C n nt)) {f : FuncId} {fn : Func} {body : Code} (hf : C.P.funcs[f]? = some fn) (hb : fn.body = some body) {args : List AV} {r : AV} {H' : Heap}
    (hn : args.length ≤ fn.ntmps) {x : AX} {env' : Env} (he : evalC C (callN C n) fn.ntmps (againN C n fn.ntmps) body (envOf 0 args) H = some (x, env', H')) (hx : x = .normal ∨ x = .ret) (hres : resultAV C.P H' env' fn.results.toList = some r)
    {vals : List Value} (hh : HRel κ H w U) (hv : VRels κ H w (Stab κ H U) args vals) :
    Calls C.P f vals.toArray w fun | .returned v, w' => Post κ H w U r H' v w' | _, _ => False := by
  refine calls_of_wp hf hb (evalC_ok hs hr (hag fn.ntmps) body he (enter_at (f := f) hh hv hn) fun κ' w' a' hat hsi => ?_)
  obtain ⟨u, h1, h2⟩ := results_ok hat hres
  have : a'.defers = [] ∧ ∃ v, (results fn a'.tmps).run C.P w' = .ok v w' ∧ Post κ H w U r H' v w' := ⟨hat.defers, u, h1, κ', hat.rel, hsi.ext, hsi.dead, h2⟩
  rcases hx with rfl | rfl
  · exact this
  · exact this
theorem enters_of_calls {P : Program} {f : FuncId} {fn : Func} {body : Code} (hf : P.funcs[f]? = some fn) (hb : fn.body = some body) (hname : (fn.name == "runtime.NumGoroutine") = false) {vals : Array Value} {R : Value → World → Prop}
    (h : Calls P f vals w fun | .returned v, w' => R v w' | _, _ => False) : Enters P f vals w R := by
  intro o a next Q hn
  have hrun : (callFunc f vals).run P w = .ok (.enter f vals) w := by
    have hn' : ¬ fn.name = "runtime.NumGoroutine" := by simpa using hname
    simp [callFunc, hf, hn', hb]
  rw [hrun]
  exact h.mono fun e w' he => by
    cases e with
    | returned v => exact hn v w' he
    | panicked c => exact he.elim
    | outgrown => exact he.elim
theorem callN_inv {n : Nat} {f : FuncId} {args : List AV} {r : AV} {H' : Heap} (hi : C.intr f = none) (h : callN C (n + 1) f args H = some (r, H')) :
    ∃ fn body x env', C.P.funcs[f]? = some fn ∧ (fn.name == "runtime.NumGoroutine") = false ∧ fn.body = some body ∧ args.length ≤ fn.ntmps ∧ evalC C (callN C n) fn.ntmps (againN C n fn.ntmps) body (envOf 0 args) H = some (x, env', H') ∧ (x = .normal ∨ x = .ret) ∧ resultAV C.P H' env' fn.results.toList = some r := by
  simp only [callN, hi] at h
  split at h
  · rename_i fn hf
    split at h
    · cases h
    rename_i hname
    split at h
    · rename_i body hb
      split at h
      · rename_i hn
        split at h
        · rename_i env1 H1 he
          obtain ⟨v, hv, heq⟩ := map_inv h
          simp only [Prod.mk.injEq] at heq
          obtain ⟨rfl, rfl⟩ := heq
          exact ⟨fn, body, _, env1, hf, by simpa using hname, hb, hn, he, .inl rfl, hv⟩
        · rename_i env1 H1 he
          obtain ⟨v, hv, heq⟩ := map_inv h
          simp only [Prod.mk.injEq] at heq
          obtain ⟨rfl, rfl⟩ := heq
          exact ⟨fn, body, _, env1, hf, by simpa using hname, hb, hn, he, .inr rfl, hv⟩
        · cases h
      · cases h
    · cases h
  · cases h
/-- THE EVALUATOR IS RIGHT, at every depth. -/
theorem all_sound (hI : IntrOk C) (hT : ReadersTold C) : ∀ N, Sound C.P (callN C N) ∧ Readers C (callN C N) ∧ ∀ nt, AgainSound C nt (againN C N nt) := by
  intro N
  induction N using Nat.strongRecOn with
  | _ N ih =>
    refine ⟨?_, ?_, ?_⟩
    · intro f args H r H' h κ w U vals hh hv
      cases N with
      | zero => simp [callN] at h
      | succ n =>
        obtain ⟨h1, h2, h3⟩ := ih n (Nat.lt_succ_self n)
        cases hi : C.intr f with
        | some sem =>
          simp only [callN, hi] at h
          exact (hI f sem hi).1 args H r H' h κ w U vals hh hv
        | none =>
          obtain ⟨fn, body, x, env', q1, q2, q3, q4, q5, q6, q7⟩ := callN_inv hi h
          exact enters_of_calls q1 q3 q2 (calls_ok h1 h2 h3 q1 q3 q4 q5 q6 q7 hh hv)
    · intro f hf args H r H' h
      cases N with
      | zero => simp [callN] at h
      | succ n =>
        obtain ⟨sem, hi⟩ := hT f hf
        simp only [callN, hi] at h
        exact (hI f sem hi).2 hf args H r H' h
    · intro nt ks c env H x env' H' h κ w U a Q hat hq
      refine wp_loop_fuel (R := fun m a1 w1 => m ≤ N ∧ ∃ κ1 env1 H1, againN C m nt ks c env1 H1 = some (x, env', H') ∧ At κ1 H1 w1 U nt env1 a1 ∧ Since κ H w κ1 H1 w1) N ⟨Nat.le_refl _, κ, env, H, h, hat, .refl _ _ _⟩ ?_
      rintro m a1 w1 ⟨hm, κ1, env1, H1, h1, hat1, hs1⟩
      cases m with
      | zero => simp [againN] at h1
      | succ m =>
        obtain ⟨i1, i2, i3⟩ := ih m (by omega)
        have hatr : At κ1 H1 w1 U nt (restrict env1 ks) a1 := ⟨hat1.rel, hat1.env.same fun t v hv => lookup_restrict env1 t v ks hv, hat1.size, hat1.defers⟩
        simp only [againN] at h1
        split at h1
        · rename_i env2 H2 he
          refine evalC_ok i1 i2 (i3 nt) c he hatr fun κ2 w2 a2 hat2 hs2 => ?_
          exact ⟨m, Nat.lt_succ_self m, by omega, κ2, env2, H2, h1, hat2, hs1.trans hs2 hat.rel.dom⟩
        · rename_i hne
          refine evalC_ok i1 i2 (i3 nt) c h1 hatr fun κ2 w2 a2 hat2 hs2 => ?_
          have := hq κ2 w2 a2 hat2 (hs1.trans hs2 hat.rel.dom)
          cases x with
          | normal => exact absurd h1 (hne _ _)
          | exit id => exact this
          | ret => exact this
/-- A call of a function of the program, told by the evaluator. -/
theorem call_ok (hI : IntrOk C) (hT : ReadersTold C) {n : Nat} {f : FuncId} {args : List AV} {r : AV} {H' : Heap} (hi : C.intr f = none) (h : callN C n f args H = some (r, H')) {vals : List Value} (hh : HRel κ H w U) (hv : VRels κ H w (Stab κ H U) args vals) :
    Calls C.P f vals.toArray w fun | .returned v, w' => Post κ H w U r H' v w' | _, _ => False := by
  cases n with
  | zero => simp [callN] at h
  | succ n =>
    obtain ⟨h1, h2, h3⟩ := all_sound hI hT n
    obtain ⟨fn, body, x, env', q1, q2, q3, q4, q5, q6, q7⟩ := callN_inv hi h
    exact calls_ok h1 h2 h3 q1 q3 q4 q5 q6 q7 hh hv
end
end Go.AE
