/- The abstract evaluator: code, loops, functions. -/
import Derived.Test.YtlaldhmpoggkjaaGreatDoorAeDraw7
set_option autoImplicit false
set_option linter.unusedVariables false
set_option linter.unusedSimpArgs false
namespace Go.AE
section
variable {C : Cfg} {callE : CallE} {κ : Kp} {H : Heap} {w : World} {U : Nat → Prop} {nt : Nat}

def exitOf : AX → Exit
  | .normal => .normal
  | .exit id => .exit id
  | .ret => .ret
/-- What loops come to. -/
def AgainSound (C : Cfg) (nt : Nat) (again : List Nat → Code → Env → Heap → Option St) : Prop :=
  ∀ (ks : List Nat) (c : Code) (env : Env) (H : Heap) (x : AX) (env' : Env) (H' : Heap), again ks c env H = some (x, env', H') → ∀ (κ : Kp) (w : World) (U : Nat → Prop) (a : Act) (Q : Exit → Act → World → Prop),
    At κ H w U nt env a → (∀ κ' w' a', At κ' H' w' U nt env' a' → Since κ H w κ' H' w' → Q (exitOf x) a' w') → (Code.loop c).wp C.P Q a w
theorem evalC_ok (hs : Sound C.P callE) (hr : Readers C callE) {again : List Nat → Code → Env → Heap → Option St} (hag : AgainSound C nt again) :
    ∀ (c : Code) {env : Env} {H : Heap} {x : AX} {env' : Env} {H' : Heap}, evalC C callE nt again c env H = some (x, env', H') → ∀ {κ : Kp} {w : World} {a : Act} {Q : Exit → Act → World → Prop},
      At κ H w U nt env a → (∀ κ' w' a', At κ' H' w' U nt env' a' → Since κ H w κ' H' w' → Q (exitOf x) a' w') → c.wp C.P Q a w
  | .skip, env, H, x, env', H', h, κ, w, a, Q, hat, hq => by
    simp only [evalC, Option.some.injEq, Prod.mk.injEq] at h
    obtain ⟨rfl, rfl, rfl⟩ := h
    exact wp_skip (hq κ w a hat (.refl _ _ _))
  | .exit id, env, H, x, env', H', h, κ, w, a, Q, hat, hq => by
    simp only [evalC, Option.some.injEq, Prod.mk.injEq] at h
    obtain ⟨rfl, rfl, rfl⟩ := h
    exact wp_exit (hq κ w a hat (.refl _ _ _))
  | .ret, env, H, x, env', H', h, κ, w, a, Q, hat, hq => by
    simp only [evalC, Option.some.injEq, Prod.mk.injEq] at h
    obtain ⟨rfl, rfl, rfl⟩ := h
    exact wp_ret (hq κ w a hat (.refl _ _ _))
  | .region id ops draw, env, H, x, env', H', h, κ, w, a, Q, hat, hq => by
    simp only [evalC] at h
    split at h
    · cases h
    rename_i hd
    have hd' : dstsOk nt ops.toList = true := by simpa using hd
    split at h
    · rename_i env1 H1 h1
      simp only [Option.some.injEq, Prod.mk.injEq] at h
      obtain ⟨rfl, rfl, rfl⟩ := h
      cases draw with
      | true => exact runDraw_ok hs hr (by simpa using h1) hd' hat hq
      | false =>
        refine wp_region_list ?_
        have := runOps_ok hs (ops := ops.toList) (Q := Q) (by simpa using h1) hd' hat hq
        simpa using this
    · cases h
  | .seq p q, env, H, x, env', H', h, κ, w, a, Q, hat, hq => by
    simp only [evalC] at h
    split at h
    · rename_i env1 H1 h1
      refine wp_seq (evalC_ok hs hr hag p h1 hat fun κ1 w1 a1 hat1 hs1 => ?_)
      exact evalC_ok hs hr hag q h hat1 fun κ' w' a' q1 q2 => hq κ' w' a' q1 (hs1.trans q2 hat.rel.dom)
    · rename_i hne
      refine wp_seq (evalC_ok hs hr hag p h hat fun κ1 w1 a1 hat1 hs1 => ?_)
      have := hq κ1 w1 a1 hat1 hs1
      cases x with
      | normal => exact absurd h (hne _ _)
      | exit id => exact this
      | ret => exact this
  | .cond c p q, env, H, x, env', H', h, κ, w, a, Q, hat, hq => by
    simp only [evalC] at h
    split at h
    · rename_i hc
      exact wp_cond (t := true) (opd_ok hat.env hc).sc_inv (evalC_ok hs hr hag p h hat hq)
    · rename_i hc
      exact wp_cond (t := false) (opd_ok hat.env hc).sc_inv (evalC_ok hs hr hag q h hat hq)
    · cases h
  | .block id c, env, H, x, env', H', h, κ, w, a, Q, hat, hq => by
    simp only [evalC] at h
    refine wp_block ?_
    split at h
    · rename_i j env1 H1 h1
      refine evalC_ok hs hr hag c h1 hat fun κ1 w1 a1 hat1 hs1 => ?_
      split at h
      · rename_i hj
        simp only [Option.some.injEq, Prod.mk.injEq] at h
        obtain ⟨rfl, rfl, rfl⟩ := h
        simp only [exitOf, Exit.inBlock, if_pos hj]
        exact hq κ1 w1 a1 hat1 hs1
      · rename_i hj
        simp only [Option.some.injEq, Prod.mk.injEq] at h
        obtain ⟨rfl, rfl, rfl⟩ := h
        simp only [exitOf, Exit.inBlock, if_neg hj]
        exact hq κ1 w1 a1 hat1 hs1
    · rename_i hne
      refine evalC_ok hs hr hag c h hat fun κ1 w1 a1 hat1 hs1 => ?_
      have := hq κ1 w1 a1 hat1 hs1
      cases x with
      | normal => exact this
      | exit id => exact absurd h (hne _ _ _)
      | ret => exact this
  | .loop c, env, H, x, env', H', h, κ, w, a, Q, hat, hq => by
    simp only [evalC] at h
    exact hag _ c env H x env' H' h κ w U a Q hat hq
  | .label _, env, H, x, env', H', h, κ, w, a, Q, hat, hq => by exact absurd (show none = some (x, env', H') from h) (by simp)
  | .goto _, env, H, x, env', H', h, κ, w, a, Q, hat, hq => by exact absurd (show none = some (x, env', H') from h) (by simp)
  | .scope _, env, H, x, env', H', h, κ, w, a, Q, hat, hq => by exact absurd (show none = some (x, env', H') from h) (by simp)
  | .rangeFunc _ _ _ _, env, H, x, env', H', h, κ, w, a, Q, hat, hq => by exact absurd (show none = some (x, env', H') from h) (by simp)
end
end Go.AE
