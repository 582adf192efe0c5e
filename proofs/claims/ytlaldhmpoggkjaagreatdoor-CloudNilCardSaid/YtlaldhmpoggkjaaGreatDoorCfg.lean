/- The configuration of the evaluator over the program; count is told. -/
import Derived.Test.YtlaldhmpoggkjaaGreatDoorCnt3
import Derived.Test.YtlaldhmpoggkjaaGreatDoorAeLaw
set_option linter.unusedVariables false
set_option linter.unusedSimpArgs false
namespace Go.AE

/-- The functions that are told; whose results' rows become the caller's own; who is called with references. -/
noncomputable def cfgN : Cfg := { P := Go.Proofs.Tryz.prog, thaw := fun f => [73, 75, 109, 107, 110, 137, 100, 101, 106, 76, 105, 36, 41, 98].contains f, shared := fun f => [40, 56, 22, 100, 101, 106].contains f, trim := fun _ => true, reader := fun f => f == 59, intr := fun f => if f = 59 then some iCount2 else none }
theorem cfgN_told : ReadersTold cfgN := fun f h => by
  have : f = 59 := by simpa [cfgN] using h
  subst this
  exact ⟨iCount2, rfl⟩
set_option maxRecDepth 100000 in
theorem cfgN_ok : IntrOk cfgN := by
  intro f sem h
  simp only [cfgN] at h
  split at h
  · rename_i hf
    subst hf
    injection h with h
    subst h
    refine ⟨fun args H r H' hs κ w U vals hh hv => ?_, fun _ args H r H' hs => ?_⟩
    · exact enters_of_calls (P := Go.Proofs.Tryz.prog) Go.Proofs.Tryz.func59 rfl (by kernel_rfl) (iCount2_ok hs hh hv).2
    · have hno : HRel κ0 H ⟨#[], fun _ _ => 0, 0, default, default⟩ (fun _ => True) := ⟨fun _ _ h => (by cases h), fun _ _ h => (by cases h), fun _ _ _ => trivial, fun _ _ => trivial, fun _ _ _ h => (by cases h), fun _ _ _ h => (by cases h)⟩
      unfold iCount2 at hs
      split at hs
      · split at hs
        · split at hs
          · split at hs
            · split at hs
              · split at hs
                · simp only [Option.some.injEq, Prod.mk.injEq] at hs; exact hs.2.symm
                · cases hs
              · cases hs
            · cases hs
          · cases hs
        · cases hs
      · cases hs
  · cases h
def isT : Option (AV × Heap) → Bool
  | some (.d (.sc (.bool true)), _) => true
  | _ => false
theorem isT_inv {x : Option (AV × Heap)} (h : isT x = true) : ∃ H, x = some (.bool true, H) := by
  unfold isT at h
  split at h
  · exact ⟨_, rfl⟩
  · cases h
end Go.AE
