/- The abstract evaluator: a call that saw nothing of the heap leaves it as it was. -/
import Derived.Test.YtlaldhmpoggkjaaGreatDoorAeSound
import Derived.RowKit3
set_option autoImplicit false
set_option linter.unusedVariables false
set_option linter.unusedSimpArgs false
namespace Go.AE
theorem grown_of_ext {w w' : World} {κ' : Kp} {H' : Heap} (h : Ext κ0 [] w κ' H' w') : Go.RowKit.Grown w w' := by
  refine ⟨⟨h.os, h.output, fun i hi => ?_⟩, h.frz, h.size⟩
  have hk := h.keep i hi mut_none
  rw [hk]
  cases hw : w.heap[i]? with
  | none => trivial
  | some o =>
    cases o with
    | cells c t fr => exact ⟨rfl, rfl, rfl, fun _ _ => rfl⟩
    | map es clock => exact .inr ⟨rfl, rfl⟩
    | _ => rfl
end Go.AE
