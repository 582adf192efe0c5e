/- CloudNil: the run, a kind at a time; awake is told. -/
import Derived.Test.YtlaldhmpoggkjaaGreatDoorCfg
import Derived.Test.YtlaldhmpoggkjaaGreatDoorAeTell
set_option linter.unusedVariables false
set_option linter.unusedSimpArgs false
namespace Go.AE
theorem cfgN_good : Good cfgN := ⟨cfgN_ok, cfgN_told⟩
noncomputable def cfgA : Cfg := cfgN.tell 11 iTrue
set_option maxRecDepth 100000 in
theorem cfgA_good : Good cfgA := cfgN_good.tell_true (by kernel_rfl) 1000 fun H => by kernel_rfl
/-- The kinds, one after the other. -/
def upto : Nat → Nat → (Int → Bool) → Bool
  | _, 0, _ => true
  | i, n + 1, p => p (i : Int) && upto (i + 1) n p
theorem upto_all : ∀ {n i : Nat} {p : Int → Bool}, upto i n p = true → ∀ k, i ≤ k → k < i + n → p (k : Int) = true
  | 0, i, p, h, k, h1, h2 => by omega
  | n + 1, i, p, h, k, h1, h2 => by
    simp only [upto, Bool.and_eq_true] at h
    by_cases e : k = i
    · subst e; exact h.1
    · exact upto_all h.2 k (by omega) (by omega)
set_option maxRecDepth 100000 in
theorem nil_eval (t tk id nm : ByteArray) (n : Int) (v0 v1 v2 v3 v4 : D) :
    upto 0 256 (fun k => isT (callN cfgA 1000 3 [.agg [.int .u8 k, .sc (.string t), .sc (.string tk), .sc (.string id), .sc (.string nm), .int .i64 n, .d v0, .d v1, .d v2, .d v3, .d v4]] [])) = true := by kernel_rfl
end Go.AE
