/- Functions that are told one after the other: each by runs of the evaluator in which the earlier ones are told. -/
import Derived.Test.YtlaldhmpoggkjaaGreatDoorAeLaw
set_option autoImplicit false
set_option linter.unusedVariables false
set_option linter.unusedSimpArgs false
namespace Go.AE

/-- One function more is told. -/
def Cfg.tell (C : Cfg) (f : FuncId) (sem : List AV → Heap → Option (AV × Heap)) : Cfg := { C with intr := fun g => if g = f then some sem else C.intr g }
structure Good (C : Cfg) : Prop where
  intr : IntrOk C
  told : ReadersTold C
theorem Good.tell {C : Cfg} (h : Good C) {f : FuncId} {sem : List AV → Heap → Option (AV × Heap)} (hr : C.reader f = false)
    (hs : ∀ args H r H', sem args H = some (r, H') → ∃ n, doCall C (callN C n) f args H = some (r, H')) : Good (C.tell f sem) where
  intr := by
    intro g s hg
    simp only [Cfg.tell] at hg
    split at hg
    · rename_i e
      subst e
      injection hg with hg
      subst hg
      refine ⟨fun args H r H' he κ w U vals hh hv => ?_, fun hrd => by rw [show (C.tell g sem).reader g = C.reader g from rfl, hr] at hrd; cases hrd⟩
      obtain ⟨n, hn⟩ := hs args H r H' he
      exact doCall_sound (all_sound h.intr h.told n).1 g args H r H' hn κ w U vals hh hv
    · exact h.intr g s hg
  told := fun g hg => by
    obtain ⟨s, h1⟩ := h.told g hg
    by_cases e : g = f
    · exact ⟨sem, by simp [Cfg.tell, e]⟩
    · exact ⟨s, by simp [Cfg.tell, e, h1]⟩
/-- A function without parameters that answers true. -/
def iTrue : List AV → Heap → Option (AV × Heap)
  | [], H => some (.bool true, H)
  | _, _ => none
theorem Good.tell_true {C : Cfg} (h : Good C) {f : FuncId} (hr : C.reader f = false) (n : Nat) (hs : ∀ H, doCall C (callN C n) f [] H = some (.bool true, H)) : Good (C.tell f iTrue) :=
  h.tell hr fun args H r H' he => by
    cases args with
    | nil =>
      simp only [iTrue, Option.some.injEq, Prod.mk.injEq] at he
      obtain ⟨rfl, rfl⟩ := he
      exact ⟨n, hs H⟩
    | cons a as => cases he
/-- What a struct of so many fields is made of. -/
theorem fit_struct {P : Program} {n : Nat} {t : TypeId} {fs : Array Field} {ds : List D} (hu : P.underlying t = some (.struct fs)) (h : Fit P n t ds) :
    ds.length = P.cellsOf t ∧ ∀ f ∈ fs.toList, Fit P (n - 1) f.type ((ds.drop f.offset).take (P.cellsOf f.type)) := by
  cases n with
  | zero => exact h.elim
  | succ n =>
    simp only [Fit, hu] at h
    exact h
theorem fit_int {P : Program} {n : Nat} {t : TypeId} {k : IntKind} {ds : List D} (hu : P.underlying t = some (.int k)) (h : Fit P n t ds) : ∃ x, ds = [.sc (.int k x)] ∧ (Lit.int k x).wf = true := by
  cases n with
  | zero => exact h.elim
  | succ n =>
    simp only [Fit, hu] at h
    exact h
theorem fit_bool {P : Program} {n : Nat} {t : TypeId} {ds : List D} (hu : P.underlying t = some .bool) (h : Fit P n t ds) : ∃ b, ds = [.sc (.bool b)] := by
  cases n with
  | zero => exact h.elim
  | succ n =>
    simp only [Fit, hu] at h
    exact h
theorem fit_string {P : Program} {n : Nat} {t : TypeId} {ds : List D} (hu : P.underlying t = some .string) (h : Fit P n t ds) : ∃ s : ByteArray, ds = [.sc (.string s)] ∧ s.size ≤ maxLen := by
  cases n with
  | zero => exact h.elim
  | succ n =>
    simp only [Fit, hu] at h
    exact h
theorem fit_slice {P : Program} {n : Nat} {t e : TypeId} {ds : List D} (hu : P.underlying t = some (.slice e)) (h : Fit P n t ds) : ∃ xs, ds = [.sl (P.cellsOf e) xs] ∧ xs.length ≤ maxLen ∧ ∀ row ∈ xs, Fit P (n - 1) e row := by
  cases n with
  | zero => exact h.elim
  | succ n =>
    simp only [Fit, hu] at h
    exact h
end Go.AE
