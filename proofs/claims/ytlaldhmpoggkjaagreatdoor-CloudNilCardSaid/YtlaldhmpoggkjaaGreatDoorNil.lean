/- CloudNil returns true: the run, from its argument's shape. -/
import Derived.Test.YtlaldhmpoggkjaaGreatDoorNilEval
set_option linter.unusedVariables false
set_option linter.unusedSimpArgs false
namespace Go.AE
theorem list11 {α : Type} {l : List α} (h : l.length = 11) : ∃ d0 d1 d2 d3 d4 d5 d6 d7 d8 d9 d10, l = [d0, d1, d2, d3, d4, d5, d6, d7, d8, d9, d10] := by
  match l, h with
  | [d0, d1, d2, d3, d4, d5, d6, d7, d8, d9, d10], _ => exact ⟨d0, d1, d2, d3, d4, d5, d6, d7, d8, d9, d10, rfl⟩
theorem nil_run (l : List AV) (h : FitAll Go.Proofs.Tryz.prog [28] l) : ∃ n H', callN cfgA n 3 l [] = some (.bool true, H') := by
  match l, h with
  | [a], ⟨⟨m, ds, hf, ha⟩, _⟩ =>
    obtain ⟨hl, hfs⟩ := fit_struct Go.Proofs.Tryz.underlying28 hf
    have hl' : ds.length = 11 := hl.trans (by kernel_rfl)
    obtain ⟨d0, d1, d2, d3, d4, d5, d6, d7, d8, d9, d10, rfl⟩ := list11 hl'
    have c1 : ∀ t, t = 5 ∨ t = 9 ∨ t = 3 → Go.Proofs.Tryz.prog.cellsOf t = 1 := by
      rintro t (rfl | rfl | rfl) <;> kernel_rfl
    obtain ⟨k, hk, wk⟩ := fit_int Go.Proofs.Tryz.underlying5 (hfs ⟨"Kind", 5, 0, false, "", "", 0⟩ (by simp))
    obtain ⟨s1, h1, _⟩ := fit_string Go.Proofs.Tryz.underlying9 (hfs ⟨"Type", 9, 1, false, "", "", 8⟩ (by simp))
    obtain ⟨s2, h2, _⟩ := fit_string Go.Proofs.Tryz.underlying9 (hfs ⟨"Token", 9, 2, false, "", "", 24⟩ (by simp))
    obtain ⟨s3, h3, _⟩ := fit_string Go.Proofs.Tryz.underlying9 (hfs ⟨"ID", 9, 3, false, "", "", 40⟩ (by simp))
    obtain ⟨s4, h4, _⟩ := fit_string Go.Proofs.Tryz.underlying9 (hfs ⟨"Name", 9, 4, false, "", "", 56⟩ (by simp))
    obtain ⟨n, h5, _⟩ := fit_int Go.Proofs.Tryz.underlying3 (hfs ⟨"N", 3, 5, false, "", "", 72⟩ (by simp))
    simp only [c1 _ (.inl rfl), c1 _ (.inr (.inl rfl)), c1 _ (.inr (.inr rfl)), List.drop_zero, List.drop_succ_cons, List.take_succ_cons, List.take_zero, List.cons.injEq, and_true] at hk h1 h2 h3 h4 h5
    subst hk h1 h2 h3 h4 h5
    simp only [Lit.wf, Bool.and_eq_true, decide_eq_true_eq] at wk
    have hk0 : 0 ≤ k ∧ k < 256 := by
      have h1 : IntKind.min .u8 = 0 := by decide
      have h2 : IntKind.max .u8 = 255 := by decide
      rw [h1, h2] at wk
      omega
    obtain ⟨k', rfl⟩ := Int.eq_ofNat_of_zero_le hk0.1
    have := upto_all (nil_eval s1 s2 s3 s4 n d6 d7 d8 d9 d10) k' (by omega) (by omega)
    obtain ⟨H', he⟩ := isT_inv this
    refine ⟨1000, H', ?_⟩
    rw [ha]
    have hav : avOf Go.Proofs.Tryz.prog 28 [.sc (.int .u8 (k' : Int)), .sc (.string s1), .sc (.string s2), .sc (.string s3), .sc (.string s4), .sc (.int .i64 n), d6, d7, d8, d9, d10] = .agg [.int .u8 (k' : Int), .sc (.string s1), .sc (.string s2), .sc (.string s3), .sc (.string s4), .int .i64 n, .d d6, .d d7, .d d8, .d d9, .d d10] := by kernel_rfl
    rw [hav]
    exact he
  | [], h => exact h.elim
  | _ :: _ :: _, ⟨_, h⟩ => exact h.elim
end Go.AE
