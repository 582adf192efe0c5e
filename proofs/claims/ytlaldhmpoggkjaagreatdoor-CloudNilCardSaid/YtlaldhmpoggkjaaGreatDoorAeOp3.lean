/- The abstract evaluator: equality, and the other operations on values. -/
import Derived.Test.YtlaldhmpoggkjaaGreatDoorAeOp2
set_option autoImplicit false
set_option linter.unusedVariables false
set_option linter.unusedSimpArgs false
namespace Go.AE
section
variable {P : Program} {κ : Kp} {H : Heap} {w : World} {U : Nat → Prop}

theorem fields_of {t : TypeId} {fs : Array Field} (h : P.underlying t = some (.struct fs)) : P.fieldsOf t = fs := by simp [Program.fieldsOf, h]
theorem run_part_agg {t : TypeId} {cs : Array Value} {off n : Nat} {d : TypeDesc} (hu : P.underlying t = some d) (hd : (match d with | .struct _ | .array _ _ => true | _ => false) = true) (hs : sizeT P t = some n) :
    (part t cs off).run P w = .ok (.agg (cs.extract off (off + n))) w := by
  have h1 : (isAgg t).run P w = .ok true w := by
    unfold isAgg
    simp only [Sem.run_bind, run_underlying hu, Result.andThen_ok]
    cases d <;> simp_all
  obtain ⟨i, hi, rfl⟩ := Option.map_eq_some_iff.1 hs
  have h2 : (sizeOf t).run P w = .ok i.size w := by simp [sizeOf, typeInfo, hi]
  simp [part, h1, h2]
theorem eqFields2_ok {S : Nat → Prop} {xs ys : List AV} {vs us : Array Value} (n : Nat) (hx : VRels κ H w S xs vs.toList) (hy : VRels κ H w S ys us.toList) :
    ∀ {fs : List Field} {b : Bool}, eqFields2 P xs ys fs = some b → (Op.eqFields (n + 2) vs us fs).run P w = .ok b w
  | [], b, h => by simp only [eqFields2, Option.some.injEq] at h; subst h; simp [Op.eqFields]
  | f :: fs, b, h => by
    simp only [eqFields2] at h
    split at h
    · cases h
    rename_i hname
    split at h
    · rename_i gs hgs
      split at h
      · cases h
      rename_i hst
      split at h
      · cases h
      rename_i m hm
      cases he : eqFields P ((xs.drop f.offset).take m) ((ys.drop f.offset).take m) gs.toList with
      | none => simp [he] at h
      | some e =>
        simp only [he] at h
        have hp1 := run_part_agg (P := P) (w := w) (cs := vs) (off := f.offset) hgs rfl hm
        have hp2 := run_part_agg (P := P) (w := w) (cs := us) (off := f.offset) hgs rfl hm
        have hx' : VRels κ H w S ((xs.drop f.offset).take m) (vs.extract f.offset (f.offset + m)).toList := by
          have := (hx.drop_ f.offset).take_ m
          simpa [Array.toList_extract, List.extract_eq_take_drop] using this
        have hy' : VRels κ H w S ((ys.drop f.offset).take m) (us.extract f.offset (f.offset + m)).toList := by
          have := (hy.drop_ f.offset).take_ m
          simpa [Array.toList_extract, List.extract_eq_take_drop] using this
        have hq := run_equalIn_struct (P := P) w (n + 1) f.type (vs.extract f.offset (f.offset + m)) (us.extract f.offset (f.offset + m)) (by rw [fields_of hgs]; exact hgs) (by simpa using hst)
        rw [fields_of hgs, eqFields_ok n hx' hy' he] at hq
        simp only [Op.eqFields, Sem.run_bind, Sem.run_ite, ne_eq, hname, not_false_eq_true, if_true, hp1, hp2, Result.andThen_ok, hq]
        cases e with
        | true => simp only [Bool.not_true, Bool.false_eq_true, if_false]; exact eqFields2_ok n hx hy h
        | false => simp at h; subst h; simp
    · cases h
    split at h
    · rename_i a c ha hc
      have h1 := sc_at hx ha
      have h2 := sc_at hy hc
      cases he : eqSc P f.type a c with
      | none => simp [he] at h
      | some e =>
        have hp1 := run_part_sc (P := P) (w := w) (eqSc_under he) (show vs[f.offset]? = some a by simpa using h1)
        have hp2 := run_part_sc (P := P) (w := w) (eqSc_under he) (show us[f.offset]? = some c by simpa using h2)
        simp only [he] at h
        simp only [Op.eqFields, Sem.run_bind, Sem.run_ite, ne_eq, hname, not_false_eq_true, if_true, hp1, hp2, Result.andThen_ok, eqSc_ok (n + 1) he]
        cases e with
        | true => simp only [Bool.not_true, Bool.false_eq_true, if_false]; exact eqFields2_ok n hx hy h
        | false => simp at h; subst h; simp
    · cases h
theorem nilEq_ok {S : Nat → Prop} {t : TypeId} {x : AV} {c v : Value} {b : Bool} (n : Nat) (h : nilEq P t x c = some b) (hr : VRel κ H w S x v) :
    (Op.equalIn (n + 1) t v c).run P w = .ok b w ∧ (Op.equalIn (n + 1) t c v).run P w = .ok b w := by
  unfold nilEq at h
  split at h
  · rename_i hu; injection h with h; subst h; cases hr; simp [Op.equalIn, run_underlying hu]
  · rename_i hu; injection h with h; subst h; cases hr; simp [Op.equalIn, run_underlying hu]
  · rename_i hu; injection h with h; subst h; cases hr; simp [Op.equalIn, run_underlying hu]
  · rename_i hu; injection h with h; subst h; cases hr; simp [Op.equalIn, run_underlying hu]
  · rename_i hu; injection h with h; subst h
    cases hr with
    | d _ _ h => cases h; simp [Op.equalIn, run_underlying hu]
  · rename_i hu; injection h with h; subst h
    cases hr with
    | csl _ _ _ _ h => cases h; simp [Op.equalIn, run_underlying hu]
  · exact absurd h (by simp)
theorem guard_plain {op : BinOp} {t : TypeId} {p q : Operand} {u v : Value} (h1 : ¬ (u = .nilIface ∧ v = .nilIface)) (h2 : ∀ a b, u = .agg a → v = .agg b → P.eqGuardType P.depth t = false) :
    (eqGuard op t p q u v).run P w = .ok () w := by
  have key : ∀ s : Sem Unit, s.run P w = .ok () w → (if (!(match op with | .eql | .neq => true | _ => false)) = true then pure () else s : Sem Unit).run P w = .ok () w := by
    intro s hs
    generalize (!(match op with | .eql | .neq => true | _ => false)) = c
    cases c
    · simpa using hs
    · simp
  unfold eqGuard
  refine key _ ?_
  cases u with
  | nilIface => cases v <;> first | rfl | exact absurd ⟨rfl, rfl⟩ h1
  | agg a => cases v with
    | agg b => simp [h2 _ _ rfl rfl]
    | _ => rfl
  | _ => rfl
theorem eqSc_guard {t : TypeId} {x y : Value} {b : Bool} (h : eqSc P t x y = some b) : ¬ (x = .nilIface ∧ y = .nilIface) ∧ ∀ a c, x = .agg a → y = .agg c → P.eqGuardType P.depth t = false := by
  unfold eqSc at h
  split at h <;> first | (refine ⟨?_, ?_⟩ <;> simp; done) | exact absurd h (by simp)
theorem nilEq_guard {t : TypeId} {x : AV} {c : Value} {b : Bool} (h : nilEq P t x c = some b) : c ≠ .nilIface ∧ ∀ a, c ≠ .agg a := by
  unfold nilEq at h
  split at h <;> first | (refine ⟨?_, ?_⟩ <;> simp; done) | exact absurd h (by simp)
theorem eqAV_ok {t : TypeId} {x y : AV} {u v : Value} {b : Bool} {S : Nat → Prop} (h : eqAV P t x y = some b) (hx : VRel κ H w S x u) (hy : VRel κ H w S y v) :
    (Op.equal t u v).run P w = .ok b w ∧ ∀ (op : BinOp) (p q : Operand), (eqGuard op t p q u v).run P w = .ok () w := by
  unfold eqAV at h
  split at h
  · obtain rfl := hx.sc_inv
    obtain rfl := hy.sc_inv
    obtain ⟨h1, h2⟩ := eqSc_guard h
    exact ⟨eqSc_ok 9999 h, fun op p q => guard_plain h1 h2⟩
  · obtain ⟨us, rfl, hus⟩ := hx.agg_inv
    obtain ⟨vs, rfl, hvs⟩ := hy.agg_inv
    split at h
    · rename_i fs hfs
      split at h
      · cases h
      · rename_i hst
        simp only [Bool.or_eq_true, not_or, Bool.not_eq_true] at hst
        refine ⟨?_, fun op p q => guard_plain (by simp) (fun _ _ _ _ => hst.2)⟩
        have hq := run_equalIn_struct (P := P) w 9999 t us vs (by rw [fields_of hfs]; exact hfs) hst.1
        rw [fields_of hfs, eqFields2_ok 9997 hus hvs h] at hq
        exact hq
    · cases h
  · obtain rfl := hy.sc_inv
    obtain ⟨h1, h2⟩ := nilEq_guard h
    exact ⟨(nilEq_ok 9999 h hx).1, fun op p q => guard_plain (fun hh => h1 hh.2) (fun _ b _ hb => absurd hb (h2 b))⟩
  · obtain rfl := hx.sc_inv
    obtain ⟨h1, h2⟩ := nilEq_guard h
    exact ⟨(nilEq_ok 9999 h hy).2, fun op p q => guard_plain (fun hh => h1 hh.1) (fun a _ ha _ => absurd ha (h2 a))⟩
  · cases h

theorem eq_form {t : TypeId} {x y : AV} {u v : Value} {b : Bool} {S : Nat → Prop} (h : eqAV P t x y = some b) (hx : VRel κ H w S x u) (hy : VRel κ H w S y v)
    (hi : ∀ k a k' c, ¬ (x = .d (.sc (.int k a)) ∧ y = .d (.sc (.int k' c)))) (hs : ∀ a c, ¬ (x = .d (.sc (.string a)) ∧ y = .d (.sc (.string c)))) :
    binOp .eql t u v = (do pure (.bool (← Op.equal t u v))) ∧ binOp .neq t u v = (do pure (.bool (!(← Op.equal t u v)))) := by
  unfold eqAV at h
  split at h
  · obtain rfl := hx.sc_inv
    obtain rfl := hy.sc_inv
    unfold eqSc at h
    split at h
    · simp [binOp]
    · exact absurd ⟨rfl, rfl⟩ (hi _ _ _ _)
    · exact absurd ⟨rfl, rfl⟩ (hs _ _)
    · simp [binOp]
    · simp [binOp]
    · simp [binOp]
    · simp [binOp]
    · cases h
  · obtain ⟨us, rfl, hus⟩ := hx.agg_inv
    obtain ⟨vs, rfl, hvs⟩ := hy.agg_inv
    simp [binOp]
  · obtain rfl := hy.sc_inv
    unfold nilEq at h
    split at h
    · cases hx; simp [binOp]
    · cases hx; simp [binOp]
    · cases hx; simp [binOp]
    · cases hx; simp [binOp]
    · cases hx with
      | d _ _ h => cases h; simp [binOp]
    · cases hx with
      | csl _ _ _ _ h => cases h; simp [binOp]
    · cases h
  · obtain rfl := hx.sc_inv
    unfold nilEq at h
    split at h
    · cases hy; simp [binOp]
    · cases hy; simp [binOp]
    · cases hy; simp [binOp]
    · cases hy; simp [binOp]
    · cases hy with
      | d _ _ h => cases h; simp [binOp]
    · cases hy with
      | csl _ _ _ _ h => cases h; simp [binOp]
    · cases h
  · cases h
theorem map_inv {α β : Type} {x : Option α} {f : α → β} {y : β} (h : x.map f = some y) : ∃ a, x = some a ∧ f a = y := Option.map_eq_some_iff.1 h
theorem binAV_ok {op : BinOp} {t : TypeId} {x y r : AV} {u v : Value} {S : Nat → Prop} (p q : Operand) (h : binAV P op t x y = some r) (hx : VRel κ H w S x u) (hy : VRel κ H w S y v) :
    ∃ z, ((do eqGuard op t p q u v; binOp op t u v : Sem Value)).run P w = .ok z w ∧ VRel κ H w S r z := by
  unfold binAV at h
  split at h
  · obtain rfl := hx.sc_inv
    obtain rfl := hy.sc_inv
    obtain ⟨z, hz, rfl⟩ := map_inv h
    refine ⟨z, ?_, .sc z (shiftOp_one hz)⟩
    simp only [Sem.run_bind, guard_plain (P := P) (op := .shl) (p := p) (q := q) (show ¬ (Value.int _ _ = .nilIface ∧ Value.int _ _ = .nilIface) by simp) (by simp), Result.andThen_ok]
    simp only [binOp]
    exact shiftOp_ok hz
  · obtain rfl := hx.sc_inv
    obtain rfl := hy.sc_inv
    obtain ⟨z, hz, rfl⟩ := map_inv h
    refine ⟨z, ?_, .sc z (shiftOp_one hz)⟩
    simp only [Sem.run_bind, guard_plain (P := P) (op := .shr) (p := p) (q := q) (show ¬ (Value.int _ _ = .nilIface ∧ Value.int _ _ = .nilIface) by simp) (by simp), Result.andThen_ok]
    simp only [binOp]
    exact shiftOp_ok hz
  · obtain rfl := hx.sc_inv
    obtain rfl := hy.sc_inv
    split at h
    · rename_i k a k' b hns1 hns2 hk
      subst hk
      obtain ⟨z, hz, rfl⟩ := map_inv h
      refine ⟨z, ?_, .sc z (intOp_one hz)⟩
      simp only [Sem.run_bind, guard_plain (P := P) (op := op) (p := p) (q := q) (show ¬ (Value.int _ _ = .nilIface ∧ Value.int _ _ = .nilIface) by simp) (by simp), Result.andThen_ok]
      have := intOp_ok (P := P) (w := w) hz
      cases op <;> first | (simpa [binOp] using this) | (simp [intOp] at hz; done)
    · cases h
  · obtain rfl := hx.sc_inv
    obtain rfl := hy.sc_inv
    obtain ⟨z, hz, rfl⟩ := map_inv h
    refine ⟨z, ?_, .sc z (strOp_one hz)⟩
    simp only [Sem.run_bind, guard_plain (P := P) (op := op) (p := p) (q := q) (show ¬ (Value.string _ = .nilIface ∧ Value.string _ = .nilIface) by simp) (by simp), Result.andThen_ok]
    have := strOp_ok (P := P) (w := w) hz
    cases op <;> exact this
  · rename_i hn1 hn2
    obtain ⟨b, hb, rfl⟩ := map_inv h
    obtain ⟨h1, h2⟩ := eqAV_ok hb hx hy
    refine ⟨.bool b, ?_, .sc _⟩
    simp only [Sem.run_bind, h2, Result.andThen_ok]
    rw [(eq_form hb hx hy (fun k a k' c e => hn1 k a k' c e.1 e.2) (fun a c e => hn2 a c e.1 e.2)).1]
    simp [h1]
  · rename_i hn1 hn2
    obtain ⟨b, hb, rfl⟩ := map_inv h
    obtain ⟨h1, h2⟩ := eqAV_ok hb hx hy
    refine ⟨.bool !b, ?_, .sc _⟩
    simp only [Sem.run_bind, h2, Result.andThen_ok]
    rw [(eq_form hb hx hy (fun k a k' c e => hn1 k a k' c e.1 e.2) (fun a c e => hn2 a c e.1 e.2)).2]
    simp [h1]
  · cases h
theorem unAV_ok {op : UnOp} {x r : AV} {u : Value} {S : Nat → Prop} (h : unAV op x = some r) (hx : VRel κ H w S x u) : ∃ z, (Op.unary op u).run P w = .ok z w ∧ VRel κ H w S r z := by
  unfold unAV at h
  split at h
  · obtain rfl := hx.sc_inv
    injection h with h; subst h
    exact ⟨_, rfl, .sc _⟩
  · obtain rfl := hx.sc_inv
    injection h with h; subst h
    exact ⟨_, by simp [Op.unary, Op.intArith], .sc _⟩
  · cases h
theorem convAV_ok {s t : TypeId} {x r : AV} {u : Value} {S : Nat → Prop} (h : convAV P s t x = some r) (hx : VRel κ H w S x u) : ∃ z, (convert s t u).run P w = .ok z w ∧ VRel κ H w S r z := by
  unfold convAV at h
  split at h
  · rename_i d k n h1 h2
    obtain rfl := hx.sc_inv
    injection h with h; subst h
    refine ⟨_, ?_, .sc _⟩
    simp only [convert, Sem.run_bind, run_underlying h1, run_underlying h2, Result.andThen_ok]
    cases d <;> simp [Conv.intToInt]
  · rename_i h1 h2
    obtain rfl := hx.sc_inv
    injection h with h; subst h
    exact ⟨_, by simp [convert, run_underlying h1, run_underlying h2], .sc _⟩
  · cases h
end
end Go.AE
