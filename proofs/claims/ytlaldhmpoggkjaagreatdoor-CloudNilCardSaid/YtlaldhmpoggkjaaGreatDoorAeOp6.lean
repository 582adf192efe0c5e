/- The abstract evaluator: slices of slices, min, max, look-ups. -/
import Derived.Test.YtlaldhmpoggkjaaGreatDoorAeOp5
set_option autoImplicit false
set_option linter.unusedVariables false
set_option linter.unusedSimpArgs false
namespace Go.AE
section
variable {P : Program} {κ : Kp} {H H' : Heap} {w : World} {U : Nat → Prop}

theorem lohi_inv {n l h : Nat} {lo hi : Option AV} (hb : lohi n lo hi = some (l, h)) :
    l ≤ h ∧ h ≤ n ∧ (lo = none ∧ l = 0 ∨ ∃ k, lo = some (.d (.sc (.int k (l : Int))))) ∧ (hi = none ∧ h = n ∨ ∃ k, hi = some (.d (.sc (.int k (h : Int))))) := by
  unfold lohi at hb
  split at hb
  · rename_i j i hj hi'
    split at hb
    · rename_i hc
      obtain ⟨h0, h1, h2⟩ := hc
      simp only [Option.some.injEq, Prod.mk.injEq] at hb
      obtain ⟨rfl, rfl⟩ := hb
      refine ⟨by omega, by omega, ?_, ?_⟩
      · split at hi'
        · injection hi' with hi'; exact .inl ⟨rfl, by omega⟩
        · injection hi' with hi'; rename_i k q; subst hi'; exact .inr ⟨k, by rw [show ((q.toNat : Nat) : Int) = q by omega]⟩
        · cases hi'
      · split at hj
        · injection hj with hj; exact .inl ⟨rfl, by omega⟩
        · injection hj with hj; rename_i k q; subst hj; exact .inr ⟨k, by rw [show ((q.toNat : Nat) : Int) = q by omega]⟩
        · cases hj
    · cases hb
  · cases hb
theorem sliceBound_run (k : IntKind) (i y : Nat) (code : BoundsCode) (h : i ≤ y) : (Instr.sliceBound (.int k (i : Int)) y code).run P w = .ok i w := by
  have : (i : Int) ≤ (y : Int) := by omega
  simp [Instr.sliceBound, asIntOf, this]
/-- Operands of bounds, told by the evaluator and by the machine. -/
def ORelO (κ : Kp) (H : Heap) (w : World) (S : Nat → Prop) : Option AV → Option Value → Prop
  | none, none => True
  | some x, some v => VRel κ H w S x v
  | _, _ => False
theorem ORelO.num {S : Nat → Prop} {k : IntKind} {n : Int} {v : Option Value} (h : ORelO κ H w S (some (.d (.sc (.int k n)))) v) : v = some (.int k n) := by
  cases v with
  | none => exact h.elim
  | some v => rw [VRel.sc_inv h]
theorem ORelO.none_ {S : Nat → Prop} {v : Option Value} (h : ORelO κ H w S none v) : v = none := by
  cases v with
  | none => rfl
  | some v => exact h.elim
theorem bounds_run {S : Nat → Prop} {sl : Bool} {n cap l h : Nat} {lo hi : Option AV} {vlo vhi : Option Value} (hb : lohi n lo hi = some (l, h)) (hc : n ≤ cap) (hlo : ORelO κ H w S lo vlo) (hhi : ORelO κ H w S hi vhi) :
    (Instr.sliceBounds sl n cap vlo vhi none).run P w = .ok (l, h, cap) w := by
  obtain ⟨h1, h2, h3, h4⟩ := lohi_inv hb
  unfold Instr.sliceBounds
  rcases h4 with ⟨rfl, rfl⟩ | ⟨k, rfl⟩
  · obtain rfl := hhi.none_
    rcases h3 with ⟨rfl, rfl⟩ | ⟨k, rfl⟩
    · obtain rfl := hlo.none_
      simp
    · obtain rfl := hlo.num
      simp [sliceBound_run k l h _ h1]
  · obtain rfl := hhi.num
    rcases h3 with ⟨rfl, rfl⟩ | ⟨k', rfl⟩
    · obtain rfl := hlo.none_
      simp [sliceBound_run k h cap _ (by omega)]
    · obtain rfl := hlo.num
      simp [sliceBound_run k h cap _ (by omega), sliceBound_run k' l h _ h1]
theorem sameInt_inv {x y : Option AV} (h : sameInt x y = true) : ∃ k k' a, x = some (.d (.sc (.int k a))) ∧ y = some (.d (.sc (.int k' a))) := by
  unfold sameInt at h
  split at h
  · rename_i k a k' b
    simp only [beq_iff_eq] at h
    subst h
    exact ⟨k, k', _, rfl, rfl⟩
  · cases h
theorem bounds3_run {S : Nat → Prop} {n cap l h : Nat} {lo hi mx : Option AV} {vlo vhi vmx : Option Value} (hb : lohi n lo hi = some (l, h)) (hc : n ≤ cap) (hs : sameInt mx hi = true) (hlo : ORelO κ H w S lo vlo) (hhi : ORelO κ H w S hi vhi) (hmx : ORelO κ H w S mx vmx) :
    (Instr.sliceBounds true n cap vlo vhi vmx).run P w = .ok (l, h, h) w := by
  obtain ⟨h1, h2, h3, h4⟩ := lohi_inv hb
  obtain ⟨k, k', a, rfl, rfl⟩ := sameInt_inv hs
  rcases h4 with ⟨h4, _⟩ | ⟨k2, h4⟩
  · cases h4
  · injection h4 with h4
    injection h4 with h4
    injection h4 with h4
    injection h4 with _ h4
    subst h4
    obtain rfl := hhi.num
    obtain rfl := hmx.num
    unfold Instr.sliceBounds
    rcases h3 with ⟨rfl, rfl⟩ | ⟨k3, rfl⟩
    · obtain rfl := hlo.none_
      simp [sliceBound_run k h cap _ (by omega), sliceBound_run k' h h _ (Nat.le_refl _)]
    · obtain rfl := hlo.num
      simp [sliceBound_run k h cap _ (by omega), sliceBound_run k' h h _ (Nat.le_refl _), sliceBound_run k3 l h _ h1]
theorem Rd.form {S : Nat → Prop} {sz : Nat} {xs : List (List D)} {v : Value} (h : Rd w S (.sl sz xs) v) : ∃ a c, v = .slice a xs.length c ∧ xs.length ≤ c := by
  cases h with
  | nil => exact ⟨_, _, rfl, Nat.zero_le _⟩
  | sl _ b o c _ f hS hb hc => exact ⟨_, _, rfl, hc⟩
theorem Rd.cut {S : Nat → Prop} {sz : Nat} {xs : List (List D)} {a : Option Addr} {c l h m : Nat} (hr : Rd w S (.sl sz xs) (.slice a xs.length c)) (h1 : l ≤ h) (h2 : h ≤ xs.length) (hm : h ≤ m) :
    Rd w S (.sl sz ((xs.take h).drop l)) (.slice (if m = l then a else a.map (·.add (l * sz))) (h - l) (m - l)) := by
  by_cases hlh : l = h
  · subst hlh
    have : (xs.take l).drop l = [] := by simp
    rw [this, Nat.sub_self]
    exact .nil _ _ _
  · have hml : m ≠ l := by omega
    rw [if_neg hml]
    have hlen : ((xs.take h).drop l).length = h - l := by simp; omega
    generalize hv : (.slice a xs.length c : Value) = v at hr
    cases hr with
    | nil => simp at h2; omega
    | sl _ b o c' _ f hS hb hc hl hcell hr =>
      injection hv with ha _ _
      subst ha
      have := Rd.sl (w := w) (S := S) sz b (o + l * sz) (m - l) ((xs.take h).drop l) (fun j i => f (l + j) i) hS hb (by rw [hlen]; omega)
        (fun j cs hj => hl (l + j) cs (by simp only [List.getElem?_drop, List.getElem?_take] at hj; split at hj <;> first | exact hj | cases hj))
        (fun j i hj hi => by
          have := hcell (l + j) i (by rw [hlen] at hj; omega) hi
          rw [Nat.add_mul, ← Nat.add_assoc] at this
          exact this)
        (fun j cs i d hj hi => hr (l + j) cs i d (by simp only [List.getElem?_drop, List.getElem?_take] at hj; split at hj <;> first | exact hj | cases hj) hi)
      rw [hlen] at this
      simpa [add_off] using this
theorem str_cut (s : ByteArray) (l h : Nat) : (⟨((bytes s).take h |>.drop l).toArray⟩ : ByteArray) = s.extract l h := by
  apply ByteArray.ext
  apply Array.ext'
  rw [Lib.extract_data s l h]
  simp [bytes, List.drop_take]
theorem slice_nonarray {t : TypeId} {d : TypeDesc} {u : Value} {lo hi mx : Option Value} (hu : P.underlying t = some d) (hd : ∀ n e, d ≠ .array n e) :
    (Instr.sliceAt t u lo hi mx).run P w = (Instr.slice t u lo hi mx).run P w := by
  simp only [Instr.sliceAt, Sem.run_bind, run_underlying hu, Result.andThen_ok]
theorem sliceV_ok (hh : HRel κ H w U) {t : TypeId} {x : AV} {u : Value} {lo hi mx : Option AV} {vlo vhi vmx : Option Value} {e : Eff} (h : sliceV P (get H) t x lo hi mx = some e)
    (hx : VRel κ H w (Stab κ H U) x u) (hlo : ORelO κ H w (Stab κ H U) lo vlo) (hhi : ORelO κ H w (Stab κ H U) hi vhi) (hmx : ORelO κ H w (Stab κ H U) mx vmx) :
    ∃ r z, e.act = .ret r ∧ (Instr.sliceAt t u vlo vhi vmx).run P w = .ok z w ∧ VRel κ (freezeAll H e.frz) w (Stab κ (freezeAll H e.frz) U) r z := by
  unfold sliceV at h
  split at h
  · rename_i s hu
    obtain rfl := hx.sc_inv
    rw [slice_nonarray hu (by simp)]
    split at h
    · cases h
    rename_i hmn
    obtain ⟨⟨l, hb⟩, hlh, h⟩ := bind_inv h
    obtain rfl := ret_inv h
    have hmx' : vmx = none := by
      cases mx with
      | none => exact hmx.none_
      | some _ => simp at hmn
    subst hmx'
    refine ⟨_, _, rfl, ?_, by simp only [str_cut]; exact .sc _⟩
    simp [Instr.slice, run_underlying hu, bounds_run (sl := false) hlh (Nat.le_refl _) hlo hhi]
  · rename_i el hu
    rw [slice_nonarray hu (by simp)]
    split at h
    · cases h
    rename_i n hs
    split at h
    · -- nil
      obtain rfl := hx.sc_inv
      obtain ⟨⟨l, hb⟩, hlh, h⟩ := bind_inv h
      have hz := lohi_inv hlh
      obtain rfl : hb = 0 := by omega
      obtain rfl : l = 0 := by omega
      split at h
      · rename_i hc
        obtain rfl := ret_inv h
        refine ⟨_, .slice none 0 0, rfl, ?_, .sc _⟩
        rcases hc with hc | hc
        · cases mx with
          | some _ => cases hc
          | none =>
            obtain rfl := hmx.none_
            simp [Instr.slice, run_underlying hu, bounds_run (sl := true) hlh (Nat.le_refl _) hlo hhi, sizeT_run hs]
        · simp [Instr.slice, run_underlying hu, bounds3_run hlh (Nat.le_refl _) hc hlo hhi hmx, sizeT_run hs]
      · cases h
    · split at h
      · rename_i sz xs fr hcd
        split at h
        · rename_i hsz
          subst hsz
          obtain ⟨⟨l, hb⟩, hlh, h⟩ := bind_inv h
          obtain ⟨h1, h2, _, _⟩ := lohi_inv hlh
          have hfr := freezeAll_rel fr H hh
          have hrd : Rd w (Stab κ (freezeAll H fr) U) (.sl sz xs) u := by
            refine cellD_ok hh hfr.1 hfr.2 hcd (fun k ty s ys fz hk => ?_) hx
            rw [freezeAll_get]
            by_cases hm : k ∈ fr
            · rw [if_pos hm, hk]; exact ⟨true, rfl, fun _ => rfl⟩
            · rw [if_neg hm, hk]; exact ⟨fz, rfl, fun hc => hc.elim id (fun hc => absurd hc hm)⟩
          obtain ⟨a, c, rfl, hle⟩ := hrd.form
          split at h
          · injection h with h
            subst h
            obtain rfl := hmx.none_
            refine ⟨_, _, rfl, ?_, .d _ _ (hrd.cut h1 h2 (Nat.le_trans h2 hle))⟩
            simp [Instr.slice, run_underlying hu, bounds_run (sl := true) hlh hle hlo hhi, sizeT_run hs]
          · split at h
            · rename_i hsm
              injection h with h
              subst h
              have hcut := hrd.cut h1 h2 (Nat.le_refl hb)
              refine ⟨_, _, rfl, ?_, .csl _ _ _ _ hcut⟩
              simp [Instr.slice, run_underlying hu, bounds3_run hlh hle hsm hlo hhi hmx, sizeT_run hs]
            · cases h
        · cases h
      · cases h
  · cases h

/-! ### min and max -/
theorem minAV_ok {S : Nat → Prop} {lt : Int → Int → Bool} {f : Value → Value → Sem Value} (hf : ∀ k k' x y, (f (.int k x) (.int k' y)).run P w = .ok (.int k (if lt y x then y else x)) w) :
    ∀ {xs : List AV} {x r : AV} {u : Value} {us : List Value}, minAV lt x xs = some r → VRel κ H w S x u → VRels κ H w S xs us → ∃ z, (us.foldlM f u).run P w = .ok z w ∧ VRel κ H w S r z
  | [], x, r, u, us, h, hx, hs => by
    have : us = [] := List.eq_nil_of_length_eq_zero hs.1.symm
    subst this
    simp only [minAV, Option.some.injEq] at h
    subst h
    exact ⟨u, rfl, hx⟩
  | y :: xs, x, r, u, us, h, hx, hs => by
    cases us with
    | nil => exact absurd hs.1 (by simp)
    | cons v us =>
      unfold minAV at h
      split at h
      · rename_i heq; cases heq
      · rename_i k a k' b xs' heq
        injection heq with h1 h2
        subst h1 h2
        have hy : VRel κ H w S (.d (.sc (.int k' b))) v := hs.2 0 _ _ rfl rfl
        obtain rfl := hx.sc_inv
        obtain rfl := hy.sc_inv
        split at h
        · rename_i hk
          subst hk
          have hs' : VRels κ H w S xs us := ⟨by simpa using hs.1, fun i c v hc hv => hs.2 (i + 1) c v (by simpa using hc) (by simpa using hv)⟩
          obtain ⟨z, hz, hr⟩ := minAV_ok hf h (.sc _) hs'
          refine ⟨z, ?_, hr⟩
          simp only [List.foldlM_cons, Sem.run_bind, hf, Result.andThen_ok]
          exact hz
        · cases h
      · cases h
end
end Go.AE
