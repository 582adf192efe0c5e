/- The abstract evaluator: addresses of fields and elements, parts of values, lengths, slices of slices. -/
import Derived.Test.YtlaldhmpoggkjaaGreatDoorAeOp4
set_option autoImplicit false
set_option linter.unusedVariables false
set_option linter.unusedSimpArgs false
namespace Go.AE
section
variable {P : Program} {κ : Kp} {H H' : Heap} {w : World} {U : Nat → Prop}

/-- What a 'ret' operation without frozen rows comes to. -/
def RetOk (P : Program) (κ : Kp) (H : Heap) (w : World) (S : Nat → Prop) (s : Sem Value) (e : Eff) : Prop :=
  ∃ r u, e = ⟨[], .ret r⟩ ∧ s.run P w = .ok u w ∧ VRel κ H w S r u
theorem fieldOff_run {t : TypeId} {i o : Nat} {ft : TypeId} (h : fieldOff P t i = some (o, ft)) : ∃ fs f, P.underlying t = some (.struct fs) ∧ fs[i]? = some f ∧ f.offset = o ∧ f.type = ft := by
  unfold fieldOff at h
  split at h
  · rename_i fs hu
    simp only [Option.map_eq_some_iff, Prod.mk.injEq] at h
    obtain ⟨f, hf, h1, h2⟩ := h
    exact ⟨fs, f, hu, hf, h1, h2⟩
  · cases h
theorem fieldP_ok {S : Nat → Prop} {t : TypeId} {i : Nat} {p : AV} {u : Value} {e : Eff} (h : fieldP P t i p = some e) (hp : VRel κ H w S p u) : RetOk P κ H w S (Instr.fieldAt t u i) e := by
  unfold fieldP at h
  split at h
  · rename_i o ft ho
    split at h
    · cases h
    rename_i hz
    obtain ⟨fs, f, hu, hf, rfl, rfl⟩ := fieldOff_run ho
    have hrun : ∀ b off, (Instr.fieldAt t (.pointer (some ⟨b, off, none⟩)) i).run P w = .ok (.pointer (some ⟨b, off + f.offset, none⟩)) w := by
      intro b off
      have hsz : ∃ n, sizeT P f.type = some n ∧ n ≠ 0 := by
        cases hs : sizeT P f.type with
        | none => simp [hs] at hz
        | some n => exact ⟨n, rfl, by simpa [hs] using hz⟩
      obtain ⟨n, hs, hn⟩ := hsz
      simp [Instr.fieldAt, run_underlying hu, hf, Instr.sureAddr, fieldPlace, sizeT_run hs, hn, add_off]
    cases hp with
    | ptr k off g ty cs hk ho => exact ⟨_, _, ret_inv h, hrun _ _, .ptr k _ g ty cs hk ho⟩
    | ap k len j off g ty sz xs fz ho hl hv =>
      refine ⟨_, _, ret_inv h, hrun _ _, ?_⟩
      rw [Nat.add_assoc]
      exact .ap k len j _ g ty sz xs fz ho hl hv
    | dp b o cs f' hS hb hcell hr =>
      refine ⟨_, _, ret_inv h, hrun _ _, .dp b _ _ (fun j => f' (f.offset + j)) hS hb (fun j hj => ?_) (fun j d hd => ?_)⟩
      · rw [Nat.add_assoc]; exact hcell _ (by simp at hj; omega)
      · simp only [List.getElem?_drop] at hd; exact hr _ d hd
    | _ => simp at h
  · cases h
theorem VRel.agg' {S : Nat → Prop} {cs : List AV} {vs : Array Value} (h : VRels κ H w S cs vs.toList) : VRel κ H w S (.agg cs) (.agg vs) := by
  have := VRel.of_agg h
  simpa using this
theorem part_ok {S : Nat → Prop} {t : TypeId} {cs : List AV} {off : Nat} {r : AV} {vs : Array Value} (h : readBox P t cs off = some r) (hc : VRels κ H w S cs vs.toList) :
    ∃ u, (part t vs off).run P w = .ok u w ∧ VRel κ H w S r u := by
  unfold readBox at h
  split at h
  · rename_i n ha hs
    split at h
    · rename_i hle
      injection h with h
      subst h
      refine ⟨.agg (vs.extract off (off + n)), by simp [part, aggT_run ha, sizeT_run hs], ?_⟩
      have := (hc.drop_ off).take_ n
      have h2 : (vs.toList.drop off).take n = (vs.extract off (off + n)).toList := by simp [Array.toList_extract, List.extract_eq_take_drop]
      rw [h2] at this
      exact VRel.agg' this
    · cases h
  · rename_i n ha hs
    obtain ⟨v, hv, hr⟩ := hc.get h
    have hv' : vs[off]? = some v := by simpa using hv
    exact ⟨v, by simp [part, aggT_run ha, hv'], hr⟩
  · cases h
theorem fieldV_ok {S : Nat → Prop} {t : TypeId} {i : Nat} {x : AV} {u : Value} {e : Eff} (h : fieldV P t i x = some e) (hx : VRel κ H w S x u) : RetOk P κ H w S (Instr.field t u i) e := by
  unfold fieldV at h
  split at h
  · rename_i o ft cs ho
    obtain ⟨r, hr, h'⟩ := bind_inv h
    obtain ⟨fs, f, hu, hf, rfl, rfl⟩ := fieldOff_run ho
    obtain ⟨vs, rfl, hvs⟩ := hx.agg_inv
    obtain ⟨z, hz, hrel⟩ := part_ok hr hvs
    exact ⟨_, _, ret_inv h', by simp [Instr.field, run_underlying hu, hf, asAgg, hz], hrel⟩
  · cases h
theorem sliceE_run {t e : TypeId} (h : sliceE P t = some e) : P.underlying t = some (.slice e) := by
  unfold sliceE at h
  split at h
  · rename_i hu; injection h with h; subst h; exact hu
  · cases h
theorem indexAt_run {t e : TypeId} {n b o len c : Nat} {k : IntKind} {i : Int} (hu : P.underlying t = some (.slice e)) (hs : sizeT P e = some n) (h0 : 0 ≤ i) (h1 : i < (len : Int)) :
    (Instr.indexAt t (.slice (some ⟨b, o, none⟩) len c) (.int k i)).run P w = .ok (.pointer (some ⟨b, o + i.toNat * n, none⟩)) w := by
  simp [Instr.indexAt, asIntOf, run_underlying hu, sizeT_run hs, h0, h1, add_off]
theorem dp_of_rd {S : Nat → Prop} {sz n : Nat} {xs : List (List D)} {v : Value} {i : Nat} {c : List D} {t e : TypeId} {k : IntKind} (hu : P.underlying t = some (.slice e)) (hs : sizeT P e = some sz)
    (hr : Rd w S (.sl sz xs) v) (hc : xs[i]? = some c) : ∃ u, (Instr.indexAt t v (.int k (i : Int))).run P w = .ok u w ∧ VRel κ H w S (.dp c) u := by
  have hi : i < xs.length := (List.getElem?_eq_some_iff.1 hc).1
  cases hr with
  | nil => simp at hi
  | sl _ b o cap _ f hS hb hle hl hcell hr =>
    have := indexAt_run (P := P) (w := w) (b := b) (o := o) (c := cap) (k := k) hu hs (Int.natCast_nonneg i) (show (i : Int) < (xs.length : Int) by omega)
    rw [Int.toNat_natCast] at this
    exact ⟨_, this, .dp b _ c (fun j => f i j) hS hb (fun j hj => hcell i j hi (by rw [← hl i c hc]; exact hj)) (fun j d hd => hr i c j d hc hd)⟩
theorem indexP_ok (hh : HRel κ H w U) {t : TypeId} {x ix : AV} {u v : Value} {e : Eff} (h : indexP P (get H) t x ix = some e) (hx : VRel κ H w (Stab κ H U) x u) (hi : VRel κ H w (Stab κ H U) ix v) :
    RetOk P κ H w (Stab κ H U) (Instr.indexAt t u v) e := by
  unfold indexP at h
  split at h
  · rename_i el k i he
    obtain rfl := hi.sc_inv
    have hu := sliceE_run he
    split at h
    · rename_i n hs
      split at h
      · rename_i h0
        obtain ⟨i, rfl⟩ := Int.eq_ofNat_of_zero_le h0
        rw [Int.toNat_natCast] at h
        cases hx with
        | d x v hr =>
          cases x with
          | sc _ => simp at h
          | sl sz xs =>
            simp only at h
            split at h
            · rename_i hz
              subst hz
              obtain ⟨c, hc, h⟩ := bind_inv h
              obtain ⟨z, hz, hrel⟩ := dp_of_rd (κ := κ) (H := H) (n := 0) (k := k) hu hs hr hc
              exact ⟨_, _, ret_inv h, hz, hrel⟩
            · cases h
        | csl sz xs a m hr =>
          simp only at h
          split at h
          · rename_i hz
            subst hz
            obtain ⟨c, hc, h⟩ := bind_inv h
            obtain ⟨z, hz, hrel⟩ := dp_of_rd (κ := κ) (H := H) (n := 0) (k := k) hu hs hr hc
            exact ⟨_, _, ret_inv h, hz, hrel⟩
          · cases h
        | osl j len a c ty sz xs fz ho hl hv =>
          simp only [get, ho] at h
          split at h
          · rename_i hc
            obtain ⟨hlen, rfl, hlt⟩ := hc
            rcases hv hlen with ⟨h0', _, _⟩ | ⟨g, cap, e', m, hk, hsl, _⟩
            · omega
            · injection hsl with ha _ hc'
              subst ha
              refine ⟨_, _, ret_inv h, indexAt_run hu hs h0 hlt, ?_⟩
              have := VRel.ap (S := Stab κ H U) (w := w) (κ := κ) j len i 0 g ty sz xs fz ho hl (fun _ => hk)
              simpa using this
          · cases h
        | bsl j len g ty cs hk ho =>
          simp only at h
          split at h
          · rename_i hlt
            refine ⟨_, _, ret_inv h, indexAt_run hu hs h0 hlt, ?_⟩
            have := VRel.ptr (S := Stab κ H U) (w := w) (κ := κ) j (i * n) g ty cs hk ho
            simpa using this
          · cases h
        | _ => simp at h
      · cases h
    · cases h
  · cases h
theorem indexV_ok {S : Nat → Prop} {t : TypeId} {x ix : AV} {u v : Value} {e : Eff} (h : indexV P t x ix = some e) (hx : VRel κ H w S x u) (hi : VRel κ H w S ix v) : RetOk P κ H w S (Instr.index t u v) e := by
  unfold indexV at h
  split at h
  · rename_i s k i hu
    obtain rfl := hi.sc_inv
    obtain rfl := hx.sc_inv
    split at h
    · rename_i h0
      obtain ⟨b, hb, h⟩ := bind_inv h
      have hlt : i.toNat < s.size := by
        have := (List.getElem?_eq_some_iff.1 hb).1
        simpa [bytes] using this
      have hsb : s[i.toNat]? = some b := by
        have h1 : s.data[i.toNat]? = some b := by simpa [bytes] using hb
        have h2 : s[i.toNat]? = some s[i.toNat] := by simp [hlt]
        rw [h2]
        have h3 : s.data[i.toNat]? = some (s.data[i.toNat]'hlt) := Array.getElem?_eq_getElem hlt
        rw [h3] at h1
        injection h1 with h1
        rw [← h1]; rfl
      refine ⟨_, _, ret_inv h, ?_, .sc _⟩
      simp [Instr.index, asIntOf, run_underlying hu, h0, hsb]
    · cases h
  · rename_i n el cs k i hu
    obtain rfl := hi.sc_inv
    obtain ⟨vs, rfl, hvs⟩ := hx.agg_inv
    split at h
    · rename_i z hs
      split at h
      · rename_i hb
        obtain ⟨r, hr, h⟩ := bind_inv h
        obtain ⟨q, hq, hrel⟩ := part_ok hr hvs
        exact ⟨_, _, ret_inv h, by simp [Instr.index, asIntOf, run_underlying hu, hb.1, hb.2, sizeT_run hs, hq], hrel⟩
      · cases h
    · cases h
  · cases h
theorem lenAV_ok {S : Nat → Prop} {t : TypeId} {x : AV} {u : Value} {e : Eff} (h : lenAV P t x = some e) (hx : VRel κ H w S x u) (ty : TypeId) : RetOk P κ H w S (Builtin.len_ #[t] ty #[u]) e := by
  unfold lenAV at h
  split at h
  · rename_i hu; obtain rfl := hx.sc_inv; exact ⟨_, _, ret_inv h, by simp [Builtin.len_, run_underlying hu, goInt], .sc _⟩
  · rename_i hu; obtain rfl := hx.sc_inv; exact ⟨_, _, ret_inv h, by simp [Builtin.len_, run_underlying hu, goInt], .sc _⟩
  · rename_i hu
    cases hx with
    | d _ _ hr => cases hr <;> exact ⟨_, _, ret_inv h, by simp [Builtin.len_, run_underlying hu, goInt], .sc _⟩
  · rename_i hu
    cases hx with
    | csl _ _ _ _ hr => cases hr <;> exact ⟨_, _, ret_inv h, by simp [Builtin.len_, run_underlying hu, goInt], .sc _⟩
  · rename_i hu
    cases hx with
    | osl => exact ⟨_, _, ret_inv h, by simp [Builtin.len_, run_underlying hu, goInt], .sc _⟩
  · rename_i hu
    cases hx with
    | bsl => exact ⟨_, _, ret_inv h, by simp [Builtin.len_, run_underlying hu, goInt], .sc _⟩
  · cases h
end
end Go.AE
