/- The abstract evaluator: maps. -/
import Derived.Test.YtlaldhmpoggkjaaGreatDoorAeOp6
set_option autoImplicit false
set_option linter.unusedVariables false
set_option linter.unusedSimpArgs false
namespace Go.AE
section
variable {P : Program} {κ : Kp} {H H' : Heap} {w : World} {U : Nat → Prop}

theorem beq_bytes (a b : ByteArray) : (a == b) = (bytes a == bytes b) := by rw [beq_toListBytes, bytes_eq, bytes_eq]
theorem keyOk_inv {t : TypeId} {k : Value} (h : keyOk P t k = true) : ∃ kt e, P.underlying t = some (.map kt e) ∧
    ((∃ s, k = .string s ∧ P.underlying kt = some .string) ∨ ∃ i n i', k = .int i n ∧ P.underlying kt = some (.int i')) := by
  unfold keyOk at h
  split at h
  · rename_i kt e s hu
    refine ⟨kt, e, hu, .inl ⟨s, rfl, ?_⟩⟩
    generalize P.underlying kt = q at h
    cases q with
    | none => cases h
    | some d => cases d <;> first | rfl | cases h
  · rename_i kt e i n hu
    refine ⟨kt, e, hu, .inr ⟨i, n, ?_⟩⟩
    generalize P.underlying kt = q at h
    cases q with
    | none => cases h
    | some d => cases d <;> first | exact ⟨_, rfl, rfl⟩ | cases h
  · cases h
theorem checkKey_run {b : Bool} {kt : TypeId} {k : Value} (h : (∃ s, k = .string s ∧ P.underlying kt = some .string) ∨ ∃ i n i', k = .int i n ∧ P.underlying kt = some (.int i')) :
    (Instr.checkKey b 10000 kt k).run P w = .ok () w := by
  have key : ∀ n, (Instr.checkKey b (n + 1) kt k).run P w = .ok () w := by
    intro n
    rcases h with ⟨s, rfl, hu⟩ | ⟨i, m, i', rfl, hu⟩ <;> simp [Instr.checkKey, run_underlying hu]
  exact key 9999
/-- Entries of a map, told by the evaluator and by the machine. -/
def EntsRel (κ : Kp) (H : Heap) (w : World) (S : Nat → Prop) (es : List (Value × AV)) (ents : List MapEntry) : Prop :=
  es.length = ents.length ∧ ∀ (i : Nat) (e : Value × AV) (m : MapEntry), es[i]? = some e → ents[i]? = some m → m.key = e.1 ∧ VRel κ H w S e.2 m.val
theorem EntsRel.tail {S : Nat → Prop} {e : Value × AV} {es : List (Value × AV)} {m : MapEntry} {ents : List MapEntry} (h : EntsRel κ H w S (e :: es) (m :: ents)) : EntsRel κ H w S es ents :=
  ⟨by simpa using h.1, fun i e' m' he hm => h.2 (i + 1) e' m' (by simpa using he) (by simpa using hm)⟩
theorem EntsRel.head {S : Nat → Prop} {e : Value × AV} {es : List (Value × AV)} {m : MapEntry} {ents : List MapEntry} (h : EntsRel κ H w S (e :: es) (m :: ents)) : m.key = e.1 ∧ VRel κ H w S e.2 m.val := h.2 0 e m rfl rfl
/-- The index of a key, and what stands there. -/
theorem findE_ok {S : Nat → Prop} {kt : TypeId} {k : Value} (hk : (∃ s, k = .string s ∧ P.underlying kt = some .string) ∨ ∃ i n i', k = .int i n ∧ P.underlying kt = some (.int i')) {d : TypeDesc} (hd : P.underlying kt = some d) :
    ∀ {es : List (Value × AV)} {ents : List MapEntry} {r : Option AV} (j : Nat), findE k es = some r → EntsRel κ H w S es ents →
      (r = none ∧ Instr.findNow d k ents j = some none ∧ (∀ x, putE k x es = es ++ [(k, x)])) ∨
      ∃ (i : Nat) (v : AV) (m : MapEntry), r = some v ∧ ents[i]? = some m ∧ Instr.findNow d k ents j = some (some (j + i, m.val)) ∧ VRel κ H w S v m.val ∧ Instr.sameBits 10000 m.key k = true ∧
        (∀ x, putE k x es = es.set i (k, x)) ∧ i < es.length
  | [], ents, r, j, h, hr => by
    have : ents = [] := List.eq_nil_of_length_eq_zero hr.1.symm
    subst this
    simp only [findE, Option.some.injEq] at h
    subst h
    exact .inl ⟨rfl, rfl, fun x => rfl⟩
  | (q, v) :: es, ents, r, j, h, hr => by
    cases ents with
    | nil => exact absurd hr.1 (by simp)
    | cons m ents =>
      obtain ⟨hkey, hval⟩ := hr.head
      simp only at hkey
      have step : ∀ {b : Bool}, Instr.sameNow d k m.key = some b → (b = true → findE k ((q, v) :: es) = some (some v)) → (b = false → findE k ((q, v) :: es) = findE k es) →
          (b = true → Instr.sameBits 10000 m.key k = true) → (∀ x, putE k x ((q, v) :: es) = if b then (k, x) :: es else (q, v) :: putE k x es) →
          (r = none ∧ Instr.findNow d k (m :: ents) j = some none ∧ (∀ x, putE k x ((q, v) :: es) = ((q, v) :: es) ++ [(k, x)])) ∨
          ∃ (i : Nat) (v' : AV) (m' : MapEntry), r = some v' ∧ (m :: ents)[i]? = some m' ∧ Instr.findNow d k (m :: ents) j = some (some (j + i, m'.val)) ∧ VRel κ H w S v' m'.val ∧ Instr.sameBits 10000 m'.key k = true ∧
            (∀ x, putE k x ((q, v) :: es) = ((q, v) :: es).set i (k, x)) ∧ i < ((q, v) :: es).length := by
        intro b hs ht hf hsb hput
        cases b with
        | true =>
          rw [ht rfl] at h
          injection h with h
          subst h
          exact .inr ⟨0, v, m, rfl, rfl, by simp [Instr.findNow, hs], hval, hsb rfl, fun x => by rw [hput]; rfl, by simp⟩
        | false =>
          rw [hf rfl] at h
          rcases findE_ok hk hd (j + 1) h hr.tail with ⟨h1, h2, h3⟩ | ⟨i, v', m', h1, h2, h3, h4, h5, h6, h7⟩
          · exact .inl ⟨h1, by simp [Instr.findNow, hs, h2], fun x => by rw [hput]; simp [h3]⟩
          · exact .inr ⟨i + 1, v', m', h1, by simpa using h2, by simp [Instr.findNow, hs, h3, Nat.add_assoc, Nat.add_comm 1 i], h4, h5, fun x => by rw [hput]; simp [h6], by simpa using h7⟩
      unfold findE at h
      split at h
      · rename_i a b
        have hd' : d = .string := by
          rcases hk with ⟨s, _, hu⟩ | ⟨i, n, i', hk, _⟩
          · rw [hd] at hu; injection hu
          · cases hk
        subst hd'
        refine step (b := bytes a == bytes b) (by rw [hkey]; simp [Instr.sameNow, beq_bytes]) (fun hb => by simp [findE, hb]) (fun hb => by simp only [findE, hb]; simp) (fun hb => ?_) (fun x => by simp [putE])
        rw [hkey]
        simp only [Instr.sameBits, beq_bytes]
        rw [beq_iff_eq] at hb ⊢
        exact hb.symm
      · rename_i i a j' b
        split at h
        · rename_i hij
          subst hij
          have hd' : ∃ i', d = .int i' := by
            rcases hk with ⟨s, hk, hu⟩ | ⟨i, n, i', _, hu⟩
            · cases hk
            · rw [hd] at hu; injection hu with hu; exact ⟨i', hu⟩
          obtain ⟨i', rfl⟩ := hd'
          refine step (b := a == b) (by rw [hkey]; simp [Instr.sameNow]) (fun hb => by simp [findE, hb]) (fun hb => by simp only [findE, hb]; simp) (fun hb => ?_) (fun x => by simp [putE])
          rw [hkey]
          simp only [Instr.sameBits]
          rw [beq_iff_eq] at hb
          simp [hb]
        · cases h
      · cases h
/-- The entries behind a map's value. -/
def MapAt (w : World) (um : Value) (ents : Array MapEntry) : Prop := (um = .map none ∧ ents = #[]) ∨ ∃ g clock, um = .map (some g) ∧ w.heap[g]? = some (.map ents clock)
theorem run_lookup_at {t kt el : TypeId} {um k z : Value} {ents : Array MapEntry} {ok : Bool} {fr : Option (Nat × Value)} (hm : MapAt w um ents) (hu : P.underlying t = some (.map kt el))
    (hkk : (∃ s, k = .string s ∧ P.underlying kt = some .string) ∨ ∃ i n i', k = .int i n ∧ P.underlying kt = some (.int i')) (hf : (Instr.findKey kt k ents.toList).run P w = .ok fr w) (hz : (zeroValue el).run P w = .ok z w) :
    (Instr.lookup t um k ok).run P w = .ok (match fr with | some (_, v) => if ok then .tuple #[v, .bool true] else v | none => if ok then .tuple #[z, .bool false] else z) w := by
  have hck := fun b => checkKey_run (P := P) (w := w) (b := b) hkk
  rcases hm with ⟨rfl, rfl⟩ | ⟨g, clock, rfl, hg⟩
  · unfold Instr.lookup
    simp only [Sem.run_bind, run_underlying hu, Result.andThen_ok, Sem.run_pure, hck, hf]
    cases fr with
    | none => simp [hz]
    | some p => simp
  · unfold Instr.lookup
    have hgo : (getObj g).run P w = .ok (.map ents clock) w := by simp [getObj, Sem.run, hg]
    simp only [Sem.run_bind, run_underlying hu, Result.andThen_ok, Sem.run_pure, hgo, hck, hf]
    cases fr with
    | none => simp [hz]
    | some p => simp
theorem lookupAV_ok (hh : HRel κ H w U) {t : TypeId} {m k : AV} {um uk : Value} {ok : Bool} {e : Eff} (h : lookupAV P (get H) t m k ok = some e)
    (hm : VRel κ H w (Stab κ H U) m um) (hk : VRel κ H w (Stab κ H U) k uk) : RetOk P κ H w (Stab κ H U) (Instr.lookup t um uk ok) e := by
  unfold lookupAV at h
  split at h
  · obtain rfl := hk.sc_inv
    split at h
    · rename_i hko
      obtain ⟨kt, el, hu, hkk⟩ := keyOk_inv hko
      have hd : ∃ d, P.underlying kt = some d := by rcases hkk with ⟨_, _, h⟩ | ⟨_, _, _, _, h⟩ <;> exact ⟨_, h⟩
      obtain ⟨d, hd⟩ := hd
      have hzero : ∀ z, (mapE P t).bind (zeroAV P) = some z → ∃ v, (zeroValue el).run P w = .ok v w ∧ VRel κ H w (Stab κ H U) z v := by
        intro z hz
        obtain ⟨el', he, hz⟩ := bind_inv hz
        simp only [mapE, hu, Option.some.injEq] at he
        subst he
        obtain ⟨v, hv, hc⟩ := bind_inv hz
        simp only [zeroT] at hv
        obtain ⟨i, hi, hz⟩ := bind_inv hv
        exact ⟨v, by simp [zeroValue, typeInfo, hi, hz], constAV_ok hc⟩
      have hents : ∀ (ents : Array MapEntry) (r : Option AV) (es : List (Value × AV)), findE uk es = some r → EntsRel κ H w (Stab κ H U) es ents.toList →
          (r = none ∧ (Instr.findKey kt uk ents.toList).run P w = .ok none w) ∨ ∃ v u n, r = some v ∧ (Instr.findKey kt uk ents.toList).run P w = .ok (some (n, u)) w ∧ VRel κ H w (Stab κ H U) v u := by
        intro ents r es hf hr
        rcases findE_ok hkk hd 0 hf hr with ⟨h1, h2, _⟩ | ⟨i, v, m', h1, _, h3, h4, _⟩
        · exact .inl ⟨h1, by simp [Instr.findKey, run_underlying hd, h2]⟩
        · exact .inr ⟨v, m'.val, 0 + i, h1, by simp only [Instr.findKey, Sem.run_bind, run_underlying hd, Result.andThen_ok, h3]; rfl, h4⟩
      have hmap : ∀ r, (match m with
          | .d (.sc (.map none)) => some none
          | .mp i => match get H i with
            | some (.mp es) => findE uk es
            | _ => none
          | _ => none) = some r → ∃ ents : Array MapEntry, MapAt w um ents ∧
            ((r = none ∧ (Instr.findKey kt uk ents.toList).run P w = .ok none w) ∨ ∃ v u n, r = some v ∧ (Instr.findKey kt uk ents.toList).run P w = .ok (some (n, u)) w ∧ VRel κ H w (Stab κ H U) v u) := by
        intro r hr
        split at hr
        · obtain rfl := hm.sc_inv
          injection hr with hr
          subst hr
          exact ⟨#[], .inl ⟨rfl, rfl⟩, hents #[] none [] rfl ⟨rfl, fun i e m he _ => by simp at he⟩⟩
        · cases hm with
          | mp i g es hi ho =>
            simp only [get, ho] at hr
            obtain ⟨ents, clock, hg, _, hl, hrel⟩ := hh.obj _ _ _ hi ho
            exact ⟨ents, .inr ⟨g, clock, rfl, hg⟩, hents ents r es hr ⟨by simpa using hl, fun i e m he hm => hrel i e m he (by simpa using hm)⟩⟩
        · cases hr
      split at h
      · rename_i v z h1 h2
        obtain ⟨zv, hz, _⟩ := hzero z h2
        obtain ⟨ents, hat, hf⟩ := hmap _ h1
        rcases hf with ⟨hf, _⟩ | ⟨v', u, n, hf, hfr, hrel⟩
        · cases hf
        · injection hf with hf
          subst hf
          have hrun := run_lookup_at (ok := ok) hat hu hkk hfr hz
          cases ok with
          | true => exact ⟨_, _, ret_inv h, hrun, VRel.of_tup (vs := [u, .bool true]) (.cons hrel (.cons (.sc _) .nil))⟩
          | false => exact ⟨_, _, ret_inv h, hrun, hrel⟩
      · rename_i z h1 h2
        obtain ⟨zv, hz, hzr⟩ := hzero z h2
        obtain ⟨ents, hat, hf⟩ := hmap _ h1
        rcases hf with ⟨_, hfr⟩ | ⟨v', u, n, hf, hfr, hrel⟩
        · have hrun := run_lookup_at (ok := ok) hat hu hkk hfr hz
          cases ok with
          | true => exact ⟨_, _, ret_inv h, hrun, VRel.of_tup (vs := [zv, .bool false]) (.cons hzr (.cons (.sc _) .nil))⟩
          | false => exact ⟨_, _, ret_inv h, hrun, hzr⟩
        · cases hf
      · cases h
    · cases h
  · cases h
end
end Go.AE
