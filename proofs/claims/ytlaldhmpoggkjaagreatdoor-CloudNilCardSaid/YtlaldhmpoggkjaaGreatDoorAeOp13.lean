/- The abstract evaluator: append, joined; what is written into a map. -/
import Derived.Test.YtlaldhmpoggkjaaGreatDoorAeOp12
set_option autoImplicit false
set_option linter.unusedVariables false
set_option linter.unusedSimpArgs false
namespace Go.AE
section
variable {P : Program} {κ : Kp} {H H' : Heap} {w : World} {U : Nat → Prop}

theorem appendAV_ok (hh : HRel κ H w U) {t t2 ty : TypeId} {s x : AV} {us ux : Value} {e : Eff} (h : appendAV P (get H) t t2 s x = some e) (hs : VRel κ H w (Stab κ H U) s us) (hx : VRel κ H w (Stab κ H U) x ux) :
    PrimOk P κ (freezeAll H e.frz) w U e.act ((do pure (.value (← Builtin.append_ #[t, t2] ty #[us, ux])) : Sem Next).run P w) := by
  unfold appendAV at h
  split at h
  · rename_i el el2 he he2
    have hu := sliceE_run he
    have hu2 := sliceE_run he2
    split at h
    · rename_i n z sz ys fr hn hz hxd
      split at h
      · cases h
      rename_i hc
      simp only [not_or, ne_eq, Decidable.not_not] at hc
      obtain ⟨rfl, hn0, hzn⟩ := hc
      simp only [hn, Option.getD_some] at hxd
      have hux := appended_ok hh hxd hx
      have hF := freezeAll_rel fr H hh
      obtain ⟨a2, c2, rfl, _⟩ := hux.form
      have hs' := hs.on hF.2 hh.dom hh.lt
      have hty : ∀ b l c, (do pure (.value (← Builtin.append_ #[t, t2] ty #[.slice b l c, .slice a2 ys.length c2])) : Sem Next).run P w = (do pure (.value (← Builtin.append_ #[t, t] ty #[.slice b l c, .slice a2 ys.length c2])) : Sem Next).run P w := by
        intro b l c
        simp only [Sem.run_bind, append_types (P := P) (w := w) hu hu2]
      split at h
      · split at h
        · rename_i hlike
          injection h with h
          subst h
          obtain ⟨b, len, cap, rfl, hle⟩ := sliceLike_inv hlike hs
          rw [hty]
          exact ⟨_, by simp only [List.length_nil, Sem.run_bind, run_append_none hu hn hle, Result.andThen_ok, Sem.run_pure], hs'⟩
        · cases h
      · rename_i y yr _
        have hys : (y :: yr) ≠ [] := by simp
        split at h
        · split at h
          · rename_i hroom
            injection h with h
            subst h
            obtain rfl := hs.sc_inv
            obtain ⟨i, hi, h1, h2, _⟩ := roomy_inv hroom
            rw [hty]
            have := append_new (ty := ty) hF.1 hu hi (sizeT_info hn hi) (Nat.pos_of_ne_zero hn0) (zeroT_info hz hi) hzn (xs := []) (us := .slice none 0 0) (.nil _ _ _) ⟨none, 0, rfl, rfl⟩ hys hux (by simpa using h1) h2
            simpa using this
          · cases h
        · rename_i sz' xs
          split at h
          · rename_i hcond
            obtain ⟨rfl, hroom⟩ := hcond
            injection h with h
            subst h
            obtain ⟨i, hi, h1, h2, _⟩ := roomy_inv hroom
            cases hs' with
            | csl _ _ a m hr =>
              have hm : xs.length = m := by obtain ⟨_, _, he, _⟩ := hr.form; injection he with _ he _; exact he.symm
              rw [hty]
              exact append_new hF.1 hu hi (sizeT_info hn hi) (Nat.pos_of_ne_zero hn0) (zeroT_info hz hi) hzn hr ⟨a, m, rfl, hm⟩ hys hux h1 h2
          · cases h
        · rename_i k len
          split at h
          · rename_i ty' sz' xs hk
            split at h
            · rename_i hcond
              obtain ⟨hlen, rfl, rfl, hfr, hroom⟩ := hcond
              injection h with h
              subst h
              obtain ⟨i, hi, h1, h2, _⟩ := roomy_inv hroom
              cases hs' with
              | osl _ _ a c ty2 sz2 xs2 fz2 ho hl hv =>
                have ho' : (freezeAll H fr)[k]? = some (.arr ty' sz' xs false) := by rw [freezeAll_get, if_neg hfr]; exact hk
                rw [ho'] at ho
                injection ho with ho
                injection ho with e1 e2 e3 e4
                subst e1 e2 e3 e4
                rw [hty]
                have hrow := hv hlen
                subst hlen
                exact append_own hF.1 hu hi (sizeT_info hn hi) (Nat.pos_of_ne_zero hn0) (zeroT_info hz hi) hzn ho' hrow hys hux h1 h2
            · cases h
          · cases h
        · cases h
    · cases h
  · cases h

theorem updateAV_ok (hh : HRel κ H w U) {t : TypeId} {m k v : AV} {um uk uv : Value} {e : Eff} (h : updateAV P (get H) t m k v = some e) (hm : VRel κ H w (Stab κ H U) m um) (hk : VRel κ H w (Stab κ H U) k uk) (hv : VRel κ H w (Stab κ H U) v uv) :
    PrimOk P κ (freezeAll H e.frz) w U e.act ((do Instr.mapUpdate t um uk uv; pure .skip : Sem Next).run P w) := by
  unfold updateAV at h
  split at h
  · rename_i i k
    obtain rfl := hk.sc_inv
    split at h
    · rename_i hko
      obtain ⟨kt, el, hu, hkk⟩ := keyOk_inv hko
      have hd : ∃ d, P.underlying kt = some d := by rcases hkk with ⟨_, _, h⟩ | ⟨_, _, _, _, h⟩ <;> exact ⟨_, h⟩
      obtain ⟨d, hd⟩ := hd
      cases hm with
      | mp _ g es hi ho =>
        simp only [get, ho] at h
        obtain ⟨r, hf, h⟩ := bind_inv h
        have he : e = ⟨[], .wr i (.mp (putE uk v es)) .undef⟩ := by
          cases v <;> first | (cases h; done) | (injection h with h; exact h.symm)
        subst he
        obtain ⟨ents, clock, hg, hborn, hl, hrel⟩ := hh.obj _ _ _ hi ho
        have hents : EntsRel κ H w (Stab κ H U) es ents.toList := ⟨by simpa using hl, fun i e m he hm => hrel i e m he (by simpa using hm)⟩
        have hck := checkKey_run (P := P) (w := w) (b := false) hkk
        have hlt := hh.lt i g hi
        have hset : ∀ es' clock', (setObj g (.map es' clock')).run P w = .ok () { w with heap := w.heap.setIfInBounds g (.map es' clock') } := fun es' clock' => by simp [setObj, Sem.run, hg]
        have hwrite : ∀ (ents' : Array MapEntry) (clock' : Nat), BornOk ents' clock' → (∀ w', Ext κ H w κ (H.set i (.mp (putE uk v es))) w' → (putE uk v es).length = ents'.size ∧ ∀ (j : Nat) (e : Value × AV) (q : MapEntry), (putE uk v es)[j]? = some e → ents'[j]? = some q → q.key = e.1 ∧ VRel κ (H.set i (.mp (putE uk v es))) w' (Stab κ (H.set i (.mp (putE uk v es))) U) e.2 q.val) →
            (Instr.mapUpdate t (.map (some g)) uk uv).run P w = .ok () { w with heap := w.heap.setIfInBounds g (.map ents' clock') } →
            PrimOk P κ (freezeAll H []) w U (.wr i (.mp (putE uk v es)) .undef) ((do Instr.mapUpdate t (.map (some g)) uk uv; pure .skip : Sem Next).run P w) := by
          intro ents' clock' hbo hr hrun
          have hs : ∀ c e f, Obj.map ents clock = .cells c e f → ∃ c', Obj.map ents' clock' = .cells c' e f ∧ c'.size = c.size := fun _ _ _ h => by cases h
          have hs' : ∀ c e f, Obj.map ents' clock' = .cells c e f → ∃ c', Obj.map ents clock = .cells c' e f := fun _ _ _ h => by cases h
          have hext := Ext.write hh (o' := .mp (putE uk v es)) hi ho rfl ⟨_, rfl⟩ hg hs hs'
          have hw := hh.write (o' := .mp (putE uk v es)) hi ho rfl ⟨_, rfl⟩ hg hs hs' ⟨ents', clock', by simp [hlt], hbo, (hr _ hext).1, (hr _ hext).2⟩
          exact ⟨κ, _, undef, .inr ⟨by simp only [Sem.run_bind, hrun, Result.andThen_ok, Sem.run_pure], rfl⟩, hw, hext, .un, .set ho (.inr (by simp)) (fun _ _ => rfl)⟩
        rcases findE_ok hkk hd 0 hf hents with ⟨_, h2, h3⟩ | ⟨j, v', m', _, h2, h3, _, h5, h6, h7⟩
        · have hfk : (Instr.findKey kt uk ents.toList).run P w = .ok none w := by simp [Instr.findKey, run_underlying hd, h2]
          refine hwrite (ents.push { key := uk, val := uv, born := clock }) (clock + 1) ⟨fun x hx => ?_, ?_⟩ (fun w' he => ?_) (by
            simp [Instr.mapUpdate, run_underlying hu, getObj, Sem.run, hg, hck, hfk, hset])
          · rw [Array.toList_push, List.mem_append] at hx
            rcases hx with hx | hx
            · have := hborn.1 x hx; omega
            · rw [List.mem_singleton] at hx; subst hx; exact Nat.lt_succ_self _
          · rw [Array.toList_push, List.map_append, List.nodup_append]
            refine ⟨hborn.2, by simp, fun a ha b hb => ?_⟩
            obtain ⟨x, hx, rfl⟩ := List.mem_map.1 ha
            have := hborn.1 x hx
            simp at hb
            omega
          rw [h3]
          refine ⟨by simp [hl], fun q e m hq hm => ?_⟩
          rcases Nat.lt_or_ge q es.length with hlt' | hge
          · rw [List.getElem?_append_left hlt'] at hq
            rw [Array.getElem?_push, if_neg (by omega)] at hm
            exact ⟨(hrel q e m hq hm).1, (hrel q e m hq hm).2.on (h3 v ▸ he) hh.dom hh.lt⟩
          · obtain ⟨q', rfl⟩ := Nat.exists_eq_add_of_le hge
            cases q' with
            | zero =>
              simp at hq
              rw [Nat.add_zero, hl, Array.getElem?_push_size] at hm
              injection hm with hm
              subst hq hm
              exact ⟨rfl, hv.on (h3 v ▸ he) hh.dom hh.lt⟩
            | succ q' => simp at hq
        · have hfk : (Instr.findKey kt uk ents.toList).run P w = .ok (some (0 + j, m'.val)) w := by
            simp only [Instr.findKey, Sem.run_bind, run_underlying hd, Result.andThen_ok, h3]; rfl
          have hmj : ents[j]? = some m' := by simpa using h2
          have hjlt : j < ents.size := (Array.getElem?_eq_some_iff.1 hmj).1
          have hmods : (ents.modify j fun e => { e with key := uk, val := uv }).toList.map (·.born) = ents.toList.map (·.born) := by
            apply List.ext_getElem?
            intro q
            simp only [List.getElem?_map, Array.getElem?_toList, Array.getElem?_modify]
            by_cases e : j = q
            · subst e; cases ents[j]? <;> simp
            · simp [e]
          have hbo : BornOk (ents.modify j fun e => { e with key := uk, val := uv }) clock := ⟨fun x hx => by
            have : x.born ∈ ents.toList.map (·.born) := hmods ▸ List.mem_map_of_mem hx
            obtain ⟨y, hy, he⟩ := List.mem_map.1 this
            rw [← he]; exact hborn.1 y hy, by rw [hmods]; exact hborn.2⟩
          refine hwrite (ents.modify j fun e => { e with key := uk, val := uv }) clock hbo (fun w' he => ?_) (by
            simp [Instr.mapUpdate, run_underlying hu, getObj, Sem.run, hg, hck, hfk, hset, hmj, Instr.keyThatStays, h5])
          rw [h6]
          refine ⟨by simp [hl], fun q e m hq hm => ?_⟩
          rw [Array.getElem?_modify] at hm
          by_cases e1 : j = q
          · subst e1
            rw [if_pos rfl, hmj] at hm
            simp [h7] at hq
            injection hm with hm
            subst hq hm
            exact ⟨rfl, hv.on (h6 v ▸ he) hh.dom hh.lt⟩
          · rw [if_neg e1] at hm
            rw [List.getElem?_set_ne e1] at hq
            exact ⟨(hrel q e m hq hm).1, (hrel q e m hq hm).2.on (h6 v ▸ he) hh.dom hh.lt⟩
    · cases h
  · cases h
end
end Go.AE
