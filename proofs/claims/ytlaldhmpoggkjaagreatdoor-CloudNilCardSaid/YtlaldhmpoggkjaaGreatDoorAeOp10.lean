/- The abstract evaluator: stores, make. -/
import Derived.Test.YtlaldhmpoggkjaaGreatDoorAeOp9
set_option autoImplicit false
set_option linter.unusedVariables false
set_option linter.unusedSimpArgs false
namespace Go.AE
section
variable {P : Program} {κ : Kp} {H H' : Heap} {w : World} {U : Nat → Prop}

theorem splice_get {α : Type} (l vs : List α) (off j : Nat) (h : off + vs.length ≤ l.length) :
    (splice l off vs)[j]? = if j < off then l[j]? else if j < off + vs.length then vs[j - off]? else l[j]? := by
  have e1 : (l.take off).length = off := by simp; omega
  unfold splice
  by_cases h1 : j < off
  · rw [if_pos h1, List.append_assoc, List.getElem?_append_left (by omega), List.getElem?_take, if_pos h1]
  · rw [if_neg h1]
    by_cases h2 : j < off + vs.length
    · rw [if_pos h2, List.getElem?_append_left (by simp; omega), List.getElem?_append_right (by omega), e1]
    · rw [if_neg h2, List.getElem?_append_right (by simp; omega), List.getElem?_drop]
      congr 1
      simp
      omega
theorem splice_length {α : Type} (l vs : List α) (off : Nat) (h : off + vs.length ≤ l.length) : (splice l off vs).length = l.length := by
  simp [splice]; omega
theorem setRow_eq {w : World} {g : Nat} {cur cs : Array Value} {t : TypeId} {fr : Nat × Nat} (hg : w.heap[g]? = some (.cells cur t fr)) : w.setRow g cs = { w with heap := w.heap.setIfInBounds g (.cells cs t fr) } := by
  have hlt : g < w.heap.size := (Array.getElem?_eq_some_iff.1 hg).1
  have hv : w.heap[g] = .cells cur t fr := (Array.getElem?_eq_some_iff.1 hg).2
  unfold World.setRow
  congr 1
  apply Array.ext_getElem?
  intro j
  rw [Array.getElem?_modify, Array.getElem?_setIfInBounds]
  by_cases e : g = j
  · subst e; simp [hlt, hv]
  · simp [e]
/-- Cells of a row are written: the row's block anew. -/
theorem write_row (hh : HRel κ H w U) {k g : Nat} {o o' : AO} {ty : TypeId} {vs vs' : Array Value} (hk : κ k = some g) (ho : H[k]? = some o) (hm : o.mut = true) (hl : o.later o')
    (hob : w.heap[g]? = some (.cells vs ty (0, 0))) (hsz : vs'.size = vs.size) (hr : ∀ w', w' = w.setRow g vs' → Ext κ H w κ (H.set k o') w' → w'.heap[g]? = some (.cells vs' ty (0, 0)) → ORel κ (H.set k o') w' (Stab κ (H.set k o') U) o' g) :
    HRel κ (H.set k o') (w.setRow g vs') U ∧ Ext κ H w κ (H.set k o') (w.setRow g vs') := by
  have hs : ∀ c e f, Obj.cells vs ty (0, 0) = .cells c e f → ∃ c', Obj.cells vs' ty (0, 0) = .cells c' e f ∧ c'.size = c.size := by
    intro c e f h; injection h with h1 h2 h3; subst h1 h2 h3; exact ⟨vs', rfl, hsz⟩
  have hs' : ∀ c e f, Obj.cells vs' ty (0, 0) = .cells c e f → ∃ c', Obj.cells vs ty (0, 0) = .cells c' e f := by
    intro c e f h; injection h with h1 h2 h3; subst h1 h2 h3; exact ⟨vs, rfl⟩
  have hext := Ext.write hh hk ho hm hl hob hs hs'
  have hat := setRow_heap w g vs vs' ty (0, 0) hob
  have hr' := hr _ rfl
  rw [setRow_eq hob] at hr' hat ⊢
  exact ⟨hh.write hk ho hm hl hob hs hs' (hr' hext hat), hext⟩

theorem storeAV_ok (hh : HRel κ H w U) {t : TypeId} {p v : AV} {up uv : Value} {e : Eff} (h : storeAV P (get H) t p v = some e) (hp : VRel κ H w (Stab κ H U) p up) (hv : VRel κ H w (Stab κ H U) v uv) :
    PrimOk P κ (freezeAll H e.frz) w U e.act ((do Instr.storeAt t up uv; pure .skip : Sem Next).run P w) := by
  unfold storeAV at h
  split at h
  · cases h
  rename_i vs hcs
  obtain ⟨hr, h1⟩ := hv.cells_ok hcs
  have hlen : uv.cells.size = vs.length := by simpa using hr.1.symm
  split at h
  · rename_i hs
    have hst : ∀ g off ty (cur : Array Value), up = .pointer (some ⟨g, off, none⟩) → w.heap[g]? = some (.cells cur ty (0, 0)) → off + vs.length ≤ cur.size →
        (do Instr.storeAt t up uv; pure .skip : Sem Next).run P w = .ok .skip (w.setRow g (splice cur.toList off uv.cells.toList).toArray) := by
      rintro g off ty cur rfl hg hle
      have := run_storeCells_at P g off ty uv.cells.toList 0 cur w hg (by simp; omega) h1
      simp only [Nat.add_zero] at this
      simp [Instr.storeAt, Instr.sureAddr, storeVar, sizeT_run hs, hlen, this, splice]
    cases hp with
    | ptr k off g ty cs hk ho =>
      simp only [get, ho] at h
      split at h
      · rename_i hle
        injection h with h
        subst h
        obtain ⟨rows, hg, hrows⟩ := hh.obj k g _ hk ho
        have hcl : cs.length = rows.size := by simpa using hrows.1
        have hsl : (splice rows.toList off uv.cells.toList).toArray.size = rows.size := by
          have := splice_length rows.toList uv.cells.toList off (by simp; omega)
          simpa using this
        have hsc : (splice cs off vs).length = cs.length := splice_length _ _ _ hle
        obtain ⟨h2, h3⟩ := write_row hh (o' := .box ty (splice cs off vs)) hk ho rfl ⟨_, rfl, hsc⟩ hg hsl (fun w' hw' he hat => ⟨_, hat, by
          have := (hrows.splice_ hr off).on he hh.dom hh.lt
          simpa using this⟩)
        exact ⟨κ, _, undef, .inr ⟨hst g off ty rows rfl hg (by omega), rfl⟩, h2, h3, .un, .set ho (.inl (by rw [hk]; simp)) (fun _ _ => rfl)⟩
      · cases h
    | ap k len i off g ty sz xs fz ho hl hk =>
      simp only [get, ho] at h
      cases fz with
      | true => cases h
      | false =>
        simp only at h
        split at h
        · rename_i hlen'
          split at h
          · rename_i _ _ c ds fr hc hd
            split at h
            · rename_i hcond
              obtain ⟨hoff, hfr⟩ := hcond
              injection h with h
              subst h
              have hkk := hk hlen'
              have hF := freezeAll_rel fr H hh
              obtain ⟨hdl, hdr⟩ := cellsD_ok hh hF.1 hF.2 hd (freeze_same H fr) hr
              have ho' : (freezeAll H fr)[k]? = some (.arr ty sz xs false) := by rw [freezeAll_get, if_neg hfr, ho]
              obtain ⟨rows, hg, hsz0, hall, hfit, hflat⟩ := hF.1.obj k g _ hkk ho'
              have hcl : c.length = sz := hall i c hc
              have hdl' : ds.length = uv.cells.size := by simpa using hdl
              have hi : i < xs.length := (List.getElem?_eq_some_iff.1 hc).1
              have him : (i + 1) * sz ≤ xs.length * sz := Nat.mul_le_mul_right _ hi
              rw [Nat.add_mul, Nat.one_mul] at him
              have hsp : i * sz + off + uv.cells.toList.length ≤ rows.toList.length := by simp; omega
              have hsl : (splice rows.toList (i * sz + off) uv.cells.toList).toArray.size = rows.size := by
                have := splice_length rows.toList uv.cells.toList (i * sz + off) hsp
                simpa using this
              have hsc : (splice c off ds).length = sz := (splice_length _ _ _ hoff).trans hcl
              obtain ⟨h2, h3⟩ := write_row hF.1 (o' := .arr ty sz (xs.set i (splice c off ds)) false) hkk ho' rfl ⟨_, _, rfl, by simp, fun hf => by cases hf⟩ hg hsl (fun w' hw' he hat => by
                refine ⟨_, hat, hsz0, ?_, by rw [hsl, List.length_set]; exact hfit, ?_⟩
                · intro j cs hj
                  by_cases e : i = j
                  · subst e; simp [hi] at hj; rw [← hj]; exact hsc
                  · rw [List.getElem?_set_ne e] at hj; exact hall j cs hj
                · intro j cs q d v hj hq hv
                  have hmv : ∀ d v, Rd w (Stab κ (freezeAll H fr) U) d v → Rd w' (Stab κ ((freezeAll H fr).set k (.arr ty sz (xs.set i (splice c off ds)) false)) U) d v := fun d v hd =>
                    hd.move he.size (fun b hb hbl => he.keep b hbl hb.2) (fun b hb hbl => hb.on he hF.1.dom hbl)
                  have hv' : (splice rows.toList (i * sz + off) uv.cells.toList)[j * sz + q]? = some v := by simpa using hv
                  rw [splice_get _ _ _ _ hsp] at hv'
                  by_cases e : i = j
                  · subst e
                    simp [hi] at hj
                    subst hj
                    have hq' : q < sz := by have := (List.getElem?_eq_some_iff.1 hq).1; omega
                    rw [splice_get _ _ _ _ hoff] at hq
                    by_cases e1 : q < off
                    · rw [if_pos e1] at hq
                      rw [if_pos (by omega)] at hv'
                      exact hmv _ _ (hflat i c q d v hc hq (by simpa using hv'))
                    · rw [if_neg e1] at hq
                      rw [if_neg (by omega)] at hv'
                      by_cases e2 : q < off + ds.length
                      · rw [if_pos e2] at hq
                        rw [if_pos (by simp; omega)] at hv'
                        have e3 : i * sz + q - (i * sz + off) = q - off := by omega
                        rw [e3] at hv'
                        exact hmv _ _ (hdr _ d v hq hv')
                      · rw [if_neg e2] at hq
                        rw [if_neg (by simp; omega)] at hv'
                        exact hmv _ _ (hflat i c q d v hc hq (by simpa using hv'))
                  · rw [List.getElem?_set_ne e] at hj
                    have hq' : q < sz := by have := (List.getElem?_eq_some_iff.1 hq).1; rw [hall j cs hj] at this; exact this
                    have : j * sz + q < i * sz + off ∨ ¬ (j * sz + q < i * sz + off + uv.cells.toList.length) := by
                      rcases Nat.lt_or_gt_of_ne e with hij | hij
                      · right
                        have := Nat.mul_le_mul_right sz hij
                        rw [Nat.succ_mul] at this
                        simp; omega
                      · left
                        have := Nat.mul_le_mul_right sz hij
                        rw [Nat.succ_mul] at this
                        omega
                    have hv2 : rows.toList[j * sz + q]? = some v := by
                      rcases this with h5 | h5
                      · rwa [if_pos h5] at hv'
                      · rw [if_neg h5, if_neg (by omega)] at hv'; exact hv'
                    exact hmv _ _ (hflat j cs q d v hj hq (by simpa using hv2)))
              exact ⟨κ, _, undef, .inr ⟨hst g _ ty rows rfl hg (by omega), rfl⟩, h2, h3, .un, .set ho' (.inl (by rw [hkk]; simp)) (fun _ _ => rfl)⟩
            · cases h
          · cases h
        · cases h
    | _ => cases h
  · cases h

theorem makeMap_ok {t : TypeId} : PrimOk P κ H w U (.new (.mp []) none) ((do pure (.value (← Instr.makeMap t none)) : Sem Next).run P w) := by
  refine ⟨.map (some w.heap.size), .map #[] 0, 0, ?_, ⟨rfl, rfl⟩, rfl⟩
  simp [Instr.makeMap]
end
end Go.AE
