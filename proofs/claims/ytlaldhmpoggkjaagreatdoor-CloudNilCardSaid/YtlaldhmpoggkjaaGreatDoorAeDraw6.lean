/- The abstract evaluator: every order of a region, told whole. -/
import Derived.Test.YtlaldhmpoggkjaaGreatDoorAeDraw5
set_option autoImplicit false
set_option linter.unusedVariables false
set_option linter.unusedSimpArgs false
namespace Go.AE
section
variable {C : Cfg} {callE : CallE} {ops : List Oper} {κs : Kp} {Hs : Heap} {ws : World} {U : Nat → Prop} {nt : Nat} {envF : Env} {HF : Heap} {Q : Exit → Act → World → Prop}

theorem DInv.looks {listed : Array Bool} {R : List Item} {E : List Early} {κ : Kp} {env : Env} {H : Heap} {rs : List (Nat × Rc)} {a : Act} {w : World} {j : Nat} {o : Oper}
    (hok : regionOk ops = true) (h : DInv C callE ops κs Hs ws U nt envF HF listed R E κ env H rs a w) (ho : ops[j]? = some o) (hl : listed.getD j true = false)
    (hready : ∀ e ∈ o.after, Region.binds .any e = true → listed.getD e.on false = true) : ∀ {i : Nat} {q : Oper} {d : Tmp}, ops[i]? = some q → listed.getD i true = false → q.dst = some d → d ∈ o.looksAt ops.toArray → (Ms ops i).testBit j = true := by
  intro i q d hq hli hd hlook
  rcases looks_setter hok ho hq hd hlook with h1 | h1
  · have := mask_closed hok (L := fun k => listed.getD k false = true) (fun k q hq hk e he hb => h.closed k q hq hk e he hb) j o ho hready i h1
    rw [← getD_same (getD_lt this), hli] at this
    cases this
  · exact h1
theorem draw_any (hs : Sound C.P callE) (hr : Readers C callE) (hok : regionOk ops = true) (hd : dstsOk nt ops = true) (hq : ∀ κ' w' a', At κ' HF w' U nt envF a' → Since κs Hs ws κ' HF w' → Q .normal a' w') :
    ∀ (n : Nat) (listed : Array Bool) (R : List Item) (E : List Early) (κ : Kp) (env : Env) (H : Heap) (rs : List (Nat × Rc)) (a : Act) (w : World),
      DInv C callE ops κs Hs ws U nt envF HF listed R E κ env H rs a w → R.length + E.length = n → wpAny C.P .any ops.toArray Q n listed a w
  | 0, listed, R, E, κ, env, H, rs, a, w, h, hn => by
    obtain rfl : R = [] := List.eq_nil_of_length_eq_zero (by omega)
    obtain rfl : E = [] := List.eq_nil_of_length_eq_zero (by omega)
    refine ⟨?_, ?_⟩
    · cases hrd : Region.ready .any ops.toArray listed with
      | nil => rfl
      | cons j l =>
        have hj : j ∈ Region.ready .any ops.toArray listed := by rw [hrd]; exact List.mem_cons_self ..
        obtain ⟨h1, o, ho, _⟩ := mem_ready.1 hj
        have := (h.idx j o (by simpa using ho)).1 h1
        simp at this
    · obtain ⟨h1, h2⟩ := h.at_end
      exact hq κ w a h1 h2
  | n + 1, listed, R, E, κ, env, H, rs, a, w, h, hn => by
    refine ⟨fun hrd => ?_, fun j hj => ?_⟩
    · obtain ⟨rfl, rfl⟩ := h.done hok hrd
      simp at hn
    · obtain ⟨hl, o, ho', hready⟩ := mem_ready.1 hj
      have ho : ops[j]? = some o := by simpa using ho'
      have hmask : ∀ i, (Ms ops j).testBit i = true → listed.getD i false = true := mask_closed hok (L := fun k => listed.getD k false = true) (fun k q hq hk e he hb => h.closed k q hq hk e he hb) j o ho hready
      have hhide : ∀ t ∈ o.looksAt ops.toArray, t ∉ E.map (·.d) := by
        intro t ht hc
        obtain ⟨e, he, rfl⟩ := List.mem_map.1 hc
        obtain ⟨q, ty, z, q1, q2, q3, q4, q5, _⟩ := h.early e he
        have := h.looks hok ho hl hready q1 ((h.idx _ _ q1).2 (.inr (List.mem_map_of_mem he))) q5 ht
        rw [q4] at this
        simp at this
      have hlook : ∀ t ∈ o.looksAt ops.toArray, lookup (hide env (E.map (·.d))) t = lookup env t := fun t ht => by rw [lookup_hide, if_neg (hhide t ht)]
      unfold wpOp
      simp only [ho']
      rcases (h.idx j o ho).1 hl with hjR | hjE
      · obtain ⟨x, hx, rfl⟩ := List.mem_map.1 hjR
        obtain ⟨p, s, rfl⟩ := List.append_of_mem hx
        obtain ⟨j, o2⟩ := x
        have hoo : ops[j]? = some o2 := h.items (j, o2) (by simp)
        simp only at ho ho' hl hready hmask hlook hhide hjR hj ⊢
        rw [ho] at hoo
        injection hoo with hoo
        subst hoo
        have hsorted := h.sorted
        simp only [List.map_append, List.map_cons, List.pairwise_append] at hsorted
        obtain ⟨v, H1, rc, rp, rt, hi, rfl, hrun⟩ := RunL.front hr h.run h.pairs fun x hx => by
          have hxo : ops[x.1]? = some x.2 := h.items x (by simp [hx])
          have hxl : listed.getD x.1 true = false := (h.idx _ _ hxo).2 (.inl (by simp only [List.map_append, List.mem_append]; exact .inl (List.mem_map_of_mem hx)))
          have hxlt : x.1 < j := hsorted.2.2 _ (List.mem_map_of_mem hx) j (List.mem_cons_self ..)
          have hno : (Ms ops j).testBit x.1 = false := by
            cases hb : (Ms ops j).testBit x.1 with
            | false => rfl
            | true =>
              have := hmask _ hb
              rw [← getD_same (getD_lt this), hxl] at this
              cases this
          have hno2 : (Ms ops x.1).testBit j = false := by
            cases hb : (Ms ops x.1).testBit j with
            | false => rfl
            | true => have := mask_lt hok hxo hb; omega
          refine ⟨fun d hd1 hd2 => ?_, fun d hd1 hd2 => ?_, fun d hd1 hd2 => ?_, hno⟩
          · rcases looks_setter hok ho hxo hd1 hd2 with h1 | h1
            · rw [hno] at h1; cases h1
            · rw [hno2] at h1; cases h1
          · rcases looks_setter hok hxo ho hd1 hd2 with h1 | h1
            · rw [hno2] at h1; cases h1
            · rw [hno] at h1; cases h1
          · have := dst_one hok hxo ho hd1 hd2
            omega
        have hnext : ∀ κ' w' u, HRel κ' H1 w' U → Since κ H w κ' H1 w' → VRel κ' H1 w' (Stab κ' H1 U) v u → wpAny C.P .any ops.toArray Q n (listed.setIfInBounds j true) (a.put o.dst u) w' := fun κ' w' u q1 q2 q3 =>
          draw_any hs hr hok hd hq n _ _ _ _ _ _ _ _ _ (h.stepR hok hd hready hrun q1 q2 q3) (by simp at hn ⊢; omega)
        have hwant : ∀ b, guardOk ops env o = some b → Region.wanted o (yielded ops.toArray a.tmps) = b := fun b hb => guard_ok h.env (by rw [guardOk_congr hlook]; exact hb)
        have hwork : ∀ e, guardOk ops env o = some true → opEffD C.P (get H) env o = some e → apply C callE H e = some (v, H1) →
            (if Region.wanted o (yielded ops.toArray a.tmps) = true then o.wp C.P a w (wpAny C.P .any ops.toArray Q n (listed.setIfInBounds j true)) Q ∨ (o.asks C.P a w ∧ LetsOut Q) else wpAny C.P .any ops.toArray Q n (listed.setIfInBounds j true) (a.put o.dst undef) w) := by
          intro e hg he ha
          rw [if_pos (hwant true hg)]
          refine .inl (prim_step hs h.rel (op_okD h.rel h.env (by rw [opEffD_congr hlook]; exact he)) ha fun κ' w' u q1 q2 q3 q4 => hnext κ' w' u q1 ⟨q2, q3⟩ q4)
        cases rc with
        | un =>
          obtain ⟨rfl, rfl, hg⟩ := itemEff_un hi
          rw [if_neg (by rw [hwant false hg]; simp)]
          exact hnext κ w undef h.rel (.refl _ _ _) .un
        | q rd =>
          obtain ⟨rfl, hg, e, he, hqe, _⟩ := itemEff_q hi
          exact hwork e hg he (quiet_apply hqe)
        | c t m =>
          obtain ⟨hg, e, he, ha, _, _⟩ := itemEff_c hi
          exact hwork e hg he ha
      · obtain ⟨x, hx, rfl⟩ := List.mem_map.1 hjE
        obtain ⟨E1, E2, rfl⟩ := List.append_of_mem hx
        obtain ⟨q, t, z, q1, q2, q3, q4, q5, q6, q7, q8, q9, q10⟩ := h.early x (by simp)
        rw [ho] at q1
        injection q1 with q1
        subst q1
        rw [if_pos (by simp [Region.wanted, q3])]
        refine .inl ?_
        have heff : opEff C.P (get H) (hide env ((E1 ++ x :: E2).map (·.d))) o = some ⟨[], .new (.box t z) none⟩ := by
          unfold opEff
          simp only [q2, q9, Option.bind_some]
        obtain ⟨u, ob, m, hrun, hob, hnv⟩ := op_ok h.rel h.env heff
        obtain ⟨f1, f2, f3⟩ := fill_ok (n := m) h.rel q7 q8 hob hnv
        unfold Oper.wp
        rw [hrun]
        exact draw_any hs hr hok hd hq n _ _ _ _ _ _ _ _ _ (h.stepE hok hd ho q5 hready f1 f2 (f3 _)) (by simp at hn ⊢; omega)
end
end Go.AE
