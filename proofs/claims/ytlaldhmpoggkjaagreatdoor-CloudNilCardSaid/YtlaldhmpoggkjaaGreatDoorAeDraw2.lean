/- The abstract evaluator: operations whose order is drawn, moved to the front. -/
import Derived.Test.YtlaldhmpoggkjaaGreatDoorAeDraw1
set_option autoImplicit false
set_option linter.unusedVariables false
set_option linter.unusedSimpArgs false
namespace Go.AE
section
variable {C : Cfg} {callE : CallE} {ops : List Oper} {ms : List Nat}

/-- Functions that leave the heap as it is. -/
def Readers (C : Cfg) (callE : CallE) : Prop := ∀ f, C.reader f = true → ∀ args H r H', callE f args H = some (r, H') → H' = H
theorem freezeAll_agree (H : Heap) (fr : List Nat) (k : Nat) : Agree (get H) (get (freezeAll H fr)) k := by
  have e : get (freezeAll H fr) k = if k ∈ fr then (H[k]?).map AO.frz else H[k]? := freezeAll_get fr H k
  by_cases hm : k ∈ fr
  · rw [if_pos hm] at e
    cases hk : H[k]? with
    | none => rw [hk] at e; exact .inl (e.trans hk.symm)
    | some o =>
      rw [hk] at e
      cases o with
      | arr ty sz xs f => exact .inr ⟨ty, sz, xs, f, true, hk, e⟩
      | _ => exact .inl (e.trans hk.symm)
  · rw [if_neg hm] at e
    exact .inl e
theorem agree_append {h : HF} {H : Heap} {l : List AO} {k : Nat} (ha : Agree h (get H) k) (hk : k < H.length) : Agree h (get (H ++ l)) k := by
  have e : get (H ++ l) k = get H k := by unfold get; exact List.getElem?_append_left hk
  rcases ha with a | ⟨ty, sz, xs, f, f', h1, h2⟩
  · exact .inl (e.trans a)
  · exact .inr ⟨ty, sz, xs, f, f', h1, e.trans h2⟩
theorem agree_take {h : HF} {H : Heap} {b k : Nat} (ha : Agree h (get H) k) (hk : k < b) : Agree h (get (H.take b)) k := by
  have e : get (H.take b) k = get H k := by unfold get; exact take_get hk
  rcases ha with a | ⟨ty, sz, xs, f, f', h1, h2⟩
  · exact .inl (e.trans a)
  · exact .inr ⟨ty, sz, xs, f, f', h1, e.trans h2⟩
theorem doCall_agree (hr : Readers C callE) {H H' : Heap} {f : FuncId} {args : List AV} {v : AV} (h : doCall C callE f args H = some (v, H')) (ht : touch C H (.call f args) ≠ none) {k : Nat} (hk : k < H.length) : Agree (get H) (get H') k := by
  unfold doCall at h
  simp only [touch] at ht
  split at h
  · rename_i ds fr hds
    have hf := freezeAll_agree H fr k
    split at h
    · rename_i rc Hc hcall
      split at h
      · obtain ⟨p, _, heq⟩ := map_inv h
        simp only [Prod.mk.injEq] at heq
        obtain ⟨_, rfl⟩ := heq
        exact agree_append hf (by rw [freezeAll_length]; exact hk)
      · split at h
        · split at h
          · simp only [Option.some.injEq, Prod.mk.injEq] at h; obtain ⟨_, rfl⟩ := h; exact .inl rfl
          · simp only [Option.some.injEq, Prod.mk.injEq] at h; obtain ⟨_, rfl⟩ := h; exact hf
        · cases h
    · cases h
  · rename_i hds
    rw [hds] at ht
    simp only at ht
    have hrd : C.reader f = true := by
      cases hc : C.reader f with
      | true => rfl
      | false => rw [hc] at ht; simp at ht
    split at h
    · rename_i rc H1 hcall
      obtain rfl := hr f hrd args _ rc H1 hcall
      split at h
      · simp only [Option.some.injEq, Prod.mk.injEq] at h; obtain ⟨_, rfl⟩ := h; exact .inl rfl
      · split at h
        · rename_i rv fr hrv
          split at h
          · simp only [Option.some.injEq, Prod.mk.injEq] at h; obtain ⟨_, rfl⟩ := h; exact agree_take (freezeAll_agree H1 fr k) hk
          · simp only [Option.some.injEq, Prod.mk.injEq] at h; obtain ⟨_, rfl⟩ := h; exact freezeAll_agree H1 fr k
        · cases h
    · cases h
theorem apply_agree (hr : Readers C callE) {H H' : Heap} {e : Eff} {v : AV} (h : apply C callE H e = some (v, H')) {k : Nat} (hk : k < H.length) (ht : apart1 (some (some k)) (touch C (freezeAll H e.frz) e.act) = true) : Agree (get H) (get H') k := by
  have hf := freezeAll_agree H e.frz k
  have hlen : k < (freezeAll H e.frz).length := by rw [freezeAll_length]; exact hk
  obtain ⟨frz, act⟩ := e
  unfold apply at h
  cases act with
  | ret x => simp only [Option.some.injEq, Prod.mk.injEq] at h; obtain ⟨_, rfl⟩ := h; exact hf
  | lit x => simp only [Option.some.injEq, Prod.mk.injEq] at h; obtain ⟨_, rfl⟩ := h; exact hf
  | new x ln =>
    cases ln <;> (simp only [Option.some.injEq, Prod.mk.injEq] at h; obtain ⟨_, rfl⟩ := h; exact agree_append hf hlen)
  | wr j x y =>
    simp only [Option.some.injEq, Prod.mk.injEq] at h
    obtain ⟨_, rfl⟩ := h
    simp only [touch, apart1, bne_iff_ne, ne_eq] at ht
    have e : get ((freezeAll H frz).set j x) k = get (freezeAll H frz) k := by unfold get; exact List.getElem?_set_ne (Ne.symm ht)
    rcases hf with a | ⟨ty, sz, xs, f, f', h1, h2⟩
    · exact .inl (e.trans a)
    · exact .inr ⟨ty, sz, xs, f, f', h1, e.trans h2⟩
  | call f args =>
    refine hf.trans (doCall_agree hr h ?_ hlen)
    intro hn
    rw [hn] at ht
    cases ht

/-- A run of operations, with what each was. -/
def RunL (C : Cfg) (callE : CallE) (ops : List Oper) : List Item → Env → Heap → List (Nat × Rc) → Env → Heap → Prop
  | [], env, H, rs, env', H' => rs = [] ∧ (∀ t, lookup env t = lookup env' t) ∧ H' = H
  | (i, o) :: r, env, H, rs, env', H' => ∃ v H1 rc rs1, rs = (i, rc) :: rs1 ∧ itemEff C callE ops o env H = some (v, H1, rc) ∧ RunL C callE ops r (bindD env o.dst v) H1 rs1 env' H'
def Pairs (ms : List Nat) (rs : List (Nat × Rc)) : Prop := rs.Pairwise fun a b => pairOk a.1 a.2 ((ms[b.1]?).getD 0) b.2 = true
theorem RunL.congr : ∀ {l : List Item} {env env2 env' : Env} {H H' : Heap} {rs : List (Nat × Rc)}, RunL C callE ops l env H rs env' H' → (∀ t, lookup env t = lookup env2 t) → RunL C callE ops l env2 H rs env' H'
  | [], env, env2, env', H, H', rs, h, he => ⟨h.1, fun t => (he t).symm.trans (h.2.1 t), h.2.2⟩
  | (i, o) :: l, env, env2, env', H, H', rs, h, he => by
    obtain ⟨v, H1, rc, rs1, h1, h2, h3⟩ := h
    exact ⟨v, H1, rc, rs1, h1, (itemEff_congr fun t _ => (he t).symm).trans h2, h3.congr fun t => by rw [lookup_bind, lookup_bind, he t]⟩
theorem drawGo_run : ∀ {l : List Item} {rs0 : List (Nat × Rc)} {env env' : Env} {H H' : Heap}, drawGo C callE ops ms l rs0 env H = some (env', H') →
    ∃ rs, RunL C callE ops l env H rs env' H' ∧ Pairs ms rs ∧ ∀ a ∈ rs0, ∀ b ∈ rs, pairOk a.1 a.2 ((ms[b.1]?).getD 0) b.2 = true
  | [], rs0, env, env', H, H', h => by
    simp only [drawGo, Option.some.injEq, Prod.mk.injEq] at h
    obtain ⟨rfl, rfl⟩ := h
    exact ⟨[], ⟨rfl, fun _ => rfl, rfl⟩, .nil, fun _ _ b hb => by simp at hb⟩
  | (i, o) :: l, rs0, env, env', H, H', h => by
    simp only [drawGo] at h
    split at h
    · rename_i v H1 rc hi
      split at h
      · rename_i hall
        obtain ⟨rs, h1, h2, h3⟩ := drawGo_run h
        refine ⟨(i, rc) :: rs, ⟨v, H1, rc, rs, rfl, hi, h1⟩, List.pairwise_cons.2 ⟨fun b hb => h3 _ (List.mem_cons_self ..) b hb, h2⟩, fun a ha b hb => ?_⟩
        rcases List.mem_cons.1 hb with rfl | hb
        · exact List.all_eq_true.1 hall a ha
        · exact h3 a (List.mem_cons_of_mem _ ha) b hb
      · cases h
    · cases h

theorem itemEff_un {o : Oper} {env : Env} {H H1 : Heap} {v : AV} (h : itemEff C callE ops o env H = some (v, H1, .un)) : v = .un ∧ H1 = H ∧ guardOk ops env o = some false := by
  unfold itemEff at h
  split at h
  · rename_i hg
    simp only [Option.some.injEq, Prod.mk.injEq, and_true] at h
    exact ⟨h.1.symm, h.2.symm, hg⟩
  · split at h
    · split at h
      · simp only [Option.some.injEq, Prod.mk.injEq] at h; exact absurd h.2.2 (by simp)
      · split at h
        · simp only [Option.some.injEq, Prod.mk.injEq] at h; exact absurd h.2.2 (by simp)
        · cases h
    · cases h
  · cases h
theorem itemEff_q {o : Oper} {env : Env} {H H1 : Heap} {v : AV} {rd : Option (Option Nat)} (h : itemEff C callE ops o env H = some (v, H1, .q rd)) :
    H1 = H ∧ guardOk ops env o = some true ∧ ∃ e, opEffD C.P (get H) env o = some e ∧ quiet e = some v ∧ readId env o = rd := by
  unfold itemEff at h
  split at h
  · simp only [Option.some.injEq, Prod.mk.injEq] at h; exact absurd h.2.2 (by simp)
  · rename_i hg
    split at h
    · rename_i e he
      split at h
      · rename_i x hq
        simp only [Option.some.injEq, Prod.mk.injEq, Rc.q.injEq] at h
        obtain ⟨rfl, rfl, rfl⟩ := h
        exact ⟨rfl, hg, e, he, hq, rfl⟩
      · split at h
        · simp only [Option.some.injEq, Prod.mk.injEq] at h; exact absurd h.2.2 (by simp)
        · cases h
    · cases h
  · cases h
theorem itemEff_c {o : Oper} {env : Env} {H H1 : Heap} {v : AV} {t : Option (Option Nat)} {n : Nat} (h : itemEff C callE ops o env H = some (v, H1, .c t n)) :
    guardOk ops env o = some true ∧ ∃ e, opEffD C.P (get H) env o = some e ∧ apply C callE H e = some (v, H1) ∧ t = touch C (freezeAll H e.frz) e.act ∧ n = H.length := by
  unfold itemEff at h
  split at h
  · simp only [Option.some.injEq, Prod.mk.injEq] at h; exact absurd h.2.2 (by simp)
  · rename_i hg
    split at h
    · rename_i e he
      split at h
      · simp only [Option.some.injEq, Prod.mk.injEq] at h; exact absurd h.2.2 (by simp)
      · split at h
        · rename_i x H2 ha
          simp only [Option.some.injEq, Prod.mk.injEq, Rc.c.injEq] at h
          obtain ⟨rfl, rfl, rfl, rfl⟩ := h
          exact ⟨hg, e, he, ha, rfl, rfl⟩
        · cases h
    · cases h
  · cases h
theorem quiet_move {o : Oper} {env : Env} {H H' : Heap} {v : AV} {rd : Option (Option Nat)} (h : itemEff C callE ops o env H = some (v, H, .q rd)) (hrd : ∃ r, rd = some r ∧ ∀ k, r = some k → Agree (get H) (get H') k) :
    itemEff C callE ops o env H' = some (v, H', .q rd) := by
  obtain ⟨_, hg, e, he, hq, hr⟩ := itemEff_q h
  obtain ⟨r, rfl, ha⟩ := hrd
  have := quiet_local he hq hr ha
  unfold itemEff
  rw [hg]
  simp only [this, hq, hr]
theorem apart2_agree (hr : Readers C callE) {H H1 : Heap} {e : Eff} {v : AV} {h : Option (Option Nat)} (ha : apply C callE H e = some (v, H1)) (hp : apart2 h (touch C (freezeAll H e.frz) e.act) H.length = true) :
    ∃ r, h = some r ∧ ∀ k, r = some k → Agree (get H) (get H1) k := by
  unfold apart2 at hp
  rw [Bool.and_eq_true] at hp
  cases h with
  | none => exact absurd hp.1 (by simp [apart1])
  | some r =>
    refine ⟨r, rfl, fun k hk => ?_⟩
    subst hk
    exact apply_agree hr ha (by simpa using hp.2) hp.1
/-- Two operations, the other way round. -/
theorem swap2 (hr : Readers C callE) {x y : Item} {env : Env} {H Hx Hy : Heap} {vx vy : AV} {rx ry : Rc} {m : Nat} (hx : itemEff C callE ops x.2 env H = some (vx, Hx, rx)) (hy : itemEff C callE ops y.2 (bindD env x.2.dst vx) Hx = some (vy, Hy, ry))
    (h1 : ∀ d, x.2.dst = some d → d ∉ y.2.looksAt ops.toArray) (h2 : ∀ d, y.2.dst = some d → d ∉ x.2.looksAt ops.toArray) (hm : m.testBit x.1 = false) (hp : pairOk x.1 rx m ry = true) :
    ∃ Hz, itemEff C callE ops y.2 env H = some (vy, Hz, ry) ∧ itemEff C callE ops x.2 (bindD env y.2.dst vy) Hz = some (vx, Hy, rx) := by
  have cy : ∀ G, itemEff C callE ops y.2 (bindD env x.2.dst vx) G = itemEff C callE ops y.2 env G := fun G => itemEff_congr fun t ht => by
    rw [lookup_bind, if_neg]; intro e; exact h1 t e ht
  have cx : ∀ G, itemEff C callE ops x.2 (bindD env y.2.dst vy) G = itemEff C callE ops x.2 env G := fun G => itemEff_congr fun t ht => by
    rw [lookup_bind, if_neg]; intro e; exact h2 t e ht
  rw [cy] at hy
  simp only [cx]
  cases rx with
  | un =>
    obtain ⟨rfl, rfl, hg⟩ := itemEff_un hx
    exact ⟨Hy, hy, by unfold itemEff; rw [hg]⟩
  | q h =>
    obtain ⟨rfl, hg, e, he, hq, hrd⟩ := itemEff_q hx
    cases ry with
    | un =>
      obtain ⟨rfl, rfl, hg'⟩ := itemEff_un hy
      exact ⟨_, hy, hx⟩
    | q h' =>
      obtain ⟨rfl, _⟩ := itemEff_q hy
      exact ⟨_, hy, hx⟩
    | c t n =>
      obtain ⟨hg', e', he', ha', rfl, rfl⟩ := itemEff_c hy
      simp only [pairOk, hm, Bool.or_false] at hp
      exact ⟨Hy, hy, quiet_move hx (apart2_agree hr ha' hp)⟩
  | c t n =>
    obtain ⟨hg, e, he, ha, rfl, rfl⟩ := itemEff_c hx
    cases ry with
    | un =>
      obtain ⟨rfl, rfl, hg'⟩ := itemEff_un hy
      exact ⟨H, by unfold itemEff; rw [hg'], hx⟩
    | q h' =>
      obtain ⟨rfl, _⟩ := itemEff_q hy
      simp only [pairOk, hm, Bool.or_false] at hp
      obtain ⟨r, hr1, hr2⟩ := apart2_agree hr ha hp
      exact ⟨H, quiet_move hy ⟨r, hr1, fun k hk => (hr2 k hk).symm⟩, hx⟩
    | c t' n' => simp [pairOk, hm] at hp
/-- An operation that may come first, taken first. -/
theorem RunL.front (hr : Readers C callE) {i : Nat} {o : Oper} {s : List Item} {env' : Env} {H' : Heap} : ∀ {p : List Item} {env : Env} {H : Heap} {rs : List (Nat × Rc)}, RunL C callE ops (p ++ (i, o) :: s) env H rs env' H' → Pairs ms rs →
    (∀ x ∈ p, (∀ d, x.2.dst = some d → d ∉ o.looksAt ops.toArray) ∧ (∀ d, o.dst = some d → d ∉ x.2.looksAt ops.toArray) ∧ (∀ d, x.2.dst = some d → o.dst ≠ some d) ∧ ((ms[i]?).getD 0).testBit x.1 = false) →
    ∃ v H1 rc rp rt, itemEff C callE ops o env H = some (v, H1, rc) ∧ rs = rp ++ (i, rc) :: rt ∧ RunL C callE ops (p ++ s) (bindD env o.dst v) H1 (rp ++ rt) env' H'
  | [], env, H, rs, h, hp, hc => by
    obtain ⟨v, H1, rc, rs1, h1, h2, h3⟩ := h
    exact ⟨v, H1, rc, [], rs1, h2, h1, h3⟩
  | x :: p, env, H, rs, h, hp, hc => by
    obtain ⟨ix, ox⟩ := x
    obtain ⟨vx, Hx, rx, rs1, rfl, h2, h3⟩ := h
    obtain ⟨hp1, hp2⟩ := List.pairwise_cons.1 hp
    obtain ⟨v, H1, rc, rp, rt, q1, rfl, q3⟩ := RunL.front hr h3 hp2 fun y hy => hc y (List.mem_cons_of_mem _ hy)
    obtain ⟨c1, c2, c3, c4⟩ := hc (ix, ox) (List.mem_cons_self ..)
    obtain ⟨Hz, z1, z2⟩ := swap2 (x := (ix, ox)) (y := (i, o)) hr h2 q1 c1 c2 c4 (hp1 (i, rc) (by simp))
    refine ⟨v, Hz, rc, (ix, rx) :: rp, rt, z1, rfl, vx, H1, rx, rp ++ rt, rfl, z2, q3.congr fun t => ?_⟩
    simp only [lookup_bind]
    by_cases e1 : o.dst = some t
    · have : ox.dst ≠ some t := fun e2 => c3 t e2 e1
      rw [if_pos e1, if_neg this, if_pos e1]
    · rw [if_neg e1]
      by_cases e2 : ox.dst = some t
      · rw [if_pos e2, if_pos e2]
      · rw [if_neg e2, if_neg e2, if_neg e1]
end
end Go.AE
