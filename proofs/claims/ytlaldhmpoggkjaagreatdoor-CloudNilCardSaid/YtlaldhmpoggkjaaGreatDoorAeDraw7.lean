/- The abstract evaluator: regions, whole. -/
import Derived.Test.YtlaldhmpoggkjaaGreatDoorAeDraw6
set_option autoImplicit false
set_option linter.unusedVariables false
set_option linter.unusedSimpArgs false
namespace Go.AE
section
variable {C : Cfg} {callE : CallE} {ops : List Oper} {ms : List Nat} {κ : Kp} {H : Heap} {w : World} {U : Nat → Prop} {nt : Nat}

def earlyList (ms : List Nat) : Nat → List Oper → Nat → List Early
  | _, [], _ => []
  | i, o :: r, b => if isEarly ms i o then match o.dst with
      | some d => ⟨i, d, b⟩ :: earlyList ms (i + 1) r (b + 1)
      | none => earlyList ms (i + 1) r b
    else earlyList ms (i + 1) r b
theorem isEarly_inv {i : Nat} {o : Oper} (h : isEarly ms i o = true) : (∃ t, o.op = .alloc t) ∧ o.guard = none ∧ (ms[i]?).getD 0 = 0 ∧ ∃ d, o.dst = some d := by
  unfold isEarly at h
  split at h
  · rename_i t h1 h2
    simp only [Bool.and_eq_true, beq_iff_eq, Option.isSome_iff_exists] at h
    exact ⟨⟨t, h1⟩, h2, h.1, h.2⟩
  · cases h
theorem early_mem : ∀ {l : List Oper} {i b : Nat} {e : Early}, e ∈ earlyList ms i l b → ∃ j o, e.i = i + j ∧ l[j]? = some o ∧ isEarly ms e.i o = true ∧ o.dst = some e.d ∧ b ≤ e.slot
  | [], i, b, e, h => by simp [earlyList] at h
  | q :: l, i, b, e, h => by
    simp only [earlyList] at h
    have next : ∀ {b'}, b ≤ b' → e ∈ earlyList ms (i + 1) l b' → ∃ j o, e.i = i + j ∧ (q :: l)[j]? = some o ∧ isEarly ms e.i o = true ∧ o.dst = some e.d ∧ b ≤ e.slot := by
      intro b' hb h
      obtain ⟨j, o, h1, h2, h3, h4, h5⟩ := early_mem h
      exact ⟨j + 1, o, by omega, by simpa using h2, h3, h4, by omega⟩
    split at h
    · rename_i hq
      split at h
      · rename_i d hd
        rcases List.mem_cons.1 h with rfl | h
        · exact ⟨0, q, rfl, rfl, hq, hd, Nat.le_refl _⟩
        · exact next (by omega) h
      · exact next (Nat.le_refl _) h
    · exact next (Nat.le_refl _) h
theorem early_slots : ∀ {l : List Oper} {i b : Nat}, ((earlyList ms i l b).map (·.slot)).Pairwise (· < ·) ∧ ((earlyList ms i l b).map (·.i)).Pairwise (· < ·)
  | [], i, b => by simp [earlyList]
  | q :: l, i, b => by
    simp only [earlyList]
    split
    · split
      · rename_i d hd
        obtain ⟨h1, h2⟩ := early_slots (l := l) (i := i + 1) (b := b + 1)
        refine ⟨List.pairwise_cons.2 ⟨fun s hs => ?_, h1⟩, List.pairwise_cons.2 ⟨fun s hs => ?_, h2⟩⟩
        · obtain ⟨e, he, rfl⟩ := List.mem_map.1 hs
          obtain ⟨_, _, _, _, _, _, h5⟩ := early_mem he
          show b < e.slot
          omega
        · obtain ⟨e, he, rfl⟩ := List.mem_map.1 hs
          obtain ⟨j, _, h5, _⟩ := early_mem he
          show i < e.i
          omega
      · exact early_slots
    · exact early_slots
theorem early_has : ∀ {l : List Oper} {i b j : Nat} {o : Oper}, l[j]? = some o → isEarly ms (i + j) o = true → i + j ∈ (earlyList ms i l b).map (·.i)
  | [], i, b, j, o, h, _ => by simp at h
  | q :: l, i, b, 0, o, h, he => by
    simp at h
    subst h
    simp only [Nat.add_zero] at he ⊢
    obtain ⟨_, _, _, d, hd⟩ := isEarly_inv he
    simp only [earlyList, he, if_true, hd]
    exact List.mem_cons_self ..
  | q :: l, i, b, j + 1, o, h, he => by
    have := @early_has l (i + 1)
    have e1 : i + 1 + j = i + (j + 1) := by omega
    simp only [earlyList]
    split
    · split
      · rename_i d hd
        refine List.mem_cons_of_mem _ ?_
        rw [← e1]
        exact this (by simpa using h) (by rw [e1]; exact he)
      · rw [← e1]; exact this (by simpa using h) (by rw [e1]; exact he)
    · rw [← e1]; exact this (by simpa using h) (by rw [e1]; exact he)
theorem rest_mem : ∀ {l : List Oper} {i : Nat} {x : Item}, x ∈ restItems ms i l ↔ ∃ j, x.1 = i + j ∧ l[j]? = some x.2 ∧ isEarly ms x.1 x.2 = false
  | [], i, x => by simp [restItems]
  | q :: l, i, x => by
    have ih := @rest_mem l (i + 1) x
    constructor
    · intro h
      simp only [restItems] at h
      have next : x ∈ restItems ms (i + 1) l → ∃ j, x.1 = i + j ∧ (q :: l)[j]? = some x.2 ∧ isEarly ms x.1 x.2 = false := fun h => by
        obtain ⟨j, h1, h2, h3⟩ := ih.1 h
        exact ⟨j + 1, by omega, by simpa using h2, h3⟩
      split at h
      · exact next h
      · rename_i hq
        rcases List.mem_cons.1 h with rfl | h
        · exact ⟨0, rfl, rfl, by simpa using hq⟩
        · exact next h
    · rintro ⟨j, h1, h2, h3⟩
      obtain ⟨xi, xo⟩ := x
      simp only at h1 h2 h3
      simp only [restItems]
      cases j with
      | zero =>
        simp at h2
        subst h2
        simp only [Nat.add_zero] at h1
        subst h1
        rw [if_neg (by rw [h3]; simp)]
        exact List.mem_cons_self ..
      | succ j =>
        have := ih.2 ⟨j, by simp only; omega, by simpa using h2, h3⟩
        split
        · exact this
        · exact List.mem_cons_of_mem _ this
theorem rest_sorted : ∀ {l : List Oper} {i : Nat}, ((restItems ms i l).map (·.1)).Pairwise (· < ·)
  | [], i => by simp [restItems]
  | q :: l, i => by
    simp only [restItems]
    split
    · exact rest_sorted
    · refine List.pairwise_cons.2 ⟨fun s hs => ?_, rest_sorted⟩
      obtain ⟨x, hx, rfl⟩ := List.mem_map.1 hs
      obtain ⟨j, h1, _⟩ := rest_mem.1 hx
      show i < x.1
      omega
theorem rest_count : ∀ {l : List Oper} {i b : Nat}, (restItems ms i l).length + (earlyList ms i l b).length = l.length
  | [], i, b => by simp [restItems, earlyList]
  | q :: l, i, b => by
    simp only [restItems, earlyList]
    split
    · rename_i hq
      obtain ⟨_, _, _, d, hd⟩ := isEarly_inv hq
      have := rest_count (l := l) (i := i + 1) (b := b + 1)
      simp only [hd, List.length_cons]
      omega
    · have := rest_count (l := l) (i := i + 1) (b := b)
      simp only [List.length_cons]
      omega
theorem earlyGo_ok : ∀ {l : List Oper} {i : Nat} {env env1 : Env} {H H1 : Heap}, earlyGo C ms i l env H = some (env1, H1) → ((earlyList ms i l H.length).map (·.d)).Nodup →
    ∃ bs, H1 = H ++ bs ∧ (∀ t, t ∉ (earlyList ms i l H.length).map (·.d) → lookup env1 t = lookup env t) ∧
      ∀ e ∈ earlyList ms i l H.length, lookup env1 e.d = some (.ptr e.slot 0) ∧ ∃ j o t z, e.i = i + j ∧ l[j]? = some o ∧ o.op = .alloc t ∧ zeroCells C.P t = some z ∧ H1[e.slot]? = some (.box t z)
  | [], i, env, env1, H, H1, h, _ => by
    simp only [earlyGo, Option.some.injEq, Prod.mk.injEq] at h
    obtain ⟨rfl, rfl⟩ := h
    exact ⟨[], by simp, fun _ _ => rfl, fun e he => by simp [earlyList] at he⟩
  | q :: l, i, env, env1, H, H1, h, hnd => by
    simp only [earlyGo] at h
    simp only [earlyList] at hnd ⊢
    split at h
    · rename_i hq
      obtain ⟨⟨t, ht⟩, _, _, d, hd⟩ := isEarly_inv hq
      simp only [hq, if_true, hd] at hnd ⊢
      simp only [opEff, ht] at h
      split at h
      · rename_i fr b hb
        obtain ⟨z, hz, hb⟩ := bind_inv hb
        injection hb with hb
        injection hb with hb1 hb2
        injection hb2 with hb2 _
        subst hb2
        rw [hd] at h
        simp only [List.map_cons, List.nodup_cons] at hnd
        have hl : (H ++ [AO.box t z]).length = H.length + 1 := by simp
        obtain ⟨bs, rfl, h2, h3⟩ := earlyGo_ok h (by rw [hl]; exact hnd.2)
        rw [hl] at h2 h3
        refine ⟨.box t z :: bs, by simp, fun s hs => ?_, fun e he => ?_⟩
        · simp only [List.map_cons, List.mem_cons, not_or] at hs
          rw [h2 s hs.2, lookup_bind, if_neg (by simpa using fun hc => hs.1 hc.symm)]
        · rcases List.mem_cons.1 he with rfl | he
          · refine ⟨?_, 0, q, t, z, rfl, rfl, ht, hz, by simp⟩
            rw [h2 d hnd.1, lookup_bind, if_pos rfl]
          · obtain ⟨h4, j, o, t', z', h5, h6, h7⟩ := h3 e he
            exact ⟨h4, j + 1, o, t', z', by omega, by simpa using h6, h7⟩
      · cases h
    · rename_i hq
      simp only [hq] at hnd ⊢
      obtain ⟨bs, h1, h2, h3⟩ := earlyGo_ok h hnd
      refine ⟨bs, h1, h2, fun e he => ?_⟩
      obtain ⟨h4, j, o, t', z', h5, h6, h7⟩ := h3 e he
      exact ⟨h4, j + 1, o, t', z', by omega, by simpa using h6, h7⟩
theorem Ext.grow (κ : Kp) (H : Heap) (w : World) (bs : List AO) : Ext κ H w κ (H ++ bs) w where
  os := rfl
  tape := rfl
  output := rfl
  size := Nat.le_refl _
  keep := fun _ _ _ => rfl
  shape := fun _ _ => rfl
  len := by simp
  objs := fun k o h => ⟨o, by rw [List.getElem?_append_left (List.getElem?_eq_some_iff.1 h).1]; exact h, .refl o⟩
  old := fun _ _ _ h _ _ => h
  oldA := fun _ _ _ _ _ _ _ _ _ _ => rfl
  new := fun _ _ h => .inl h
  frz := fun _ => rfl
theorem HRel.grow (h : HRel κ H w U) (bs : List AO) : HRel κ (H ++ bs) w U :=
  h.mk' (.grow κ H w bs) (fun k g hk => by have := h.dom k g hk; simp; omega) h.lt h.inj (fun k g o hk ho => .inl ⟨hk, by rw [List.getElem?_append_left (h.dom k g hk)] at ho; exact ho, rfl⟩)

theorem runDraw_ok (hs : Sound C.P callE) (hr : Readers C callE) {id : Nat} {arr : Array Oper} {env env' : Env} {H' : Heap} {a : Act} {Q : Exit → Act → World → Prop} (h : runDraw C callE arr.toList env H = some (env', H')) (hd : dstsOk nt arr.toList = true) (hat : At κ H w U nt env a)
    (hq : ∀ κ' w' a', At κ' H' w' U nt env' a' → Since κ H w κ' H' w' → Q .normal a' w') : (Code.region id arr true).wp C.P Q a w := by
  unfold runDraw at h
  split at h
  · rename_i hc
    rw [Bool.and_eq_true] at hc
    obtain ⟨hmix, hok⟩ := hc
    split at h
    · rename_i env1 H1 he
      have hn : ∀ e e' : Early, e ∈ earlyList (masks arr.toList) 0 arr.toList H.length → e' ∈ earlyList (masks arr.toList) 0 arr.toList H.length → e.d = e'.d → e.i = e'.i := by
        intro e e' h1 h2 h3
        obtain ⟨j, o, q1, q2, _, q4, _⟩ := early_mem h1
        obtain ⟨j', o', r1, r2, _, r4, _⟩ := early_mem h2
        simp only [Nat.zero_add] at q1 r1
        subst q1 r1
        exact dst_one hok q2 r2 q4 (by rw [r4, h3])
      have hnd : ((earlyList (masks arr.toList) 0 arr.toList H.length).map (·.d)).Nodup := by
        have hp := (early_slots (ms := masks arr.toList) (l := arr.toList) (i := 0) (b := H.length)).2
        rw [List.pairwise_map] at hp
        unfold List.Nodup
        rw [List.pairwise_map]
        exact hp.imp_of_mem fun {e e'} h1 h2 hlt hc => by
          have := hn e e' h1 h2 hc
          omega
      obtain ⟨bs, rfl, hlk, hE⟩ := earlyGo_ok he hnd
      obtain ⟨rs, hrun, hpairs, _⟩ := drawGo_run h
      have hrel1 := hat.rel.grow bs
      have w1rel : HRel κ (H ++ bs) { w with drawn := w.drawn + 1 } U := hrel1.same_heap rfl rfl rfl rfl
      have hext : Ext κ H w κ (H ++ bs) { w with drawn := w.drawn + 1 } := (Ext.grow κ H w bs).trans (.same_heap _ _ rfl rfl rfl rfl) hat.rel.dom
      have hidx : ∀ j o, arr.toList[j]? = some o → (isEarly (masks arr.toList) j o = true ↔ j ∈ (earlyList (masks arr.toList) 0 arr.toList H.length).map (·.i)) := by
        intro j o ho
        constructor
        · intro h1
          have := early_has (b := H.length) (i := 0) ho (by simpa using h1)
          simpa using this
        · intro h1
          obtain ⟨e, he, rfl⟩ := List.mem_map.1 h1
          obtain ⟨j, q, q1, q2, q3, _⟩ := early_mem he
          simp only [Nat.zero_add] at q1
          rw [q1] at ho q3 ⊢
          rw [ho] at q2
          injection q2 with q2
          subst q2
          exact q3
      have hinit : DInv C callE arr.toList κ H w U nt env' H' (Array.replicate arr.size false) (restItems (masks arr.toList) 0 arr.toList) (earlyList (masks arr.toList) 0 arr.toList H.length) κ env1 (H ++ bs) rs a { w with drawn := w.drawn + 1 } := {
        items := fun x hx => by
          obtain ⟨j, h1, h2, _⟩ := rest_mem.1 hx
          rw [h1]
          simpa using h2
        early := fun e he => by
          obtain ⟨h1, j, o, t, z, h2, h3, h4, h5, h6⟩ := hE e he
          obtain ⟨j', o', q1, q2, q3, q4, q5⟩ := early_mem he
          have : j = j' := by omega
          subst this
          rw [h3] at q2
          injection q2 with q2
          subst q2
          obtain ⟨_, g1, g2, _⟩ := isEarly_inv q3
          simp only [Nat.zero_add] at h2
          exact ⟨o, t, z, by rw [h2]; exact h3, h4, g1, by unfold Ms; exact g2, q4, h1, hat.rel.none_at q5, h6, h5, q5⟩
        slots := (early_slots.1).imp (fun h => Nat.ne_of_lt h)
        inds := (early_slots.2).imp (fun h => Nat.ne_of_lt h)
        idx := fun j o ho => by
          have hlt : j < arr.size := by simpa using (List.getElem?_eq_some_iff.1 ho).1
          simp only [Array.getD_eq_getD_getElem?, Array.getElem?_replicate, hlt, if_true, Option.getD_some, true_iff]
          cases hb : isEarly (masks arr.toList) j o with
          | true => exact .inr ((hidx j o ho).1 hb)
          | false => exact .inl (List.mem_map.2 ⟨(j, o), rest_mem.2 ⟨j, by simp, ho, hb⟩, rfl⟩)
        lsize := by simp
        sorted := rest_sorted
        disj := fun j hj hc => by
          obtain ⟨x, hx, rfl⟩ := List.mem_map.1 hj
          obtain ⟨k, h1, h2, h3⟩ := rest_mem.1 hx
          simp only [Nat.zero_add] at h1
          rw [← h1] at h2
          have := (hidx _ _ h2).2 hc
          rw [h3] at this
          cases this
        closed := fun i o ho hl => by
          have hlt : i < arr.size := by simpa using (List.getElem?_eq_some_iff.1 ho).1
          simp [hlt] at hl
        run := hrun
        pairs := hpairs
        rel := w1rel
        env := by
          refine (hat.env.on hext hat.rel).same fun t v hv => ?_
          rw [lookup_hide] at hv
          by_cases e : t ∈ (earlyList (masks arr.toList) 0 arr.toList H.length).map (·.d)
          · rw [if_pos e] at hv; cases hv
          · rw [if_neg e, hlk t e] at hv; exact hv
        size := hat.size
        defers := hat.defers
        since := ⟨hext, fun k ty cs h1 h2 => ⟨h1, by rw [List.getElem?_append_left (List.getElem?_eq_some_iff.1 h2).1]; exact h2⟩⟩
        dom := hat.rel.dom }
      have := draw_any hs hr hok hd hq _ _ _ _ _ _ _ _ _ _ hinit rfl
      have hcount : (restItems (masks arr.toList) 0 arr.toList).length + (earlyList (masks arr.toList) 0 arr.toList H.length).length = arr.size := by
        rw [rest_count]; simp
      rw [hcount] at this
      exact wp_region_any hmix (by simpa using this)
    · cases h
  · cases h
end
end Go.AE
