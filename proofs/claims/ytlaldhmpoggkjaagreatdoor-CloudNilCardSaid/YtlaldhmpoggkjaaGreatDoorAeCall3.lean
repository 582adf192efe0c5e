/- The abstract evaluator: calls, told whole. -/
import Derived.Test.YtlaldhmpoggkjaaGreatDoorAeCall2
set_option autoImplicit false
set_option linter.unusedVariables false
set_option linter.unusedSimpArgs false
namespace Go.AE
section
variable {P : Program} {κ κ' : Kp} {H H' : Heap} {w w' : World} {U : Nat → Prop}

theorem VRel.mono_S {S S' : Nat → Prop} (hS : ∀ b, S b → S' b) {x : AV} {v : Value} (h : VRel κ H w S x v) : VRel κ H w S' x v := by
  induction h with
  | d x v h => exact .d x v (h.mono hS)
  | ptr k off g ty cs hk ho => exact .ptr k off g ty cs hk ho
  | ap k len i off g ty sz xs fz ho hl hv => exact .ap k len i off g ty sz xs fz ho hl hv
  | dp b o cs f hb hbl hcell hr => exact .dp b o cs f (hS b hb) hbl hcell (fun i d hi => (hr i d hi).mono hS)
  | osl k len a c ty sz xs fz ho hl hv => exact .osl k len a c ty sz xs fz ho hl hv
  | csl sz xs a n h => exact .csl sz xs a n (h.mono hS)
  | bsl k len g ty cs hk ho => exact .bsl k len g ty cs hk ho
  | mp k g es hk ho => exact .mp k g es hk ho
  | agg cs vs hl h ih => exact .agg cs vs hl ih
  | tup cs vs hl h ih => exact .tup cs vs hl ih
  | fn f cs vs hl h ih => exact .fn f cs vs hl ih
  | un => exact .un
def κb (κ : Kp) (b : Nat) : Kp := fun k => if k < b then κ k else none
theorem take_get {b k : Nat} (hk : k < b) : (H.take b)[k]? = H[k]? := by rw [List.getElem?_take, if_pos hk]
theorem inside1_ok {S S' : Nat → Prop} (hS : ∀ b, S b → S' b) {b : Nat} {x : AV} {v : Value} (h : x.inside1 b = true) (hv : VRel κ H w S x v) : VRel (κb κ b) (H.take b) w S' x v := by
  cases hv with
  | d x v h' => exact .d _ _ (h'.mono hS)
  | dp q o cs f hq hb hcell hr => exact .dp q o cs f (hS q hq) hb hcell (fun i d hi => (hr i d hi).mono hS)
  | csl sz xs a n h' => exact .csl _ _ _ _ (h'.mono hS)
  | ptr k off g ty cs hk ho =>
    simp only [AV.inside1, decide_eq_true_eq] at h
    exact .ptr k off g ty cs (by simp [κb, h, hk]) (by rw [take_get h]; exact ho)
  | ap k len i off g ty sz xs fz ho hl hk =>
    simp only [AV.inside1, decide_eq_true_eq] at h
    exact .ap k len i off g ty sz xs fz (by rw [take_get h]; exact ho) hl (fun hl => by simp [κb, h, hk hl])
  | osl k len a c ty sz xs fz ho hl hrow =>
    simp only [AV.inside1, decide_eq_true_eq] at h
    refine .osl k len a c ty sz xs fz (by rw [take_get h]; exact ho) hl (fun hl => ?_)
    rcases hrow hl with ⟨h1, h2, h3⟩ | ⟨g, cap, e, n, h1, h2⟩
    · exact .inl ⟨h1, h2, by simp [κb, h, h3]⟩
    · exact .inr ⟨g, cap, e, n, by simp [κb, h, h1], h2⟩
  | bsl k len g ty cs hk ho =>
    simp only [AV.inside1, decide_eq_true_eq] at h
    exact .bsl k len g ty cs (by simp [κb, h, hk]) (by rw [take_get h]; exact ho)
  | mp k g es hk ho =>
    simp only [AV.inside1, decide_eq_true_eq] at h
    exact .mp k g es (by simp [κb, h, hk]) (by rw [take_get h]; exact ho)
  | _ => cases h
theorem inside_ok {S S' : Nat → Prop} (hS : ∀ b, S b → S' b) {b : Nat} : ∀ {n : Nat} {x : AV} {v : Value}, x.inside b n = true → VRel κ H w S x v → VRel (κb κ b) (H.take b) w S' x v
  | 0, x, v, h, hv => inside1_ok hS h hv
  | n + 1, x, v, h, hv => by
    simp only [AV.inside] at h
    split at h
    · obtain ⟨vs, rfl, hrs⟩ := hv.agg_inv
      exact VRel.agg' ⟨hrs.1, fun i c u hc hu => inside_ok hS (List.all_eq_true.1 h c (List.mem_of_getElem? hc)) (hrs.2 i c u hc hu)⟩
    · obtain ⟨vs, rfl, hrs⟩ := hv.tup_inv
      exact .tup _ _ (by simpa using hrs.1) fun i c u hc hu => inside_ok hS (List.all_eq_true.1 h c (List.mem_of_getElem? hc)) (hrs.2 i c u hc (by simpa using hu))
    · obtain ⟨vs, rfl, hrs⟩ := hv.fn_inv
      exact .fn _ _ _ (by simpa using hrs.1) fun i c u hc hu => inside_ok hS (List.all_eq_true.1 h c (List.mem_of_getElem? hc)) (hrs.2 i c u hc (by simpa using hu))
    · exact inside1_ok hS h hv
theorem trimmed {w1 : World} {κ1 : Kp} {H1 : Heap} (he : Ext κ H w κ1 H1 w1) (hd : Dead κ H κ1 H1) (h1 : HRel κ1 H1 w1 U) (hdom : ∀ k g, κ k = some g → k < H.length) (hall : ∀ (k : Nat) (o : AO), k < H.length → H1[k]? = some o → o.inside H.length = true) :
    HRel (κb κ1 H.length) (H1.take H.length) w1 U ∧ Ext κ H w (κb κ1 H.length) (H1.take H.length) w1 ∧ Dead κ H (κb κ1 H.length) (H1.take H.length) ∧ ∀ b, Stab κ1 H1 U b → Stab (κb κ1 H.length) (H1.take H.length) U b := by
  have hκ : ∀ {k g}, κb κ1 H.length k = some g → k < H.length ∧ κ1 k = some g := by
    intro k g hk
    unfold κb at hk
    split at hk
    · rename_i hlt; exact ⟨hlt, hk⟩
    · cases hk
  have hlo : ∀ {k}, k < H.length → κb κ1 H.length k = κ1 k := fun hk => by simp [κb, hk]
  have hS : ∀ b, Stab κ1 H1 U b → Stab (κb κ1 H.length) (H1.take H.length) U b := by
    rintro b ⟨hU, hm⟩
    refine ⟨hU, ?_⟩
    rintro ⟨k, o, hk, ho, hmo⟩
    obtain ⟨hlt, hk⟩ := hκ hk
    rw [take_get hlt] at ho
    exact hm ⟨k, o, hk, ho, hmo⟩
  have hlen := he.len
  refine ⟨⟨fun k g hk => ?_, fun k g hk => h1.lt k g (hκ hk).2, fun k g hk => h1.inU k g (hκ hk).2, h1.newU, fun k k' g hk hk' => h1.inj k k' g (hκ hk).2 (hκ hk').2, fun k g o hk ho => ?_⟩, ⟨he.os, he.tape, he.output, he.size, he.keep, he.shape, by simp; omega, fun k o ho => ?_, fun k g o hk ho hn => ?_, fun k ty sz xs fz xs' fz' ho ho' hl => ?_, fun k g hk => he.new k g (hκ hk).2, he.frz⟩, fun k ty cs hk ho => ?_, hS⟩
  · have := (hκ hk).1
    simp
    omega
  · obtain ⟨hlt, hk⟩ := hκ hk
    rw [take_get hlt] at ho
    have hr := h1.obj k g o hk ho
    have hin := hall k o hlt ho
    cases o with
    | box ty cs =>
      obtain ⟨vs, q1, q2⟩ := hr
      exact ⟨vs, q1, q2.1, fun i c v hc hv => inside_ok hS (List.all_eq_true.1 hin c (List.mem_of_getElem? hc)) (q2.2 i c v hc hv)⟩
    | arr ty sz xs fz =>
      obtain ⟨vs, q1, q2, q3, q4, q5⟩ := hr
      exact ⟨vs, q1, q2, q3, q4, fun j cs i d v hj hi hv => (q5 j cs i d v hj hi hv).mono hS⟩
    | mp es =>
      obtain ⟨ents, clock, q1, qb, q2, q3⟩ := hr
      exact ⟨ents, clock, q1, qb, q2, fun i e m hi hm => ⟨(q3 i e m hi hm).1, inside_ok hS (List.all_eq_true.1 hin e (List.mem_of_getElem? hi)) (q3 i e m hi hm).2⟩⟩
    | gone => trivial
  · obtain ⟨o', ho', hl⟩ := he.objs k o ho
    exact ⟨o', by rw [take_get (List.getElem?_eq_some_iff.1 ho).1]; exact ho', hl⟩
  · rw [hlo (List.getElem?_eq_some_iff.1 ho).1]
    exact he.old k g o hk ho hn
  · have hlt := (List.getElem?_eq_some_iff.1 ho).1
    rw [hlo hlt]
    rw [take_get hlt] at ho'
    exact he.oldA k ty sz xs fz xs' fz' ho ho' hl
  · have hlt := (List.getElem?_eq_some_iff.1 ho).1
    obtain ⟨q1, q2⟩ := hd k ty cs hk ho
    exact ⟨by rw [hlo hlt]; exact q1, by rw [take_get hlt]; exact q2⟩

/-- What a call comes to. -/
def Post (κ : Kp) (H : Heap) (w : World) (U : Nat → Prop) (r : AV) (H' : Heap) (v : Value) (w' : World) : Prop :=
  ∃ κ', HRel κ' H' w' U ∧ Ext κ H w κ' H' w' ∧ Dead κ H κ' H' ∧ VRel κ' H' w' (Stab κ' H' U) r v
/-- The function is entered (or, if it is an outer one, done), and comes back as said. -/
def Enters (P : Program) (f : FuncId) (vals : Array Value) (w : World) (R : Value → World → Prop) : Prop :=
  ∀ (o : Oper) (a : Act) (next : Act → World → Prop) (Q : Exit → Act → World → Prop), (∀ v w', R v w' → next (a.put o.dst v) w') → o.upon P a next Q ((callFunc f vals).run P w)
theorem Enters.mono {f : FuncId} {vals : Array Value} {R R' : Value → World → Prop} (h : Enters P f vals w R) (hr : ∀ v w', R v w' → R' v w') : Enters P f vals w R' :=
  fun o a next Q hn => h o a next Q fun v w' hR => hn v w' (hr v w' hR)
/-- Everything that a table of calls says is so. -/
def Sound (P : Program) (callE : CallE) : Prop :=
  ∀ (f : FuncId) (args : List AV) (H : Heap) (r : AV) (H' : Heap), callE f args H = some (r, H') → ∀ (κ : Kp) (w : World) (U : Nat → Prop) (vals : List Value),
    HRel κ H w U → VRels κ H w (Stab κ H U) args vals → Enters P f vals.toArray w (Post κ H w U r H')

theorem inside_frz {b : Nat} {o : AO} : (AO.frz o).inside b = o.inside b := by cases o <;> rfl
theorem frz_inside {b : Nat} {fr : List Nat} {H : Heap} (h : (H.take b).all (AO.inside b) = true) : ∀ (k : Nat) (o : AO), k < b → (freezeAll H fr)[k]? = some o → o.inside b = true := by
  intro k o hk ho
  have hin : ∀ o, H[k]? = some o → o.inside b = true := fun o ho => List.all_eq_true.1 h o (List.mem_of_getElem? (by rw [take_get hk]; exact ho))
  rw [freezeAll_get] at ho
  split at ho
  · obtain ⟨o', ho', rfl⟩ := map_inv ho
    rw [inside_frz]
    exact hin o' ho'
  · exact hin o ho
theorem doCall_sound {C : Cfg} {callE : CallE} (hs : Sound C.P callE) : Sound C.P (doCall C callE) := by
  intro f args H r H' h κ w U vals hh hv
  unfold doCall at h
  split at h
  · rename_i ds fr hds
    have hds' : listM (toV (get H) 3) args = some (ds, fr) := by
      split at hds
      · cases hds
      · exact hds
    have hF := freezeAll_rel fr H hh
    have hpure : PureRels w (Stab κ (freezeAll H fr) U) ds vals := listM_ok (ALL := fr) (fun c x f v h1 hA hv => toV_ok hh hF.1 hF.2 h1 ((freezeAll_at H fr).mono hA) hv) hds' (fun k hk => hk) hv
    split at h
    · rename_i rc Hc hcall
      have hUn : ∀ b, w.heap.size ≤ b → Stab κ (freezeAll H fr) U b := fun b hb => stab_new hF.1 hb
      have hrels : VRels κ0 [] w (Stab κ0 [] (Stab κ (freezeAll H fr) U)) ds vals := by
        have := hpure.rels κ0 []
        exact ⟨this.1, fun i x v hx hv => by
          have hp := hpure.2 i x v hx hv
          have e : Stab κ0 [] (Stab κ (freezeAll H fr) U) = Stab κ (freezeAll H fr) U := by
            funext b
            exact propext ⟨fun h => h.1, fun h => ⟨h, mut_none⟩⟩
          rw [e]
          exact hp κ0 []⟩
      refine (hs f ds [] rc Hc hcall κ0 w (Stab κ (freezeAll H fr) U) vals (.empty w hUn) hrels).mono fun v w' hpost => ?_
      obtain ⟨κc, hc, he, _, hr⟩ := hpost
      split at h
      · obtain ⟨⟨x, acc⟩, ht, heq⟩ := map_inv h
        simp only [Prod.mk.injEq] at heq
        obtain ⟨rfl, rfl⟩ := heq
        have hlen : H.length = (freezeAll H fr).length := (freezeAll_length H fr).symm
        rw [hlen] at ht
        obtain ⟨_, _, hD1, hS⟩ := taken hF.1 hc he (take_ok (κ := κ) (base := (freezeAll H fr).length) (S' := Stab κc Hc (Stab κ (freezeAll H fr) U)) (fun _ h => h) ht hr).1
        obtain ⟨q1, q2, q3, q4⟩ := taken hF.1 hc he (take_ok (κ := κ) (base := (freezeAll H fr).length) (S' := Stab κc Hc (Stab κ (freezeAll H fr) U)) (fun _ h => h) ht hr).1
        have hT := (take_ok (κ := κ) (base := (freezeAll H fr).length) q4 ht hr).2
        exact ⟨_, q1, hF.2.trans q2 hh.dom, (Dead.freezeAll κ fr H).trans q3, hT acc _ (.refl _) rfl⟩
      · split at h
        · rename_i rv fr2 hrv
          have hFc := freezeAll_rel fr2 Hc hc
          have hp := toV_ok hc hFc.1 hFc.2 hrv (freezeAll_at Hc fr2) hr
          split at h
          · rename_i hsc
            simp only [Option.some.injEq, Prod.mk.injEq] at h
            obtain ⟨rfl, rfl⟩ := h
            exact ⟨κ, hh.forget he, .forget he, .refl κ H, scalar_ok hsc hp κ H⟩
          · simp only [Option.some.injEq, Prod.mk.injEq] at h
            obtain ⟨rfl, rfl⟩ := h
            refine ⟨κ, hF.1.forget he, hF.2.trans (.forget he) hh.dom, Dead.freezeAll κ fr H, ?_⟩
            have := hp κ (freezeAll H fr)
            revert this
            have hmono : ∀ b, Stab κc (freezeAll Hc fr2) (Stab κ (freezeAll H fr) U) b → Stab κ (freezeAll H fr) U b := fun b hb => hb.1
            exact fun h => VRel.mono_S hmono h
        · cases h
    · cases h
  · split at h
    · rename_i rc H1 hcall
      refine (hs f args H rc H1 hcall κ w U vals hh hv).mono fun v w' hpost => ?_
      obtain ⟨κ1, h1, he, hd, hr⟩ := hpost
      split at h
      · simp only [Option.some.injEq, Prod.mk.injEq] at h
        obtain ⟨rfl, rfl⟩ := h
        exact ⟨κ1, h1, he, hd, hr⟩
      · split at h
        · rename_i rv fr hrv
          have hF := freezeAll_rel fr H1 h1
          have hrv' := toRs_ok h1 hF.1 hF.2 hrv (freezeAll_at H1 fr) hr
          have he2 := he.trans hF.2 hh.dom
          have hd2 := hd.trans (Dead.freezeAll κ1 fr H1)
          split at h
          · rename_i htr
            simp only [Option.some.injEq, Prod.mk.injEq] at h
            obtain ⟨rfl, rfl⟩ := h
            simp only [Bool.and_eq_true] at htr
            obtain ⟨q1, q2, q3, q4⟩ := trimmed he2 hd2 hF.1 hh.dom (frz_inside htr.2)
            exact ⟨_, q1, q2, q3, inside_ok q4 htr.1.2 hrv'⟩
          · simp only [Option.some.injEq, Prod.mk.injEq] at h
            obtain ⟨rfl, rfl⟩ := h
            exact ⟨κ1, hF.1, he2, hd2, hrv'⟩
        · cases h
    · cases h
end
end Go.AE
