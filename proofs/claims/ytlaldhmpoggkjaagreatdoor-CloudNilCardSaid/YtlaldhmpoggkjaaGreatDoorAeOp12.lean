/- The abstract evaluator: append. -/
import Derived.Test.YtlaldhmpoggkjaaGreatDoorAeOp11
set_option autoImplicit false
set_option linter.unusedVariables false
set_option linter.unusedSimpArgs false
namespace Go.AE
section
variable {P : Program} {κ : Kp} {H H' : Heap} {w : World} {U : Nat → Prop}

theorem sliceLike_inv {S : Nat → Prop} {s : AV} {us : Value} (h : sliceLike (get H) s = true) (hs : VRel κ H w S s us) : ∃ b len cap, us = .slice b len cap ∧ len ≤ cap := by
  unfold sliceLike at h
  split at h
  · obtain rfl := hs.sc_inv; exact ⟨none, 0, 0, rfl, Nat.le_refl _⟩
  · cases hs with
    | d _ _ h => obtain ⟨a, c, rfl, hc⟩ := h.form; exact ⟨a, _, c, rfl, hc⟩
  · cases hs with
    | csl _ _ a n h => exact ⟨a, n, n, rfl, Nat.le_refl _⟩
  · cases hs with
    | osl k len a c ty sz xs fz ho hl hv =>
      simp only [get, ho] at h
      have := hv (by simpa using h)
      rcases this with ⟨h1, h2, _⟩ | ⟨g, cap, e, n, h1, h2, h3, _⟩
      · injection h2 with h2 h3 h4; subst h2 h3 h4; exact ⟨_, _, _, rfl, Nat.le_refl _⟩
      · injection h2 with h2 h4 h5; subst h2 h5; exact ⟨_, _, _, rfl, h3⟩
  · cases h

/-- What the second part of an append is, when its rows are frozen. -/
theorem appended_ok (hh : HRel κ H w U) {n : Nat} {x : AV} {ux : Value} {d : D} {fr : List Nat} (h : (match x with | .d (.sc (.slice none 0 0)) => some (D.sl n [], []) | x => cellD (get H) x) = some (d, fr)) (hx : VRel κ H w (Stab κ H U) x ux) :
    Rd w (Stab κ (freezeAll H fr) U) d ux := by
  have hF := freezeAll_rel fr H hh
  split at h
  · obtain rfl := hx.sc_inv
    injection h with h
    injection h with h1 h2
    subst h1 h2
    exact .nil _ _ _
  · exact cellD_ok hh hF.1 hF.2 h (freeze_same H fr) hx

theorem append_new (hh : HRel κ H w U) {t ty el : TypeId} {n : Nat} {z : Value} {i : TypeInfo} (ht : P.underlying t = some (.slice el)) (hi : P.info? el = some i) (hsz : i.size = n) (hn : 0 < n) (hz : i.zero = some z) (hzn : z.cells.size = n)
    {xs ys : List (List D)} {us ux : Value} (hu : Rd w (Stab κ H U) (.sl n xs) us) (huc : ∃ a m, us = .slice a m m ∧ xs.length = m) (hys : ys ≠ []) (hux : Rd w (Stab κ H U) (.sl n ys) ux)
    (hroom : (xs.length + ys.length) * i.bytes ≤ 140737488355328) (hb0 : 0 < i.bytes) :
    PrimOk P κ H w U (.new (.arr el n (xs ++ ys) false) (some (xs.length + ys.length))) ((do pure (.value (← Builtin.append_ #[t, t] ty #[us, ux])) : Sem Next).run P w) := by
  obtain ⟨a, m, rfl, rfl⟩ := huc
  obtain ⟨a2, c2, rfl, hc2⟩ := hux.form
  obtain ⟨b, o, news, rfl, _, _, hnl, hnews, hflat, hall, hone⟩ := hux.flat hys hn
  have hbig : xs.length + ys.length ≤ 140737488355328 := Nat.le_trans (Nat.le_mul_of_pos_right _ hb0) hroom
  have hy0 : 0 < ys.length := by cases ys with | nil => exact absurd rfl hys | cons _ _ => simp
  have hsub : ∀ {cap}, grownCap w (xs.length + ys.length) cap el ≤ 9223372036854775807 := by
    intro cap
    have := grownCap_le_maxLen w (xs.length + ys.length) cap el (by simp only [maxLen]; omega)
    simpa [maxLen] using this
  by_cases hx0 : xs = []
  · subst hx0
    have hgo : ∃ cap, (Builtin.append_ #[t, t] ty #[.slice a 0 0, .slice (some ⟨b, o, none⟩) ys.length c2]).run P w = .ok (.slice (some ⟨w.heap.size, 0, none⟩) ys.length (grownCap w ys.length cap el)) (w.drew.alloc (.cells (news.toArray ++ Builtin.zeroCells z.cells (grownCap w ys.length cap el - ys.length)) el)) := by
      cases a with
      | none => exact ⟨0, run_append_nil (P := P) w t ty el i z ht hi hz ⟨b, o, none⟩ ys.length c2 news (by rw [hnl, hsz]) hnews hy0 (by simp at hbig; omega) (by simp at hroom; omega)⟩
      | some a =>
        have := run_append_grow (P := P) w t ty el i z ht hi hz a 0 0 [] (by simp) (by simp) ⟨b, o, none⟩ ys.length c2 news (by rw [hnl, hsz]) hnews (by omega) (by simp at hbig ⊢; omega) (by
          rw [Nat.zero_add, nextslicecap_zero hy0]; simp at hroom; omega)
        exact ⟨0, by simpa using this⟩
    obtain ⟨cap, hgo⟩ := hgo
    have hge := grownCap_ge w ys.length cap el
    obtain ⟨h1, h2, h3⟩ := grown_flat (z := z.cells) hflat hall hnl rfl hge hzn (news.toArray ++ Builtin.zeroCells z.cells (grownCap w ys.length cap el - ys.length)) (by simp)
    refine ⟨_, _, 1, by simp only [List.length_nil, Sem.run_bind, hgo, Result.andThen_ok, Sem.run_pure]; rfl, ⟨rfl, _, rfl, hn, by rw [List.nil_append]; exact hall, by simpa using h2, by simpa using h3⟩, by simp, grownCap w ys.length cap el, ?_⟩
    simp only [List.length_nil, Nat.zero_add, true_and]
    have := hsub (cap := cap)
    simp only [List.length_nil, Nat.zero_add] at this
    exact ⟨hge, this, _, _, rfl, h1.symm⟩
  · obtain ⟨b2, o2, olds, rfl, _, _, hol, holds, hflat2, hall2, hone2⟩ := hu.flat hx0 hn
    have hgo := run_append_grow (P := P) w t ty el i z ht hi hz ⟨b2, o2, none⟩ xs.length xs.length olds (by rw [hol, hsz]) holds ⟨b, o, none⟩ ys.length c2 news (by rw [hnl, hsz]) hnews (by omega) (by omega) (growslice_fits (by omega) hroom)
    have hge := grownCap_ge w (xs.length + ys.length) xs.length el
    have hl : (olds ++ news).length = (xs ++ ys).length * n := by simp [hol, hnl, Nat.add_mul]
    obtain ⟨h1, h2, h3⟩ := grown_flat (z := z.cells) (hflat2.append hflat hol hall2) (hall2.append hall) hl (by simp) hge hzn (olds.toArray ++ news.toArray ++ Builtin.zeroCells z.cells (grownCap w (xs.length + ys.length) xs.length el - (xs.length + ys.length))) (by simp)
    refine ⟨_, _, 1, by simp only [Sem.run_bind, hgo, Result.andThen_ok, Sem.run_pure]; rfl, ⟨rfl, _, rfl, hn, hall2.append hall, h2, h3⟩, by simp, _, rfl, hge, hsub, _, _, rfl, h1.symm⟩

theorem shape_push (w : World) (vs : Array Value) (ty : TypeId) (fr : Nat × Nat) : ({ w with heap := w.heap.push (.cells vs ty fr) } : World).shape? w.heap.size = some (ty, vs.size) := by simp [World.shape?]
/-- A row that grows: in place, or in a new block. -/
theorem append_own (hh : HRel κ H w U) {t ty el : TypeId} {n k : Nat} {z : Value} {i : TypeInfo} (ht : P.underlying t = some (.slice el)) (hi : P.info? el = some i) (hsz : i.size = n) (hn : 0 < n) (hz : i.zero = some z) (hzn : z.cells.size = n)
    {xs ys : List (List D)} {us ux : Value} (ho : H[k]? = some (.arr el n xs false)) (hu : RowIs κ w k n xs.length us) (hys : ys ≠ []) (hux : Rd w (Stab κ H U) (.sl n ys) ux)
    (hroom : (xs.length + ys.length) * i.bytes ≤ 140737488355328) (hb0 : 0 < i.bytes) :
    PrimOk P κ H w U (.wr k (.arr el n (xs ++ ys) false) (.osl k (xs.length + ys.length))) ((do pure (.value (← Builtin.append_ #[t, t] ty #[us, ux])) : Sem Next).run P w) := by
  obtain ⟨a2, c2, rfl, hc2⟩ := hux.form
  obtain ⟨b, o, news, rfl, _, _, hnl, hnews, hflat, hall, hone⟩ := hux.flat hys hn
  have hbig : xs.length + ys.length ≤ 140737488355328 := Nat.le_trans (Nat.le_mul_of_pos_right _ hb0) hroom
  have hy0 : 0 < ys.length := by cases ys with | nil => exact absurd rfl hys | cons _ _ => simp
  have hklt : k < H.length := (List.getElem?_eq_some_iff.1 ho).1
  have hlater : (AO.arr el n xs false).later (.arr el n (xs ++ ys) false) := ⟨_, _, rfl, by simp, fun hf => by cases hf⟩
  have hlen' : xs.length < (xs ++ ys).length := by simp; omega
  -- a new block
  have hmove : ∀ (cap : Nat) (vs : List Value) (row : Array Value), vs.length = (xs ++ ys).length * n → FlatRel w (Stab κ H U) n (xs ++ ys) vs → AllLen n (xs ++ ys) → xs.length + ys.length ≤ cap → cap ≤ 9223372036854775807 →
      row.toList = vs ++ (Builtin.zeroCells z.cells (cap - (xs.length + ys.length))).toList →
      (Builtin.append_ #[t, t] ty #[us, .slice (some ⟨b, o, none⟩) ys.length c2]).run P w = .ok (.slice (some ⟨w.heap.size, 0, none⟩) (xs.length + ys.length) cap) (w.drew.alloc (.cells row el)) →
      PrimOk P κ H w U (.wr k (.arr el n (xs ++ ys) false) (.osl k (xs.length + ys.length))) ((do pure (.value (← Builtin.append_ #[t, t] ty #[us, .slice (some ⟨b, o, none⟩) ys.length c2])) : Sem Next).run P w) := by
    intro cap vs row hl hf ha hge hmx hrow hgo
    obtain ⟨h1, h2, h3⟩ := grown_flat (z := z.cells) hf ha hl (by simp) hge hzn row hrow
    have hd : HRel κ H w.drew U := hh.same_heap rfl rfl rfl rfl
    have hde : Ext κ H w κ H w.drew := .same_heap κ H rfl rfl rfl rfl
    have hme := Ext.moved hd (obj := .cells row el) ho hlen' (plain_cells _ _)
    have hM := hd.moved (obj := .cells row el) ho hlen' (plain_cells _ _) ⟨row, Array.getElem?_push_size, hn, ha, h2, fun j cs i d v hj hi hv => (h3 j cs i d v hj hi hv).move (by show w.heap.size ≤ (w.heap.push _).size; simp) (fun b hb hbl => getElem?_push_old _ _ _ hbl) (fun b hb hbl => hb.on hme hd.dom hbl)⟩
    refine ⟨_, _, _, .inl (by simp only [Sem.run_bind, hgo, Result.andThen_ok, Sem.run_pure]; rfl), hM, hde.trans hme hh.dom, ?_⟩
    refine ⟨?_, .set ho (.inr (by simp)) (fun j hj => upd_ne κ hj)⟩
    refine .osl k _ _ _ el n (xs ++ ys) false (by simp [hklt]) (by simp) fun _ => .inr ⟨w.heap.size, cap, el, row.size, upd_same κ k _, rfl, hge, hmx, shape_push w.drew row el (0, 0), h1.symm⟩
  have hsub : ∀ {cap}, grownCap w (xs.length + ys.length) cap el ≤ 9223372036854775807 := by
    intro cap
    have := grownCap_le_maxLen w (xs.length + ys.length) cap el (by simp only [maxLen]; omega)
    simpa [maxLen] using this
  have hge : ∀ {cap}, xs.length + ys.length ≤ grownCap w (xs.length + ys.length) cap el := fun {cap} => grownCap_ge w (xs.length + ys.length) cap el
  rcases hu with ⟨h0, rfl, hk⟩ | ⟨g, cap, e', m, hk, rfl, hle, hmx, hshape, hcap⟩
  · obtain rfl : xs = [] := List.eq_nil_of_length_eq_zero h0
    have hgo := run_append_nil (P := P) w t ty el i z ht hi hz ⟨b, o, none⟩ ys.length c2 news (by rw [hnl, hsz]) hnews hy0 (by simp at hbig; omega) (by simp at hroom; omega)
    have e0 : ([] : List (List D)).length + ys.length = ys.length := by simp
    exact hmove (grownCap w ys.length 0 el) news (news.toArray ++ Builtin.zeroCells z.cells (grownCap w ys.length 0 el - ys.length)) (by simpa using hnl) (by rw [List.nil_append]; exact hflat) (by rw [List.nil_append]; exact hall) (by rw [e0]; exact grownCap_ge w ys.length 0 el) (by have := hsub (cap := 0); rw [e0] at this; exact this) (by rw [e0]; simp) (by rw [e0]; exact hgo)
  · obtain ⟨cur, hg, _, hall2, hfit, hflat2⟩ := hh.obj k g _ hk ho
    have hmn : m = cur.size := by
      simp only [World.shape?, hg] at hshape
      injection hshape with hshape
      injection hshape with _ hshape
      exact hshape.symm
    have hfl : FlatRel w (Stab κ H U) n xs (cur.toList.take (xs.length * n)) := fun j cs i d v hj hi hv => by
      rw [List.getElem?_take] at hv
      split at hv
      · exact hflat2 j cs i d v hj hi (by simpa using hv)
      · cases hv
    have htl : (cur.toList.take (xs.length * n)).length = xs.length * n := by simp; omega
    have hnl' : news.length = ys.length * i.size := by rw [hnl, hsz]
    by_cases hc : xs.length + ys.length ≤ cap
    · have hfit2 : xs.length * n + news.length ≤ cur.size := by
        have := Nat.mul_le_mul_right n hc
        rw [Nat.add_mul] at this
        omega
      have hgo := run_append_room (P := P) w t ty el i ht hi g xs.length cap cur hg ⟨b, o, none⟩ ys.length c2 news hnl' hnews hone hc (by rw [hsz]; exact hfit2)
      rw [hsz] at hgo
      have hsl : (cur.toList.take (xs.length * n) ++ news ++ cur.toList.drop (xs.length * n + news.length)).toArray.size = cur.size := by simp; omega
      obtain ⟨h2, h3⟩ := write_row hh (o' := .arr el n (xs ++ ys) false) hk ho rfl hlater hg hsl (fun w' hw' he hat => by
        refine ⟨_, hat, hn, AllLen.append hall2 hall, by rw [hsl, List.length_append, Nat.add_mul]; omega, ?_⟩
        have hm := ((hfl.append hflat htl hall2).more (us := cur.toList.drop (xs.length * n + news.length)) (by simp [hnl, Nat.add_mul]; omega) (AllLen.append hall2 hall))
        intro j cs i d v hj hi hv
        exact (hm j cs i d v hj hi (by simpa using hv)).move he.size (fun b hb hbl => he.keep b hbl hb.2) (fun b hb hbl => hb.on he hh.dom hbl))
      refine ⟨κ, _, _, .inl (by simp only [Sem.run_bind, hgo, Result.andThen_ok, Sem.run_pure]; rfl), h2, h3, ?_⟩
      refine ⟨?_, .set ho (.inr (by simp)) (fun _ _ => rfl)⟩
      exact .osl k _ _ _ el n (xs ++ ys) false (by simp [hklt]) (by simp) fun _ => .inr ⟨g, cap, e', m, hk, rfl, hc, hmx, (h3.shape g (hh.lt k g hk)).trans hshape, hcap⟩
    · have holds : ∀ j v, (cur.toList.take (xs.length * n))[j]? = some v → w.cell? ((⟨g, 0, none⟩ : Addr).add j) = some v := by
        intro j v hv
        rw [List.getElem?_take] at hv
        split at hv
        · rw [add_off]
          simp only [World.cell?, hg, Nat.zero_add]
          simpa using hv
        · cases hv
      have hgo := run_append_grow (P := P) w t ty el i z ht hi hz ⟨g, 0, none⟩ xs.length cap (cur.toList.take (xs.length * n)) (by rw [htl, hsz]) holds ⟨b, o, none⟩ ys.length c2 news hnl' hnews (by omega) (by omega) (growslice_fits (by omega) hroom)
      exact hmove _ (cur.toList.take (xs.length * n) ++ news) _ (by simp [hnl, Nat.add_mul]; omega) (hfl.append hflat htl hall2) (AllLen.append hall2 hall) hge hsub (by simp) hgo
end
end Go.AE
