import Derived.Test.YtlaldhmpoggkjaaGreatDoorCnt2
set_option linter.unusedVariables false
set_option linter.unusedSimpArgs false
namespace Go.AE
/-- A record's type, and whether it is gone: what the heap says of an entry. -/
def recOf (H : Heap) : AV → Option (ByteArray × Bool)
  | .ptr r 0 => match H[r]? with
    | some (.box _ rc) => match rc[1]?, rc[3]? with
      | some (AV.d (D.sc (Value.string t))), some (AV.osl a n) => match H[a]? with
        | some (.arr _ sz xs _) => if sz = 8 ∧ xs.length = n ∧ 0 < n then match xs[n - 1]? with
            | some [_, _, _, _, _, _, _, .sc (.bool g)] => some (t, g)
            | _ => none
          else none
        | _ => none
      | _, _ => none
    | _ => none
  | _ => none
def recsOf (H : Heap) : List (Value × AV) → Option (List (ByteArray × Bool))
  | [] => some []
  | e :: r => match recOf H e.2 with
    | some x => match recsOf H r with
      | some xs => some (x :: xs)
      | none => none
    | none => none
def iCount2 : List AV → Heap → Option (AV × Heap)
  | [.ptr c 0, .d (.sc (.string typ))], H => match H[c]? with
    | some (.box _ cs) => match cs[3]? with
      | some (AV.mp m) => match H[m]? with
        | some (AO.mp es) => if es.length ≤ 4611686018427387904 then match recsOf H es with
            | some l => some (.int .i64 ((l.filter fun x => decide (bytes x.1 = bytes typ) && !x.2).length), H)
            | none => none
          else none
        | _ => none
      | _ => none
    | _ => none
  | _, _ => none
variable {P : Program} {κ : Kp} {H : Heap} {w w' : World} {U : Nat → Prop}
theorem Ext.of_old (h : Go.Proofs.Old w w') : Ext κ H w κ H w' where
  os := h.os
  tape := h.tape
  output := h.output
  size := h.size
  keep := fun b hb _ => h.heap b hb
  shape := fun b hb => by simp only [World.shape?]; rw [h.heap b hb]
  len := Nat.le_refl _
  objs := fun k o ho => ⟨o, ho, .refl o⟩
  old := fun _ _ _ h _ _ => h
  oldA := fun _ _ _ _ _ _ _ _ _ _ => rfl
  new := fun _ _ h => .inl h
  frz := h.frz
theorem HRel.of_old (hh : HRel κ H w U) (h : Go.Proofs.Old w w') : HRel κ H w' U :=
  hh.mk' (.of_old h) hh.dom (fun k g hk => Nat.lt_of_lt_of_le (hh.lt k g hk) h.size) hh.inj (fun k g o hk ho => .inl ⟨hk, ho, h.heap g (hh.lt k g hk)⟩)
theorem recOf_ent (hh : HRel κ H w U) {x : AV} {t : ByteArray} {g : Bool} {e : MapEntry} (h : recOf H x = some (t, g)) (hv : VRel κ H w (Stab κ H U) x e.val) : Go.Proofs.Ent w e t g := by
  unfold recOf at h
  split at h
  · rename_i r
    split at h
    · rename_i ty rc hr
      split at h
      · rename_i t' a n h1 h3
        split at h
        · rename_i ty2 sz xs fz ha
          split at h
          · rename_i hc
            obtain ⟨rfl, hlen, hn⟩ := hc
            split at h
            · rename_i d0 d1 d2 d3 d4 d5 d6 g' hx
              simp only [Option.some.injEq, Prod.mk.injEq] at h
              obtain ⟨rfl, rfl⟩ := h
              generalize hev : e.val = ev at hv
              cases hv with
              | ptr _ _ gr ty' cs hk ho =>
                rw [hr] at ho
                injection ho with ho
                injection ho with e1 e2
                subst e1 e2
                obtain ⟨vs, hg, hrs⟩ := hh.obj r gr _ hk hr
                obtain ⟨u1, hu1, hr1⟩ := hrs.get h1
                obtain rfl := hr1.sc_inv
                obtain ⟨u3, hu3, hr3⟩ := hrs.get h3
                cases hr3 with
                | osl _ _ ad cap ty3 sz3 xs3 fz3 ho3 hl3 hrow =>
                  rw [ha] at ho3
                  injection ho3 with ho3
                  injection ho3 with e1 e2 e3 e4
                  subst e1 e2 e3 e4
                  rcases hrow hlen with ⟨hz, _⟩ | ⟨ga, cap', e', m, hka, hsl, hle, hmx, _⟩
                  · omega
                  · injection hsl with hs1 hs2 hs3
                    subst hs1 hs3
                    obtain ⟨row, hgr, _, hall, hfit, hflat⟩ := hh.obj a ga _ hka ha
                    obtain ⟨q, rfl⟩ : ∃ q, n = q + 1 := ⟨n - 1, by omega⟩
                    rw [Nat.add_sub_cancel] at hx
                    have hcell : ∀ (i : Nat) (d : D), [d0, d1, d2, d3, d4, d5, d6, D.sc (.bool g')][i]? = some d → ∃ v, w.cell? ⟨ga, q * 8 + i, none⟩ = some v ∧ Rd w (Stab κ H U) d v := by
                      intro i d hd
                      have hi : i < 8 := by have := (List.getElem?_eq_some_iff.1 hd).1; simpa using this
                      have hlt : q * 8 + i < row.size := by omega
                      have hv : row[q * 8 + i]? = some row[q * 8 + i] := Array.getElem?_eq_getElem hlt
                      exact ⟨_, by simp [World.cell?, hgr, hlt], hflat q _ i d _ hx hd hv⟩
                    obtain ⟨m0, p0, r0⟩ := hcell 0 d0 rfl
                    obtain ⟨m1, p1, r1⟩ := hcell 1 d1 rfl
                    obtain ⟨m2, p2, r2⟩ := hcell 2 d2 rfl
                    obtain ⟨m3, p3, r3⟩ := hcell 3 d3 rfl
                    obtain ⟨m4, p4, r4⟩ := hcell 4 d4 rfl
                    obtain ⟨m5, p5, r5⟩ := hcell 5 d5 rfl
                    obtain ⟨m6, p6, r6⟩ := hcell 6 d6 rfl
                    obtain ⟨m7, p7, r7⟩ := hcell 7 _ rfl
                    obtain rfl : m7 = .bool g' := by cases r7; rfl
                    refine ⟨gr, ga, q, cap, m0, m1, m2, m3, m4, m5, m6, hev, by omega, ?_, ?_, p0, p1, p2, p3, p4, p5, p6, p7, ?_⟩
                    · simp only [World.cell?, hg]; simpa using hu1
                    · simp only [World.cell?, hg]; simpa using hu3
                    · simp [r0.one, r1.one, r2.one, r3.one, r4.one, r5.one, r6.one, r7.one]
            · cases h
          · cases h
        · cases h
      · cases h
    · cases h
  · cases h
theorem recsOf_get {H : Heap} : ∀ {es : List (Value × AV)} {l : List (ByteArray × Bool)}, recsOf H es = some l → l.length = es.length ∧ ∀ (i : Nat) (e : Value × AV) (x : ByteArray × Bool), es[i]? = some e → l[i]? = some x → recOf H e.2 = some x
  | [], l, h => by simp only [recsOf, Option.some.injEq] at h; subst h; exact ⟨rfl, fun i e x he _ => by simp at he⟩
  | e :: es, l, h => by
    simp only [recsOf] at h
    split at h
    · rename_i x hx
      split at h
      · rename_i xs hxs
        injection h with h
        subst h
        obtain ⟨h1, h2⟩ := recsOf_get hxs
        refine ⟨by simp [h1], fun i e' x' he hx' => ?_⟩
        cases i with
        | zero => simp at he hx'; subst he hx'; exact hx
        | succ i => simp at he hx'; exact h2 i e' x' he hx'
      · cases h
    · cases h
theorem idxOf_at {l : List Nat} (hn : l.Nodup) {i : Nat} (hi : i < l.length) : l.idxOf l[i] = i := by
  have hlt : l.idxOf l[i] < l.length := List.idxOf_lt_length_iff.2 (List.getElem_mem hi)
  have h1 : l[l.idxOf l[i]] = l[i] := List.getElem_idxOf hlt
  rcases Nat.lt_trichotomy (l.idxOf l[i]) i with h | h | h
  · exact absurd h1 (List.pairwise_iff_getElem.1 hn _ _ hlt hi h)
  · exact h
  · exact absurd h1.symm (List.pairwise_iff_getElem.1 hn _ _ hi hlt h)
/-- Lists that go side by side, filtered. -/
theorem filter_side {α β : Type} (p : α → Bool) (q : β → Bool) : ∀ (xs : List α) (ys : List β), xs.length = ys.length → (∀ (i : Nat) (x : α) (y : β), xs[i]? = some x → ys[i]? = some y → p x = q y) → (xs.filter p).length = (ys.filter q).length
  | [], [], _, _ => rfl
  | [], _ :: _, h, _ => by simp at h
  | _ :: _, [], h, _ => by simp at h
  | x :: xs, y :: ys, h, hp => by
    have h0 := hp 0 x y rfl rfl
    have ih := filter_side p q xs ys (by simpa using h) fun i a b ha hb => hp (i + 1) a b (by simpa using ha) (by simpa using hb)
    simp only [List.filter_cons, h0]
    split <;> simp [ih]
/-- Cloud.count, told: right in every order of the map. -/
theorem iCount2_ok {args : List AV} {r : AV} {H' : Heap} (h : iCount2 args H = some (r, H')) {vals : List Value} (hh : HRel κ H w U) (hv : VRels κ H w (Stab κ H U) args vals) :
    H' = H ∧ Calls Go.Proofs.Tryz.prog 59 vals.toArray w fun | .returned v, w' => Post κ H w U r H' v w' | _, _ => False := by
  unfold iCount2 at h
  split at h
  · rename_i c typ
    split at h
    · rename_i ty cs hc
      split at h
      · rename_i m hm
        split at h
        · rename_i es hes
          split at h
          · rename_i hsz
            split at h
            · rename_i l hl
              simp only [Option.some.injEq, Prod.mk.injEq] at h
              obtain ⟨rfl, rfl⟩ := h
              refine ⟨rfl, ?_⟩
              match vals, hv with
              | [v0, v1], hv =>
                have hv0 := hv.2 0 _ _ rfl rfl
                have hv1 := hv.2 1 _ _ rfl rfl
                obtain rfl := hv1.sc_inv
                cases hv0 with
                | ptr _ _ gc ty' cs' hk ho =>
                  rw [hc] at ho
                  injection ho with ho
                  injection ho with e1 e2
                  subst e1 e2
                  obtain ⟨vs, hg, hrs⟩ := hh.obj c gc _ hk hc
                  obtain ⟨u, hu, hr⟩ := hrs.get hm
                  cases hr with
                  | mp _ gm es' hkm hom =>
                    rw [hes] at hom
                    injection hom with hom
                    injection hom with hom
                    subst hom
                    obtain ⟨ents, clock, hgm, hborn, hlen, hrel⟩ := hh.obj m gm _ hkm hes
                    obtain ⟨l1, l2⟩ := recsOf_get hl
                    -- what each entry is
                    have hent : ∀ (i : Nat) (e : MapEntry) (x : ByteArray × Bool), ents.toList[i]? = some e → l[i]? = some x → Go.Proofs.Ent w e x.1 x.2 := by
                      intro i e x he hx
                      have hi : i < es.length := by rw [← l1]; exact (List.getElem?_eq_some_iff.1 hx).1
                      have hei := List.getElem?_eq_getElem hi
                      exact recOf_ent hh (l2 i _ x hei hx) (hrel i _ e hei (by simpa using he)).2
                    -- by when it was laid: a function of the entry
                    let idx : MapEntry → Nat := fun e => (ents.toList.map (·.born)).idxOf e.born
                    let dat : MapEntry → ByteArray × Bool := fun e => (l[idx e]?).getD (⟨#[]⟩, false)
                    have hidx : ∀ (i : Nat) (e : MapEntry), ents.toList[i]? = some e → idx e = i := by
                      intro i e he
                      have hi : i < (ents.toList.map (·.born)).length := by simpa using (List.getElem?_eq_some_iff.1 he).1
                      have hb : (ents.toList.map (·.born))[i] = e.born := by
                        have := (List.getElem?_eq_some_iff.1 he).2
                        simp only [List.getElem_map]
                        rw [this]
                      show (ents.toList.map (·.born)).idxOf e.born = i
                      rw [← hb]
                      exact idxOf_at hborn.2 hi
                    have hdat : ∀ (i : Nat) (e : MapEntry) (x : ByteArray × Bool), ents.toList[i]? = some e → l[i]? = some x → dat e = x := by
                      intro i e x he hx
                      simp only [dat, hidx i e he, hx, Option.getD_some]
                    have hall : ∀ e ∈ ents.toList, Go.Proofs.Ent w e (dat e).1 (dat e).2 := by
                      intro e he
                      obtain ⟨i, hi, hie⟩ := List.getElem_of_mem he
                      have h1 : ents.toList[i]? = some e := by rw [List.getElem?_eq_getElem hi, hie]
                      have hil : i < l.length := by rw [l1, hlen]; simpa using hi
                      have h2 := List.getElem?_eq_getElem hil
                      rw [hdat i e _ h1 h2]
                      exact hent i e _ h1 h2
                    have hcell : w.cell? ⟨gc, 3, none⟩ = some (.map (some gm)) := by simp only [World.cell?, hg]; simpa using hu
                    refine (Go.Proofs.count_walk w gc gm typ ents clock (fun e => (dat e).1) (fun e => (dat e).2) hcell hgm hborn (by omega) hall).mono fun e w' hres => ?_
                    obtain ⟨rfl, hold⟩ := hres
                    refine ⟨κ, hh.of_old hold, .of_old hold, .refl _ _, ?_⟩
                    have hcnt : (ents.toList.filter fun e => decide ((dat e).1.toList = typ.toList) && !(dat e).2).length = (l.filter fun x => decide (bytes x.1 = bytes typ) && !x.2).length :=
                      filter_side _ _ _ _ (by rw [l1, hlen]; simp) fun i e x he hx => by
                        rw [hdat i e x he hx, bytes_eq, bytes_eq]
                    rw [hcnt]
                    exact VRel.sc _
              | [], hv => exact absurd hv.1 (by simp)
              | [_], hv => exact absurd hv.1 (by simp)
              | _ :: _ :: _ :: _, hv => exact absurd hv.1 (by simp)
            · cases h
          · cases h
        · cases h
      · cases h
    · cases h
  · cases h
end Go.AE
