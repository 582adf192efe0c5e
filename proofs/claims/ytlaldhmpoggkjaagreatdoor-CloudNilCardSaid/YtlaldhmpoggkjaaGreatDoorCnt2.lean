import Derived.Test.YtlaldhmpoggkjaaGreatDoorCnt
import Derived.Maps.RangeWalk
import Derived.LoopTactic
import Derived.Test.YtlaldhmpoggkjaaGreatDoorAeSound
set_option linter.unusedVariables false
set_option linter.unusedSimpArgs false
namespace Go.Proofs
open Go.RowKit
open Go.ChangeMaps (setBlock)
/-- Of what was there nothing has changed. -/
structure Old (w w' : World) : Prop where
  os : w'.os = w.os
  tape : w'.tape = w.tape
  output : w'.output = w.output
  size : w.heap.size ≤ w'.heap.size
  heap : ∀ b, b < w.heap.size → w'.heap[b]? = w.heap[b]?
  frz : ∀ a, w'.frozen? a = w.frozen? a
theorem Old.refl (w : World) : Old w w := ⟨rfl, rfl, rfl, Nat.le_refl _, fun _ _ => rfl, fun _ => rfl⟩
theorem Old.trans {a b c : World} (h : Old a b) (k : Old b c) : Old a c := ⟨k.os.trans h.os, k.tape.trans h.tape, k.output.trans h.output, Nat.le_trans h.size k.size, fun x hx => (k.heap x (Nat.lt_of_lt_of_le hx h.size)).trans (h.heap x hx), fun a => (k.frz a).trans (h.frz a)⟩
theorem Old.cell {w w' : World} (h : Old w w') {a : Addr} {v : Value} (hc : w.cell? a = some v) : w'.cell? a = some v := by
  unfold World.cell? at hc ⊢
  have hb : a.block < w.heap.size := by
    rcases Nat.lt_or_ge a.block w.heap.size with h' | h'
    · exact h'
    · simp [Array.getElem?_eq_none h'] at hc
  rw [h.heap _ hb]; exact hc
theorem Old.push (w : World) {o : Obj} (hp : Go.AE.Plain o) (k : Nat) : Old w { w with heap := w.heap.push o, drawn := w.drawn + k } :=
  ⟨rfl, rfl, rfl, by simp, fun b hb => by rw [Array.getElem?_push]; simp [Nat.ne_of_lt hb], Go.AE.frozen_push w hp k⟩
/-- What is known of an entry: the record's type, and whether it is gone. -/
def Ent (w : World) (e : MapEntry) (t : ByteArray) (gone : Bool) : Prop :=
  ∃ gr ga q cap, ∃ m0 m1 m2 m3 m4 m5 m6 : Value, e.val = .pointer (some ⟨gr, 0, none⟩) ∧ q + 1 ≤ 9223372036854775807 ∧ w.cell? ⟨gr, 1, none⟩ = some (.string t) ∧ w.cell? ⟨gr, 3, none⟩ = some (.slice (some ⟨ga, 0, none⟩) (q + 1) cap) ∧
    w.cell? ⟨ga, q * 8 + 0, none⟩ = some m0 ∧ w.cell? ⟨ga, q * 8 + 1, none⟩ = some m1 ∧ w.cell? ⟨ga, q * 8 + 2, none⟩ = some m2 ∧ w.cell? ⟨ga, q * 8 + 3, none⟩ = some m3 ∧
    w.cell? ⟨ga, q * 8 + 4, none⟩ = some m4 ∧ w.cell? ⟨ga, q * 8 + 5, none⟩ = some m5 ∧ w.cell? ⟨ga, q * 8 + 6, none⟩ = some m6 ∧ w.cell? ⟨ga, q * 8 + 7, none⟩ = some (.bool gone) ∧ #[m0, m1, m2, m3, m4, m5, m6, .bool gone].all Value.oneCell' = true
theorem Ent.old {w w' : World} (h : Old w w') {e : MapEntry} {t : ByteArray} {g : Bool} (he : Ent w e t g) : Ent w' e t g := by
  obtain ⟨gr, ga, q, cap, m0, m1, m2, m3, m4, m5, m6, h1, hq, h2, h3, c0, c1, c2, c3, c4, c5, c6, c7, h4⟩ := he
  exact ⟨gr, ga, q, cap, m0, m1, m2, m3, m4, m5, m6, h1, hq, h.cell h2, h.cell h3, h.cell c0, h.cell c1, h.cell c2, h.cell c3, h.cell c4, h.cell c5, h.cell c6, h.cell c7, h4⟩
def cntSeen (l : List MapEntry) (p : MapEntry → Bool) (seen : Array Nat) : Nat := (l.filter fun e => seen.contains e.born && p e).length
theorem cntSeen_le (l : List MapEntry) (p : MapEntry → Bool) (seen : Array Nat) : cntSeen l p seen ≤ l.length := List.length_filter_le _ _
theorem cntSeen_none (l : List MapEntry) (p : MapEntry → Bool) : cntSeen l p #[] = 0 := by
  unfold cntSeen
  rw [List.length_eq_zero_iff, List.filter_eq_nil_iff]
  intro e _
  simp
theorem cntSeen_all {l : List MapEntry} {p : MapEntry → Bool} {seen : Array Nat} (h : ∀ x ∈ l, seen.contains x.born = true) : cntSeen l p seen = (l.filter p).length := by
  unfold cntSeen
  congr 1
  apply List.filter_congr
  intro x hx
  rw [h x hx, Bool.true_and]
theorem cntSeen_push {p : MapEntry → Bool} {seen : Array Nat} {e : MapEntry} (hs : seen.contains e.born = false) : ∀ {l : List MapEntry}, (l.map (·.born)).Nodup → e ∈ l → cntSeen l p (seen.push e.born) = cntSeen l p seen + if p e then 1 else 0
  | [], _, he => by simp at he
  | x :: l, hn, he => by
    simp only [List.map_cons, List.nodup_cons] at hn
    have other : ∀ {l : List MapEntry}, e.born ∉ l.map (·.born) → cntSeen l p (seen.push e.born) = cntSeen l p seen := by
      intro l hl
      unfold cntSeen
      congr 1
      apply List.filter_congr
      intro y hy
      have : (y.born == e.born) = false := by
        rw [beq_eq_false_iff_ne]
        exact fun h => hl (h ▸ List.mem_map_of_mem hy)
      rw [contains_push, this, Bool.or_false]
    rcases List.mem_cons.1 he with rfl | he
    · have := other (l := l) hn.1
      unfold cntSeen at this ⊢
      simp only [List.filter_cons, contains_push, hs, beq_self_eq_true, Bool.or_true, Bool.true_and, Bool.false_and]
      simp only [contains_push] at this
      cases hp : p e
      · simp only [Bool.false_eq_true, if_false, Nat.add_zero]; exact this
      · simp only [if_true, Bool.false_eq_true, if_false, List.length_cons, this]
    · have ih := cntSeen_push (p := p) hs hn.2 he
      have hne : (x.born == e.born) = false := by
        rw [beq_eq_false_iff_ne]
        exact fun h => hn.1 (h ▸ List.mem_map_of_mem he)
      unfold cntSeen at ih ⊢
      simp only [List.filter_cons, contains_push, hne, Bool.or_false]
      simp only [contains_push] at ih
      split
      · simp only [List.length_cons, ih]; omega
      · exact ih
set_option maxRecDepth 100000 in
theorem field_gone (w : World) (m0 m1 m2 m3 m4 m5 m6 : Value) (g : Bool) (h : #[m0, m1, m2, m3, m4, m5, m6, .bool g].all Value.oneCell' = true) : (Instr.field 75 (.agg #[m0, m1, m2, m3, m4, m5, m6, .bool g]) 3).run Tryz.prog w = .ok (.bool g) w := by
  open Go.AE in
  have hf : fieldV Tryz.prog 75 3 (.agg [.sc m0, .sc m1, .sc m2, .sc m3, .sc m4, .sc m5, .sc m6, .sc (.bool g)]) = some ⟨[], .ret (.sc (.bool g))⟩ := by kernel_rfl
  have hall := Array.all_eq_true_iff_forall_mem.1 h
  open Go.AE in
  have hr : VRel κ0 [] w (fun _ => True) (.agg [.sc m0, .sc m1, .sc m2, .sc m3, .sc m4, .sc m5, .sc m6, .sc (.bool g)]) (.agg #[m0, m1, m2, m3, m4, m5, m6, .bool g]) :=
    VRel.agg' (VRels.cons (VRel.sc _ (hall _ (by simp))) (VRels.cons (VRel.sc _ (hall _ (by simp))) (VRels.cons (VRel.sc _ (hall _ (by simp))) (VRels.cons (VRel.sc _ (hall _ (by simp))) (VRels.cons (VRel.sc _ (hall _ (by simp))) (VRels.cons (VRel.sc _ (hall _ (by simp))) (VRels.cons (VRel.sc _ (hall _ (by simp))) (VRels.cons (VRel.sc _) VRels.nil))))))))
  open Go.AE in
  obtain ⟨r, u, h1, h2, h3⟩ := fieldV_ok hf hr
  injection h1 with _ h1
  injection h1 with h1
  subst h1
  open Go.AE in
  obtain rfl := VRel.sc_inv h3
  exact h2
set_option maxRecDepth 100000 in
theorem count_walk (w : World) (gc gm : Nat) (typ : ByteArray) (ents : Array MapEntry) (clock : Nat) (tp : MapEntry → ByteArray) (gn : MapEntry → Bool)
    (hC : w.cell? ⟨gc, 3, none⟩ = some (.map (some gm))) (hM : w.heap[gm]? = some (.map ents clock)) (hborn : Go.AE.BornOk ents clock) (hsz : ents.size ≤ 4611686018427387904) (hE : ∀ e ∈ ents.toList, Ent w e (tp e) (gn e)) :
    Calls Tryz.prog 59 #[.pointer (some ⟨gc, 0, none⟩), .string typ] w fun e w' => e = .returned (.int .i64 ((ents.toList.filter fun e => decide ((tp e).toList = typ.toList) && !gn e).length)) ∧ Old w w' := by
  have hgm : gm < w.heap.size := (Array.getElem?_eq_some_iff.1 hM).1
  have hrg := run_range_map (P := Tryz.prog) w 65 _ _ gm ents clock Tryz.underlying65 hM
  go_enter Tryz.func59, Tryz.ntmps59
  go_wp2
  go_loopw [5] (fun c wr => ∃ (seen : Array Nat) (c0 : Nat), c = .int .i64 (cntSeen ents.toList (fun e => decide ((tp e).toList = typ.toList) && !gn e) seen) ∧ wr.heap[w.heap.size]? = some (.mapIter (some gm) clock seen c0) ∧ clock ≤ c0 ∧ Old w wr)
    (fun _ wr => (leftOf ents (wr.iterSeen w.heap.size)).size)
  case atStart =>
    exact ⟨#[], clock, by rw [cntSeen_none]; rfl, Array.getElem?_push_size, Nat.le_refl _, rfl, rfl, rfl, by show w.heap.size ≤ (w.heap.push _).size; rw [Array.size_push]; omega, fun b hb => by show (w.heap.push _)[b]? = _; rw [Array.getElem?_push]; simp [Nat.ne_of_lt hb], Go.AE.frozen_push w (fun _ _ _ h => by cases h) 0⟩
  case round =>
    obtain ⟨seen, c0, rfl, hit, hc0, hold⟩ := hrel
    have hMr : wr.heap[gm]? = some (.map ents clock) := (hold.heap gm hgm).trans hM
    rcases run_next_at (P := Tryz.prog) wr 0 w.heap.size gm clock c0 seen ents clock hit hMr hborn.1 hc0 with ⟨h0, hrun⟩ | ⟨e, he, w1, hw1, hrun⟩
    · go_wp2
      go_ret
      refine ⟨?_, hold⟩
      rw [cntSeen_all (all_seen ents seen h0)]
      rfl
    · obtain ⟨he1, he2⟩ := mem_left he
      have hw1o : Old wr w1 := by
        rcases hw1 with rfl | rfl
        · exact Old.refl _
        · exact ⟨rfl, rfl, rfl, Nat.le_refl _, fun _ _ => rfl, fun _ => rfl⟩
      have hit1 : w1.heap[w.heap.size]? = some (.mapIter (some gm) clock seen c0) := (hw1o.heap _ (Array.getElem?_eq_some_iff.1 hit).1).trans hit
      have hlt1 : w.heap.size < w1.heap.size := (Array.getElem?_eq_some_iff.1 hit1).1
      generalize hw2 : setBlock w1 w.heap.size (Obj.mapIter (some gm) clock (seen.push e.born) clock) = w2 at hrun
      have hit2 : w2.heap[w.heap.size]? = some (.mapIter (some gm) clock (seen.push e.born) clock) := by rw [← hw2]; simp [setBlock, hlt1]
      have hold2 : Old w w2 := by
        have h1 := hold.trans hw1o
        refine ⟨by rw [← hw2]; exact h1.os, by rw [← hw2]; exact h1.tape, by rw [← hw2]; exact h1.output, by rw [← hw2]; simpa [setBlock] using h1.size, fun b hb => ?_, fun a => ?_⟩
        rotate_left
        · rw [← hw2]
          have := Go.AE.frozen_set w1 (ob' := Obj.mapIter (some gm) clock (seen.push e.born) clock) hit1 (fun _ _ _ h => by cases h) (fun _ _ _ h => by cases h) a
          exact this.trans (h1.frz a)
        rw [← hw2]
        simp only [setBlock]
        rw [Array.getElem?_setIfInBounds_ne (Nat.ne_of_gt hb)]
        exact h1.heap b hb
      have hM2 : w2.heap[gm]? = some (.map ents clock) := (hold2.heap gm hgm).trans hM
      have hent := run_entry_at (P := Tryz.prog) w2 w.heap.size gm clock seen ents clock e hit2 hM2 he1 hborn.2
      obtain ⟨gr, ga, q, cap, m0, m1, m2, m3, m4, m5, m6, h1, hq, h2, h3, d0, d1, d2, d3, d4, d5, d6, d7, h4⟩ := (hE e he1).old hold2
      rw [h1] at hent hrun
      have hpush := cntSeen_push (p := fun e => decide ((tp e).toList = typ.toList) && !gn e) he2 hborn.2 he1
      have hshrink := left_shrinks ents seen e he
      have hseen : wr.iterSeen w.heap.size = seen := by simp [World.iterSeen, hit]
      have hle := cntSeen_le ents.toList (fun e => decide ((tp e).toList = typ.toList) && !gn e) (seen.push e.born)
      have hlt2 : w.heap.size < w2.heap.size := (Array.getElem?_eq_some_iff.1 hit2).1
      have hfld := fun w => field_gone w m0 m1 m2 m3 m4 m5 m6 (gn e) h4
      generalize hcnt : cntSeen ents.toList (fun e => decide ((tp e).toList = typ.toList) && !gn e) seen = cnt at hpush
      clear hborn hM hE hC hrg hMr hw1 hw1o hit1 hlt1 hw2 hit
      have fin : ∀ (w' : World) (n : Nat), Old w2 w' → n = cntSeen ents.toList (fun e => decide ((tp e).toList = typ.toList) && !gn e) (seen.push e.born) →
          (∃ (sn : Array Nat) (c0 : Nat), Value.int IntKind.i64 n = Value.int IntKind.i64 (cntSeen ents.toList (fun e => decide ((tp e).toList = typ.toList) && !gn e) sn) ∧ w'.heap[w.heap.size]? = some (Obj.mapIter (some gm) clock sn c0) ∧ clock ≤ c0 ∧ Old w w') ∧
            (leftOf ents (w'.iterSeen w.heap.size)).size < (leftOf ents (wr.iterSeen w.heap.size)).size := by
        intro w' n ho hn
        have hi : w'.heap[w.heap.size]? = some (.mapIter (some gm) clock (seen.push e.born) clock) := (ho.heap _ hlt2).trans hit2
        refine ⟨⟨seen.push e.born, clock, by rw [hn], hi, Nat.le_refl _, hold2.trans ho⟩, ?_⟩
        rw [hseen]
        simpa [World.iterSeen, hi] using hshrink
      go_wp2_with (first
        | (go_at_call 39; refine (last_walk _ gr ga q cap hq m0 m1 m2 m3 m4 m5 m6 (.bool (gn e)) h3 d0 d1 d2 d3 d4 d5 d6 d7 h4).mono ?_; rintro e' w' ⟨rfl, oc, ot, rfl⟩)
        | go_in)
      · have h5 : (decide ((tp e).toList = typ.toList) && !gn e) = true := by simp only [Bool.and_eq_true, decide_eq_true_eq]; exact ⟨by assumption, by assumption⟩
        rw [h5] at hpush
        simp only [if_true] at hpush
        have hwr : wrap64 ((cnt : Int) + 1) = ((cnt + 1 : Nat) : Int) := by
          have h6 : cnt + 1 ≤ 4611686018427387904 := by
            rw [← hpush]
            refine Nat.le_trans hle ?_
            rw [Array.length_toList]; exact hsz
          simp only [wrap64]
          omega
        rw [hwr]
        exact fin _ _ (Old.push w2 (Go.AE.plain_cells _ _) 1) hpush.symm
      · have h5 : (decide ((tp e).toList = typ.toList) && !gn e) = false := by rw [Bool.and_eq_false_iff]; exact .inr (by assumption)
        rw [h5] at hpush
        exact fin _ _ (Old.push w2 (Go.AE.plain_cells _ _) 1) hpush.symm
      · have h5 : (decide ((tp e).toList = typ.toList) && !gn e) = false := by rw [Bool.and_eq_false_iff]; exact .inl (decide_eq_false (by assumption))
        rw [h5] at hpush
        exact fin _ _ (Old.refl w2) hpush.symm
end Go.Proofs
