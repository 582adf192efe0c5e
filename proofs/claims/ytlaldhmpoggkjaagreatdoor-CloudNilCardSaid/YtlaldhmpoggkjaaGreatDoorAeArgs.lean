/- The arguments of a law, as the abstract evaluator's data: what a claim says of them reads as a tree of scalars and rows, shaped as their types say. -/
import Derived.Test.YtlaldhmpoggkjaaGreatDoorAeGrown
import Derived.ChangeArms
import Derived.WideKeyArgs
set_option autoImplicit false
set_option linter.unusedVariables false
set_option linter.unusedSimpArgs false
namespace Go.AE
section
variable {P : Program}

/-- Fields that follow each other without a gap: where they end. -/
def contig (P : Program) : Nat → List Field → Option Nat
  | o, [] => some o
  | o, f :: fs => if f.offset = o then contig P (o + P.cellsOf f.type) fs else none
def plainRow (P : Program) (T : List TypeId) (t : TypeId) : Bool :=
  match P.underlying t with
  | some .bool | some (.int _) | some .string => true
  | some (.slice e) => T.contains e && decide (0 < P.cellsOf e)
  | some (.struct fs) => (fs.toList.all fun f => T.contains f.type) && contig P 0 fs.toList == some (P.cellsOf t)
  | _ => false
/-- Types of scalars, rows and structs, closed under their parts. -/
def plainSet (P : Program) (T : List TypeId) : Bool := T.all (plainRow P T)

/-- Data shaped as a type says. -/
def Fit (P : Program) : Nat → TypeId → List D → Prop
  | 0, _, _ => False
  | n + 1, t, ds => match P.underlying t with
    | some .bool => ∃ b, ds = [.sc (.bool b)]
    | some (.int k) => ∃ x, ds = [.sc (.int k x)] ∧ (Lit.int k x).wf = true
    | some .string => ∃ s : ByteArray, ds = [.sc (.string s)] ∧ s.size ≤ maxLen
    | some (.slice e) => ∃ xs, ds = [.sl (P.cellsOf e) xs] ∧ xs.length ≤ maxLen ∧ ∀ row ∈ xs, Fit P n e row
    | some (.struct fs) => ds.length = P.cellsOf t ∧ ∀ f ∈ fs.toList, Fit P n f.type ((ds.drop f.offset).take (P.cellsOf f.type))
    | _ => False

def DsRel (w : World) (ds : List D) (cs : List Value) : Prop := ds.length = cs.length ∧ ∀ (i : Nat) (d : D) (v : Value), ds[i]? = some d → cs[i]? = some v → Rd w (fun _ => True) d v

theorem contig_le : ∀ {fs : List Field} {o m : Nat}, contig P o fs = some m → o ≤ m
  | [], o, m, h => by simp only [contig, Option.some.injEq] at h; omega
  | f :: fs, o, m, h => by
    simp only [contig] at h
    split at h
    · have := contig_le h; omega
    · cases h

theorem fields_ds {w : World} {n : Nat} {cs : List Value} : ∀ {fs : List Field} {o m : Nat}, contig P o fs = some m → cs.length = m →
    (∀ f ∈ fs, ∃ ds, Fit P n f.type ds ∧ DsRel w ds ((cs.drop f.offset).take (P.cellsOf f.type))) →
    ∃ ds, DsRel w ds (cs.drop o) ∧ ∀ f ∈ fs, o ≤ f.offset ∧ Fit P n f.type ((ds.drop (f.offset - o)).take (P.cellsOf f.type))
  | [], o, m, h, hl, _ => by
    simp only [contig, Option.some.injEq] at h
    refine ⟨[], ⟨by simp; omega, fun i d v hd _ => by simp at hd⟩, fun f hf => by simp at hf⟩
  | f :: fs, o, m, h, hl, hf => by
    simp only [contig] at h
    split at h
    · rename_i ho
      obtain ⟨d1, q1, q2⟩ := hf f (List.mem_cons_self ..)
      obtain ⟨d2, r1, r2⟩ := fields_ds h hl fun g hg => hf g (List.mem_cons_of_mem _ hg)
      have hle := contig_le h
      have hl1 : d1.length = P.cellsOf f.type := by rw [q2.1, List.length_take, List.length_drop]; omega
      refine ⟨d1 ++ d2, ⟨?_, fun i d v hd hv => ?_⟩, fun g hg => ?_⟩
      · rw [List.length_append, r1.1, hl1, List.length_drop, List.length_drop]; omega
      · by_cases hi : i < d1.length
        · rw [List.getElem?_append_left hi] at hd
          refine q2.2 i d v hd ?_
          rw [List.getElem?_take, if_pos (by omega), List.getElem?_drop, ho]
          rw [List.getElem?_drop] at hv
          exact hv
        · rw [List.getElem?_append_right (by omega)] at hd
          refine r1.2 _ d v hd ?_
          rw [List.getElem?_drop] at hv ⊢
          rw [← hv]
          congr 1
          omega
      · rcases List.mem_cons.1 hg with rfl | hg
        · refine ⟨by omega, ?_⟩
          rw [show g.offset - o = 0 by omega, List.drop_zero, List.take_append_of_le_length (by omega), List.take_of_length_le (by omega)]
          exact q1
        · obtain ⟨s1, s2⟩ := r2 g hg
          refine ⟨by omega, ?_⟩
          rw [List.drop_append_of_le_length_right? d1 d2 g.offset o (P.cellsOf f.type) hl1 s1]
          exact s2
    · cases h
where
  List.drop_append_of_le_length_right? (d1 d2 : List D) (a o c : Nat) (h : d1.length = c) (ha : o + c ≤ a) : (d1 ++ d2).drop (a - o) = d2.drop (a - (o + c)) := by
    rw [List.drop_append, List.drop_of_length_le (by omega), List.nil_append]
    congr 1
    omega

theorem trod_ds {Hh : Type} {enc : TypeId × Value → Hh} {w : World} {sp : Nat → Bool} {hd : Bool} {T : List TypeId} (hT : plainSet P T = true) : ∀ (n : Nat) (t : TypeId) (cs : List Value) (x : DataW Hh × List MemPlace), t ∈ T → DataW.trod enc P w 0 sp hd n t cs = some x →
    ∃ ds, Fit P n t ds ∧ DsRel w ds cs
  | 0, t, cs, x, _, h => by simp [DataW.trod] at h
  | n + 1, t, cs, x, ht, h => by
    have hp := List.all_eq_true.1 hT t ht
    unfold plainRow at hp
    split at hp
    · rename_i hu
      obtain ⟨b, rfl, rfl⟩ := DataW.trod_bool hu h
      exact ⟨[.sc (.bool b)], by simp [Fit, hu], rfl, fun i d v h1 h2 => by
        match i, h1, h2 with
        | 0, h1, h2 => simp at h1 h2; subst h1 h2; exact .sc _ rfl⟩
    · rename_i k hu
      obtain ⟨m, rfl, rfl, hw⟩ := DataW.trod_int hu h
      exact ⟨[.sc (.int k m)], by simp [Fit, hu, hw], rfl, fun i d v h1 h2 => by
        match i, h1, h2 with
        | 0, h1, h2 => simp at h1 h2; subst h1 h2; exact .sc _ rfl⟩
    · rename_i hu
      obtain ⟨s, rfl, rfl, hw⟩ := DataW.trod_string hu h
      exact ⟨[.sc (.string s)], by simp only [Fit, hu]; exact ⟨s, rfl, hw⟩, rfl, fun i d v h1 h2 => by
        match i, h1, h2 with
        | 0, h1, h2 => simp at h1 h2; subst h1 h2; exact .sc _ rfl⟩
    · rename_i e hu
      simp only [Bool.and_eq_true, List.contains_iff_mem, decide_eq_true_eq] at hp
      rcases DataW.trod_slice hu h with ⟨rfl, _⟩ | ⟨a, len, cap, elems, rest, n', hn, rfl, rfl, _, hlc, hcm, hel, hget, _, _⟩
      · exact ⟨[.sl (P.cellsOf e) []], by simp only [Fit, hu]; exact ⟨[], rfl, by simp, fun _ h => by simp at h⟩, rfl, fun i d v h1 h2 => by
          match i, h1, h2 with
          | 0, h1, h2 => simp at h1 h2; subst h1 h2; exact .nil _ _ _⟩
      · obtain rfl : n' = n := by omega
        have hrow : ∀ i, i < len → ∃ row cs', Fit P n' e row ∧ DsRel w row cs' ∧ w.cells? 0 (a.add (i * P.cellsOf e)) (P.cellsOf e) = some cs' := fun i hi => by
          have hg := hget i hi
          rw [List.getElem?_eq_getElem (by omega)] at hg
          obtain ⟨cs', h1, h2⟩ := Option.bind_eq_some_iff.1 hg
          obtain ⟨row, q1, q2⟩ := trod_ds hT n' e cs' _ hp.1 h2
          exact ⟨row, cs', q1, q2, h1⟩
        have hch : ∃ f : Nat → List D × List Value, ∀ i, i < len → Fit P n' e (f i).1 ∧ DsRel w (f i).1 (f i).2 ∧ w.cells? 0 (a.add (i * P.cellsOf e)) (P.cellsOf e) = some (f i).2 := by
          classical
          refine ⟨fun i => if hi : i < len then ⟨Classical.choose (hrow i hi), Classical.choose (Classical.choose_spec (hrow i hi))⟩ else ([], []), fun i hi => ?_⟩
          simp only [dif_pos hi]
          exact Classical.choose_spec (Classical.choose_spec (hrow i hi))
        obtain ⟨f, hf⟩ := hch
        have hxl : ((List.range len).map fun i => (f i).1).length = len := by simp
        refine ⟨[.sl (P.cellsOf e) ((List.range len).map fun i => (f i).1)], ?_, rfl, fun i d v h1 h2 => ?_⟩
        · simp only [Fit, hu]
          refine ⟨_, rfl, by rw [hxl]; omega, fun row hr => ?_⟩
          obtain ⟨i, hi, rfl⟩ := List.mem_map.1 hr
          exact (hf i (by simpa using hi)).1
        · match i, h1, h2 with
          | 0, h1, h2 =>
            simp only [List.getElem?_cons_zero, Option.some.injEq] at h1 h2
            subst h1 h2
            by_cases h0 : len = 0
            · subst h0; exact .nil _ _ _
            · obtain ⟨q1, q2, q3⟩ := hf 0 (by omega)
              have q4 := World.cells?_some q3
              have hc0 : ∀ i, i < len → ∀ j, j < P.cellsOf e → w.cell? ((a.add (i * P.cellsOf e)).add j) = (f i).2[j]? := fun i hi j hj => (World.cells?_some (hf i hi).2.2).2.2 j hj
              have hl2 : ∀ i, i < len → (f i).2.length = P.cellsOf e := fun i hi => (World.cells?_some (hf i hi).2.2).2.1
              have hlt : ∀ i, i < len → ∀ j (hj : j < P.cellsOf e), ∃ v, (f i).2[j]? = some v := fun i hi j hj => ⟨_, List.getElem?_eq_getElem (by rw [hl2 i hi]; exact hj)⟩
              have hsp0 : a.spot = none := by
                obtain ⟨v, hv⟩ := hlt 0 (by omega) 0 hp.2
                have := hc0 0 (by omega) 0 hp.2
                rw [hv] at this
                simp only [Nat.zero_mul, Addr.add, if_true] at this
                unfold World.cell? at this
                split at this
                · split at this
                  · cases this
                  · rename_i hs; simpa using hs
                · cases this
              obtain ⟨ab, ao, asp⟩ := a
              obtain rfl : asp = none := hsp0
              have hadd : ∀ i j, ((⟨ab, ao, none⟩ : Addr).add (i * P.cellsOf e)).add j = ⟨ab, ao + i * P.cellsOf e + j, none⟩ := fun i j => by rw [add_off, add_off]
              have hbl : ab < w.heap.size := by
                obtain ⟨v, hv⟩ := hlt 0 (by omega) 0 hp.2
                have := hc0 0 (by omega) 0 hp.2
                rw [hv, hadd] at this
                exact cell_lt this
              have := Rd.sl (w := w) (S := fun _ => True) (P.cellsOf e) ab ao cap ((List.range len).map fun i => (f i).1) (fun i j => (f i).2.getD j undef) trivial hbl (by rw [hxl]; omega)
                (fun j cs hj => by
                  obtain ⟨i, hi, rfl⟩ := List.mem_map.1 (List.mem_of_getElem? hj)
                  have hi' : i < len := by simpa using hi
                  rw [(hf i hi').2.1.1, hl2 i hi'])
                (fun j i hj hi => by
                  rw [hxl] at hj
                  rw [← hadd, hc0 j hj i hi]
                  obtain ⟨v, hv⟩ := hlt j hj i hi
                  simp [List.getD, hv])
                (fun j cs i d hj hi => by
                  have hjl : j < len := by
                    have := (List.getElem?_eq_some_iff.1 hj).1
                    rwa [hxl] at this
                  rw [List.getElem?_map, List.getElem?_range hjl] at hj
                  simp only [Option.map_some, Option.some.injEq] at hj
                  subst hj
                  have hil : i < P.cellsOf e := by
                    have := (List.getElem?_eq_some_iff.1 hi).1
                    rwa [(hf j hjl).2.1.1, hl2 j hjl] at this
                  obtain ⟨v, hv⟩ := hlt j hjl i hil
                  have := (hf j hjl).2.1.2 i d v hi hv
                  simpa [List.getD, hv] using this)
              rw [hxl] at this
              exact this
    · rename_i fs hu
      simp only [Bool.and_eq_true, List.all_eq_true, List.contains_iff_mem, beq_iff_eq] at hp
      obtain ⟨xs, n', hn, rfl, hlen, hxl, hf⟩ := DataW.trod_struct hu h
      obtain rfl : n' = n := by omega
      obtain ⟨ds, q1, q2⟩ := fields_ds (P := P) (w := w) (n := n') (cs := cs) hp.2 hlen fun f hfm => by
        obtain ⟨i, hi⟩ := List.getElem?_of_mem hfm
        have hi' : fs[i]? = some f := by simpa using hi
        have := hf i f hi'
        rw [List.getElem?_eq_getElem (by rw [hxl]; exact (Array.getElem?_eq_some_iff.1 hi').1)] at this
        exact trod_ds hT n' f.type _ _ (hp.1 f hfm) this
      rw [List.drop_zero] at q1
      refine ⟨ds, ?_, q1⟩
      simp only [Fit, hu]
      exact ⟨q1.1.trans hlen, fun f hf => by simpa using (q2 f hf).2⟩
    · cases hp
end
end Go.AE
