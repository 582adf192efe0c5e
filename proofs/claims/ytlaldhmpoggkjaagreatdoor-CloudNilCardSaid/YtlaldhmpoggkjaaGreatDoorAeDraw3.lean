/- The abstract evaluator: what the check of a region says. -/
import Derived.Test.YtlaldhmpoggkjaaGreatDoorAeDraw2
set_option autoImplicit false
set_option linter.unusedVariables false
set_option linter.unusedSimpArgs false
namespace Go.AE
section
variable {ops : List Oper}

theorem masksFrom_prefix : ∀ (l : List Oper) (ms : List Nat), ∃ r, masksFrom l ms = ms ++ r ∧ r.length = l.length
  | [], ms => ⟨[], by simp [masksFrom], rfl⟩
  | o :: l, ms => by
    obtain ⟨r, h1, h2⟩ := masksFrom_prefix l (ms ++ [maskOf ms o.after.toList 0])
    exact ⟨maskOf ms o.after.toList 0 :: r, by rw [masksFrom, h1]; simp, by simp [h2]⟩
theorem masksFrom_get : ∀ (l : List Oper) (ms : List Nat) (k : Nat) (o : Oper), l[k]? = some o → (masksFrom l ms)[ms.length + k]? = some (maskOf ((masksFrom l ms).take (ms.length + k)) o.after.toList 0)
  | [], ms, k, o, h => by simp at h
  | q :: l, ms, 0, o, h => by
    simp at h
    subst h
    obtain ⟨r, h1, _⟩ := masksFrom_prefix l (ms ++ [maskOf ms q.after.toList 0])
    rw [masksFrom, h1]
    simp
  | q :: l, ms, k + 1, o, h => by
    have := masksFrom_get l (ms ++ [maskOf ms q.after.toList 0]) k o (by simpa using h)
    rw [masksFrom]
    simp only [List.length_append, List.length_cons, List.length_nil, Nat.zero_add] at this
    rw [show ms.length + (k + 1) = ms.length + 1 + k by omega]
    exact this
theorem masks_get {i : Nat} {o : Oper} (h : ops[i]? = some o) : (masks ops)[i]? = some (maskOf ((masks ops).take i) o.after.toList 0) := by
  have := masksFrom_get ops [] i o h
  simpa [masks] using this
theorem maskOf_bit {ms : List Nat} {j : Nat} : ∀ {l : List Edge} {acc : Nat}, (maskOf ms l acc).testBit j = true → acc.testBit j = true ∨ ∃ e ∈ l, Region.binds .any e = true ∧ (j = e.on ∨ ((ms[e.on]?).getD 0).testBit j = true)
  | [], acc, h => .inl h
  | e :: l, acc, h => by
    simp only [maskOf] at h
    rcases maskOf_bit h with h1 | ⟨e', he', h1, h2⟩
    · split at h1
      · rename_i hb
        rw [Nat.testBit_or, Nat.testBit_or, Bool.or_eq_true, Bool.or_eq_true] at h1
        rcases h1 with (h1 | h1) | h1
        · exact .inl h1
        · refine .inr ⟨e, List.mem_cons_self .., hb, .inl ?_⟩
          rw [Nat.testBit_two_pow] at h1
          exact Eq.symm (by simpa using h1)
        · exact .inr ⟨e, List.mem_cons_self .., hb, .inr h1⟩
      · exact .inl h1
    · exact .inr ⟨e', List.mem_cons_of_mem _ he', h1, h2⟩

def Ms (ops : List Oper) (i : Nat) : Nat := ((masks ops)[i]?).getD 0
theorem regionOk_get {ms : List Nat} : ∀ {l : List Oper} {k : Nat}, regionOkGo ops ms k l = true → ∀ i o, l[i]? = some o → opOk ops ms (k + i) o = true
  | [], _, _, i, o, h => by simp at h
  | q :: l, k, h, 0, o, ho => by
    simp only [regionOkGo, Bool.and_eq_true] at h
    simp at ho
    subst ho
    exact h.1
  | q :: l, k, h, i + 1, o, ho => by
    simp only [regionOkGo, Bool.and_eq_true] at h
    have := regionOk_get h.2 i o (by simpa using ho)
    rwa [show k + (i + 1) = k + 1 + i by omega]
theorem opOk_at (h : regionOk ops = true) {i : Nat} {o : Oper} (ho : ops[i]? = some o) : opOk ops (masks ops) i o = true := by
  have := regionOk_get h i o ho
  simpa using this
theorem edge_lt (h : regionOk ops = true) {i : Nat} {o : Oper} (ho : ops[i]? = some o) {e : Edge} (he : e ∈ o.after) (hb : Region.binds .any e = true) : e.on < i := by
  have := opOk_at h ho
  simp only [opOk, Bool.and_eq_true] at this
  have h1 := List.all_eq_true.1 this.1.1.1 e (Array.mem_toList_iff.2 he)
  simpa [hb] using h1
/-- What comes before: every set that is closed has it. -/
theorem mask_closed (h : regionOk ops = true) {L : Nat → Prop} (hL : ∀ i o, ops[i]? = some o → L i → ∀ e ∈ o.after, Region.binds .any e = true → L e.on) :
    ∀ (i : Nat) (o : Oper), ops[i]? = some o → (∀ e ∈ o.after, Region.binds .any e = true → L e.on) → ∀ j, (Ms ops i).testBit j = true → L j := by
  intro i
  induction i using Nat.strongRecOn with
  | _ i ih =>
    intro o ho hr j hj
    unfold Ms at hj
    rw [masks_get ho] at hj
    simp only [Option.getD_some] at hj
    rcases maskOf_bit hj with h1 | ⟨e, he, hb, h1⟩
    · simp at h1
    · have he' : e ∈ o.after := Array.mem_toList_iff.1 he
      have hlt := edge_lt h ho he' hb
      have hLe := hr e he' hb
      rcases h1 with rfl | h1
      · exact hLe
      · rw [List.getElem?_take, if_pos hlt] at h1
        have hil : e.on < ops.length := Nat.lt_trans hlt (List.getElem?_eq_some_iff.1 ho).1
        have hoe := List.getElem?_eq_getElem hil
        exact ih e.on hlt _ hoe (hL _ _ hoe hLe) j h1
theorem mask_lt (h : regionOk ops = true) {i j : Nat} {o : Oper} (ho : ops[i]? = some o) (hj : (Ms ops i).testBit j = true) : j < i := by
  refine mask_closed h (L := fun k => k < i) (fun k q hq hk e he hb => ?_) i o ho (fun e he hb => edge_lt h ho he hb) j hj
  exact Nat.lt_trans (edge_lt h hq he hb) hk
theorem mem_setters {t : Nat} : ∀ {l : List Oper} {k j : Nat}, j ∈ setters t k l ↔ ∃ i o, j = k + i ∧ l[i]? = some o ∧ o.dst = some t
  | [], k, j => by simp [setters]
  | q :: l, k, j => by
    have ih := @mem_setters t l (k + 1) j
    constructor
    · intro h
      simp only [setters] at h
      split at h
      · rename_i hq
        rcases List.mem_cons.1 h with rfl | h
        · exact ⟨0, q, rfl, rfl, hq⟩
        · obtain ⟨i, o, rfl, h1, h2⟩ := ih.1 h
          exact ⟨i + 1, o, by omega, by simpa using h1, h2⟩
      · obtain ⟨i, o, rfl, h1, h2⟩ := ih.1 h
        exact ⟨i + 1, o, by omega, by simpa using h1, h2⟩
    · rintro ⟨i, o, rfl, h1, h2⟩
      simp only [setters]
      cases i with
      | zero =>
        simp at h1
        subst h1
        rw [if_pos h2]
        exact List.mem_cons_self ..
      | succ i =>
        have := ih.2 ⟨i, o, by omega, by simpa using h1, h2⟩
        split
        · exact List.mem_cons_of_mem _ this
        · exact this
theorem looks_setter (h : regionOk ops = true) {i j : Nat} {o q : Oper} (ho : ops[i]? = some o) (hq : ops[j]? = some q) {d : Tmp} (hd : q.dst = some d) (hl : d ∈ o.looksAt ops.toArray) : (Ms ops i).testBit j = true ∨ (Ms ops j).testBit i = true := by
  have := opOk_at h ho
  simp only [opOk, Bool.and_eq_true] at this
  have h1 := List.all_eq_true.1 (List.all_eq_true.1 this.1.2 d hl) j (mem_setters.2 ⟨j, q, by simp, hq, hd⟩)
  simpa [Ms] using h1
theorem dst_one (h : regionOk ops = true) {i j : Nat} {o q : Oper} (ho : ops[i]? = some o) (hq : ops[j]? = some q) {d : Tmp} (hd : o.dst = some d) (hd' : q.dst = some d) : i = j := by
  have := opOk_at h ho
  simp only [opOk, Bool.and_eq_true, hd] at this
  have h1 : setters d 0 ops = [i] := by simpa using this.2
  have h2 : j ∈ setters d 0 ops := mem_setters.2 ⟨j, q, by simp, hq, hd'⟩
  rw [h1] at h2
  exact (List.mem_singleton.1 h2).symm
end
end Go.AE
