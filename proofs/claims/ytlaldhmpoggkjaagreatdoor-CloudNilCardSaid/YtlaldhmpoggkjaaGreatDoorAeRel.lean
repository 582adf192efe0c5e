/- The abstract evaluator: what its values, objects and heaps say of the machine's world; how this lives on from world to world. -/
import Derived.Test.YtlaldhmpoggkjaaGreatDoorAeDef
import Derived.Laws.Sem
set_option autoImplicit false
set_option linter.unusedVariables false
set_option linter.unusedSimpArgs false
namespace Go.AE

/-- The value v reads as x in w; all that is read lies in blocks of S. -/
inductive Rd (w : World) (S : Nat → Prop) : D → Value → Prop
  | sc (v : Value) (h1 : v.oneCell' = true) : Rd w S (.sc v) v
  | nil (sz : Nat) (a : Option Addr) (c : Nat) : Rd w S (.sl sz []) (.slice a 0 c)
  | sl (sz b o c : Nat) (xs : List (List D)) (f : Nat → Nat → Value) (hS : S b) (hb : b < w.heap.size) (hc : xs.length ≤ c)
      (hl : ∀ (j : Nat) (cs : List D), xs[j]? = some cs → cs.length = sz)
      (hcell : ∀ j i, j < xs.length → i < sz → w.cell? ⟨b, o + j * sz + i, none⟩ = some (f j i))
      (hr : ∀ (j : Nat) (cs : List D) (i : Nat) (d : D), xs[j]? = some cs → cs[i]? = some d → Rd w S d (f j i)) :
      Rd w S (.sl sz xs) (.slice (some ⟨b, o, none⟩) xs.length c)

theorem cell_lt {w : World} {a : Addr} {v : Value} (h : w.cell? a = some v) : a.block < w.heap.size := by
  unfold World.cell? at h
  rcases Nat.lt_or_ge a.block w.heap.size with h' | h'
  · exact h'
  · simp [Array.getElem?_eq_none h'] at h
theorem cell_same {w w' : World} {a : Addr} (h : w'.heap[a.block]? = w.heap[a.block]?) : w'.cell? a = w.cell? a := by
  unfold World.cell?; rw [h]

theorem Rd.move {w w' : World} {S S' : Nat → Prop} {x : D} {v : Value} (h : Rd w S x v) (hsz : w.heap.size ≤ w'.heap.size)
    (hw : ∀ b, S b → b < w.heap.size → w'.heap[b]? = w.heap[b]?) (hS : ∀ b, S b → b < w.heap.size → S' b) : Rd w' S' x v := by
  induction h with
  | sc v h1 => exact .sc v h1
  | nil sz a c => exact .nil sz a c
  | sl sz b o c xs f hb hbl hc hl hcell hr ih =>
    exact .sl sz b o c xs f (hS b hb hbl) (Nat.lt_of_lt_of_le hbl hsz) hc hl (fun j i hj hi => by rw [cell_same (hw b hb hbl)]; exact hcell j i hj hi) (fun j cs i d hj hi => ih j cs i d hj hi)
theorem Rd.mono {w : World} {S S' : Nat → Prop} {x : D} {v : Value} (h : Rd w S x v) (hS : ∀ b, S b → S' b) : Rd w S' x v :=
  h.move (Nat.le_refl _) (fun _ _ _ => rfl) (fun b hb _ => hS b hb)

/-! ### The heap and the world -/
abbrev Kp := Nat → Option Nat
def AO.mut : AO → Bool
  | .box _ _ | .mp _ => true
  | .arr _ _ _ fz => !fz
  | .gone => false
/-- Blocks that may change. -/
def Mut (κ : Kp) (H : Heap) (b : Nat) : Prop := ∃ k o, κ k = some b ∧ H[k]? = some o ∧ o.mut = true
/-- Blocks that stay as they are. -/
def Stab (κ : Kp) (H : Heap) (U : Nat → Prop) (b : Nat) : Prop := U b ∧ ¬ Mut κ H b

def RowIs (κ : Kp) (w : World) (k sz len : Nat) (v : Value) : Prop :=
  (len = 0 ∧ v = .slice none 0 0 ∧ κ k = none) ∨
  ∃ g cap e n, κ k = some g ∧ v = .slice (some ⟨g, 0, none⟩) len cap ∧ len ≤ cap ∧ cap ≤ 9223372036854775807 ∧ w.shape? g = some (e, n) ∧ cap * sz = n

inductive VRel (κ : Kp) (H : Heap) (w : World) (S : Nat → Prop) : AV → Value → Prop
  | d (x : D) (v : Value) (h : Rd w S x v) : VRel κ H w S (.d x) v
  | ptr (k off g : Nat) (ty : TypeId) (cs : List AV) (hk : κ k = some g) (ho : H[k]? = some (.box ty cs)) : VRel κ H w S (.ptr k off) (.pointer (some ⟨g, off, none⟩))
  | ap (k len i off g : Nat) (ty : TypeId) (sz : Nat) (xs : List (List D)) (fz : Bool) (ho : H[k]? = some (.arr ty sz xs fz)) (hl : len ≤ xs.length)
      (hv : xs.length = len → κ k = some g) : VRel κ H w S (.ap k len i off) (.pointer (some ⟨g, i * sz + off, none⟩))
  | dp (b o : Nat) (cs : List D) (f : Nat → Value) (hS : S b) (hb : b < w.heap.size) (hcell : ∀ i, i < cs.length → w.cell? ⟨b, o + i, none⟩ = some (f i))
      (hr : ∀ (i : Nat) (d : D), cs[i]? = some d → Rd w S d (f i)) : VRel κ H w S (.dp cs) (.pointer (some ⟨b, o, none⟩))
  | osl (k len : Nat) (a : Option Addr) (c : Nat) (ty : TypeId) (sz : Nat) (xs : List (List D)) (fz : Bool) (ho : H[k]? = some (.arr ty sz xs fz)) (hl : len ≤ xs.length)
      (hv : xs.length = len → RowIs κ w k sz len (.slice a len c)) : VRel κ H w S (.osl k len) (.slice a len c)
  | csl (sz : Nat) (xs : List (List D)) (a : Option Addr) (n : Nat) (h : Rd w S (.sl sz xs) (.slice a n n)) : VRel κ H w S (.csl sz xs) (.slice a n n)
  | bsl (k len g : Nat) (ty : TypeId) (cs : List AV) (hk : κ k = some g) (ho : H[k]? = some (.box ty cs)) : VRel κ H w S (.bsl k len) (.slice (some ⟨g, 0, none⟩) len len)
  | mp (k g : Nat) (es : List (Value × AV)) (hk : κ k = some g) (ho : H[k]? = some (.mp es)) : VRel κ H w S (.mp k) (.map (some g))
  | agg (cs : List AV) (vs : Array Value) (hl : cs.length = vs.size) (h : ∀ (i : Nat) (c : AV) (v : Value), cs[i]? = some c → vs[i]? = some v → VRel κ H w S c v) : VRel κ H w S (.agg cs) (.agg vs)
  | tup (cs : List AV) (vs : Array Value) (hl : cs.length = vs.size) (h : ∀ (i : Nat) (c : AV) (v : Value), cs[i]? = some c → vs[i]? = some v → VRel κ H w S c v) : VRel κ H w S (.tup cs) (.tuple vs)
  | fn (f : FuncId) (cs : List AV) (vs : Array Value) (hl : cs.length = vs.size) (h : ∀ (i : Nat) (c : AV) (v : Value), cs[i]? = some c → vs[i]? = some v → VRel κ H w S c v) : VRel κ H w S (.fn f cs) (.func (.func f) #[] vs)
  | un : VRel κ H w S .un Go.undef

/-- Entries of a map: when each was laid. -/
def BornOk (ents : Array MapEntry) (clock : Nat) : Prop := (∀ x ∈ ents.toList, x.born < clock) ∧ (ents.toList.map (·.born)).Nodup
/-- Lists of values, one by one. -/
def VRels (κ : Kp) (H : Heap) (w : World) (S : Nat → Prop) (cs : List AV) (vs : List Value) : Prop :=
  cs.length = vs.length ∧ ∀ (i : Nat) (c : AV) (v : Value), cs[i]? = some c → vs[i]? = some v → VRel κ H w S c v

def ORel (κ : Kp) (H : Heap) (w : World) (S : Nat → Prop) (o : AO) (g : Nat) : Prop :=
  match o with
  | .box ty cs => ∃ vs : Array Value, w.heap[g]? = some (.cells vs ty (0, 0)) ∧ VRels κ H w S cs vs.toList
  | .arr ty sz xs _ => ∃ vs : Array Value, w.heap[g]? = some (.cells vs ty (0, 0)) ∧ 0 < sz ∧ (∀ (j : Nat) (cs : List D), xs[j]? = some cs → cs.length = sz) ∧ xs.length * sz ≤ vs.size ∧
      ∀ (j : Nat) (cs : List D) (i : Nat) (d : D) (v : Value), xs[j]? = some cs → cs[i]? = some d → vs[j * sz + i]? = some v → Rd w S d v
  | .mp es => ∃ (ents : Array MapEntry) (clock : Nat), w.heap[g]? = some (.map ents clock) ∧ BornOk ents clock ∧ es.length = ents.size ∧
      ∀ (i : Nat) (e : Value × AV) (m : MapEntry), es[i]? = some e → ents[i]? = some m → m.key = e.1 ∧ VRel κ H w S e.2 m.val
  | .gone => True

structure HRel (κ : Kp) (H : Heap) (w : World) (U : Nat → Prop) : Prop where
  dom : ∀ k g, κ k = some g → k < H.length
  lt : ∀ k g, κ k = some g → g < w.heap.size
  inU : ∀ k g, κ k = some g → U g
  newU : ∀ b, w.heap.size ≤ b → U b
  inj : ∀ k k' g, κ k = some g → κ k' = some g → k = k'
  obj : ∀ k g o, κ k = some g → H[k]? = some o → ORel κ H w (Stab κ H U) o g

/-- What an object may become. -/
def AO.later : AO → AO → Prop
  | .box ty cs, o => ∃ cs', o = .box ty cs' ∧ cs'.length = cs.length
  | .arr ty sz xs fz, o => ∃ xs' fz', o = .arr ty sz xs' fz' ∧ xs.length ≤ xs'.length ∧ (fz = true → fz' = true ∧ xs' = xs)
  | .mp _, o => ∃ es', o = .mp es'
  | .gone, o => o = .gone
theorem AO.later.refl (o : AO) : o.later o := by
  cases o with
  | box ty cs => exact ⟨cs, rfl, rfl⟩
  | arr ty sz xs fz => exact ⟨xs, fz, rfl, Nat.le_refl _, fun h => ⟨h, rfl⟩⟩
  | mp es => exact ⟨es, rfl⟩
  | gone => rfl
theorem AO.later.trans {a b c : AO} (h : a.later b) (k : b.later c) : a.later c := by
  cases a with
  | box ty cs =>
    obtain ⟨cs', rfl, h1⟩ := h
    obtain ⟨cs'', rfl, h2⟩ := k
    exact ⟨cs'', rfl, h2.trans h1⟩
  | arr ty sz xs fz =>
    obtain ⟨xs', fz', rfl, h1, h2⟩ := h
    obtain ⟨xs'', fz'', rfl, h3, h4⟩ := k
    refine ⟨xs'', fz'', rfl, Nat.le_trans h1 h3, fun hf => ?_⟩
    obtain ⟨h5, h6⟩ := h2 hf
    obtain ⟨h7, h8⟩ := h4 h5
    exact ⟨h7, h8.trans h6⟩
  | mp es =>
    obtain ⟨es', rfl⟩ := h
    obtain ⟨es'', rfl⟩ := k
    exact ⟨es'', rfl⟩
  | gone =>
    obtain rfl := h
    obtain rfl := k
    rfl
theorem AO.later.mut {a b : AO} (h : a.later b) (hb : b.mut = true) : a.mut = true := by
  cases a with
  | box ty cs => rfl
  | arr ty sz xs fz =>
    obtain ⟨xs', fz', rfl, _, h2⟩ := h
    cases fz with
    | false => rfl
    | true => rw [(h2 rfl).1] at hb; cases hb
  | mp es => rfl
  | gone => obtain rfl := h; cases hb

/-- The world and the heap, later on. -/
structure Ext (κ : Kp) (H : Heap) (w : World) (κ' : Kp) (H' : Heap) (w' : World) : Prop where
  os : w'.os = w.os
  tape : w'.tape = w.tape
  output : w'.output = w.output
  size : w.heap.size ≤ w'.heap.size
  keep : ∀ b, b < w.heap.size → ¬ Mut κ H b → w'.heap[b]? = w.heap[b]?
  shape : ∀ b, b < w.heap.size → w'.shape? b = w.shape? b
  len : H.length ≤ H'.length
  objs : ∀ (k : Nat) (o : AO), H[k]? = some o → ∃ o', H'[k]? = some o' ∧ o.later o'
  old : ∀ (k g : Nat) (o : AO), κ k = some g → H[k]? = some o → (∀ ty sz xs fz, o ≠ .arr ty sz xs fz) → κ' k = some g
  oldA : ∀ (k : Nat) (ty : TypeId) (sz : Nat) (xs : List (List D)) (fz : Bool) (xs' : List (List D)) (fz' : Bool), H[k]? = some (.arr ty sz xs fz) → H'[k]? = some (.arr ty sz xs' fz') → xs'.length = xs.length → κ' k = κ k
  new : ∀ k g, κ' k = some g → κ k = some g ∨ w.heap.size ≤ g
  frz : ∀ a, w'.frozen? a = w.frozen? a

section
variable {κ κ' κ'' : Kp} {H H' H'' : Heap} {w w' w'' : World} {U : Nat → Prop}

theorem Ext.refl (κ : Kp) (H : Heap) (w : World) : Ext κ H w κ H w where
  os := rfl
  tape := rfl
  output := rfl
  size := Nat.le_refl _
  keep := fun _ _ _ => rfl
  shape := fun _ _ => rfl
  len := Nat.le_refl _
  objs := fun k o h => ⟨o, h, .refl o⟩
  old := fun _ _ _ h _ _ => h
  oldA := fun _ _ _ _ _ _ _ _ _ _ => rfl
  new := fun _ _ h => .inl h
  frz := fun _ => rfl

theorem Mut.back (he : Ext κ H w κ' H' w') (hd : ∀ k g, κ k = some g → k < H.length) {b : Nat} (hb : b < w.heap.size) (h : Mut κ' H' b) : Mut κ H b := by
  obtain ⟨k, o', hk, ho', hm⟩ := h
  rcases he.new k b hk with h0 | h0
  · have hlt := hd k b h0
    obtain ⟨o'', ho'', hl⟩ := he.objs k _ (List.getElem?_eq_getElem hlt)
    rw [ho'] at ho''
    injection ho'' with ho''
    subst ho''
    exact ⟨k, _, h0, List.getElem?_eq_getElem hlt, hl.mut hm⟩
  · omega
theorem Stab.on (he : Ext κ H w κ' H' w') (hd : ∀ k g, κ k = some g → k < H.length) {b : Nat} (hb : b < w.heap.size) (h : Stab κ H U b) : Stab κ' H' U b :=
  ⟨h.1, fun hm => h.2 (hm.back he hd hb)⟩

theorem Ext.trans (h : Ext κ H w κ' H' w') (k : Ext κ' H' w' κ'' H'' w'') (hd : ∀ k g, κ k = some g → k < H.length) : Ext κ H w κ'' H'' w'' where
  os := k.os.trans h.os
  tape := k.tape.trans h.tape
  output := k.output.trans h.output
  size := Nat.le_trans h.size k.size
  keep := fun b hb hm => (k.keep b (Nat.lt_of_lt_of_le hb h.size) (fun hm' => hm (hm'.back h hd hb))).trans (h.keep b hb hm)
  shape := fun b hb => (k.shape b (Nat.lt_of_lt_of_le hb h.size)).trans (h.shape b hb)
  len := Nat.le_trans h.len k.len
  objs := fun i o ho => by
    obtain ⟨o', ho', hl⟩ := h.objs i o ho
    obtain ⟨o'', ho'', hl'⟩ := k.objs i o' ho'
    exact ⟨o'', ho'', hl.trans hl'⟩
  old := fun i g o hk ho hn => by
    obtain ⟨o', ho', hl⟩ := h.objs i o ho
    refine k.old i g o' (h.old i g o hk ho hn) ho' ?_
    rintro ty sz xs fz rfl
    cases o with
    | box ty cs => obtain ⟨_, he, _⟩ := hl; cases he
    | arr ty sz xs fz => exact hn _ _ _ _ rfl
    | mp es => obtain ⟨_, he⟩ := hl; cases he
    | gone => cases hl
  oldA := fun i ty sz xs fz xs'' fz'' ho ho'' hlen => by
    obtain ⟨o', ho', hl⟩ := h.objs i _ ho
    obtain ⟨xs', fz', rfl, h1, h2⟩ := hl
    obtain ⟨o3, ho3, hl3⟩ := k.objs i _ ho'
    rw [ho''] at ho3
    injection ho3 with ho3
    subst ho3
    obtain ⟨_, _, he, h3, _⟩ := hl3
    injection he with _ _ he _
    subst he
    exact (k.oldA i ty sz xs' fz' xs'' fz'' ho' ho'' (by omega)).trans (h.oldA i ty sz xs fz xs' fz' ho ho' (by omega))
  new := fun i g hk => by
    rcases k.new i g hk with h1 | h1
    · exact h.new i g h1
    · exact .inr (Nat.le_trans h.size h1)
  frz := fun a => (k.frz a).trans (h.frz a)

theorem RowIs.on (he : Ext κ H w κ' H' w') (hlt : ∀ k g, κ k = some g → g < w.heap.size) {k sz len : Nat} {v : Value} (hk : κ' k = κ k) (h : RowIs κ w k sz len v) : RowIs κ' w' k sz len v := by
  rcases h with ⟨h1, h2, h3⟩ | ⟨g, cap, e, n, h1, h2, h3, h6, h4, h5⟩
  · exact .inl ⟨h1, h2, hk.trans h3⟩
  · exact .inr ⟨g, cap, e, n, hk.trans h1, h2, h3, h6, (he.shape g (hlt k g h1)).trans h4, h5⟩

theorem VRel.on (he : Ext κ H w κ' H' w') (hd : ∀ k g, κ k = some g → k < H.length) (hlt : ∀ k g, κ k = some g → g < w.heap.size) {x : AV} {v : Value}
    (h : VRel κ H w (Stab κ H U) x v) : VRel κ' H' w' (Stab κ' H' U) x v := by
  have hS : ∀ b, Stab κ H U b → b < w.heap.size → Stab κ' H' U b := fun b h hb => h.on he hd hb
  have hw : ∀ b, Stab κ H U b → b < w.heap.size → w'.heap[b]? = w.heap[b]? := fun b h hb => he.keep b hb h.2
  induction h with
  | d x v h => exact .d x v (h.move he.size hw hS)
  | ptr k off g ty cs hk ho =>
    obtain ⟨o', ho', cs', rfl, _⟩ := he.objs k _ ho
    exact .ptr k off g ty cs' (he.old k g _ hk ho (by intros; simp)) ho'
  | ap k len i off g ty sz xs fz ho hl hv =>
    obtain ⟨o', ho', xs', fz', rfl, h1, h2⟩ := he.objs k _ ho
    exact .ap k len i off g ty sz xs' fz' ho' (Nat.le_trans hl h1) fun hlen => (he.oldA k ty sz xs fz xs' fz' ho ho' (by omega)).trans (hv (by omega))
  | dp b o cs f hb hbl hcell hr =>
    exact .dp b o cs f (hS b hb hbl) (Nat.lt_of_lt_of_le hbl he.size) (fun i hi => by rw [cell_same (hw b hb hbl)]; exact hcell i hi) (fun i d hi => (hr i d hi).move he.size hw hS)
  | osl k len a c ty sz xs fz ho hl hv =>
    obtain ⟨o', ho', xs', fz', rfl, h1, h2⟩ := he.objs k _ ho
    refine .osl k len a c ty sz xs' fz' ho' (Nat.le_trans hl h1) fun hlen => ?_
    exact (hv (by omega)).on he hlt (he.oldA k ty sz xs fz xs' fz' ho ho' (by omega))
  | csl sz xs a n h => exact .csl sz xs a n (h.move he.size hw hS)
  | bsl k len g ty cs hk ho =>
    obtain ⟨o', ho', cs', rfl, _⟩ := he.objs k _ ho
    exact .bsl k len g ty cs' (he.old k g _ hk ho (by intros; simp)) ho'
  | mp k g es hk ho =>
    obtain ⟨o', ho', es', rfl⟩ := he.objs k _ ho
    exact .mp k g es' (he.old k g _ hk ho (by intros; simp)) ho'
  | agg cs vs hl h ih => exact .agg cs vs hl fun i c v hc hv => ih i c v hc hv
  | tup cs vs hl h ih => exact .tup cs vs hl fun i c v hc hv => ih i c v hc hv
  | fn f cs vs hl h ih => exact .fn f cs vs hl fun i c v hc hv => ih i c v hc hv
  | un => exact .un
theorem VRels.on (he : Ext κ H w κ' H' w') (hd : ∀ k g, κ k = some g → k < H.length) (hlt : ∀ k g, κ k = some g → g < w.heap.size) {xs : List AV} {vs : List Value}
    (h : VRels κ H w (Stab κ H U) xs vs) : VRels κ' H' w' (Stab κ' H' U) xs vs := ⟨h.1, fun i c v hc hv => (h.2 i c v hc hv).on he hd hlt⟩
/-- An object whose block has not been touched. -/
theorem ORel.on (he : Ext κ H w κ' H' w') (hd : ∀ k g, κ k = some g → k < H.length) (hlt : ∀ k g, κ k = some g → g < w.heap.size) {o : AO} {g : Nat}
    (h : ORel κ H w (Stab κ H U) o g) (hg : w'.heap[g]? = w.heap[g]?) : ORel κ' H' w' (Stab κ' H' U) o g := by
  cases o with
  | box ty cs =>
    obtain ⟨vs, h1, h2⟩ := h
    exact ⟨vs, hg.trans h1, h2.on he hd hlt⟩
  | arr ty sz xs fz =>
    obtain ⟨vs, h1, h2, h3, h4, h5⟩ := h
    exact ⟨vs, hg.trans h1, h2, h3, h4, fun j cs i d v hj hi hv => (h5 j cs i d v hj hi hv).move he.size (fun b hb hbl => he.keep b hbl hb.2) (fun b hb hbl => hb.on he hd hbl)⟩
  | mp es =>
    obtain ⟨ents, clock, h1, hb, h2, h3⟩ := h
    exact ⟨ents, clock, hg.trans h1, hb, h2, fun i e m hi hm => ⟨(h3 i e m hi hm).1, (h3 i e m hi hm).2.on he hd hlt⟩⟩
  | gone => trivial
end
end Go.AE
