/- The abstract evaluator: the operations that only compute, or read. -/
import Derived.Test.YtlaldhmpoggkjaaGreatDoorAeOps
set_option autoImplicit false
set_option linter.unusedVariables false
set_option linter.unusedSimpArgs false
namespace Go.AE

/-- An object as it is made. -/
def ObjIs (κ : Kp) (H : Heap) (w : World) (S : Nat → Prop) (o : AO) (ob : Obj) : Prop :=
  match o with
  | .box ty cs => ∃ vs : Array Value, ob = .cells vs ty (0, 0) ∧ VRels κ H w S cs vs.toList
  | .arr ty sz xs fz => fz = false ∧ ∃ vs : Array Value, ob = .cells vs ty (0, 0) ∧ 0 < sz ∧ (∀ (j : Nat) (cs : List D), xs[j]? = some cs → cs.length = sz) ∧ xs.length * sz ≤ vs.size ∧
      ∀ (j : Nat) (cs : List D) (i : Nat) (d : D) (v : Value), xs[j]? = some cs → cs[i]? = some d → vs[j * sz + i]? = some v → Rd w S d v
  | .mp es => es = [] ∧ ob = .map #[] 0
  | .gone => False
def NewVal (g : Nat) (o : AO) (ob : Obj) (u : Value) : Option Nat → Prop
  | none => match o with
    | .box _ _ => u = .pointer (some ⟨g, 0, none⟩)
    | .mp _ => u = .map (some g)
    | _ => False
  | some len => match o with
    | .box _ _ => u = .slice (some ⟨g, 0, none⟩) len len
    | .arr _ sz xs _ => xs.length = len ∧ ∃ cap, u = .slice (some ⟨g, 0, none⟩) len cap ∧ len ≤ cap ∧ cap ≤ 9223372036854775807 ∧ ∃ vs ty, ob = .cells vs ty (0, 0) ∧ cap * sz = vs.size
    | _ => False

/-- What an operation comes to, told over the heap after its rows are frozen. -/
def PrimOk (P : Program) (κ : Kp) (H : Heap) (w : World) (U : Nat → Prop) (e : Act1) (r : Result Next) : Prop :=
  match e with
  | .ret v => ∃ u, r = .ok (.value u) w ∧ VRel κ H w (Stab κ H U) v u
  | .lit v => ∃ u ob n, r = .ok (.value u) { w with heap := w.heap.push ob, drawn := w.drawn + n } ∧ VRel κ H { w with heap := w.heap.push ob, drawn := w.drawn + n } (Stab κ H U) v u ∧ Plain ob
  | .new o ln => ∃ u ob n, r = .ok (.value u) { w with heap := w.heap.push ob, drawn := w.drawn + n } ∧ ObjIs κ H w (Stab κ H U) o ob ∧ NewVal w.heap.size o ob u ln
  | .wr k o v => ∃ κ' w' u, (r = .ok (.value u) w' ∨ (r = .ok .skip w' ∧ u = undef)) ∧ HRel κ' (H.set k o) w' U ∧ Ext κ H w κ' (H.set k o) w' ∧ VRel κ' (H.set k o) w' (Stab κ' (H.set k o) U) v u ∧ Dead κ H κ' (H.set k o)
  | .call f args => ∃ vals : List Value, r = (callFunc f vals.toArray).run P w ∧ VRels κ H w (Stab κ H U) args vals

section
variable {P : Program} {κ : Kp} {H : Heap} {w : World} {U : Nat → Prop}

theorem ret_inv {v : AV} {e : Eff} (h : ret v = some e) : e = ⟨[], .ret v⟩ := by injection h with h; exact h.symm
theorem bind_inv {α β : Type} {x : Option α} {f : α → Option β} {y : β} (h : x.bind f = some y) : ∃ a, x = some a ∧ f a = some y := by
  cases x with
  | none => cases h
  | some a => exact ⟨a, rfl, h⟩

theorem prim_value {v : AV} {u : Value} {s : Sem Value} (hr : s.run P w = .ok u w) (hv : VRel κ H w (Stab κ H U) v u) :
    PrimOk P κ H w U (.ret v) ((do pure (.value (← s)) : Sem Next).run P w) := ⟨u, by simp [hr], hv⟩

/-! ### Scalars -/
theorem bytes_eq (s : ByteArray) : s.toList = bytes s := Lib.toList_data s
theorem cmpInt_ok {op : BinOp} {x y : Int} {v : Value} (h : cmpInt op x y = some v) : (Op.intCmp op x y).run P w = .ok v w := by
  cases op <;> simp [cmpInt] at h <;> subst h <;> simp [Op.intCmp]
theorem intOp_ok {op : BinOp} {k : IntKind} {x y : Int} {v : Value} (h : intOp op k x y = some v) :
    (match op with
      | .add | .sub | .mul => Op.intArith op k x y
      | .quo | .rem => Op.intDiv op k x y
      | .and | .or | .xor | .andNot => Op.intBits op k x y
      | _ => Op.intCmp op x y).run P w = .ok v w := by
  cases op <;> simp [intOp] at h
  all_goals first
    | (subst h; simp [Op.intArith]; done)
    | (obtain ⟨h0, rfl⟩ := h; simp [Op.intDiv, h0]; done)
    | (subst h; simp [Op.intBits]; done)
    | exact cmpInt_ok (by simpa [cmpInt] using h)
theorem shiftOp_ok {op : BinOp} {k yk : IntKind} {x y : Int} {v : Value} (h : shiftOp op k x y = some v) : (Op.shift op k x yk y).run P w = .ok v w := by
  unfold shiftOp at h
  split at h
  · cases h
  · rename_i hy
    cases op <;> simp at h <;> subst h <;> simp [Op.shift, hy]
theorem strOp_ok {op : BinOp} {x y : ByteArray} {v : Value} (h : strOp op x y = some v) : (Op.stringOp op x y).run P w = .ok v w := by
  have happ : (⟨(bytes x ++ bytes y).toArray⟩ : ByteArray) = x ++ y := by
    apply ByteArray.ext
    rw [ByteArray.data_append]
    apply Array.ext'
    simp [bytes]
  cases op <;> simp only [strOp] at h
  case add =>
    split at h
    · cases h
    · rename_i hn
      injection h with h
      subst h
      have : ¬ ((x.size + y.size : Nat) : Int) > IntKind.i64.max := by simpa [maxI64, IntKind.max, IntKind.signed, IntKind.bits] using hn
      simp only [Op.stringOp, if_neg this, happ]
      rfl
  all_goals first
    | (simp at h; done)
    | (injection h with h; subst h; simp only [← bytes_eq]; rfl)

theorem cmpInt_one {op : BinOp} {x y : Int} {v : Value} (h : cmpInt op x y = some v) : v.oneCell' = true := by
  cases op <;> simp [cmpInt] at h <;> subst h <;> rfl
theorem intOp_one {op : BinOp} {k : IntKind} {x y : Int} {v : Value} (h : intOp op k x y = some v) : v.oneCell' = true := by
  cases op <;> simp [intOp] at h
  all_goals first
    | (subst h; rfl)
    | (obtain ⟨h0, rfl⟩ := h; rfl)
    | exact cmpInt_one h
theorem shiftOp_one {op : BinOp} {k : IntKind} {x y : Int} {v : Value} (h : shiftOp op k x y = some v) : v.oneCell' = true := by
  unfold shiftOp at h
  split at h
  · cases h
  · cases op <;> simp at h <;> subst h <;> rfl
theorem strOp_one {op : BinOp} {x y : ByteArray} {v : Value} (h : strOp op x y = some v) : v.oneCell' = true := by
  cases op <;> simp only [strOp] at h
  case add =>
    split at h
    · cases h
    · injection h with h; subst h; rfl
  all_goals first
    | (simp at h; done)
    | (injection h with h; subst h; rfl)
theorem eqSc_ok {t : TypeId} {x y : Value} {b : Bool} (n : Nat) (h : eqSc P t x y = some b) : (Op.equalIn (n + 1) t x y).run P w = .ok b w := by
  unfold eqSc at h
  split at h
  · rename_i hu; injection h with h; subst h; simp [Op.equalIn, run_underlying hu]
  · rename_i hu
    split at h
    · rename_i hk; injection h with h; subst h; simp [Op.equalIn, run_underlying hu, hk]
    · exact absurd h (by simp)
  · rename_i a b hu; injection h with h; subst h; simp only [← bytes_eq, Op.equalIn, Sem.run_bind, run_underlying hu, Result.andThen_ok, beq_toListBytes]; rfl
  · rename_i hu; injection h with h; subst h; simp [Op.equalIn, run_underlying hu]
  · rename_i hu; injection h with h; subst h; simp [Op.equalIn, run_underlying hu]
  · rename_i hu; injection h with h; subst h; simp [Op.equalIn, run_underlying hu]
  · rename_i hu; injection h with h; subst h; simp [Op.equalIn, run_underlying hu]
  · exact absurd h (by simp)

theorem VRel.sc?_inv {S : Nat → Prop} {x : AV} {v u : Value} (h : x.sc? = some v) (hr : VRel κ H w S x u) : u = v := by
  cases x with
  | d x => cases x with
    | sc y => simp [AV.sc?] at h; subst h; exact hr.sc_inv
    | sl _ _ => simp [AV.sc?] at h
  | _ => simp [AV.sc?] at h

theorem run_part_sc {t : TypeId} {cs : Array Value} {off : Nat} {v : Value} (hu : ∃ d, P.underlying t = some d ∧ (match d with | .struct _ | .array _ _ => true | _ => false) = false) (hc : cs[off]? = some v) :
    (part t cs off).run P w = .ok v w := by
  obtain ⟨d, hd, hn⟩ := hu
  have : (isAgg t).run P w = .ok false w := by
    unfold isAgg
    simp only [Sem.run_bind, run_underlying hd, Result.andThen_ok]
    cases d <;> simp_all
  simp [part, this, hc]
theorem eqSc_under {t : TypeId} {x y : Value} {b : Bool} (h : eqSc P t x y = some b) : ∃ d, P.underlying t = some d ∧ (match d with | .struct _ | .array _ _ => true | _ => false) = false := by
  unfold eqSc at h
  split at h <;> first | (rename_i hu; exact ⟨_, hu, rfl⟩) | exact absurd h (by simp)
theorem sc_at {S : Nat → Prop} {xs : List AV} {vs : List Value} {i : Nat} {a : Value} (hr : VRels κ H w S xs vs) (h : (xs[i]?).bind AV.sc? = some a) : vs[i]? = some a := by
  obtain ⟨x, hx, ha⟩ := bind_inv h
  obtain ⟨v, hv, hr⟩ := hr.get hx
  rw [hv, hr.sc?_inv ha]
theorem eqFields_ok {S : Nat → Prop} {xs ys : List AV} {vs us : Array Value} (n : Nat) (hx : VRels κ H w S xs vs.toList) (hy : VRels κ H w S ys us.toList) :
    ∀ {fs : List Field} {b : Bool}, eqFields P xs ys fs = some b → (Op.eqFields (n + 1) vs us fs).run P w = .ok b w
  | [], b, h => by simp only [eqFields, Option.some.injEq] at h; subst h; simp [Op.eqFields]
  | f :: fs, b, h => by
    simp only [eqFields] at h
    split at h
    · cases h
    rename_i hname
    split at h
    · cases h
    · cases h
    split at h
    · rename_i a c ha hc
      have h1 := sc_at hx ha
      have h2 := sc_at hy hc
      cases he : eqSc P f.type a c with
      | none => simp [he] at h
      | some e =>
        have hp1 := run_part_sc (P := P) (w := w) (eqSc_under he) (show vs[f.offset]? = some a by simpa using h1)
        have hp2 := run_part_sc (P := P) (w := w) (eqSc_under he) (show us[f.offset]? = some c by simpa using h2)
        simp only [he] at h
        simp only [Op.eqFields, Sem.run_bind, Sem.run_ite, ne_eq, hname, not_false_eq_true, if_true, hp1, hp2, Result.andThen_ok, eqSc_ok n he]
        cases e with
        | true => simp only [Bool.not_true, Bool.false_eq_true, if_false]; exact eqFields_ok n hx hy h
        | false => simp at h; subst h; simp
    · cases h
end
end Go.AE
