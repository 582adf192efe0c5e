/- From a run of the abstract evaluator to the contract of a law: it returns true, and its arguments read as they did. -/
import Derived.Test.YtlaldhmpoggkjaaGreatDoorAeArgs
import Derived.ProofKit
import Derived.OpenShut
import Derived.Below
set_option autoImplicit false
set_option linter.unusedVariables false
set_option linter.unusedSimpArgs false
namespace Go.AE
open Go.ChangeShapes Go.WideShapes Go.ChangeAt Go.RowKit
section
variable {P : Program}

def avOf (P : Program) (t : TypeId) (ds : List D) : AV :=
  match P.underlying t with
  | some (.struct _) => .agg (ds.map .d)
  | _ => match ds with
    | [d] => .d d
    | _ => .un
/-- Arguments shaped as the parameters' types say. -/
def FitAll (P : Program) : List TypeId → List AV → Prop
  | [], [] => True
  | t :: ts, a :: as => (∃ n ds, Fit P n t ds ∧ a = avOf P t ds) ∧ FitAll P ts as
  | _, _ => False

theorem fit_one {n : Nat} {t : TypeId} {ds : List D} {d : TypeDesc} (hu : P.underlying t = some d) (hd : ∀ fs, d ≠ .struct fs) (h : Fit P n t ds) : ∃ x, ds = [x] := by
  cases n with
  | zero => exact h.elim
  | succ n =>
    simp only [Fit, hu] at h
    cases d <;> simp only at h
    all_goals first
      | exact h.elim
      | exact absurd rfl (hd _)
      | (obtain ⟨x, rfl, _⟩ := h; exact ⟨_, rfl⟩)
      | (obtain ⟨x, rfl⟩ := h; exact ⟨_, rfl⟩)
theorem arg_ok {Hh : Type} {enc : TypeId × Value → Hh} {w : World} {sp : Nat → Bool} {hd : Bool} {T : List TypeId} (hT : plainSet P T = true) {t : TypeId} (ht : t ∈ T) {r : Reach} {b0 : Nat} {v : Value} {d : DataW Hh} {ps : List MemPlace}
    (hval : Value.okWide P w r b0 t v) (h : DataW.Trod enc P w 0 sp hd t v d ps) :
    ∃ n ds, Fit P n t ds ∧ VRel κ0 [] w (Stab κ0 [] (fun _ => True)) (avOf P t ds) v := by
  obtain ⟨n, hn⟩ := h
  obtain ⟨ds, hf, hr⟩ := trod_ds hT n t _ _ ht hn
  refine ⟨n, ds, hf, ?_⟩
  have hst : ∀ b, (fun _ : Nat => True) b → Stab κ0 [] (fun _ => True) b := fun b _ => ⟨trivial, fun ⟨k, o, hk, _⟩ => by cases hk⟩
  have hone : ∀ d : TypeDesc, P.underlying t = some d → (∀ fs, d ≠ .struct fs) → v.cells = #[v] → VRel κ0 [] w (Stab κ0 [] (fun _ => True)) (avOf P t ds) v := fun d hu hd hc => by
    obtain ⟨x, rfl⟩ := fit_one hu hd hf
    have hx : avOf P t [x] = .d x := by
      unfold avOf
      rw [hu]
      cases d <;> first | rfl | exact absurd rfl (hd _)
    rw [hx]
    rw [hc] at hr
    exact .d x v ((hr.2 0 x v rfl rfl).mono hst)
  have hp := List.all_eq_true.1 hT t ht
  unfold plainRow at hp
  split at hp
  · rename_i hu
    obtain ⟨b, rfl⟩ := okWide_bool hu hval
    exact hone _ hu (fun _ h => by cases h) rfl
  · rename_i k hu
    obtain ⟨b, rfl⟩ := okWide_int hu hval
    exact hone _ hu (fun _ h => by cases h) rfl
  · rename_i hu
    obtain ⟨b, rfl⟩ := okWide_string hu hval
    exact hone _ hu (fun _ h => by cases h) rfl
  · rename_i e hu
    obtain ⟨a, l, c, rfl⟩ := okWide_slice hu hval
    exact hone _ hu (fun _ h => by cases h) rfl
  · rename_i fs hu
    unfold Value.okWide at hval
    rw [hu] at hval
    obtain ⟨cs, rfl, _, _⟩ := hval
    have hx : avOf P t ds = .agg (ds.map .d) := by unfold avOf; rw [hu]
    rw [hx]
    refine .agg _ _ (by rw [List.length_map, hr.1]; simp [Value.cells]) fun i c v hc hv => ?_
    rw [List.getElem?_map] at hc
    obtain ⟨d, hd, rfl⟩ := Option.map_eq_some_iff.1 hc
    exact .d d v ((hr.2 i d v hd (by simpa [Value.cells] using hv)).mono hst)
  · cases hp
theorem args_ok {Hh : Type} {enc : TypeId × Value → Hh} {w : World} {sp : Nat → Bool} {hd : Bool} {T : List TypeId} (hT : plainSet P T = true) {r : Reach} {b0 : Nat} : ∀ {ts : List TypeId} {vs : List Value} {ds : List (DataW Hh)} {ps : List MemPlace},
    (∀ t ∈ ts, t ∈ T) → (∀ (j : Nat) t v, ts[j]? = some t → vs[j]? = some v → Value.okWide P w r b0 t v) → DataW.TrodAll enc P w 0 sp hd ts vs ds ps →
    ∃ as, FitAll P ts as ∧ VRels κ0 [] w (Stab κ0 [] (fun _ => True)) as vs
  | [], [], [], ps, _, _, h => ⟨[], trivial, VRels.nil⟩
  | t :: ts, v :: vs, d :: ds, ps, ht, hv, h => by
    obtain ⟨p, q, h1, h2, _⟩ := h
    obtain ⟨n, x, q1, q2⟩ := arg_ok hT (ht t (List.mem_cons_self ..)) (hv 0 t v rfl rfl) h1
    obtain ⟨as, r1, r2⟩ := args_ok hT (fun s hs => ht s (List.mem_cons_of_mem _ hs)) (fun j s u hs hu => hv (j + 1) s u hs hu) h2
    exact ⟨avOf P t x :: as, ⟨⟨n, x, q1, rfl⟩, r1⟩, VRels.cons q2 r2⟩
  | [], [], _ :: _, _, _, _, h => h.elim
  | [], _ :: _, _, _, _, _, h => by cases h
  | _ :: _, [], _, _, _, _, h => by cases h
  | _ :: _, _ :: _, [], _, _, _, h => by cases h

/-- What was read before is read again. -/
theorem trodAll_stays {Hh : Type} {enc : TypeId × Value → Hh} (hl : laidOutB P = true) {W W' : World} {sp' : Nat → Bool} : ∀ {ts : List TypeId} {vs : List Value} {ds : List (DataW Hh)} {ps : List MemPlace},
    (∀ t ∈ ts, P.readableRec t = true ∧ t < P.types.size) → DataW.TrodAll enc P W 0 (fun _ => true) true ts vs ds ps → (∀ p ∈ ps, W.sameAt W' p) → (∀ p ∈ ps, sp' p.block = true) → DataW.TrodAll enc P W' 0 sp' true ts vs ds ps
  | [], [], [], ps, _, h, _, _ => h
  | t :: ts, v :: vs, d :: ds, ps, ht, h, hs, hp => by
    obtain ⟨p, q, h1, h2, rfl⟩ := h
    obtain ⟨r1, r2⟩ := ht t (List.mem_cons_self ..)
    exact ⟨p, q, WideElems.Trod_stays hl r1 r2 h1 (fun x hx => hs x (by simp [hx])) (fun x hx => hp x (by simp [hx])),
      trodAll_stays hl (fun s hs => ht s (List.mem_cons_of_mem _ hs)) h2 (fun x hx => hs x (by simp [hx])) (fun x hx => hp x (by simp [hx])), rfl⟩
  | [], [], _ :: _, _, _, h, _, _ => h.elim
  | [], _ :: _, _, _, _, h, _, _ => by cases h
  | _ :: _, [], _, _, _, h, _, _ => by cases h
  | _ :: _, _ :: _, [], _, _, h, _, _ => by cases h

/-- THE CONTRACT OF A LAW: it returns true, whatever its arguments are, by the evaluator. -/
theorem law_contract {C : Cfg} (hI : IntrOk C) (hR : ReadersTold C) {f : FuncId} {fn : Func} {T : List TypeId} {s : ChangeSpec} {ap fr ho ag : Bool}
    (hT : plainSet C.P T = true) (hl : laidOutB C.P = true) (hts : ∀ t ∈ fn.params.toList, t ∈ T ∧ C.P.readableRec t = true ∧ t < C.P.types.size)
    (hbool : C.P.underlying 4 = some .bool) (hres : fn.resultTypes = #[4]) (hi : C.intr f = none) (hvars : s.vars = [])
    (hspec : ∀ (Hh : Type) (ds : List (DataW Hh)), ds.length = fn.params.size → (s.fn Hh (ds ++ [])).results = [.lit (.bool true)] ∧ (s.fn Hh (ds ++ [])).args = ds ∧ (s.fn Hh (ds ++ [])).vars = [])
    (hrun : ∀ as, FitAll C.P fn.params.toList as → ∃ n H', callN C n f as [] = some (.bool true, H'))
    (Hh : Type) (enc : TypeId × Value → Hh) (W : World) (base : Nat) (args : Array Value) (ds gs : List (DataW Hh)) (before : List MemPlace)
    (hval : ∀ (j : Nat) t v, fn.params[j]? = some t → args[j]? = some v → Value.okWide C.P W .any base t v)
    (hW : DataW.Whole enc C.P fn.params.toList s.vars ap W args.toList ds gs before) :
    Calls C.P f args W fun e W' => ∃ v, e = .returned v ∧ s.post enc C.P fn ap fr ho ag W args v W' := by
  have hW' := hW
  obtain ⟨p, q, hA, hV, rfl, hfz, hnd⟩ := hW
  rw [hvars] at hV
  obtain ⟨rfl, rfl⟩ := trodVars_none hV
  obtain ⟨as, hfit, hrel⟩ := args_ok (P := C.P) hT (r := .any) (b0 := base) (fun t ht => (hts t ht).1) (fun j t v hj hv => hval j t v (by simpa using hj) (by simpa using hv)) hA
  obtain ⟨n, H', he⟩ := hrun as hfit
  have hlen : ds.length = fn.params.size := by
    have : ∀ {ts : List TypeId} {vs : List Value} {ds : List (DataW Hh)} {ps : List MemPlace} {sp : Nat → Bool}, DataW.TrodAll enc C.P W 0 sp true ts vs ds ps → ds.length = ts.length := by
      intro ts
      induction ts with
      | nil => intro vs ds ps sp h; cases vs <;> cases ds <;> first | rfl | exact h.elim
      | cons t ts ih =>
        intro vs ds ps sp h
        cases vs with
        | nil => exact h.elim
        | cons v vs =>
          cases ds with
          | nil => exact h.elim
          | cons d ds => obtain ⟨_, _, _, h2, _⟩ := h; simp [ih h2]
    simpa using this hA
  obtain ⟨g1, g2, g3⟩ := hspec Hh ds hlen
  simp only [List.append_nil] at hW'
  have hlt : ∀ x ∈ p, x.block < W.heap.size := fun x hx => hW'.lt x hx
  have hc := call_ok hI hR (f := f) hi he (.empty W fun _ _ => trivial) hrel
  refine Calls.mono (by simpa using hc) fun e W' h => ?_
  cases e with
  | panicked c => exact h.elim
  | outgrown => exact h.elim
  | returned v =>
    obtain ⟨κ', _, hx, _, hr⟩ := h
    obtain rfl := VRel.sc_inv hr
    have hg := grown_of_ext hx
    have hsame : ∀ x ∈ p, W.sameAt W' x := fun x hx' => by
      have hk := hx.keep x.block (hlt x hx') mut_none
      cases x with
      | cell b o => exact cell_same hk
      | map b => exact hk
    refine ⟨_, rfl, post_of_same (pa := p) (pv := []) hW' (fun b sp hd => ?_) (fun sp hsp => ?_) (fun sp _ => ?_) (by simp) (hg.frame _) hg.2.1 (ok_one hres rfl (okWide_bool_mk hbool _))⟩
    · rw [g1, hres]
      exact trodAll_cons_mk (shut_bool hbool _) trodAll_mk0
    · rw [g2]
      exact trodAll_stays hl (fun t ht => (hts t ht).2) hA hsame hsp
    · rw [g3, hvars]
      rfl
end
end Go.AE
