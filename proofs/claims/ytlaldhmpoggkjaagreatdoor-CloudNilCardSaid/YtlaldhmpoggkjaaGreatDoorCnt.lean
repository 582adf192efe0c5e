import Derived.WalkKit
import Derived.StillTailTactics
import Derived.Test.YtlaldhmpoggkjaaGreatDoorProg
set_option linter.unusedVariables false
set_option linter.unusedSimpArgs false
namespace Go.Proofs
open Go.RowKit
theorem cell_push (w w1 : World) (o : Obj) (k : Nat) (hw : w1 = { w with heap := w.heap.push o, drawn := w.drawn + k }) (a : Addr) (v : Value) (h : w.cell? a = some v) : w1.cell? a = some v := by
  subst hw
  unfold World.cell? at h ⊢
  have hb : a.block < w.heap.size := by
    rcases Nat.lt_or_ge a.block w.heap.size with h' | h'
    · exact h'
    · simp [Array.getElem?_eq_none h'] at h
  have : (w.heap.push o)[a.block]? = w.heap[a.block]? := by rw [Array.getElem?_push]; simp [Nat.ne_of_lt hb]
  simpa [this] using h
set_option maxRecDepth 100000 in
theorem last_walk (w : World) (gr ga q cap : Nat) (hbig : q + 1 ≤ 9223372036854775807) (m0 m1 m2 m3 m4 m5 m6 m7 : Value)
   (h3 : w.cell? ⟨gr, 3, none⟩ = some (.slice (some ⟨ga, 0, none⟩) (q + 1) cap))
   (c0 : w.cell? ⟨ga, q * 8 + 0, none⟩ = some m0) (c1 : w.cell? ⟨ga, q * 8 + 1, none⟩ = some m1) (c2 : w.cell? ⟨ga, q * 8 + 2, none⟩ = some m2) (c3 : w.cell? ⟨ga, q * 8 + 3, none⟩ = some m3)
   (c4 : w.cell? ⟨ga, q * 8 + 4, none⟩ = some m4) (c5 : w.cell? ⟨ga, q * 8 + 5, none⟩ = some m5) (c6 : w.cell? ⟨ga, q * 8 + 6, none⟩ = some m6) (c7 : w.cell? ⟨ga, q * 8 + 7, none⟩ = some m7)
   (h1 : #[m0, m1, m2, m3, m4, m5, m6, m7].all Value.oneCell' = true) :
    Calls Tryz.prog 39 #[.pointer (some ⟨gr, 0, none⟩)] w fun e w' => e = .returned (.agg #[m0, m1, m2, m3, m4, m5, m6, m7]) ∧ ∃ c t, w' = { w with heap := w.heap.push (.cells c t), drawn := w.drawn + 1 } := by
  go_enter Tryz.func39, Tryz.ntmps39
  go_wp2
  go_still_tail 12, (by kernel_rfl)
  generalize hw1 : ({ heap := (w.alloc _).heap, tape := _, drawn := _, os := _, output := _ } : World) = w1
  have k3 := cell_push w w1 _ 1 hw1.symm _ _ h3
  have k0 := cell_push w w1 _ 1 hw1.symm _ _ c0
  have k1 := cell_push w w1 _ 1 hw1.symm _ _ c1
  have k2 := cell_push w w1 _ 1 hw1.symm _ _ c2
  have k4 := cell_push w w1 _ 1 hw1.symm _ _ c4
  have k5 := cell_push w w1 _ 1 hw1.symm _ _ c5
  have k6 := cell_push w w1 _ 1 hw1.symm _ _ c6
  have k7 := cell_push w w1 _ 1 hw1.symm _ _ c7
  have k3' := cell_push w w1 _ 1 hw1.symm _ _ c3
  simp only [Nat.add_zero] at k0
  have hwrap : IntKind.i64.wrap (q : Int) = (q : Int) := by
    simp [IntKind.wrap, IntKind.signed, IntKind.bits]
    omega
  have hge : ¬ ((q : Int) < 0) := by omega
  have hlt : ¬ ((q : Int) + 1 ≤ (q : Int)) := by omega
  have hq0 : (0 : Int) ≤ (q : Int) := by omega
  have hq1 : (q : Int) < ((q + 1 : Nat) : Int) := by omega
  have hadd : (⟨ga, 0, none⟩ : Addr).add (q * 8) = ⟨ga, q * 8, none⟩ := by unfold Addr.add; simp; omega
  have hix : (Instr.indexAt 111 (.slice (some ⟨ga, 0, none⟩) (q + 1) cap) (.int .i64 (q : Int))).run Tryz.prog w1 = .ok (.pointer (some ⟨ga, q * 8, none⟩)) w1 := by
    simp [Instr.indexAt, asIntOf, run_underlying Tryz.underlying111, Tryz.sizeOf75, hadd]
  clear hge hlt
  repeat still_step
  refine wpStill_nil ?_
  have hrow : w1.heap[w.heap.size]? = some (.cells #[.int .i64 0, .int .i64 0, .int .i64 0, .string ⟨#[]⟩, .slice none 0 0, .slice none 0 0, .int .i64 0, .bool false] 75 (0, 0)) := by
    rw [← hw1]; exact Array.getElem?_push_size
  have hst : (Instr.storeAt 75 (.pointer (some ⟨w.heap.size, 0, none⟩)) (.agg #[m0, m1, m2, m3, m4, m5, m6, m7])).run Tryz.prog w1 = .ok () (w1.setRow w.heap.size #[m0, m1, m2, m3, m4, m5, m6, m7]) := by
    have h := run_storeCells_at Tryz.prog w.heap.size 0 75 [m0, m1, m2, m3, m4, m5, m6, m7] 0 _ w1 hrow (by simp) (fun v hv => by
      have := Array.all_eq_true_iff_forall_mem.1 h1 v (by simpa using hv)
      exact this)
    simp only [Instr.storeAt, Instr.sureAddr, storeVar, Sem.run_bind, Sem.run_pure, Result.andThen_ok, Tryz.sizeOf75, Value.cells]
    simpa using h
  have hrow2 := setRow_heap w1 w.heap.size _ #[m0, m1, m2, m3, m4, m5, m6, m7] 75 (0, 0) hrow
  generalize hw2 : w1.setRow w.heap.size #[m0, m1, m2, m3, m4, m5, m6, m7] = w2 at hst hrow2
  have r0 : ∀ j, w2.cell? ⟨w.heap.size, j, none⟩ = (#[m0, m1, m2, m3, m4, m5, m6, m7] : Array Value)[j]? := fun j => by simp [World.cell?, hrow2]
  have q0 := r0 0
  have q1 := r0 1
  have q2 := r0 2
  have q3 := r0 3
  have q4 := r0 4
  have q5 := r0 5
  have q6 := r0 6
  have q7 := r0 7
  simp only [List.getElem?_toArray, List.getElem?_cons_zero, List.getElem?_cons_succ] at q0 q1 q2 q3 q4 q5 q6 q7
  clear r0
  refine wpList_plain rfl fun K2 hK2 => ?_
  have he : ∀ (a : Act) (pos : String) (af : Array Edge), a.eval (.tmp 2) = .pointer (some ⟨w.heap.size, 0, none⟩) → a.eval (.tmp 14) = .agg #[m0, m1, m2, m3, m4, m5, m6, m7] →
      (execOp a.eval { dst := none, op := .store 75 (.tmp 2) (.tmp 14), type := 0, pos := pos, after := af, guard := none }).run Tryz.prog w1 = .ok .skip w2 := by
    intro a pos af e1 e2
    simp only [execOp, e1, e2, Sem.run_bind, hst, Result.andThen_ok, Sem.run_pure]
  unfold Oper.wp
  rw [he _ _ _ rfl rfl]
  refine hK2 _ _ (wpList_nil ?_)
  refine (by assumption : ∀ (a : Act) (w : World), Code.wp Tryz.prog Code.ret _ a w → _) _ _ (wp_ret ?_)
  have hfin : ∃ c t, w2 = { w with heap := w.heap.push (.cells c t), drawn := w.drawn + 1 } := by
    refine ⟨#[m0, m1, m2, m3, m4, m5, m6, m7], 75, ?_⟩
    rw [← hw2, ← hw1]
    simp only [World.setRow, World.alloc]
    congr 1
    apply Array.ext_getElem?
    intro j
    rw [Array.getElem?_modify, Array.getElem?_push, Array.getElem?_push]
    by_cases e : w.heap.size = j
    · subst e; simp
    · have e' : ¬ j = w.heap.size := fun h => e h.symm
      simp [e, e']
  refine ⟨rfl, .agg #[m0, m1, m2, m3, m4, m5, m6, m7], ?_, rfl, hfin⟩
  simp [results, Tryz.results39, asAddr, loadVar, Act.put, Tryz.isAgg75, Tryz.sizeOf75, loadCells, loadCellsFrom, Addr.add_lit, q0, q1, q2, q3, q4, q5, q6, q7]
