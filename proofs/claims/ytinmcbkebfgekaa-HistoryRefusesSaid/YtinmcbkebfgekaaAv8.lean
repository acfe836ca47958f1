/-
  OWN TEXT. Each operation of the program does what 'act' says: one by one.
-/
import Derived.Test.YtinmcbkebfgekaaAv7
set_option linter.all false
set_option linter.unusedVariables false
set_option linter.unusedSimpArgs false
namespace Go.Av
variable {σ : Type}

theorem wp_value {P : Program} {o : Oper} {a : Act} {w w' : World} {v : Value} {K : Act → World → Prop} {Q : Exit → Act → World → Prop} (hr : (execOp a.eval o).run P w = .ok (.value v) w') (h : K (a.put o.dst v) w') : o.wp P a w K Q := by
  unfold Oper.wp
  rw [hr]
  exact h
theorem wp_skip' {P : Program} {o : Oper} {a : Act} {w w' : World} {K : Act → World → Prop} {Q : Exit → Act → World → Prop} (hr : (execOp a.eval o).run P w = .ok .skip w') (h : K (a.put o.dst undef) w') : o.wp P a w K Q := by
  unfold Oper.wp
  rw [hr]
  exact h
theorem R_undef (k : K) : R k undefA undef := by
  unfold undefA undef
  simp only [R]
  exact ⟨#[], rfl, by simp [Rt]⟩

/-- What is owed for an operation. -/
def Sim (P : Program) (c : Cx σ) (st' : St σ) (x : AV) (o : Oper) (a : Act) (w : World) (ob : Nat → Value → Prop) : Prop :=
  ∀ (K : Act → World → Prop) (Q : Exit → Act → World → Prop), (∀ v w' ow' τ', FR c st' a w' ow' τ' ob → R (Kof c st' w' ow' τ' ob) x v → K (a.put o.dst v) w') → o.wp P a w K Q

section
variable {P : Program} {T : List Nat} {Φ : Orc} {d : Nat} {c : Cx σ} {st st' : St σ} {x : AV} {a : Act} {w : World} {ow : Nat → Own} {τ : Nat → Nat} {ob : Nat → Value → Prop}
  {dst : Option Nat} {type : TypeId} {pos : String} {after : Array Edge} {guard : Option (Nat × Bool)}

theorem sim_same (h : FR c st a w ow τ ob) {o : Oper} {v : Value} (hr : (execOp a.eval o).run P w = .ok (.value v) w) (hx : R (Kof c st w ow τ ob) x v) : Sim P c st x o a w ob :=
  fun K Q hK => wp_value hr (hK v w ow τ h hx)

theorem sim_mov (h : FR c st a w ow τ ob) {y : Operand} {op : Op} (hop : op = .move y ∨ op = .assign y) (ha : act Φ d st (.mov y) = some (x, st')) : Sim P c st' x ⟨dst, op, type, pos, after, guard⟩ a w ob := by
  simp only [act, Option.some.injEq, Prod.mk.injEq] at ha
  obtain ⟨rfl, rfl⟩ := ha
  rcases hop with rfl | rfl <;> exact sim_same h rfl (R_ev h y)

theorem sim_pick (h : FR c st a w ow τ ob) {y z u : Operand} (ha : act Φ d st (.pick y z u) = some (x, st')) : Sim P c st' x ⟨dst, .pick y z u, type, pos, after, guard⟩ a w ob := by
  simp only [act] at ha
  have hy := R_ev h y
  split at ha
  · rename_i t e
    rw [e] at hy
    simp only [R] at hy
    simp only [Option.some.injEq, Prod.mk.injEq] at ha
    obtain ⟨rfl, rfl⟩ := ha
    refine sim_same h (v := if t then a.eval z else a.eval u) (by cases t <;> simp [execOp, hy.1, asBool]) ?_
    cases t
    · exact R_ev h u
    · exact R_ev h z
  · cases ha

theorem sim_box (h : FR c st a w ow τ ob) {t : TypeId} {y : Operand} (ha : act Φ d st (.box y) = some (x, st')) : Sim P c st' x ⟨dst, .box t y, type, pos, after, guard⟩ a w ob := by
  simp only [act] at ha
  split at ha
  · rename_i cs e
    simp only [Option.some.injEq, Prod.mk.injEq] at ha
    obtain ⟨rfl, rfl⟩ := ha
    obtain ⟨h1, h2⟩ := h.newVar d t (R_cells (R_ev h y) e)
    intro K Q hK
    refine wp_value (v := .pointer (some ⟨w.heap.size, 0, none⟩)) (w' := w.alloc (.cells (a.eval y).cells.toList.toArray t)) ?_ (hK _ _ _ _ h1 h2)
    simp [execOp, Instr.box, newVar, newRow]
  · cases ha

theorem sim_alloc (h : FR c st a w ow τ ob) {t : TypeId} {i : TypeInfo} {z : Value} (hi : P.info? t = some i) (hz : i.zero = some z) (h1 : z.cells.toList.all (·.oneCell') = true) (ha : act Φ d st (.alloc z.cells.toList) = some (x, st')) :
    Sim P c st' x ⟨dst, .alloc t, type, pos, after, guard⟩ a w ob := by
  simp only [act, Option.some.injEq, Prod.mk.injEq] at ha
  obtain ⟨rfl, rfl⟩ := ha
  obtain ⟨h1, h2⟩ := h.newVar d t (Rs_imm (List.all_eq_true.1 h1))
  intro K Q hK
  refine wp_value (v := .pointer (some ⟨w.heap.size, 0, none⟩)) (w' := w.alloc (.cells z.cells.toList.toArray t)) ?_ (hK _ _ _ _ h1 h2)
  simp [execOp, Instr.alloc, newVar, newRow, run_zeroValue' hi hz]

/-- A pointer into a variable, and its cells. -/
theorem ptr_cells (h : FR c st a w ow τ ob) {d' g off : Nat} {v : Value} (hp : R (Kof c st w ow τ ob) (.ptr d' g off) v) (hg : g = st.gen d') :
    ∃ b cs T, v = .pointer (some ⟨b, off, none⟩) ∧ c.base ≤ b ∧ ow b = .var d' ∧ w.heap[b]? = some (.cells cs T (0, 0)) ∧ (∀ u ∈ cs.toList, u.oneCell' = true) ∧ Rs (Kof c st w ow τ ob) (st.var d') (cs.toList.take (st.var d').length) := by
  simp only [R] at hp
  obtain ⟨_, _, hb⟩ := hp
  obtain ⟨b, hb, e⟩ := hb hg
  obtain ⟨cs, T, hc, _, h1, hr⟩ := var_block h hb
  exact ⟨b, cs, T, e, hb.1, hb.2.1, hc, h1, hr⟩
theorem cell_of_heap {b : Nat} {cs : Array Value} {T : TypeId} {fr : Nat × Nat} (hc : w.heap[b]? = some (.cells cs T fr)) (j : Nat) : w.cell? ⟨b, j, none⟩ = cs[j]? := by simp [World.cell?, hc]

theorem var_cells {b : Nat} {cs : Array Value} {T : TypeId} {fr : Nat × Nat} (hc : w.heap[b]? = some (.cells cs T fr)) {m off n : Nat} : ∀ (j : Nat) (v : Value), (((cs.toList.take m).drop off).take n)[j]? = some v → w.cell? ⟨b, off + j, none⟩ = some v := by
  intro j v hj
  rw [cell_of_heap hc]
  rw [List.getElem?_take] at hj
  split at hj
  · rw [List.getElem?_drop, List.getElem?_take] at hj
    split at hj
    · simpa using hj
    · cases hj
  · cases hj
theorem splice_take {α : Type} {l xs : List α} {off m : Nat} (h : off + xs.length ≤ m) (hm : m ≤ l.length) : (splice l off xs).take m = splice (l.take m) off xs := by
  unfold splice
  apply List.ext_getElem?
  intro k
  simp only [List.getElem?_take, List.getElem?_append, List.length_append, List.length_take, List.getElem?_drop]
  grind
theorem sim_load (h : FR c st a w ow τ ob) {t : TypeId} {y : Operand} {i : TypeInfo} {ds : TypeDesc} (hi : P.info? t = some i) (hu : P.underlying t = some ds) (h1 : (isAggB P t || i.size == 1) = true) (ha : act Φ d st (.load (isAggB P t) i.size y) = some (x, st')) :
    Sim P c st' x ⟨dst, .load t y, type, pos, after, guard⟩ a w ob := by
  simp only [act] at ha
  have hy := R_ev h y
  split at ha
  · rename_i d' g off e
    rw [e] at hy
    split at ha
    · rename_i hc
      obtain ⟨hg, _, hl⟩ := hc
      obtain ⟨x', hm, hx⟩ := Option.map_eq_some_iff.1 ha
      simp only [Prod.mk.injEq] at hx
      obtain ⟨rfl, rfl⟩ := hx
      obtain ⟨b, cs, T', hv, hb, hvar, hheap, _, hr⟩ := ptr_cells h hy hg
      have hlen := Rs_length hr
      have hr' := Rs_take i.size (Rs_drop off hr)
      refine sim_same h (v := ofCells (isAggB P t) (((cs.toList.take (st.var d').length).drop off).take i.size)) ?_ (R_mk hm hr')
      have := run_loadVar' (w := w) hi hu h1 (b := b) (o := off) (vs := ((cs.toList.take (st.var d').length).drop off).take i.size) (by simp at hlen ⊢; omega) (var_cells hheap)
      simp [execOp, Instr.loadAt, hv, Instr.sureAddr, this]
    · cases ha
  · rename_i cs off e
    rw [e] at hy
    split at ha
    · rename_i hl
      obtain ⟨x', hm, hx⟩ := Option.map_eq_some_iff.1 ha
      simp only [Prod.mk.injEq] at hx
      obtain ⟨rfl, rfl⟩ := hx
      simp only [R] at hy
      obtain ⟨b, q, hv, hrow⟩ := hy
      have hd := rowAt_take i.size (rowAt_drop off hrow)
      obtain ⟨vs, hvs, hcells⟩ := rowAt_vals hd
      have hlen := Rs_length hvs
      refine sim_same h (v := ofCells (isAggB P t) vs) ?_ (R_mono (KLe.of_pure (KLe.refl _)) _ _ (R_mk hm hvs))
      have := run_loadVar' (w := w) hi hu h1 (b := b) (o := q + off) (vs := vs) (by rw [hlen]; simp; omega) (fun j v hj => (hcells j v hj).2.1)
      simp [execOp, Instr.loadAt, hv, Instr.sureAddr, this]
    · cases ha
  · cases ha

theorem toList_of_Rs {k : K} {xs : List AV} {v : Value} (h : Rs k xs v.cells.toList) : v.cells.size = xs.length := by
  have := Rs_length h
  simpa using this

theorem sim_store (h : FR c st a w ow τ ob) {t : TypeId} {y z : Operand} {i : TypeInfo} (hi : P.info? t = some i) (ha : act Φ d st (.store i.size y z) = some (x, st')) :
    Sim P c st' x ⟨dst, .store t y z, type, pos, after, guard⟩ a w ob := by
  simp only [act] at ha
  have hy := R_ev h y
  have hz := R_ev h z
  split at ha
  · rename_i d' g off xs e1 e2
    rw [e1] at hy
    split at ha
    · rename_i hc
      obtain ⟨hg, _, hlx, hl⟩ := hc
      simp only [Option.some.injEq, Prod.mk.injEq] at ha
      obtain ⟨rfl, rfl⟩ := ha
      obtain ⟨b, cs, T', hv, hb, hvar, hheap, h1c, hr⟩ := ptr_cells h hy hg
      have hcs := R_cells hz e2
      have hsz := toList_of_Rs hcs
      have hlen := Rs_length hr
      have hsp := Rs_splice off hr hcs
      have hml : (st.var d').length ≤ cs.toList.length := by simp at hlen ⊢; omega
      have hxl : (a.eval z).cells.toList.length = xs.length := Rs_length hcs
      rw [← splice_take (by omega) hml, ← splice_length (st.var d') xs off (by omega)] at hsp
      obtain ⟨h1, h2⟩ := h.setVar hb hvar hheap (by rw [splice_length _ _ _ (by omega)]; simp) (by
        intro v hv
        unfold splice at hv
        simp only [List.mem_append] at hv
        rcases hv with (hv | hv) | hv
        · exact h1c v (List.mem_of_mem_take hv)
        · exact Rs_one hcs v hv
        · exact h1c v (List.mem_of_mem_drop hv)) hsp
      intro K Q hK
      have hrun := run_storeCells_at P b off T' (a.eval z).cells.toList 0 cs w hheap (by simp at hlen ⊢; omega) (Rs_one hcs)
      refine wp_skip' (w' := w.setRow b (splice cs.toList off (a.eval z).cells.toList).toArray) ?_ (hK undef _ _ _ h1 (R_undef _))
      have hne : (a.eval z).cells.size = i.size := by omega
      simp only [Nat.add_zero] at hrun
      simp [execOp, Instr.storeAt, hv, Instr.sureAddr, storeVar, run_sizeOf' hi, hne, hrun, splice]
    · cases ha
  · cases ha

theorem sim_faddr (h : FR c st a w ow τ ob) {s : TypeId} {y : Operand} {f : Nat} {fs : Array Field} {fd : Field} {i : TypeInfo} (hs : P.underlying s = some (.struct fs)) (hf : fs[f]? = some fd) (hi : P.info? fd.type = some i) (h0 : i.size ≠ 0)
    (ha : act Φ d st (.faddr fd.offset y) = some (x, st')) : Sim P c st' x ⟨dst, .fieldAddr s y f, type, pos, after, guard⟩ a w ob := by
  simp only [act] at ha
  have hy := R_ev h y
  have hrun : ∀ (b q : Nat), a.eval y = .pointer (some ⟨b, q, none⟩) → (execOp a.eval (⟨dst, .fieldAddr s y f, type, pos, after, guard⟩ : Oper)).run P w = .ok (.value (.pointer (some ⟨b, q + fd.offset, none⟩))) w := by
    intro b q e
    simp [execOp, Instr.fieldAt, run_underlying' hs, hf, e, Instr.sureAddr, fieldPlace, run_sizeOf' hi, h0, addr_add]
  split at ha
  · rename_i d' g q e
    rw [e] at hy
    split at ha
    · rename_i hg
      simp only [Option.some.injEq, Prod.mk.injEq] at ha
      obtain ⟨rfl, rfl⟩ := ha
      simp only [R] at hy
      obtain ⟨hpg, h1, hb⟩ := hy
      obtain ⟨b, hb', hv⟩ := hb hg
      refine sim_same h (hrun b q hv) ?_
      simp only [R]
      exact ⟨hpg, rfl, fun _ => ⟨b, hb', rfl⟩⟩
    · cases ha
  · rename_i cs q e
    rw [e] at hy
    simp only [Option.some.injEq, Prod.mk.injEq] at ha
    obtain ⟨rfl, rfl⟩ := ha
    simp only [R] at hy
    obtain ⟨b, p, hv, hr⟩ := hy
    refine sim_same h (hrun b (p + q) hv) ?_
    simp only [R]
    exact ⟨b, p, by rw [Nat.add_assoc], hr⟩
  · cases ha
end
end Go.Av
