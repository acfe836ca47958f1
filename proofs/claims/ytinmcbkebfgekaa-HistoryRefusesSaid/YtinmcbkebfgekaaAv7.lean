/-
  OWN TEXT. Each operation of the program does what 'act' says: the operations that make no call and no memory.
-/
import Derived.Test.YtinmcbkebfgekaaAv6
set_option linter.all false
set_option linter.unusedVariables false
set_option linter.unusedSimpArgs false
namespace Go.Av
variable {σ : Type}

theorem Rs_imm {k : K} : ∀ {vs : List Value}, (∀ v ∈ vs, v.oneCell' = true) → Rs k (vs.map .imm) vs
  | [], _ => by simp [Rs]
  | v :: vs, h => by
    simp only [List.map_cons, Rs]
    exact ⟨v, vs, rfl, (by unfold R; exact ⟨rfl, h v (by simp)⟩), h v (by simp), Rs_imm fun u hu => h u (by simp [hu])⟩
theorem R_ofV (k : K) (v : Value) : R k (AV.ofV v) v := by
  unfold AV.ofV
  split
  · split
    · rename_i cs h
      simp only [R]
      exact ⟨cs, rfl, Rs_imm (List.all_eq_true.1 h)⟩
    · simp only [R]
  · split
    · rename_i cs h
      simp only [R]
      refine ⟨cs, rfl, ?_⟩
      simp only [Rt]
      have : cs = #[] := by simpa using h
      simp [this]
    · simp only [R]
  · unfold R
    refine ⟨rfl, ?_⟩
    cases v <;> simp_all [Value.oneCell']
theorem R_ev {c : Cx σ} {st : St σ} {a : Act} {w : World} {o : Nat → Own} {τ : Nat → Nat} {ob : Nat → Value → Prop} (h : FR c st a w o τ ob) (x : Operand) : R (Kof c st w o τ ob) (st.ev x) (a.eval x) := by
  cases x with
  | tmp t => exact h.tmps t
  | const v => exact R_ofV _ v
  | global g => simp only [St.ev, R]
  | func f => simp only [St.ev, R]; exact ⟨#[], #[], rfl, by simp [Rt], by simp [Rt]⟩
theorem cells_one {v : Value} (h : v.oneCell' = true) : v.cells = #[v] := by cases v <;> simp_all [Value.oneCell', Value.cells]
theorem R_cells {k : K} {x : AV} {v : Value} {xs : List AV} (h : R k x v) (hx : x.cells = some xs) : Rs k xs v.cells.toList := by
  have one : v.oneCell' = true → x.cells = some [x] → Rs k xs v.cells.toList := by
    intro h1 he
    rw [he] at hx
    injection hx with hx
    subst hx
    rw [cells_one h1]
    simp only [Rs]
    exact ⟨v, [], rfl, h, h1, rfl⟩
  cases x with
  | imm u => simp only [R] at h; exact one (h.1 ▸ h.2) rfl
  | agg cs =>
    simp only [AV.cells, Option.some.injEq] at hx
    subst hx
    simp only [R] at h
    obtain ⟨arr, rfl, hr⟩ := h
    exact hr
  | tup cs => simp [AV.cells] at hx
  | ptr d g off => simp only [R] at h; exact one h.2.1 rfl
  | eptr cs off => simp only [R] at h; obtain ⟨b, o, rfl, _⟩ := h; exact one rfl rfl
  | sl sz tok rows => have h' := h; simp only [R] at h'; obtain ⟨A, c, rfl, _⟩ := h'; exact one rfl rfl
  | obj i => simp only [R] at h; exact one h.2 rfl
  | fv f first caps => have h' := h; simp only [R] at h'; obtain ⟨us, vs, rfl, _⟩ := h'; exact one rfl rfl
  | vsl d g sz off n cp => have h' := h; simp only [R] at h'; obtain ⟨_, A, c, rfl, _⟩ := h'; exact one rfl rfl
  | mp d g => simp only [R] at h; exact one h.2.1 rfl
  | dead => simp [AV.cells] at hx
/-- The value of some cells. -/
def ofCells (agg : Bool) (vs : List Value) : Value := if agg then .agg vs.toArray else vs.getD 0 undef
theorem R_mk {k : K} {agg : Bool} {xs : List AV} {x : AV} {vs : List Value} (hx : AV.mk agg xs = some x) (h : Rs k xs vs) : R k x (ofCells agg vs) := by
  unfold AV.mk at hx
  unfold ofCells
  cases agg with
  | true =>
    simp only [if_true, Option.some.injEq] at hx ⊢
    subst hx
    simp only [R]
    exact ⟨_, rfl, by simpa using h⟩
  | false =>
    simp only [Bool.false_eq_true, if_false] at hx ⊢
    split at hx
    · injection hx with hx
      subst hx
      simp only [Rs] at h
      obtain ⟨v, r, rfl, hv, _, rfl⟩ := h
      simpa using hv
    · cases hx
theorem R_asInt {k : K} {x : AV} {v : Value} {n : Int} (h : R k x v) (hx : x.asInt = some n) : ∃ q, v = .int q n := by
  unfold AV.asInt at hx
  split at hx
  · injection hx with hx
    subst hx
    simp only [R] at h
    exact ⟨_, h.1⟩
  · cases hx
theorem R_asSl {k : K} {x : AV} {v : Value} {sz : Nat} {tok : Tok} {rows : List (List AV)} (h : R k x v) (hx : x.asSl sz = some (tok, rows)) : R k (.sl sz tok rows) v := by
  unfold AV.asSl at hx
  split at hx
  · split at hx
    · injection hx with hx
      injection hx with h1 h2
      subst h1; subst h2
      rename_i hs
      subst hs
      exact h
    · cases hx
  · injection hx with hx
    injection hx with h1 h2
    subst h1; subst h2
    simp only [R] at h ⊢
    exact ⟨none, 0, h.1, Nat.le_refl _, Nat.zero_le _, fun h => absurd rfl h, rfl⟩
  · cases hx

section
variable {P : Program} {w : World}
theorem addr_add (b o j : Nat) : (⟨b, o, none⟩ : Addr).add j = ⟨b, o + j, none⟩ := by unfold Addr.add; split <;> simp_all
theorem run_underlying' {t : TypeId} {d : TypeDesc} (h : P.underlying t = some d) : (underlying t).run P w = .ok d w := run_underlying h w
theorem run_typeInfo' {t : TypeId} {i : TypeInfo} (h : P.info? t = some i) : (typeInfo t).run P w = .ok i w := by simp [typeInfo, h]
theorem run_sizeOf' {t : TypeId} {i : TypeInfo} (h : P.info? t = some i) : (sizeOf t).run P w = .ok i.size w := by simp [sizeOf, run_typeInfo' h]
theorem run_zeroValue' {t : TypeId} {i : TypeInfo} {z : Value} (h : P.info? t = some i) (hz : i.zero = some z) : (zeroValue t).run P w = .ok z w := by simp [zeroValue, run_typeInfo' h, hz]
theorem run_isAgg' {t : TypeId} {d : TypeDesc} (h : P.underlying t = some d) : (isAgg t).run P w = .ok (isAggB P t) w := by
  unfold isAgg isAggB
  simp only [Sem.run_bind, run_underlying' h, Result.andThen_ok, h]
  cases d <;> rfl
theorem run_asIntOf' (k : IntKind) (n : Int) : (asIntOf (.int k n)).run P w = .ok (k, n) w := rfl
theorem run_loadVar' {t : TypeId} {i : TypeInfo} {d : TypeDesc} (h : P.info? t = some i) (hu : P.underlying t = some d) (h1 : (isAggB P t || i.size == 1) = true) {b o : Nat} {vs : List Value} (hl : vs.length = i.size)
    (hc : ∀ j v, vs[j]? = some v → w.cell? ⟨b, o + j, none⟩ = some v) : (loadVar t ⟨b, o, none⟩).run P w = .ok (ofCells (isAggB P t) vs) w := by
  unfold loadVar
  simp only [Sem.run_bind, run_isAgg' hu, Result.andThen_ok]
  cases ha : isAggB P t with
  | true =>
    have := run_loadCells_list (P := P) w ⟨b, o, none⟩ vs (fun j v hv => by rw [addr_add]; exact hc j v hv)
    rw [hl] at this
    simp [run_sizeOf' h, this, ofCells]
  | false =>
    rw [ha] at h1
    have h1' : i.size = 1 := by simpa using h1
    rw [h1'] at hl
    match vs, hl with
    | [v], _ =>
      have := hc 0 v rfl
      simp only [Nat.add_zero] at this
      simp [ofCells, this]
theorem run_part' {t : TypeId} {i : TypeInfo} {d : TypeDesc} (h : P.info? t = some i) (hu : P.underlying t = some d) (h1 : (isAggB P t || i.size == 1) = true) {cs : Array Value} {off : Nat} (hl : off + i.size ≤ cs.size) :
    (part t cs off).run P w = .ok (ofCells (isAggB P t) ((cs.toList.drop off).take i.size)) w := by
  unfold part
  simp only [Sem.run_bind, run_isAgg' hu, Result.andThen_ok]
  cases ha : isAggB P t with
  | true =>
    simp only [if_true, Sem.run_bind, run_sizeOf' h, Result.andThen_ok, Sem.run_pure, ofCells]
    congr 2
    apply Array.ext'
    simp [Array.toList_extract, List.extract_eq_take_drop]
  | false =>
    rw [ha] at h1
    have h1' : i.size = 1 := by simpa using h1
    rw [h1'] at hl ⊢
    have hlt : off < cs.size := by omega
    simp [ofCells, hlt, List.getD_eq_getElem?_getD]
end
end Go.Av
