/-
  OWN TEXT. Each operation of the program does what 'act' says: structs put together, slice literals, equality of structs.
-/
import Derived.Test.YtinmcbkebfgekaaAv10
import Derived.Laws.StructEq
set_option linter.all false
set_option linter.unusedVariables false
set_option linter.unusedSimpArgs false
namespace Go.Av
variable {σ : Type}

theorem splice_cons (l : List Value) (off : Nat) (v : Value) (rest : List Value) (h : off + (rest.length + 1) ≤ l.length) : splice (l.set off v) (off + 1) rest = splice l off (v :: rest) := by
  unfold splice
  exact list_seg_step l off v rest h
theorem foldl_set (vs : List Value) : ∀ (i : Nat) (off : Nat) (cells : Array Value), off + i + vs.length ≤ cells.size → ((vs.zipIdx i).foldl (fun cs (x : Value × Nat) => cs.setIfInBounds (off + x.2) x.1) cells) = (splice cells.toList (off + i) vs).toArray := by
  induction vs with
  | nil => intro i off cells _; simp [splice]
  | cons v vs ih =>
    intro i off cells hl
    simp only [List.zipIdx_cons, List.foldl_cons]
    rw [ih (i + 1) off _ (by simp at hl ⊢; omega)]
    congr 1
    rw [Array.toList_setIfInBounds, ← Nat.add_assoc]
    exact splice_cons _ _ _ _ (by simp at hl ⊢; omega)
theorem fill_step (v : Value) (off : Nat) (cells : Array Value) (h : off + v.cells.size ≤ cells.size) : v.cells.zipIdx.foldl (fun cs (x : Value × Nat) => cs.setIfInBounds (off + x.2) x.1) cells = (splice cells.toList off v.cells.toList).toArray := by
  rw [← Array.foldl_toList, Array.toList_zipIdx]
  have := foldl_set v.cells.toList 0 off cells (by simpa using h)
  simpa using this

/-- Parts laid into cells. -/
theorem fill_of {k : K} (place : Nat → Option (Nat × Nat)) : ∀ (ps : List (Nat × Value)) (qs : List (Nat × Nat × AV)) (z : List AV) (cells : Array Value) (out : List AV),
    ps.length = qs.length → (∀ (j : Nat) (p : Nat × Value) (q : Nat × Nat × AV), ps[j]? = some p → qs[j]? = some q → place p.1 = some (q.1, q.2.1) ∧ R k q.2.2 p.2) → Rs k z cells.toList → fills z qs = some out → ∃ cells', Instr.fill place cells ps = some cells' ∧ Rs k out cells'.toList
  | [], qs, z, cells, out, hl, hq, hz, ho => by
    have : qs = [] := List.eq_nil_of_length_eq_zero (by simpa using hl.symm)
    subst this
    simp only [fills, Option.some.injEq] at ho
    subst ho
    exact ⟨cells, rfl, hz⟩
  | (i, v) :: ps, [], z, cells, out, hl, hq, hz, ho => by simp at hl
  | (i, v) :: ps, (off, n, x) :: qs, z, cells, out, hl, hq, hz, ho => by
    obtain ⟨hp, hR⟩ := hq 0 (i, v) (off, n, x) rfl rfl
    simp only [fills] at ho
    split at ho
    · rename_i cs hcs
      split at ho
      · rename_i hc
        obtain ⟨h1, h2⟩ := hc
        have hv : Rs k cs v.cells.toList := R_cells hR hcs
        have hsz := toList_of_Rs hv
        have hlen := Rs_length hz
        have hfit : off + v.cells.size ≤ cells.size := by simp at hlen; omega
        obtain ⟨cells', h3, h4⟩ := fill_of place ps qs (splice z off cs) ((splice cells.toList off v.cells.toList).toArray) out (by simpa using hl) (fun j p q hj hj' => hq (j + 1) p q (by simpa using hj) (by simpa using hj')) (by simpa using Rs_splice off hz hv) ho
        refine ⟨cells', ?_, h4⟩
        unfold Instr.fill
        simp only [hp]
        have hno : ¬ ((decide (v.cells.size ≠ n) || decide (off + v.cells.size > cells.size)) = true) := by simp; omega
        rw [if_neg hno, fill_step v off cells hfit]
        exact h3
      · cases ho
    · cases ho

section
variable {P : Program}
theorem run_mapM_list {α β : Type} (f : α → Sem β) (g : α → β) (w : World) : ∀ l : List α, (∀ x ∈ l, (f x).run P w = .ok (g x) w) → (l.mapM f).run P w = .ok (l.map g) w
  | [], _ => by simp
  | x :: l, h => by
    simp only [List.mapM_cons, Sem.run_bind, h x (by simp), Result.andThen_ok, run_mapM_list f g w l (fun y hy => h y (by simp [hy])), Sem.run_pure, List.map_cons]
theorem run_mapM_array {α β : Type} (f : α → Sem β) (g : α → β) (w : World) (xs : Array α) (h : ∀ x ∈ xs.toList, (f x).run P w = .ok (g x) w) : (xs.mapM f).run P w = .ok (xs.map g) w := by
  rw [Array.mapM_eq_mapM_toList]
  simp only [Sem.run_map, run_mapM_list f g w xs.toList h, Result.andThen_ok]
  congr 1
  apply Array.ext'
  simp
end

section
variable {P : Program} {T : List Nat} {Φ : Orc} {d : Nat} {c : Cx σ} {st st' : St σ} {x : AV} {a : Act} {w : World} {ow : Nat → Own} {τ : Nat → Nat} {ob : Nat → Value → Prop}
  {dst : Option Nat} {type : TypeId} {pos : String} {after : Array Edge} {guard : Option (Nat × Bool)}

theorem partsOf_get {fs : Array Field} : ∀ {ps : List (Nat × Operand)} {qs : List (Nat × Nat × Operand)}, partsOf P fs ps = some qs → qs.length = ps.length ∧ ∀ (j : Nat) (p : Nat × Operand) (q : Nat × Nat × Operand), ps[j]? = some p → qs[j]? = some q → ∃ (f : Field) (i : TypeInfo), fs[p.1]? = some f ∧ P.info? f.type = some i ∧ q.1 = f.offset ∧ q.2.1 = i.size ∧ q.2.2 = p.2
  | [], qs, h => by simp only [partsOf, Option.some.injEq] at h; subst h; exact ⟨rfl, fun j p q hp => by simp at hp⟩
  | (i, y) :: ps, qs, h => by
    simp only [partsOf] at h
    split at h
    · rename_i f hf
      split at h
      · rename_i t r ht hr
        injection h with h
        subst h
        obtain ⟨hl, hg⟩ := partsOf_get hr
        refine ⟨by simp [hl], fun j p q hp hq => ?_⟩
        cases j with
        | zero => simp at hp hq; subst hp; subst hq; exact ⟨f, t, hf, ht, rfl, rfl, rfl⟩
        | succ j => exact hg j p q (by simpa using hp) (by simpa using hq)
      · cases h
    · cases h

theorem sim_build (h : FR c st a w ow τ ob) {t : TypeId} {parts : Array (Nat × Operand)} {i : TypeInfo} {fs : Array Field} {z : Value} {qs : List (Nat × Nat × Operand)} (hi : P.info? t = some i) (hu : P.underlying t = some (.struct fs)) (hz : i.zero = some z)
    (h1 : z.cells.toList.all (·.oneCell') = true) (hfs : fs.toList.all (fun f => (P.info? f.type).isSome) = true) (hq : partsOf P fs parts.toList = some qs) (ha : act Φ d st (.build z.cells.toList qs) = some (x, st')) :
    Sim P c st' x ⟨dst, .build t parts, type, pos, after, guard⟩ a w ob := by
  simp only [act] at ha
  split at ha
  · rename_i cs e
    simp only [Option.some.injEq, Prod.mk.injEq] at ha
    obtain ⟨rfl, rfl⟩ := ha
    obtain ⟨hl, hg⟩ := partsOf_get hq
    let sizes : Field → Nat × Nat := fun f => (f.offset, ((P.info? f.type).map (·.size)).getD 0)
    have hmap : (fs.mapM (fun f => do pure (f.offset, ← sizeOf f.type) : Field → Sem (Nat × Nat))).run P w = .ok (fs.map sizes) w := by
      refine run_mapM_array _ sizes w fs fun f hf => ?_
      have := List.all_eq_true.1 hfs f hf
      obtain ⟨i', hi'⟩ := Option.isSome_iff_exists.1 this
      simp [run_sizeOf' hi', sizes, hi']
    obtain ⟨cells', hf, hr⟩ := fill_of (k := Kof c st w ow τ ob) ((fs.map sizes)[·]?) (parts.toList.map fun p => (p.1, a.eval p.2)) (qs.map fun p => (p.1, p.2.1, st.ev p.2.2)) (z.cells.toList.map .imm) z.cells cs (by simp [hl])
      (fun j p q hp hq' => by
        rw [List.getElem?_map] at hp hq'
        obtain ⟨p', hp', rfl⟩ := Option.map_eq_some_iff.1 hp
        obtain ⟨q', hq'', rfl⟩ := Option.map_eq_some_iff.1 hq'
        obtain ⟨f, i', hf, hi', e1, e2, e3⟩ := hg j p' q' hp' hq''
        refine ⟨?_, by rw [e3]; exact R_ev h p'.2⟩
        simp [hf, sizes, hi', e1, e2])
      (Rs_imm (List.all_eq_true.1 h1)) e
    refine sim_same h (v := .agg cells') ?_ (by unfold R; exact ⟨cells', rfl, hr⟩)
    have hparts : (parts.map fun x => (x.1, a.eval x.2)).toList = parts.toList.map fun p => (p.1, a.eval p.2) := by simp
    simp only [execOp, Instr.build, Sem.run_bind, run_zeroValue' hi hz, Result.andThen_ok, run_underlying' hu, hmap, hparts, hf, Sem.run_pure]
  · cases ha

theorem sim_builda (h : FR c st a w ow τ ob) {t e : TypeId} {parts : Array (Nat × Operand)} {i ie : TypeInfo} {n : Nat} {z : Value} (hi : P.info? t = some i) (hu : P.underlying t = some (.array n e)) (hz : i.zero = some z) (he : P.info? e = some ie)
    (h1 : z.cells.toList.all (·.oneCell') = true) (ha : act Φ d st (.build z.cells.toList (parts.toList.map fun p => (p.1 * ie.size, ie.size, p.2))) = some (x, st')) :
    Sim P c st' x ⟨dst, .build t parts, type, pos, after, guard⟩ a w ob := by
  simp only [act] at ha
  split at ha
  · rename_i cs e'
    simp only [Option.some.injEq, Prod.mk.injEq] at ha
    obtain ⟨rfl, rfl⟩ := ha
    obtain ⟨cells', hf, hr⟩ := fill_of (k := Kof c st w ow τ ob) (fun i => some (i * ie.size, ie.size)) (parts.toList.map fun p => (p.1, a.eval p.2)) ((parts.toList.map fun p => (p.1 * ie.size, ie.size, p.2)).map fun p => (p.1, p.2.1, st.ev p.2.2)) (z.cells.toList.map .imm) z.cells cs (by simp)
      (fun j p q hp hq' => by
        rw [List.getElem?_map] at hp hq'
        rw [List.getElem?_map] at hq'
        obtain ⟨p', hp', rfl⟩ := Option.map_eq_some_iff.1 hp
        rw [hp'] at hq'
        simp only [Option.map_some, Option.some.injEq] at hq'
        subst hq'
        exact ⟨rfl, R_ev h p'.2⟩)
      (Rs_imm (List.all_eq_true.1 h1)) e'
    refine sim_same h (v := .agg cells') ?_ (by unfold R; exact ⟨cells', rfl, hr⟩)
    have hparts : (parts.map fun x => (x.1, a.eval x.2)).toList = parts.toList.map fun p => (p.1, a.eval p.2) := by simp
    simp only [execOp, Instr.build, Sem.run_bind, run_zeroValue' hi hz, Result.andThen_ok, run_underlying' hu, run_sizeOf' he, hparts, hf, Sem.run_pure]
  · cases ha

/-- Elements laid one behind the other. -/
theorem fill_rows (sz : Nat) : ∀ (vs : List Value) (i : Nat) (pre : List Value) (cells : Array Value), (∀ v ∈ vs, v.cells.size = sz) → pre.length = i * sz → cells.size = (i + vs.length) * sz → cells.toList.take (i * sz) = pre →
    Instr.fill (fun i => some (i * sz, sz)) cells ((List.range' i vs.length).zip vs) = some (pre ++ (vs.flatMap fun v => v.cells.toList)).toArray
  | [], i, pre, cells, hv, hp, hc, ht => by
    simp only [List.length_nil, List.range'_zero, List.zip_nil_left, Instr.fill, List.flatMap_nil, List.append_nil]
    rw [← ht, List.take_of_length_le (by simp at hc ⊢; omega)]
  | v :: vs, i, pre, cells, hv, hp, hc, ht => by
    have h0 := hv v (by simp)
    simp only [List.length_cons, List.range'_succ, List.zip_cons_cons]
    unfold Instr.fill
    have e : (i + (vs.length + 1)) * sz = i * sz + sz + vs.length * sz := by rw [Nat.add_mul, Nat.add_mul]; omega
    have hcs : cells.size = i * sz + sz + vs.length * sz := by rw [hc, List.length_cons, e]
    have hno : ¬ ((decide (v.cells.size ≠ sz) || decide (i * sz + v.cells.size > cells.size)) = true) := by simp; omega
    simp only [if_neg hno]
    rw [fill_step v (i * sz) cells (by omega)]
    have hs : (splice cells.toList (i * sz) v.cells.toList).take ((i + 1) * sz) = pre ++ v.cells.toList := by
      unfold splice
      rw [ht, List.take_append_of_le_length (by simp [hp, h0, Nat.add_mul]), List.take_of_length_le (by simp [hp, h0, Nat.add_mul])]
    have hl : (splice cells.toList (i * sz) v.cells.toList).length = cells.size := by rw [splice_length _ _ _ (by simp; omega)]; simp
    rw [fill_rows sz vs (i + 1) (pre ++ v.cells.toList) _ (fun u hu => hv u (by simp [hu])) (by simp [hp, h0, Nat.add_mul]) (by simp only [List.size_toArray]; rw [hl, hcs, Nat.add_mul, Nat.add_mul]; omega) (by simpa using hs)]
    simp

theorem rowsOf_get {k : K} {sz : Nat} : ∀ {xs : List AV} {rows : List (List AV)} {vs : List Value}, rowsOf xs = some rows → xs.length = vs.length → (∀ (j : Nat) (x : AV) (v : Value), xs[j]? = some x → vs[j]? = some v → R k x v) → (∀ r ∈ rows, r.length = sz) →
    rows.length = xs.length ∧ (∀ v ∈ vs, v.cells.size = sz) ∧ Rs k.pure rows.flatten (vs.flatMap fun v => v.cells.toList)
  | [], rows, vs, h, hl, hr, hs => by
    simp only [rowsOf, Option.some.injEq] at h
    subst h
    have : vs = [] := List.eq_nil_of_length_eq_zero (by simpa using hl.symm)
    subst this
    simp [Rs]
  | x :: xs, rows, [], h, hl, hr, hs => by simp at hl
  | x :: xs, rows, v :: vs, h, hl, hr, hs => by
    simp only [rowsOf] at h
    split at h
    · rename_i r rs h1 h2
      injection h with h
      subst h
      have hx := hr 0 x v rfl rfl
      unfold pureCells at h1
      split at h1
      · rename_i cs hcs
        split at h1
        · rename_i hp
          injection h1 with h1
          subst h1
          have hv := R_cells hx hcs
          have hweak : ∀ (xs : List AV) (us : List Value), Rs k xs us → Rs k (xs.map AV.weak) us := by
            intro xs
            induction xs with
            | nil => intro us h; simpa [Rs] using h
            | cons y ys ih =>
              intro us h
              simp only [Rs, List.map_cons] at h ⊢
              obtain ⟨u, r, e, hy, ho, hrr⟩ := h
              exact ⟨u, r, e, R_weak hy, ho, ih r hrr⟩
          have hv' := Rs_pure _ _ hp (hweak _ _ hv)
          obtain ⟨e1, e2, e3⟩ := rowsOf_get (k := k) (sz := sz) h2 (by simpa using hl) (fun j y u hj hj' => hr (j + 1) y u (by simpa using hj) (by simpa using hj')) (fun r hr => hs r (by simp [hr]))
          refine ⟨by simp [e1], fun u hu => ?_, ?_⟩
          · rcases List.mem_cons.1 hu with rfl | hu
            · have := toList_of_Rs hv
              have h3 := hs (cs.map AV.weak) (by simp)
              simp at h3
              omega
            · exact e2 u hu
          · simpa using Rs_append hv' e3
        · cases h1
      · cases h1
    · cases h

theorem sim_bsl (h : FR c st a w ow τ ob) {t e : TypeId} {len : Nat} {parts : Array (Nat × Operand)} {i : TypeInfo} {z : Value} (hu : P.underlying t = some (.slice e)) (hi : P.info? e = some i) (hcap : len * i.size ≤ 2 ^ 24) (hidx : parts.toList.map (·.1) = List.range len) (hsz : 0 < i.size)
    (hz : i.zero = some z) (hzs : z.cells.size = i.size) (ha : act Φ d st (.bsl i.size (parts.toList.map (·.2))) = some (x, st')) :
    Sim P c st' x ⟨dst, .buildSlice t len parts, type, pos, after, guard⟩ a w ob := by
  simp only [act] at ha
  split at ha
  · rename_i rows e1
    split at ha
    · rename_i hall
      simp only [Option.some.injEq, Prod.mk.injEq] at ha
      obtain ⟨rfl, rfl⟩ := ha
      have hrows : ∀ r ∈ rows, r.length = i.size := fun r hr => by simpa using List.all_eq_true.1 hall r hr
      have hplen : parts.toList.length = len := by
        have := congrArg List.length hidx
        simpa using this
      let vs : List Value := parts.toList.map fun p => a.eval p.2
      have hvl : vs.length = len := by simp [vs, ← hplen]
      obtain ⟨k1, k2, k3⟩ := rowsOf_get (k := Kof c st w ow τ ob) (sz := i.size) (vs := vs) e1 (by simp [vs]) (fun j y v hj hj' => by
        simp only [vs, List.map_map, List.getElem?_map] at hj hj'
        obtain ⟨p, hp, rfl⟩ := Option.map_eq_some_iff.1 hj
        rw [hp] at hj'
        simp only [Option.map_some, Option.some.injEq] at hj'
        subst hj'
        exact R_ev h p.2) hrows
      have hrl : rows.length = len := by rw [k1]; simp [← hplen]
      let cells0 : Array Value := if len * i.size = 0 then #[] else (Array.range (len * i.size)).map ((if len * i.size = 0 then #[] else z.cells)[· % (if len * i.size = 0 then (#[] : Array Value) else z.cells).size]!)
      have hfill : ∀ cells : Array Value, cells.size = len * i.size → Instr.fill (fun j => some (j * i.size, i.size)) cells (parts.toList.map fun p => (p.1, a.eval p.2)) = some (vs.flatMap fun v => v.cells.toList).toArray := by
        intro cells hc
        have hzip : (parts.toList.map fun p => (p.1, a.eval p.2)) = (List.range' 0 vs.length).zip vs := by
          rw [hvl, ← List.range_eq_range', ← hidx, List.zip_map']
        rw [hzip]
        have := fill_rows i.size vs 0 [] cells k2 (by simp) (by rw [hc, Nat.zero_add, hvl]) (by simp)
        simpa using this
      obtain ⟨h1, hk⟩ := h.newBlk .imm (by simp) (by simp) (.cells (vs.flatMap fun v => v.cells.toList).toArray e) 0 (st' := st) rfl rfl rfl rfl (fun _ => Nat.le_refl _) (fun _ _ _ h => h)
      intro K Q hK
      refine wp_value (v := .slice (some ⟨w.heap.size, 0, none⟩) len len) (w' := w.alloc (.cells (vs.flatMap fun v => v.cells.toList).toArray e)) ?_ (hK _ _ _ _ h1 ?_)
      · have hparts : (parts.map fun x => (x.1, a.eval x.2)).toList = parts.toList.map fun p => (p.1, a.eval p.2) := by simp
        have hno : ¬ (len * i.size > 2 ^ 24) := by omega
        simp only [execOp, Instr.buildSlice, Sem.run_bind, run_underlying' hu, Result.andThen_ok, run_sizeOf' hi, if_neg hno, Sem.run_pure, hparts]
        by_cases h0 : len * i.size = 0
        · simp only [if_pos h0, Sem.run_bind, Sem.run_pure, Result.andThen_ok]
          rw [hfill _ (by simp)]
          simp [newRow]
        · simp only [if_neg h0, Sem.run_bind, run_zeroValue' hi hz, Sem.run_pure, Result.andThen_ok]
          rw [hfill _ (by simp)]
          simp [newRow]
      · unfold R
        refine ⟨_, len, by rw [hrl], by omega, ?_, fun _ => ⟨w.heap.size, 0, rfl, ?_⟩, hrl.symm⟩
        · have : len ≤ len * i.size := Nat.le_mul_of_pos_right _ hsz
          unfold maxLen
          omega
        · refine rowsAt_of (Rs_mono hk.pure _ _ k3) hrows fun j v hj => ?_
          refine ⟨rfl, ?_, .inr ⟨h.base, .inl (upd_same _ _ _)⟩⟩
          rw [Nat.zero_add, cell_of_heap heap_alloc_self]
          simpa using hj
    · cases ha
  · cases ha
end
end Go.Av
