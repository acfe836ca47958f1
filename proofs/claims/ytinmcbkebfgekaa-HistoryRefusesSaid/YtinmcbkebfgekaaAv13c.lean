/-
  OWN TEXT. Maps over variables; appends to slices over variables.
-/
import Derived.Test.YtinmcbkebfgekaaAv13b
import Derived.MapKept
set_option linter.all false
set_option linter.unusedVariables false
set_option linter.unusedSimpArgs false
namespace Go.Av
variable {σ : Type}

/-! ### keys -/
section
variable {P : Program} {w : World}
theorem range_list {m : Type → Type} [Monad m] [LawfulMonad m] {β : Type} (n : Nat) (init : β) (f : Nat → β → m (ForInStep β)) : (forIn [0:n] init f) = forIn (List.range' 0 n) init f := by
  rw [Std.Legacy.Range.forIn_eq_forIn_range']
  simp
def eqElems (d : Nat) (e : TypeId) (sz : Nat) (xs ys : Array Value) : List Nat → Sem Bool
  | [] => pure true
  | i :: l => do
    let a ← part e xs (i * sz)
    let b ← part e ys (i * sz)
    let r ← Op.equalIn d e a b
    if (!r) = true then pure false else eqElems d e sz xs ys l
theorem run_equalIn_array (w : World) (d : Nat) (t e : TypeId) (n : Nat) (ie : TypeInfo) (xs ys : Array Value) (ht : P.underlying t = some (.array n e)) (hi : P.info? e = some ie) :
    (Op.equalIn (d + 1) t (.agg xs) (.agg ys)).run P w = (eqElems d e ie.size xs ys (List.range' 0 n)).run P w := by
  simp only [Op.equalIn, Sem.run_bind, run_underlying ht, Result.andThen_ok, run_sizeOf' hi]
  rw [range_list]
  generalize List.range' 0 n = l
  clear ht
  induction l generalizing w with
  | nil => simp [eqElems]
  | cons f fs ih =>
    simp only [List.forIn_cons, eqElems, Sem.run_bind, Sem.run_ite]
    generalize (part e xs (f * ie.size)).run P w = r1
    cases r1 with
    | ok a w1 =>
      simp only [Result.andThen_ok]
      generalize (part e ys (f * ie.size)).run P w1 = r2
      cases r2 with
      | ok b w2 =>
        simp only [Result.andThen_ok]
        generalize (Op.equalIn d e a b).run P w2 = r3
        cases r3 with
        | ok r w3 =>
          cases r
          · simp only [Result.andThen_ok, Bool.not_false, if_true, Sem.run_pure]
          · simp only [Result.andThen_ok, Bool.not_true, Bool.false_eq_true, if_false, Sem.run_pure]
            exact ih w3
        | halt x w3 => simp [Result.andThen]
      | halt x w2 => simp [Result.andThen]
    | halt x w1 => simp [Result.andThen]

theorem run_part_int {e : TypeId} {kk : IntKind} {ie : TypeInfo} (he : P.underlying e = some (.int kk)) (hi : P.info? e = some ie) (h1 : ie.size = 1) {cs : Array Value} {i : Nat} (hl : i < cs.size) : (part e cs (i * ie.size)).run P w = .ok cs[i] w := by
  have := run_part' (P := P) (w := w) hi he (by simp [h1]) (cs := cs) (off := i * ie.size) (by rw [h1]; omega)
  rw [this]
  have hag : isAggB P e = false := by simp [isAggB, he]
  rw [hag]
  simp only [ofCells, Bool.false_eq_true, if_false, h1, Nat.mul_one]
  congr 1
  simp [List.getD_eq_getElem?_getD, hl]
theorem eqElems_run (k : K) {e : TypeId} {kk : IntKind} {ie : TypeInfo} (he : P.underlying e = some (.int kk)) (hi : P.info? e = some ie) (h1 : ie.size = 1) (d : Nat) : ∀ (m s : Nat) (us vs : Array Value) (xs ys : List AV) (r : Bool), Rs k xs us.toList → Rs k ys vs.toList → us.size = s + m → vs.size = s + m →
    eqCells (List.replicate m 1) (xs.drop s) (ys.drop s) = some r → (eqElems (d + 1) e ie.size us vs (List.range' s m)).run P w = .ok r w
  | 0, s, us, vs, xs, ys, r, hx, hy, l1, l2, hq => by
    have a1 := Rs_length hx
    have a2 := Rs_length hy
    rw [List.drop_of_length_le (by simp at a1; omega), List.drop_of_length_le (by simp at a2; omega)] at hq
    simp only [List.replicate_zero, eqCells, Option.some.injEq] at hq
    subst hq
    simp [eqElems]
  | m + 1, s, us, vs, xs, ys, r, hx, hy, l1, l2, hq => by
    have a1 := Rs_length hx
    have a2 := Rs_length hy
    simp only [Array.length_toList] at a1 a2
    rw [List.drop_eq_getElem_cons (l := xs) (by omega), List.drop_eq_getElem_cons (l := ys) (by omega), List.replicate_succ] at hq
    simp only [eqCells] at hq
    split at hq
    · rename_i p q hp hq'
      injection hq with hq
      subst hq
      obtain ⟨kq, A, B, e1, e2, rfl⟩ := eqCell1 hp
      obtain ⟨u, hu, hRu, _⟩ := Rs_get hx s _ (List.getElem?_eq_getElem (by omega))
      obtain ⟨v, hv, hRv, _⟩ := Rs_get hy s _ (List.getElem?_eq_getElem (by omega))
      rw [e1] at hRu
      rw [e2] at hRv
      simp only [R] at hRu hRv
      have hu' : us[s]'(by omega) = .int kq A := by
        have := hu; rw [Array.getElem?_toList, Array.getElem?_eq_getElem (by omega)] at this
        injection this with this; rw [this]; exact hRu.1
      have hv' : vs[s]'(by omega) = .int kq B := by
        have := hv; rw [Array.getElem?_toList, Array.getElem?_eq_getElem (by omega)] at this
        injection this with this; rw [this]; exact hRv.1
      have ih := eqElems_run k he hi h1 d m (s + 1) us vs xs ys q hx hy (by omega) (by omega) hq'
      simp only [List.range'_succ, eqElems, Sem.run_bind, run_part_int he hi h1 (show s < us.size by omega), run_part_int he hi h1 (show s < vs.size by omega), Result.andThen_ok, hu', hv', run_equalIn_int w d e _ _ _ _ he, Sem.run_ite, ih, Sem.run_pure]
      cases (A == B) <;> simp
    · cases hq

/-- Equality of keys. -/
theorem run_keyEq {kt : TypeId} {ks : List Nat} (hk : keyKinds P kt = some ks) {k : K} {xs ys : List AV} {us vs : List Value} {r : Bool} (hx : Rs k xs us) (hy : Rs k ys vs) (l1 : xs.length = ks.length) (hq : eqCells ks xs ys = some r) :
    (Op.equal kt (ofCells (isAggB P kt) us) (ofCells (isAggB P kt) vs)).run P w = .ok r w := by
  obtain ⟨l1', l2'⟩ := eqCells_length hq
  have a1 := Rs_length hx
  have a2 := Rs_length hy
  have flat : ∀ ks', eqKinds P 40 kt = some ks' → ks' = ks → (Op.equal kt (ofCells (isAggB P kt) us) (ofCells (isAggB P kt) vs)).run P w = .ok r w := by
    rintro ks' h rfl
    exact (run_eqKinds w k 40).1 kt ks' h 10000 (by omega) us vs xs ys r hx hy (by omega) (by omega) hq
  unfold keyKinds at hk
  split at hk
  · rename_i hu
    injection hk with hk
    exact flat [2] (by simp [eqKinds, hu]) hk
  · rename_i q hu
    injection hk with hk
    exact flat [1] (by simp [eqKinds, hu]) hk
  · rename_i n e hu
    split at hk
    · rename_i kk ie he hi
      split at hk
      · rename_i h1
        injection hk with hk
        subst hk
        have hag : isAggB P kt = true := by simp [isAggB, hu]
        rw [hag]
        simp only [ofCells, if_true]
        simp only [List.length_replicate] at l1' l2'
        show (Op.equalIn (9999 + 1) kt _ _).run P w = _
        rw [run_equalIn_array w 9999 kt e n ie _ _ hu hi]
        exact eqElems_run k he hi h1 9998 n 0 us.toArray vs.toArray xs ys r (by simpa using hx) (by simpa using hy) (by simp; omega) (by simp; omega) (by simpa using hq)
      · cases hk
    · cases hk
  · rename_i fs hu
    split at hk
    · split at hk
      · rename_i ks' i h1 h2
        split at hk
        · injection hk with hk
          exact flat ks' h1 hk
        · cases hk
      · cases hk
    · cases hk
  · cases hk
theorem run_forIn_unit (f : Nat → PUnit → Sem (ForInStep PUnit)) : ∀ (l : List Nat), (∀ i ∈ l, (f i ⟨⟩).run P w = .ok (.yield ⟨⟩) w) → (forIn l PUnit.unit f).run P w = .ok ⟨⟩ w
  | [], _ => by simp
  | i :: l, h => by
    simp only [List.forIn_cons, Sem.run_bind, h i (by simp), Result.andThen_ok]
    exact run_forIn_unit f l fun j hj => h j (by simp [hj])
theorem run_checkKey_int {e : TypeId} {kk : IntKind} (he : P.underlying e = some (.int kk)) (em : Bool) (n : Nat) (v : Value) : (Instr.checkKey em (n + 1) e v).run P w = .ok () w := by
  simp only [Instr.checkKey, Sem.run_bind, run_underlying' he, Result.andThen_ok]
  cases v <;> rfl
theorem run_checkKeyN {kt : TypeId} {ks : List Nat} (hk : keyKinds P kt = some ks) (em : Bool) (n : Nat) {us : List Value} (hl : us.length = ks.length) : (Instr.checkKey em (n + 2) kt (ofCells (isAggB P kt) us)).run P w = .ok () w := by
  unfold keyKinds at hk
  split at hk
  · rename_i hu
    simp only [Instr.checkKey, Sem.run_bind, run_underlying' hu, Result.andThen_ok]
    cases (ofCells (isAggB P kt) us) <;> rfl
  · rename_i q hu
    exact run_checkKey_int hu em _ _
  · rename_i m e hu
    split at hk
    · rename_i kk ie he hi
      split at hk
      · rename_i h1
        injection hk with hk
        subst hk
        have hag : isAggB P kt = true := by simp [isAggB, hu]
        rw [hag]
        simp only [ofCells, if_true]
        simp only [List.length_replicate] at hl
        rw [Instr.checkKey]
        simp only [Sem.run_bind, run_underlying' hu, Result.andThen_ok]
        rw [range_list]
        rw [run_forIn_unit]
        · rfl
        · intro i hi'
          have hi'' : i < us.toArray.size := by simp at hi'; simp; omega
          simp only [Sem.run_bind, run_sizeOf' hi, Result.andThen_ok, run_part_int he hi h1 hi'', run_checkKey_int he, Sem.run_pure]
      · cases hk
    · cases hk
  · rename_i fs hu
    split at hk
    · rename_i hall
      split at hk
      · rename_i ks' i h1 h2
        split at hk
        · rename_i hks
          injection hk with hk
          subst hk
          have hag : isAggB P kt = true := by simp [isAggB, hu]
          rw [hag]
          simp only [ofCells, if_true]
          rw [Instr.checkKey]
          simp only [Sem.run_bind, run_underlying' hu, Result.andThen_ok]
          simp only [eqKinds, hu] at h1
          split at h1
          · cases h1
          · have key : ∀ (l : List Field) (m off : Nat) (kq : List Nat), eqKindsF P m l off = some kq → l.all (fun f => match P.underlying f.type with | some (.int _) => true | _ => false) = true → off + kq.length ≤ us.toArray.size →
                (forIn l PUnit.unit (fun f _ => do
                  if f.name ≠ "_" then
                    Instr.checkKey em (n + 1) f.type (← part f.type us.toArray f.offset)
                    pure (ForInStep.yield PUnit.unit)
                  else pure (ForInStep.yield PUnit.unit)) : Sem PUnit).run P w = .ok ⟨⟩ w := by
              intro l
              induction l with
              | nil => intro m off kq _ _ _; simp
              | cons f l ih =>
                intro m off kq hkq hal hle
                simp only [List.all_cons, Bool.and_eq_true] at hal
                obtain ⟨m, rfl⟩ : ∃ m', m = m' + 1 := by cases m with | zero => simp [eqKindsF] at hkq | succ m => exact ⟨m, rfl⟩
                simp only [eqKindsF] at hkq
                split at hkq
                · rename_i ks1 i1 hk1 hi1
                  split at hkq
                  · rename_i hc
                    obtain ⟨ks2, hk2, rfl⟩ := Option.map_eq_some_iff.1 hkq
                    obtain ⟨c1, c2, c3, c4⟩ := hc
                    have hf : ∃ kk, P.underlying f.type = some (.int kk) := by
                      have := hal.1
                      split at this
                      · exact ⟨_, by assumption⟩
                      · cases this
                    obtain ⟨kk, hf⟩ := hf
                    rw [List.length_append] at hle
                    have hp := run_part' (P := P) (w := w) hi1 hf (by rcases c4 with h | h <;> simp [h]) (cs := us.toArray) (off := f.offset) (by omega)
                    simp only [List.forIn_cons, Sem.run_bind, Sem.run_ite, hp, run_checkKey_int hf, Result.andThen_ok, Sem.run_pure, c1, ne_eq, not_false_eq_true, if_true]
                    exact ih m (off + i1.size) ks2 hk2 hal.2 (by omega)
                  · cases hkq
                · cases hkq
            have := key fs.toList 39 0 _ h1 hall (by simp; omega)
            rw [← Array.forIn_toList]
            rw [this]
            rfl
        · cases hk
      · cases hk
    · cases hk
  · cases hk
end
/-! ### entries -/
section
variable {P : Program} {w : World}
theorem keyc_cells {k : K} {ag : Bool} {kx : AV} {c : List AV} {v : Value} (h : kx.keyc ag = some c) (hR : R k kx v) : ∃ us, v = ofCells ag us ∧ Rs k c us := by
  unfold AV.keyc at h
  split at h
  · injection h with h
    subst h
    simp only [R] at hR
    obtain ⟨arr, rfl, hr⟩ := hR
    exact ⟨arr.toList, by simp [ofCells], hr⟩
  · injection h with h
    subst h
    rename_i u
    have hR' := hR
    simp only [R] at hR'
    obtain ⟨rfl, h1⟩ := hR'
    refine ⟨[v], by simp [ofCells], ?_⟩
    simp only [Rs]
    exact ⟨v, [], rfl, hR, h1, rfl⟩
  · cases h
def plainV (u : Value) : Prop := (∃ b, u = .bool b) ∨ (∃ k n, u = .int k n) ∨ ∃ s, u = .string s
theorem eqCells_true {k : K} : ∀ {ks : List Nat} {xs ys : List AV} {us vs : List Value}, eqCells ks xs ys = some true → Rs k xs us → Rs k ys vs → us = vs ∧ ∀ u ∈ us, plainV u
  | [], [], [], us, vs, _, hx, hy => by
    simp only [Rs] at hx hy
    subst hx; subst hy
    exact ⟨rfl, by simp⟩
  | [], [], _ :: _, us, vs, h, _, _ => by simp [eqCells] at h
  | [], _ :: _, ys, us, vs, h, _, _ => by cases ys <;> simp [eqCells] at h
  | q :: ks, [], ys, us, vs, h, _, _ => by simp [eqCells] at h
  | q :: ks, x :: xs, [], us, vs, h, _, _ => by simp [eqCells] at h
  | q :: ks, x :: xs, y :: ys, us, vs, h, hx, hy => by
    simp only [eqCells] at h
    split at h
    · rename_i a b ha hb
      injection h with h
      simp only [Bool.and_eq_true] at h
      obtain ⟨rfl, rfl⟩ := h
      simp only [Rs] at hx hy
      obtain ⟨u, ur, rfl, hu, _, hur⟩ := hx
      obtain ⟨v, vr, rfl, hv, _, hvr⟩ := hy
      obtain ⟨rfl, hp⟩ := eqCells_true hb hur hvr
      have : u = v ∧ plainV u := by
        unfold eqCell at ha
        split at ha
        · injection ha with ha
          simp only [R] at hu hv
          rw [beq_iff_eq] at ha
          subst ha
          exact ⟨hu.1.trans hv.1.symm, .inl ⟨_, hu.1⟩⟩
        · split at ha
          · injection ha with ha
            rename_i hk
            simp only [R] at hu hv
            rw [beq_iff_eq] at ha
            subst ha; subst hk
            exact ⟨hu.1.trans hv.1.symm, .inr (.inl ⟨_, _, hu.1⟩)⟩
          · cases ha
        · injection ha with ha
          simp only [R] at hu hv
          rw [beq_iff_eq] at ha
          rw [ByteArray.toList_eq, ByteArray.toList_eq] at ha
          rename_i p q
          have : p = q := by
            cases p; cases q
            simp at ha
            rw [ha]
          subst this
          exact ⟨hu.1.trans hv.1.symm, .inr (.inr ⟨_, hu.1⟩)⟩
        · cases ha
      obtain ⟨rfl, h1⟩ := this
      refine ⟨rfl, fun z hz => ?_⟩
      rcases List.mem_cons.1 hz with rfl | hz
      · exact h1
      · exact hp z hz
    · cases h
theorem sameBits_plain (n : Nat) {u : Value} (h : plainV u) : Instr.sameBits n u u = true := by
  rcases h with ⟨b, rfl⟩ | ⟨k, m, rfl⟩ | ⟨s, rfl⟩
  · cases n <;> simp [Instr.sameBits]
  · cases n <;> simp [Instr.sameBits]
  · have : (s == s) = true := by rw [beq_toListBytes]; simp
    cases n <;> simp [Instr.sameBits, this]
theorem sameBits_cells {us : List Value} (h : ∀ u ∈ us, plainV u) (ag : Bool) (h1 : ag = false → us.length = 1) : Instr.sameBits 10000 (ofCells ag us) (ofCells ag us) = true := by
  cases ag with
  | false =>
    match us, h1 rfl with
    | [u], _ => exact sameBits_plain _ (h u (by simp))
  | true =>
    show Instr.sameBits (9999 + 1) (.agg us.toArray) (.agg us.toArray) = true
    have key : ∀ l : List Value, (∀ u ∈ l, plainV u) → (l.zip l).all (fun p => Instr.sameBits 9999 p.1 p.2) = true := by
      intro l
      induction l with
      | nil => intro _; rfl
      | cons u l ih =>
        intro hl
        simp only [List.zip_cons_cons, List.all_cons, Bool.and_eq_true]
        exact ⟨sameBits_plain _ (hl u (by simp)), ih fun z hz => hl z (by simp [hz])⟩
    have := key us h
    simp only [Instr.sameBits, Bool.and_eq_true, beq_self_eq_true, true_and]
    exact this
theorem sameNow_ok {kt : TypeId} {ks : List Nat} {ds : TypeDesc} (hk : keyKinds P kt = some ks) (hd : P.underlying kt = some ds) {k : K} {xs ys : List AV} {us vs : List Value} {r : Bool} (hx : Rs k xs us) (hy : Rs k ys vs) (l1 : xs.length = ks.length) (hq : eqCells ks xs ys = some r) :
    Instr.sameNow ds (ofCells (isAggB P kt) us) (ofCells (isAggB P kt) vs) = none ∨ Instr.sameNow ds (ofCells (isAggB P kt) us) (ofCells (isAggB P kt) vs) = some r := by
  unfold keyKinds at hk
  have one : ∀ q, ks = [q] → ∃ x u y v, xs = [x] ∧ us = [u] ∧ ys = [y] ∧ vs = [v] ∧ R k x u ∧ R k y v ∧ eqCell q x y = some r := by
    rintro q rfl
    obtain ⟨_, l2⟩ := eqCells_length hq
    match xs, ys, l1, l2 with
    | [x], [y], _, _ =>
      simp only [Rs] at hx hy
      obtain ⟨u, _, rfl, hu, _, rfl⟩ := hx
      obtain ⟨v, _, rfl, hv, _, rfl⟩ := hy
      refine ⟨x, u, y, v, rfl, rfl, rfl, rfl, hu, hv, ?_⟩
      simp only [eqCells] at hq
      split at hq
      · rename_i a b h3 h4
        injection h4 with h4
        injection hq with hq
        subst h4
        simp at hq
        subst hq
        exact h3
      · cases hq
  rw [hd] at hk
  split at hk
  · rename_i e
    injection e with e
    subst e
    injection hk with hk
    obtain ⟨x, u, y, v, rfl, rfl, rfl, rfl, hu, hv, hc⟩ := one 2 hk.symm
    obtain ⟨p, q, rfl, rfl, rfl⟩ := eqCell2 hc
    simp only [R] at hu hv
    obtain ⟨rfl, _⟩ := hu
    obtain ⟨rfl, _⟩ := hv
    right
    simp only [ofCells, isAggB, hd, Bool.false_eq_true, if_false, List.getD_cons_zero, Instr.sameNow, beq_toListBytes]
  · rename_i q e
    injection e with e
    subst e
    injection hk with hk
    obtain ⟨x, u, y, v, rfl, rfl, rfl, rfl, hu, hv, hc⟩ := one 1 hk.symm
    obtain ⟨kq, p, q, rfl, rfl, rfl⟩ := eqCell1 hc
    simp only [R] at hu hv
    obtain ⟨rfl, _⟩ := hu
    obtain ⟨rfl, _⟩ := hv
    right
    simp only [ofCells, isAggB, hd, Bool.false_eq_true, if_false, List.getD_cons_zero, Instr.sameNow, if_true]
  · rename_i n e he
    injection he with he
    subst he
    left
    rfl
  · rename_i fs he
    injection he with he
    subst he
    left
    rfl
  · cases hk

theorem setM_findM {ag : Bool} {ks : List Nat} {kc : List AV} {e : AV} : ∀ {l l' : List AV}, setM ag ks kc e l = some l' → ∃ q, findM ag ks kc l = some q
  | [], l', h => ⟨none, rfl⟩
  | x :: l, l', h => by
    unfold setM at h
    unfold findM
    split at h
    · rename_i e1; cases e1
    · rename_i kx vx r e1
      injection e1 with e1 e2
      subst e1; subst e2
      split at h
      · rename_i cc ec
        split at h
        · rename_i b eb
          split at h
          · rename_i hb; simp [ec, eb, hb]
          · rename_i hb
            obtain ⟨q, hq, _⟩ := Option.map_eq_some_iff.1 h
            obtain ⟨q', hq'⟩ := setM_findM hq
            exact ⟨q', by simp [ec, eb, hb, hq']⟩
        · cases h
      · cases h
    · cases h
/-- Where an entry is found. -/
theorem find_run {kt : TypeId} {ks : List Nat} {ds : TypeDesc} (hk : keyKinds P kt = some ks) (hd : P.underlying kt = some ds) {k : K} {kc : List AV} {us : List Value} (hc : Rs k kc us) (l1 : kc.length = ks.length) (e : AV) : ∀ (l : List AV) (es : List MapEntry) (q : Option AV) (i0 : Nat), Rm k l es → findM (isAggB P kt) ks kc l = some q →
    ∃ res, (Instr.findAsking kt (ofCells (isAggB P kt) us) es i0).run P w = .ok res w ∧ (Instr.findNow ds (ofCells (isAggB P kt) us) es i0 = none ∨ Instr.findNow ds (ofCells (isAggB P kt) us) es i0 = some res) ∧
      match q with
      | none => res = none ∧ setM (isAggB P kt) ks kc e l = some (l ++ [e])
      | some x => ∃ j me, res = some (i0 + j, me.val) ∧ es[j]? = some me ∧ R k x me.val ∧ me.key = ofCells (isAggB P kt) us ∧ (∀ u ∈ us, plainV u) ∧ setM (isAggB P kt) ks kc e l = some (l.set j e)
  | [], es, q, i0, hm, hq => by
    simp only [Rm] at hm
    subst hm
    simp only [findM, Option.some.injEq] at hq
    subst hq
    exact ⟨none, by simp [Instr.findAsking], .inr rfl, rfl, rfl⟩
  | x :: l, es, q, i0, hm, hq => by
    simp only [Rm] at hm
    obtain ⟨kx, vx, me, r, rfl, rfl, hkx, hvx, hr⟩ := hm
    simp only [findM] at hq
    split at hq
    · rename_i cc ec
      obtain ⟨vs, hv, hcc⟩ := keyc_cells ec hkx
      split at hq
      · rename_i b eb
        have heq := run_keyEq (w := w) hk hc hcc l1 eb
        have hsn := sameNow_ok hk hd hc hcc l1 eb
        split at hq
        · rename_i hb
          subst hb
          injection hq with hq
          subst hq
          obtain ⟨rfl, hp⟩ := eqCells_true eb hc hcc
          refine ⟨some (i0, me.val), by simp [Instr.findAsking, hv, heq], ?_, 0, me, rfl, rfl, hvx, hv, hp, by simp [setM, ec, eb]⟩
          rcases hsn with h | h
          · left; simp only [Instr.findNow, hv, h]
          · right; simp only [Instr.findNow, hv, h]
        · rename_i hb
          have hb' : b = false := by simpa using hb
          subst hb'
          obtain ⟨res, h1, h2, h3⟩ := find_run hk hd hc l1 e l r q (i0 + 1) hr hq
          refine ⟨res, by simp [Instr.findAsking, hv, heq, h1], ?_, ?_⟩
          · rcases hsn with h | h
            · left; simp only [Instr.findNow, hv, h]
            · simp only [Instr.findNow, hv, h]; exact h2
          · cases q with
            | none =>
              obtain ⟨rfl, h4⟩ := h3
              exact ⟨rfl, by simp [setM, ec, eb, h4]⟩
            | some x =>
              obtain ⟨j, me', rfl, h4, h5, h6, h7, h8⟩ := h3
              exact ⟨j + 1, me', by simp; omega, by simpa using h4, h5, h6, h7, by simp [setM, ec, eb, h8]⟩
      · cases hq
    · cases hq
theorem run_findKeyM {kt : TypeId} {ds : TypeDesc} (hd : P.underlying kt = some ds) {kv : Value} {es : List MapEntry} {res : Option (Nat × Value)} (h1 : (Instr.findAsking kt kv es 0).run P w = .ok res w) (h2 : Instr.findNow ds kv es 0 = none ∨ Instr.findNow ds kv es 0 = some res) : (Instr.findKey kt kv es).run P w = .ok res w := by
  unfold Instr.findKey
  simp only [Sem.run_bind, run_underlying' hd, Result.andThen_ok]
  rcases h2 with h | h
  · rw [h]; exact h1
  · rw [h]; simp
theorem keyKinds_underlying {kt : TypeId} {ks : List Nat} (hk : keyKinds P kt = some ks) : ∃ ds, P.underlying kt = some ds := by
  cases h : P.underlying kt with
  | none => simp [keyKinds, h] at hk
  | some ds => exact ⟨ds, rfl⟩
end
/-! ### the operations -/
def setBlk (w : World) (b : Nat) (o : Obj) : World := { w with heap := w.heap.setIfInBounds b o }
theorem setBlk_same {w : World} {b : Nat} {o : Obj} (h : b < w.heap.size) : (setBlk w b o).heap[b]? = some o := by simp [setBlk, h]
theorem setBlk_other {w : World} {b b' : Nat} {o : Obj} (h : b' ≠ b) : (setBlk w b o).heap[b']? = w.heap[b']? := by simp [setBlk, Array.getElem?_setIfInBounds, Ne.symm h]
theorem setBlk_size {w : World} {b : Nat} {o : Obj} : (setBlk w b o).heap.size = w.heap.size := by simp [setBlk]
theorem setBlk_cell {w : World} {b : Nat} {o : Obj} {p : Addr} (h : p.block ≠ b) : (setBlk w b o).cell? p = w.cell? p := by
  unfold World.cell?
  rw [setBlk_other h]
section
variable {P : Program} {T : List Nat} {Φ : Orc} {d : Nat} {c : Cx σ} {st st' : St σ} {x : AV} {a : Act} {w : World} {ow : Nat → Own} {τ : Nat → Nat} {ob : Nat → Value → Prop}
  {dst : Option Nat} {type : TypeId} {pos : String} {after : Array Edge} {guard : Option (Nat × Bool)}
/-- A store into a map's variable. -/
theorem FR.setMap (h : FR c st a w ow τ ob) {d b : Nat} (hb : c.base ≤ b) (hv : ow b = .var d) {xs : List AV} {es es0 : Array MapEntry} {clk clk0 : Nat} (hc0 : w.heap[b]? = some (.map es0 clk0)) (hr : Rm (Kof c st w ow τ ob) xs es.toList) :
    FR c { st with var := upd st.var d xs } a (setBlk w b (.map es clk)) ow τ ob := by
  have hlt : b < w.heap.size := (Array.getElem?_eq_some_iff.1 hc0).1
  have hcell : ∀ p : Addr, p.block ≠ b → (setBlk w b (.map es clk)).cell? p = w.cell? p := fun p hp => setBlk_cell hp
  have hk : KLe (Kof c st w ow τ ob) (Kof c { st with var := upd st.var d xs } (setBlk w b (.map es clk)) ow τ ob) := by
    refine KLe_of ?_ ?_ ?_ (fun _ => Nat.le_refl _) ?_ (fun _ => Nat.le_refl _) (fun _ _ _ h => h) ?_ (fun _ _ h => h)
    · intro p hp
      have := (c.g0 p hp).1
      exact hcell p (by omega)
    · intro p hb' hi
      exact ⟨hcell p (by rintro rfl; rw [hi] at hv; cases hv), hi⟩
    · intro p t hb' hi hlt
      exact ⟨hcell p (by rintro rfl; rw [hi] at hv; cases hv), .inr ⟨t, hi, hlt⟩⟩
    · intro d' b' _ hb' hv'
      refine ⟨hv', fun q hq => ?_⟩
      by_cases e : b' = b
      · subst e
        rw [setBlk_same hlt]
        rw [hc0] at hq
        cases q with
        | none => trivial
        | some z => exact hq.elim
      · rw [setBlk_other e]; exact hq
    · intro t n b' cur T' _ _ hb' ht hc
      refine ⟨ht, rfl, cur, T', ?_, rfl⟩
      rw [setBlk_other (by rintro rfl; rw [ht] at hv; cases hv)]; exact hc
  refine h.turn rfl hk ⟨rfl, rfl, rfl, by rw [setBlk_size]; exact Nat.le_refl _, fun k hk _ => setBlk_other (by omega)⟩ ?_ ?_ h.uniq ?_
  · intro b' hb' ho; rw [setBlk_size]; exact h.lt b' hb' ho
  · intro d' b' hb' hv'
    by_cases e : b' = b
    · subst e
      have : d' = d := by rw [hv] at hv'; injection hv' with hv'; exact hv'.symm
      subst this
      refine ⟨_, setBlk_same hlt, ?_⟩
      show VR _ (upd st.var d' xs d') _
      rw [upd_same]
      exact Rm_mono hk _ _ hr
    · have hd : d' ≠ d := by
        rintro rfl
        exact e (h.uniq d' b' b hb' hb hv' hv)
      obtain ⟨obj', hc, hr'⟩ := h.vars d' b' hb' hv'
      refine ⟨obj', by rw [setBlk_other e]; exact hc, ?_⟩
      show VR _ (upd st.var d xs d') _
      rw [upd_ne _ _ _ hd]
      exact VR_mono hk hr'
  · refine c.stable _ _ _ _ _ h.ext fun b' hb' => setBlk_other ?_
    rcases hb' with ⟨hb', _⟩ | ⟨hb', hx⟩
    · omega
    · rintro rfl; rw [hx] at hv; cases hv
theorem map_block (h : FR c st a w ow τ ob) {d b : Nat} (hv : (Kof c st w ow τ ob).vb d b none) : ∃ es clk, w.heap[b]? = some (.map es clk) ∧ Rm (Kof c st w ow τ ob) (st.var d) es.toList := by
  obtain ⟨hb, ho, hs⟩ := hv
  obtain ⟨obj, hc, hr⟩ := h.vars d b hb ho
  rw [hc] at hs
  cases obj with
  | map es clk => exact ⟨es, clk, hc, hr⟩
  | _ => exact hs.elim
theorem sim_mkmap (h : FR c st a w ow τ ob) {t : TypeId} (ha : act Φ d st .mkmap = some (x, st')) : Sim P c st' x ⟨dst, .makeMap t none, type, pos, after, guard⟩ a w ob := by
  simp only [act, Option.some.injEq, Prod.mk.injEq] at ha
  obtain ⟨rfl, rfl⟩ := ha
  obtain ⟨k1, _, k3, k4⟩ := h.newVarO d (xs := []) (.map #[] 0) rfl
  intro K Q hK
  refine wp_value (v := .map (some w.heap.size)) (w' := w.alloc (.map #[] 0)) ?_ (hK _ _ _ _ k1 ?_)
  · simp [execOp, Instr.makeMap]
  · simp only [R]
    exact ⟨k3, rfl, fun _ => ⟨_, k4 none trivial, rfl⟩⟩
theorem keyc_one {x : AV} {l : List AV} (h : x.keyc false = some l) : l.length = 1 := by
  cases x <;> simp [AV.keyc] at h
  subst h; rfl
theorem keyc_ev {ag : Bool} {ks : List Nat} {kx : AV} {kc : List AV} {k : K} {v : Value} (h : kx.keyc ag = some kc) (hl : kc.length = ks.length) (hR : R k kx v) : ∃ us, v = ofCells ag us ∧ Rs k kc us ∧ us.length = ks.length := by
  obtain ⟨us, h1, h2⟩ := keyc_cells h hR
  exact ⟨us, h1, h2, (Rs_length h2).trans hl⟩
theorem sim_mget (h : FR c st a w ow τ ob) {t kt et : TypeId} {m y : Operand} {comma : Bool} {ks : List Nat} {i : TypeInfo} {z : Value} (ht : P.underlying t = some (.map kt et)) (hk : keyKinds P kt = some ks) (hi : P.info? et = some i) (hz : i.zero = some z)
    (ha : act Φ d st (.mget (isAggB P kt) ks z comma m y) = some (x, st')) : Sim P c st' x ⟨dst, .lookup t m y comma, type, pos, after, guard⟩ a w ob := by
  simp only [act] at ha
  have hm := R_ev h m
  have hy := R_ev h y
  obtain ⟨ds, hd⟩ := keyKinds_underlying hk
  have tup : ∀ {x : AV} {v : Value} (b : Bool), R (Kof c st w ow τ ob) x v → R (Kof c st w ow τ ob) (if comma then .tup [x, .imm (.bool b)] else x) (if comma then Value.tuple #[v, .bool b] else v) := by
    intro x v b hx
    cases comma
    · exact hx
    · simp only [if_true]
      unfold R
      refine ⟨_, rfl, ?_⟩
      simp only [Rt]
      exact ⟨_, _, rfl, hx, _, _, rfl, by unfold R; exact ⟨rfl, rfl⟩, rfl⟩
  split at ha
  · rename_i d' g kc em ek
    rw [em] at hm
    obtain ⟨us, hv, hcs, hl⟩ : ∃ us, a.eval y = ofCells (isAggB P kt) us ∧ Rs (Kof c st w ow τ ob) kc us ∧ True := by
      obtain ⟨us, h1, h2⟩ := keyc_cells ek hy
      exact ⟨us, h1, h2, trivial⟩
    split at ha
    · rename_i hc
      obtain ⟨hg, hkl⟩ := hc
      obtain ⟨r, hr, hx⟩ := Option.map_eq_some_iff.1 ha
      simp only [Prod.mk.injEq] at hx
      obtain ⟨rfl, rfl⟩ := hx
      simp only [R] at hm
      obtain ⟨b, hvb, hmv⟩ := hm.2.2 hg
      obtain ⟨es, clk, hheap, hRm⟩ := map_block h hvb
      obtain ⟨res, f1, f2, f3⟩ := find_run (w := w) hk hd hcs hkl (.tup []) _ _ r 0 hRm hr
      have hfk := run_findKeyM hd f1 f2
      have hck := run_checkKeyN (w := w) hk es.isEmpty 9998 (us := us) (by rw [Rs_length hcs]; exact hkl)
      have hget := MapKept.run_getObj_map (P := P) hheap
      cases r with
      | none =>
        obtain ⟨rfl, _⟩ := f3
        refine sim_same h (v := if comma then Value.tuple #[z, .bool false] else z) ?_ (tup false (R_ofV _ z))
        simp only [execOp, hmv, hv, Instr.lookup, Sem.run_bind, run_underlying' ht, Result.andThen_ok, hget, Sem.run_pure, hck, hfk, run_zeroValue' hi hz]
      | some x =>
        obtain ⟨j, me, rfl, _, e3, _⟩ := f3
        refine sim_same h (v := if comma then Value.tuple #[me.val, .bool true] else me.val) ?_ (tup true e3)
        simp only [execOp, hmv, hv, Instr.lookup, Sem.run_bind, run_underlying' ht, Result.andThen_ok, hget, Sem.run_pure, hck, hfk]
    · cases ha
  · rename_i kc em ek
    rw [em] at hm
    obtain ⟨us, hv, hcs⟩ := keyc_cells ek hy
    split at ha
    · rename_i hkl
      simp only [Option.some.injEq, Prod.mk.injEq] at ha
      obtain ⟨rfl, rfl⟩ := ha
      simp only [R] at hm
      obtain ⟨res, f1, f2, f3⟩ := find_run (w := w) (k := Kof c st w ow τ ob) hk hd hcs hkl (.tup []) [] [] none 0 rfl rfl
      have hfk := run_findKeyM hd f1 f2
      have hck := run_checkKeyN (w := w) hk true 9998 (us := us) (by rw [Rs_length hcs]; exact hkl)
      obtain ⟨rfl, _⟩ := f3
      refine sim_same h (v := if comma then Value.tuple #[z, .bool false] else z) ?_ (tup false (R_ofV _ z))
      have e0 : (#[] : Array MapEntry).isEmpty = true := rfl
      simp only [execOp, hm.1, hv, Instr.lookup, Sem.run_bind, run_underlying' ht, Result.andThen_ok, Sem.run_pure, e0, hck, hfk, run_zeroValue' hi hz]
    · cases ha
  · cases ha
theorem sim_mset (h : FR c st a w ow τ ob) {t kt et : TypeId} {m y u : Operand} {ks : List Nat} (ht : P.underlying t = some (.map kt et)) (hk : keyKinds P kt = some ks)
    (ha : act Φ d st (.mset (isAggB P kt) ks m y u) = some (x, st')) : Sim P c st' x ⟨dst, .mapUpdate t m y u, type, pos, after, guard⟩ a w ob := by
  simp only [act] at ha
  have hm := R_ev h m
  have hy := R_ev h y
  have hu := R_ev h u
  obtain ⟨ds, hd⟩ := keyKinds_underlying hk
  split at ha
  · rename_i d' g kc em ek
    rw [em] at hm
    obtain ⟨us, hv, hcs⟩ := keyc_cells ek hy
    split at ha
    · rename_i hc
      obtain ⟨hg, hkl⟩ := hc
      obtain ⟨l', hl', hx⟩ := Option.map_eq_some_iff.1 ha
      simp only [Prod.mk.injEq] at hx
      obtain ⟨rfl, rfl⟩ := hx
      simp only [R] at hm
      obtain ⟨b, hvb, hmv⟩ := hm.2.2 hg
      obtain ⟨es, clk, hheap, hRm⟩ := map_block h hvb
      obtain ⟨r, hr⟩ := setM_findM hl'
      obtain ⟨res, f1, f2, f3⟩ := find_run (w := w) hk hd hcs hkl (.tup [st.ev y, st.ev u]) _ _ r 0 hRm hr
      have hfk := run_findKeyM hd f1 f2
      have hck := run_checkKeyN (w := w) hk false 9998 (us := us) (by rw [Rs_length hcs]; exact hkl)
      have hget := MapKept.run_getObj_map (P := P) hheap
      intro K Q hK
      have happ : ∀ (l : List AV) (l1 : List MapEntry) (y' : AV) (z' : List AV) (me : MapEntry), Rm (Kof c st w ow τ ob) l l1 → Rm (Kof c st w ow τ ob) [y'] [me] → Rm (Kof c st w ow τ ob) (l ++ [y']) (l1 ++ [me]) := by
        intro l
        induction l with
        | nil => intro l1 y' z' me h1 h2; simp only [Rm] at h1; subst h1; exact h2
        | cons q l ih =>
          intro l1 y' z' me h1 h2
          simp only [Rm, List.cons_append] at h1 ⊢
          obtain ⟨kx, vx, e, r, e1, rfl, h3, h4, h5⟩ := h1
          exact ⟨kx, vx, e, r ++ [me], e1, rfl, h3, h4, ih r y' z' me h5 h2⟩
      have hset : ∀ (l : List AV) (l1 : List MapEntry) (j : Nat) (y' : AV) (me : MapEntry), Rm (Kof c st w ow τ ob) l l1 → Rm (Kof c st w ow τ ob) [y'] [me] → Rm (Kof c st w ow τ ob) (l.set j y') (l1.set j me) := by
        intro l
        induction l with
        | nil => intro l1 j y' me h1 h2; simp only [Rm] at h1; subst h1; simp [Rm]
        | cons q l ih =>
          intro l1 j y' me h1 h2
          simp only [Rm] at h1
          obtain ⟨kx, vx, e, r, e1, rfl, h3, h4, h5⟩ := h1
          cases j with
          | zero =>
            simp only [Rm] at h2
            obtain ⟨kx', vx', e', r', e1', e2', h3', h4', _⟩ := h2
            injection e2' with e2' _
            subst e2'
            simp only [List.set_cons_zero, Rm]
            exact ⟨kx', vx', _, r, e1', rfl, h3', h4', h5⟩
          | succ j =>
            simp only [List.set_cons_succ, Rm]
            exact ⟨kx, vx, e, _, e1, rfl, h3, h4, ih r j y' me h5 h2⟩
      have one : ∀ born, Rm (Kof c st w ow τ ob) [.tup [st.ev y, st.ev u]] [{ key := a.eval y, val := a.eval u, born := born }] := fun born => by
        simp only [Rm]
        exact ⟨_, _, _, _, rfl, rfl, hy, hu, rfl⟩
      cases r with
      | none =>
        obtain ⟨rfl, f4⟩ := f3
        rw [hl'] at f4
        injection f4 with f4
        subst f4
        have hF := h.setMap (clk := clk + 1) hvb.1 hvb.2.1 hheap (xs := st.var d' ++ [.tup [st.ev y, st.ev u]]) (es := es.push { key := a.eval y, val := a.eval u, born := clk }) (by
          simp only [Array.toList_push]
          exact happ _ _ _ [] _ hRm (one clk))
        have hst := MapKept.run_setObj_map (P := P) (.map (es.push { key := a.eval y, val := a.eval u, born := clk }) (clk + 1)) hheap
        refine wp_skip' (w' := setBlk w b (.map (es.push { key := a.eval y, val := a.eval u, born := clk }) (clk + 1))) ?_ (hK undef _ _ _ hF (R_undef _))
        rw [← hv] at hck hfk
        simp only [execOp, hmv, Instr.mapUpdate, Sem.run_bind, run_underlying' ht, Result.andThen_ok, hget, hck, hfk, hst, Sem.run_pure, setBlk]
      | some x =>
        obtain ⟨j, me, rfl, e2, e3, e4, e5, f4⟩ := f3
        rw [hl'] at f4
        injection f4 with f4
        subst f4
        have hjl : j < es.size := by have := (List.getElem?_eq_some_iff.1 e2).1; simpa using this
        have hF := h.setMap (clk := clk) hvb.1 hvb.2.1 hheap (xs := (st.var d').set j (.tup [st.ev y, st.ev u])) (es := es.modify (0 + j) fun e => { e with key := a.eval y, val := a.eval u }) (by
          have e6 : (es.modify (0 + j) fun e => { e with key := a.eval y, val := a.eval u }).toList = es.toList.set j { key := a.eval y, val := a.eval u, born := me.born } := by
            apply List.ext_getElem?
            intro q
            have e2' : es[j]? = some me := by simpa using e2
            simp only [Array.getElem?_toList, Array.getElem?_modify, Nat.zero_add, List.getElem?_set, Array.length_toList]
            by_cases hq : j = q
            · subst hq
              have e7 : es[j] = me := by rw [Array.getElem?_eq_getElem hjl] at e2'; exact Option.some.inj e2'
              simp [hjl, e7]
            · simp [hq]
          rw [e6]
          exact hset _ _ _ _ _ hRm (one me.born))
        have hst := MapKept.run_setObj_map (P := P) (.map (es.modify (0 + j) fun e => { e with key := a.eval y, val := a.eval u }) clk) hheap
        refine wp_skip' (w' := setBlk w b (.map (es.modify (0 + j) fun e => { e with key := a.eval y, val := a.eval u }) clk)) ?_ (hK undef _ _ _ hF (R_undef _))
        have hkey : ((es[0 + j]?).map (·.key)).getD (a.eval y) = ofCells (isAggB P kt) us := by
          have e2' : es[j]? = some me := by simpa using e2
          rw [Nat.zero_add, e2']
          exact e4
        have hks : Instr.sameBits 10000 (ofCells (isAggB P kt) us) (a.eval y) = true := by
          rw [hv]
          refine sameBits_cells e5 _ fun hag => ?_
          have := Rs_length hcs
          have hkc : kc.length = 1 := by
            rw [hag] at ek
            exact keyc_one ek
          omega
        rw [← hv] at hck hfk
        simp only [execOp, hmv, Instr.mapUpdate, Sem.run_bind, run_underlying' ht, Result.andThen_ok, hget, hck, hfk, hkey, Instr.keyThatStays, hks, if_true, hst, Sem.run_pure, setBlk]
    · cases ha
  · cases ha
theorem sim_insert (h : FR c st a w ow τ ob) {t kt et : TypeId} {m y u : Operand} {ks : List Nat} (ht : P.underlying t = some (.map kt et)) (hk : keyKinds P kt = some ks)
    (ha : act Φ d st (.mset (isAggB P kt) ks m y u) = some (x, st')) : Sim P c st' x ⟨dst, .insert t m y u, type, pos, after, guard⟩ a w ob :=
  sim_mset (type := type) (pos := pos) (after := after) (guard := guard) h ht hk ha
theorem sim_mlen (h : FR c st a w ow τ ob) {t kt et : TypeId} {y : Operand} {args : Array Operand} {argTypes : Array TypeId} (hargs : args.toList = [y]) (htys : argTypes.toList = [t]) (ht : P.underlying t = some (.map kt et))
    (ha : act Φ d st (.mlen y) = some (x, st')) : Sim P c st' x ⟨dst, .call { callee := .builtin .len, args := args, argTypes := argTypes }, type, pos, after, guard⟩ a w ob := by
  have e1 : args = #[y] := by rw [← Array.toArray_toList (xs := args), hargs]
  have e2 : argTypes = #[t] := by rw [← Array.toArray_toList (xs := argTypes), htys]
  subst e1
  subst e2
  simp only [act] at ha
  have hy := R_ev h y
  split at ha
  · rename_i d' g e
    rw [e] at hy
    split at ha
    · rename_i hg
      simp only [Option.some.injEq, Prod.mk.injEq] at ha
      obtain ⟨rfl, rfl⟩ := ha
      simp only [R] at hy
      obtain ⟨b, hvb, hmv⟩ := hy.2.2 hg
      obtain ⟨es, clk, hheap, hRm⟩ := map_block h hvb
      have hlen : es.size = (st.var d').length := by
        have : ∀ (l : List AV) (l1 : List MapEntry), Rm (Kof c st w ow τ ob) l l1 → l1.length = l.length := by
          intro l
          induction l with
          | nil => intro l1 h1; simp only [Rm] at h1; simp [h1]
          | cons q l ih =>
            intro l1 h1
            simp only [Rm] at h1
            obtain ⟨kx, vx, e, r, e1, rfl, h3, h4, h5⟩ := h1
            simp [ih r h5]
        simpa using this _ _ hRm
      have hget := MapKept.run_getObj_map (P := P) hheap
      refine sim_same h (v := .int .i64 (st.var d').length) ?_ (by unfold R; exact ⟨rfl, rfl⟩)
      simp [execOp, resolve, invoke, builtin, Builtin.len_, run_underlying' ht, hmv, hget, goInt, hlen]
    · cases ha
  · rename_i e
    rw [e] at hy
    simp only [R] at hy
    simp only [Option.some.injEq, Prod.mk.injEq] at ha
    obtain ⟨rfl, rfl⟩ := ha
    exact sim_same h (v := .int .i64 0) (by simp [execOp, resolve, invoke, builtin, Builtin.len_, run_underlying' ht, hy.1, goInt]) (by unfold R; exact ⟨rfl, rfl⟩)
  · cases ha
end
end Go.Av
