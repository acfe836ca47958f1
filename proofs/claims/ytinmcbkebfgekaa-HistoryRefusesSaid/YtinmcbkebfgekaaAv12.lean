/-
  OWN TEXT. Each operation of the program does what 'act' says: equality of structs, append, calls; and all of them together.
-/
import Derived.Test.YtinmcbkebfgekaaAv11
set_option linter.all false
set_option linter.unusedVariables false
set_option linter.unusedSimpArgs false
namespace Go.Av
variable {σ : Type}

theorem eqCells_split : ∀ {k1 k2 : List Nat} {xs ys : List AV} {r : Bool}, eqCells (k1 ++ k2) xs ys = some r → ∃ r1 r2, eqCells k1 (xs.take k1.length) (ys.take k1.length) = some r1 ∧ eqCells k2 (xs.drop k1.length) (ys.drop k1.length) = some r2 ∧ r = (r1 && r2)
  | [], k2, xs, ys, r, h => ⟨true, r, by simp [eqCells], by simpa using h, by simp⟩
  | k :: k1, k2, [], ys, r, h => by simp [eqCells] at h
  | k :: k1, k2, x :: xs, [], r, h => by simp [eqCells] at h
  | k :: k1, k2, x :: xs, y :: ys, r, h => by
    simp only [List.cons_append, eqCells] at h
    split at h
    · rename_i a b h1 h2
      injection h with h
      subst h
      obtain ⟨r1, r2, e1, e2, e3⟩ := eqCells_split h2
      refine ⟨a && r1, r2, ?_, by simpa using e2, by rw [e3, Bool.and_assoc]⟩
      simp [eqCells, h1, e1]
    · cases h

theorem eqCell0 {x y : AV} {r : Bool} (h : eqCell 0 x y = some r) : ∃ a b, x = .imm (.bool a) ∧ y = .imm (.bool b) ∧ r = (a == b) := by
  unfold eqCell at h
  split at h <;> first
    | (injection h with h; exact ⟨_, _, rfl, rfl, h.symm⟩)
    | simp_all
theorem eqCell1 {x y : AV} {r : Bool} (h : eqCell 1 x y = some r) : ∃ k a b, x = .imm (.int k a) ∧ y = .imm (.int k b) ∧ r = (a == b) := by
  unfold eqCell at h
  split at h <;> first
    | (split at h
       · rename_i e; subst e; injection h with h; exact ⟨_, _, _, rfl, rfl, h.symm⟩
       · cases h)
    | simp_all
theorem eqCell2 {x y : AV} {r : Bool} (h : eqCell 2 x y = some r) : ∃ a b, x = .imm (.string a) ∧ y = .imm (.string b) ∧ r = (a.toList == b.toList) := by
  unfold eqCell at h
  split at h <;> first
    | (injection h with h; exact ⟨_, _, rfl, rfl, h.symm⟩)
    | simp_all
section
variable {P : Program}
theorem eqKinds_underlying {n : Nat} {t : TypeId} {ks : List Nat} (h : eqKinds P n t = some ks) : ∃ d, P.underlying t = some d := by
  cases n with
  | zero => simp [eqKinds] at h
  | succ n =>
    cases e : P.underlying t with
    | none => simp [eqKinds, e] at h
    | some d => exact ⟨d, rfl⟩
theorem run_eqKinds (w : World) (k : K) : ∀ n, (∀ t ks, eqKinds P n t = some ks → ∀ D, n ≤ D → ∀ (us vs : List Value) (xs ys : List AV) (r : Bool), Rs k xs us → Rs k ys vs → us.length = ks.length → vs.length = ks.length → eqCells ks xs ys = some r →
      (Op.equalIn D t (ofCells (isAggB P t) us) (ofCells (isAggB P t) vs)).run P w = .ok r w) ∧
    (∀ fs off ks, eqKindsF P n fs off = some ks → ∀ D, n ≤ D → ∀ (us vs : Array Value) (xs ys : List AV) (r : Bool), Rs k xs us.toList → Rs k ys vs.toList → us.size = off + ks.length → vs.size = off + ks.length → eqCells ks (xs.drop off) (ys.drop off) = some r →
      (Op.eqFields D us vs fs).run P w = .ok r w) := by
  intro n
  induction n with
  | zero =>
    refine ⟨fun t ks h => by simp [eqKinds] at h, fun fs off ks h D hD us vs xs ys r hx hy h1 h2 he => ?_⟩
    cases fs with
    | nil =>
      simp only [eqKindsF, Option.some.injEq] at h
      subst h
      simp only [List.length_nil, Nat.add_zero] at h1 h2
      have hxl := Rs_length hx
      have hyl := Rs_length hy
      rw [List.drop_of_length_le (by simp at hxl; omega), List.drop_of_length_le (by simp at hyl; omega)] at he
      simp only [eqCells, Option.some.injEq] at he
      subst he
      simp [Op.eqFields]
    | cons f fs => simp [eqKindsF] at h
  | succ n ih =>
    obtain ⟨ihA, ihB⟩ := ih
    constructor
    · intro t ks h D hD us vs xs ys r hx hy h1 h2 he
      obtain ⟨D, rfl⟩ : ∃ D', D = D' + 1 := ⟨D - 1, by omega⟩
      simp only [eqKinds] at h
      have one : ∀ (q : Nat), ks = [q] → isAggB P t = false → ∃ x u y v, xs = [x] ∧ us = [u] ∧ ys = [y] ∧ vs = [v] ∧ R k x u ∧ R k y v ∧ eqCell q x y = some r := by
        intro q hq _
        subst hq
        match us, vs, h1, h2 with
        | [u], [v], _, _ =>
          have hxl := Rs_length hx
          have hyl := Rs_length hy
          match xs, ys, hxl, hyl with
          | [x], [y], _, _ =>
            simp only [Rs] at hx hy
            obtain ⟨_, _, e, hx, _, rfl⟩ := hx
            obtain ⟨_, _, e', hy, _, rfl⟩ := hy
            injection e with e _
            injection e' with e' _
            subst e; subst e'
            refine ⟨x, u, y, v, rfl, rfl, rfl, rfl, hx, hy, ?_⟩
            simp only [eqCells] at he
            split at he
            · rename_i a b h3 h4
              injection h4 with h4
              injection he with he
              subst h4
              simp at he
              subst he
              exact h3
            · cases he
      split at h
      · rename_i hu
        injection h with h
        obtain ⟨x, u, y, v, rfl, rfl, rfl, rfl, hx, hy, hc⟩ := one 0 h.symm (by simp [isAggB, hu])
        obtain ⟨p, q, rfl, rfl, rfl⟩ := eqCell0 hc
        simp only [R] at hx hy
        obtain ⟨rfl, _⟩ := hx
        obtain ⟨rfl, _⟩ := hy
        simp only [ofCells, isAggB, hu, Bool.false_eq_true, if_false, List.getD_cons_zero]
        exact run_equalIn_bool' w D t _ _ hu
      · rename_i q hu
        injection h with h
        obtain ⟨x, u, y, v, rfl, rfl, rfl, rfl, hx, hy, hc⟩ := one 1 h.symm (by simp [isAggB, hu])
        obtain ⟨k', p, q', rfl, rfl, rfl⟩ := eqCell1 hc
        simp only [R] at hx hy
        obtain ⟨rfl, _⟩ := hx
        obtain ⟨rfl, _⟩ := hy
        simp only [ofCells, isAggB, hu, Bool.false_eq_true, if_false, List.getD_cons_zero]
        exact run_equalIn_int w D t _ _ _ _ hu
      · rename_i hu
        injection h with h
        obtain ⟨x, u, y, v, rfl, rfl, rfl, rfl, hx, hy, hc⟩ := one 2 h.symm (by simp [isAggB, hu])
        obtain ⟨p, q, rfl, rfl, rfl⟩ := eqCell2 hc
        simp only [R] at hx hy
        obtain ⟨rfl, _⟩ := hx
        obtain ⟨rfl, _⟩ := hy
        simp only [ofCells, isAggB, hu, Bool.false_eq_true, if_false, List.getD_cons_zero]
        exact run_equalIn_string w D t _ _ hu
      · rename_i fs hu
        split at h
        · cases h
        · rename_i hs
          have hfs : P.fieldsOf t = fs := by simp [Program.fieldsOf, hu]
          have hag : isAggB P t = true := by simp [isAggB, hu]
          rw [hag]
          simp only [ofCells, if_true]
          rw [run_equalIn_struct w D t _ _ (by rw [hfs]; exact hu) (by simpa using hs), hfs]
          exact ihB fs.toList 0 ks h D (by omega) us.toArray vs.toArray xs ys r (by simpa using hx) (by simpa using hy) (by simpa using h1) (by simpa using h2) (by simpa using he)
      · cases h
    · intro fs off ks h D hD us vs xs ys r hx hy h1 h2 he
      cases fs with
      | nil =>
        simp only [eqKindsF, Option.some.injEq] at h
        subst h
        simp only [List.length_nil, Nat.add_zero] at h1 h2
        have hxl := Rs_length hx
        have hyl := Rs_length hy
        rw [List.drop_of_length_le (by simp at hxl; omega), List.drop_of_length_le (by simp at hyl; omega)] at he
        simp only [eqCells, Option.some.injEq] at he
        subst he
        simp [Op.eqFields]
      | cons f fs =>
        simp only [eqKindsF] at h
        split at h
        · rename_i ks1 i hk hi
          split at h
          · rename_i hc
            obtain ⟨hn, ho, hl, hag⟩ := hc
            obtain ⟨ks2, hk2, rfl⟩ := Option.map_eq_some_iff.1 h
            obtain ⟨r1, r2, e1, e2, rfl⟩ := eqCells_split he
            obtain ⟨d, hu⟩ := eqKinds_underlying hk
            rw [List.length_append] at h1 h2
            have hagg : (isAggB P f.type || i.size == 1) = true := by rcases hag with h | h <;> simp [h]
            have p1 := run_part' (w := w) hi hu hagg (cs := us) (off := f.offset) (by omega)
            have p2 := run_part' (w := w) hi hu hagg (cs := vs) (off := f.offset) (by omega)
            subst ho
            rw [hl] at e1
            have hA := ihA f.type ks1 hk D (by omega) ((us.toList.drop f.offset).take i.size) ((vs.toList.drop f.offset).take i.size) _ _ r1 (Rs_take i.size (Rs_drop f.offset hx)) (Rs_take i.size (Rs_drop f.offset hy)) (by simp; omega) (by simp; omega) e1
            have hB := ihB fs (f.offset + i.size) ks2 hk2 D (by omega) us vs xs ys r2 hx hy (by omega) (by omega) (by rw [hl, List.drop_drop, List.drop_drop] at e2; exact e2)
            have hne : f.name ≠ "_" := hn
            simp only [Op.eqFields, hne, ne_eq, not_false_eq_true, if_true, Sem.run_bind, p1, Result.andThen_ok, p2, hA, Sem.run_ite, hB, Sem.run_pure]
            cases r1 <;> simp
          · cases h
        · cases h
end
end Go.Av
