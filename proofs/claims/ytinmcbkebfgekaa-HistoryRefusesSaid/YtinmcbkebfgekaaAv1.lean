/-
  OWN TEXT. Abstract values over the model: what a value of the machine stands for, said of immutable cells, of variables of the running call and of tokens to append.
-/
import Derived.WalkKit
import Derived.Below
import Derived.Laws.CopyRow
import Derived.Laws.AppendOwn
set_option linter.all false
set_option linter.unusedVariables false
set_option linter.unusedSimpArgs false
namespace Go.Av
open Go.RowKit (Below)

/-- May a slice be appended to: not known (ro); its capacity is its length (full); the call's own spare cells, by token (own). -/
inductive Tok where
  | ro
  | full
  | own (t g : Nat)

/-- Abstract values. -/
inductive AV where
  | imm (v : Value)
  | sl (sz : Nat) (tok : Tok) (rows : List (List AV))
  | agg (cs : List AV)
  | tup (vs : List AV)
  | ptr (d g off : Nat)
  | eptr (cs : List AV) (off : Nat)
  | obj (i : Nat)
  | fv (f : Nat) (first caps : List AV)
  | vsl (d g sz off n : Nat) (cp : Option Nat)
  | mp (d g : Nat)
  | dead

/-- What is known of memory. ic: an immutable cell holds a value; pg, pc, vb: generations of variables, the block of one (some z: cells, at least z; none: a map); tg, tc, tb: the same of tokens; ob: outside objects . -/
structure K where
  ic : Addr → Value → Prop
  pg : Nat → Nat → Prop
  pc : Nat → Nat → Prop
  vb : Nat → Nat → Option Nat → Prop
  tg : Nat → Nat → Prop
  tc : Nat → Nat → Nat → Prop
  tb : Nat → Nat → Nat → Nat → Prop
  ob : Nat → Value → Prop

/-- What is known of immutable cells alone. -/
def K.pure (k : K) : K := ⟨k.ic, fun _ _ => False, fun _ _ => False, fun _ _ _ => False, fun _ _ => False, fun _ _ _ => False, fun _ _ _ _ => False, fun _ _ => False⟩
theorem K.pure_pure (k : K) : k.pure.pure = k.pure := rfl

mutual
/-- The value v stands for the abstract value. -/
def R (k : K) : AV → Value → Prop
  | .imm u, v => v = u ∧ u.oneCell' = true
  | .agg cs, v => ∃ arr, v = .agg arr ∧ Rs k cs arr.toList
  | .tup vs, v => ∃ arr, v = .tuple arr ∧ Rt k vs arr.toList
  | .ptr d g off, v => k.pg d g ∧ v.oneCell' = true ∧ (k.pc d g → ∃ b, k.vb d b (some 0) ∧ v = .pointer (some ⟨b, off, none⟩))
  | .eptr cs off, v => ∃ b o, v = .pointer (some ⟨b, o + off, none⟩) ∧ rowAt k.pure cs b o
  | .sl sz tok rows, v => ∃ A c, v = .slice A rows.length c ∧ rows.length ≤ c ∧ c ≤ maxLen ∧ (rows ≠ [] → ∃ b o, A = some ⟨b, o, none⟩ ∧ rowsAt k.pure sz rows b o) ∧
      (match tok with
       | .ro => True
       | .full => c = rows.length
       | .own t g => k.tg t g ∧ (k.tc t g rows.length → c = rows.length ∨ ∃ b, A = some ⟨b, 0, none⟩ ∧ k.tb t b (rows.length * sz) (c * sz)))
  | .obj i, v => k.ob i v ∧ v.oneCell' = true
  | .fv f first caps, v => ∃ us vs, v = .func (.func f) us vs ∧ Rt k first us.toList ∧ Rt k caps vs.toList
  | .vsl d g sz off n cp, v => k.pg d g ∧ ∃ A c, v = .slice A n c ∧ n ≤ c ∧ c ≤ maxLen ∧ (∀ c', cp = some c' → c' = c) ∧ (k.pc d g → ∃ b o, k.vb d b (some (off + c * sz)) ∧ A = some ⟨b, o, none⟩ ∧ (0 < c → o = off))
  | .mp d g, v => k.pg d g ∧ v.oneCell' = true ∧ (k.pc d g → ∃ b, k.vb d b none ∧ v = .map (some b))
  | .dead, _ => True
/-- Cells. -/
def Rs (k : K) : List AV → List Value → Prop
  | [], vs => vs = []
  | x :: xs, vs => ∃ v r, vs = v :: r ∧ R k x v ∧ v.oneCell' = true ∧ Rs k xs r
/-- Results. -/
def Rt (k : K) : List AV → List Value → Prop
  | [], vs => vs = []
  | x :: xs, vs => ∃ v r, vs = v :: r ∧ R k x v ∧ Rt k xs r
/-- Immutable cells in memory. -/
def rowAt (k : K) : List AV → Nat → Nat → Prop
  | [], _, _ => True
  | x :: xs, b, o => (∃ v, k.ic ⟨b, o, none⟩ v ∧ R k x v ∧ v.oneCell' = true) ∧ rowAt k xs b (o + 1)
def rowsAt (k : K) (sz : Nat) : List (List AV) → Nat → Nat → Prop
  | [], _, _ => True
  | x :: xs, b, o => rowAt k x b o ∧ x.length = sz ∧ rowsAt k sz xs b (o + sz)
end

/-- More is known. -/
structure KLe (k k' : K) : Prop where
  ic : ∀ a v, k.ic a v → k'.ic a v
  pg : ∀ d g, k.pg d g → k'.pg d g
  pc : ∀ d g, k.pg d g → k'.pc d g → k.pc d g
  vb : ∀ d g b q, k.pg d g → k'.pc d g → k.vb d b q → k'.vb d b q
  tg : ∀ t g, k.tg t g → k'.tg t g
  tc : ∀ t g n, k.tg t g → k'.tc t g n → k.tc t g n
  tb : ∀ t g n b f c, k.tg t g → k'.tc t g n → k.tb t b f c → k'.tb t b f c
  ob : ∀ i v, k.ob i v → k'.ob i v

theorem KLe.refl (k : K) : KLe k k := ⟨fun _ _ h => h, fun _ _ h => h, fun _ _ _ h => h, fun _ _ _ _ _ _ h => h, fun _ _ h => h, fun _ _ _ _ h => h, fun _ _ _ _ _ _ _ _ h => h, fun _ _ h => h⟩

theorem KLe.pure {k k' : K} (h : KLe k k') : KLe k.pure k'.pure :=
  ⟨h.ic, fun _ _ h => h, fun _ _ h => h.elim, fun _ _ _ _ h => h.elim, fun _ _ h => h, fun _ _ _ h => h.elim, fun _ _ _ _ _ _ h => h.elim, fun _ _ h => h⟩
theorem KLe.of_pure {k k' : K} (h : KLe k.pure k'.pure) : KLe k.pure k' :=
  ⟨h.ic, fun _ _ h => h.elim, fun _ _ h => h.elim, fun _ _ _ _ h => h.elim, fun _ _ h => h.elim, fun _ _ _ h => h.elim, fun _ _ _ _ _ _ h => h.elim, fun _ _ h => h.elim⟩

mutual
theorem R_mono {k k' : K} (h : KLe k k') : ∀ (x : AV) (v : Value), R k x v → R k' x v
  | .imm u, v => by simp only [R]; exact id
  | .agg cs, v => by
    simp only [R]
    rintro ⟨arr, e, hr⟩
    exact ⟨arr, e, Rs_mono h cs _ hr⟩
  | .tup vs, v => by
    simp only [R]
    rintro ⟨arr, e, hr⟩
    exact ⟨arr, e, Rt_mono h vs _ hr⟩
  | .ptr d g off, v => by
    simp only [R]
    rintro ⟨hp, h1, hc⟩
    refine ⟨h.pg _ _ hp, h1, fun hq => ?_⟩
    obtain ⟨b, hb, e⟩ := hc (h.pc _ _ hp hq)
    exact ⟨b, h.vb _ _ _ _ hp hq hb, e⟩
  | .eptr cs off, v => by
    simp only [R]
    rintro ⟨b, o, e, hr⟩
    exact ⟨b, o, e, rowAt_mono h.pure cs b o hr⟩
  | .sl sz tok rows, v => by
    simp only [R]
    rintro ⟨A, c, e, hl, hm, hr, ht⟩
    refine ⟨A, c, e, hl, hm, fun hne => ?_, ?_⟩
    · obtain ⟨b, o, ha, hq⟩ := hr hne
      exact ⟨b, o, ha, rowsAt_mono h.pure sz rows b o hq⟩
    · cases tok with
      | ro => trivial
      | full => exact ht
      | own t g =>
        refine ⟨h.tg _ _ ht.1, fun hq => ?_⟩
        rcases ht.2 (h.tc _ _ _ ht.1 hq) with he | ⟨b, ha, hb⟩
        · exact .inl he
        · exact .inr ⟨b, ha, h.tb _ _ _ _ _ _ ht.1 hq hb⟩
  | .obj i, v => by
    simp only [R]
    exact fun hq => ⟨h.ob _ _ hq.1, hq.2⟩
  | .fv f first caps, v => by
    simp only [R]
    rintro ⟨us, vs, e, hr, hr'⟩
    exact ⟨us, vs, e, Rt_mono h first _ hr, Rt_mono h caps _ hr'⟩
  | .vsl d g sz off n cp, v => by
    simp only [R]
    rintro ⟨hp, A, c, e, h1, h2, h3, hc⟩
    refine ⟨h.pg _ _ hp, A, c, e, h1, h2, h3, fun hq => ?_⟩
    obtain ⟨b, o, hb, e⟩ := hc (h.pc _ _ hp hq)
    exact ⟨b, o, h.vb _ _ _ _ hp hq hb, e⟩
  | .mp d g, v => by
    simp only [R]
    rintro ⟨hp, h1, hc⟩
    refine ⟨h.pg _ _ hp, h1, fun hq => ?_⟩
    obtain ⟨b, hb, e⟩ := hc (h.pc _ _ hp hq)
    exact ⟨b, h.vb _ _ _ _ hp hq hb, e⟩
  | .dead, _ => by simp only [R]; exact id
theorem Rs_mono {k k' : K} (h : KLe k k') : ∀ (xs : List AV) (vs : List Value), Rs k xs vs → Rs k' xs vs
  | [], _ => by simp only [Rs]; exact id
  | x :: xs, vs => by
    simp only [Rs]
    rintro ⟨v, r, e, hx, h1, hr⟩
    exact ⟨v, r, e, R_mono h x v hx, h1, Rs_mono h xs r hr⟩
theorem Rt_mono {k k' : K} (h : KLe k k') : ∀ (xs : List AV) (vs : List Value), Rt k xs vs → Rt k' xs vs
  | [], _ => by simp only [Rt]; exact id
  | x :: xs, vs => by
    simp only [Rt]
    rintro ⟨v, r, e, hx, hr⟩
    exact ⟨v, r, e, R_mono h x v hx, Rt_mono h xs r hr⟩
theorem rowAt_mono {k k' : K} (h : KLe k k') : ∀ (xs : List AV) (b o : Nat), rowAt k xs b o → rowAt k' xs b o
  | [], _, _ => by simp only [rowAt]; exact id
  | x :: xs, b, o => by
    simp only [rowAt]
    rintro ⟨⟨v, hv, hx, h1⟩, hr⟩
    exact ⟨⟨v, h.ic _ _ hv, R_mono h x v hx, h1⟩, rowAt_mono h xs b (o + 1) hr⟩
theorem rowsAt_mono {k k' : K} (h : KLe k k') (sz : Nat) : ∀ (xs : List (List AV)) (b o : Nat), rowsAt k sz xs b o → rowsAt k' sz xs b o
  | [], _, _ => by simp only [rowsAt]; exact id
  | x :: xs, b, o => by
    simp only [rowsAt]
    rintro ⟨hx, hl, hr⟩
    exact ⟨rowAt_mono h x b o hx, hl, rowsAt_mono h sz xs b (o + sz) hr⟩
end

/-! ### cells as lists -/
theorem Rs_length {k : K} : ∀ {xs : List AV} {vs : List Value}, Rs k xs vs → vs.length = xs.length
  | [], vs, h => by simp only [Rs] at h; simp [h]
  | x :: xs, vs, h => by
    simp only [Rs] at h
    obtain ⟨v, r, rfl, _, _, hr⟩ := h
    simp [Rs_length hr]
theorem Rs_one {k : K} : ∀ {xs : List AV} {vs : List Value}, Rs k xs vs → ∀ u ∈ vs, u.oneCell' = true
  | [], vs, h, u, hu => by simp only [Rs] at h; simp [h] at hu
  | x :: xs, vs, h, u, hu => by
    simp only [Rs] at h
    obtain ⟨v, r, rfl, _, h1, hr⟩ := h
    rcases List.mem_cons.1 hu with rfl | hu
    · exact h1
    · exact Rs_one hr u hu
theorem Rs_get {k : K} : ∀ {xs : List AV} {vs : List Value} (h : Rs k xs vs) (i : Nat) (x : AV), xs[i]? = some x → ∃ v, vs[i]? = some v ∧ R k x v ∧ v.oneCell' = true
  | [], vs, h, i, x, hx => by simp at hx
  | y :: xs, vs, h, i, x, hx => by
    simp only [Rs] at h
    obtain ⟨v, r, rfl, hy, h1, hr⟩ := h
    cases i with
    | zero => simp at hx; subst hx; exact ⟨v, by simp, hy, h1⟩
    | succ i => simpa using Rs_get hr i x (by simpa using hx)
theorem Rs_append {k : K} : ∀ {xs ys : List AV} {us vs : List Value}, Rs k xs us → Rs k ys vs → Rs k (xs ++ ys) (us ++ vs)
  | [], ys, us, vs, h, h' => by simp only [Rs] at h; simpa [h] using h'
  | x :: xs, ys, us, vs, h, h' => by
    simp only [Rs] at h
    obtain ⟨v, r, rfl, hx, h1, hr⟩ := h
    simp only [List.cons_append, Rs]
    exact ⟨v, r ++ vs, rfl, hx, h1, Rs_append hr h'⟩
theorem Rs_take {k : K} : ∀ {xs : List AV} {vs : List Value} (n : Nat), Rs k xs vs → Rs k (xs.take n) (vs.take n)
  | [], vs, n, h => by simp only [Rs] at h; simp [h, Rs]
  | x :: xs, vs, 0, h => by simp [Rs]
  | x :: xs, vs, n + 1, h => by
    simp only [Rs] at h
    obtain ⟨v, r, rfl, hx, h1, hr⟩ := h
    simp only [List.take_succ_cons, Rs]
    exact ⟨v, r.take n, rfl, hx, h1, Rs_take n hr⟩
theorem Rs_drop {k : K} : ∀ {xs : List AV} {vs : List Value} (n : Nat), Rs k xs vs → Rs k (xs.drop n) (vs.drop n)
  | [], vs, n, h => by simp only [Rs] at h; simp [h, Rs]
  | x :: xs, vs, 0, h => by simpa using h
  | x :: xs, vs, n + 1, h => by
    simp only [Rs] at h
    obtain ⟨v, r, rfl, hx, h1, hr⟩ := h
    simpa using Rs_drop n hr
/-- Some cells written over. -/
def splice {α : Type} (l : List α) (off : Nat) (xs : List α) : List α := l.take off ++ xs ++ l.drop (off + xs.length)
theorem Rs_splice {k : K} {l xs : List AV} {us vs : List Value} (off : Nat) (h : Rs k l us) (h' : Rs k xs vs) : Rs k (splice l off xs) (splice us off vs) := by
  unfold splice
  rw [Rs_length h']
  exact Rs_append (Rs_append (Rs_take off h) h') (Rs_drop _ h)
theorem splice_length {α : Type} (l xs : List α) (off : Nat) (h : off + xs.length ≤ l.length) : (splice l off xs).length = l.length := by
  unfold splice
  simp
  omega
/-- Cells of a row in memory. -/
theorem rowAt_get {k : K} : ∀ {xs : List AV} {b o : Nat} (h : rowAt k xs b o) (i : Nat) (x : AV), xs[i]? = some x → ∃ v, k.ic ⟨b, o + i, none⟩ v ∧ R k x v ∧ v.oneCell' = true
  | [], b, o, h, i, x, hx => by simp at hx
  | y :: xs, b, o, h, i, x, hx => by
    simp only [rowAt] at h
    cases i with
    | zero => simp at hx; subst hx; exact h.1
    | succ i =>
      have := rowAt_get h.2 i x (by simpa using hx)
      rwa [show o + 1 + i = o + (i + 1) by omega] at this
/-- The same cells, as values. -/
theorem rowAt_vals {k : K} : ∀ {xs : List AV} {b o : Nat} (h : rowAt k xs b o), ∃ vs, Rs k xs vs ∧ ∀ j v, vs[j]? = some v → k.ic ⟨b, o + j, none⟩ v
  | [], b, o, h => ⟨[], by simp [Rs], fun j v hv => by simp at hv⟩
  | y :: xs, b, o, h => by
    simp only [rowAt] at h
    obtain ⟨⟨v, hv, hy, h1⟩, hr⟩ := h
    obtain ⟨vs, hvs, hc⟩ := rowAt_vals hr
    refine ⟨v :: vs, by simp only [Rs]; exact ⟨v, vs, rfl, hy, h1, hvs⟩, fun j u hu => ?_⟩
    cases j with
    | zero => simp at hu; subst hu; exact hv
    | succ j =>
      have := hc j u (by simpa using hu)
      rwa [show o + 1 + j = o + (j + 1) by omega] at this
theorem rowAt_of {k : K} : ∀ {xs : List AV} {vs : List Value} {b o : Nat}, Rs k xs vs → (∀ j v, vs[j]? = some v → k.ic ⟨b, o + j, none⟩ v) → rowAt k xs b o
  | [], vs, b, o, h, hc => by simp [rowAt]
  | x :: xs, vs, b, o, h, hc => by
    simp only [Rs] at h
    obtain ⟨v, r, rfl, hx, h1, hr⟩ := h
    simp only [rowAt]
    refine ⟨⟨v, by simpa using hc 0 v rfl, hx, h1⟩, rowAt_of hr fun j u hu => ?_⟩
    have := hc (j + 1) u (by simpa using hu)
    rwa [show o + (j + 1) = o + 1 + j by omega] at this
theorem rowAt_take {k : K} {xs : List AV} {b o : Nat} (n : Nat) (h : rowAt k xs b o) : rowAt k (xs.take n) b o := by
  obtain ⟨vs, hv, hc⟩ := rowAt_vals h
  refine rowAt_of (Rs_take n hv) fun j v hj => ?_
  rw [List.getElem?_take] at hj
  split at hj
  · exact hc j v hj
  · cases hj
theorem rowAt_drop {k : K} {xs : List AV} {b o : Nat} (n : Nat) (h : rowAt k xs b o) : rowAt k (xs.drop n) b (o + n) := by
  obtain ⟨vs, hv, hc⟩ := rowAt_vals h
  refine rowAt_of (Rs_drop n hv) fun j v hj => ?_
  rw [List.getElem?_drop] at hj
  have := hc _ v hj
  rwa [show o + (n + j) = o + n + j by omega] at this
theorem rowsAt_get {k : K} {sz : Nat} : ∀ {rows : List (List AV)} {b o : Nat} (h : rowsAt k sz rows b o) (i : Nat) (x : List AV), rows[i]? = some x → rowAt k x b (o + i * sz) ∧ x.length = sz
  | [], b, o, h, i, x, hx => by simp at hx
  | y :: rows, b, o, h, i, x, hx => by
    simp only [rowsAt] at h
    cases i with
    | zero => simp at hx; subst hx; exact ⟨by simpa using h.1, h.2.1⟩
    | succ i =>
      have := rowsAt_get h.2.2 i x (by simpa using hx)
      rwa [show o + sz + i * sz = o + (i + 1) * sz by rw [Nat.add_mul]; omega] at this
theorem rowsAt_append {k : K} {sz : Nat} : ∀ {xs ys : List (List AV)} {b o : Nat}, rowsAt k sz (xs ++ ys) b o ↔ rowsAt k sz xs b o ∧ rowsAt k sz ys b (o + xs.length * sz)
  | [], ys, b, o => by simp [rowsAt]
  | x :: xs, ys, b, o => by
    simp only [List.cons_append, rowsAt, rowsAt_append (xs := xs), List.length_cons]
    rw [show o + sz + xs.length * sz = o + (xs.length + 1) * sz by rw [Nat.add_mul]; omega]
    constructor
    · rintro ⟨a, b, c, d⟩; exact ⟨⟨a, b, c⟩, d⟩
    · rintro ⟨⟨a, b, c⟩, d⟩; exact ⟨a, b, c, d⟩
theorem rowsAt_take {k : K} {sz : Nat} {rows : List (List AV)} {b o : Nat} (n : Nat) (h : rowsAt k sz rows b o) : rowsAt k sz (rows.take n) b o := by
  rw [← List.take_append_drop n rows] at h
  exact (rowsAt_append.1 h).1
theorem rowsAt_drop {k : K} {sz : Nat} {rows : List (List AV)} {b o : Nat} (n : Nat) (hn : n ≤ rows.length) (h : rowsAt k sz rows b o) : rowsAt k sz (rows.drop n) b (o + n * sz) := by
  rw [← List.take_append_drop n rows] at h
  have := (rowsAt_append.1 h).2
  rwa [List.length_take, Nat.min_eq_left hn] at this
/-- All cells of the rows, one behind the other. -/
theorem rowsAt_vals {k : K} {sz : Nat} : ∀ {rows : List (List AV)} {b o : Nat} (h : rowsAt k sz rows b o), ∃ vs, Rs k rows.flatten vs ∧ vs.length = rows.length * sz ∧ ∀ j v, vs[j]? = some v → k.ic ⟨b, o + j, none⟩ v
  | [], b, o, h => ⟨[], by simp [Rs], by simp, fun j v hv => by simp at hv⟩
  | y :: rows, b, o, h => by
    simp only [rowsAt] at h
    obtain ⟨hy, hl, hr⟩ := h
    obtain ⟨us, hus, huc⟩ := rowAt_vals hy
    obtain ⟨vs, hvs, hvl, hvc⟩ := rowsAt_vals hr
    have hul : us.length = sz := (Rs_length hus).trans hl
    refine ⟨us ++ vs, by simpa using Rs_append hus hvs, by simp [hul, hvl, Nat.add_mul]; omega, fun j v hv => ?_⟩
    rcases Nat.lt_or_ge j us.length with hj | hj
    · rw [List.getElem?_append_left hj] at hv
      exact huc j v hv
    · rw [List.getElem?_append_right hj] at hv
      have := hvc _ v hv
      rwa [show o + sz + (j - us.length) = o + j by omega] at this
theorem rowsAt_of {k : K} {sz : Nat} : ∀ {rows : List (List AV)} {vs : List Value} {b o : Nat}, Rs k rows.flatten vs → (∀ x ∈ rows, x.length = sz) → (∀ j v, vs[j]? = some v → k.ic ⟨b, o + j, none⟩ v) → rowsAt k sz rows b o
  | [], vs, b, o, h, hl, hc => by simp [rowsAt]
  | x :: rows, vs, b, o, h, hl, hc => by
    have hx := hl x (by simp)
    simp only [List.flatten_cons] at h
    have ht := Rs_take x.length h
    have hd := Rs_drop x.length h
    rw [List.take_left] at ht
    rw [List.drop_left] at hd
    simp only [rowsAt]
    refine ⟨rowAt_of ht fun j v hj => ?_, hx, rowsAt_of hd (fun y hy => hl y (by simp [hy])) fun j v hj => ?_⟩
    · rw [List.getElem?_take] at hj
      split at hj
      · exact hc j v hj
      · cases hj
    · rw [List.getElem?_drop, hx] at hj
      have := hc _ v hj
      rwa [show o + (sz + j) = o + sz + j by omega] at this
end Go.Av
