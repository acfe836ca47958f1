/- OWN TEXT: see NOTES.md. -/
import Derived.WalkKit
import Derived.Below
import Derived.Laws.CopyRow
import Derived.Laws.AppendOwn
import Derived.Laws.StructEq
import Derived.Laws.MakeOwn
import Derived.MapKept
set_option linter.all false
namespace Go.Av
open Go.RowKit (Below)

/-- May a slice be appended to: not known (ro); its capacity is its length (full); the call's own spare cells, by token (own). -/
inductive Tok where
  | ro
  | full
  | own (t g : Nat)

/-- Abstract values. -/
inductive AV where
  | imm (v : Value)
  | sl (sz : Nat) (tok : Tok) (rows : List (List AV))
  | agg (cs : List AV)
  | tup (vs : List AV)
  | ptr (d g off : Nat)
  | eptr (cs : List AV) (off : Nat)
  | obj (i : Nat)
  | fv (f : Nat) (first caps : List AV)
  | vsl (d g sz off n : Nat) (cp : Option Nat)
  | mp (d g : Nat)
  | dead

/-- What is known of memory. ic: an immutable cell holds a value; pg, pc, vb: generations of variables, the block of one (some z: cells, at least z; none: a map); tg, tc, tb: the same of tokens; ob: outside objects . -/
structure K where
  ic : Addr → Value → Prop
  pg : Nat → Nat → Prop
  pc : Nat → Nat → Prop
  vb : Nat → Nat → Option Nat → Prop
  tg : Nat → Nat → Prop
  tc : Nat → Nat → Nat → Prop
  tb : Nat → Nat → Nat → Nat → Prop
  ob : Nat → Value → Prop

/-- What is known of immutable cells alone. -/
def K.pure (k : K) : K := ⟨k.ic, fun _ _ => False, fun _ _ => False, fun _ _ _ => False, fun _ _ => False, fun _ _ _ => False, fun _ _ _ _ => False, fun _ _ => False⟩
theorem K.pure_pure (k : K) : k.pure.pure = k.pure := rfl

mutual
/-- The value v stands for the abstract value. -/
def R (k : K) : AV → Value → Prop
  | .imm u, v => v = u ∧ u.oneCell' = true
  | .agg cs, v => ∃ arr, v = .agg arr ∧ Rs k cs arr.toList
  | .tup vs, v => ∃ arr, v = .tuple arr ∧ Rt k vs arr.toList
  | .ptr d g off, v => k.pg d g ∧ v.oneCell' = true ∧ (k.pc d g → ∃ b, k.vb d b (some 0) ∧ v = .pointer (some ⟨b, off, none⟩))
  | .eptr cs off, v => ∃ b o, v = .pointer (some ⟨b, o + off, none⟩) ∧ rowAt k.pure cs b o
  | .sl sz tok rows, v => ∃ A c, v = .slice A rows.length c ∧ rows.length ≤ c ∧ c ≤ maxLen ∧ (rows ≠ [] → ∃ b o, A = some ⟨b, o, none⟩ ∧ rowsAt k.pure sz rows b o) ∧
      (match tok with
       | .ro => True
       | .full => c = rows.length
       | .own t g => k.tg t g ∧ (k.tc t g rows.length → c = rows.length ∨ ∃ b, A = some ⟨b, 0, none⟩ ∧ k.tb t b (rows.length * sz) (c * sz)))
  | .obj i, v => k.ob i v ∧ v.oneCell' = true
  | .fv f first caps, v => ∃ us vs, v = .func (.func f) us vs ∧ Rt k first us.toList ∧ Rt k caps vs.toList
  | .vsl d g sz off n cp, v => k.pg d g ∧ ∃ A c, v = .slice A n c ∧ n ≤ c ∧ c ≤ maxLen ∧ (∀ c', cp = some c' → c' = c) ∧ (k.pc d g → ∃ b o, k.vb d b (some (off + c * sz)) ∧ A = some ⟨b, o, none⟩ ∧ (0 < c → o = off))
  | .mp d g, v => k.pg d g ∧ v.oneCell' = true ∧ (k.pc d g → ∃ b, k.vb d b none ∧ v = .map (some b))
  | .dead, _ => True
/-- Cells. -/
def Rs (k : K) : List AV → List Value → Prop
  | [], vs => vs = []
  | x :: xs, vs => ∃ v r, vs = v :: r ∧ R k x v ∧ v.oneCell' = true ∧ Rs k xs r
/-- Results. -/
def Rt (k : K) : List AV → List Value → Prop
  | [], vs => vs = []
  | x :: xs, vs => ∃ v r, vs = v :: r ∧ R k x v ∧ Rt k xs r
/-- Immutable cells in memory. -/
def rowAt (k : K) : List AV → Nat → Nat → Prop
  | [], _, _ => True
  | x :: xs, b, o => (∃ v, k.ic ⟨b, o, none⟩ v ∧ R k x v ∧ v.oneCell' = true) ∧ rowAt k xs b (o + 1)
def rowsAt (k : K) (sz : Nat) : List (List AV) → Nat → Nat → Prop
  | [], _, _ => True
  | x :: xs, b, o => rowAt k x b o ∧ x.length = sz ∧ rowsAt k sz xs b (o + sz)
end

/-- More is known. -/
structure KLe (k k' : K) : Prop where
  ic : ∀ a v, k.ic a v → k'.ic a v
  pg : ∀ d g, k.pg d g → k'.pg d g
  pc : ∀ d g, k.pg d g → k'.pc d g → k.pc d g
  vb : ∀ d g b q, k.pg d g → k'.pc d g → k.vb d b q → k'.vb d b q
  tg : ∀ t g, k.tg t g → k'.tg t g
  tc : ∀ t g n, k.tg t g → k'.tc t g n → k.tc t g n
  tb : ∀ t g n b f c, k.tg t g → k'.tc t g n → k.tb t b f c → k'.tb t b f c
  ob : ∀ i v, k.ob i v → k'.ob i v

theorem KLe.refl (k : K) : KLe k k := ⟨fun _ _ h => h, fun _ _ h => h, fun _ _ _ h => h, fun _ _ _ _ _ _ h => h, fun _ _ h => h, fun _ _ _ _ h => h, fun _ _ _ _ _ _ _ _ h => h, fun _ _ h => h⟩

theorem KLe.pure {k k' : K} (h : KLe k k') : KLe k.pure k'.pure :=
  ⟨h.ic, fun _ _ h => h, fun _ _ h => h.elim, fun _ _ _ _ h => h.elim, fun _ _ h => h, fun _ _ _ h => h.elim, fun _ _ _ _ _ _ h => h.elim, fun _ _ h => h⟩
theorem KLe.of_pure {k k' : K} (h : KLe k.pure k'.pure) : KLe k.pure k' :=
  ⟨h.ic, fun _ _ h => h.elim, fun _ _ h => h.elim, fun _ _ _ _ h => h.elim, fun _ _ h => h.elim, fun _ _ _ h => h.elim, fun _ _ _ _ _ _ h => h.elim, fun _ _ h => h.elim⟩

mutual
theorem R_mono {k k' : K} (h : KLe k k') : ∀ (x : AV) (v : Value), R k x v → R k' x v
  | .imm u, v => by simp only [R]; exact id
  | .agg cs, v => by
    simp only [R]
    rintro ⟨arr, e, hr⟩
    exact ⟨arr, e, Rs_mono h cs _ hr⟩
  | .tup vs, v => by
    simp only [R]
    rintro ⟨arr, e, hr⟩
    exact ⟨arr, e, Rt_mono h vs _ hr⟩
  | .ptr d g off, v => by
    simp only [R]
    rintro ⟨hp, h1, hc⟩
    refine ⟨h.pg _ _ hp, h1, fun hq => ?_⟩
    obtain ⟨b, hb, e⟩ := hc (h.pc _ _ hp hq)
    exact ⟨b, h.vb _ _ _ _ hp hq hb, e⟩
  | .eptr cs off, v => by
    simp only [R]
    rintro ⟨b, o, e, hr⟩
    exact ⟨b, o, e, rowAt_mono h.pure cs b o hr⟩
  | .sl sz tok rows, v => by
    simp only [R]
    rintro ⟨A, c, e, hl, hm, hr, ht⟩
    refine ⟨A, c, e, hl, hm, fun hne => ?_, ?_⟩
    · obtain ⟨b, o, ha, hq⟩ := hr hne
      exact ⟨b, o, ha, rowsAt_mono h.pure sz rows b o hq⟩
    · cases tok with
      | ro => trivial
      | full => exact ht
      | own t g =>
        refine ⟨h.tg _ _ ht.1, fun hq => ?_⟩
        rcases ht.2 (h.tc _ _ _ ht.1 hq) with he | ⟨b, ha, hb⟩
        · exact .inl he
        · exact .inr ⟨b, ha, h.tb _ _ _ _ _ _ ht.1 hq hb⟩
  | .obj i, v => by
    simp only [R]
    exact fun hq => ⟨h.ob _ _ hq.1, hq.2⟩
  | .fv f first caps, v => by
    simp only [R]
    rintro ⟨us, vs, e, hr, hr'⟩
    exact ⟨us, vs, e, Rt_mono h first _ hr, Rt_mono h caps _ hr'⟩
  | .vsl d g sz off n cp, v => by
    simp only [R]
    rintro ⟨hp, A, c, e, h1, h2, h3, hc⟩
    refine ⟨h.pg _ _ hp, A, c, e, h1, h2, h3, fun hq => ?_⟩
    obtain ⟨b, o, hb, e⟩ := hc (h.pc _ _ hp hq)
    exact ⟨b, o, h.vb _ _ _ _ hp hq hb, e⟩
  | .mp d g, v => by
    simp only [R]
    rintro ⟨hp, h1, hc⟩
    refine ⟨h.pg _ _ hp, h1, fun hq => ?_⟩
    obtain ⟨b, hb, e⟩ := hc (h.pc _ _ hp hq)
    exact ⟨b, h.vb _ _ _ _ hp hq hb, e⟩
  | .dead, _ => by simp only [R]; exact id
theorem Rs_mono {k k' : K} (h : KLe k k') : ∀ (xs : List AV) (vs : List Value), Rs k xs vs → Rs k' xs vs
  | [], _ => by simp only [Rs]; exact id
  | x :: xs, vs => by
    simp only [Rs]
    rintro ⟨v, r, e, hx, h1, hr⟩
    exact ⟨v, r, e, R_mono h x v hx, h1, Rs_mono h xs r hr⟩
theorem Rt_mono {k k' : K} (h : KLe k k') : ∀ (xs : List AV) (vs : List Value), Rt k xs vs → Rt k' xs vs
  | [], _ => by simp only [Rt]; exact id
  | x :: xs, vs => by
    simp only [Rt]
    rintro ⟨v, r, e, hx, hr⟩
    exact ⟨v, r, e, R_mono h x v hx, Rt_mono h xs r hr⟩
theorem rowAt_mono {k k' : K} (h : KLe k k') : ∀ (xs : List AV) (b o : Nat), rowAt k xs b o → rowAt k' xs b o
  | [], _, _ => by simp only [rowAt]; exact id
  | x :: xs, b, o => by
    simp only [rowAt]
    rintro ⟨⟨v, hv, hx, h1⟩, hr⟩
    exact ⟨⟨v, h.ic _ _ hv, R_mono h x v hx, h1⟩, rowAt_mono h xs b (o + 1) hr⟩
theorem rowsAt_mono {k k' : K} (h : KLe k k') (sz : Nat) : ∀ (xs : List (List AV)) (b o : Nat), rowsAt k sz xs b o → rowsAt k' sz xs b o
  | [], _, _ => by simp only [rowsAt]; exact id
  | x :: xs, b, o => by
    simp only [rowsAt]
    rintro ⟨hx, hl, hr⟩
    exact ⟨rowAt_mono h x b o hx, hl, rowsAt_mono h sz xs b (o + sz) hr⟩
end

/-! ### cells as lists -/
theorem Rs_length {k : K} : ∀ {xs : List AV} {vs : List Value}, Rs k xs vs → vs.length = xs.length
  | [], vs, h => by simp only [Rs] at h; simp [h]
  | x :: xs, vs, h => by
    simp only [Rs] at h
    obtain ⟨v, r, rfl, _, _, hr⟩ := h
    simp [Rs_length hr]
theorem Rs_one {k : K} : ∀ {xs : List AV} {vs : List Value}, Rs k xs vs → ∀ u ∈ vs, u.oneCell' = true
  | [], vs, h, u, hu => by simp only [Rs] at h; simp [h] at hu
  | x :: xs, vs, h, u, hu => by
    simp only [Rs] at h
    obtain ⟨v, r, rfl, _, h1, hr⟩ := h
    rcases List.mem_cons.1 hu with rfl | hu
    · exact h1
    · exact Rs_one hr u hu
theorem Rs_get {k : K} : ∀ {xs : List AV} {vs : List Value} (h : Rs k xs vs) (i : Nat) (x : AV), xs[i]? = some x → ∃ v, vs[i]? = some v ∧ R k x v ∧ v.oneCell' = true
  | [], vs, h, i, x, hx => by simp at hx
  | y :: xs, vs, h, i, x, hx => by
    simp only [Rs] at h
    obtain ⟨v, r, rfl, hy, h1, hr⟩ := h
    cases i with
    | zero => simp at hx; subst hx; exact ⟨v, by simp, hy, h1⟩
    | succ i => simpa using Rs_get hr i x (by simpa using hx)
theorem Rs_append {k : K} : ∀ {xs ys : List AV} {us vs : List Value}, Rs k xs us → Rs k ys vs → Rs k (xs ++ ys) (us ++ vs)
  | [], ys, us, vs, h, h' => by simp only [Rs] at h; simpa [h] using h'
  | x :: xs, ys, us, vs, h, h' => by
    simp only [Rs] at h
    obtain ⟨v, r, rfl, hx, h1, hr⟩ := h
    simp only [List.cons_append, Rs]
    exact ⟨v, r ++ vs, rfl, hx, h1, Rs_append hr h'⟩
theorem Rs_take {k : K} : ∀ {xs : List AV} {vs : List Value} (n : Nat), Rs k xs vs → Rs k (xs.take n) (vs.take n)
  | [], vs, n, h => by simp only [Rs] at h; simp [h, Rs]
  | x :: xs, vs, 0, h => by simp [Rs]
  | x :: xs, vs, n + 1, h => by
    simp only [Rs] at h
    obtain ⟨v, r, rfl, hx, h1, hr⟩ := h
    simp only [List.take_succ_cons, Rs]
    exact ⟨v, r.take n, rfl, hx, h1, Rs_take n hr⟩
theorem Rs_drop {k : K} : ∀ {xs : List AV} {vs : List Value} (n : Nat), Rs k xs vs → Rs k (xs.drop n) (vs.drop n)
  | [], vs, n, h => by simp only [Rs] at h; simp [h, Rs]
  | x :: xs, vs, 0, h => by simpa using h
  | x :: xs, vs, n + 1, h => by
    simp only [Rs] at h
    obtain ⟨v, r, rfl, hx, h1, hr⟩ := h
    simpa using Rs_drop n hr
/-- Some cells written over. -/
def splice {α : Type} (l : List α) (off : Nat) (xs : List α) : List α := l.take off ++ xs ++ l.drop (off + xs.length)
theorem Rs_splice {k : K} {l xs : List AV} {us vs : List Value} (off : Nat) (h : Rs k l us) (h' : Rs k xs vs) : Rs k (splice l off xs) (splice us off vs) := by
  unfold splice
  rw [Rs_length h']
  exact Rs_append (Rs_append (Rs_take off h) h') (Rs_drop _ h)
theorem splice_length {α : Type} (l xs : List α) (off : Nat) (h : off + xs.length ≤ l.length) : (splice l off xs).length = l.length := by
  unfold splice
  simp
  omega
/-- Cells of a row in memory. -/
theorem rowAt_get {k : K} : ∀ {xs : List AV} {b o : Nat} (h : rowAt k xs b o) (i : Nat) (x : AV), xs[i]? = some x → ∃ v, k.ic ⟨b, o + i, none⟩ v ∧ R k x v ∧ v.oneCell' = true
  | [], b, o, h, i, x, hx => by simp at hx
  | y :: xs, b, o, h, i, x, hx => by
    simp only [rowAt] at h
    cases i with
    | zero => simp at hx; subst hx; exact h.1
    | succ i =>
      have := rowAt_get h.2 i x (by simpa using hx)
      rwa [show o + 1 + i = o + (i + 1) by omega] at this
/-- The same cells, as values. -/
theorem rowAt_vals {k : K} : ∀ {xs : List AV} {b o : Nat} (h : rowAt k xs b o), ∃ vs, Rs k xs vs ∧ ∀ j v, vs[j]? = some v → k.ic ⟨b, o + j, none⟩ v
  | [], b, o, h => ⟨[], by simp [Rs], fun j v hv => by simp at hv⟩
  | y :: xs, b, o, h => by
    simp only [rowAt] at h
    obtain ⟨⟨v, hv, hy, h1⟩, hr⟩ := h
    obtain ⟨vs, hvs, hc⟩ := rowAt_vals hr
    refine ⟨v :: vs, by simp only [Rs]; exact ⟨v, vs, rfl, hy, h1, hvs⟩, fun j u hu => ?_⟩
    cases j with
    | zero => simp at hu; subst hu; exact hv
    | succ j =>
      have := hc j u (by simpa using hu)
      rwa [show o + 1 + j = o + (j + 1) by omega] at this
theorem rowAt_of {k : K} : ∀ {xs : List AV} {vs : List Value} {b o : Nat}, Rs k xs vs → (∀ j v, vs[j]? = some v → k.ic ⟨b, o + j, none⟩ v) → rowAt k xs b o
  | [], vs, b, o, h, hc => by simp [rowAt]
  | x :: xs, vs, b, o, h, hc => by
    simp only [Rs] at h
    obtain ⟨v, r, rfl, hx, h1, hr⟩ := h
    simp only [rowAt]
    refine ⟨⟨v, by simpa using hc 0 v rfl, hx, h1⟩, rowAt_of hr fun j u hu => ?_⟩
    have := hc (j + 1) u (by simpa using hu)
    rwa [show o + (j + 1) = o + 1 + j by omega] at this
theorem rowAt_take {k : K} {xs : List AV} {b o : Nat} (n : Nat) (h : rowAt k xs b o) : rowAt k (xs.take n) b o := by
  obtain ⟨vs, hv, hc⟩ := rowAt_vals h
  refine rowAt_of (Rs_take n hv) fun j v hj => ?_
  rw [List.getElem?_take] at hj
  split at hj
  · exact hc j v hj
  · cases hj
theorem rowAt_drop {k : K} {xs : List AV} {b o : Nat} (n : Nat) (h : rowAt k xs b o) : rowAt k (xs.drop n) b (o + n) := by
  obtain ⟨vs, hv, hc⟩ := rowAt_vals h
  refine rowAt_of (Rs_drop n hv) fun j v hj => ?_
  rw [List.getElem?_drop] at hj
  have := hc _ v hj
  rwa [show o + (n + j) = o + n + j by omega] at this
theorem rowsAt_get {k : K} {sz : Nat} : ∀ {rows : List (List AV)} {b o : Nat} (h : rowsAt k sz rows b o) (i : Nat) (x : List AV), rows[i]? = some x → rowAt k x b (o + i * sz) ∧ x.length = sz
  | [], b, o, h, i, x, hx => by simp at hx
  | y :: rows, b, o, h, i, x, hx => by
    simp only [rowsAt] at h
    cases i with
    | zero => simp at hx; subst hx; exact ⟨by simpa using h.1, h.2.1⟩
    | succ i =>
      have := rowsAt_get h.2.2 i x (by simpa using hx)
      rwa [show o + sz + i * sz = o + (i + 1) * sz by rw [Nat.add_mul]; omega] at this
theorem rowsAt_append {k : K} {sz : Nat} : ∀ {xs ys : List (List AV)} {b o : Nat}, rowsAt k sz (xs ++ ys) b o ↔ rowsAt k sz xs b o ∧ rowsAt k sz ys b (o + xs.length * sz)
  | [], ys, b, o => by simp [rowsAt]
  | x :: xs, ys, b, o => by
    simp only [List.cons_append, rowsAt, rowsAt_append (xs := xs), List.length_cons]
    rw [show o + sz + xs.length * sz = o + (xs.length + 1) * sz by rw [Nat.add_mul]; omega]
    constructor
    · rintro ⟨a, b, c, d⟩; exact ⟨⟨a, b, c⟩, d⟩
    · rintro ⟨⟨a, b, c⟩, d⟩; exact ⟨a, b, c, d⟩
theorem rowsAt_take {k : K} {sz : Nat} {rows : List (List AV)} {b o : Nat} (n : Nat) (h : rowsAt k sz rows b o) : rowsAt k sz (rows.take n) b o := by
  rw [← List.take_append_drop n rows] at h
  exact (rowsAt_append.1 h).1
theorem rowsAt_drop {k : K} {sz : Nat} {rows : List (List AV)} {b o : Nat} (n : Nat) (hn : n ≤ rows.length) (h : rowsAt k sz rows b o) : rowsAt k sz (rows.drop n) b (o + n * sz) := by
  rw [← List.take_append_drop n rows] at h
  have := (rowsAt_append.1 h).2
  rwa [List.length_take, Nat.min_eq_left hn] at this
/-- All cells of the rows, one behind the other. -/
theorem rowsAt_vals {k : K} {sz : Nat} : ∀ {rows : List (List AV)} {b o : Nat} (h : rowsAt k sz rows b o), ∃ vs, Rs k rows.flatten vs ∧ vs.length = rows.length * sz ∧ ∀ j v, vs[j]? = some v → k.ic ⟨b, o + j, none⟩ v
  | [], b, o, h => ⟨[], by simp [Rs], by simp, fun j v hv => by simp at hv⟩
  | y :: rows, b, o, h => by
    simp only [rowsAt] at h
    obtain ⟨hy, hl, hr⟩ := h
    obtain ⟨us, hus, huc⟩ := rowAt_vals hy
    obtain ⟨vs, hvs, hvl, hvc⟩ := rowsAt_vals hr
    have hul : us.length = sz := (Rs_length hus).trans hl
    refine ⟨us ++ vs, by simpa using Rs_append hus hvs, by simp [hul, hvl, Nat.add_mul]; omega, fun j v hv => ?_⟩
    rcases Nat.lt_or_ge j us.length with hj | hj
    · rw [List.getElem?_append_left hj] at hv
      exact huc j v hv
    · rw [List.getElem?_append_right hj] at hv
      have := hvc _ v hv
      rwa [show o + sz + (j - us.length) = o + j by omega] at this
theorem rowsAt_of {k : K} {sz : Nat} : ∀ {rows : List (List AV)} {vs : List Value} {b o : Nat}, Rs k rows.flatten vs → (∀ x ∈ rows, x.length = sz) → (∀ j v, vs[j]? = some v → k.ic ⟨b, o + j, none⟩ v) → rowsAt k sz rows b o
  | [], vs, b, o, h, hl, hc => by simp [rowsAt]
  | x :: rows, vs, b, o, h, hl, hc => by
    have hx := hl x (by simp)
    simp only [List.flatten_cons] at h
    have ht := Rs_take x.length h
    have hd := Rs_drop x.length h
    rw [List.take_left] at ht
    rw [List.drop_left] at hd
    simp only [rowsAt]
    refine ⟨rowAt_of ht fun j v hj => ?_, hx, rowsAt_of hd (fun y hy => hl y (by simp [hy])) fun j v hj => ?_⟩
    · rw [List.getElem?_take] at hj
      split at hj
      · exact hc j v hj
      · cases hj
    · rw [List.getElem?_drop, hx] at hj
      have := hc _ v hj
      rwa [show o + (sz + j) = o + sz + j by omega] at this
end Go.Av

namespace Go.Av
open Go.RowKit (Below)

def upd {α : Type} (f : Nat → α) (i : Nat) (v : α) : Nat → α := fun j => if j = i then v else f j
theorem upd_same {α : Type} (f : Nat → α) (i : Nat) (v : α) : upd f i v i = v := by simp [upd]
theorem upd_upd {α : Type} (f : Nat → α) (i : Nat) (a b : α) : upd (upd f i a) i b = upd f i b := by
  funext j
  simp only [upd]
  split <;> rfl
theorem upd_ne {α : Type} (f : Nat → α) (i : Nat) (v : α) {j : Nat} (h : j ≠ i) : upd f i v j = f j := by simp [upd, h]

/-- Whose is a block that was made since the call began. -/
inductive Own where
  | free
  | imm
  | junk
  | ext
  | var (d : Nat)
  | tok (t : Nat)

/-- An abstract state: the slots; the variables (how often made, what they hold); the tokens (how often given, the length at which one is open); what lies outside. -/
structure St (σ : Type) where
  env : Nat → AV
  gen : Nat → Nat
  var : Nat → List AV
  tgen : Nat → Nat
  top : Nat → Option Nat
  x : σ

/-- Old memory is as it was, but for the blocks of E. -/
structure Keeps (base : Nat) (E : Nat → Prop) (w w' : World) : Prop where
  os : w'.os = w.os
  tape : w'.tape = w.tape
  output : w'.output = w.output
  size : w.heap.size ≤ w'.heap.size
  block : ∀ b, b < base → ¬ E b → w'.heap[b]? = w.heap[b]?
theorem Keeps.refl (base : Nat) (E : Nat → Prop) (w : World) : Keeps base E w w := ⟨rfl, rfl, rfl, Nat.le_refl _, fun _ _ _ => rfl⟩
theorem Keeps.trans {base : Nat} {E : Nat → Prop} {a b c : World} (h : Keeps base E a b) (k : Keeps base E b c) : Keeps base E a c :=
  ⟨k.os.trans h.os, k.tape.trans h.tape, k.output.trans h.output, Nat.le_trans h.size k.size, fun i hi he => (k.block i hi he).trans (h.block i hi he)⟩
theorem Keeps.of_below {base : Nat} {E : Nat → Prop} {a b : World} {B : Nat} (hB : base ≤ B) (h : Below B a b) : Keeps base E a b :=
  ⟨h.os, h.tape, h.output, h.size, fun i hi _ => h.block i (by omega)⟩
theorem Keeps.below {base : Nat} {a b : World} (h : Keeps base (fun _ => False) a b) : Below base a b :=
  ⟨h.os, h.tape, h.output, h.size, fun i hi => h.block i hi (fun x => x)⟩

/-- What a call's proof holds fixed. G0: the immutable cells that it may read; E0: the old blocks of the outside objects. -/
structure Cx (σ : Type) where
  base : Nat
  w0 : World
  G0 : Addr → Prop
  E0 : Nat → Prop
  nt : Nat
  sv : AV → Value → Prop
  rep : σ → (Nat → Value → Prop) → (Nat → Prop) → World → Prop
  stable : ∀ x ob E w w', rep x ob E w → (∀ b, E b → w'.heap[b]? = w.heap[b]?) → rep x ob E w'
  g0 : ∀ a, G0 a → a.block < base ∧ ¬ E0 a.block

variable {σ : Type}

/-- The package variable of the library that calls read holds a whole number. -/
def Ground (P : Program) (w : World) : Prop := ∀ g, P.globals.findIdx? (·.name == "internal/bytealg.MaxLen") = some g → ∃ m, w.cell? ⟨g, 0, none⟩ = some (.int .i64 m)
/-- .. and is no outside object's. -/
def Cx.ground (c : Cx σ) (P : Program) : Prop := ∀ g, P.globals.findIdx? (·.name == "internal/bytealg.MaxLen") = some g → g < c.base ∧ ¬ c.E0 g ∧ ∃ m, c.w0.cell? ⟨g, 0, none⟩ = some (.int .i64 m)

/-- A block of a variable: cells, at least so many (some z); a map (none). -/
def shapeOk : Option Nat → Option Obj → Prop
  | some z, some (.cells cur _ fr) => fr = (0, 0) ∧ z ≤ cur.size
  | none, some (.map _ _) => True
  | _, _ => False
/-- A map's entries. -/
def Rm (k : K) : List AV → List MapEntry → Prop
  | [], es => es = []
  | x :: xs, es => ∃ kx vx e r, x = .tup [kx, vx] ∧ es = e :: r ∧ R k kx e.key ∧ R k vx e.val ∧ Rm k xs r
theorem Rm_mono {k k' : K} (h : KLe k k') : ∀ (xs : List AV) (es : List MapEntry), Rm k xs es → Rm k' xs es
  | [], _, hr => hr
  | x :: xs, es, hr => by
    simp only [Rm] at hr ⊢
    obtain ⟨kx, vx, e, r, e1, e2, h1, h2, h3⟩ := hr
    exact ⟨kx, vx, e, r, e1, e2, R_mono h _ _ h1, R_mono h _ _ h2, Rm_mono h xs r h3⟩
/-- What a variable's block holds. -/
def VR (k : K) (l : List AV) : Obj → Prop
  | .cells cs _ fr => fr = (0, 0) ∧ (∀ v ∈ cs.toList, v.oneCell' = true) ∧ Rs k l (cs.toList.take l.length)
  | .map es _ => Rm k l es.toList
  | _ => False
theorem VR_mono {k k' : K} (h : KLe k k') {l : List AV} {obj : Obj} (hv : VR k l obj) : VR k' l obj := by
  cases obj with
  | cells cs T fr => exact ⟨hv.1, hv.2.1, Rs_mono h _ _ hv.2.2⟩
  | map es clk => exact Rm_mono h _ _ hv
  | _ => exact hv.elim
/-- What is known, in an abstract state, of the world. -/
def Kof (c : Cx σ) (st : St σ) (w : World) (o : Nat → Own) (τ : Nat → Nat) (ob : Nat → Value → Prop) : K where
  ic a v := a.spot = none ∧ w.cell? a = some v ∧ (c.G0 a ∨ (c.base ≤ a.block ∧ (o a.block = .imm ∨ ∃ t, o a.block = .tok t ∧ a.off < τ a.block)))
  pg d g := 1 ≤ g ∧ g ≤ st.gen d
  pc d g := g = st.gen d
  vb d b q := c.base ≤ b ∧ o b = .var d ∧ shapeOk q w.heap[b]?
  tg t g := 1 ≤ g ∧ g ≤ st.tgen t
  tc t g n := g = st.tgen t ∧ st.top t = some n
  tb t b f z := c.base ≤ b ∧ o b = .tok t ∧ τ b = f ∧ ∃ cur T, w.heap[b]? = some (.cells cur T (0, 0)) ∧ cur.size = z
  ob := ob

/-- The relation. -/
structure FR (c : Cx σ) (st : St σ) (a : Act) (w : World) (o : Nat → Own) (τ : Nat → Nat) (ob : Nat → Value → Prop) : Prop where
  defers : a.defers = []
  size : a.tmps.size = c.nt
  keeps : Keeps c.base c.E0 c.w0 w
  base : c.base ≤ w.heap.size
  lt : ∀ b, c.base ≤ b → o b ≠ .free → b < w.heap.size
  tmps : ∀ s, R (Kof c st w o τ ob) (st.env s) (a.tmps.getD s undef)
  vars : ∀ d b, c.base ≤ b → o b = .var d → ∃ obj, w.heap[b]? = some obj ∧ VR (Kof c st w o τ ob) (st.var d) obj
  uniq : ∀ d b b', c.base ≤ b → c.base ≤ b' → o b = .var d → o b' = .var d → b = b'
  saved : ∀ x v, c.sv x v → R (Kof c st w o τ ob) x v
  ext : c.rep st.x ob (fun b => (b < c.base ∧ c.E0 b) ∨ (c.base ≤ b ∧ o b = .ext)) w

theorem cell_of_block {w w' : World} {a : Addr} (h : w'.heap[a.block]? = w.heap[a.block]?) : w'.cell? a = w.cell? a := by
  simp only [World.cell?, h]
theorem FR.ground {c : Cx σ} {st : St σ} {a : Act} {w : World} {o : Nat → Own} {τ : Nat → Nat} {ob : Nat → Value → Prop} (h : FR c st a w o τ ob) {P : Program} (hg : c.ground P) : Ground P w := by
  intro g e
  obtain ⟨h1, h2, m, hm⟩ := hg g e
  exact ⟨m, (cell_of_block (a := ⟨g, 0, none⟩) (h.keeps.block g h1 h2)).trans hm⟩

theorem KLe_of {c : Cx σ} {st st' : St σ} {w w' : World} {o o' : Nat → Own} {τ τ' : Nat → Nat} {ob ob' : Nat → Value → Prop}
    (h1 : ∀ a : Addr, c.G0 a → w'.cell? a = w.cell? a)
    (h2 : ∀ a : Addr, c.base ≤ a.block → o a.block = .imm → w'.cell? a = w.cell? a ∧ o' a.block = .imm)
    (h3 : ∀ (a : Addr) t, c.base ≤ a.block → o a.block = .tok t → a.off < τ a.block → w'.cell? a = w.cell? a ∧ (o' a.block = .imm ∨ ∃ t', o' a.block = .tok t' ∧ a.off < τ' a.block))
    (h4 : ∀ d, st.gen d ≤ st'.gen d) (h5 : ∀ d b, st'.gen d = st.gen d → c.base ≤ b → o b = .var d → o' b = .var d ∧ ∀ q, shapeOk q w.heap[b]? → shapeOk q w'.heap[b]?)
    (h6 : ∀ t, st.tgen t ≤ st'.tgen t) (h7 : ∀ t n, st'.tgen t = st.tgen t → st'.top t = some n → st.top t = some n)
    (h8 : ∀ t n b cur T, st'.tgen t = st.tgen t → st'.top t = some n → c.base ≤ b → o b = .tok t → w.heap[b]? = some (.cells cur T (0, 0)) → o' b = .tok t ∧ τ' b = τ b ∧ ∃ cur' T', w'.heap[b]? = some (.cells cur' T' (0, 0)) ∧ cur'.size = cur.size)
    (h9 : ∀ i v, ob i v → ob' i v) : KLe (Kof c st w o τ ob) (Kof c st' w' o' τ' ob') where
  ic := by
    rintro a v ⟨hs, hc, hr⟩
    rcases hr with hg | ⟨hb, hi | ⟨t, ht, hlt⟩⟩
    · exact ⟨hs, (h1 a hg).trans hc, .inl hg⟩
    · obtain ⟨e, hi'⟩ := h2 a hb hi
      exact ⟨hs, e.trans hc, .inr ⟨hb, .inl hi'⟩⟩
    · obtain ⟨e, hi'⟩ := h3 a t hb ht hlt
      exact ⟨hs, e.trans hc, .inr ⟨hb, hi'⟩⟩
  pg := by
    rintro d g ⟨hg, hl⟩
    exact ⟨hg, Nat.le_trans hl (h4 d)⟩
  pc := by
    rintro d g ⟨hg, hl⟩ he
    have := h4 d
    simp only [Kof] at he ⊢
    omega
  vb := by
    rintro d g b q ⟨hg, hl⟩ he ⟨hb, hv, hs⟩
    have := h4 d
    simp only [Kof] at he
    obtain ⟨h51, h52⟩ := h5 d b (by omega) hb hv
    exact ⟨hb, h51, h52 q hs⟩
  tg := by
    rintro d g ⟨hg, hl⟩
    exact ⟨hg, Nat.le_trans hl (h6 d)⟩
  tc := by
    rintro t g n ⟨hg, hl⟩ ⟨he, ht⟩
    have := h6 t
    have e : st'.tgen t = st.tgen t := by omega
    exact ⟨by omega, h7 t n e ht⟩
  tb := by
    rintro t g n b f z ⟨hg, hl⟩ ⟨he, ht⟩ ⟨hb, ho, hf, cur, T, hc, hz⟩
    have := h6 t
    have e : st'.tgen t = st.tgen t := by omega
    obtain ⟨ho', ht', cur', T', hc', hz'⟩ := h8 t n b cur T e ht hb ho hc
    exact ⟨hb, ho', ht'.trans hf, cur', T', hc', hz'.trans hz⟩
  ob := h9

/-- A slot is written. -/
theorem FR.put {c : Cx σ} {st : St σ} {a : Act} {w : World} {o : Nat → Own} {τ : Nat → Nat} {ob : Nat → Value → Prop} (h : FR c st a w o τ ob) {s : Nat} {x : AV} {v : Value} (hs : s < c.nt)
    (hx : R (Kof c st w o τ ob) x v) : FR c { st with env := upd st.env s x } (a.put (some s) v) w o τ ob where
  defers := h.defers
  size := by simp [Act.put, h.size]
  keeps := h.keeps
  base := h.base
  lt := h.lt
  tmps := by
    intro i
    show R (Kof c st w o τ ob) (upd st.env s x i) _
    by_cases e : i = s
    · subst e
      rw [upd_same]
      have : (a.put (some i) v).tmps.getD i undef = v := by simp [Act.put, Array.getElem?_setIfInBounds, h.size, hs]
      rw [this]; exact hx
    · rw [upd_ne _ _ _ e]
      have : (a.put (some s) v).tmps.getD i undef = a.tmps.getD i undef := by simp [Act.put, Array.getElem?_setIfInBounds, Ne.symm e]
      rw [this]; exact h.tmps i
  vars := h.vars
  uniq := h.uniq
  saved := h.saved
  ext := h.ext

/-- The world turns: what is to be shown. -/
theorem FR.turn {c : Cx σ} {st st' : St σ} {a : Act} {w w' : World} {o o' : Nat → Own} {τ τ' : Nat → Nat} {ob ob' : Nat → Value → Prop} (h : FR c st a w o τ ob)
    (henv : st'.env = st.env) (hk : KLe (Kof c st w o τ ob) (Kof c st' w' o' τ' ob')) (hw : Keeps c.base c.E0 w w')
    (lt : ∀ b, c.base ≤ b → o' b ≠ .free → b < w'.heap.size)
    (vars : ∀ d b, c.base ≤ b → o' b = .var d → ∃ obj, w'.heap[b]? = some obj ∧ VR (Kof c st' w' o' τ' ob') (st'.var d) obj)
    (uniq : ∀ d b b', c.base ≤ b → c.base ≤ b' → o' b = .var d → o' b' = .var d → b = b')
    (ext : c.rep st'.x ob' (fun b => (b < c.base ∧ c.E0 b) ∨ (c.base ≤ b ∧ o' b = .ext)) w') : FR c st' a w' o' τ' ob' where
  defers := h.defers
  size := h.size
  keeps := h.keeps.trans hw
  base := Nat.le_trans h.base hw.size
  lt := lt
  tmps := fun s => by rw [henv]; exact R_mono hk _ _ (h.tmps s)
  vars := vars
  uniq := uniq
  saved := fun x v hx => R_mono hk _ _ (h.saved x v hx)
  ext := ext

theorem cell_alloc {w : World} {ob : Obj} {a : Addr} (h : a.block ≠ w.heap.size) : (w.alloc ob).cell? a = w.cell? a := World.cell?_alloc_old w ob a h
theorem heap_alloc {w : World} {ob : Obj} {b : Nat} (h : b < w.heap.size) : (w.alloc ob).heap[b]? = w.heap[b]? := by
  show (w.heap.push ob)[b]? = _
  rw [Array.getElem?_push, if_neg (by omega)]
theorem heap_alloc_self {w : World} {ob : Obj} : (w.alloc ob).heap[w.heap.size]? = some ob := by
  show (w.heap.push ob)[w.heap.size]? = _
  simp
theorem keeps_alloc {base : Nat} {E : Nat → Prop} {w : World} (ob : Obj) (hb : base ≤ w.heap.size) : Keeps base E w (w.alloc ob) :=
  ⟨rfl, rfl, rfl, by rw [World.size_alloc]; omega, fun b hb' _ => heap_alloc (by omega)⟩
theorem cell_lt {w : World} {a : Addr} {v : Value} (h : w.cell? a = some v) : a.block < w.heap.size := World.block_lt_of_cell? w a h

section
variable {c : Cx σ} {st : St σ} {a : Act} {w : World} {o : Nat → Own} {τ : Nat → Nat} {ob : Nat → Value → Prop}

theorem FR.free_size (h : FR c st a w o τ ob) : o w.heap.size = .free := by
  cases e : o w.heap.size with
  | free => rfl
  | _ => exact absurd (h.lt w.heap.size h.base (by rw [e]; simp)) (by omega)

/-- A new variable. -/
def newVarOwn (o : Nat → Own) (n d : Nat) : Nat → Own := fun b => if b = n then .var d else match o b with | .var d' => if d' = d then .junk else .var d' | x => x
theorem newVarOwn_new (o : Nat → Own) (n d : Nat) : newVarOwn o n d n = .var d := by simp [newVarOwn]
theorem newVarOwn_other {o : Nat → Own} {n d b : Nat} (hb : b ≠ n) (h : ∀ d', o b ≠ .var d') : newVarOwn o n d b = o b := by
  unfold newVarOwn
  rw [if_neg hb]
  cases e : o b <;> simp_all
theorem newVarOwn_var {o : Nat → Own} {n d b d' : Nat} (hb : b ≠ n) (h : o b = .var d') (hd : d' ≠ d) : newVarOwn o n d b = .var d' := by
  unfold newVarOwn
  rw [if_neg hb, h]
  simp [hd]
theorem newVarOwn_inv {o : Nat → Own} {n d b d' : Nat} (hb : b ≠ n) (h : newVarOwn o n d b = .var d') : o b = .var d' ∧ d' ≠ d := by
  unfold newVarOwn at h
  rw [if_neg hb] at h
  cases e : o b <;> simp [e] at h
  case var d'' =>
    split at h
    · cases h
    · rename_i hne
      injection h with h
      subst h
      exact ⟨rfl, hne⟩
theorem newVarOwn_ext {o : Nat → Own} {n d b : Nat} (h : newVarOwn o n d b = .ext) (hb : b ≠ n) : o b = .ext := by
  unfold newVarOwn at h
  rw [if_neg hb] at h
  cases e : o b <;> simp [e] at h
  case var d'' => split at h <;> cases h
  case ext => rfl
theorem newVarOwn_free {o : Nat → Own} {n d b : Nat} (hb : b ≠ n) (h : newVarOwn o n d b ≠ .free) : o b ≠ .free := by
  intro e
  apply h
  unfold newVarOwn
  rw [if_neg hb, e]

def St.newVar (st : St σ) (d : Nat) (xs : List AV) : St σ := { st with gen := upd st.gen d (st.gen d + 1), var := upd st.var d xs }

theorem FR.newVarO (h : FR c st a w o τ ob) (d : Nat) {xs : List AV} (obj : Obj) (hr : VR (Kof c st w o τ ob) xs obj) :
    FR c (st.newVar d xs) a (w.alloc obj) (newVarOwn o w.heap.size d) τ ob ∧ KLe (Kof c st w o τ ob) (Kof c (st.newVar d xs) (w.alloc obj) (newVarOwn o w.heap.size d) τ ob) ∧
    (Kof c (st.newVar d xs) (w.alloc obj) (newVarOwn o w.heap.size d) τ ob).pg d (st.gen d + 1) ∧ ∀ q, shapeOk q (some obj) → (Kof c (st.newVar d xs) (w.alloc obj) (newVarOwn o w.heap.size d) τ ob).vb d w.heap.size q := by
  have hfree := h.free_size
  have hne : ∀ b, c.base ≤ b → o b ≠ .free → b ≠ w.heap.size := fun b hb ho => by have := h.lt b hb ho; omega
  have hk : KLe (Kof c st w o τ ob) (Kof c (st.newVar d xs) (w.alloc obj) (newVarOwn o w.heap.size d) τ ob) := by
    refine KLe_of ?_ ?_ ?_ ?_ ?_ ?_ ?_ ?_ (fun _ _ h => h)
    · intro p hp
      have := (c.g0 p hp).1
      have := h.base
      exact cell_alloc (by omega)
    · intro p hb hi
      have := hne p.block hb (by rw [hi]; simp)
      exact ⟨cell_alloc this, (newVarOwn_other this (by rw [hi]; simp)).trans hi⟩
    · intro p t hb hi hlt
      have := hne p.block hb (by rw [hi]; simp)
      exact ⟨cell_alloc this, .inr ⟨t, (newVarOwn_other this (by rw [hi]; simp)).trans hi, hlt⟩⟩
    · intro d'
      show st.gen d' ≤ upd st.gen d (st.gen d + 1) d'
      unfold upd; split
      · rename_i e; subst e; omega
      · omega
    · intro d' b hg hb hv
      have hd : d' ≠ d := by
        rintro rfl
        simp [St.newVar, upd] at hg
      refine ⟨newVarOwn_var (hne b hb (by rw [hv]; simp)) hv hd, fun q hq => ?_⟩
      rw [heap_alloc (h.lt b hb (by rw [hv]; simp))]; exact hq
    · intro t; exact Nat.le_refl _
    · intro t n _ ht; exact ht
    · intro t n b cur T' _ _ hb ht hc
      have hn := hne b hb (by rw [ht]; simp)
      refine ⟨(newVarOwn_other hn (by rw [ht]; simp)).trans ht, rfl, cur, T', ?_, rfl⟩
      rw [heap_alloc (h.lt b hb (by rw [ht]; simp))]; exact hc
  refine ⟨h.turn rfl hk (keeps_alloc _ h.base) ?_ ?_ ?_ ?_, hk, ?_, ?_⟩
  · intro b hb ho
    by_cases e : b = w.heap.size
    · subst e; rw [World.size_alloc]; omega
    · have := h.lt b hb (newVarOwn_free e ho)
      rw [World.size_alloc]; omega
  · intro d' b hb hv
    by_cases e : b = w.heap.size
    · subst e
      rw [newVarOwn_new] at hv
      injection hv with hv
      subst hv
      refine ⟨obj, heap_alloc_self, ?_⟩
      show VR _ (upd st.var d xs d) _
      rw [upd_same]
      exact VR_mono hk hr
    · obtain ⟨hv', hd⟩ := newVarOwn_inv e hv
      obtain ⟨obj', hc, hr'⟩ := h.vars d' b hb hv'
      refine ⟨obj', ?_, ?_⟩
      · rw [heap_alloc (h.lt b hb (by rw [hv']; simp))]; exact hc
      · show VR _ (upd st.var d xs d') _
        rw [upd_ne _ _ _ hd]
        exact VR_mono hk hr'
  · intro d' b b' hb hb' hv hv'
    by_cases e : b = w.heap.size
    · by_cases e' : b' = w.heap.size
      · omega
      · obtain ⟨hv'', hd⟩ := newVarOwn_inv e' hv'
        subst e
        rw [newVarOwn_new] at hv
        injection hv with hv
        exact absurd hv.symm hd
    · obtain ⟨h1, hd⟩ := newVarOwn_inv e hv
      by_cases e' : b' = w.heap.size
      · subst e'
        rw [newVarOwn_new] at hv'
        injection hv' with hv'
        exact absurd hv'.symm hd
      · obtain ⟨h2, _⟩ := newVarOwn_inv e' hv'
        exact h.uniq d' b b' hb hb' h1 h2
  · have : (fun b => (b < c.base ∧ c.E0 b) ∨ (c.base ≤ b ∧ newVarOwn o w.heap.size d b = .ext)) = (fun b => (b < c.base ∧ c.E0 b) ∨ (c.base ≤ b ∧ o b = .ext)) := by
      funext b
      apply propext
      refine or_congr Iff.rfl (and_congr_right fun hb => ⟨fun hx => ?_, fun hx => ?_⟩)
      · by_cases e : b = w.heap.size
        · subst e; rw [newVarOwn_new] at hx; cases hx
        · exact newVarOwn_ext hx e
      · have := hne b hb (by rw [hx]; simp)
        exact (newVarOwn_other this (by rw [hx]; simp)).trans hx
    rw [this]
    refine c.stable _ _ _ _ _ h.ext fun b hb => ?_
    refine heap_alloc ?_
    rcases hb with ⟨hb, _⟩ | ⟨hb, hx⟩
    · have := h.base; omega
    · exact h.lt b hb (by rw [hx]; simp)
  · refine ⟨by omega, ?_⟩
    simp [St.newVar, upd]
  · intro q hq
    exact ⟨h.base, newVarOwn_new _ _ _, by rw [heap_alloc_self]; exact hq⟩

theorem FR.newVar' (h : FR c st a w o τ ob) (d : Nat) {xs : List AV} {cs : List Value} (T : TypeId) (h1 : ∀ v ∈ cs, v.oneCell' = true) (hr : Rs (Kof c st w o τ ob) xs (cs.take xs.length)) :
    FR c (st.newVar d xs) a (w.alloc (.cells cs.toArray T)) (newVarOwn o w.heap.size d) τ ob ∧
    R (Kof c (st.newVar d xs) (w.alloc (.cells cs.toArray T)) (newVarOwn o w.heap.size d) τ ob) (.ptr d (st.gen d + 1) 0) (.pointer (some ⟨w.heap.size, 0, none⟩)) := by
  obtain ⟨k1, k2, k3, k4⟩ := h.newVarO d (xs := xs) (.cells cs.toArray T) ⟨rfl, by simpa using h1, by simpa using hr⟩
  refine ⟨k1, ?_⟩
  simp only [R]
  exact ⟨k3, rfl, fun _ => ⟨_, k4 (some 0) ⟨rfl, Nat.zero_le _⟩, rfl⟩⟩
theorem Rs_all {k : K} {xs : List AV} {cs : List Value} (h : Rs k xs cs) : Rs k xs (cs.take xs.length) := by
  rw [← Rs_length h, List.take_length]; exact h
theorem FR.newVar (h : FR c st a w o τ ob) (d : Nat) {xs : List AV} {cs : List Value} (T : TypeId) (hr : Rs (Kof c st w o τ ob) xs cs) :
    FR c (st.newVar d xs) a (w.alloc (.cells cs.toArray T)) (newVarOwn o w.heap.size d) τ ob ∧
    R (Kof c (st.newVar d xs) (w.alloc (.cells cs.toArray T)) (newVarOwn o w.heap.size d) τ ob) (.ptr d (st.gen d + 1) 0) (.pointer (some ⟨w.heap.size, 0, none⟩)) :=
  h.newVar' d T (Rs_one hr) (Rs_all hr)
end
end Go.Av

namespace Go.Av
open Go.RowKit (Below)
variable {σ : Type}

section
variable {c : Cx σ} {st : St σ} {a : Act} {w : World} {o : Nat → Own} {τ : Nat → Nat} {ob : Nat → Value → Prop}

/-- A new block that is no variable and no outside object's. -/
theorem FR.newBlk (h : FR c st a w o τ ob) (x : Own) (hx1 : x ≠ .ext) (hx2 : ∀ d, x ≠ .var d) (obj : Obj) (f : Nat) {st' : St σ} (e1 : st'.env = st.env) (e2 : st'.gen = st.gen) (e3 : st'.var = st.var) (e4 : st'.x = st.x)
    (h6 : ∀ t, st.tgen t ≤ st'.tgen t) (h7 : ∀ t n, st'.tgen t = st.tgen t → st'.top t = some n → st.top t = some n) :
    FR c st' a (w.alloc obj) (upd o w.heap.size x) (upd τ w.heap.size f) ob ∧ KLe (Kof c st w o τ ob) (Kof c st' (w.alloc obj) (upd o w.heap.size x) (upd τ w.heap.size f) ob) := by
  have hne : ∀ b, c.base ≤ b → o b ≠ .free → b ≠ w.heap.size := fun b hb ho => by have := h.lt b hb ho; omega
  have hk : KLe (Kof c st w o τ ob) (Kof c st' (w.alloc obj) (upd o w.heap.size x) (upd τ w.heap.size f) ob) := by
    refine KLe_of ?_ ?_ ?_ ?_ ?_ h6 h7 ?_ (fun _ _ h => h)
    · intro p hp
      have := (c.g0 p hp).1
      have := h.base
      exact cell_alloc (by omega)
    · intro p hb hi
      have := hne p.block hb (by rw [hi]; simp)
      exact ⟨cell_alloc this, (upd_ne _ _ _ this).trans hi⟩
    · intro p t hb hi hlt
      have := hne p.block hb (by rw [hi]; simp)
      exact ⟨cell_alloc this, .inr ⟨t, (upd_ne _ _ _ this).trans hi, by rw [upd_ne _ _ _ this]; exact hlt⟩⟩
    · intro d; rw [e2]; exact Nat.le_refl _
    · intro d b _ hb hv
      have := hne b hb (by rw [hv]; simp)
      refine ⟨(upd_ne _ _ _ this).trans hv, fun q hq => ?_⟩
      rw [heap_alloc (h.lt b hb (by rw [hv]; simp))]; exact hq
    · intro t n b cur T' _ _ hb ht hc
      have hn := hne b hb (by rw [ht]; simp)
      refine ⟨(upd_ne _ _ _ hn).trans ht, upd_ne _ _ _ hn, cur, T', ?_, rfl⟩
      rw [heap_alloc (h.lt b hb (by rw [ht]; simp))]; exact hc
  have hvar : ∀ d b, upd o w.heap.size x b = .var d → b ≠ w.heap.size ∧ o b = .var d := by
    intro d b hv
    by_cases e : b = w.heap.size
    · subst e; rw [upd_same] at hv; exact absurd hv (hx2 d)
    · rw [upd_ne _ _ _ e] at hv; exact ⟨e, hv⟩
  refine ⟨h.turn e1 hk (keeps_alloc _ h.base) ?_ ?_ ?_ ?_, hk⟩
  · intro b hb ho
    rw [World.size_alloc]
    by_cases e : b = w.heap.size
    · omega
    · rw [upd_ne _ _ _ e] at ho
      have := h.lt b hb ho
      omega
  · intro d b hb hv
    obtain ⟨e, hv'⟩ := hvar d b hv
    obtain ⟨obj', hc, hr'⟩ := h.vars d b hb hv'
    refine ⟨obj', ?_, by rw [e3]; exact VR_mono hk hr'⟩
    rw [heap_alloc (h.lt b hb (by rw [hv']; simp))]; exact hc
  · intro d b b' hb hb' hv hv'
    exact h.uniq d b b' hb hb' (hvar d b hv).2 (hvar d b' hv').2
  · have : (fun b => (b < c.base ∧ c.E0 b) ∨ (c.base ≤ b ∧ upd o w.heap.size x b = .ext)) = (fun b => (b < c.base ∧ c.E0 b) ∨ (c.base ≤ b ∧ o b = .ext)) := by
      funext b
      apply propext
      refine or_congr Iff.rfl (and_congr_right fun hb => ⟨fun hx => ?_, fun hx => ?_⟩)
      · by_cases e : b = w.heap.size
        · subst e; rw [upd_same] at hx; exact absurd hx hx1
        · rwa [upd_ne _ _ _ e] at hx
      · rw [upd_ne _ _ _ (hne b hb (by rw [hx]; simp))]; exact hx
    rw [this, e4]
    refine c.stable _ _ _ _ _ h.ext fun b hb => heap_alloc ?_
    rcases hb with ⟨hb, _⟩ | ⟨hb, hx⟩
    · have := h.base; omega
    · exact h.lt b hb (by rw [hx]; simp)

/-- A draw. -/
theorem Kof_drew : Kof c st w.drew o τ ob = Kof c st w o τ ob := rfl
theorem FR.drew (h : FR c st a w o τ ob) : FR c st a w.drew o τ ob :=
  ⟨h.defers, h.size, h.keeps.trans ⟨rfl, rfl, rfl, Nat.le_refl _, fun _ _ _ => rfl⟩, h.base, h.lt, h.tmps, h.vars, h.uniq, h.saved, c.stable _ _ _ _ _ h.ext fun _ _ => rfl⟩

/-- One block's cells are written anew. -/
theorem FR.setRow_keeps (h : FR c st a w o τ ob) {b : Nat} (hb : c.base ≤ b) (cs : Array Value) : Keeps c.base c.E0 w (w.setRow b cs) :=
  ⟨rfl, rfl, rfl, by simp, fun k hk _ => setRow_other w b k cs (by omega)⟩

/-- A store into a variable. -/
theorem FR.setVar (h : FR c st a w o τ ob) {d b : Nat} (hb : c.base ≤ b) (hv : o b = .var d) {xs : List AV} {cs : List Value} {cs0 : Array Value} {T0 : TypeId} (hc0 : w.heap[b]? = some (.cells cs0 T0 (0, 0))) (hl : cs0.size ≤ cs.length) (h1 : ∀ v ∈ cs, v.oneCell' = true) (hr : Rs (Kof c st w o τ ob) xs (cs.take xs.length)) :
    FR c { st with var := upd st.var d xs } a (w.setRow b cs.toArray) o τ ob ∧ KLe (Kof c st w o τ ob) (Kof c { st with var := upd st.var d xs } (w.setRow b cs.toArray) o τ ob) := by
  have hcell : ∀ p : Addr, p.block ≠ b → (w.setRow b cs.toArray).cell? p = w.cell? p := fun p hp => cell_setRow_other w b _ p hp
  have hk : KLe (Kof c st w o τ ob) (Kof c { st with var := upd st.var d xs } (w.setRow b cs.toArray) o τ ob) := by
    refine KLe_of ?_ ?_ ?_ (fun _ => Nat.le_refl _) ?_ (fun _ => Nat.le_refl _) (fun _ _ _ h => h) ?_ (fun _ _ h => h)
    · intro p hp
      have := (c.g0 p hp).1
      exact hcell p (by omega)
    · intro p hb' hi
      exact ⟨hcell p (by rintro rfl; rw [hi] at hv; cases hv), hi⟩
    · intro p t hb' hi hlt
      exact ⟨hcell p (by rintro rfl; rw [hi] at hv; cases hv), .inr ⟨t, hi, hlt⟩⟩
    · intro d' b' _ hb' hv'
      refine ⟨hv', fun q hq => ?_⟩
      by_cases e : b' = b
      · subst e
        rw [setRow_heap w b' cs0 _ T0 _ hc0]
        rw [hc0] at hq
        cases q with
        | none => exact hq.elim
        | some z => exact ⟨rfl, by have := hq.2; simp; omega⟩
      · rw [setRow_other w b b' _ e]; exact hq
    · intro t n b' cur T' _ _ hb' ht hc
      refine ⟨ht, rfl, cur, T', ?_, rfl⟩
      rw [setRow_other w b b' _ (by rintro rfl; rw [ht] at hv; cases hv)]; exact hc
  refine ⟨h.turn rfl hk (h.setRow_keeps hb _) ?_ ?_ h.uniq ?_, hk⟩
  · intro b' hb' ho; rw [size_setRow]; exact h.lt b' hb' ho
  · intro d' b' hb' hv'
    by_cases e : b' = b
    · subst e
      have : d' = d := by rw [hv] at hv'; injection hv' with hv'; exact hv'.symm
      subst this
      refine ⟨_, setRow_heap w b' cs0 _ T0 _ hc0, ?_⟩
      show VR _ (upd st.var d' xs d') _
      rw [upd_same]
      exact ⟨rfl, by simpa using h1, by simpa using Rs_mono hk _ _ hr⟩
    · have hd : d' ≠ d := by
        rintro rfl
        exact e (h.uniq d' b' b hb' hb hv' hv)
      obtain ⟨obj', hc, hr'⟩ := h.vars d' b' hb' hv'
      refine ⟨obj', by rw [setRow_other w b b' _ e]; exact hc, ?_⟩
      show VR _ (upd st.var d xs d') _
      rw [upd_ne _ _ _ hd]
      exact VR_mono hk hr'
  · refine c.stable _ _ _ _ _ h.ext fun b' hb' => setRow_other w b b' _ ?_
    rcases hb' with ⟨hb', _⟩ | ⟨hb', hx⟩
    · omega
    · rintro rfl; rw [hx] at hv; cases hv

/-- A token is given anew: at slot d, length n. -/
def St.give (st : St σ) (d : Nat) (n : Nat) : St σ := { st with tgen := upd st.tgen d (st.tgen d + 1), top := upd st.top d (some n) }
/-- A token is spent. -/
def St.spend (st : St σ) (t : Nat) : St σ := { st with top := upd st.top t none }
theorem give_le (st : St σ) (d n : Nat) : ∀ t, st.tgen t ≤ (st.give d n).tgen t := by
  intro t
  show st.tgen t ≤ upd st.tgen d (st.tgen d + 1) t
  unfold upd; split
  · rename_i e; subst e; omega
  · omega
theorem give_top (st : St σ) (d n : Nat) : ∀ t m, (st.give d n).tgen t = st.tgen t → (st.give d n).top t = some m → t ≠ d ∧ st.top t = some m := by
  intro t m hg ht
  have e : t ≠ d := by
    rintro rfl
    simp [St.give, upd] at hg
  exact ⟨e, by simpa [St.give, upd, e] using ht⟩

/-- An append in place: the token t's block b; its first f cells are immutable, and stay so. -/
theorem FR.setTok (h : FR c st a w o τ ob) {t b d n f : Nat} {cur : Array Value} {T : TypeId} (hb : c.base ≤ b) (ht : o b = .tok t) (hc : w.heap[b]? = some (.cells cur T (0, 0))) {cs : List Value}
    (hpre : ∀ j, j < τ b → cs[j]? = cur[j]?) (hf : τ b ≤ f) (hsz : cs.length = cur.size) :
    FR c ((st.spend t).give d n) a (w.setRow b cs.toArray) (upd o b (.tok d)) (upd τ b f) ob ∧ KLe (Kof c st w o τ ob) (Kof c ((st.spend t).give d n) (w.setRow b cs.toArray) (upd o b (.tok d)) (upd τ b f) ob) := by
  have hcell : ∀ p : Addr, p.block ≠ b → (w.setRow b cs.toArray).cell? p = w.cell? p := fun p hp => cell_setRow_other w b _ p hp
  have hk : KLe (Kof c st w o τ ob) (Kof c ((st.spend t).give d n) (w.setRow b cs.toArray) (upd o b (.tok d)) (upd τ b f) ob) := by
    refine KLe_of ?_ ?_ ?_ (fun _ => Nat.le_refl _) ?_ (give_le (st.spend t) d n) ?_ ?_ (fun _ _ h => h)
    · intro p hp
      have := (c.g0 p hp).1
      exact hcell p (by omega)
    · intro p hb' hi
      have e : p.block ≠ b := by rintro rfl; rw [hi] at ht; cases ht
      exact ⟨hcell p e, (upd_ne _ _ _ e).trans hi⟩
    · intro p t' hb' hi hlt
      by_cases e : p.block = b
      · have hlt' : p.off < τ b := by rw [← e]; exact hlt
        refine ⟨?_, .inr ⟨d, by rw [e, upd_same], by rw [e, upd_same]; omega⟩⟩
        have h1 := setRow_heap w b cur cs.toArray T _ hc
        unfold World.cell?
        rw [e, h1, hc]
        simp only [List.getElem?_toArray]
        rw [hpre _ hlt']
      · exact ⟨hcell p e, .inr ⟨t', (upd_ne _ _ _ e).trans hi, by rw [upd_ne _ _ _ e]; exact hlt⟩⟩
    · intro d' b' _ hb' hv
      have e : b' ≠ b := by rintro rfl; rw [hv] at ht; cases ht
      exact ⟨(upd_ne _ _ _ e).trans hv, fun q hq => by rw [setRow_other w b b' _ e]; exact hq⟩
    · intro t' m hg hm
      have := (give_top (st.spend t) d n t' m hg hm).2
      by_cases e : t' = t
      · subst e; simp [St.spend, upd] at this
      · simpa [St.spend, upd, e] using this
    · intro t' m b' cur' T' hg hm hb' ht' hc'
      have hm' := (give_top (st.spend t) d n t' m hg hm).2
      have et : t' ≠ t := by rintro rfl; simp [St.spend, upd] at hm'
      have e : b' ≠ b := by
        rintro rfl
        rw [ht] at ht'
        injection ht' with ht'
        exact et ht'.symm
      exact ⟨(upd_ne _ _ _ e).trans ht', upd_ne _ _ _ e, cur', T', by rw [setRow_other w b b' _ e]; exact hc', rfl⟩
  have hvar : ∀ d' b', upd o b (.tok d) b' = .var d' → b' ≠ b ∧ o b' = .var d' := by
    intro d' b' hv
    by_cases e : b' = b
    · subst e; rw [upd_same] at hv; cases hv
    · rw [upd_ne _ _ _ e] at hv; exact ⟨e, hv⟩
  refine ⟨h.turn rfl hk (h.setRow_keeps hb _) ?_ ?_ ?_ ?_, hk⟩
  · intro b' hb' ho
    rw [size_setRow]
    by_cases e : b' = b
    · subst e; exact h.lt b' hb' (by rw [ht]; simp)
    · rw [upd_ne _ _ _ e] at ho; exact h.lt b' hb' ho
  · intro d' b' hb' hv'
    obtain ⟨e, hv''⟩ := hvar d' b' hv'
    obtain ⟨obj', hc', hr'⟩ := h.vars d' b' hb' hv''
    exact ⟨obj', by rw [setRow_other w b b' _ e]; exact hc', VR_mono hk hr'⟩
  · intro d' b1 b2 h1 h2 hv1 hv2
    exact h.uniq d' b1 b2 h1 h2 (hvar _ _ hv1).2 (hvar _ _ hv2).2
  · have : (fun b' => (b' < c.base ∧ c.E0 b') ∨ (c.base ≤ b' ∧ upd o b (.tok d) b' = .ext)) = (fun b' => (b' < c.base ∧ c.E0 b') ∨ (c.base ≤ b' ∧ o b' = .ext)) := by
      funext b'
      apply propext
      refine or_congr Iff.rfl (and_congr_right fun hb' => ⟨fun hx => ?_, fun hx => ?_⟩)
      · by_cases e : b' = b
        · subst e; rw [upd_same] at hx; cases hx
        · rwa [upd_ne _ _ _ e] at hx
      · have e : b' ≠ b := by rintro rfl; rw [hx] at ht; cases ht
        rw [upd_ne _ _ _ e]; exact hx
    rw [this]
    refine c.stable _ _ _ _ _ h.ext fun b' hb' => setRow_other w b b' _ ?_
    rcases hb' with ⟨hb', _⟩ | ⟨hb', hx⟩
    · omega
    · rintro rfl; rw [hx] at ht; cases ht
end

/-! ### calls that leave old memory alone -/
/-- What is known of arguments: immutable cells alone. -/
def KG (G : Addr → Prop) (w : World) : K :=
  ⟨fun a v => a.spot = none ∧ w.cell? a = some v ∧ G a, fun _ _ => False, fun _ _ => False, fun _ _ _ => False, fun _ _ => False, fun _ _ _ => False, fun _ _ _ _ => False, fun _ _ => False⟩
/-- What is known of a result: new immutable cells besides; token 0 for spare cells. -/
def KR (base : Nat) (G : Addr → Prop) (w : World) (o : Nat → Own) (τ : Nat → Nat) : K :=
  ⟨fun a v => a.spot = none ∧ w.cell? a = some v ∧ (G a ∨ (base ≤ a.block ∧ (o a.block = .imm ∨ ∃ t, o a.block = .tok t ∧ a.off < τ a.block))),
   fun _ _ => False, fun _ _ => False, fun _ _ _ => False, fun t g => t = 0 ∧ g = 0, fun t g _ => t = 0 ∧ g = 0,
   fun t b f z => base ≤ b ∧ o b = .tok t ∧ τ b = f ∧ ∃ cur T, w.heap[b]? = some (.cells cur T (0, 0)) ∧ cur.size = z, fun _ _ => False⟩
/-- The contract of a function that computes: whatever stands for the arguments, the result stands for r, and old memory is as it was. -/
def PCall (P : Program) (f : FuncId) (args : List AV) (r : AV) : Prop :=
  ∀ (G : Addr → Prop) (w : World) (vs : List Value), (∀ a, G a → a.block < w.heap.size) → Ground P w → Rt (KG G w) args vs →
    Calls P f vs.toArray w fun e w' => ∃ v o τ, e = .returned v ∧ Below w.heap.size w w' ∧ (∀ b, w.heap.size ≤ b → o b ≠ .free → b < w'.heap.size) ∧ R (KR w.heap.size G w' o τ) r v

/-- Tokens taken away. -/
def AV.weak : AV → AV
  | .sl sz (.own _ _) rows => .sl sz .ro rows
  | x => x
theorem R_weak {k : K} : ∀ {x : AV} {v : Value}, R k x v → R k x.weak v
  | .imm _, _, h => h
  | .agg _, _, h => h
  | .tup _, _, h => h
  | .ptr _ _ _, _, h => h
  | .eptr _ _, _, h => h
  | .sl sz .ro rows, _, h => h
  | .sl sz .full rows, _, h => h
  | .sl sz (.own t g) rows, v, h => by
    simp only [AV.weak, R] at h ⊢
    obtain ⟨A, c, e, hl, hm, hr, _⟩ := h
    exact ⟨A, c, e, hl, hm, hr, trivial⟩
  | .obj _, _, h => h
  | .fv _ _ _, _, h => h
  | .vsl _ _ _ _ _ _, _, h => h
  | .mp _ _, _, h => h
  | .dead, _, h => h
/-- .. one level down, and two. -/
def AV.weak1 : AV → AV
  | .agg cs => .agg (cs.map AV.weak)
  | x => x.weak
def AV.weaks : AV → AV
  | .tup vs => .tup (vs.map AV.weak1)
  | x => x.weak1
theorem Rs_weak {k : K} : ∀ {xs : List AV} {us : List Value}, Rs k xs us → Rs k (xs.map AV.weak) us
  | [], us, h => by simpa [Rs] using h
  | y :: ys, us, h => by
    simp only [Rs, List.map_cons] at h ⊢
    obtain ⟨u, r, e, hy, ho, hrr⟩ := h
    exact ⟨u, r, e, R_weak hy, ho, Rs_weak hrr⟩
theorem R_weak1 {k : K} {x : AV} {v : Value} (h : R k x v) : R k x.weak1 v := by
  unfold AV.weak1
  split
  · simp only [R] at h ⊢
    obtain ⟨arr, e, hr⟩ := h
    exact ⟨arr, e, Rs_weak hr⟩
  · exact R_weak h
theorem Rt_weak1 {k : K} : ∀ {xs : List AV} {us : List Value}, Rt k xs us → Rt k (xs.map AV.weak1) us
  | [], us, h => by simpa [Rt] using h
  | y :: ys, us, h => by
    simp only [Rt, List.map_cons] at h ⊢
    obtain ⟨u, r, e, hy, hrr⟩ := h
    exact ⟨u, r, e, R_weak1 hy, Rt_weak1 hrr⟩
theorem R_weaks {k : K} {x : AV} {v : Value} (h : R k x v) : R k x.weaks v := by
  unfold AV.weaks
  split
  · simp only [R] at h ⊢
    obtain ⟨arr, e, hr⟩ := h
    exact ⟨arr, e, Rt_weak1 hr⟩
  · exact R_weak1 h
mutual
/-- Nothing of the call's own: it may be handed to another call. -/
def AV.pureB : AV → Bool
  | .imm _ => true
  | .sl _ .ro _ => true
  | .sl _ .full _ => true
  | .sl _ (.own _ _) _ => false
  | .agg cs => AV.pureBs cs
  | .tup cs => AV.pureBs cs
  | .ptr _ _ _ => false
  | .eptr _ _ => true
  | .obj _ => false
  | .fv _ first caps => AV.pureBs first && AV.pureBs caps
  | .vsl _ _ _ _ _ _ => false
  | .mp _ _ => false
  | .dead => true
def AV.pureBs : List AV → Bool
  | [] => true
  | x :: xs => AV.pureB x && AV.pureBs xs
end
mutual
theorem R_pure {k : K} : ∀ (x : AV) (v : Value), x.pureB = true → R k x v → R k.pure x v
  | .imm _, _, _, h => by simp only [R] at h ⊢; exact h
  | .sl sz .ro rows, _, _, h => by simp only [R, K.pure_pure] at h ⊢; exact h
  | .sl sz .full rows, _, _, h => by simp only [R, K.pure_pure] at h ⊢; exact h
  | .sl sz (.own _ _) rows, _, hp, h => by simp [AV.pureB] at hp
  | .agg cs, v, hp, h => by
    simp only [AV.pureB] at hp
    simp only [R] at h ⊢
    obtain ⟨arr, e, hr⟩ := h
    exact ⟨arr, e, Rs_pure cs _ hp hr⟩
  | .tup cs, v, hp, h => by
    simp only [AV.pureB] at hp
    simp only [R] at h ⊢
    obtain ⟨arr, e, hr⟩ := h
    exact ⟨arr, e, Rt_pure cs _ hp hr⟩
  | .ptr _ _ _, _, hp, h => by simp [AV.pureB] at hp
  | .eptr _ _, _, _, h => by simp only [R, K.pure_pure] at h ⊢; exact h
  | .obj _, _, hp, h => by simp [AV.pureB] at hp
  | .fv f first caps, v, hp, h => by
    simp only [AV.pureB, Bool.and_eq_true] at hp
    simp only [R] at h ⊢
    obtain ⟨us, vs, e, hr, hr'⟩ := h
    exact ⟨us, vs, e, Rt_pure first _ hp.1 hr, Rt_pure caps _ hp.2 hr'⟩
  | .vsl _ _ _ _ _ _, _, hp, h => by simp [AV.pureB] at hp
  | .mp _ _, _, hp, h => by simp [AV.pureB] at hp
  | .dead, _, _, _ => by simp only [R]
theorem Rs_pure {k : K} : ∀ (xs : List AV) (vs : List Value), AV.pureBs xs = true → Rs k xs vs → Rs k.pure xs vs
  | [], _, _, h => by simp only [Rs] at h ⊢; exact h
  | x :: xs, vs, hp, h => by
    simp only [AV.pureBs, Bool.and_eq_true] at hp
    simp only [Rs] at h ⊢
    obtain ⟨v, r, e, hx, h1, hr⟩ := h
    exact ⟨v, r, e, R_pure x v hp.1 hx, h1, Rs_pure xs r hp.2 hr⟩
theorem Rt_pure {k : K} : ∀ (xs : List AV) (vs : List Value), AV.pureBs xs = true → Rt k xs vs → Rt k.pure xs vs
  | [], _, _, h => by simp only [Rt] at h ⊢; exact h
  | x :: xs, vs, hp, h => by
    simp only [AV.pureBs, Bool.and_eq_true] at hp
    simp only [Rt] at h ⊢
    obtain ⟨v, r, e, hx, hr⟩ := h
    exact ⟨v, r, e, R_pure x v hp.1 hx, Rt_pure xs r hp.2 hr⟩
end
end Go.Av

namespace Go.Av
open Go.RowKit (Below)
variable {σ : Type}

/-- What a result becomes in the caller's slot d: its token gets the slot's name. -/
def AV.ret (d g : Nat) : AV → Option AV
  | .sl sz (.own _ _) rows => some (.sl sz (.own d g) rows)
  | r => if r.pureB then some r else none
/-- .. and the caller's state. -/
def St.given (st : St σ) (d : Nat) : AV → St σ
  | .sl _ (.own _ _) rows => st.give d rows.length
  | _ => st

section
variable {c : Cx σ} {st : St σ} {a : Act} {w : World} {o : Nat → Own} {τ : Nat → Nat} {ob : Nat → Value → Prop}

def callOwn (o oc : Nat → Own) (n d : Nat) : Nat → Own := fun b => if b < n then o b else match oc b with | .tok _ => .tok d | .imm => .imm | .free => .free | _ => .junk
theorem callOwn_lt {o oc : Nat → Own} {n d b : Nat} (h : b < n) : callOwn o oc n d b = o b := by simp [callOwn, h]
theorem callOwn_free {o oc : Nat → Own} {n d b : Nat} (hb : n ≤ b) (h : callOwn o oc n d b ≠ .free) : oc b ≠ .free := by
  intro e
  apply h
  simp [callOwn, e, Nat.not_lt.2 hb]
theorem callOwn_var {o oc : Nat → Own} {n d b d' : Nat} (h : callOwn o oc n d b = .var d') : b < n ∧ o b = .var d' := by
  unfold callOwn at h
  split at h
  · exact ⟨‹_›, h⟩
  · cases e : oc b <;> simp [e] at h
theorem callOwn_ext {o oc : Nat → Own} {n d b : Nat} (h : callOwn o oc n d b = .ext) : b < n ∧ o b = .ext := by
  unfold callOwn at h
  split at h
  · exact ⟨‹_›, h⟩
  · cases e : oc b <;> simp [e] at h
def callTau (τ τc : Nat → Nat) (n : Nat) : Nat → Nat := fun b => if b < n then τ b else τc b

/-- Old memory is as it was: the relation holds behind the call. -/
theorem FR.after (h : FR c st a w o τ ob) {w' : World} {oc : Nat → Own} {τc : Nat → Nat} (hw : Below w.heap.size w w') (hlt : ∀ b, w.heap.size ≤ b → oc b ≠ .free → b < w'.heap.size) (d : Nat) {st' : St σ}
    (e1 : st'.env = st.env) (e2 : st'.gen = st.gen) (e3 : st'.var = st.var) (e4 : st'.x = st.x) (h6 : ∀ t, st.tgen t ≤ st'.tgen t) (h7 : ∀ t n, st'.tgen t = st.tgen t → st'.top t = some n → st.top t = some n) :
    FR c st' a w' (callOwn o oc w.heap.size d) (callTau τ τc w.heap.size) ob ∧ KLe (Kof c st w o τ ob) (Kof c st' w' (callOwn o oc w.heap.size d) (callTau τ τc w.heap.size) ob) := by
  have hl : ∀ b, c.base ≤ b → o b ≠ .free → b < w.heap.size := h.lt
  have hcell : ∀ p : Addr, p.block < w.heap.size → w'.cell? p = w.cell? p := fun p hp => World.cell?_of_block (hw.block p.block hp)
  have hk : KLe (Kof c st w o τ ob) (Kof c st' w' (callOwn o oc w.heap.size d) (callTau τ τc w.heap.size) ob) := by
    refine KLe_of ?_ ?_ ?_ ?_ ?_ h6 h7 ?_ (fun _ _ h => h)
    · intro p hp
      have := (c.g0 p hp).1
      have := h.base
      exact hcell p (by omega)
    · intro p hb hi
      have := hl p.block hb (by rw [hi]; simp)
      exact ⟨hcell p this, (callOwn_lt this).trans hi⟩
    · intro p t hb hi hlt'
      have := hl p.block hb (by rw [hi]; simp)
      refine ⟨hcell p this, .inr ⟨t, (callOwn_lt this).trans hi, ?_⟩⟩
      simp [callTau, this, hlt']
    · intro t; rw [e2]; exact Nat.le_refl _
    · intro t b _ hb hv
      have := hl b hb (by rw [hv]; simp)
      exact ⟨(callOwn_lt this).trans hv, fun q hq => by rw [hw.block b this]; exact hq⟩
    · intro t n b cur T _ _ hb ht hc
      have := hl b hb (by rw [ht]; simp)
      exact ⟨(callOwn_lt this).trans ht, by simp [callTau, this], cur, T, (hw.block b this).trans hc, rfl⟩
  refine ⟨h.turn e1 hk (Keeps.of_below h.base hw) ?_ ?_ ?_ ?_, hk⟩
  · intro b hb ho
    rcases Nat.lt_or_ge b w.heap.size with hlt' | hge
    · exact Nat.lt_of_lt_of_le hlt' hw.size
    · exact hlt b hge (callOwn_free hge ho)
  · intro d' b hb hv
    obtain ⟨hlt', hv'⟩ := callOwn_var hv
    obtain ⟨obj', hc, hr⟩ := h.vars d' b hb hv'
    exact ⟨obj', (hw.block b hlt').trans hc, by rw [e3]; exact VR_mono hk hr⟩
  · intro d' b b' hb hb' hv hv'
    exact h.uniq d' b b' hb hb' (callOwn_var hv).2 (callOwn_var hv').2
  · have : (fun b => (b < c.base ∧ c.E0 b) ∨ (c.base ≤ b ∧ callOwn o oc w.heap.size d b = .ext)) = (fun b => (b < c.base ∧ c.E0 b) ∨ (c.base ≤ b ∧ o b = .ext)) := by
      funext b
      apply propext
      refine or_congr Iff.rfl (and_congr_right fun hb => ⟨fun hx => (callOwn_ext hx).2, fun hx => ?_⟩)
      rw [callOwn_lt (hl b hb (by rw [hx]; simp))]; exact hx
    rw [this, e4]
    refine c.stable _ _ _ _ _ h.ext fun b hb => hw.block b ?_
    rcases hb with ⟨hb, _⟩ | ⟨hb, hx⟩
    · have := h.base; omega
    · exact hl b hb (by rw [hx]; simp)

theorem given_env (st : St σ) (d : Nat) (r : AV) : (st.given d r).env = st.env ∧ (st.given d r).gen = st.gen ∧ (st.given d r).var = st.var ∧ (st.given d r).x = st.x := by
  unfold St.given
  split <;> exact ⟨rfl, rfl, rfl, rfl⟩
theorem given_le (st : St σ) (d : Nat) (r : AV) : ∀ t, st.tgen t ≤ (st.given d r).tgen t := by
  unfold St.given
  split
  · exact give_le _ _ _
  · exact fun _ => Nat.le_refl _
theorem given_top (st : St σ) (d : Nat) (r : AV) : ∀ t m, (st.given d r).tgen t = st.tgen t → (st.given d r).top t = some m → st.top t = some m := by
  unfold St.given
  split
  · exact fun t m h1 h2 => (give_top _ _ _ t m h1 h2).2
  · exact fun _ _ _ h => h

theorem FR.call (h : FR c st a w o τ ob) {P : Program} {f : FuncId} {args : List AV} {vs : List Value} {r r' : AV} (hp : AV.pureBs args = true) (hr : Rt (Kof c st w o τ ob) args vs) (hf : PCall P f args r) (hgr : c.ground P) (d : Nat) (he : r.ret d (st.tgen d + 1) = some r') :
    Calls P f vs.toArray w fun e w' => ∃ v o' τ', e = .returned v ∧ FR c (st.given d r) a w' o' τ' ob ∧ R (Kof c (st.given d r) w' o' τ' ob) r' v ∧ KLe (Kof c st w o τ ob) (Kof c (st.given d r) w' o' τ' ob) := by
  let G : Addr → Prop := fun p => c.G0 p ∨ (c.base ≤ p.block ∧ (o p.block = .imm ∨ ∃ t, o p.block = .tok t ∧ p.off < τ p.block))
  have hG : ∀ p, G p → p.block < w.heap.size := by
    rintro p (hg | ⟨hb, hi | ⟨t, ht, _⟩⟩)
    · have := (c.g0 p hg).1
      have := h.base
      omega
    · exact h.lt p.block hb (by rw [hi]; simp)
    · exact h.lt p.block hb (by rw [ht]; simp)
  have hle : KLe (Kof c st w o τ ob).pure (KG G w) :=
    ⟨fun p v hv => ⟨hv.1, hv.2.1, hv.2.2⟩, fun _ _ h => h.elim, fun _ _ h => h.elim, fun _ _ _ _ h => h.elim, fun _ _ h => h.elim, fun _ _ _ h => h.elim, fun _ _ _ _ _ _ h => h.elim, fun _ _ h => h.elim⟩
  refine (hf G w vs hG (h.ground hgr) (Rt_mono hle _ _ (Rt_pure _ _ hp hr))).mono ?_
  rintro e w' ⟨v, oc, τc, rfl, hw, hlt, hv⟩
  obtain ⟨e1, e2, e3, e4⟩ := given_env st d r
  obtain ⟨hF, hk⟩ := h.after (τc := τc) hw hlt d e1 e2 e3 e4 (given_le st d r) (given_top st d r)
  refine ⟨v, _, _, rfl, hF, ?_, hk⟩
  have hpure : KLe (KR w.heap.size G w' oc τc).pure (Kof c (st.given d r) w' (callOwn o oc w.heap.size d) (callTau τ τc w.heap.size) ob) := by
    refine ⟨?_, fun _ _ h => h.elim, fun _ _ h => h.elim, fun _ _ _ _ h => h.elim, fun _ _ h => h.elim, fun _ _ _ h => h.elim, fun _ _ _ _ _ _ h => h.elim, fun _ _ h => h.elim⟩
    rintro p u ⟨hs, hc, hr⟩
    refine ⟨hs, hc, ?_⟩
    rcases hr with hg | ⟨hb, hi⟩
    · have hlt' := hG p hg
      rcases hg with hg | ⟨hb, hi | ⟨t, ht, hlt''⟩⟩
      · exact .inl hg
      · exact .inr ⟨hb, .inl ((callOwn_lt hlt').trans hi)⟩
      · exact .inr ⟨hb, .inr ⟨t, (callOwn_lt hlt').trans ht, by simp [callTau, hlt', hlt'']⟩⟩
    · have hnl : ¬ p.block < w.heap.size := by omega
      refine .inr ⟨Nat.le_trans h.base hb, ?_⟩
      rcases hi with hi | ⟨t, ht, hlt''⟩
      · exact .inl (by simp [callOwn, hnl, hi])
      · exact .inr ⟨d, by simp [callOwn, hnl, ht], by simp [callTau, hnl, hlt'']⟩
  have plain : ∀ {x : AV}, x.pureB = true → R (KR w.heap.size G w' oc τc) x v → R (Kof c (st.given d r) w' (callOwn o oc w.heap.size d) (callTau τ τc w.heap.size) ob) x v :=
    fun hx hv => R_mono hpure _ _ (R_pure _ _ hx hv)
  have he0 := he
  cases r with
  | sl sz tok rows =>
    cases tok with
    | own t g =>
      simp only [AV.ret, Option.some.injEq] at he
      subst he
      simp only [R] at hv ⊢
      obtain ⟨A, z, rfl, hl, hm, hrows, ⟨ht, hg⟩, htok⟩ := hv
      subst ht
      subst hg
      refine ⟨A, z, rfl, hl, hm, fun hne => ?_, ⟨⟨by omega, by simp [St.given, St.give, upd]⟩, fun _ => ?_⟩⟩
      · obtain ⟨b, q, hA, hq⟩ := hrows hne
        exact ⟨b, q, hA, rowsAt_mono (KLe.pure hpure) _ _ _ _ hq⟩
      · rcases htok ⟨rfl, rfl⟩ with hz | ⟨b, hA, hb, hob, hτ, cur, T, hcur, hsz⟩
        · exact .inl hz
        · have hnl : ¬ b < w.heap.size := by omega
          exact .inr ⟨b, hA, Nat.le_trans h.base hb, by simp [callOwn, hnl, hob], by simp [callTau, hnl, hτ], cur, T, hcur, hsz⟩
    | _ => simp only [AV.ret, AV.pureB, if_true, Option.some.injEq] at he; subst he; exact plain rfl hv
  | _ =>
    simp only [AV.ret] at he
    split at he
    · injection he with he; subst he; exact plain ‹_› hv
    · cases he

/-- The end of a function that computes: from the relation to its contract. -/
theorem R_out {c : Cx σ} {st : St σ} {w : World} {r r0 : AV} {v : Value} (hE : True) (hr : R (Kof c st w o τ ob) r v) (h0 : match r with | .sl sz (.own t g) rows => (st.tgen t = g ∧ st.top t = some rows.length ∧ r0 = .sl sz (.own 0 0) rows) ∨ r0 = .sl sz .ro rows | x => x.pureB = true ∧ r0 = x) :
    ∃ o', (∀ b, c.base ≤ b → o' b ≠ .free → o b ≠ .free) ∧ R (KR c.base c.G0 w o' τ) r0 v := by
  refine ⟨fun b => match o b with | .tok _ => .tok 0 | .imm => .imm | .free => .free | _ => .junk, ?_, ?_⟩
  · intro b hb h e
    apply h
    simp [e]
  have hpure : KLe (Kof c st w o τ ob).pure (KR c.base c.G0 w (fun b => match o b with | .tok _ => .tok 0 | .imm => .imm | .free => .free | _ => .junk) τ) := by
    refine ⟨?_, fun _ _ h => h.elim, fun _ _ h => h.elim, fun _ _ _ _ h => h.elim, fun _ _ h => h.elim, fun _ _ _ h => h.elim, fun _ _ _ _ _ _ h => h.elim, fun _ _ h => h.elim⟩
    rintro p u ⟨hs, hc, hr⟩
    refine ⟨hs, hc, ?_⟩
    rcases hr with hg | ⟨hb, hi | ⟨t, ht, hlt⟩⟩
    · exact .inl hg
    · exact .inr ⟨hb, .inl (by simp [hi])⟩
    · exact .inr ⟨hb, .inr ⟨0, by simp [ht], hlt⟩⟩
  have plain : ∀ {x : AV}, x.pureB = true → R (Kof c st w o τ ob) x v → R (KR c.base c.G0 w (fun b => match o b with | .tok _ => .tok 0 | .imm => .imm | .free => .free | _ => .junk) τ) x v :=
    fun hx hv => R_mono hpure _ _ (R_pure _ _ hx hv)
  cases r with
  | sl sz tok rows =>
    cases tok with
    | own t g =>
      rcases h0 with ⟨hg, ht, rfl⟩ | rfl
      · simp only [R] at hr ⊢
        obtain ⟨A, z, rfl, hl, hm, hrows, htg, htok⟩ := hr
        refine ⟨A, z, rfl, hl, hm, fun hne => ?_, ⟨rfl, rfl⟩, fun _ => ?_⟩
        · obtain ⟨b, q, hA, hq⟩ := hrows hne
          exact ⟨b, q, hA, rowsAt_mono hpure.pure _ _ _ _ hq⟩
        · rcases htok ⟨hg.symm, ht⟩ with hz | ⟨b, hA, hb, hob, hτ, cur, T, hcur, hsz⟩
          · exact .inl hz
          · exact .inr ⟨b, hA, hb, by simp [hob], hτ, cur, T, hcur, hsz⟩
      · have hw := R_weak hr
        simp only [AV.weak] at hw
        exact plain rfl hw
    | _ => obtain ⟨hp, rfl⟩ := h0; exact plain hp hr
  | _ => obtain ⟨hp, rfl⟩ := h0; exact plain hp hr

/-! ### calls that are handed variables of the call's own, to read -/
mutual
/-- Nothing but immediate values. -/
def AV.flatB : AV → Bool
  | .imm _ => true
  | .agg cs => AV.flatBs cs
  | .tup cs => AV.flatBs cs
  | _ => false
def AV.flatBs : List AV → Bool
  | [] => true
  | x :: xs => AV.flatB x && AV.flatBs xs
end
mutual
theorem R_flat {k k' : K} : ∀ (x : AV) (v : Value), x.flatB = true → R k x v → R k' x v
  | .imm _, _, _, h => by simp only [R] at h ⊢; exact h
  | .agg cs, v, hp, h => by
    simp only [AV.flatB] at hp
    simp only [R] at h ⊢
    obtain ⟨arr, e, hr⟩ := h
    exact ⟨arr, e, Rs_flat cs _ hp hr⟩
  | .tup cs, v, hp, h => by
    simp only [AV.flatB] at hp
    simp only [R] at h ⊢
    obtain ⟨arr, e, hr⟩ := h
    exact ⟨arr, e, Rt_flat cs _ hp hr⟩
  | .sl _ _ _, _, hp, _ => by simp [AV.flatB] at hp
  | .ptr _ _ _, _, hp, _ => by simp [AV.flatB] at hp
  | .eptr _ _, _, hp, _ => by simp [AV.flatB] at hp
  | .obj _, _, hp, _ => by simp [AV.flatB] at hp
  | .fv _ _ _, _, hp, _ => by simp [AV.flatB] at hp
  | .vsl _ _ _ _ _ _, _, hp, _ => by simp [AV.flatB] at hp
  | .mp _ _, _, hp, _ => by simp [AV.flatB] at hp
  | .dead, _, hp, _ => by simp [AV.flatB] at hp
theorem Rs_flat {k k' : K} : ∀ (xs : List AV) (vs : List Value), AV.flatBs xs = true → Rs k xs vs → Rs k' xs vs
  | [], _, _, h => by simp only [Rs] at h ⊢; exact h
  | x :: xs, vs, hp, h => by
    simp only [AV.flatBs, Bool.and_eq_true] at hp
    simp only [Rs] at h ⊢
    obtain ⟨v, r, e, hx, h1, hr⟩ := h
    exact ⟨v, r, e, R_flat x v hp.1 hx, h1, Rs_flat xs r hp.2 hr⟩
theorem Rt_flat {k k' : K} : ∀ (xs : List AV) (vs : List Value), AV.flatBs xs = true → Rt k xs vs → Rt k' xs vs
  | [], _, _, h => by simp only [Rt] at h ⊢; exact h
  | x :: xs, vs, hp, h => by
    simp only [AV.flatBs, Bool.and_eq_true] at hp
    simp only [Rt] at h ⊢
    obtain ⟨v, r, e, hx, hr⟩ := h
    exact ⟨v, r, e, R_flat x v hp.1 hx, Rt_flat xs r hp.2 hr⟩
end
mutual
/-- What a value is to a call that writes nothing old. -/
inductive View (st : St σ) : AV → AV → Prop where
  | weak {x : AV} : x.weaks.pureB = true → View st x x.weaks
  | dead {x : AV} : View st x .dead
  | ptr {d g off : Nat} {cs : List AV} : g = st.gen d → Views st (st.var d) cs → View st (.ptr d g off) (.eptr cs off)
  | vsl {d g sz off n : Nat} {cp : Option Nat} {rows : List (List AV)} : g = st.gen d → off + n * sz ≤ (st.var d).length → Views st (((st.var d).drop off).take (n * sz)) rows.flatten → (∀ r ∈ rows, r.length = sz) → rows.length = n → View st (.vsl d g sz off n cp) (.sl sz .ro rows)
  | fv {f : Nat} {fs fs' cs cs' : List AV} : Views st fs fs' → Views st cs cs' → View st (.fv f fs cs) (.fv f fs' cs')
  | agg {cs cs' : List AV} : Views st cs cs' → View st (.agg cs) (.agg cs')
inductive Views (st : St σ) : List AV → List AV → Prop where
  | nil : Views st [] []
  | cons {x y : AV} {xs ys : List AV} : View st x y → Views st xs ys → Views st (x :: xs) (y :: ys)
end
/-- The cells that such a call may read. -/
def viewG (c : Cx σ) (o : Nat → Own) (τ : Nat → Nat) : Addr → Prop := fun p => c.G0 p ∨ (c.base ≤ p.block ∧ (o p.block = .imm ∨ (∃ t, o p.block = .tok t ∧ p.off < τ p.block) ∨ ∃ d, o p.block = .var d))
theorem viewG_lt (h : FR c st a w o τ ob) : ∀ p, viewG c o τ p → p.block < w.heap.size := by
  rintro p (hg | ⟨hb, hi | ⟨t, ht, _⟩ | ⟨d, hd⟩⟩)
  · have := (c.g0 p hg).1
    have := h.base
    omega
  · exact h.lt p.block hb (by rw [hi]; simp)
  · exact h.lt p.block hb (by rw [ht]; simp)
  · exact h.lt p.block hb (by rw [hd]; simp)
theorem viewG_le (c : Cx σ) (st : St σ) (w : World) (o : Nat → Own) (τ : Nat → Nat) (ob : Nat → Value → Prop) : KLe (Kof c st w o τ ob).pure (KG (viewG c o τ) w) := by
  refine ⟨?_, fun _ _ h => h.elim, fun _ _ h => h.elim, fun _ _ _ _ h => h.elim, fun _ _ h => h.elim, fun _ _ _ h => h.elim, fun _ _ _ _ _ _ h => h.elim, fun _ _ h => h.elim⟩
  rintro p v ⟨h1, h2, h3⟩
  refine ⟨h1, h2, ?_⟩
  rcases h3 with hg | ⟨hb, hi | ht⟩
  · exact .inl hg
  · exact .inr ⟨hb, .inl hi⟩
  · exact .inr ⟨hb, .inr (.inl ht)⟩
theorem KG_pure (G : Addr → Prop) (w : World) : (KG G w).pure = KG G w := rfl
theorem var_block (h : FR c st a w o τ ob) {d b z : Nat} (hv : (Kof c st w o τ ob).vb d b (some z)) : ∃ cs T, w.heap[b]? = some (.cells cs T (0, 0)) ∧ z ≤ cs.size ∧ (∀ v ∈ cs.toList, v.oneCell' = true) ∧ Rs (Kof c st w o τ ob) (st.var d) (cs.toList.take (st.var d).length) := by
  obtain ⟨hb, ho, hs⟩ := hv
  obtain ⟨obj, hc, hr⟩ := h.vars d b hb ho
  rw [hc] at hs
  cases obj with
  | cells cs T fr =>
    obtain ⟨rfl, hz⟩ := hs
    exact ⟨cs, T, hc, hz, hr.2.1, hr.2.2⟩
  | _ => exact hs.elim
theorem View_sound (h : FR c st a w o τ ob) {x y : AV} (hv : View st x y) : ∀ v, R (Kof c st w o τ ob) x v → R (KG (viewG c o τ) w) y v := by
  refine View.rec (motive_1 := fun x y _ => ∀ v, R (Kof c st w o τ ob) x v → R (KG (viewG c o τ) w) y v)
    (motive_2 := fun xs ys _ => (∀ us, Rs (Kof c st w o τ ob) xs us → Rs (KG (viewG c o τ) w) ys us) ∧ (∀ us, Rt (Kof c st w o τ ob) xs us → Rt (KG (viewG c o τ) w) ys us)) ?_ ?_ ?_ ?_ ?_ ?_ ?_ ?_ hv
  · intro x hp v hx
    exact R_mono (viewG_le c st w o τ ob) _ _ (R_pure _ _ hp (R_weaks hx))
  · intro x v _
    simp only [R]
  · intro d g off cs hg _ ih v hx
    simp only [R] at hx ⊢
    obtain ⟨b, hb, rfl⟩ := hx.2.2 hg
    obtain ⟨cs0, T, hc, _, _, hr⟩ := var_block h hb
    refine ⟨b, 0, by rw [Nat.zero_add], ?_⟩
    rw [KG_pure]
    refine rowAt_of (ih.1 _ hr) fun j v hj => ?_
    rw [Nat.zero_add]
    refine ⟨rfl, ?_, .inr ⟨hb.1, .inr (.inr ⟨d, hb.2.1⟩)⟩⟩
    rw [List.getElem?_take] at hj
    split at hj
    · simp [World.cell?, hc]; simpa using hj
    · cases hj
  · intro d g sz off n cp rows hg hl _ hsz hn ih v hx
    simp only [R] at hx ⊢
    obtain ⟨_, A, z, rfl, h1, h2, _, h3⟩ := hx
    obtain ⟨b, q, hb, rfl, hq⟩ := h3 hg
    obtain ⟨cs0, T, hc, _, _, hr⟩ := var_block h hb
    refine ⟨_, z, by rw [hn], by omega, h2, fun hne => ⟨b, q, rfl, ?_⟩, trivial⟩
    have hpos : 0 < rows.length := List.length_pos_iff.2 hne
    have hqo := hq (by omega)
    subst hqo
    rw [KG_pure]
    refine rowsAt_of (ih.1 _ (Rs_take _ (Rs_drop q hr))) hsz fun j v hj => ?_
    refine ⟨rfl, ?_, .inr ⟨hb.1, .inr (.inr ⟨d, hb.2.1⟩)⟩⟩
    rw [List.getElem?_take] at hj
    split at hj
    · rw [List.getElem?_drop, List.getElem?_take] at hj
      split at hj
      · simp [World.cell?, hc]; simpa using hj
      · cases hj
    · cases hj
  · intro f fs fs' cs cs' _ _ ih1 ih2 v hx
    simp only [R] at hx ⊢
    obtain ⟨us, vs, e, h1, h2⟩ := hx
    exact ⟨us, vs, e, ih1.2 _ h1, ih2.2 _ h2⟩
  · intro cs cs' _ ih v hx
    simp only [R] at hx ⊢
    obtain ⟨arr, e, h1⟩ := hx
    exact ⟨arr, e, ih.1 _ h1⟩
  · exact ⟨fun us h => by simpa [Rs] using h, fun us h => by simpa [Rt] using h⟩
  · intro x y xs ys _ _ ih1 ih2
    refine ⟨fun us h => ?_, fun us h => ?_⟩
    · simp only [Rs] at h ⊢
      obtain ⟨v, r, e, hx, ho, hr⟩ := h
      exact ⟨v, r, e, ih1 _ hx, ho, ih2.1 _ hr⟩
    · simp only [Rt] at h ⊢
      obtain ⟨v, r, e, hx, hr⟩ := h
      exact ⟨v, r, e, ih1 _ hx, ih2.2 _ hr⟩
theorem Views_sound (h : FR c st a w o τ ob) {xs ys : List AV} (hv : Views st xs ys) {us : List Value} (hr : Rt (Kof c st w o τ ob) xs us) : Rt (KG (viewG c o τ) w) ys us := by
  induction xs generalizing ys us with
  | nil => cases hv; simpa [Rt] using hr
  | cons x xs ih =>
    cases hv with
    | cons h1 h2 =>
      simp only [Rt] at hr ⊢
      obtain ⟨v, r, e, hx, hr⟩ := hr
      exact ⟨v, r, e, View_sound h h1 v hx, ih h2 hr⟩
theorem FR.callV (h : FR c st a w o τ ob) {P : Program} {f : FuncId} {args ys : List AV} {vs : List Value} {r : AV} (hp : Views st args ys) (hr : Rt (Kof c st w o τ ob) args vs) (hf : PCall P f ys r) (hgr : c.ground P) (d : Nat) (he : r.flatB = true) :
    Calls P f vs.toArray w fun e w' => ∃ v o' τ', e = .returned v ∧ FR c st a w' o' τ' ob ∧ R (Kof c st w' o' τ' ob) r v ∧ KLe (Kof c st w o τ ob) (Kof c st w' o' τ' ob) := by
  refine (hf (viewG c o τ) w vs (viewG_lt h) (h.ground hgr) (Views_sound h hp hr)).mono ?_
  rintro e w' ⟨v, oc, τc, rfl, hw, hlt, hv⟩
  obtain ⟨hF, hk⟩ := h.after (τc := τc) hw hlt d (st' := st) rfl rfl rfl rfl (fun _ => Nat.le_refl _) (fun _ _ _ h => h)
  exact ⟨v, _, _, rfl, hF, R_flat _ _ he hv, hk⟩
end
end Go.Av

namespace Go.Av
variable {σ : Type}

/-- Operations whose types are laid out as offsets and sizes. -/
inductive AOp where
  | mov (x : Operand)
  | pick (c a b : Operand)
  | box (x : Operand)
  | alloc (z : List Value)
  | build (z : List Value) (parts : List (Nat × Nat × Operand))
  | bsl (sz : Nat) (parts : List Operand)
  | load (agg : Bool) (n : Nat) (p : Operand)
  | store (n : Nat) (p x : Operand)
  | faddr (off : Nat) (p : Operand)
  | iaddr (sz : Nat) (x i : Operand)
  | aaddr (len sz : Nat) (x i : Operand)
  | sidx (x i : Operand)
  | field (agg : Bool) (off n : Nat) (x : Operand)
  | bin (op : BinOp) (x y : Operand)
  | beq (neg : Bool) (x y : Operand)
  | seq (neg : Bool) (ks : List Nat) (x y : Operand)
  | un (op : UnOp) (x : Operand)
  | convi (k : IntKind) (x : Operand)
  | convs (x : Operand)
  | slc (sz : Nat) (x : Operand) (lo hi mx : Option Operand)
  | sslc (x : Operand) (lo hi : Option Operand)
  | ext (i : Nat) (x : Operand)
  | call (f : Nat) (args : List Operand)
  | slen (x : Operand)
  | len (x : Operand)
  | app (sz bytes : Nat) (x y : Operand)
  | nilc (x : Operand)
  | mkf (f : Nat) (first caps : List Operand)
  | callv (x : Operand) (args : List Operand)
  | aidx (agg : Bool) (len sz : Nat) (x i : Operand)
  | mm (mx : Bool) (x y : Operand)
  | peq (neg : Bool) (x : Operand)
  | snil (neg : Bool) (x : Operand)
  | asl (sz len : Nat) (x : Operand)
  | capv (x : Operand)
  | cpy (sz : Nat) (x y : Operand)
  | appz (sz bytes : Nat) (z : List Value) (x n : Operand)
  | mksl (sz bytes : Nat) (z : List Value) (n : Operand)
  | mkmap
  | mget (ag : Bool) (ks : List Nat) (z : Value) (comma : Bool) (m k : Operand)
  | mset (ag : Bool) (ks : List Nat) (m k x : Operand)
  | mlen (m : Operand)
  | hard (o : Op)

structure AOper where
  dst : Option Nat
  op : AOp
  guard : Option (Nat × Bool)

/-! ### abstract values by hand -/
def AV.ofV (v : Value) : AV :=
  match v with
  | .agg cs => if cs.toList.all (·.oneCell') then .agg (cs.toList.map .imm) else .dead
  | .tuple cs => if cs.size = 0 then .tup [] else .dead
  | v => .imm v
def St.ev (st : St σ) : Operand → AV
  | .tmp t => st.env t
  | .const v => .ofV v
  | .global _ => .dead
  | .func f => .fv f [] []
/-- A value's cells. -/
def AV.cells : AV → Option (List AV)
  | .agg cs => some cs
  | .tup _ => none
  | .dead => none
  | x => some [x]
/-- A value of cells. -/
def AV.mk (agg : Bool) (xs : List AV) : Option AV :=
  if agg then some (.agg xs) else match xs with | [x] => some x | _ => none
/-- As a slice; a nil slice may stand as it is. -/
def AV.asSl (sz : Nat) : AV → Option (Tok × List (List AV))
  | .sl s t rows => if s = sz then some (t, rows) else none
  | .imm (.slice none 0 0) => some (.full, [])
  | _ => none
/-- As a slice over a variable. -/
def AV.vslOf : AV → Option (Nat × Nat × Nat × Nat × Nat × Option Nat)
  | .vsl d g sz off n cp => some (d, g, sz, off, n, cp)
  | _ => none
/-- The first elements of a slice: how many, and their cells. -/
def limTo : Option Nat → Nat → Nat
  | none, n => n
  | some m, n => min n m
def St.src (st : St σ) (sz : Nat) (lim : Option Nat) (y : AV) : Option (Nat × List AV) :=
  match y.vslOf, y.asSl sz with
  | some (d, g, sz', off, n, _), _ => if sz' = sz ∧ g = st.gen d ∧ off + limTo lim n * sz ≤ (st.var d).length then some (limTo lim n, ((st.var d).drop off).take (limTo lim n * sz)) else none
  | none, some (_, rows) => some (limTo lim rows.length, (rows.take (limTo lim rows.length)).flatten)
  | none, none => none
/-- Cells that nothing is known of, up to a length. -/
def padTo (l : List AV) (m : Nat) : List AV := l ++ List.replicate (m - l.length) .dead
def AV.asInt : AV → Option Int
  | .imm (.int _ n) => some n
  | _ => none
/-- Operators on whole numbers and strings. -/
def binV (op : BinOp) : Value → Value → Option Value
  | .int k a, .int k' b =>
    if k = k' then
      match op with
      | .add => some (.int k (k.wrap (a + b)))
      | .sub => some (.int k (k.wrap (a - b)))
      | .mul => some (.int k (k.wrap (a * b)))
      | .quo => if b = 0 then none else some (.int k (k.wrap (a.tdiv b)))
      | .rem => if b = 0 then none else some (.int k (a.tmod b))
      | .shr => if b = 1 then some (.int k (a.fdiv 2)) else none
      | .eql => some (.bool (a == b))
      | .neq => some (.bool (a != b))
      | .lss => some (.bool (a < b))
      | .leq => some (.bool (a ≤ b))
      | .gtr => some (.bool (a > b))
      | .geq => some (.bool (a ≥ b))
      | _ => none
    else none
  | .string a, .string b =>
    match op with
    | .add => if a.size + b.size ≤ 9223372036854775807 then some (.string (a ++ b)) else none
    | .eql => some (.bool (a.toList == b.toList))
    | .neq => some (.bool (!(a.toList == b.toList)))
    | _ => none
  | _, _ => none
def unV (op : UnOp) : Value → Option Value
  | .bool b => match op with | .not => some (.bool !b) | _ => none
  | .int k n => match op with | .neg => some (.int k (k.wrap (0 - n))) | _ => none
  | _ => none
/-- Are cells equal: bools (0), whole numbers (1) and strings (2). -/
def eqCell : Nat → AV → AV → Option Bool
  | 0, .imm (.bool a), .imm (.bool b) => some (a == b)
  | 1, .imm (.int k a), .imm (.int k' b) => if k = k' then some (a == b) else none
  | 2, .imm (.string a), .imm (.string b) => some (a.toList == b.toList)
  | _, _, _ => none
def eqCells : List Nat → List AV → List AV → Option Bool
  | [], [], [] => some true
  | k :: ks, x :: xs, y :: ys => match eqCell k x y, eqCells ks xs ys with | some a, some b => some (a && b) | _, _ => none
  | _, _, _ => none
/-- What goes into immutable memory: without tokens, and nothing of the call's own. -/
def pureCells (x : AV) : Option (List AV) :=
  match x.cells with
  | some cs => if AV.pureBs (cs.map AV.weak) then some (cs.map AV.weak) else none
  | none => none
def rowsOf : List AV → Option (List (List AV))
  | [] => some []
  | x :: xs => match pureCells x, rowsOf xs with | some r, some rs => some (r :: rs) | _, _ => none
def fills : List AV → List (Nat × Nat × AV) → Option (List AV)
  | z, [] => some z
  | z, (off, n, x) :: rest =>
    match x.cells with
    | some cs => if cs.length = n ∧ off + n ≤ z.length then fills (splice z off cs) rest else none
    | none => none
/-- Bounds of a slice expression. -/
def boundOf (d : Int) : Option AV → Option Int
  | none => some d
  | some (.imm (.int _ n)) => some n
  | _ => none
/-- xs[l:] of a slice whose capacity is its length is such a slice. -/
def slcTok : Option Operand → Tok → Tok
  | none, .full => .full
  | _, _ => .ro
def undefA : AV := .tup []
/-- A key's cells. -/
def AV.keyc : Bool → AV → Option (List AV)
  | true, .agg cs => some cs
  | false, .imm v => some [.imm v]
  | _, _ => none
/-- A map's value at a key: the first entry with it; none where a comparison is not decided. -/
def findM (ag : Bool) (ks : List Nat) (kc : List AV) : List AV → Option (Option AV)
  | [] => some none
  | .tup [kx, vx] :: r =>
    match kx.keyc ag with
    | some c => match eqCells ks kc c with | some b => if b then some (some vx) else findM ag ks kc r | none => none
    | none => none
  | _ => none
def setM (ag : Bool) (ks : List Nat) (kc : List AV) (e : AV) : List AV → Option (List AV)
  | [] => some [e]
  | .tup [kx, vx] :: r =>
    match kx.keyc ag with
    | some c => match eqCells ks kc c with | some b => if b then some (e :: r) else (setM ag ks kc e r).map (.tup [kx, vx] :: ·) | none => none
    | none => none
  | _ => none
/-- What is known of the functions that are called: what they give for pure arguments, and for arguments that read variables. -/
structure Orc where
  f : Bool → Nat → List AV → Option AV
  v : Bool → Nat → List AV → (Nat → Nat) → (Nat → List AV) → Option AV
/-- Where an append leads. -/
def appTok (st : St σ) (d n n' : Nat) : Tok → Option (St σ)
  | .ro => none
  | .full => some (st.give d n')
  | .own t g => if st.tgen t = g ∧ st.top t = some n then some ((st.spend t).give d n') else none

/-- The capacity of what was appended to, where it is known and there was room. -/
def keepCap (cp : Option Nat) (k : Nat) : Option Nat := match cp with | some c => if k ≤ c then some c else none | none => none
/-- An append to a variable's slice: it becomes another variable. -/
def St.kill (st : St σ) (d : Nat) : St σ := { st with gen := upd st.gen d (st.gen d + 1), var := upd st.var d [] }

/-- What an operation does: its value, and the state behind it. -/
def act (Φ : Orc) (d : Nat) (st : St σ) : AOp → Option (AV × St σ)
  | .mov x => some (st.ev x, st)
  | .pick c a b => match st.ev c with | .imm (.bool t) => some (if t then st.ev a else st.ev b, st) | _ => none
  | .box x => match (st.ev x).cells with | some cs => some (.ptr d (st.gen d + 1) 0, st.newVar d cs) | none => none
  | .alloc z => some (.ptr d (st.gen d + 1) 0, st.newVar d (z.map .imm))
  | .build z parts => match fills (z.map .imm) (parts.map fun p => (p.1, p.2.1, st.ev p.2.2)) with | some cs => some (.agg cs, st) | none => none
  | .bsl sz parts => match rowsOf (parts.map st.ev) with | some rows => if rows.all (fun r => r.length == sz) then some (.sl sz .full rows, st) else none | none => none
  | .load agg n p =>
    match st.ev p with
    | .ptr d' g off => if g = st.gen d' ∧ 1 ≤ g ∧ off + n ≤ (st.var d').length then (AV.mk agg (((st.var d').drop off).take n)).map (·, st) else none
    | .eptr cs off => if off + n ≤ cs.length then (AV.mk agg ((cs.drop off).take n)).map (·, st) else none
    | _ => none
  | .store n p x =>
    match st.ev p, (st.ev x).cells with
    | .ptr d' g off, some xs => if g = st.gen d' ∧ 1 ≤ g ∧ xs.length = n ∧ off + n ≤ (st.var d').length then some (undefA, { st with var := upd st.var d' (splice (st.var d') off xs) }) else none
    | _, _ => none
  | .faddr off p => match st.ev p with | .ptr d' g q => if g = st.gen d' then some (.ptr d' g (q + off), st) else none | .eptr cs q => some (.eptr cs (q + off), st) | _ => none
  | .iaddr sz x i =>
    match (st.ev x).vslOf, (st.ev x).asSl sz, (st.ev i).asInt with
    | some (d', g, sz', off, m, _), _, some n => if sz' = sz ∧ g = st.gen d' ∧ 0 ≤ n ∧ n < m then some (.ptr d' g (off + n.toNat * sz), st) else none
    | none, some (_, rows), some n => if 0 ≤ n ∧ n < rows.length then some (.eptr (rows.getD n.toNat []) 0, st) else none
    | _, _, _ => none
  | .aaddr len sz x i =>
    match st.ev x, (st.ev i).asInt with
    | .ptr d' g q, some n => if g = st.gen d' ∧ 0 ≤ n ∧ n < len then some (.ptr d' g (q + n.toNat * sz), st) else none
    | _, _ => none
  | .sidx x i =>
    match st.ev x, (st.ev i).asInt with
    | .imm (.string s), some n => if 0 ≤ n ∧ n.toNat < s.size then some (.imm (.int .u8 (s.data.toList.getD n.toNat 0).toNat), st) else none
    | _, _ => none
  | .field agg off n x => match st.ev x with | .agg cs => if off + n ≤ cs.length then (AV.mk agg ((cs.drop off).take n)).map (·, st) else none | _ => none
  | .bin op x y => match st.ev x, st.ev y with | .imm a, .imm b => (binV op a b).map (.imm ·, st) | _, _ => none
  | .beq neg x y => match st.ev x, st.ev y with | .imm (.bool a), .imm (.bool b) => some (.imm (.bool (if neg then !(a == b) else a == b)), st) | _, _ => none
  | .seq neg ks x y => match st.ev x, st.ev y with | .agg a, .agg b => (eqCells ks a b).map fun r => (.imm (.bool (if neg then !r else r)), st) | _, _ => none
  | .un op x => match st.ev x with | .imm a => (unV op a).map (.imm ·, st) | _ => none
  | .convi k x => match (st.ev x).asInt with | some n => some (.imm (.int k (k.wrap n)), st) | none => none
  | .convs x => match st.ev x with | .imm (.string s) => some (.imm (.string s), st) | _ => none
  | .slc sz x lo hi mx =>
    match (st.ev x).vslOf, (st.ev x).asSl sz with
    | some (d', g, sz', off, n, cp), _ =>
      match boundOf 0 (lo.map st.ev), boundOf n (hi.map st.ev), mx.map st.ev with
      | some l, some h, none => if sz' = sz ∧ 0 ≤ l ∧ l ≤ h ∧ h ≤ (cp.getD n : Nat) then some (.vsl d' g sz (off + l.toNat * sz) (h - l).toNat (cp.map (· - l.toNat)), st) else none
      | some l, some h, some (.imm (.int _ m)) => if sz' = sz ∧ 0 ≤ l ∧ l ≤ h ∧ h ≤ m ∧ m ≤ (cp.getD n : Nat) ∧ hi.isSome = true then some (.vsl d' g sz (off + l.toNat * sz) (h - l).toNat (some (m - l).toNat), st) else none
      | _, _, _ => none
    | none, some (tok, rows) =>
      match boundOf 0 (lo.map st.ev), boundOf rows.length (hi.map st.ev), mx.map st.ev with
      | some l, some h, none =>
        if 0 ≤ l ∧ l ≤ h ∧ h ≤ rows.length then some (.sl sz (slcTok hi tok) ((rows.take h.toNat).drop l.toNat), st) else none
      | some l, some h, some (.imm (.int _ m)) =>
        if 0 ≤ l ∧ l ≤ h ∧ h ≤ rows.length ∧ m = h ∧ hi.isSome = true then some (.sl sz .full ((rows.take h.toNat).drop l.toNat), st) else none
      | _, _, _ => none
    | none, none => none
  | .sslc x lo hi =>
    match st.ev x with
    | .imm (.string s) =>
      match boundOf 0 (lo.map st.ev), boundOf s.size (hi.map st.ev) with
      | some l, some h => if 0 ≤ l ∧ l ≤ h ∧ h ≤ s.size then some (.imm (.string (s.extract l.toNat h.toNat)), st) else none
      | _, _ => none
    | _ => none
  | .ext i x => match st.ev x with | .tup vs => (vs[i]?).map (·, st) | _ => none
  | .call f args =>
    if AV.pureBs (args.map fun x => (st.ev x).weaks) then
      match Φ.f true f (args.map fun x => (st.ev x).weaks) with
      | some r => (r.ret d (st.tgen d + 1)).map (·, st.given d r)
      | none => none
    else (Φ.v true f (args.map st.ev) st.gen st.var).map (·, st)
  | .slen x => match st.ev x with | .imm (.string s) => some (.imm (.int .i64 s.size), st) | _ => none
  | .len x =>
    match st.ev x with
    | .imm (.slice none 0 0) => some (.imm (.int .i64 0), st)
    | .sl _ _ rows => some (.imm (.int .i64 rows.length), st)
    | .vsl _ _ _ _ n _ => some (.imm (.int .i64 n), st)
    | _ => none
  | .app sz bytes x y =>
    match (st.ev x).vslOf, (st.ev x).asSl sz, (st.ev y).asSl sz with
    | some (d', g, sz', off, n, cp), _, _ =>
      match st.src sz none (st.ev y) with
      | some (m, news) =>
        if sz' = sz ∧ off = 0 ∧ g = st.gen d' ∧ n * sz ≤ (st.var d').length ∧ (n + m) * bytes ≤ 140737488355328 then some (.vsl d ((st.kill d').gen d + 1) sz 0 (n + m) (keepCap cp (n + m)), (st.kill d').newVar d ((st.var d').take (n * sz) ++ news)) else none
      | none => none
    | none, some (tok, rows), some (_, news) =>
      if (rows.length + news.length) * bytes ≤ 140737488355328 then
        (appTok st d rows.length (rows.length + news.length) tok).map fun st' => (.sl sz (.own d (st.tgen d + 1)) (rows ++ news), st')
      else none
    | _, _, _ => none
  | .nilc x => match st.ev x with | .ptr d' g q => if g = st.gen d' then some (.ptr d' g q, st) else none | .eptr cs q => some (.eptr cs q, st) | _ => none
  | .mkf f first caps => some (.fv f (first.map st.ev) (caps.map st.ev), st)
  | .callv x args =>
    match st.ev x with
    | .fv g first caps =>
      if AV.pureBs (first ++ (args.map fun x => (st.ev x).weaks) ++ caps) then
        match Φ.f false g (first ++ (args.map fun x => (st.ev x).weaks) ++ caps) with
        | some r => (r.ret d (st.tgen d + 1)).map (·, st.given d r)
        | none => none
      else (Φ.v false g (first ++ args.map st.ev ++ caps) st.gen st.var).map (·, st)
    | _ => none
  | .aidx agg len sz x i =>
    match st.ev x, (st.ev i).asInt with
    | .agg cs, some n => if 0 ≤ n ∧ n < len ∧ n.toNat * sz + sz ≤ cs.length then (AV.mk agg ((cs.drop (n.toNat * sz)).take sz)).map (·, st) else none
    | _, _ => none
  | .mm mx x y =>
    match st.ev x, st.ev y with
    | .imm (.int k a), .imm (.int k' b) => if k = k' then some (.imm (.int k (if mx then (if b > a then b else a) else (if b < a then b else a))), st) else none
    | _, _ => none
  | .peq neg x =>
    match st.ev x with
    | .imm (.pointer none) => some (.imm (.bool (!neg)), st)
    | .ptr d' g _ => if g = st.gen d' then some (.imm (.bool neg), st) else none
    | .eptr _ _ => some (.imm (.bool neg), st)
    | _ => none
  | .snil neg x =>
    match st.ev x with
    | .imm (.slice none 0 0) => some (.imm (.bool (!neg)), st)
    | .sl _ _ rows => if rows ≠ [] then some (.imm (.bool neg), st) else none
    | .vsl d' g _ _ n _ => if g = st.gen d' then some (.imm (.bool neg), st) else none
    | _ => none
  | .asl sz len x => match st.ev x with | .ptr d' g q => if g = st.gen d' ∧ q + len * sz ≤ (st.var d').length ∧ len ≤ 1048576 then some (.vsl d' g sz q len (some len), st) else none | _ => none
  | .capv x =>
    match st.ev x with
    | .imm (.slice none 0 0) => some (.imm (.int .i64 0), st)
    | .sl _ .full rows => some (.imm (.int .i64 rows.length), st)
    | .vsl _ _ _ _ _ (some c) => some (.imm (.int .i64 c), st)
    | _ => none
  | .cpy sz x y =>
    match (st.ev x).vslOf with
    | some (d', g, sz', off, n, _) =>
      match st.src sz (some n) (st.ev y) with
      | some (m, news) => if sz' = sz ∧ g = st.gen d' ∧ 0 < n then some (.imm (.int .i64 m), { st with var := upd st.var d' (splice (padTo (st.var d') (off + news.length)) off news) }) else none
      | none => none
    | none => none
  | .appz sz bytes z x n =>
    match (st.ev x).vslOf, (st.ev n).asInt with
    | some (d', g, sz', off, k, some c), some m =>
      if sz' = sz ∧ g = st.gen d' ∧ off + k * sz ≤ (st.var d').length ∧ 0 ≤ m ∧ c < k + m.toNat ∧ (k + m.toNat) * bytes ≤ 140737488355328 then
        some (.vsl d (st.gen d + 1) sz 0 (k + m.toNat) none, st.newVar d (((st.var d').drop off).take (k * sz) ++ (List.replicate m.toNat (z.map AV.imm)).flatten)) else none
    | _, _ => none
  | .mksl sz bytes z n =>
    match (st.ev n).asInt with
    | some m => if 0 ≤ m ∧ m.toNat * bytes ≤ 140737488355328 then some (.vsl d (st.gen d + 1) sz 0 m.toNat (some m.toNat), st.newVar d (List.replicate m.toNat (z.map AV.imm)).flatten) else none
    | none => none
  | .mkmap => some (.mp d (st.gen d + 1), st.newVar d [])
  | .mget ag ks z comma m k =>
    match st.ev m, (st.ev k).keyc ag with
    | .mp d' g, some kc =>
      if g = st.gen d' ∧ kc.length = ks.length then (findM ag ks kc (st.var d')).map fun r => (if comma then .tup [r.getD (.ofV z), .imm (.bool r.isSome)] else r.getD (.ofV z), st) else none
    | .imm (.map none), some kc => if kc.length = ks.length then some (if comma then .tup [.ofV z, .imm (.bool false)] else .ofV z, st) else none
    | _, _ => none
  | .mset ag ks m k x =>
    match st.ev m, (st.ev k).keyc ag with
    | .mp d' g, some kc => if g = st.gen d' ∧ kc.length = ks.length then (setM ag ks kc (.tup [st.ev k, st.ev x]) (st.var d')).map fun l => (undefA, { st with var := upd st.var d' l }) else none
    | _, _ => none
  | .mlen m => match st.ev m with | .mp d' g => if g = st.gen d' then some (.imm (.int .i64 (st.var d').length), st) else none | .imm (.map none) => some (.imm (.int .i64 0), st) | _ => none
  | .hard _ => none

/-- A call of it enters its code. -/
def Enters (P : Program) (n : Nat) : Prop := ∃ fn, P.funcs[n]? = some fn ∧ fn.body.isSome = true ∧ (fn.name == "runtime.NumGoroutine") = false
/-- The contract of a call that reads variables of the caller's. -/
def VCall (σ : Type) (P : Program) (n : Nat) (xs : List AV) (g : Nat → Nat) (v : Nat → List AV) (r : AV) : Prop :=
  r.flatB = true ∧ ∃ ys, (∀ st : St σ, st.gen = g → st.var = v → Views st xs ys) ∧ PCall P n ys r
/-- The specifications hold of the program: of its functions by their own numbers here (true), by the program's numbers (false). -/
structure Specs (σ : Type) (P : Program) (T : List Nat) (Φ : Orc) : Prop where
  f1 : ∀ f xs r n, Φ.f true f xs = some r → T[f]? = some n → PCall P n xs r
  f2 : ∀ n xs r, Φ.f false n xs = some r → PCall P n xs r ∧ Enters P n
  v1 : ∀ f xs g v r n, Φ.v true f xs g v = some r → T[f]? = some n → VCall σ P n xs g v r
  v2 : ∀ n xs g v r, Φ.v false n xs g v = some r → VCall σ P n xs g v r ∧ Enters P n
/-- Is the operation to be carried out. -/
def wantedA (st : St σ) : Option (Nat × Bool) → Option Bool
  | none => some true
  | some (g, b) => match st.env g with | .imm (.bool x) => some (x == b) | .tup [] => some false | _ => none
def St.put (st : St σ) : Option Nat → AV → St σ
  | some d, x => { st with env := upd st.env d x }
  | none, _ => st
/-- One step; k: what is added to slots for the names of variables and tokens. -/
def stepA (Φ : Orc) (k : Nat) (st : St σ) (o : AOper) : Option (St σ) :=
  match wantedA st o.guard with
  | some true => (act Φ (k + o.dst.getD 0) st o.op).map fun r => r.2.put o.dst r.1
  | some false => some (st.put o.dst undefA)
  | none => none
end Go.Av

namespace Go.Av
variable {σ : Type}

def isAggB (P : Program) (t : TypeId) : Bool :=
  match P.underlying t with
  | some (.struct _) | some (.array _ _) => true
  | _ => false
mutual
/-- The kinds of a type's cells, where '==' at it is an equality of all cells (by fuel). -/
def eqKinds (P : Program) : Nat → TypeId → Option (List Nat)
  | 0, _ => none
  | n + 1, t =>
    match P.underlying t with
    | some .bool => some [0]
    | some (.int _) => some [1]
    | some .string => some [2]
    | some (.struct fs) => if P.stoodInHeld t then none else eqKindsF P n fs.toList 0
    | _ => none
def eqKindsF (P : Program) : Nat → List Field → Nat → Option (List Nat)
  | _, [], _ => some []
  | 0, _ :: _, _ => none
  | n + 1, f :: fs, off =>
    match eqKinds P n f.type, P.info? f.type with
    | some ks, some i =>
      if f.name ≠ "_" ∧ f.offset = off ∧ ks.length = i.size ∧ (isAggB P f.type = true ∨ i.size = 1) then (eqKindsF P n fs (off + i.size)).map (ks ++ ·) else none
    | _, _ => none
end
def partsOf (P : Program) (fs : Array Field) : List (Nat × Operand) → Option (List (Nat × Nat × Operand))
  | [] => some []
  | (i, x) :: rest =>
    match fs[i]? with
    | some f => match P.info? f.type, partsOf P fs rest with | some t, some r => some ((f.offset, t.size, x) :: r) | _, _ => none
    | none => none

/-- A map's key type: its cells' kinds. -/
def keyKinds (P : Program) (t : TypeId) : Option (List Nat) :=
  match P.underlying t with
  | some .string => some [2]
  | some (.int _) => some [1]
  | some (.array n e) =>
    match P.underlying e, P.info? e with
    | some (.int _), some i => if i.size = 1 then some (List.replicate n 1) else none
    | _, _ => none
  | some (.struct fs) => if fs.toList.all (fun f => match P.underlying f.type with | some (.int _) => true | _ => false) = true then (match eqKinds P 40 t, P.info? t with | some ks, some i => if ks.length = i.size then some ks else none | _, _ => none) else none
  | _ => none
def isNilP : Operand → Bool
  | .const (.pointer none) => true
  | _ => false
def isNilS : Operand → Bool
  | .const (.slice none 0 0) => true
  | _ => false
def isNeq : BinOp → Option Bool
  | .eql => some false
  | .neq => some true
  | _ => none
/-- T: the functions' numbers in this program, in the order of their own numbers here. -/
def comp (P : Program) (T : List Nat) : Op → Option AOp
  | .move x => some (.mov x)
  | .assign x => some (.mov x)
  | .pick c a b => some (.pick c a b)
  | .box _ x => some (.box x)
  | .alloc t =>
    match P.info? t with
    | some i => match i.zero with | some z => if z.cells.toList.all (·.oneCell') then some (.alloc z.cells.toList) else none | none => none
    | none => none
  | .build t parts =>
    match P.info? t, P.underlying t with
    | some i, some (.struct fs) =>
      match i.zero with
      | some z => if z.cells.toList.all (·.oneCell') ∧ fs.toList.all (fun f => (P.info? f.type).isSome) then (partsOf P fs parts.toList).map (.build z.cells.toList) else none
      | none => none
    | some i, some (.array _ e) =>
      match i.zero, P.info? e with
      | some z, some ie => if z.cells.toList.all (·.oneCell') then some (.build z.cells.toList (parts.toList.map fun p => (p.1 * ie.size, ie.size, p.2))) else none
      | _, _ => none
    | _, _ => none
  | .buildSlice t len parts =>
    match P.underlying t with
    | some (.slice e) =>
      match P.info? e with
      | some i => if len * i.size ≤ 2 ^ 24 ∧ parts.toList.map (·.1) = List.range len ∧ 0 < i.size ∧ (i.zero.map (·.cells.size)) = some i.size then some (.bsl i.size (parts.toList.map (·.2))) else none
      | none => none
    | _ => none
  | .load t p =>
    match P.info? t, P.underlying t with
    | some i, some _ => if isAggB P t || i.size == 1 then some (.load (isAggB P t) i.size p) else none
    | _, _ => none
  | .store t p x => match P.info? t with | some i => some (.store i.size p x) | none => none
  | .fieldAddr s x f =>
    match P.underlying s with
    | some (.struct fs) =>
      match fs[f]? with
      | some fd => match P.info? fd.type with | some i => if i.size = 0 then none else some (.faddr fd.offset x) | none => none
      | none => none
    | _ => none
  | .indexAddr t x i =>
    match P.underlying t with
    | some (.slice e) => match P.info? e with | some ie => some (.iaddr ie.size x i) | none => none
    | some (.array len e) => match P.info? e with | some ie => some (.aaddr len ie.size x i) | none => none
    | _ => none
  | .index t x i =>
    match P.underlying t with
    | some .string => some (.sidx x i)
    | some (.array len e) => match P.info? e, P.underlying e with | some ie, some _ => if isAggB P e || ie.size == 1 then some (.aidx (isAggB P e) len ie.size x i) else none | _, _ => none
    | _ => none
  | .makeFunc fn first caps => match fn with | .func f => some (.mkf f first.toList caps.toList) | _ => none
  | .makeMap _ r => match r with | none => some .mkmap | some _ => none
  | .makeSlice t l c =>
    match l, c, P.underlying t with
    | .tmp a, .tmp b, some (.slice e) =>
      match P.info? e with
      | some i => match i.zero with | some z => if a = b ∧ z.cells.size = i.size ∧ 0 < i.size ∧ 0 < i.bytes ∧ z.cells.toList.all (·.oneCell') = true then some (.mksl i.size i.bytes z.cells.toList (.tmp a)) else none | none => none
      | none => none
    | _, _, _ => none
  | .lookup t m k comma =>
    match P.underlying t with
    | some (.map kt et) =>
      match keyKinds P kt, P.info? et with
      | some ks, some i => match i.zero with | some z => some (.mget (isAggB P kt) ks z comma m k) | none => none
      | _, _ => none
    | _ => none
  | .mapUpdate t m k x =>
    match P.underlying t with
    | some (.map kt _) => match keyKinds P kt with | some ks => some (.mset (isAggB P kt) ks m k x) | none => none
    | _ => none
  | .insert t m k x =>
    match P.underlying t with
    | some (.map kt _) => match keyKinds P kt with | some ks => some (.mset (isAggB P kt) ks m k x) | none => none
    | _ => none
  | .field t x f =>
    match P.underlying t with
    | some (.struct fs) =>
      match fs[f]? with
      | some fd => match P.info? fd.type, P.underlying fd.type with | some i, some _ => if isAggB P fd.type || i.size == 1 then some (.field (isAggB P fd.type) fd.offset i.size x) else none | _, _ => none
      | none => none
    | _ => none
  | .binOp op t x y _ =>
    match P.underlying t with
    | some (.int _) => some (.bin op x y)
    | some .string => some (.bin op x y)
    | some .bool => match op with | .eql => some (.beq false x y) | .neq => some (.beq true x y) | _ => none
    | some (.struct _) =>
      match eqKinds P 40 t, P.info? t with
      | some ks, some i => if P.eqGuardType P.depth t = false ∧ ks.length = i.size then (match op with | .eql => some (.seq false ks x y) | .neq => some (.seq true ks x y) | _ => none) else none
      | _, _ => none
    | some (.pointer _) =>
      match isNeq op with
      | some ng => if isNilP y = true then some (.peq ng x) else if isNilP x = true then some (.peq ng y) else none
      | none => none
    | some (.slice _) =>
      match isNeq op with
      | some ng => if isNilS y = true then some (.snil ng x) else none
      | none => none
    | _ => none
  | .unOp op _ x => some (.un op x)
  | .convert s t x =>
    match P.underlying s, P.underlying t with
    | some (.int _), some (.int k) => some (.convi k x)
    | some .string, some .string => some (.convs x)
    | _, _ => none
  | .slice t x lo hi mx =>
    match P.underlying t with
    | some (.slice e) => match P.info? e with | some ie => some (.slc ie.size x lo hi mx) | none => none
    | some .string => match mx with | none => some (.sslc x lo hi) | some _ => none
    | some (.array n e) => match lo, hi, mx, P.info? e with | none, none, none, some ie => some (.asl ie.size n x) | _, _, _, _ => none
    | _ => none
  | .extract x i => some (.ext i x)
  | .nilCheck x => some (.nilc x)
  | .call c =>
    match c.callee with
    | .value (.func f) =>
      match P.funcs[f]? with
      | some fn => if fn.body.isSome ∧ (fn.name == "runtime.NumGoroutine") = false ∧ T[T.idxOf f]? = some f then some (.call (T.idxOf f) c.args.toList) else none
      | none => none
    | .value (.tmp t) => some (.callv (.tmp t) c.args.toList)
    | .builtin .len =>
      match c.args.toList, c.argTypes.toList with
      | [x], [t] => match P.underlying t with | some .string => some (.slen x) | some (.slice _) => some (.len x) | some (.map _ _) => some (.mlen x) | _ => none
      | _, _ => none
    | .builtin .cap =>
      match c.args.toList, c.argTypes.toList with
      | [x], [t] => match P.underlying t with | some (.slice _) => some (.capv x) | _ => none
      | _, _ => none
    | .builtin .max => match c.args.toList with | [x, y] => some (.mm true x y) | _ => none
    | .builtin .min => match c.args.toList with | [x, y] => some (.mm false x y) | _ => none
    | .builtin .copy =>
      match c.args.toList, c.argTypes.toList with
      | [x, y], [t, u] =>
        match P.underlying t, P.underlying u with
        | some (.slice e), some (.slice _) => match P.info? e with | some i => some (.cpy i.size x y) | none => none
        | _, _ => none
      | _, _ => none
    | .builtin .append =>
      match c.args.toList, c.argTypes.toList with
      | [x, y], [t, u] =>
        match P.underlying t, P.underlying u with
        | some (.slice e), some (.slice _) =>
          match P.info? e with
          | some i => if 0 < i.size ∧ 0 < i.bytes ∧ t = u ∧ (i.zero.map fun z => (z.cells.size, z.cells.toList.all (·.oneCell'))) = some (i.size, true) then some (.app i.size i.bytes x y) else none
          | none => none
        | some (.slice e), some (.int _) =>
          match P.info? e with
          | some i => match i.zero with | some z => if 0 < i.size ∧ 0 < i.bytes ∧ z.cells.size = i.size ∧ z.cells.toList.all (·.oneCell') = true then some (.appz i.size i.bytes z.cells.toList x y) else none | none => none
          | none => none
        | _, _ => none
      | _, _ => none
    | _ => none
  | _ => none

def compGuard (ops : Array Oper) : Option (Nat × Bool) → Option (Option (Nat × Bool))
  | none => some none
  | some (j, b) => match (ops[j]?).bind (·.dst) with | some d => some (some (d, b)) | none => none
def dstOk (nt : Nat) : Option Nat → Bool
  | some d => decide (d < nt)
  | none => true
def compO (P : Program) (T : List Nat) (nt : Nat) (ops : Array Oper) (o : Oper) : Option AOper :=
  match comp P T o.op, compGuard ops o.guard with
  | some a, some g => if dstOk nt o.dst = true then some ⟨o.dst, a, g⟩ else none
  | _, _ => none
def compL (P : Program) (T : List Nat) (nt : Nat) (ops : Array Oper) : List Oper → Option (List AOper)
  | [] => some []
  | o :: rest => match compO P T nt ops o, compL P T nt ops rest with | some a, some r => some (a :: r) | _, _ => none

/-- Code without types. -/
inductive ACode where
  | skip
  | region (ops : List AOper)
  | draw (ops : List AOper) (before : List (List Nat))
  | seq (a b : ACode)
  | cond (c : Operand) (thn els : ACode)
  | block (id : Nat) (body : ACode)
  | loop (body : ACode)
  | exit (id : Nat)
  | ret
end Go.Av

namespace Go.Av
variable {σ : Type}

theorem Rs_imm {k : K} : ∀ {vs : List Value}, (∀ v ∈ vs, v.oneCell' = true) → Rs k (vs.map .imm) vs
  | [], _ => by simp [Rs]
  | v :: vs, h => by
    simp only [List.map_cons, Rs]
    exact ⟨v, vs, rfl, (by unfold R; exact ⟨rfl, h v (by simp)⟩), h v (by simp), Rs_imm fun u hu => h u (by simp [hu])⟩
theorem R_ofV (k : K) (v : Value) : R k (AV.ofV v) v := by
  unfold AV.ofV
  split
  · split
    · rename_i cs h
      simp only [R]
      exact ⟨cs, rfl, Rs_imm (List.all_eq_true.1 h)⟩
    · simp only [R]
  · split
    · rename_i cs h
      simp only [R]
      refine ⟨cs, rfl, ?_⟩
      simp only [Rt]
      have : cs = #[] := by simpa using h
      simp [this]
    · simp only [R]
  · unfold R
    refine ⟨rfl, ?_⟩
    cases v <;> simp_all [Value.oneCell']
theorem R_ev {c : Cx σ} {st : St σ} {a : Act} {w : World} {o : Nat → Own} {τ : Nat → Nat} {ob : Nat → Value → Prop} (h : FR c st a w o τ ob) (x : Operand) : R (Kof c st w o τ ob) (st.ev x) (a.eval x) := by
  cases x with
  | tmp t => exact h.tmps t
  | const v => exact R_ofV _ v
  | global g => simp only [St.ev, R]
  | func f => simp only [St.ev, R]; exact ⟨#[], #[], rfl, by simp [Rt], by simp [Rt]⟩
theorem cells_one {v : Value} (h : v.oneCell' = true) : v.cells = #[v] := by cases v <;> simp_all [Value.oneCell', Value.cells]
theorem R_cells {k : K} {x : AV} {v : Value} {xs : List AV} (h : R k x v) (hx : x.cells = some xs) : Rs k xs v.cells.toList := by
  have one : v.oneCell' = true → x.cells = some [x] → Rs k xs v.cells.toList := by
    intro h1 he
    rw [he] at hx
    injection hx with hx
    subst hx
    rw [cells_one h1]
    simp only [Rs]
    exact ⟨v, [], rfl, h, h1, rfl⟩
  cases x with
  | imm u => simp only [R] at h; exact one (h.1 ▸ h.2) rfl
  | agg cs =>
    simp only [AV.cells, Option.some.injEq] at hx
    subst hx
    simp only [R] at h
    obtain ⟨arr, rfl, hr⟩ := h
    exact hr
  | tup cs => simp [AV.cells] at hx
  | ptr d g off => simp only [R] at h; exact one h.2.1 rfl
  | eptr cs off => simp only [R] at h; obtain ⟨b, o, rfl, _⟩ := h; exact one rfl rfl
  | sl sz tok rows => have h' := h; simp only [R] at h'; obtain ⟨A, c, rfl, _⟩ := h'; exact one rfl rfl
  | obj i => simp only [R] at h; exact one h.2 rfl
  | fv f first caps => have h' := h; simp only [R] at h'; obtain ⟨us, vs, rfl, _⟩ := h'; exact one rfl rfl
  | vsl d g sz off n cp => have h' := h; simp only [R] at h'; obtain ⟨_, A, c, rfl, _⟩ := h'; exact one rfl rfl
  | mp d g => simp only [R] at h; exact one h.2.1 rfl
  | dead => simp [AV.cells] at hx
/-- The value of some cells. -/
def ofCells (agg : Bool) (vs : List Value) : Value := if agg then .agg vs.toArray else vs.getD 0 undef
theorem R_mk {k : K} {agg : Bool} {xs : List AV} {x : AV} {vs : List Value} (hx : AV.mk agg xs = some x) (h : Rs k xs vs) : R k x (ofCells agg vs) := by
  unfold AV.mk at hx
  unfold ofCells
  cases agg with
  | true =>
    simp only [if_true, Option.some.injEq] at hx ⊢
    subst hx
    simp only [R]
    exact ⟨_, rfl, by simpa using h⟩
  | false =>
    simp only [Bool.false_eq_true, if_false] at hx ⊢
    split at hx
    · injection hx with hx
      subst hx
      simp only [Rs] at h
      obtain ⟨v, r, rfl, hv, _, rfl⟩ := h
      simpa using hv
    · cases hx
theorem R_asInt {k : K} {x : AV} {v : Value} {n : Int} (h : R k x v) (hx : x.asInt = some n) : ∃ q, v = .int q n := by
  unfold AV.asInt at hx
  split at hx
  · injection hx with hx
    subst hx
    simp only [R] at h
    exact ⟨_, h.1⟩
  · cases hx
theorem R_asSl {k : K} {x : AV} {v : Value} {sz : Nat} {tok : Tok} {rows : List (List AV)} (h : R k x v) (hx : x.asSl sz = some (tok, rows)) : R k (.sl sz tok rows) v := by
  unfold AV.asSl at hx
  split at hx
  · split at hx
    · injection hx with hx
      injection hx with h1 h2
      subst h1; subst h2
      rename_i hs
      subst hs
      exact h
    · cases hx
  · injection hx with hx
    injection hx with h1 h2
    subst h1; subst h2
    simp only [R] at h ⊢
    exact ⟨none, 0, h.1, Nat.le_refl _, Nat.zero_le _, fun h => absurd rfl h, rfl⟩
  · cases hx

section
variable {P : Program} {w : World}
theorem addr_add (b o j : Nat) : (⟨b, o, none⟩ : Addr).add j = ⟨b, o + j, none⟩ := by unfold Addr.add; split <;> simp_all
theorem run_underlying' {t : TypeId} {d : TypeDesc} (h : P.underlying t = some d) : (underlying t).run P w = .ok d w := run_underlying h w
theorem run_typeInfo' {t : TypeId} {i : TypeInfo} (h : P.info? t = some i) : (typeInfo t).run P w = .ok i w := by simp [typeInfo, h]
theorem run_sizeOf' {t : TypeId} {i : TypeInfo} (h : P.info? t = some i) : (sizeOf t).run P w = .ok i.size w := by simp [sizeOf, run_typeInfo' h]
theorem run_zeroValue' {t : TypeId} {i : TypeInfo} {z : Value} (h : P.info? t = some i) (hz : i.zero = some z) : (zeroValue t).run P w = .ok z w := by simp [zeroValue, run_typeInfo' h, hz]
theorem run_isAgg' {t : TypeId} {d : TypeDesc} (h : P.underlying t = some d) : (isAgg t).run P w = .ok (isAggB P t) w := by
  unfold isAgg isAggB
  simp only [Sem.run_bind, run_underlying' h, Result.andThen_ok, h]
  cases d <;> rfl
theorem run_asIntOf' (k : IntKind) (n : Int) : (asIntOf (.int k n)).run P w = .ok (k, n) w := rfl
theorem run_loadVar' {t : TypeId} {i : TypeInfo} {d : TypeDesc} (h : P.info? t = some i) (hu : P.underlying t = some d) (h1 : (isAggB P t || i.size == 1) = true) {b o : Nat} {vs : List Value} (hl : vs.length = i.size)
    (hc : ∀ j v, vs[j]? = some v → w.cell? ⟨b, o + j, none⟩ = some v) : (loadVar t ⟨b, o, none⟩).run P w = .ok (ofCells (isAggB P t) vs) w := by
  unfold loadVar
  simp only [Sem.run_bind, run_isAgg' hu, Result.andThen_ok]
  cases ha : isAggB P t with
  | true =>
    have := run_loadCells_list (P := P) w ⟨b, o, none⟩ vs (fun j v hv => by rw [addr_add]; exact hc j v hv)
    rw [hl] at this
    simp [run_sizeOf' h, this, ofCells]
  | false =>
    rw [ha] at h1
    have h1' : i.size = 1 := by simpa using h1
    rw [h1'] at hl
    match vs, hl with
    | [v], _ =>
      have := hc 0 v rfl
      simp only [Nat.add_zero] at this
      simp [ofCells, this]
theorem run_part' {t : TypeId} {i : TypeInfo} {d : TypeDesc} (h : P.info? t = some i) (hu : P.underlying t = some d) (h1 : (isAggB P t || i.size == 1) = true) {cs : Array Value} {off : Nat} (hl : off + i.size ≤ cs.size) :
    (part t cs off).run P w = .ok (ofCells (isAggB P t) ((cs.toList.drop off).take i.size)) w := by
  unfold part
  simp only [Sem.run_bind, run_isAgg' hu, Result.andThen_ok]
  cases ha : isAggB P t with
  | true =>
    simp only [if_true, Sem.run_bind, run_sizeOf' h, Result.andThen_ok, Sem.run_pure, ofCells]
    congr 2
    apply Array.ext'
    simp [Array.toList_extract, List.extract_eq_take_drop]
  | false =>
    rw [ha] at h1
    have h1' : i.size = 1 := by simpa using h1
    rw [h1'] at hl ⊢
    have hlt : off < cs.size := by omega
    simp [ofCells, hlt, List.getD_eq_getElem?_getD]
end
end Go.Av

namespace Go.Av
variable {σ : Type}

theorem wp_value {P : Program} {o : Oper} {a : Act} {w w' : World} {v : Value} {K : Act → World → Prop} {Q : Exit → Act → World → Prop} (hr : (execOp a.eval o).run P w = .ok (.value v) w') (h : K (a.put o.dst v) w') : o.wp P a w K Q := by
  unfold Oper.wp
  rw [hr]
  exact h
theorem wp_skip' {P : Program} {o : Oper} {a : Act} {w w' : World} {K : Act → World → Prop} {Q : Exit → Act → World → Prop} (hr : (execOp a.eval o).run P w = .ok .skip w') (h : K (a.put o.dst undef) w') : o.wp P a w K Q := by
  unfold Oper.wp
  rw [hr]
  exact h
theorem R_undef (k : K) : R k undefA undef := by
  unfold undefA undef
  simp only [R]
  exact ⟨#[], rfl, by simp [Rt]⟩

/-- What is owed for an operation. -/
def Sim (P : Program) (c : Cx σ) (st' : St σ) (x : AV) (o : Oper) (a : Act) (w : World) (ob : Nat → Value → Prop) : Prop :=
  ∀ (K : Act → World → Prop) (Q : Exit → Act → World → Prop), (∀ v w' ow' τ', FR c st' a w' ow' τ' ob → R (Kof c st' w' ow' τ' ob) x v → K (a.put o.dst v) w') → o.wp P a w K Q

section
variable {P : Program} {T : List Nat} {Φ : Orc} {d : Nat} {c : Cx σ} {st st' : St σ} {x : AV} {a : Act} {w : World} {ow : Nat → Own} {τ : Nat → Nat} {ob : Nat → Value → Prop}
  {dst : Option Nat} {type : TypeId} {pos : String} {after : Array Edge} {guard : Option (Nat × Bool)}

theorem sim_same (h : FR c st a w ow τ ob) {o : Oper} {v : Value} (hr : (execOp a.eval o).run P w = .ok (.value v) w) (hx : R (Kof c st w ow τ ob) x v) : Sim P c st x o a w ob :=
  fun K Q hK => wp_value hr (hK v w ow τ h hx)

theorem sim_mov (h : FR c st a w ow τ ob) {y : Operand} {op : Op} (hop : op = .move y ∨ op = .assign y) (ha : act Φ d st (.mov y) = some (x, st')) : Sim P c st' x ⟨dst, op, type, pos, after, guard⟩ a w ob := by
  simp only [act, Option.some.injEq, Prod.mk.injEq] at ha
  obtain ⟨rfl, rfl⟩ := ha
  rcases hop with rfl | rfl <;> exact sim_same h rfl (R_ev h y)

theorem sim_pick (h : FR c st a w ow τ ob) {y z u : Operand} (ha : act Φ d st (.pick y z u) = some (x, st')) : Sim P c st' x ⟨dst, .pick y z u, type, pos, after, guard⟩ a w ob := by
  simp only [act] at ha
  have hy := R_ev h y
  split at ha
  · rename_i t e
    rw [e] at hy
    simp only [R] at hy
    simp only [Option.some.injEq, Prod.mk.injEq] at ha
    obtain ⟨rfl, rfl⟩ := ha
    refine sim_same h (v := if t then a.eval z else a.eval u) (by cases t <;> simp [execOp, hy.1, asBool]) ?_
    cases t
    · exact R_ev h u
    · exact R_ev h z
  · cases ha

theorem sim_box (h : FR c st a w ow τ ob) {t : TypeId} {y : Operand} (ha : act Φ d st (.box y) = some (x, st')) : Sim P c st' x ⟨dst, .box t y, type, pos, after, guard⟩ a w ob := by
  simp only [act] at ha
  split at ha
  · rename_i cs e
    simp only [Option.some.injEq, Prod.mk.injEq] at ha
    obtain ⟨rfl, rfl⟩ := ha
    obtain ⟨h1, h2⟩ := h.newVar d t (R_cells (R_ev h y) e)
    intro K Q hK
    refine wp_value (v := .pointer (some ⟨w.heap.size, 0, none⟩)) (w' := w.alloc (.cells (a.eval y).cells.toList.toArray t)) ?_ (hK _ _ _ _ h1 h2)
    simp [execOp, Instr.box, newVar, newRow]
  · cases ha

theorem sim_alloc (h : FR c st a w ow τ ob) {t : TypeId} {i : TypeInfo} {z : Value} (hi : P.info? t = some i) (hz : i.zero = some z) (h1 : z.cells.toList.all (·.oneCell') = true) (ha : act Φ d st (.alloc z.cells.toList) = some (x, st')) :
    Sim P c st' x ⟨dst, .alloc t, type, pos, after, guard⟩ a w ob := by
  simp only [act, Option.some.injEq, Prod.mk.injEq] at ha
  obtain ⟨rfl, rfl⟩ := ha
  obtain ⟨h1, h2⟩ := h.newVar d t (Rs_imm (List.all_eq_true.1 h1))
  intro K Q hK
  refine wp_value (v := .pointer (some ⟨w.heap.size, 0, none⟩)) (w' := w.alloc (.cells z.cells.toList.toArray t)) ?_ (hK _ _ _ _ h1 h2)
  simp [execOp, Instr.alloc, newVar, newRow, run_zeroValue' hi hz]

/-- A pointer into a variable, and its cells. -/
theorem ptr_cells (h : FR c st a w ow τ ob) {d' g off : Nat} {v : Value} (hp : R (Kof c st w ow τ ob) (.ptr d' g off) v) (hg : g = st.gen d') :
    ∃ b cs T, v = .pointer (some ⟨b, off, none⟩) ∧ c.base ≤ b ∧ ow b = .var d' ∧ w.heap[b]? = some (.cells cs T (0, 0)) ∧ (∀ u ∈ cs.toList, u.oneCell' = true) ∧ Rs (Kof c st w ow τ ob) (st.var d') (cs.toList.take (st.var d').length) := by
  simp only [R] at hp
  obtain ⟨_, _, hb⟩ := hp
  obtain ⟨b, hb, e⟩ := hb hg
  obtain ⟨cs, T, hc, _, h1, hr⟩ := var_block h hb
  exact ⟨b, cs, T, e, hb.1, hb.2.1, hc, h1, hr⟩
theorem cell_of_heap {b : Nat} {cs : Array Value} {T : TypeId} {fr : Nat × Nat} (hc : w.heap[b]? = some (.cells cs T fr)) (j : Nat) : w.cell? ⟨b, j, none⟩ = cs[j]? := by simp [World.cell?, hc]

theorem var_cells {b : Nat} {cs : Array Value} {T : TypeId} {fr : Nat × Nat} (hc : w.heap[b]? = some (.cells cs T fr)) {m off n : Nat} : ∀ (j : Nat) (v : Value), (((cs.toList.take m).drop off).take n)[j]? = some v → w.cell? ⟨b, off + j, none⟩ = some v := by
  intro j v hj
  rw [cell_of_heap hc]
  rw [List.getElem?_take] at hj
  split at hj
  · rw [List.getElem?_drop, List.getElem?_take] at hj
    split at hj
    · simpa using hj
    · cases hj
  · cases hj
theorem splice_take {α : Type} {l xs : List α} {off m : Nat} (h : off + xs.length ≤ m) (hm : m ≤ l.length) : (splice l off xs).take m = splice (l.take m) off xs := by
  unfold splice
  apply List.ext_getElem?
  intro k
  simp only [List.getElem?_take, List.getElem?_append, List.length_append, List.length_take, List.getElem?_drop]
  grind
theorem sim_load (h : FR c st a w ow τ ob) {t : TypeId} {y : Operand} {i : TypeInfo} {ds : TypeDesc} (hi : P.info? t = some i) (hu : P.underlying t = some ds) (h1 : (isAggB P t || i.size == 1) = true) (ha : act Φ d st (.load (isAggB P t) i.size y) = some (x, st')) :
    Sim P c st' x ⟨dst, .load t y, type, pos, after, guard⟩ a w ob := by
  simp only [act] at ha
  have hy := R_ev h y
  split at ha
  · rename_i d' g off e
    rw [e] at hy
    split at ha
    · rename_i hc
      obtain ⟨hg, _, hl⟩ := hc
      obtain ⟨x', hm, hx⟩ := Option.map_eq_some_iff.1 ha
      simp only [Prod.mk.injEq] at hx
      obtain ⟨rfl, rfl⟩ := hx
      obtain ⟨b, cs, T', hv, hb, hvar, hheap, _, hr⟩ := ptr_cells h hy hg
      have hlen := Rs_length hr
      have hr' := Rs_take i.size (Rs_drop off hr)
      refine sim_same h (v := ofCells (isAggB P t) (((cs.toList.take (st.var d').length).drop off).take i.size)) ?_ (R_mk hm hr')
      have := run_loadVar' (w := w) hi hu h1 (b := b) (o := off) (vs := ((cs.toList.take (st.var d').length).drop off).take i.size) (by simp at hlen ⊢; omega) (var_cells hheap)
      simp [execOp, Instr.loadAt, hv, Instr.sureAddr, this]
    · cases ha
  · rename_i cs off e
    rw [e] at hy
    split at ha
    · rename_i hl
      obtain ⟨x', hm, hx⟩ := Option.map_eq_some_iff.1 ha
      simp only [Prod.mk.injEq] at hx
      obtain ⟨rfl, rfl⟩ := hx
      simp only [R] at hy
      obtain ⟨b, q, hv, hrow⟩ := hy
      have hd := rowAt_take i.size (rowAt_drop off hrow)
      obtain ⟨vs, hvs, hcells⟩ := rowAt_vals hd
      have hlen := Rs_length hvs
      refine sim_same h (v := ofCells (isAggB P t) vs) ?_ (R_mono (KLe.of_pure (KLe.refl _)) _ _ (R_mk hm hvs))
      have := run_loadVar' (w := w) hi hu h1 (b := b) (o := q + off) (vs := vs) (by rw [hlen]; simp; omega) (fun j v hj => (hcells j v hj).2.1)
      simp [execOp, Instr.loadAt, hv, Instr.sureAddr, this]
    · cases ha
  · cases ha

theorem toList_of_Rs {k : K} {xs : List AV} {v : Value} (h : Rs k xs v.cells.toList) : v.cells.size = xs.length := by
  have := Rs_length h
  simpa using this

theorem sim_store (h : FR c st a w ow τ ob) {t : TypeId} {y z : Operand} {i : TypeInfo} (hi : P.info? t = some i) (ha : act Φ d st (.store i.size y z) = some (x, st')) :
    Sim P c st' x ⟨dst, .store t y z, type, pos, after, guard⟩ a w ob := by
  simp only [act] at ha
  have hy := R_ev h y
  have hz := R_ev h z
  split at ha
  · rename_i d' g off xs e1 e2
    rw [e1] at hy
    split at ha
    · rename_i hc
      obtain ⟨hg, _, hlx, hl⟩ := hc
      simp only [Option.some.injEq, Prod.mk.injEq] at ha
      obtain ⟨rfl, rfl⟩ := ha
      obtain ⟨b, cs, T', hv, hb, hvar, hheap, h1c, hr⟩ := ptr_cells h hy hg
      have hcs := R_cells hz e2
      have hsz := toList_of_Rs hcs
      have hlen := Rs_length hr
      have hsp := Rs_splice off hr hcs
      have hml : (st.var d').length ≤ cs.toList.length := by simp at hlen ⊢; omega
      have hxl : (a.eval z).cells.toList.length = xs.length := Rs_length hcs
      rw [← splice_take (by omega) hml, ← splice_length (st.var d') xs off (by omega)] at hsp
      obtain ⟨h1, h2⟩ := h.setVar hb hvar hheap (by rw [splice_length _ _ _ (by omega)]; simp) (by
        intro v hv
        unfold splice at hv
        simp only [List.mem_append] at hv
        rcases hv with (hv | hv) | hv
        · exact h1c v (List.mem_of_mem_take hv)
        · exact Rs_one hcs v hv
        · exact h1c v (List.mem_of_mem_drop hv)) hsp
      intro K Q hK
      have hrun := run_storeCells_at P b off T' (a.eval z).cells.toList 0 cs w hheap (by simp at hlen ⊢; omega) (Rs_one hcs)
      refine wp_skip' (w' := w.setRow b (splice cs.toList off (a.eval z).cells.toList).toArray) ?_ (hK undef _ _ _ h1 (R_undef _))
      have hne : (a.eval z).cells.size = i.size := by omega
      simp only [Nat.add_zero] at hrun
      simp [execOp, Instr.storeAt, hv, Instr.sureAddr, storeVar, run_sizeOf' hi, hne, hrun, splice]
    · cases ha
  · cases ha

theorem sim_faddr (h : FR c st a w ow τ ob) {s : TypeId} {y : Operand} {f : Nat} {fs : Array Field} {fd : Field} {i : TypeInfo} (hs : P.underlying s = some (.struct fs)) (hf : fs[f]? = some fd) (hi : P.info? fd.type = some i) (h0 : i.size ≠ 0)
    (ha : act Φ d st (.faddr fd.offset y) = some (x, st')) : Sim P c st' x ⟨dst, .fieldAddr s y f, type, pos, after, guard⟩ a w ob := by
  simp only [act] at ha
  have hy := R_ev h y
  have hrun : ∀ (b q : Nat), a.eval y = .pointer (some ⟨b, q, none⟩) → (execOp a.eval (⟨dst, .fieldAddr s y f, type, pos, after, guard⟩ : Oper)).run P w = .ok (.value (.pointer (some ⟨b, q + fd.offset, none⟩))) w := by
    intro b q e
    simp [execOp, Instr.fieldAt, run_underlying' hs, hf, e, Instr.sureAddr, fieldPlace, run_sizeOf' hi, h0, addr_add]
  split at ha
  · rename_i d' g q e
    rw [e] at hy
    split at ha
    · rename_i hg
      simp only [Option.some.injEq, Prod.mk.injEq] at ha
      obtain ⟨rfl, rfl⟩ := ha
      simp only [R] at hy
      obtain ⟨hpg, h1, hb⟩ := hy
      obtain ⟨b, hb', hv⟩ := hb hg
      refine sim_same h (hrun b q hv) ?_
      simp only [R]
      exact ⟨hpg, rfl, fun _ => ⟨b, hb', rfl⟩⟩
    · cases ha
  · rename_i cs q e
    rw [e] at hy
    simp only [Option.some.injEq, Prod.mk.injEq] at ha
    obtain ⟨rfl, rfl⟩ := ha
    simp only [R] at hy
    obtain ⟨b, p, hv, hr⟩ := hy
    refine sim_same h (hrun b (p + q) hv) ?_
    simp only [R]
    exact ⟨b, p, by rw [Nat.add_assoc], hr⟩
  · cases ha
end
end Go.Av

namespace Go.Av
variable {σ : Type}
section
variable {P : Program} {T : List Nat} {Φ : Orc} {d : Nat} {c : Cx σ} {st st' : St σ} {x : AV} {a : Act} {w : World} {ow : Nat → Own} {τ : Nat → Nat} {ob : Nat → Value → Prop}
  {dst : Option Nat} {type : TypeId} {pos : String} {after : Array Edge} {guard : Option (Nat × Bool)}

theorem vslOf_eq {y : AV} {p : Nat × Nat × Nat × Nat × Nat × Option Nat} (h : y.vslOf = some p) : y = .vsl p.1 p.2.1 p.2.2.1 p.2.2.2.1 p.2.2.2.2.1 p.2.2.2.2.2 := by
  unfold AV.vslOf at h
  split at h
  · injection h with h; subst h; rfl
  · cases h
theorem vb_le {d b z z' : Nat} (h : (Kof c st w ow τ ob).vb d b (some z)) (hz : z' ≤ z) : (Kof c st w ow τ ob).vb d b (some z') := by
  obtain ⟨h1, h2, h3⟩ := h
  refine ⟨h1, h2, ?_⟩
  revert h3
  cases w.heap[b]? with
  | none => exact fun h => h
  | some obj => cases obj with
    | cells cs T fr => exact fun h => ⟨h.1, Nat.le_trans hz h.2⟩
    | _ => exact fun h => h
theorem sim_iaddr (h : FR c st a w ow τ ob) {t e : TypeId} {y z : Operand} {ie : TypeInfo} (ht : P.underlying t = some (.slice e)) (hi : P.info? e = some ie) (ha : act Φ d st (.iaddr ie.size y z) = some (x, st')) :
    Sim P c st' x ⟨dst, .indexAddr t y z, type, pos, after, guard⟩ a w ob := by
  simp only [act] at ha
  split at ha
  · rename_i d' g sz' off m cp n e1 e2
    obtain ⟨q, hz⟩ := R_asInt (R_ev h z) e2
    have hy := R_ev h y
    have e3 := vslOf_eq e1
    rw [e3] at hy
    split at ha
    · rename_i hn
      obtain ⟨_, hg, h0, hl⟩ := hn
      simp only [Option.some.injEq, Prod.mk.injEq] at ha
      obtain ⟨rfl, rfl⟩ := ha
      simp only [R] at hy
      obtain ⟨hpg, A, z', hv, hmz, _, _, hb⟩ := hy
      obtain ⟨b, o, hb', rfl, ho⟩ := hb hg
      have := ho (by omega)
      subst this
      refine sim_same h (v := .pointer (some ⟨b, o + n.toNat * ie.size, none⟩)) ?_ ?_
      · simp [execOp, Instr.indexAt, hz, run_asIntOf', run_underlying' ht, hv, h0, hl, run_sizeOf' hi, addr_add]
      · simp only [R]
        exact ⟨hpg, rfl, fun _ => ⟨b, vb_le hb' (Nat.zero_le _), rfl⟩⟩
    · cases ha
  · rename_i tok rows n _ e1 e2
    have hy := R_asSl (R_ev h y) e1
    obtain ⟨q, hz⟩ := R_asInt (R_ev h z) e2
    split at ha
    · rename_i hn
      obtain ⟨h0, hl⟩ := hn
      simp only [Option.some.injEq, Prod.mk.injEq] at ha
      obtain ⟨rfl, rfl⟩ := ha
      simp only [R] at hy
      obtain ⟨A, z', hv, hlen, _, hrows, _⟩ := hy
      have hne : rows ≠ [] := by rintro rfl; simp at hl; omega
      obtain ⟨b, o, rfl, hr⟩ := hrows hne
      have hlt : n.toNat < rows.length := by omega
      obtain ⟨hrow, hsz⟩ := rowsAt_get hr n.toNat (rows.getD n.toNat []) (by simp [List.getD_eq_getElem?_getD, hlt])
      refine sim_same h (v := .pointer (some ⟨b, o + n.toNat * ie.size, none⟩)) ?_ ?_
      · simp [execOp, Instr.indexAt, hz, run_asIntOf', run_underlying' ht, hv, h0, hl, run_sizeOf' hi, addr_add]
      · simp only [R]
        exact ⟨b, _, rfl, hrow⟩
    · cases ha
  · cases ha

theorem sim_aaddr (h : FR c st a w ow τ ob) {t e : TypeId} {y z : Operand} {ie : TypeInfo} {len : Nat} (ht : P.underlying t = some (.array len e)) (hi : P.info? e = some ie) (ha : act Φ d st (.aaddr len ie.size y z) = some (x, st')) :
    Sim P c st' x ⟨dst, .indexAddr t y z, type, pos, after, guard⟩ a w ob := by
  simp only [act] at ha
  have hy := R_ev h y
  split at ha
  · rename_i d' g q n e1 e2
    rw [e1] at hy
    obtain ⟨k, hz⟩ := R_asInt (R_ev h z) e2
    split at ha
    · rename_i hn
      obtain ⟨hg, h0, hl⟩ := hn
      simp only [Option.some.injEq, Prod.mk.injEq] at ha
      obtain ⟨rfl, rfl⟩ := ha
      simp only [R] at hy
      obtain ⟨hpg, h1, hb⟩ := hy
      obtain ⟨b, hb', hv⟩ := hb hg
      refine sim_same h (v := .pointer (some ⟨b, q + n.toNat * ie.size, none⟩)) ?_ ?_
      · simp [execOp, Instr.indexAt, hz, run_asIntOf', run_underlying' ht, hv, Instr.sureAddr, h0, hl, run_sizeOf' hi, addr_add]
      · simp only [R]
        exact ⟨hpg, rfl, fun _ => ⟨b, hb', rfl⟩⟩
    · cases ha
  · cases ha

theorem sim_sidx (h : FR c st a w ow τ ob) {t : TypeId} {y z : Operand} (ht : P.underlying t = some .string) (ha : act Φ d st (.sidx y z) = some (x, st')) :
    Sim P c st' x ⟨dst, .index t y z, type, pos, after, guard⟩ a w ob := by
  simp only [act] at ha
  have hy := R_ev h y
  split at ha
  · rename_i s n e1 e2
    rw [e1] at hy
    simp only [R] at hy
    obtain ⟨k, hz⟩ := R_asInt (R_ev h z) e2
    split at ha
    · rename_i hn
      obtain ⟨h0, hl⟩ := hn
      simp only [Option.some.injEq, Prod.mk.injEq] at ha
      obtain ⟨rfl, rfl⟩ := ha
      refine sim_same h (v := .int .u8 (s.data.toList.getD n.toNat 0).toNat) ?_ (by unfold R; exact ⟨rfl, rfl⟩)
      have hg : s[n.toNat]? = some (s.data.toList.getD n.toNat 0) := by
        have hl' : n.toNat < s.data.size := hl
        rw [getElem?_pos s n.toNat hl]
        simp only [List.getD_eq_getElem?_getD, Array.getElem?_toList, Array.getElem?_eq_getElem hl', Option.getD_some]
        rfl
      simp [execOp, Instr.index, hz, run_asIntOf', run_underlying' ht, hy.1, h0, hg]
    · cases ha
  · cases ha

theorem sim_field (h : FR c st a w ow τ ob) {t : TypeId} {y : Operand} {f : Nat} {fs : Array Field} {fd : Field} {i : TypeInfo} {ds : TypeDesc} (hs : P.underlying t = some (.struct fs)) (hf : fs[f]? = some fd) (hi : P.info? fd.type = some i) (hu : P.underlying fd.type = some ds)
    (h1 : (isAggB P fd.type || i.size == 1) = true) (ha : act Φ d st (.field (isAggB P fd.type) fd.offset i.size y) = some (x, st')) : Sim P c st' x ⟨dst, .field t y f, type, pos, after, guard⟩ a w ob := by
  simp only [act] at ha
  have hy := R_ev h y
  split at ha
  · rename_i cs e
    rw [e] at hy
    split at ha
    · rename_i hl
      obtain ⟨x', hm, hx⟩ := Option.map_eq_some_iff.1 ha
      simp only [Prod.mk.injEq] at hx
      obtain ⟨rfl, rfl⟩ := hx
      simp only [R] at hy
      obtain ⟨arr, hv, hr⟩ := hy
      have hlen := Rs_length hr
      refine sim_same h (v := ofCells (isAggB P fd.type) ((arr.toList.drop fd.offset).take i.size)) ?_ (R_mk hm (Rs_take _ (Rs_drop _ hr)))
      have := run_part' (w := w) hi hu h1 (cs := arr) (off := fd.offset) (by simp at hlen; omega)
      simp [execOp, Instr.field, run_underlying' hs, hf, hv, asAgg, this]
    · cases ha
  · cases ha

theorem sim_aidx (h : FR c st a w ow τ ob) {t e : TypeId} {y z : Operand} {len : Nat} {i : TypeInfo} {ds : TypeDesc} (ht : P.underlying t = some (.array len e)) (hi : P.info? e = some i) (hu : P.underlying e = some ds)
    (h1 : (isAggB P e || i.size == 1) = true) (ha : act Φ d st (.aidx (isAggB P e) len i.size y z) = some (x, st')) : Sim P c st' x ⟨dst, .index t y z, type, pos, after, guard⟩ a w ob := by
  simp only [act] at ha
  have hy := R_ev h y
  split at ha
  · rename_i cs n e1 e2
    rw [e1] at hy
    obtain ⟨k, hz⟩ := R_asInt (R_ev h z) e2
    split at ha
    · rename_i hn
      obtain ⟨h0, hl, hs⟩ := hn
      obtain ⟨x', hm, hx⟩ := Option.map_eq_some_iff.1 ha
      simp only [Prod.mk.injEq] at hx
      obtain ⟨rfl, rfl⟩ := hx
      simp only [R] at hy
      obtain ⟨arr, hv, hr⟩ := hy
      have hlen := Rs_length hr
      refine sim_same h (v := ofCells (isAggB P e) ((arr.toList.drop (n.toNat * i.size)).take i.size)) ?_ (R_mk hm (Rs_take _ (Rs_drop _ hr)))
      have := run_part' (w := w) hi hu h1 (cs := arr) (off := n.toNat * i.size) (by simp at hlen; omega)
      simp [execOp, Instr.index, hz, run_asIntOf', run_underlying' ht, hv, h0, hl, run_sizeOf' hi, this]
    · cases ha
  · cases ha

theorem run_binV {op : BinOp} {u v r : Value} (hr : binV op u v = some r) (t : TypeId) (w : World) : (binOp op t u v).run P w = .ok r w ∧ r.oneCell' = true := by
  unfold binV at hr
  split at hr
  · rename_i k m k' n
    split at hr
    · rename_i hk
      subst hk
      cases op <;> simp only [Option.some.injEq, reduceCtorEq] at hr <;> first
        | (subst hr; exact ⟨by simp [binOp, Op.intArith, Op.intCmp], rfl⟩)
        | (split at hr
           · cases hr
           · rename_i hn
             injection hr with hr; subst hr
             exact ⟨by simp [binOp, Op.intDiv, hn], rfl⟩)
        | (split at hr
           · rename_i hn
             injection hr with hr; subst hr; subst hn
             refine ⟨?_, rfl⟩
             have e1 : min (1 : Int).toNat k.bits = 1 := by cases k <;> rfl
             simp only [binOp, Op.shift, e1]
             rfl
           · cases hr)
    · cases hr
  · rename_i s1 s2
    cases op <;> simp only [Option.some.injEq, reduceCtorEq] at hr <;> first
      | (subst hr; exact ⟨by simp [binOp, Op.stringOp], rfl⟩)
      | (split at hr
         · rename_i hl
           injection hr with hr; subst hr
           refine ⟨?_, rfl⟩
           have : ¬ (((s1.size + s2.size : Nat) : Int) > IntKind.i64.max) := by
             have : IntKind.i64.max = 9223372036854775807 := by decide
             omega
           simp only [binOp, Op.stringOp, if_neg this]
           rfl
         · cases hr)
  · cases hr
theorem run_eqGuard_imm {op : BinOp} {t : TypeId} {y z : Operand} {u v : Value} (h : ¬ (u = .nilIface ∧ v = .nilIface)) (h2 : ¬ ∃ p q, u = .agg p ∧ v = .agg q) (w : World) : (eqGuard op t y z u v).run P w = .ok () w := by
  cases op <;> first
    | rfl
    | (unfold eqGuard
       simp only [Bool.not_true, Bool.false_eq_true, if_false]
       cases u <;> cases v <;> first
         | rfl
         | exact absurd ⟨rfl, rfl⟩ h
         | exact absurd ⟨_, _, rfl, rfl⟩ h2)

theorem sim_bin (h : FR c st a w ow τ ob) {op : BinOp} {t ty : TypeId} {y z : Operand} (ha : act Φ d st (.bin op y z) = some (x, st')) :
    Sim P c st' x ⟨dst, .binOp op t y z ty, type, pos, after, guard⟩ a w ob := by
  simp only [act] at ha
  have hy := R_ev h y
  have hz := R_ev h z
  split at ha
  · rename_i u v e1 e2
    rw [e1] at hy
    rw [e2] at hz
    simp only [R] at hy hz
    obtain ⟨r, hr, hx⟩ := Option.map_eq_some_iff.1 ha
    simp only [Prod.mk.injEq] at hx
    obtain ⟨rfl, rfl⟩ := hx
    obtain ⟨hrun, h1⟩ := run_binV (P := P) hr t w
    refine sim_same h (v := r) ?_ (by unfold R; exact ⟨rfl, h1⟩)
    have hg := run_eqGuard_imm (P := P) (op := op) (t := t) (y := y) (z := z) (u := u) (v := v) (by rintro ⟨rfl, rfl⟩; simp [binV] at hr) (by rintro ⟨p, q, rfl, rfl⟩; simp [binV] at hr) w
    simp [execOp, hy.1, hz.1, hg, hrun]
  · cases ha

theorem run_equalIn_bool {t : TypeId} (ht : P.underlying t = some .bool) (n : Nat) (u v : Bool) (w : World) : (Op.equalIn (n + 1) t (.bool u) (.bool v)).run P w = .ok (u == v) w := by
  simp [Op.equalIn, run_underlying' ht]
theorem run_equal_bool {t : TypeId} (ht : P.underlying t = some .bool) (u v : Bool) (w : World) : (Op.equal t (.bool u) (.bool v)).run P w = .ok (u == v) w := run_equalIn_bool ht 9999 u v w
theorem run_binOp_eql_bool {t : TypeId} (ht : P.underlying t = some .bool) (u v : Bool) (w : World) : (binOp .eql t (.bool u) (.bool v)).run P w = .ok (.bool (u == v)) w := by
  show (do pure (Value.bool (← Op.equal t (.bool u) (.bool v))) : Sem Value).run P w = _
  rw [Sem.run_bind, run_equal_bool ht]
  rfl
theorem run_binOp_neq_bool {t : TypeId} (ht : P.underlying t = some .bool) (u v : Bool) (w : World) : (binOp .neq t (.bool u) (.bool v)).run P w = .ok (.bool (!(u == v))) w := by
  show (do pure (Value.bool (!(← Op.equal t (.bool u) (.bool v)))) : Sem Value).run P w = _
  rw [Sem.run_bind, run_equal_bool ht]
  rfl

theorem sim_beq (h : FR c st a w ow τ ob) {neg : Bool} {t ty : TypeId} {y z : Operand} (ht : P.underlying t = some .bool) (ha : act Φ d st (.beq neg y z) = some (x, st')) :
    Sim P c st' x ⟨dst, .binOp (if neg then .neq else .eql) t y z ty, type, pos, after, guard⟩ a w ob := by
  simp only [act] at ha
  have hy := R_ev h y
  have hz := R_ev h z
  split at ha
  · rename_i u v e1 e2
    rw [e1] at hy
    rw [e2] at hz
    simp only [R] at hy hz
    simp only [Option.some.injEq, Prod.mk.injEq] at ha
    obtain ⟨rfl, rfl⟩ := ha
    refine sim_same h (v := .bool (if neg then !(u == v) else u == v)) ?_ (by unfold R; exact ⟨rfl, rfl⟩)
    have hg := run_eqGuard_imm (P := P) (op := if neg then .neq else .eql) (t := t) (y := y) (z := z) (u := .bool u) (v := .bool v) (by rintro ⟨h, _⟩; cases h) (by rintro ⟨p, q, h, _⟩; cases h) w
    cases neg
    · simp only [Bool.false_eq_true, if_false] at hg ⊢
      simp only [execOp, hy.1, hz.1, Sem.run_bind, hg, Result.andThen_ok, run_binOp_eql_bool ht, Sem.run_pure]
    · simp only [if_true] at hg ⊢
      simp only [execOp, hy.1, hz.1, Sem.run_bind, hg, Result.andThen_ok, run_binOp_neq_bool ht, Sem.run_pure]
  · cases ha

theorem sim_un (h : FR c st a w ow τ ob) {op : UnOp} {t : TypeId} {y : Operand} (ha : act Φ d st (.un op y) = some (x, st')) :
    Sim P c st' x ⟨dst, .unOp op t y, type, pos, after, guard⟩ a w ob := by
  simp only [act] at ha
  have hy := R_ev h y
  split at ha
  · rename_i u e1
    rw [e1] at hy
    simp only [R] at hy
    obtain ⟨r, hr, hx⟩ := Option.map_eq_some_iff.1 ha
    simp only [Prod.mk.injEq] at hx
    obtain ⟨rfl, rfl⟩ := hx
    unfold unV at hr
    split at hr
    · rename_i b
      cases op <;> simp only [Option.some.injEq, reduceCtorEq] at hr
      subst hr
      exact sim_same h (v := .bool (!b)) (by simp only [execOp, hy.1, Op.unary, Sem.run_bind, Sem.run_pure, Result.andThen_ok]) (by unfold R; exact ⟨rfl, rfl⟩)
    · rename_i k n
      cases op <;> simp only [Option.some.injEq, reduceCtorEq] at hr
      subst hr
      exact sim_same h (v := .int k (k.wrap (0 - n))) (by simp only [execOp, hy.1, Op.unary, Op.intArith, Sem.run_bind, Sem.run_pure, Result.andThen_ok]) (by unfold R; exact ⟨rfl, rfl⟩)
    · cases hr
  · cases ha

theorem sim_convi (h : FR c st a w ow τ ob) {s t : TypeId} {q k : IntKind} {y : Operand} (hs : P.underlying s = some (.int q)) (ht : P.underlying t = some (.int k)) (ha : act Φ d st (.convi k y) = some (x, st')) :
    Sim P c st' x ⟨dst, .convert s t y, type, pos, after, guard⟩ a w ob := by
  simp only [act] at ha
  split at ha
  · rename_i n e
    obtain ⟨j, hy⟩ := R_asInt (R_ev h y) e
    simp only [Option.some.injEq, Prod.mk.injEq] at ha
    obtain ⟨rfl, rfl⟩ := ha
    exact sim_same h (v := .int k (k.wrap n)) (by simp [execOp, convert, run_underlying' hs, run_underlying' ht, hy, Conv.intToInt]) (by unfold R; exact ⟨rfl, rfl⟩)
  · cases ha

theorem sim_convs (h : FR c st a w ow τ ob) {s t : TypeId} {y : Operand} (hs : P.underlying s = some .string) (ht : P.underlying t = some .string) (ha : act Φ d st (.convs y) = some (x, st')) :
    Sim P c st' x ⟨dst, .convert s t y, type, pos, after, guard⟩ a w ob := by
  simp only [act] at ha
  have hy := R_ev h y
  split at ha
  · rename_i n e
    rw [e] at hy
    simp only [R] at hy
    simp only [Option.some.injEq, Prod.mk.injEq] at ha
    obtain ⟨rfl, rfl⟩ := ha
    exact sim_same h (v := .string n) (by simp [execOp, convert, run_underlying' hs, run_underlying' ht, hy.1]) (by unfold R; exact ⟨rfl, rfl⟩)
  · cases ha

theorem sim_ext (h : FR c st a w ow τ ob) {i : Nat} {y : Operand} (ha : act Φ d st (.ext i y) = some (x, st')) :
    Sim P c st' x ⟨dst, .extract y i, type, pos, after, guard⟩ a w ob := by
  simp only [act] at ha
  have hy := R_ev h y
  split at ha
  · rename_i vs e
    rw [e] at hy
    obtain ⟨r, hr, hx⟩ := Option.map_eq_some_iff.1 ha
    simp only [Prod.mk.injEq] at hx
    obtain ⟨rfl, rfl⟩ := hx
    simp only [R] at hy
    obtain ⟨arr, hv, hrt⟩ := hy
    have key : ∀ (xs : List AV) (us : List Value), Rt (Kof c st w ow τ ob) xs us → ∀ (i : Nat) (r : AV), xs[i]? = some r → ∃ v, us[i]? = some v ∧ R (Kof c st w ow τ ob) r v := by
      intro xs
      induction xs with
      | nil => intro us _ i r hi; simp at hi
      | cons y ys ih =>
        intro us hus i r hi
        simp only [Rt] at hus
        obtain ⟨v, rr, rfl, hv, hrr⟩ := hus
        cases i with
        | zero => simp at hi; subst hi; exact ⟨v, by simp, hv⟩
        | succ i => simpa using ih rr hrr i r (by simpa using hi)
    obtain ⟨v, hv', hR⟩ := key _ _ hrt i r hr
    refine sim_same h (v := v) ?_ hR
    have : arr[i]? = some v := by simpa using hv'
    simp [execOp, hv, Instr.extract, this]
  · cases ha

theorem sim_nilc (h : FR c st a w ow τ ob) {y : Operand} (ha : act Φ d st (.nilc y) = some (x, st')) :
    Sim P c st' x ⟨dst, .nilCheck y, type, pos, after, guard⟩ a w ob := by
  simp only [act] at ha
  have hy := R_ev h y
  split at ha
  · rename_i d' g q e
    rw [e] at hy
    split at ha
    · rename_i hg
      simp only [Option.some.injEq, Prod.mk.injEq] at ha
      obtain ⟨rfl, rfl⟩ := ha
      have hy' := hy
      simp only [R] at hy'
      obtain ⟨hpg, h1, hb⟩ := hy'
      obtain ⟨b, hb', hv⟩ := hb hg
      exact sim_same h (v := a.eval y) (by simp [execOp, hv]) hy
    · cases ha
  · rename_i cs q e
    rw [e] at hy
    simp only [Option.some.injEq, Prod.mk.injEq] at ha
    obtain ⟨rfl, rfl⟩ := ha
    have hy' := hy
    simp only [R] at hy'
    obtain ⟨b, o, hv, _⟩ := hy'
    exact sim_same h (v := a.eval y) (by simp [execOp, hv]) hy
  · cases ha

theorem sim_slen (h : FR c st a w ow τ ob) {t : TypeId} {y : Operand} {args : Array Operand} {argTypes : Array TypeId} (hargs : args.toList = [y]) (htys : argTypes.toList = [t]) (ht : P.underlying t = some .string)
    (ha : act Φ d st (.slen y) = some (x, st')) : Sim P c st' x ⟨dst, .call { callee := .builtin .len, args := args, argTypes := argTypes }, type, pos, after, guard⟩ a w ob := by
  have e1 : args = #[y] := by rw [← Array.toArray_toList (xs := args), hargs]
  have e2 : argTypes = #[t] := by rw [← Array.toArray_toList (xs := argTypes), htys]
  subst e1
  subst e2
  simp only [act] at ha
  have hy := R_ev h y
  split at ha
  · rename_i s e
    rw [e] at hy
    simp only [R] at hy
    simp only [Option.some.injEq, Prod.mk.injEq] at ha
    obtain ⟨rfl, rfl⟩ := ha
    exact sim_same h (v := .int .i64 s.size) (by simp [execOp, resolve, invoke, builtin, Builtin.len_, run_underlying' ht, hy.1, goInt]) (by unfold R; exact ⟨rfl, rfl⟩)
  · cases ha

theorem sim_len (h : FR c st a w ow τ ob) {t e : TypeId} {y : Operand} {args : Array Operand} {argTypes : Array TypeId} (hargs : args.toList = [y]) (htys : argTypes.toList = [t]) (ht : P.underlying t = some (.slice e))
    (ha : act Φ d st (.len y) = some (x, st')) : Sim P c st' x ⟨dst, .call { callee := .builtin .len, args := args, argTypes := argTypes }, type, pos, after, guard⟩ a w ob := by
  have e1 : args = #[y] := by rw [← Array.toArray_toList (xs := args), hargs]
  have e2 : argTypes = #[t] := by rw [← Array.toArray_toList (xs := argTypes), htys]
  subst e1
  subst e2
  simp only [act] at ha
  have hy := R_ev h y
  split at ha
  · rename_i e
    rw [e] at hy
    simp only [R] at hy
    simp only [Option.some.injEq, Prod.mk.injEq] at ha
    obtain ⟨rfl, rfl⟩ := ha
    exact sim_same h (v := .int .i64 0) (by simp [execOp, resolve, invoke, builtin, Builtin.len_, run_underlying' ht, hy.1, goInt]) (by unfold R; exact ⟨rfl, rfl⟩)
  · rename_i sz tok rows e
    rw [e] at hy
    simp only [R] at hy
    obtain ⟨A, z, hv, _⟩ := hy
    simp only [Option.some.injEq, Prod.mk.injEq] at ha
    obtain ⟨rfl, rfl⟩ := ha
    exact sim_same h (v := .int .i64 rows.length) (by simp [execOp, resolve, invoke, builtin, Builtin.len_, run_underlying' ht, hv, goInt]) (by unfold R; exact ⟨rfl, rfl⟩)
  · rename_i d' g sz off n cp e
    rw [e] at hy
    simp only [R] at hy
    obtain ⟨_, A, z, hv, _⟩ := hy
    simp only [Option.some.injEq, Prod.mk.injEq] at ha
    obtain ⟨rfl, rfl⟩ := ha
    exact sim_same h (v := .int .i64 n) (by simp [execOp, resolve, invoke, builtin, Builtin.len_, run_underlying' ht, hv, goInt]) (by unfold R; exact ⟨rfl, rfl⟩)
  · cases ha
end
end Go.Av

namespace Go.Av
variable {σ : Type}
section
variable {P : Program} {T : List Nat} {Φ : Orc} {d : Nat} {c : Cx σ} {st st' : St σ} {x : AV} {a : Act} {w : World} {ow : Nat → Own} {τ : Nat → Nat} {ob : Nat → Value → Prop}
  {dst : Option Nat} {type : TypeId} {pos : String} {after : Array Edge} {guard : Option (Nat × Bool)}

def IsBound (d : Int) (o : Option Value) (n : Int) : Prop := (o = none ∧ n = d) ∨ ∃ k, o = some (.int k n)
theorem bound_of (h : FR c st a w ow τ ob) {e : Int} {o : Option Operand} {n : Int} (hb : boundOf e (o.map st.ev) = some n) : IsBound e (o.map a.eval) n := by
  cases o with
  | none => simp only [Option.map_none, boundOf, Option.some.injEq] at hb; exact .inl ⟨rfl, hb.symm⟩
  | some y =>
    have hy := R_ev h y
    simp only [Option.map_some] at hb ⊢
    unfold boundOf at hb
    split at hb
    · rename_i e'; cases e'
    · rename_i k m e'
      injection e' with e'
      injection hb with hb
      subst hb
      rw [e'] at hy
      simp only [R] at hy
      exact .inr ⟨k, by rw [hy.1]⟩
    · cases hb
theorem run_sliceBound' {k : IntKind} {i : Int} {y : Nat} {code : BoundsCode} (h0 : 0 ≤ i) (h1 : i ≤ y) (w : World) : (Instr.sliceBound (.int k i) y code).run P w = .ok i.toNat w := by
  simp [Instr.sliceBound, run_asIntOf', h0, h1]
theorem run_sliceBounds' {s : Bool} {len cap : Nat} {lo hi : Option Value} {l h : Int} (hl : IsBound 0 lo l) (hh : IsBound len hi h) (h0 : 0 ≤ l) (h1 : l ≤ h) (h2 : h ≤ cap) (w : World) :
    (Instr.sliceBounds s len cap lo hi none).run P w = .ok (l.toNat, h.toNat, cap) w := by
  have e1 : ((h.toNat : Nat) : Int) = h := Int.toNat_of_nonneg (by omega)
  rcases hh with ⟨rfl, rfl⟩ | ⟨k, rfl⟩
  · rcases hl with ⟨rfl, rfl⟩ | ⟨k', rfl⟩
    · simp [Instr.sliceBounds]
    · simp [Instr.sliceBounds, run_sliceBound' (P := P) h0 h1 w]
  · rcases hl with ⟨rfl, rfl⟩ | ⟨k', rfl⟩
    · simp [Instr.sliceBounds, run_sliceBound' (P := P) (k := k) (i := h) (y := cap) (by omega) h2 w]
    · simp [Instr.sliceBounds, run_sliceBound' (P := P) (k := k) (i := h) (y := cap) (by omega) h2 w, run_sliceBound' (P := P) (k := k') (i := l) (y := h.toNat) h0 (by omega) w]
theorem run_sliceBounds3 {s : Bool} {len cap : Nat} {lo hi : Option Value} {l h m : Int} {q : IntKind} (hl : IsBound 0 lo l) (hh : ∃ k, hi = some (.int k h)) (h0 : 0 ≤ l) (h1 : l ≤ h) (h2 : h ≤ m) (h3 : m ≤ cap) (w : World) :
    (Instr.sliceBounds s len cap lo hi (some (.int q m))).run P w = .ok (l.toNat, h.toNat, m.toNat) w := by
  obtain ⟨k, rfl⟩ := hh
  rcases hl with ⟨rfl, rfl⟩ | ⟨k', rfl⟩
  · simp [Instr.sliceBounds, run_sliceBound' (P := P) (k := q) (i := m) (y := cap) (by omega) h3 w, run_sliceBound' (P := P) (k := k) (i := h) (y := m.toNat) (by omega) (by omega) w]
  · simp [Instr.sliceBounds, run_sliceBound' (P := P) (k := q) (i := m) (y := cap) (by omega) h3 w, run_sliceBound' (P := P) (k := k) (i := h) (y := m.toNat) (by omega) (by omega) w, run_sliceBound' (P := P) (k := k') (i := l) (y := h.toNat) h0 (by omega) w]

/-- A cut of a slice. -/
theorem R_cut {k : K} {sz : Nat} {tok tok' : Tok} {rows : List (List AV)} {A : Option Addr} {z : Nat} (hv : R k (.sl sz tok rows) (.slice A rows.length z)) {l h m : Nat} (h1 : l ≤ h) (h2 : h ≤ rows.length) (h3 : h ≤ m) (h4 : m ≤ z) (ht : tok' = .ro ∨ tok' = .full ∧ m = h) :
    R k (.sl sz tok' ((rows.take h).drop l)) (.slice (if m = l then A else A.map (·.add (l * sz))) (h - l) (m - l)) := by
  simp only [R] at hv ⊢
  obtain ⟨A', z', e, hl, hm, hr, _⟩ := hv
  injection e with e1 e2 e3
  subst e1; subst e3
  have hlen : ((rows.take h).drop l).length = h - l := by simp; omega
  refine ⟨_, _, by rw [hlen], by omega, by omega, fun hne => ?_, ?_⟩
  · have hlt : l < h := by
      rcases Nat.lt_or_ge l h with hlt | hge
      · exact hlt
      · exact absurd (List.eq_nil_of_length_eq_zero (by omega)) hne
    obtain ⟨b, o, rfl, hrows⟩ := hr (by rintro rfl; simp at h2; omega)
    refine ⟨b, o + l * sz, by rw [if_neg (by omega)]; simp [addr_add], ?_⟩
    exact rowsAt_drop l (by simp; omega) (rowsAt_take h hrows)
  · rcases ht with rfl | ⟨rfl, rfl⟩
    · trivial
    · exact hlen.symm

theorem shape_le {q : Option Obj} {z z' : Nat} (h : shapeOk (some z) q) (hz : z' ≤ z) : shapeOk (some z') q := by
  cases q with
  | none => exact h
  | some obj => cases obj with
    | cells cs T fr => exact ⟨h.1, Nat.le_trans hz h.2⟩
    | _ => exact h
/-- A cut of a variable's slice. -/
theorem R_cutv {d g sz off n : Nat} {cp cp' : Option Nat} {A : Option Addr} {z : Nat} (hv : R (Kof c st w ow τ ob) (.vsl d g sz off n cp) (.slice A n z)) {l h m : Nat} (h1 : l ≤ h) (h3 : h ≤ m) (h4 : m ≤ z) (hcp : ∀ c', cp' = some c' → c' = m - l) :
    R (Kof c st w ow τ ob) (.vsl d g sz (off + l * sz) (h - l) cp') (.slice (if m = l then A else A.map (·.add (l * sz))) (h - l) (m - l)) := by
  simp only [R] at hv ⊢
  obtain ⟨hpg, A', z', e, _, hm, _, hb⟩ := hv
  injection e with e1 e2 e3
  subst e1; subst e3
  refine ⟨hpg, _, _, rfl, by omega, by omega, hcp, fun hq => ?_⟩
  obtain ⟨b, o, ⟨hvb1, hvb2, hvb3⟩, rfl, ho⟩ := hb hq
  have hle : off + l * sz + (m - l) * sz ≤ off + z * sz := by
    have : l * sz + (m - l) * sz = m * sz := by rw [← Nat.add_mul]; congr 1; omega
    have := Nat.mul_le_mul_right sz h4
    omega
  by_cases hml : m = l
  · rw [if_pos hml]
    exact ⟨b, o, ⟨hvb1, hvb2, shape_le hvb3 hle⟩, rfl, fun hpos => by omega⟩
  · rw [if_neg hml]
    refine ⟨b, o + l * sz, ⟨hvb1, hvb2, shape_le hvb3 hle⟩, by simp [addr_add], fun _ => by rw [ho (by omega)]⟩
theorem sl_value {k : K} {sz : Nat} {tok : Tok} {rows : List (List AV)} {v : Value} (h : R k (.sl sz tok rows) v) : ∃ A z, v = .slice A rows.length z ∧ rows.length ≤ z ∧ (tok = .full → z = rows.length) := by
  simp only [R] at h
  obtain ⟨A, z, e, hl, _, _, ht⟩ := h
  exact ⟨A, z, e, hl, fun e => by subst e; exact ht⟩

theorem sim_slc (h : FR c st a w ow τ ob) {t e : TypeId} {y : Operand} {lo hi mx : Option Operand} {ie : TypeInfo} (ht : P.underlying t = some (.slice e)) (hi' : P.info? e = some ie) (ha : act Φ d st (.slc ie.size y lo hi mx) = some (x, st')) :
    Sim P c st' x ⟨dst, .slice t y lo hi mx, type, pos, after, guard⟩ a w ob := by
  simp only [act] at ha
  split at ha
  · rename_i d' g sz' off n cp e1
    have hy := R_ev h y
    rw [vslOf_eq e1] at hy
    have hy' := hy
    simp only [R] at hy'
    obtain ⟨_, A, z, hv, hnz, hzm, hcp, _⟩ := hy'
    have hcz : (cp.getD n : Nat) ≤ z := by
      cases cp with
      | none => exact hnz
      | some c' => exact Nat.le_of_eq (hcp c' rfl)
    rw [hv] at hy
    split at ha
    · rename_i l hh e2 e3 e4
      have hmx : mx = none := by cases mx with | none => rfl | some _ => simp at e4
      subst hmx
      have b1 := bound_of h e2
      have b2 := bound_of h e3
      split at ha
      · rename_i hc
        obtain ⟨rfl, h0, h1, h2⟩ := hc
        simp only [Option.some.injEq, Prod.mk.injEq] at ha
        obtain ⟨rfl, rfl⟩ := ha
        have hcut := R_cutv hy (cp' := cp.map (· - l.toNat)) (l := l.toNat) (h := hh.toNat) (m := z) (by omega) (by omega) (Nat.le_refl _) (fun c' hc' => by
          cases cp with
          | none => simp at hc'
          | some c0 => simp at hc'; have := hcp c0 rfl; omega)
        rw [show (hh - l).toNat = hh.toNat - l.toNat by omega]
        refine sim_same h ?_ hcut
        have hb := run_sliceBounds' (P := P) (s := true) (len := n) (cap := z) b1 b2 h0 h1 (by omega) w
        simp [execOp, Instr.sliceAt, run_underlying' ht, Instr.slice, hv, hb, run_sizeOf' hi']
      · cases ha
    · rename_i l hh q m e2 e3 e4
      obtain ⟨mo, rfl⟩ : ∃ mo, mx = some mo := by cases mx with | none => simp at e4 | some mo => exact ⟨mo, rfl⟩
      have b1 := bound_of h e2
      have b2 := bound_of h e3
      have hm := R_ev h mo
      simp only [Option.map_some, Option.some.injEq] at e4
      rw [e4] at hm
      simp only [R] at hm
      split at ha
      · rename_i hc
        obtain ⟨rfl, h0, h1, h2, h3, h5⟩ := hc
        simp only [Option.some.injEq, Prod.mk.injEq] at ha
        obtain ⟨rfl, rfl⟩ := ha
        have hcut := R_cutv hy (cp' := some (m - l).toNat) (l := l.toNat) (h := hh.toNat) (m := m.toNat) (by omega) (by omega) (by omega) (fun c' hc' => by simp at hc'; omega)
        rw [show (hh - l).toNat = hh.toNat - l.toNat by omega]
        have hhi : ∃ k, hi.map a.eval = some (.int k hh) := by
          rcases b2 with ⟨e5, _⟩ | b2
          · cases hi with
            | none => simp at h5
            | some _ => simp at e5
          · exact b2
        refine sim_same h ?_ hcut
        have hb := run_sliceBounds3 (P := P) (s := true) (len := n) (cap := z) (q := q) b1 hhi h0 h1 h2 (by omega) w
        simp [execOp, Instr.sliceAt, run_underlying' ht, Instr.slice, hv, hm.1, hb, run_sizeOf' hi']
      · cases ha
    · cases ha
  · rename_i tok rows _ e1
    have hy := R_asSl (R_ev h y) e1
    obtain ⟨A, z, hv, hz, hfull⟩ := sl_value hy
    rw [hv] at hy
    split at ha
    · rename_i l hh e2 e3 e4
      have hmx : mx = none := by cases mx with | none => rfl | some _ => simp at e4
      subst hmx
      have b1 := bound_of h e2
      have b2 := bound_of h e3
      split at ha
      · rename_i hc
        obtain ⟨h0, h1, h2⟩ := hc
        simp only [Option.some.injEq, Prod.mk.injEq] at ha
        obtain ⟨rfl, rfl⟩ := ha
        have hcut := R_cut hy (tok' := slcTok hi tok) (l := l.toNat) (h := hh.toNat) (m := z) (by omega) (by omega) (by omega) (Nat.le_refl _) (by
          cases hi with
          | none =>
            cases tok with
            | full =>
              right
              refine ⟨rfl, ?_⟩
              have := hfull rfl
              simp only [Option.map_none, boundOf, Option.some.injEq] at e3
              omega
            | _ => left; rfl
          | some _ => left; rfl)
        refine sim_same h ?_ hcut
        have hb := run_sliceBounds' (P := P) (s := true) (len := rows.length) (cap := z) b1 b2 h0 h1 (by omega) w
        simp [execOp, Instr.sliceAt, run_underlying' ht, Instr.slice, hv, hb, run_sizeOf' hi']
      · cases ha
    · rename_i l hh q m e2 e3 e4
      obtain ⟨mo, rfl⟩ : ∃ mo, mx = some mo := by cases mx with | none => simp at e4 | some mo => exact ⟨mo, rfl⟩
      have b1 := bound_of h e2
      have b2 := bound_of h e3
      have hm := R_ev h mo
      simp only [Option.map_some, Option.some.injEq] at e4
      rw [e4] at hm
      simp only [R] at hm
      split at ha
      · rename_i hc
        obtain ⟨h0, h1, h2, h3, h5⟩ := hc
        simp only [Option.some.injEq, Prod.mk.injEq] at ha
        obtain ⟨rfl, rfl⟩ := ha
        subst h3
        have hcut := R_cut hy (tok' := .full) (l := l.toNat) (h := m.toNat) (m := m.toNat) (by omega) (by omega) (by omega) (by omega) (.inr ⟨rfl, rfl⟩)
        have hhi : ∃ k, hi.map a.eval = some (.int k m) := by
          rcases b2 with ⟨e5, _⟩ | b2
          · cases hi with
            | none => simp at h5
            | some _ => simp at e5
          · exact b2
        refine sim_same h ?_ hcut
        have hb := run_sliceBounds3 (P := P) (s := true) (len := rows.length) (cap := z) (q := q) b1 hhi h0 h1 (Int.le_refl _) (by omega) w
        simp [execOp, Instr.sliceAt, run_underlying' ht, Instr.slice, hv, hm.1, hb, run_sizeOf' hi']
      · cases ha
    · cases ha
  · cases ha

theorem sim_sslc (h : FR c st a w ow τ ob) {t : TypeId} {y : Operand} {lo hi : Option Operand} (ht : P.underlying t = some .string) (ha : act Φ d st (.sslc y lo hi) = some (x, st')) :
    Sim P c st' x ⟨dst, .slice t y lo hi none, type, pos, after, guard⟩ a w ob := by
  simp only [act] at ha
  have hy := R_ev h y
  split at ha
  · rename_i s e1
    rw [e1] at hy
    simp only [R] at hy
    split at ha
    · rename_i l hh e2 e3
      have b1 := bound_of h e2
      have b2 := bound_of h e3
      split at ha
      · rename_i hc
        obtain ⟨h0, h1, h2⟩ := hc
        simp only [Option.some.injEq, Prod.mk.injEq] at ha
        obtain ⟨rfl, rfl⟩ := ha
        refine sim_same h (v := .string (s.extract l.toNat hh.toNat)) ?_ (by unfold R; exact ⟨rfl, rfl⟩)
        have hb := run_sliceBounds' (P := P) (s := false) (len := s.size) (cap := s.size) b1 b2 h0 h1 h2 w
        simp [execOp, Instr.sliceAt, run_underlying' ht, Instr.slice, hy.1, hb]
      · cases ha
    · cases ha
  · cases ha
end
end Go.Av

namespace Go.Av
variable {σ : Type}

theorem splice_cons (l : List Value) (off : Nat) (v : Value) (rest : List Value) (h : off + (rest.length + 1) ≤ l.length) : splice (l.set off v) (off + 1) rest = splice l off (v :: rest) := by
  unfold splice
  exact list_seg_step l off v rest h
theorem foldl_set (vs : List Value) : ∀ (i : Nat) (off : Nat) (cells : Array Value), off + i + vs.length ≤ cells.size → ((vs.zipIdx i).foldl (fun cs (x : Value × Nat) => cs.setIfInBounds (off + x.2) x.1) cells) = (splice cells.toList (off + i) vs).toArray := by
  induction vs with
  | nil => intro i off cells _; simp [splice]
  | cons v vs ih =>
    intro i off cells hl
    simp only [List.zipIdx_cons, List.foldl_cons]
    rw [ih (i + 1) off _ (by simp at hl ⊢; omega)]
    congr 1
    rw [Array.toList_setIfInBounds, ← Nat.add_assoc]
    exact splice_cons _ _ _ _ (by simp at hl ⊢; omega)
theorem fill_step (v : Value) (off : Nat) (cells : Array Value) (h : off + v.cells.size ≤ cells.size) : v.cells.zipIdx.foldl (fun cs (x : Value × Nat) => cs.setIfInBounds (off + x.2) x.1) cells = (splice cells.toList off v.cells.toList).toArray := by
  rw [← Array.foldl_toList, Array.toList_zipIdx]
  have := foldl_set v.cells.toList 0 off cells (by simpa using h)
  simpa using this

/-- Parts laid into cells. -/
theorem fill_of {k : K} (place : Nat → Option (Nat × Nat)) : ∀ (ps : List (Nat × Value)) (qs : List (Nat × Nat × AV)) (z : List AV) (cells : Array Value) (out : List AV),
    ps.length = qs.length → (∀ (j : Nat) (p : Nat × Value) (q : Nat × Nat × AV), ps[j]? = some p → qs[j]? = some q → place p.1 = some (q.1, q.2.1) ∧ R k q.2.2 p.2) → Rs k z cells.toList → fills z qs = some out → ∃ cells', Instr.fill place cells ps = some cells' ∧ Rs k out cells'.toList
  | [], qs, z, cells, out, hl, hq, hz, ho => by
    have : qs = [] := List.eq_nil_of_length_eq_zero (by simpa using hl.symm)
    subst this
    simp only [fills, Option.some.injEq] at ho
    subst ho
    exact ⟨cells, rfl, hz⟩
  | (i, v) :: ps, [], z, cells, out, hl, hq, hz, ho => by simp at hl
  | (i, v) :: ps, (off, n, x) :: qs, z, cells, out, hl, hq, hz, ho => by
    obtain ⟨hp, hR⟩ := hq 0 (i, v) (off, n, x) rfl rfl
    simp only [fills] at ho
    split at ho
    · rename_i cs hcs
      split at ho
      · rename_i hc
        obtain ⟨h1, h2⟩ := hc
        have hv : Rs k cs v.cells.toList := R_cells hR hcs
        have hsz := toList_of_Rs hv
        have hlen := Rs_length hz
        have hfit : off + v.cells.size ≤ cells.size := by simp at hlen; omega
        obtain ⟨cells', h3, h4⟩ := fill_of place ps qs (splice z off cs) ((splice cells.toList off v.cells.toList).toArray) out (by simpa using hl) (fun j p q hj hj' => hq (j + 1) p q (by simpa using hj) (by simpa using hj')) (by simpa using Rs_splice off hz hv) ho
        refine ⟨cells', ?_, h4⟩
        unfold Instr.fill
        simp only [hp]
        have hno : ¬ ((decide (v.cells.size ≠ n) || decide (off + v.cells.size > cells.size)) = true) := by simp; omega
        rw [if_neg hno, fill_step v off cells hfit]
        exact h3
      · cases ho
    · cases ho

section
variable {P : Program}
theorem run_mapM_list {α β : Type} (f : α → Sem β) (g : α → β) (w : World) : ∀ l : List α, (∀ x ∈ l, (f x).run P w = .ok (g x) w) → (l.mapM f).run P w = .ok (l.map g) w
  | [], _ => by simp
  | x :: l, h => by
    simp only [List.mapM_cons, Sem.run_bind, h x (by simp), Result.andThen_ok, run_mapM_list f g w l (fun y hy => h y (by simp [hy])), Sem.run_pure, List.map_cons]
theorem run_mapM_array {α β : Type} (f : α → Sem β) (g : α → β) (w : World) (xs : Array α) (h : ∀ x ∈ xs.toList, (f x).run P w = .ok (g x) w) : (xs.mapM f).run P w = .ok (xs.map g) w := by
  rw [Array.mapM_eq_mapM_toList]
  simp only [Sem.run_map, run_mapM_list f g w xs.toList h, Result.andThen_ok]
  congr 1
  apply Array.ext'
  simp
end

section
variable {P : Program} {T : List Nat} {Φ : Orc} {d : Nat} {c : Cx σ} {st st' : St σ} {x : AV} {a : Act} {w : World} {ow : Nat → Own} {τ : Nat → Nat} {ob : Nat → Value → Prop}
  {dst : Option Nat} {type : TypeId} {pos : String} {after : Array Edge} {guard : Option (Nat × Bool)}

theorem partsOf_get {fs : Array Field} : ∀ {ps : List (Nat × Operand)} {qs : List (Nat × Nat × Operand)}, partsOf P fs ps = some qs → qs.length = ps.length ∧ ∀ (j : Nat) (p : Nat × Operand) (q : Nat × Nat × Operand), ps[j]? = some p → qs[j]? = some q → ∃ (f : Field) (i : TypeInfo), fs[p.1]? = some f ∧ P.info? f.type = some i ∧ q.1 = f.offset ∧ q.2.1 = i.size ∧ q.2.2 = p.2
  | [], qs, h => by simp only [partsOf, Option.some.injEq] at h; subst h; exact ⟨rfl, fun j p q hp => by simp at hp⟩
  | (i, y) :: ps, qs, h => by
    simp only [partsOf] at h
    split at h
    · rename_i f hf
      split at h
      · rename_i t r ht hr
        injection h with h
        subst h
        obtain ⟨hl, hg⟩ := partsOf_get hr
        refine ⟨by simp [hl], fun j p q hp hq => ?_⟩
        cases j with
        | zero => simp at hp hq; subst hp; subst hq; exact ⟨f, t, hf, ht, rfl, rfl, rfl⟩
        | succ j => exact hg j p q (by simpa using hp) (by simpa using hq)
      · cases h
    · cases h

theorem sim_build (h : FR c st a w ow τ ob) {t : TypeId} {parts : Array (Nat × Operand)} {i : TypeInfo} {fs : Array Field} {z : Value} {qs : List (Nat × Nat × Operand)} (hi : P.info? t = some i) (hu : P.underlying t = some (.struct fs)) (hz : i.zero = some z)
    (h1 : z.cells.toList.all (·.oneCell') = true) (hfs : fs.toList.all (fun f => (P.info? f.type).isSome) = true) (hq : partsOf P fs parts.toList = some qs) (ha : act Φ d st (.build z.cells.toList qs) = some (x, st')) :
    Sim P c st' x ⟨dst, .build t parts, type, pos, after, guard⟩ a w ob := by
  simp only [act] at ha
  split at ha
  · rename_i cs e
    simp only [Option.some.injEq, Prod.mk.injEq] at ha
    obtain ⟨rfl, rfl⟩ := ha
    obtain ⟨hl, hg⟩ := partsOf_get hq
    let sizes : Field → Nat × Nat := fun f => (f.offset, ((P.info? f.type).map (·.size)).getD 0)
    have hmap : (fs.mapM (fun f => do pure (f.offset, ← sizeOf f.type) : Field → Sem (Nat × Nat))).run P w = .ok (fs.map sizes) w := by
      refine run_mapM_array _ sizes w fs fun f hf => ?_
      have := List.all_eq_true.1 hfs f hf
      obtain ⟨i', hi'⟩ := Option.isSome_iff_exists.1 this
      simp [run_sizeOf' hi', sizes, hi']
    obtain ⟨cells', hf, hr⟩ := fill_of (k := Kof c st w ow τ ob) ((fs.map sizes)[·]?) (parts.toList.map fun p => (p.1, a.eval p.2)) (qs.map fun p => (p.1, p.2.1, st.ev p.2.2)) (z.cells.toList.map .imm) z.cells cs (by simp [hl])
      (fun j p q hp hq' => by
        rw [List.getElem?_map] at hp hq'
        obtain ⟨p', hp', rfl⟩ := Option.map_eq_some_iff.1 hp
        obtain ⟨q', hq'', rfl⟩ := Option.map_eq_some_iff.1 hq'
        obtain ⟨f, i', hf, hi', e1, e2, e3⟩ := hg j p' q' hp' hq''
        refine ⟨?_, by rw [e3]; exact R_ev h p'.2⟩
        simp [hf, sizes, hi', e1, e2])
      (Rs_imm (List.all_eq_true.1 h1)) e
    refine sim_same h (v := .agg cells') ?_ (by unfold R; exact ⟨cells', rfl, hr⟩)
    have hparts : (parts.map fun x => (x.1, a.eval x.2)).toList = parts.toList.map fun p => (p.1, a.eval p.2) := by simp
    simp only [execOp, Instr.build, Sem.run_bind, run_zeroValue' hi hz, Result.andThen_ok, run_underlying' hu, hmap, hparts, hf, Sem.run_pure]
  · cases ha

theorem sim_builda (h : FR c st a w ow τ ob) {t e : TypeId} {parts : Array (Nat × Operand)} {i ie : TypeInfo} {n : Nat} {z : Value} (hi : P.info? t = some i) (hu : P.underlying t = some (.array n e)) (hz : i.zero = some z) (he : P.info? e = some ie)
    (h1 : z.cells.toList.all (·.oneCell') = true) (ha : act Φ d st (.build z.cells.toList (parts.toList.map fun p => (p.1 * ie.size, ie.size, p.2))) = some (x, st')) :
    Sim P c st' x ⟨dst, .build t parts, type, pos, after, guard⟩ a w ob := by
  simp only [act] at ha
  split at ha
  · rename_i cs e'
    simp only [Option.some.injEq, Prod.mk.injEq] at ha
    obtain ⟨rfl, rfl⟩ := ha
    obtain ⟨cells', hf, hr⟩ := fill_of (k := Kof c st w ow τ ob) (fun i => some (i * ie.size, ie.size)) (parts.toList.map fun p => (p.1, a.eval p.2)) ((parts.toList.map fun p => (p.1 * ie.size, ie.size, p.2)).map fun p => (p.1, p.2.1, st.ev p.2.2)) (z.cells.toList.map .imm) z.cells cs (by simp)
      (fun j p q hp hq' => by
        rw [List.getElem?_map] at hp hq'
        rw [List.getElem?_map] at hq'
        obtain ⟨p', hp', rfl⟩ := Option.map_eq_some_iff.1 hp
        rw [hp'] at hq'
        simp only [Option.map_some, Option.some.injEq] at hq'
        subst hq'
        exact ⟨rfl, R_ev h p'.2⟩)
      (Rs_imm (List.all_eq_true.1 h1)) e'
    refine sim_same h (v := .agg cells') ?_ (by unfold R; exact ⟨cells', rfl, hr⟩)
    have hparts : (parts.map fun x => (x.1, a.eval x.2)).toList = parts.toList.map fun p => (p.1, a.eval p.2) := by simp
    simp only [execOp, Instr.build, Sem.run_bind, run_zeroValue' hi hz, Result.andThen_ok, run_underlying' hu, run_sizeOf' he, hparts, hf, Sem.run_pure]
  · cases ha

/-- Elements laid one behind the other. -/
theorem fill_rows (sz : Nat) : ∀ (vs : List Value) (i : Nat) (pre : List Value) (cells : Array Value), (∀ v ∈ vs, v.cells.size = sz) → pre.length = i * sz → cells.size = (i + vs.length) * sz → cells.toList.take (i * sz) = pre →
    Instr.fill (fun i => some (i * sz, sz)) cells ((List.range' i vs.length).zip vs) = some (pre ++ (vs.flatMap fun v => v.cells.toList)).toArray
  | [], i, pre, cells, hv, hp, hc, ht => by
    simp only [List.length_nil, List.range'_zero, List.zip_nil_left, Instr.fill, List.flatMap_nil, List.append_nil]
    rw [← ht, List.take_of_length_le (by simp at hc ⊢; omega)]
  | v :: vs, i, pre, cells, hv, hp, hc, ht => by
    have h0 := hv v (by simp)
    simp only [List.length_cons, List.range'_succ, List.zip_cons_cons]
    unfold Instr.fill
    have e : (i + (vs.length + 1)) * sz = i * sz + sz + vs.length * sz := by rw [Nat.add_mul, Nat.add_mul]; omega
    have hcs : cells.size = i * sz + sz + vs.length * sz := by rw [hc, List.length_cons, e]
    have hno : ¬ ((decide (v.cells.size ≠ sz) || decide (i * sz + v.cells.size > cells.size)) = true) := by simp; omega
    simp only [if_neg hno]
    rw [fill_step v (i * sz) cells (by omega)]
    have hs : (splice cells.toList (i * sz) v.cells.toList).take ((i + 1) * sz) = pre ++ v.cells.toList := by
      unfold splice
      rw [ht, List.take_append_of_le_length (by simp [hp, h0, Nat.add_mul]), List.take_of_length_le (by simp [hp, h0, Nat.add_mul])]
    have hl : (splice cells.toList (i * sz) v.cells.toList).length = cells.size := by rw [splice_length _ _ _ (by simp; omega)]; simp
    rw [fill_rows sz vs (i + 1) (pre ++ v.cells.toList) _ (fun u hu => hv u (by simp [hu])) (by simp [hp, h0, Nat.add_mul]) (by simp only [List.size_toArray]; rw [hl, hcs, Nat.add_mul, Nat.add_mul]; omega) (by simpa using hs)]
    simp

theorem rowsOf_get {k : K} {sz : Nat} : ∀ {xs : List AV} {rows : List (List AV)} {vs : List Value}, rowsOf xs = some rows → xs.length = vs.length → (∀ (j : Nat) (x : AV) (v : Value), xs[j]? = some x → vs[j]? = some v → R k x v) → (∀ r ∈ rows, r.length = sz) →
    rows.length = xs.length ∧ (∀ v ∈ vs, v.cells.size = sz) ∧ Rs k.pure rows.flatten (vs.flatMap fun v => v.cells.toList)
  | [], rows, vs, h, hl, hr, hs => by
    simp only [rowsOf, Option.some.injEq] at h
    subst h
    have : vs = [] := List.eq_nil_of_length_eq_zero (by simpa using hl.symm)
    subst this
    simp [Rs]
  | x :: xs, rows, [], h, hl, hr, hs => by simp at hl
  | x :: xs, rows, v :: vs, h, hl, hr, hs => by
    simp only [rowsOf] at h
    split at h
    · rename_i r rs h1 h2
      injection h with h
      subst h
      have hx := hr 0 x v rfl rfl
      unfold pureCells at h1
      split at h1
      · rename_i cs hcs
        split at h1
        · rename_i hp
          injection h1 with h1
          subst h1
          have hv := R_cells hx hcs
          have hweak : ∀ (xs : List AV) (us : List Value), Rs k xs us → Rs k (xs.map AV.weak) us := by
            intro xs
            induction xs with
            | nil => intro us h; simpa [Rs] using h
            | cons y ys ih =>
              intro us h
              simp only [Rs, List.map_cons] at h ⊢
              obtain ⟨u, r, e, hy, ho, hrr⟩ := h
              exact ⟨u, r, e, R_weak hy, ho, ih r hrr⟩
          have hv' := Rs_pure _ _ hp (hweak _ _ hv)
          obtain ⟨e1, e2, e3⟩ := rowsOf_get (k := k) (sz := sz) h2 (by simpa using hl) (fun j y u hj hj' => hr (j + 1) y u (by simpa using hj) (by simpa using hj')) (fun r hr => hs r (by simp [hr]))
          refine ⟨by simp [e1], fun u hu => ?_, ?_⟩
          · rcases List.mem_cons.1 hu with rfl | hu
            · have := toList_of_Rs hv
              have h3 := hs (cs.map AV.weak) (by simp)
              simp at h3
              omega
            · exact e2 u hu
          · simpa using Rs_append hv' e3
        · cases h1
      · cases h1
    · cases h

theorem sim_bsl (h : FR c st a w ow τ ob) {t e : TypeId} {len : Nat} {parts : Array (Nat × Operand)} {i : TypeInfo} {z : Value} (hu : P.underlying t = some (.slice e)) (hi : P.info? e = some i) (hcap : len * i.size ≤ 2 ^ 24) (hidx : parts.toList.map (·.1) = List.range len) (hsz : 0 < i.size)
    (hz : i.zero = some z) (hzs : z.cells.size = i.size) (ha : act Φ d st (.bsl i.size (parts.toList.map (·.2))) = some (x, st')) :
    Sim P c st' x ⟨dst, .buildSlice t len parts, type, pos, after, guard⟩ a w ob := by
  simp only [act] at ha
  split at ha
  · rename_i rows e1
    split at ha
    · rename_i hall
      simp only [Option.some.injEq, Prod.mk.injEq] at ha
      obtain ⟨rfl, rfl⟩ := ha
      have hrows : ∀ r ∈ rows, r.length = i.size := fun r hr => by simpa using List.all_eq_true.1 hall r hr
      have hplen : parts.toList.length = len := by
        have := congrArg List.length hidx
        simpa using this
      let vs : List Value := parts.toList.map fun p => a.eval p.2
      have hvl : vs.length = len := by simp [vs, ← hplen]
      obtain ⟨k1, k2, k3⟩ := rowsOf_get (k := Kof c st w ow τ ob) (sz := i.size) (vs := vs) e1 (by simp [vs]) (fun j y v hj hj' => by
        simp only [vs, List.map_map, List.getElem?_map] at hj hj'
        obtain ⟨p, hp, rfl⟩ := Option.map_eq_some_iff.1 hj
        rw [hp] at hj'
        simp only [Option.map_some, Option.some.injEq] at hj'
        subst hj'
        exact R_ev h p.2) hrows
      have hrl : rows.length = len := by rw [k1]; simp [← hplen]
      let cells0 : Array Value := if len * i.size = 0 then #[] else (Array.range (len * i.size)).map ((if len * i.size = 0 then #[] else z.cells)[· % (if len * i.size = 0 then (#[] : Array Value) else z.cells).size]!)
      have hfill : ∀ cells : Array Value, cells.size = len * i.size → Instr.fill (fun j => some (j * i.size, i.size)) cells (parts.toList.map fun p => (p.1, a.eval p.2)) = some (vs.flatMap fun v => v.cells.toList).toArray := by
        intro cells hc
        have hzip : (parts.toList.map fun p => (p.1, a.eval p.2)) = (List.range' 0 vs.length).zip vs := by
          rw [hvl, ← List.range_eq_range', ← hidx, List.zip_map']
        rw [hzip]
        have := fill_rows i.size vs 0 [] cells k2 (by simp) (by rw [hc, Nat.zero_add, hvl]) (by simp)
        simpa using this
      obtain ⟨h1, hk⟩ := h.newBlk .imm (by simp) (by simp) (.cells (vs.flatMap fun v => v.cells.toList).toArray e) 0 (st' := st) rfl rfl rfl rfl (fun _ => Nat.le_refl _) (fun _ _ _ h => h)
      intro K Q hK
      refine wp_value (v := .slice (some ⟨w.heap.size, 0, none⟩) len len) (w' := w.alloc (.cells (vs.flatMap fun v => v.cells.toList).toArray e)) ?_ (hK _ _ _ _ h1 ?_)
      · have hparts : (parts.map fun x => (x.1, a.eval x.2)).toList = parts.toList.map fun p => (p.1, a.eval p.2) := by simp
        have hno : ¬ (len * i.size > 2 ^ 24) := by omega
        simp only [execOp, Instr.buildSlice, Sem.run_bind, run_underlying' hu, Result.andThen_ok, run_sizeOf' hi, if_neg hno, Sem.run_pure, hparts]
        by_cases h0 : len * i.size = 0
        · simp only [if_pos h0, Sem.run_bind, Sem.run_pure, Result.andThen_ok]
          rw [hfill _ (by simp)]
          simp [newRow]
        · simp only [if_neg h0, Sem.run_bind, run_zeroValue' hi hz, Sem.run_pure, Result.andThen_ok]
          rw [hfill _ (by simp)]
          simp [newRow]
      · unfold R
        refine ⟨_, len, by rw [hrl], by omega, ?_, fun _ => ⟨w.heap.size, 0, rfl, ?_⟩, hrl.symm⟩
        · have : len ≤ len * i.size := Nat.le_mul_of_pos_right _ hsz
          unfold maxLen
          omega
        · refine rowsAt_of (Rs_mono hk.pure _ _ k3) hrows fun j v hj => ?_
          refine ⟨rfl, ?_, .inr ⟨h.base, .inl (upd_same _ _ _)⟩⟩
          rw [Nat.zero_add, cell_of_heap heap_alloc_self]
          simpa using hj
    · cases ha
  · cases ha
end
end Go.Av

namespace Go.Av
variable {σ : Type}

theorem eqCells_split : ∀ {k1 k2 : List Nat} {xs ys : List AV} {r : Bool}, eqCells (k1 ++ k2) xs ys = some r → ∃ r1 r2, eqCells k1 (xs.take k1.length) (ys.take k1.length) = some r1 ∧ eqCells k2 (xs.drop k1.length) (ys.drop k1.length) = some r2 ∧ r = (r1 && r2)
  | [], k2, xs, ys, r, h => ⟨true, r, by simp [eqCells], by simpa using h, by simp⟩
  | k :: k1, k2, [], ys, r, h => by simp [eqCells] at h
  | k :: k1, k2, x :: xs, [], r, h => by simp [eqCells] at h
  | k :: k1, k2, x :: xs, y :: ys, r, h => by
    simp only [List.cons_append, eqCells] at h
    split at h
    · rename_i a b h1 h2
      injection h with h
      subst h
      obtain ⟨r1, r2, e1, e2, e3⟩ := eqCells_split h2
      refine ⟨a && r1, r2, ?_, by simpa using e2, by rw [e3, Bool.and_assoc]⟩
      simp [eqCells, h1, e1]
    · cases h

theorem eqCell0 {x y : AV} {r : Bool} (h : eqCell 0 x y = some r) : ∃ a b, x = .imm (.bool a) ∧ y = .imm (.bool b) ∧ r = (a == b) := by
  unfold eqCell at h
  split at h <;> first
    | (injection h with h; exact ⟨_, _, rfl, rfl, h.symm⟩)
    | simp_all
theorem eqCell1 {x y : AV} {r : Bool} (h : eqCell 1 x y = some r) : ∃ k a b, x = .imm (.int k a) ∧ y = .imm (.int k b) ∧ r = (a == b) := by
  unfold eqCell at h
  split at h <;> first
    | (split at h
       · rename_i e; subst e; injection h with h; exact ⟨_, _, _, rfl, rfl, h.symm⟩
       · cases h)
    | simp_all
theorem eqCell2 {x y : AV} {r : Bool} (h : eqCell 2 x y = some r) : ∃ a b, x = .imm (.string a) ∧ y = .imm (.string b) ∧ r = (a.toList == b.toList) := by
  unfold eqCell at h
  split at h <;> first
    | (injection h with h; exact ⟨_, _, rfl, rfl, h.symm⟩)
    | simp_all
section
variable {P : Program}
theorem eqKinds_underlying {n : Nat} {t : TypeId} {ks : List Nat} (h : eqKinds P n t = some ks) : ∃ d, P.underlying t = some d := by
  cases n with
  | zero => simp [eqKinds] at h
  | succ n =>
    cases e : P.underlying t with
    | none => simp [eqKinds, e] at h
    | some d => exact ⟨d, rfl⟩
theorem run_eqKinds (w : World) (k : K) : ∀ n, (∀ t ks, eqKinds P n t = some ks → ∀ D, n ≤ D → ∀ (us vs : List Value) (xs ys : List AV) (r : Bool), Rs k xs us → Rs k ys vs → us.length = ks.length → vs.length = ks.length → eqCells ks xs ys = some r →
      (Op.equalIn D t (ofCells (isAggB P t) us) (ofCells (isAggB P t) vs)).run P w = .ok r w) ∧
    (∀ fs off ks, eqKindsF P n fs off = some ks → ∀ D, n ≤ D → ∀ (us vs : Array Value) (xs ys : List AV) (r : Bool), Rs k xs us.toList → Rs k ys vs.toList → us.size = off + ks.length → vs.size = off + ks.length → eqCells ks (xs.drop off) (ys.drop off) = some r →
      (Op.eqFields D us vs fs).run P w = .ok r w) := by
  intro n
  induction n with
  | zero =>
    refine ⟨fun t ks h => by simp [eqKinds] at h, fun fs off ks h D hD us vs xs ys r hx hy h1 h2 he => ?_⟩
    cases fs with
    | nil =>
      simp only [eqKindsF, Option.some.injEq] at h
      subst h
      simp only [List.length_nil, Nat.add_zero] at h1 h2
      have hxl := Rs_length hx
      have hyl := Rs_length hy
      rw [List.drop_of_length_le (by simp at hxl; omega), List.drop_of_length_le (by simp at hyl; omega)] at he
      simp only [eqCells, Option.some.injEq] at he
      subst he
      simp [Op.eqFields]
    | cons f fs => simp [eqKindsF] at h
  | succ n ih =>
    obtain ⟨ihA, ihB⟩ := ih
    constructor
    · intro t ks h D hD us vs xs ys r hx hy h1 h2 he
      obtain ⟨D, rfl⟩ : ∃ D', D = D' + 1 := ⟨D - 1, by omega⟩
      simp only [eqKinds] at h
      have one : ∀ (q : Nat), ks = [q] → isAggB P t = false → ∃ x u y v, xs = [x] ∧ us = [u] ∧ ys = [y] ∧ vs = [v] ∧ R k x u ∧ R k y v ∧ eqCell q x y = some r := by
        intro q hq _
        subst hq
        match us, vs, h1, h2 with
        | [u], [v], _, _ =>
          have hxl := Rs_length hx
          have hyl := Rs_length hy
          match xs, ys, hxl, hyl with
          | [x], [y], _, _ =>
            simp only [Rs] at hx hy
            obtain ⟨_, _, e, hx, _, rfl⟩ := hx
            obtain ⟨_, _, e', hy, _, rfl⟩ := hy
            injection e with e _
            injection e' with e' _
            subst e; subst e'
            refine ⟨x, u, y, v, rfl, rfl, rfl, rfl, hx, hy, ?_⟩
            simp only [eqCells] at he
            split at he
            · rename_i a b h3 h4
              injection h4 with h4
              injection he with he
              subst h4
              simp at he
              subst he
              exact h3
            · cases he
      split at h
      · rename_i hu
        injection h with h
        obtain ⟨x, u, y, v, rfl, rfl, rfl, rfl, hx, hy, hc⟩ := one 0 h.symm (by simp [isAggB, hu])
        obtain ⟨p, q, rfl, rfl, rfl⟩ := eqCell0 hc
        simp only [R] at hx hy
        obtain ⟨rfl, _⟩ := hx
        obtain ⟨rfl, _⟩ := hy
        simp only [ofCells, isAggB, hu, Bool.false_eq_true, if_false, List.getD_cons_zero]
        exact run_equalIn_bool' w D t _ _ hu
      · rename_i q hu
        injection h with h
        obtain ⟨x, u, y, v, rfl, rfl, rfl, rfl, hx, hy, hc⟩ := one 1 h.symm (by simp [isAggB, hu])
        obtain ⟨k', p, q', rfl, rfl, rfl⟩ := eqCell1 hc
        simp only [R] at hx hy
        obtain ⟨rfl, _⟩ := hx
        obtain ⟨rfl, _⟩ := hy
        simp only [ofCells, isAggB, hu, Bool.false_eq_true, if_false, List.getD_cons_zero]
        exact run_equalIn_int w D t _ _ _ _ hu
      · rename_i hu
        injection h with h
        obtain ⟨x, u, y, v, rfl, rfl, rfl, rfl, hx, hy, hc⟩ := one 2 h.symm (by simp [isAggB, hu])
        obtain ⟨p, q, rfl, rfl, rfl⟩ := eqCell2 hc
        simp only [R] at hx hy
        obtain ⟨rfl, _⟩ := hx
        obtain ⟨rfl, _⟩ := hy
        simp only [ofCells, isAggB, hu, Bool.false_eq_true, if_false, List.getD_cons_zero]
        exact run_equalIn_string w D t _ _ hu
      · rename_i fs hu
        split at h
        · cases h
        · rename_i hs
          have hfs : P.fieldsOf t = fs := by simp [Program.fieldsOf, hu]
          have hag : isAggB P t = true := by simp [isAggB, hu]
          rw [hag]
          simp only [ofCells, if_true]
          rw [run_equalIn_struct w D t _ _ (by rw [hfs]; exact hu) (by simpa using hs), hfs]
          exact ihB fs.toList 0 ks h D (by omega) us.toArray vs.toArray xs ys r (by simpa using hx) (by simpa using hy) (by simpa using h1) (by simpa using h2) (by simpa using he)
      · cases h
    · intro fs off ks h D hD us vs xs ys r hx hy h1 h2 he
      cases fs with
      | nil =>
        simp only [eqKindsF, Option.some.injEq] at h
        subst h
        simp only [List.length_nil, Nat.add_zero] at h1 h2
        have hxl := Rs_length hx
        have hyl := Rs_length hy
        rw [List.drop_of_length_le (by simp at hxl; omega), List.drop_of_length_le (by simp at hyl; omega)] at he
        simp only [eqCells, Option.some.injEq] at he
        subst he
        simp [Op.eqFields]
      | cons f fs =>
        simp only [eqKindsF] at h
        split at h
        · rename_i ks1 i hk hi
          split at h
          · rename_i hc
            obtain ⟨hn, ho, hl, hag⟩ := hc
            obtain ⟨ks2, hk2, rfl⟩ := Option.map_eq_some_iff.1 h
            obtain ⟨r1, r2, e1, e2, rfl⟩ := eqCells_split he
            obtain ⟨d, hu⟩ := eqKinds_underlying hk
            rw [List.length_append] at h1 h2
            have hagg : (isAggB P f.type || i.size == 1) = true := by rcases hag with h | h <;> simp [h]
            have p1 := run_part' (w := w) hi hu hagg (cs := us) (off := f.offset) (by omega)
            have p2 := run_part' (w := w) hi hu hagg (cs := vs) (off := f.offset) (by omega)
            subst ho
            rw [hl] at e1
            have hA := ihA f.type ks1 hk D (by omega) ((us.toList.drop f.offset).take i.size) ((vs.toList.drop f.offset).take i.size) _ _ r1 (Rs_take i.size (Rs_drop f.offset hx)) (Rs_take i.size (Rs_drop f.offset hy)) (by simp; omega) (by simp; omega) e1
            have hB := ihB fs (f.offset + i.size) ks2 hk2 D (by omega) us vs xs ys r2 hx hy (by omega) (by omega) (by rw [hl, List.drop_drop, List.drop_drop] at e2; exact e2)
            have hne : f.name ≠ "_" := hn
            simp only [Op.eqFields, hne, ne_eq, not_false_eq_true, if_true, Sem.run_bind, p1, Result.andThen_ok, p2, hA, Sem.run_ite, hB, Sem.run_pure]
            cases r1 <;> simp
          · cases h
        · cases h
end
end Go.Av

namespace Go.Av
variable {σ : Type}

theorem eqCells_length : ∀ {ks : List Nat} {xs ys : List AV} {r : Bool}, eqCells ks xs ys = some r → xs.length = ks.length ∧ ys.length = ks.length
  | [], [], [], r, h => ⟨rfl, rfl⟩
  | [], [], _ :: _, r, h => by simp [eqCells] at h
  | [], _ :: _, ys, r, h => by cases ys <;> simp [eqCells] at h
  | k :: ks, [], ys, r, h => by simp [eqCells] at h
  | k :: ks, x :: xs, [], r, h => by simp [eqCells] at h
  | k :: ks, x :: xs, y :: ys, r, h => by
    simp only [eqCells] at h
    split at h
    · rename_i a b h1 h2
      obtain ⟨e1, e2⟩ := eqCells_length h2
      simp [e1, e2]
    · cases h

section
variable {P : Program} {T : List Nat} {Φ : Orc} {d : Nat} {c : Cx σ} {st st' : St σ} {x : AV} {a : Act} {w : World} {ow : Nat → Own} {τ : Nat → Nat} {ob : Nat → Value → Prop}
  {dst : Option Nat} {type : TypeId} {pos : String} {after : Array Edge} {guard : Option (Nat × Bool)}

theorem sim_seq (h : FR c st a w ow τ ob) {neg : Bool} {t ty : TypeId} {y z : Operand} {fs : Array Field} {ks : List Nat} (hu : P.underlying t = some (.struct fs)) (hk : eqKinds P 40 t = some ks) (hg : P.eqGuardType P.depth t = false)
    (ha : act Φ d st (.seq neg ks y z) = some (x, st')) : Sim P c st' x ⟨dst, .binOp (if neg then .neq else .eql) t y z ty, type, pos, after, guard⟩ a w ob := by
  simp only [act] at ha
  have hy := R_ev h y
  have hz := R_ev h z
  split at ha
  · rename_i us vs e1 e2
    rw [e1] at hy
    rw [e2] at hz
    obtain ⟨r, hr, hx⟩ := Option.map_eq_some_iff.1 ha
    simp only [Prod.mk.injEq] at hx
    obtain ⟨rfl, rfl⟩ := hx
    simp only [R] at hy hz
    obtain ⟨p, hp, hrp⟩ := hy
    obtain ⟨q, hq, hrq⟩ := hz
    obtain ⟨l1, l2⟩ := eqCells_length hr
    have hag : isAggB P t = true := by simp [isAggB, hu]
    have he := (run_eqKinds (P := P) w _ 40).1 t ks hk 10000 (by omega) p.toList q.toList us vs r hrp hrq (by rw [← l1]; exact Rs_length hrp) (by rw [← l2]; exact Rs_length hrq) hr
    rw [hag] at he
    simp only [ofCells, if_true, Array.toArray_toList] at he
    have hgu : ∀ op, (eqGuard op t y z (.agg p) (.agg q)).run P w = .ok () w := fun op => run_eqGuard_agg w op t y z p q hg
    refine sim_same h (v := .bool (if neg then !r else r)) ?_ (by unfold R; exact ⟨rfl, rfl⟩)
    cases neg
    · simp only [Bool.false_eq_true, if_false, execOp, hp, hq, Sem.run_bind, hgu, Result.andThen_ok, run_eql_struct, he, Sem.run_pure]
    · simp only [if_true, execOp, hp, hq, Sem.run_bind, hgu, Result.andThen_ok, run_neq_struct, he, Sem.run_pure]
  · cases ha

theorem Rt_append {k : K} : ∀ {xs ys : List AV} {us vs : List Value}, Rt k xs us → Rt k ys vs → Rt k (xs ++ ys) (us ++ vs)
  | [], ys, us, vs, h, h' => by simp only [Rt] at h; simpa [h] using h'
  | x :: xs, ys, us, vs, h, h' => by
    simp only [Rt] at h
    obtain ⟨v, r, rfl, hx, hr⟩ := h
    simp only [List.cons_append, Rt]
    exact ⟨v, r ++ vs, rfl, hx, Rt_append hr h'⟩
theorem Rt_evs (h : FR c st a w ow τ ob) : ∀ (l : List Operand), Rt (Kof c st w ow τ ob) (l.map st.ev) (l.map a.eval)
  | [] => by simp [Rt]
  | y :: l => by
    simp only [List.map_cons, Rt]
    exact ⟨_, _, rfl, R_ev h y, Rt_evs h l⟩
theorem Rt_evsw (h : FR c st a w ow τ ob) : ∀ (l : List Operand), Rt (Kof c st w ow τ ob) (l.map fun x => (st.ev x).weaks) (l.map a.eval)
  | [] => by simp [Rt]
  | y :: l => by
    simp only [List.map_cons, Rt]
    exact ⟨_, _, rfl, R_weaks (R_ev h y), Rt_evsw h l⟩
theorem exec_call {f : FuncId} {fn : Func} {args : Array Operand} {argTypes : Array TypeId} (hf : P.funcs[f]? = some fn) (hb : fn.body.isSome = true) (hn : (fn.name == "runtime.NumGoroutine") = false) :
    (execOp a.eval (⟨dst, .call { callee := .value (.func f), args := args, argTypes := argTypes }, type, pos, after, guard⟩ : Oper)).run P w = .ok (.enter f (args.toList.map a.eval).toArray) w := by
  have e : args.map a.eval = (args.toList.map a.eval).toArray := by apply Array.ext'; simp
  have hn' : ¬ fn.name = "runtime.NumGoroutine" := by simpa using hn
  have hb' : ¬ fn.body = none := by intro e; simp [e] at hb
  simp [execOp, resolve, Act.eval, Deferred.ofValue, invoke, callFunc, run_program, hf, hn', hb', e]
theorem exec_callv {y : Operand} {g : FuncId} {fn : Func} {us vs : Array Value} {args : Array Operand} {argTypes : Array TypeId} (hv : a.eval y = .func (.func g) us vs) (hf : P.funcs[g]? = some fn) (hb : fn.body.isSome = true) (hn : (fn.name == "runtime.NumGoroutine") = false) :
    (execOp a.eval (⟨dst, .call { callee := .value y, args := args, argTypes := argTypes }, type, pos, after, guard⟩ : Oper)).run P w = .ok (.enter g (us.toList ++ args.toList.map a.eval ++ vs.toList).toArray) w := by
  have e : us ++ args.map a.eval ++ vs = (us.toList ++ args.toList.map a.eval ++ vs.toList).toArray := by apply Array.ext'; simp
  have hn' : ¬ fn.name = "runtime.NumGoroutine" := by simpa using hn
  have hb' : ¬ fn.body = none := by intro e; simp [e] at hb
  simp only [execOp, resolve, hv, Deferred.ofValue, Sem.run_bind, Sem.run_pure, Result.andThen_ok, invoke, callFunc, run_program, hf, hn, hb', e]
  simp [hb']

theorem sim_call (hΦ : Specs σ P T Φ) (hgr : c.ground P) (h : FR c st a w ow τ ob) {f : FuncId} {fn : Func} {args : Array Operand} {argTypes : Array TypeId} {j : Nat} (hf : P.funcs[f]? = some fn) (hb : fn.body.isSome = true) (hn : (fn.name == "runtime.NumGoroutine") = false) (hj : T[j]? = some f)
    (ha : act Φ d st (.call j args.toList) = some (x, st')) : Sim P c st' x ⟨dst, .call { callee := .value (.func f), args := args, argTypes := argTypes }, type, pos, after, guard⟩ a w ob := by
  simp only [act] at ha
  split at ha
  · rename_i hp
    split at ha
    · rename_i r hr
      obtain ⟨r', hret, hx⟩ := Option.map_eq_some_iff.1 ha
      simp only [Prod.mk.injEq] at hx
      obtain ⟨rfl, rfl⟩ := hx
      have hcall := h.call hp (Rt_evsw h args.toList) (hΦ.f1 _ _ _ _ hr hj) hgr d hret
      intro K Q hK
      unfold Oper.wp
      rw [exec_call hf hb hn, Oper.upon_enter]
      refine hcall.mono ?_
      rintro e w' ⟨v, o', τ', rfl, hF, hR, _⟩
      exact hK v w' o' τ' hF hR
    · cases ha
  · obtain ⟨r, hr, hx⟩ := Option.map_eq_some_iff.1 ha
    simp only [Prod.mk.injEq] at hx
    obtain ⟨rfl, rfl⟩ := hx
    obtain ⟨hflat, ys, hys, hpc⟩ := hΦ.v1 _ _ _ _ _ _ hr hj
    have hcall := h.callV (hys st rfl rfl) (Rt_evs h args.toList) hpc hgr d hflat
    intro K Q hK
    unfold Oper.wp
    rw [exec_call hf hb hn, Oper.upon_enter]
    refine hcall.mono ?_
    rintro e w' ⟨v, o', τ', rfl, hF, hR, _⟩
    exact hK v w' o' τ' hF hR

theorem sim_mkf (h : FR c st a w ow τ ob) {f : FuncId} {first caps : Array Operand} (ha : act Φ d st (.mkf f first.toList caps.toList) = some (x, st')) : Sim P c st' x ⟨dst, .makeFunc (.func f) first caps, type, pos, after, guard⟩ a w ob := by
  simp only [act, Option.some.injEq, Prod.mk.injEq] at ha
  obtain ⟨rfl, rfl⟩ := ha
  refine sim_same h (v := .func (.func f) (first.map a.eval) (caps.map a.eval)) ?_ ?_
  · simp [execOp, Instr.makeFunc]
  · simp only [R]
    exact ⟨_, _, rfl, by simpa using Rt_evs h first.toList, by simpa using Rt_evs h caps.toList⟩
theorem sim_callv (hΦ : Specs σ P T Φ) (hgr : c.ground P) (h : FR c st a w ow τ ob) {y : Operand} {args : Array Operand} {argTypes : Array TypeId}
    (ha : act Φ d st (.callv y args.toList) = some (x, st')) : Sim P c st' x ⟨dst, .call { callee := .value y, args := args, argTypes := argTypes }, type, pos, after, guard⟩ a w ob := by
  simp only [act] at ha
  split at ha
  · rename_i g first caps ey
    have hy := R_ev h y
    rw [ey] at hy
    simp only [R] at hy
    obtain ⟨us, vs, hv, hfirst, hcaps⟩ := hy
    split at ha
    · rename_i hp
      split at ha
      · rename_i r hr
        obtain ⟨r', hret, hx⟩ := Option.map_eq_some_iff.1 ha
        simp only [Prod.mk.injEq] at hx
        obtain ⟨rfl, rfl⟩ := hx
        obtain ⟨hpc, fn, hf, hb, hn⟩ := hΦ.f2 _ _ _ hr
        have hcall := h.call hp (Rt_append (Rt_append hfirst (Rt_evsw h args.toList)) hcaps) hpc hgr d hret
        intro K Q hK
        unfold Oper.wp
        rw [exec_callv hv hf hb hn, Oper.upon_enter]
        refine hcall.mono ?_
        rintro e w' ⟨v, o', τ', rfl, hF, hR, _⟩
        exact hK v w' o' τ' hF hR
      · cases ha
    · obtain ⟨r, hr, hx⟩ := Option.map_eq_some_iff.1 ha
      simp only [Prod.mk.injEq] at hx
      obtain ⟨rfl, rfl⟩ := hx
      obtain ⟨⟨hflat, ys, hys, hpc⟩, fn, hf, hb, hn⟩ := hΦ.v2 _ _ _ _ _ hr
      have hcall := h.callV (hys st rfl rfl) (Rt_append (Rt_append hfirst (Rt_evs h args.toList)) hcaps) hpc hgr d hflat
      intro K Q hK
      unfold Oper.wp
      rw [exec_callv hv hf hb hn, Oper.upon_enter]
      refine hcall.mono ?_
      rintro e w' ⟨v, o', τ', rfl, hF, hR, _⟩
      exact hK v w' o' τ' hF hR
  · cases ha

theorem FR.give' (h : FR c st a w ow τ ob) (n : Nat) (d : Nat) {st1 : St σ} (e1 : st1.env = st.env) (e2 : st1.gen = st.gen) (e3 : st1.var = st.var) (e4 : st1.x = st.x) (h6 : ∀ t, st.tgen t ≤ st1.tgen t) (h7 : ∀ t n, st1.tgen t = st.tgen t → st1.top t = some n → st.top t = some n) :
    FR c st1 a w ow τ ob ∧ KLe (Kof c st w ow τ ob) (Kof c st1 w ow τ ob) := by
  have hk : KLe (Kof c st w ow τ ob) (Kof c st1 w ow τ ob) :=
    KLe_of (fun _ _ => rfl) (fun _ _ h => ⟨rfl, h⟩) (fun _ t _ h h' => ⟨rfl, .inr ⟨t, h, h'⟩⟩) (fun d => by rw [e2]; exact Nat.le_refl _) (fun _ _ _ _ h => ⟨h, fun _ hq => hq⟩) h6 h7 (fun _ _ _ cur T _ _ _ h hc => ⟨h, rfl, cur, T, hc, rfl⟩) (fun _ _ h => h)
  refine ⟨h.turn e1 hk (Keeps.refl _ _ _) h.lt ?_ h.uniq (by rw [e4]; exact h.ext), hk⟩
  intro d' b hb hv
  obtain ⟨obj, hc, hr⟩ := h.vars d' b hb hv
  exact ⟨obj, hc, by rw [e3]; exact VR_mono hk hr⟩

/-- The three ways of an append. -/
theorem run_app_none {t e ty : TypeId} {i : TypeInfo} (ht : P.underlying t = some (.slice e)) (hi : P.info? e = some i) {A A2 : Option Addr} {n z z2 : Nat} (hz : n ≤ z) (w : World) :
    (Builtin.append_ #[t, t] ty #[.slice A n z, .slice A2 0 z2]).run P w = .ok (.slice A n z) w := by
  cases A <;> cases A2 <;> simp [Builtin.append_, run_underlying ht, sizeOf, typeInfo, hi, Builtin.lenOf, Builtin.firstCells, loadCells, loadCellsFrom, storeCells, hz]
theorem run_app_room {t e ty : TypeId} {i : TypeInfo} (ht : P.underlying t = some (.slice e)) (hi : P.info? e = some i) {g n z m z2 : Nat} {ad : Addr} {cur : Array Value} {T : TypeId} (hg : w.heap[g]? = some (.cells cur T (0, 0))) {news : List Value} (hl : news.length = m * i.size)
    (hnews : ∀ j u, news[j]? = some u → w.cell? (ad.add j) = some u) (h1 : ∀ u ∈ news, u.oneCell' = true) (hroom : n + m ≤ z) (hfit : n * i.size + news.length ≤ cur.size) :
    (Builtin.append_ #[t, t] ty #[.slice (some ⟨g, 0, none⟩) n z, .slice (some ad) m z2]).run P w = .ok (.slice (some ⟨g, 0, none⟩) (n + m) z) (w.setRow g (splice cur.toList (n * i.size) news).toArray) := by
  have hf := run_firstCells_some (P := P) w i.size m ad m z2 news hl hnews
  have hst := run_storeCells_at P g (n * i.size) T news 0 cur w hg (by simpa using hfit) h1
  simp only [Nat.add_zero] at hst
  simp [Builtin.append_, run_underlying ht, sizeOf, typeInfo, hi, Builtin.lenOf, hroom, hf, Addr.add_lit, hst, splice]
theorem run_app_grow {t e ty : TypeId} {i : TypeInfo} {zv : Value} (ht : P.underlying t = some (.slice e)) (hi : P.info? e = some i) (hzv : i.zero = some zv) {A : Option Addr} {n z m z2 : Nat} {ad : Addr} {olds news : List Value} (hlo : olds.length = n * i.size)
    (hA : (A = none ∧ n = 0 ∧ z = 0) ∨ ∃ b : Addr, A = some b ∧ ∀ j u, olds[j]? = some u → w.cell? (b.add j) = some u) (hl : news.length = m * i.size)
    (hnews : ∀ j u, news[j]? = some u → w.cell? (ad.add j) = some u) (hm : 0 < m) (hg : z < n + m) (h63 : n + m ≤ 9223372036854775807) (hb : (n + m) * i.bytes ≤ 140737488355328) :
    (Builtin.append_ #[t, t] ty #[.slice A n z, .slice (some ad) m z2]).run P w = .ok (.slice (some ⟨w.heap.size, 0, none⟩) (n + m) (grownCap w (n + m) z e))
      (w.drew.alloc (.cells (olds.toArray ++ news.toArray ++ Builtin.zeroCells zv.cells (grownCap w (n + m) z e - (n + m))) e)) := by
  rcases hA with ⟨rfl, rfl, rfl⟩ | ⟨b, rfl, holds⟩
  · have ho : olds = [] := List.eq_nil_of_length_eq_zero (by simpa using hlo)
    subst ho
    have := run_append_nil (P := P) w t ty e i zv ht hi hzv ad m z2 news hl hnews hm (by omega) (by rw [Nat.zero_add] at hb; omega)
    simpa using this
  · exact run_append_grow (P := P) w t ty e i zv ht hi hzv b n z olds hlo holds ad m z2 news hl hnews hg (by omega) (growslice_fits (by omega) hb)
end
end Go.Av

namespace Go.Av
variable {σ : Type}
section
variable {P : Program} {T : List Nat} {Φ : Orc} {d : Nat} {c : Cx σ} {st st' : St σ} {x : AV} {a : Act} {w : World} {ow : Nat → Own} {τ : Nat → Nat} {ob : Nat → Value → Prop}
  {dst : Option Nat} {type : TypeId} {pos : String} {after : Array Edge} {guard : Option (Nat × Bool)}

/-! ### a variable is given up -/
def killOwn (o : Nat → Own) (d : Nat) : Nat → Own := fun b => match o b with | .var d' => if d' = d then .junk else .var d' | x => x
theorem killOwn_var {o : Nat → Own} {d d' b : Nat} (h : killOwn o d b = .var d') : o b = .var d' ∧ d' ≠ d := by
  unfold killOwn at h
  split at h
  · split at h
    · cases h
    · rename_i e h2; injection h with h; subst h; exact ⟨e, h2⟩
  · rename_i hn; exact absurd h (hn d')
theorem killOwn_at {o : Nat → Own} {d b : Nat} (h : o b = .var d) : killOwn o d b = .junk := by simp [killOwn, h]
theorem killOwn_ne {o : Nat → Own} {d b d' : Nat} (h : o b = .var d') (hd : d' ≠ d) : killOwn o d b = .var d' := by simp [killOwn, h, hd]
theorem killOwn_other {o : Nat → Own} {d b : Nat} (h : ∀ d', o b ≠ .var d') : killOwn o d b = o b := by
  unfold killOwn
  split
  · rename_i d' e; exact absurd e (h d')
  · rfl
theorem FR.kill (h : FR c st a w ow τ ob) (d : Nat) : FR c (st.kill d) a w (killOwn ow d) τ ob ∧ KLe (Kof c st w ow τ ob) (Kof c (st.kill d) w (killOwn ow d) τ ob) := by
  have hk : KLe (Kof c st w ow τ ob) (Kof c (st.kill d) w (killOwn ow d) τ ob) := by
    refine KLe_of (fun _ _ => rfl) ?_ ?_ ?_ ?_ (fun _ => Nat.le_refl _) (fun _ _ _ h => h) ?_ (fun _ _ h => h)
    · intro p hb hi
      exact ⟨rfl, (killOwn_other (by rw [hi]; simp)).trans hi⟩
    · intro p t hb hi hlt
      exact ⟨rfl, .inr ⟨t, (killOwn_other (by rw [hi]; simp)).trans hi, hlt⟩⟩
    · intro d'
      simp only [St.kill, upd]
      split
      · rename_i e; subst e; omega
      · exact Nat.le_refl _
    · intro d' b hg hb hv
      refine ⟨killOwn_ne hv ?_, fun _ hq => hq⟩
      rintro rfl
      simp [St.kill, upd] at hg
    · intro t n b cur T _ _ hb ht hc
      exact ⟨(killOwn_other (by rw [ht]; simp)).trans ht, rfl, cur, T, hc, rfl⟩
  refine ⟨h.turn rfl hk (Keeps.refl _ _ _) ?_ ?_ ?_ ?_, hk⟩
  · intro b hb ho
    refine h.lt b hb fun e => ho ?_
    rw [killOwn_other (by rw [e]; simp)]; exact e
  · intro d' b hb hv
    obtain ⟨hv', hd⟩ := killOwn_var hv
    obtain ⟨obj, hc, hr⟩ := h.vars d' b hb hv'
    refine ⟨obj, hc, ?_⟩
    show VR _ (upd st.var d [] d') _
    rw [upd_ne _ _ _ hd]
    exact VR_mono hk hr
  · intro d' b b' hb hb' hv hv'
    exact h.uniq d' b b' hb hb' (killOwn_var hv).1 (killOwn_var hv').1
  · have : (fun b => (b < c.base ∧ c.E0 b) ∨ (c.base ≤ b ∧ killOwn ow d b = .ext)) = (fun b => (b < c.base ∧ c.E0 b) ∨ (c.base ≤ b ∧ ow b = .ext)) := by
      funext b
      apply propext
      refine or_congr Iff.rfl (and_congr_right fun hb => ⟨fun hx => ?_, fun hx => ?_⟩)
      · unfold killOwn at hx
        split at hx
        · split at hx <;> cases hx
        · exact hx
      · exact (killOwn_other (by rw [hx]; simp)).trans hx
    rw [this]
    exact h.ext

/-! ### a block that is nobody's becomes a variable -/
def adoptOwn (o : Nat → Own) (n d : Nat) : Nat → Own := fun b => if b = n then .var d else killOwn o d b
theorem adoptOwn_new (o : Nat → Own) (n d : Nat) : adoptOwn o n d n = .var d := by simp [adoptOwn]
theorem adoptOwn_ne {o : Nat → Own} {n d b : Nat} (h : b ≠ n) : adoptOwn o n d b = killOwn o d b := by simp [adoptOwn, h]
theorem FR.adopt (h : FR c st a w ow τ ob) {b : Nat} (d : Nat) (hb : c.base ≤ b) (hj : ow b = .junk) {cs0 : Array Value} {T0 : TypeId} (hc0 : w.heap[b]? = some (.cells cs0 T0 (0, 0))) {xs : List AV} {cs : List Value}
    (h1 : ∀ v ∈ cs, v.oneCell' = true) (hr : Rs (Kof c st w ow τ ob) xs (cs.take xs.length)) :
    FR c (st.newVar d xs) a (w.setRow b cs.toArray) (adoptOwn ow b d) τ ob ∧ KLe (Kof c st w ow τ ob) (Kof c (st.newVar d xs) (w.setRow b cs.toArray) (adoptOwn ow b d) τ ob) ∧
    (Kof c (st.newVar d xs) (w.setRow b cs.toArray) (adoptOwn ow b d) τ ob).pg d (st.gen d + 1) ∧ ∀ z, z ≤ cs.length → (Kof c (st.newVar d xs) (w.setRow b cs.toArray) (adoptOwn ow b d) τ ob).vb d b (some z) := by
  have hcell : ∀ p : Addr, p.block ≠ b → (w.setRow b cs.toArray).cell? p = w.cell? p := fun p hp => cell_setRow_other w b _ p hp
  have hheap : (w.setRow b cs.toArray).heap[b]? = some (.cells cs.toArray T0 (0, 0)) := setRow_heap w b cs0 _ T0 _ hc0
  have hk : KLe (Kof c st w ow τ ob) (Kof c (st.newVar d xs) (w.setRow b cs.toArray) (adoptOwn ow b d) τ ob) := by
    refine KLe_of ?_ ?_ ?_ ?_ ?_ (fun _ => Nat.le_refl _) (fun _ _ _ h => h) ?_ (fun _ _ h => h)
    · intro p hp
      have := (c.g0 p hp).1
      exact hcell p (by omega)
    · intro p hb' hi
      have e : p.block ≠ b := by rintro e; rw [e, hj] at hi; cases hi
      exact ⟨hcell p e, (adoptOwn_ne e).trans ((killOwn_other (by rw [hi]; simp)).trans hi)⟩
    · intro p t hb' hi hlt
      have e : p.block ≠ b := by rintro e; rw [e, hj] at hi; cases hi
      exact ⟨hcell p e, .inr ⟨t, (adoptOwn_ne e).trans ((killOwn_other (by rw [hi]; simp)).trans hi), hlt⟩⟩
    · intro d'
      show st.gen d' ≤ upd st.gen d (st.gen d + 1) d'
      unfold upd; split
      · rename_i e; subst e; omega
      · omega
    · intro d' b' hg hb' hv
      have hd : d' ≠ d := by
        rintro rfl
        simp [St.newVar, upd] at hg
      have e : b' ≠ b := by rintro e; rw [e, hj] at hv; cases hv
      exact ⟨(adoptOwn_ne e).trans (killOwn_ne hv hd), fun q hq => by rw [setRow_other w b b' _ e]; exact hq⟩
    · intro t n b' cur T' _ _ hb' ht hc
      have e : b' ≠ b := by rintro e; rw [e, hj] at ht; cases ht
      exact ⟨(adoptOwn_ne e).trans ((killOwn_other (by rw [ht]; simp)).trans ht), rfl, cur, T', by rw [setRow_other w b b' _ e]; exact hc, rfl⟩
  have hinv : ∀ d' b', b' ≠ b → adoptOwn ow b d b' = .var d' → ow b' = .var d' ∧ d' ≠ d := fun d' b' e hv => killOwn_var ((adoptOwn_ne e).symm.trans hv)
  refine ⟨h.turn rfl hk (h.setRow_keeps hb _) ?_ ?_ ?_ ?_, hk, ?_, ?_⟩
  · intro b' hb' ho
    rw [size_setRow]
    by_cases e : b' = b
    · subst e; exact h.lt b' hb' (by rw [hj]; simp)
    · refine h.lt b' hb' fun e' => ho ?_
      rw [adoptOwn_ne e, killOwn_other (by rw [e']; simp)]; exact e'
  · intro d' b' hb' hv
    by_cases e : b' = b
    · subst e
      rw [adoptOwn_new] at hv
      injection hv with hv
      subst hv
      refine ⟨_, hheap, ?_⟩
      show VR _ (upd st.var d xs d) _
      rw [upd_same]
      exact ⟨rfl, by simpa using h1, by simpa using Rs_mono hk _ _ hr⟩
    · obtain ⟨hv', hd⟩ := hinv d' b' e hv
      obtain ⟨obj', hc, hr'⟩ := h.vars d' b' hb' hv'
      refine ⟨obj', by rw [setRow_other w b b' _ e]; exact hc, ?_⟩
      show VR _ (upd st.var d xs d') _
      rw [upd_ne _ _ _ hd]
      exact VR_mono hk hr'
  · intro d' b1 b2 hb1 hb2 hv hv'
    by_cases e : b1 = b
    · by_cases e' : b2 = b
      · omega
      · subst e
        rw [adoptOwn_new] at hv
        injection hv with hv
        exact absurd hv.symm (hinv _ _ e' hv').2
    · by_cases e' : b2 = b
      · subst e'
        rw [adoptOwn_new] at hv'
        injection hv' with hv'
        exact absurd hv'.symm (hinv _ _ e hv).2
      · exact h.uniq d' b1 b2 hb1 hb2 (hinv _ _ e hv).1 (hinv _ _ e' hv').1
  · have : (fun b' => (b' < c.base ∧ c.E0 b') ∨ (c.base ≤ b' ∧ adoptOwn ow b d b' = .ext)) = (fun b' => (b' < c.base ∧ c.E0 b') ∨ (c.base ≤ b' ∧ ow b' = .ext)) := by
      funext b'
      apply propext
      refine or_congr Iff.rfl (and_congr_right fun hb' => ⟨fun hx => ?_, fun hx => ?_⟩)
      · by_cases e : b' = b
        · subst e; rw [adoptOwn_new] at hx; cases hx
        · rw [adoptOwn_ne e] at hx
          unfold killOwn at hx
          split at hx
          · split at hx <;> cases hx
          · exact hx
      · have e : b' ≠ b := by rintro e; rw [e, hj] at hx; cases hx
        rw [adoptOwn_ne e, killOwn_other (by rw [hx]; simp)]; exact hx
    rw [this]
    refine c.stable _ _ _ _ _ h.ext fun b' hb' => setRow_other w b b' _ ?_
    rcases hb' with ⟨hb', _⟩ | ⟨hb', hx⟩
    · omega
    · rintro e; rw [e, hj] at hx; cases hx
  · refine ⟨by omega, ?_⟩
    simp [St.newVar, upd]
  · intro z hz
    exact ⟨hb, adoptOwn_new _ _ _, by rw [hheap]; exact ⟨rfl, by simpa using hz⟩⟩

/-! ### cells -/
theorem Rs_deads {k : K} : ∀ (vs : List Value), (∀ v ∈ vs, v.oneCell' = true) → Rs k (List.replicate vs.length .dead) vs
  | [], _ => by simp [Rs]
  | v :: vs, h => by
    simp only [List.length_cons, List.replicate_succ, Rs]
    exact ⟨v, vs, rfl, by simp only [R], h v (by simp), Rs_deads vs fun u hu => h u (by simp [hu])⟩
theorem Rs_pad {k : K} {l : List AV} {cs : List Value} {m : Nat} (h1 : ∀ v ∈ cs, v.oneCell' = true) (hm : m ≤ cs.length) (h : Rs k l (cs.take l.length)) : Rs k (padTo l m) (cs.take (padTo l m).length) := by
  unfold padTo
  have hl : l.length ≤ cs.length := by have := Rs_length h; simp at this; omega
  have e : (l ++ List.replicate (m - l.length) AV.dead).length = l.length + (m - l.length) := by simp
  rw [e, List.take_add]
  refine Rs_append h ?_
  have := Rs_deads (k := k) ((cs.drop l.length).take (m - l.length)) fun v hv => h1 v (List.mem_of_mem_drop (List.mem_of_mem_take hv))
  rwa [show ((cs.drop l.length).take (m - l.length)).length = m - l.length by simp; omega] at this
theorem padTo_length (l : List AV) (m : Nat) : (padTo l m).length = max l.length m := by
  unfold padTo
  simp
  omega
theorem flat_rep_get {α : Type} (l : List α) : ∀ (k j : Nat), ((List.replicate k l).flatten)[j]? = if j < k * l.length then l[j % l.length]? else none
  | 0, j => by simp
  | k + 1, j => by
    rw [List.replicate_succ, List.flatten_cons]
    by_cases h : j < l.length
    · have : j < (k + 1) * l.length := by rw [Nat.add_mul]; omega
      rw [List.getElem?_append_left h, if_pos this, Nat.mod_eq_of_lt h]
    · rw [List.getElem?_append_right (by omega), flat_rep_get l k]
      have e : j % l.length = (j - l.length) % l.length := (Nat.mod_eq_sub_mod (by omega)).trans rfl
      rw [e]
      have : j - l.length < k * l.length ↔ j < (k + 1) * l.length := by rw [Nat.add_mul]; omega
      simp [this]
theorem zeros_list {z : Array Value} (k : Nat) (h0 : 0 < z.size) : (Builtin.zeroCells z k).toList = (List.replicate k z.toList).flatten := by
  apply List.ext_getElem?
  intro j
  rw [flat_rep_get]
  unfold Builtin.zeroCells
  have hlt : j % z.size < z.size := Nat.mod_lt _ h0
  by_cases h : j < k * z.size
  · simp [h, hlt]
  · simp [h]
theorem Rs_zeros {k : K} {z : List Value} (h : ∀ v ∈ z, v.oneCell' = true) : ∀ (n : Nat), Rs k (List.replicate n (z.map AV.imm)).flatten (List.replicate n z).flatten
  | 0 => by simp [Rs]
  | n + 1 => by
    rw [List.replicate_succ, List.replicate_succ, List.flatten_cons, List.flatten_cons]
    exact Rs_append (Rs_imm h) (Rs_zeros h n)
theorem zeros_one {z : List Value} (h : ∀ v ∈ z, v.oneCell' = true) (n : Nat) : ∀ v ∈ (List.replicate n z).flatten, v.oneCell' = true := by
  intro v hv
  rw [List.mem_flatten] at hv
  obtain ⟨l, hl, hv⟩ := hv
  rw [List.mem_replicate] at hl
  rw [hl.2] at hv
  exact h v hv
theorem splice_one {l xs : List Value} {off : Nat} (h1 : ∀ v ∈ l, v.oneCell' = true) (h2 : ∀ v ∈ xs, v.oneCell' = true) : ∀ v ∈ splice l off xs, v.oneCell' = true := by
  intro v hv
  unfold splice at hv
  simp only [List.mem_append] at hv
  rcases hv with (hv | hv) | hv
  · exact h1 v (List.mem_of_mem_take hv)
  · exact h2 v hv
  · exact h1 v (List.mem_of_mem_drop hv)

/-- What a slice that is read holds. -/
theorem src_vals (h : FR c st a w ow τ ob) {sz : Nat} {lim : Option Nat} {y : AV} {v : Value} {m : Nat} {news : List AV} (hs : st.src sz lim y = some (m, news)) (hR : R (Kof c st w ow τ ob) y v) :
    ∃ A n z us, v = .slice A n z ∧ n ≤ z ∧ z ≤ maxLen ∧ m = limTo lim n ∧ Rs (Kof c st w ow τ ob) news us ∧ us.length = m * sz ∧ (m ≠ 0 → ∃ ad, A = some ad ∧ ∀ j u, us[j]? = some u → w.cell? (ad.add j) = some u) := by
  unfold St.src at hs
  have hlim : ∀ n, limTo lim n ≤ n := by
    intro n
    cases lim with
    | none => exact Nat.le_refl _
    | some q => exact Nat.min_le_left _ _
  split at hs
  · rename_i d' g sz' off n cp e1
    split at hs
    · rename_i hc
      obtain ⟨rfl, hg, hl⟩ := hc
      simp only [Option.some.injEq, Prod.mk.injEq] at hs
      obtain ⟨rfl, rfl⟩ := hs
      rw [vslOf_eq e1] at hR
      simp only [R] at hR
      obtain ⟨_, A, z, rfl, hnz, hz, _, hb⟩ := hR
      obtain ⟨b, o, hvb, rfl, ho⟩ := hb hg
      obtain ⟨cs, T', hheap, hsz, h1, hr⟩ := var_block h hvb
      have hr' := Rs_take (limTo lim n * sz') (Rs_drop off hr)
      refine ⟨_, n, z, _, rfl, hnz, hz, rfl, hr', ?_, fun hm => ⟨_, rfl, fun j u hj => ?_⟩⟩
      · have := Rs_length hr'
        rw [this]
        simp
        omega
      · have := ho (by have := hlim n; omega)
        subst this
        rw [addr_add]
        exact var_cells hheap j u hj
    · cases hs
  · rename_i tok rows _ e2
    simp only [Option.some.injEq, Prod.mk.injEq] at hs
    obtain ⟨rfl, rfl⟩ := hs
    have hy := R_asSl hR e2
    have hy' := hy
    simp only [R] at hy'
    obtain ⟨A, z, rfl, hnz, hz, hrows, _⟩ := hy'
    by_cases hne : rows = []
    · subst hne
      have h0 : limTo lim 0 = 0 := Nat.le_zero.1 (hlim 0)
      refine ⟨A, 0, z, [], rfl, hnz, hz, rfl, ?_, ?_, fun hm => absurd h0 hm⟩
      · simp [Rs]
      · simp [h0]
    · obtain ⟨b, o, rfl, hr⟩ := hrows hne
      obtain ⟨us, h1, h2, h3⟩ := rowsAt_vals (rowsAt_take (limTo lim rows.length) hr)
      refine ⟨_, rows.length, z, us, rfl, hnz, hz, rfl, Rs_mono (KLe.of_pure (KLe.refl _)) _ _ h1, ?_, fun hm => ⟨_, rfl, fun j u hj => ?_⟩⟩
      · rw [h2, List.length_take, Nat.min_eq_left (hlim _)]
      · rw [addr_add]; exact (h3 j u hj).2.1
  · cases hs

/-! ### the operations -/
theorem sim_mm (h : FR c st a w ow τ ob) {mx : Bool} {y z : Operand} {args : Array Operand} {argTypes : Array TypeId} (hargs : args.toList = [y, z]) (ha : act Φ d st (.mm mx y z) = some (x, st')) :
    Sim P c st' x ⟨dst, .call { callee := .builtin (if mx then .max else .min), args := args, argTypes := argTypes }, type, pos, after, guard⟩ a w ob := by
  have e1 : args = #[y, z] := by rw [← Array.toArray_toList (xs := args), hargs]
  subst e1
  simp only [act] at ha
  have hy := R_ev h y
  have hz := R_ev h z
  split at ha
  · rename_i k m k' n e1 e2
    rw [e1] at hy
    rw [e2] at hz
    simp only [R] at hy hz
    split at ha
    · rename_i hk
      subst hk
      simp only [Option.some.injEq, Prod.mk.injEq] at ha
      obtain ⟨rfl, rfl⟩ := ha
      refine sim_same h (v := .int k (if mx then (if n > m then n else m) else (if n < m then n else m))) ?_ (by unfold R; exact ⟨rfl, rfl⟩)
      cases mx
      · simp [execOp, resolve, invoke, builtin, Builtin.min_, Builtin.min2, hy.1, hz.1]
      · simp [execOp, resolve, invoke, builtin, Builtin.max_, Builtin.max2, hy.1, hz.1]
    · cases ha
  · cases ha
theorem run_equalIn_ptr {t e : TypeId} (ht : P.underlying t = some (.pointer e)) (p q : Option Addr) (hq : p = none ∨ q = none) (n : Nat) (w : World) : (Op.equalIn (n + 1) t (.pointer p) (.pointer q)).run P w = .ok (p.isNone && q.isNone) w := by
  rcases hq with rfl | rfl
  · cases q <;> simp [Op.equalIn, run_underlying' ht]
  · cases p <;> simp [Op.equalIn, run_underlying' ht]
theorem run_equal_ptr {t e : TypeId} (ht : P.underlying t = some (.pointer e)) (p q : Option Addr) (hq : p = none ∨ q = none) (w : World) : (Op.equal t (.pointer p) (.pointer q)).run P w = .ok (p.isNone && q.isNone) w := run_equalIn_ptr ht p q hq 9999 w
theorem run_ptr_nil {t e : TypeId} (ht : P.underlying t = some (.pointer e)) (ng : Bool) (p q : Option Addr) (hq : p = none ∨ q = none) (w : World) : (binOp (if ng then .neq else .eql) t (.pointer p) (.pointer q)).run P w = .ok (.bool (if ng then !(p.isNone && q.isNone) else p.isNone && q.isNone)) w := by
  cases ng
  · show (do pure (Value.bool (← Op.equal t (.pointer p) (.pointer q))) : Sem Value).run P w = _
    rw [Sem.run_bind, run_equal_ptr ht p q hq]
    rfl
  · show (do pure (Value.bool (!(← Op.equal t (.pointer p) (.pointer q)))) : Sem Value).run P w = _
    rw [Sem.run_bind, run_equal_ptr ht p q hq]
    rfl
theorem run_guard_ptr {op : BinOp} {t : TypeId} {y z : Operand} {p q : Option Addr} (w : World) : (eqGuard op t y z (.pointer p) (.pointer q)).run P w = .ok () w :=
  run_eqGuard_imm (by rintro ⟨h, _⟩; cases h) (by rintro ⟨_, _, h, _⟩; cases h) w
theorem isNilP_eq {y : Operand} (h : isNilP y = true) : a.eval y = .pointer none := by
  unfold isNilP at h
  split at h
  · rfl
  · cases h
theorem isNilS_eq {y : Operand} (h : isNilS y = true) : a.eval y = .slice none 0 0 := by
  unfold isNilS at h
  split at h
  · rfl
  · cases h
theorem sim_peq (h : FR c st a w ow τ ob) {ng : Bool} {t e ty : TypeId} {y z : Operand} {op : BinOp} (hop : op = if ng then .neq else .eql) (ht : P.underlying t = some (.pointer e)) {u : Operand} (hyz : (u = y ∧ isNilP z = true) ∨ (u = z ∧ isNilP y = true)) (ha : act Φ d st (.peq ng u) = some (x, st')) :
    Sim P c st' x ⟨dst, .binOp op t y z ty, type, pos, after, guard⟩ a w ob := by
  subst hop
  simp only [act] at ha
  have hu := R_ev h u
  have key : ∀ p : Option Addr, a.eval u = .pointer p → Sim P c st (.imm (.bool (if ng then !p.isNone else p.isNone))) ⟨dst, .binOp (if ng then .neq else .eql) t y z ty, type, pos, after, guard⟩ a w ob := by
    intro p hp
    refine sim_same h (v := .bool (if ng then !p.isNone else p.isNone)) ?_ (by unfold R; exact ⟨rfl, rfl⟩)
    rcases hyz with ⟨rfl, hn⟩ | ⟨rfl, hn⟩
    · have hz := isNilP_eq (a := a) hn
      simp only [execOp, hp, hz, Sem.run_bind, run_guard_ptr, Result.andThen_ok, run_ptr_nil ht ng p none (.inr rfl), Sem.run_pure]
      simp
    · have hz := isNilP_eq (a := a) hn
      simp only [execOp, hp, hz, Sem.run_bind, run_guard_ptr, Result.andThen_ok, run_ptr_nil ht ng none p (.inl rfl), Sem.run_pure]
      simp
  split at ha
  · rename_i e1
    rw [e1] at hu
    simp only [R] at hu
    simp only [Option.some.injEq, Prod.mk.injEq] at ha
    obtain ⟨rfl, rfl⟩ := ha
    have := key none hu.1
    cases ng <;> exact this
  · rename_i d' g q e1
    rw [e1] at hu
    split at ha
    · rename_i hg
      simp only [Option.some.injEq, Prod.mk.injEq] at ha
      obtain ⟨rfl, rfl⟩ := ha
      simp only [R] at hu
      obtain ⟨b, _, hv⟩ := hu.2.2 hg
      have := key _ hv
      cases ng <;> exact this
    · cases ha
  · rename_i cs q e1
    rw [e1] at hu
    simp only [Option.some.injEq, Prod.mk.injEq] at ha
    obtain ⟨rfl, rfl⟩ := ha
    simp only [R] at hu
    obtain ⟨b, o, hv, _⟩ := hu
    have := key _ hv
    cases ng <;> exact this
  · cases ha
theorem run_slice_nil {t e : TypeId} (ht : P.underlying t = some (.slice e)) (ng : Bool) (A : Option Addr) (n z : Nat) (w : World) : (binOp (if ng then .neq else .eql) t (.slice A n z) (.slice none 0 0)).run P w = .ok (.bool (if ng then !A.isNone else A.isNone)) w := by
  have hq' : ∀ m, (Op.equalIn (m + 1) t (.slice A n z) (.slice none 0 0)).run P w = .ok A.isNone w := by
    intro m
    cases A <;> simp [Op.equalIn, run_underlying' ht]
  have hq : (Op.equal t (.slice A n z) (.slice none 0 0)).run P w = .ok A.isNone w := hq' 9999
  cases ng
  · show (do pure (Value.bool (← Op.equal t (.slice A n z) (.slice none 0 0))) : Sem Value).run P w = _
    rw [Sem.run_bind, hq]
    rfl
  · show (do pure (Value.bool (!(← Op.equal t (.slice A n z) (.slice none 0 0)))) : Sem Value).run P w = _
    rw [Sem.run_bind, hq]
    rfl
theorem exec_snil {ng : Bool} {t e ty : TypeId} {y z : Operand} {A : Option Addr} {n q : Nat} (ht : P.underlying t = some (.slice e)) (hz : isNilS z = true) (hy : a.eval y = .slice A n q) :
    (execOp a.eval (⟨dst, .binOp (if ng then .neq else .eql) t y z ty, type, pos, after, guard⟩ : Oper)).run P w = .ok (.value (.bool (if ng then !A.isNone else A.isNone))) w := by
  have hg := run_eqGuard_imm (P := P) (op := if ng then .neq else .eql) (t := t) (y := y) (z := z) (u := .slice A n q) (v := .slice none 0 0) (by rintro ⟨h, _⟩; cases h) (by rintro ⟨_, _, h, _⟩; cases h) w
  simp only [execOp, hy, isNilS_eq (a := a) hz, Sem.run_bind, hg, Result.andThen_ok, run_slice_nil ht ng, Sem.run_pure]
theorem sim_snil (h : FR c st a w ow τ ob) {ng : Bool} {t e ty : TypeId} {y z : Operand} {op : BinOp} (hop : op = if ng then .neq else .eql) (ht : P.underlying t = some (.slice e)) (hz : isNilS z = true) (ha : act Φ d st (.snil ng y) = some (x, st')) :
    Sim P c st' x ⟨dst, .binOp op t y z ty, type, pos, after, guard⟩ a w ob := by
  subst hop
  simp only [act] at ha
  have hy := R_ev h y
  have key : ∀ (A : Option Addr) (n q : Nat), a.eval y = .slice A n q → Sim P c st (.imm (.bool (if ng then !A.isNone else A.isNone))) ⟨dst, .binOp (if ng then .neq else .eql) t y z ty, type, pos, after, guard⟩ a w ob := fun A n q hv =>
    sim_same h (exec_snil ht hz hv) (by unfold R; exact ⟨rfl, rfl⟩)
  split at ha
  · rename_i e1
    rw [e1] at hy
    simp only [R] at hy
    simp only [Option.some.injEq, Prod.mk.injEq] at ha
    obtain ⟨rfl, rfl⟩ := ha
    have := key none 0 0 hy.1
    cases ng <;> exact this
  · rename_i sz tok rows e1
    rw [e1] at hy
    split at ha
    · rename_i hne
      simp only [Option.some.injEq, Prod.mk.injEq] at ha
      obtain ⟨rfl, rfl⟩ := ha
      simp only [R] at hy
      obtain ⟨A, q, hv, _, _, hr, _⟩ := hy
      obtain ⟨b, o, rfl, _⟩ := hr hne
      have := key _ _ _ hv
      cases ng <;> exact this
    · cases ha
  · rename_i d' g sz off n cp e1
    rw [e1] at hy
    split at ha
    · rename_i hg
      simp only [Option.some.injEq, Prod.mk.injEq] at ha
      obtain ⟨rfl, rfl⟩ := ha
      simp only [R] at hy
      obtain ⟨_, A, q, hv, _, _, _, hb⟩ := hy
      obtain ⟨b, o, _, rfl, _⟩ := hb hg
      have := key _ _ _ hv
      cases ng <;> exact this
    · cases ha
  · cases ha
theorem sim_asl (h : FR c st a w ow τ ob) {t e : TypeId} {y : Operand} {n : Nat} {ie : TypeInfo} (ht : P.underlying t = some (.array n e)) (hi : P.info? e = some ie) (ha : act Φ d st (.asl ie.size n y) = some (x, st')) :
    Sim P c st' x ⟨dst, .slice t y none none none, type, pos, after, guard⟩ a w ob := by
  simp only [act] at ha
  have hy := R_ev h y
  split at ha
  · rename_i d' g q e1
    rw [e1] at hy
    split at ha
    · rename_i hc
      obtain ⟨hg, hl, hm⟩ := hc
      simp only [Option.some.injEq, Prod.mk.injEq] at ha
      obtain ⟨rfl, rfl⟩ := ha
      simp only [R] at hy
      obtain ⟨hpg, _, hb⟩ := hy
      obtain ⟨b, hvb, hv⟩ := hb hg
      obtain ⟨cs, T', hheap, _, _, hr⟩ := var_block h hvb
      have hlen := Rs_length hr
      refine sim_same h (v := .slice (some ⟨b, q, none⟩) n n) ?_ ?_
      · by_cases hn : n = 0
        · simp [execOp, Instr.sliceAt, run_underlying' ht, hv, Instr.sureAddr, Instr.sliceBounds, run_sizeOf' hi, hn]
        · simp [execOp, Instr.sliceAt, run_underlying' ht, hv, Instr.sureAddr, Instr.sliceBounds, run_sizeOf' hi, hn, addr_add]
      · simp only [R]
        refine ⟨hpg, _, _, rfl, Nat.le_refl _, by unfold maxLen; omega, fun c' hc' => by injection hc' with hc'; exact hc'.symm, fun _ => ⟨b, q, ⟨hvb.1, hvb.2.1, ?_⟩, rfl, fun _ => rfl⟩⟩
        rw [hheap]
        exact ⟨rfl, by simp at hlen; omega⟩
    · cases ha
  · cases ha
theorem sim_capv (h : FR c st a w ow τ ob) {t e : TypeId} {y : Operand} {args : Array Operand} {argTypes : Array TypeId} (hargs : args.toList = [y]) (htys : argTypes.toList = [t]) (ht : P.underlying t = some (.slice e))
    (ha : act Φ d st (.capv y) = some (x, st')) : Sim P c st' x ⟨dst, .call { callee := .builtin .cap, args := args, argTypes := argTypes }, type, pos, after, guard⟩ a w ob := by
  have e1 : args = #[y] := by rw [← Array.toArray_toList (xs := args), hargs]
  have e2 : argTypes = #[t] := by rw [← Array.toArray_toList (xs := argTypes), htys]
  subst e1
  subst e2
  simp only [act] at ha
  have hy := R_ev h y
  split at ha
  · rename_i e
    rw [e] at hy
    simp only [R] at hy
    simp only [Option.some.injEq, Prod.mk.injEq] at ha
    obtain ⟨rfl, rfl⟩ := ha
    exact sim_same h (v := .int .i64 0) (by simp [execOp, resolve, invoke, builtin, Builtin.cap_, run_underlying' ht, hy.1, goInt]) (by unfold R; exact ⟨rfl, rfl⟩)
  · rename_i sz rows e
    rw [e] at hy
    simp only [R] at hy
    obtain ⟨A, z, hv, _, _, _, rfl⟩ := hy
    simp only [Option.some.injEq, Prod.mk.injEq] at ha
    obtain ⟨rfl, rfl⟩ := ha
    exact sim_same h (v := .int .i64 rows.length) (by simp [execOp, resolve, invoke, builtin, Builtin.cap_, run_underlying' ht, hv, goInt]) (by unfold R; exact ⟨rfl, rfl⟩)
  · rename_i d' g sz off n cc e
    rw [e] at hy
    simp only [R] at hy
    obtain ⟨_, A, z, hv, _, _, hcp, _⟩ := hy
    have := hcp cc rfl
    subst this
    simp only [Option.some.injEq, Prod.mk.injEq] at ha
    obtain ⟨rfl, rfl⟩ := ha
    exact sim_same h (v := .int .i64 cc) (by simp [execOp, resolve, invoke, builtin, Builtin.cap_, run_underlying' ht, hv, goInt]) (by unfold R; exact ⟨rfl, rfl⟩)
  · cases ha
theorem sim_cpy (h : FR c st a w ow τ ob) {t u e : TypeId} {y z : Operand} {args : Array Operand} {argTypes : Array TypeId} {i : TypeInfo} (hargs : args.toList = [y, z]) (htys : argTypes.toList = [t, u]) (ht : P.underlying t = some (.slice e)) (hi : P.info? e = some i)
    (ha : act Φ d st (.cpy i.size y z) = some (x, st')) : Sim P c st' x ⟨dst, .call { callee := .builtin .copy, args := args, argTypes := argTypes }, type, pos, after, guard⟩ a w ob := by
  have e1 : args = #[y, z] := by rw [← Array.toArray_toList (xs := args), hargs]
  have e2 : argTypes = #[t, u] := by rw [← Array.toArray_toList (xs := argTypes), htys]
  subst e1
  subst e2
  simp only [act] at ha
  split at ha
  · rename_i d' g sz' off n cp ev
    have hy := R_ev h y
    rw [vslOf_eq ev] at hy
    split at ha
    · rename_i m news es
      split at ha
      · rename_i hc
        obtain ⟨rfl, hg, hn⟩ := hc
        simp only [Option.some.injEq, Prod.mk.injEq] at ha
        obtain ⟨rfl, rfl⟩ := ha
        obtain ⟨A2, n2, z2, us, hv2, hnz2, hz2, hm, hrn, hlu, hcell⟩ := src_vals h es (R_ev h z)
        simp only [R] at hy
        obtain ⟨_, A, zc, hv, hnz, _, _, hb⟩ := hy
        obtain ⟨b, o, hvb, rfl, ho⟩ := hb hg
        have := ho (by omega)
        subst this
        obtain ⟨cs, T', hheap, hsz, h1, hr⟩ := var_block h hvb
        have hmn : m ≤ n := by rw [hm]; exact Nat.min_le_right _ _
        have hmz : m * i.size ≤ zc * i.size := Nat.mul_le_mul_right _ (by omega)
        have hfit : o + us.length ≤ cs.size := by rw [hlu]; omega
        have hln : news.length = us.length := (Rs_length hrn).symm
        have hpad := Rs_pad (m := o + news.length) h1 (by simp; omega) hr
        have hpl := padTo_length (st.var d') (o + news.length)
        have hml : (padTo (st.var d') (o + news.length)).length ≤ cs.toList.length := by
          have := Rs_length hr
          simp at this ⊢
          omega
        have hsp := Rs_splice o hpad hrn
        rw [← splice_take (by omega) hml, ← splice_length (padTo (st.var d') (o + news.length)) news o (by omega)] at hsp
        obtain ⟨k1, k2⟩ := h.setVar hvb.1 hvb.2.1 hheap (by rw [splice_length _ _ _ (by simpa using hfit)]; simp) (splice_one h1 (Rs_one hrn)) hsp
        intro K Q hK
        have hst := run_storeCells_at P b o T' us 0 cs w hheap (by simpa using hfit) (Rs_one hrn)
        simp only [Nat.add_zero] at hst
        have hfc : (Builtin.firstCells i.size m (.slice A2 n2 z2)).run P w = .ok us.toArray w := by
          by_cases h0 : m = 0
          · have hu : us = [] := List.eq_nil_of_length_eq_zero (by rw [hlu, h0, Nat.zero_mul])
            subst hu
            subst h0
            cases A2 <;> simp [Builtin.firstCells, loadCells, loadCellsFrom]
          · obtain ⟨ad, rfl, hcc⟩ := hcell h0
            exact run_firstCells_some w i.size m ad n2 z2 us hlu hcc
        refine wp_value (v := .int .i64 m) (w' := w.setRow b (splice cs.toList o us).toArray) ?_ (hK _ _ _ _ k1 (by unfold R; exact ⟨rfl, rfl⟩))
        have hmin : Nat.min n2 n = m := by rw [hm]; rfl
        simp only [execOp, resolve, invoke, builtin, Sem.run_bind, Sem.run_pure, Result.andThen_ok, List.map_toArray, List.map_cons, List.map_nil, hv, hv2, Builtin.copy_, List.getElem?_toArray, List.getElem?_cons_zero, List.getElem?_cons_succ, run_underlying' ht, Builtin.lenOf, run_sizeOf' hi, hmin, hfc, hst, goInt, splice]
      · cases ha
    · cases ha
  · cases ha
theorem R_vslNew {d g n z : Nat} {cp : Option Nat} {sz b : Nat} {k : K} (hpg : k.pg d g) (hvb : k.vb d b (some (z * sz))) (h1 : n ≤ z) (h2 : z ≤ maxLen) (hcp : ∀ c', cp = some c' → c' = z) : R k (.vsl d g sz 0 n cp) (.slice (some ⟨b, 0, none⟩) n z) := by
  simp only [R]
  exact ⟨hpg, _, _, rfl, h1, h2, hcp, fun _ => ⟨b, 0, by rw [Nat.zero_add]; exact hvb, rfl, fun _ => rfl⟩⟩
theorem zeros_length {z : List Value} (n : Nat) : (List.replicate n z).flatten.length = n * z.length := by simp
theorem size_zeroCells' {z : Array Value} (n : Nat) : (Builtin.zeroCells z n).toList.length = n * z.size := by simp [Builtin.zeroCells]
theorem sim_appz (h : FR c st a w ow τ ob) {t u e : TypeId} {y q : Operand} {args : Array Operand} {argTypes : Array TypeId} {i : TypeInfo} {zv : Value} {kk : IntKind} (hargs : args.toList = [y, q]) (htys : argTypes.toList = [t, u]) (ht : P.underlying t = some (.slice e)) (hu : P.underlying u = some (.int kk)) (hi : P.info? e = some i) (hzv : i.zero = some zv)
    (hsz : 0 < i.size) (hby : 0 < i.bytes) (hzs : zv.cells.size = i.size) (hz1 : zv.cells.toList.all (·.oneCell') = true) (ha : act Φ d st (.appz i.size i.bytes zv.cells.toList y q) = some (x, st')) :
    Sim P c st' x ⟨dst, .call { callee := .builtin .append, args := args, argTypes := argTypes }, type, pos, after, guard⟩ a w ob := by
  have e1 : args = #[y, q] := by rw [← Array.toArray_toList (xs := args), hargs]
  have e2 : argTypes = #[t, u] := by rw [← Array.toArray_toList (xs := argTypes), htys]
  subst e1
  subst e2
  have hz1' := List.all_eq_true.1 hz1
  simp only [act] at ha
  split at ha
  · rename_i d' g sz' off k cc m ev em
    have hy := R_ev h y
    rw [vslOf_eq ev] at hy
    obtain ⟨kq, hq⟩ := R_asInt (R_ev h q) em
    split at ha
    · rename_i hc
      obtain ⟨rfl, hg, hl, h0, hgrow, hbound⟩ := hc
      simp only [Option.some.injEq, Prod.mk.injEq] at ha
      obtain ⟨rfl, rfl⟩ := ha
      obtain ⟨mm, rfl⟩ : ∃ mm : Nat, m = mm := ⟨m.toNat, by omega⟩
      simp only [Int.toNat_natCast] at hgrow hbound ⊢
      simp only [R] at hy
      obtain ⟨_, A, zc, hv, hkz, hzm, hcp, hb⟩ := hy
      have := hcp cc rfl
      subst this
      obtain ⟨b, o, hvb, rfl, ho⟩ := hb hg
      obtain ⟨cs, T', hheap, hcs, h1, hr⟩ := var_block h hvb
      have hro := Rs_take (k * i.size) (Rs_drop off hr)
      have hlo : (((cs.toList.take (st.var d').length).drop off).take (k * i.size)).length = k * i.size := by
        rw [Rs_length hro]; simp; omega
      have holds : ∀ j u, (((cs.toList.take (st.var d').length).drop off).take (k * i.size))[j]? = some u → w.cell? ((⟨b, o, none⟩ : Addr).add j) = some u := by
        intro j u hj
        have hjl := (List.getElem?_eq_some_iff.1 hj).1
        rw [hlo] at hjl
        have hk0 : 0 < k := by rcases Nat.eq_zero_or_pos k with h | h; · subst h; omega
                               · exact h
        have := ho (by omega)
        subst this
        rw [addr_add]
        exact var_cells hheap j u hj
      have htot : k + mm ≤ 140737488355328 := Nat.le_trans (Nat.le_mul_of_pos_right _ hby) hbound
      have hn : ¬ (k + mm ≤ cc) := by omega
      have hm0 : mm ≠ 0 := by omega
      have hw : IntKind.i64.wrap (mm : Int) = mm := by rw [IntKind.wrap_i64]; omega
      have h63' : ¬ (9223372036854775807 < ((k : Int) + (mm : Int))) := by omega
      have h48 := growslice_fits (old := cc) (need := k + mm) (bytes := i.bytes) (by omega) hbound
      have h48' : ¬ (281474976710656 < Builtin.nextslicecap (k + mm) cc * i.bytes) := by omega
      have hmb : mm * i.bytes ≤ (k + mm) * i.bytes := Nat.mul_le_mul_right _ (by omega)
      have h48i : ¬ (281474976710656 < (mm : Int) * (i.bytes : Int)) := by
        rw [← Int.natCast_mul]; omega
      have hneg : ¬ ((mm : Int) < 0) := by omega
      have hns : ¬ (mm * i.size = 0) := Nat.mul_ne_zero hm0 (by omega)
      have hfo := run_firstCells_some (P := P) w.drew i.size k ⟨b, o, none⟩ k cc _ hlo (by simpa using holds)
      have hrun : (Builtin.append_ #[t, u] type #[.slice (some ⟨b, o, none⟩) k cc, .int kq mm]).run P w =
          .ok (.slice (some ⟨w.heap.size, 0, none⟩) (k + mm) (grownCap w (k + mm) cc e)) (w.drew.alloc (.cells ((((cs.toList.take (st.var d').length).drop off).take (k * i.size)).toArray ++ Builtin.zeroCells zv.cells mm ++ Builtin.zeroCells zv.cells (grownCap w (k + mm) cc e - (k + mm))) e)) := by
        simp [Builtin.append_, run_underlying ht, run_underlying hu, sizeOf, typeInfo, zeroValue, hi, hzv, asInt, asIntOf, hw, hn, hneg, hns, h63', h48', h48i, Question.forced, hfo, newRow, grownCap]
      have hge := grownCap_ge w (k + mm) cc e
      have hle := grownCap_le_maxLen w (k + mm) cc e (by unfold maxLen; omega)
      have hRs : Rs (Kof c st w ow τ ob) (((st.var d').drop off).take (k * i.size) ++ (List.replicate mm (zv.cells.toList.map AV.imm)).flatten) ((((cs.toList.take (st.var d').length).drop off).take (k * i.size)) ++ (Builtin.zeroCells zv.cells mm).toList) := by
        refine Rs_append hro ?_
        rw [zeros_list mm (by omega)]
        exact Rs_zeros hz1' mm
      have hlR := Rs_length hRs
      have hone : ∀ v ∈ ((((cs.toList.take (st.var d').length).drop off).take (k * i.size)).toArray ++ Builtin.zeroCells zv.cells mm ++ Builtin.zeroCells zv.cells (grownCap w (k + mm) cc e - (k + mm))).toList, v.oneCell' = true := by
        intro v hv
        simp only [Array.toList_append, List.mem_append] at hv
        rcases hv with (hv | hv) | hv
        · exact h1 v (List.mem_of_mem_take (List.mem_of_mem_drop (List.mem_of_mem_take hv)))
        · rw [zeros_list _ (by omega)] at hv; exact zeros_one hz1' _ v hv
        · rw [zeros_list _ (by omega)] at hv; exact zeros_one hz1' _ v hv
      obtain ⟨k1, _, k3, k4⟩ := h.drew.newVarO d (xs := ((st.var d').drop off).take (k * i.size) ++ (List.replicate mm (zv.cells.toList.map AV.imm)).flatten) (.cells ((((cs.toList.take (st.var d').length).drop off).take (k * i.size)).toArray ++ Builtin.zeroCells zv.cells mm ++ Builtin.zeroCells zv.cells (grownCap w (k + mm) cc e - (k + mm))) e) ⟨rfl, hone, by
        simp only [Array.toList_append]
        rw [← hlR]
        rw [List.take_left]
        exact hRs⟩
      intro K Q hK
      refine wp_value ?_ (hK (.slice (some ⟨w.heap.size, 0, none⟩) (k + mm) (grownCap w (k + mm) cc e)) _ _ _ k1 (R_vslNew k3 (k4 _ ⟨rfl, ?_⟩) hge hle (fun c' hc' => by cases hc')))
      · simp only [execOp, resolve, invoke, builtin, Sem.run_bind, Sem.run_pure, Result.andThen_ok, List.map_toArray, List.map_cons, List.map_nil, hv, hq, hrun]
      · rw [← Array.length_toList, Array.toList_append, Array.toList_append, List.length_append, List.length_append, size_zeroCells', size_zeroCells', hzs]
        have e3 : ((((cs.toList.take (st.var d').length).drop off).take (k * i.size)).toArray.toList).length = k * i.size := hlo
        rw [e3, ← Nat.add_mul, ← Nat.add_mul]
        exact Nat.mul_le_mul_right _ (by omega)
    · cases ha
  · cases ha
theorem sim_mksl (h : FR c st a w ow τ ob) {t e : TypeId} {q : Nat} {i : TypeInfo} {zv : Value} (ht : P.underlying t = some (.slice e)) (hi : P.info? e = some i) (hzv : i.zero = some zv) (hzs : zv.cells.size = i.size) (hsz : 0 < i.size) (hby : 0 < i.bytes) (hz1 : zv.cells.toList.all (·.oneCell') = true)
    (ha : act Φ d st (.mksl i.size i.bytes zv.cells.toList (.tmp q)) = some (x, st')) : Sim P c st' x ⟨dst, .makeSlice t (.tmp q) (.tmp q), type, pos, after, guard⟩ a w ob := by
  have hz1' := List.all_eq_true.1 hz1
  simp only [act] at ha
  split at ha
  · rename_i m em
    obtain ⟨kq, hq⟩ := R_asInt (R_ev h (.tmp q)) em
    split at ha
    · rename_i hc
      obtain ⟨h0, hbound⟩ := hc
      simp only [Option.some.injEq, Prod.mk.injEq] at ha
      obtain ⟨rfl, rfl⟩ := ha
      obtain ⟨mm, rfl⟩ : ∃ mm : Nat, m = mm := ⟨m.toNat, by omega⟩
      simp only [Int.toNat_natCast] at hbound ⊢
      have hml : mm ≤ 140737488355328 := Nat.le_trans (Nat.le_mul_of_pos_right _ hby) hbound
      have hbi : (i.bytes : Int) * (mm : Int) ≤ 281474976710656 := by
        rw [← Int.natCast_mul, Nat.mul_comm]; omega
      have hrun := run_make (P := P) w t e i zv ht hi hzv kq kq (mm : Int) (mm : Int) h0 (Int.le_refl _) hbi (by omega)
      simp only [Int.toNat_natCast] at hrun
      have hmade : (madeCells zv.cells (mm * i.size)).toList = (List.replicate mm zv.cells.toList).flatten := by
        rw [← zeros_list mm (by omega)]
        unfold madeCells Builtin.zeroCells
        rw [hzs]
      obtain ⟨k1, _, k3, k4⟩ := h.newVarO d (xs := (List.replicate mm (zv.cells.toList.map AV.imm)).flatten) (.cells (madeCells zv.cells (mm * i.size)) e) ⟨rfl, by rw [hmade]; exact zeros_one hz1' _, by
        rw [hmade]
        have := Rs_zeros (k := Kof c st w ow τ ob) hz1' mm
        rw [← Rs_length this, List.take_length]
        exact this⟩
      intro K Q hK
      refine wp_value ?_ (hK (.slice (some ⟨w.heap.size, 0, none⟩) mm mm) _ _ _ k1 (R_vslNew k3 (k4 _ ⟨rfl, ?_⟩) (Nat.le_refl _) (by unfold maxLen; omega) (fun c' hc' => by injection hc' with hc'; exact hc'.symm)))
      · simp only [execOp, hq, Sem.run_bind, hrun, Result.andThen_ok, Sem.run_pure]
      · rw [← Array.length_toList, hmade, zeros_length]
        simp [hzs]
    · cases ha
  · cases ha
end
end Go.Av

namespace Go.Av
variable {σ : Type}

/-! ### keys -/
section
variable {P : Program} {w : World}
theorem range_list {m : Type → Type} [Monad m] [LawfulMonad m] {β : Type} (n : Nat) (init : β) (f : Nat → β → m (ForInStep β)) : (forIn [0:n] init f) = forIn (List.range' 0 n) init f := by
  rw [Std.Legacy.Range.forIn_eq_forIn_range']
  simp
def eqElems (d : Nat) (e : TypeId) (sz : Nat) (xs ys : Array Value) : List Nat → Sem Bool
  | [] => pure true
  | i :: l => do
    let a ← part e xs (i * sz)
    let b ← part e ys (i * sz)
    let r ← Op.equalIn d e a b
    if (!r) = true then pure false else eqElems d e sz xs ys l
theorem run_equalIn_array (w : World) (d : Nat) (t e : TypeId) (n : Nat) (ie : TypeInfo) (xs ys : Array Value) (ht : P.underlying t = some (.array n e)) (hi : P.info? e = some ie) :
    (Op.equalIn (d + 1) t (.agg xs) (.agg ys)).run P w = (eqElems d e ie.size xs ys (List.range' 0 n)).run P w := by
  simp only [Op.equalIn, Sem.run_bind, run_underlying ht, Result.andThen_ok, run_sizeOf' hi]
  rw [range_list]
  generalize List.range' 0 n = l
  clear ht
  induction l generalizing w with
  | nil => simp [eqElems]
  | cons f fs ih =>
    simp only [List.forIn_cons, eqElems, Sem.run_bind, Sem.run_ite]
    generalize (part e xs (f * ie.size)).run P w = r1
    cases r1 with
    | ok a w1 =>
      simp only [Result.andThen_ok]
      generalize (part e ys (f * ie.size)).run P w1 = r2
      cases r2 with
      | ok b w2 =>
        simp only [Result.andThen_ok]
        generalize (Op.equalIn d e a b).run P w2 = r3
        cases r3 with
        | ok r w3 =>
          cases r
          · simp only [Result.andThen_ok, Bool.not_false, if_true, Sem.run_pure]
          · simp only [Result.andThen_ok, Bool.not_true, Bool.false_eq_true, if_false, Sem.run_pure]
            exact ih w3
        | halt x w3 => simp [Result.andThen]
      | halt x w2 => simp [Result.andThen]
    | halt x w1 => simp [Result.andThen]

theorem run_part_int {e : TypeId} {kk : IntKind} {ie : TypeInfo} (he : P.underlying e = some (.int kk)) (hi : P.info? e = some ie) (h1 : ie.size = 1) {cs : Array Value} {i : Nat} (hl : i < cs.size) : (part e cs (i * ie.size)).run P w = .ok cs[i] w := by
  have := run_part' (P := P) (w := w) hi he (by simp [h1]) (cs := cs) (off := i * ie.size) (by rw [h1]; omega)
  rw [this]
  have hag : isAggB P e = false := by simp [isAggB, he]
  rw [hag]
  simp only [ofCells, Bool.false_eq_true, if_false, h1, Nat.mul_one]
  congr 1
  simp [List.getD_eq_getElem?_getD, hl]
theorem eqElems_run (k : K) {e : TypeId} {kk : IntKind} {ie : TypeInfo} (he : P.underlying e = some (.int kk)) (hi : P.info? e = some ie) (h1 : ie.size = 1) (d : Nat) : ∀ (m s : Nat) (us vs : Array Value) (xs ys : List AV) (r : Bool), Rs k xs us.toList → Rs k ys vs.toList → us.size = s + m → vs.size = s + m →
    eqCells (List.replicate m 1) (xs.drop s) (ys.drop s) = some r → (eqElems (d + 1) e ie.size us vs (List.range' s m)).run P w = .ok r w
  | 0, s, us, vs, xs, ys, r, hx, hy, l1, l2, hq => by
    have a1 := Rs_length hx
    have a2 := Rs_length hy
    rw [List.drop_of_length_le (by simp at a1; omega), List.drop_of_length_le (by simp at a2; omega)] at hq
    simp only [List.replicate_zero, eqCells, Option.some.injEq] at hq
    subst hq
    simp [eqElems]
  | m + 1, s, us, vs, xs, ys, r, hx, hy, l1, l2, hq => by
    have a1 := Rs_length hx
    have a2 := Rs_length hy
    simp only [Array.length_toList] at a1 a2
    rw [List.drop_eq_getElem_cons (l := xs) (by omega), List.drop_eq_getElem_cons (l := ys) (by omega), List.replicate_succ] at hq
    simp only [eqCells] at hq
    split at hq
    · rename_i p q hp hq'
      injection hq with hq
      subst hq
      obtain ⟨kq, A, B, e1, e2, rfl⟩ := eqCell1 hp
      obtain ⟨u, hu, hRu, _⟩ := Rs_get hx s _ (List.getElem?_eq_getElem (by omega))
      obtain ⟨v, hv, hRv, _⟩ := Rs_get hy s _ (List.getElem?_eq_getElem (by omega))
      rw [e1] at hRu
      rw [e2] at hRv
      simp only [R] at hRu hRv
      have hu' : us[s]'(by omega) = .int kq A := by
        have := hu; rw [Array.getElem?_toList, Array.getElem?_eq_getElem (by omega)] at this
        injection this with this; rw [this]; exact hRu.1
      have hv' : vs[s]'(by omega) = .int kq B := by
        have := hv; rw [Array.getElem?_toList, Array.getElem?_eq_getElem (by omega)] at this
        injection this with this; rw [this]; exact hRv.1
      have ih := eqElems_run k he hi h1 d m (s + 1) us vs xs ys q hx hy (by omega) (by omega) hq'
      simp only [List.range'_succ, eqElems, Sem.run_bind, run_part_int he hi h1 (show s < us.size by omega), run_part_int he hi h1 (show s < vs.size by omega), Result.andThen_ok, hu', hv', run_equalIn_int w d e _ _ _ _ he, Sem.run_ite, ih, Sem.run_pure]
      cases (A == B) <;> simp
    · cases hq

/-- Equality of keys. -/
theorem run_keyEq {kt : TypeId} {ks : List Nat} (hk : keyKinds P kt = some ks) {k : K} {xs ys : List AV} {us vs : List Value} {r : Bool} (hx : Rs k xs us) (hy : Rs k ys vs) (l1 : xs.length = ks.length) (hq : eqCells ks xs ys = some r) :
    (Op.equal kt (ofCells (isAggB P kt) us) (ofCells (isAggB P kt) vs)).run P w = .ok r w := by
  obtain ⟨l1', l2'⟩ := eqCells_length hq
  have a1 := Rs_length hx
  have a2 := Rs_length hy
  have flat : ∀ ks', eqKinds P 40 kt = some ks' → ks' = ks → (Op.equal kt (ofCells (isAggB P kt) us) (ofCells (isAggB P kt) vs)).run P w = .ok r w := by
    rintro ks' h rfl
    exact (run_eqKinds w k 40).1 kt ks' h 10000 (by omega) us vs xs ys r hx hy (by omega) (by omega) hq
  unfold keyKinds at hk
  split at hk
  · rename_i hu
    injection hk with hk
    exact flat [2] (by simp [eqKinds, hu]) hk
  · rename_i q hu
    injection hk with hk
    exact flat [1] (by simp [eqKinds, hu]) hk
  · rename_i n e hu
    split at hk
    · rename_i kk ie he hi
      split at hk
      · rename_i h1
        injection hk with hk
        subst hk
        have hag : isAggB P kt = true := by simp [isAggB, hu]
        rw [hag]
        simp only [ofCells, if_true]
        simp only [List.length_replicate] at l1' l2'
        show (Op.equalIn (9999 + 1) kt _ _).run P w = _
        rw [run_equalIn_array w 9999 kt e n ie _ _ hu hi]
        exact eqElems_run k he hi h1 9998 n 0 us.toArray vs.toArray xs ys r (by simpa using hx) (by simpa using hy) (by simp; omega) (by simp; omega) (by simpa using hq)
      · cases hk
    · cases hk
  · rename_i fs hu
    split at hk
    · split at hk
      · rename_i ks' i h1 h2
        split at hk
        · injection hk with hk
          exact flat ks' h1 hk
        · cases hk
      · cases hk
    · cases hk
  · cases hk
theorem run_forIn_unit (f : Nat → PUnit → Sem (ForInStep PUnit)) : ∀ (l : List Nat), (∀ i ∈ l, (f i ⟨⟩).run P w = .ok (.yield ⟨⟩) w) → (forIn l PUnit.unit f).run P w = .ok ⟨⟩ w
  | [], _ => by simp
  | i :: l, h => by
    simp only [List.forIn_cons, Sem.run_bind, h i (by simp), Result.andThen_ok]
    exact run_forIn_unit f l fun j hj => h j (by simp [hj])
theorem run_checkKey_int {e : TypeId} {kk : IntKind} (he : P.underlying e = some (.int kk)) (em : Bool) (n : Nat) (v : Value) : (Instr.checkKey em (n + 1) e v).run P w = .ok () w := by
  simp only [Instr.checkKey, Sem.run_bind, run_underlying' he, Result.andThen_ok]
  cases v <;> rfl
theorem run_checkKeyN {kt : TypeId} {ks : List Nat} (hk : keyKinds P kt = some ks) (em : Bool) (n : Nat) {us : List Value} (hl : us.length = ks.length) : (Instr.checkKey em (n + 2) kt (ofCells (isAggB P kt) us)).run P w = .ok () w := by
  unfold keyKinds at hk
  split at hk
  · rename_i hu
    simp only [Instr.checkKey, Sem.run_bind, run_underlying' hu, Result.andThen_ok]
    cases (ofCells (isAggB P kt) us) <;> rfl
  · rename_i q hu
    exact run_checkKey_int hu em _ _
  · rename_i m e hu
    split at hk
    · rename_i kk ie he hi
      split at hk
      · rename_i h1
        injection hk with hk
        subst hk
        have hag : isAggB P kt = true := by simp [isAggB, hu]
        rw [hag]
        simp only [ofCells, if_true]
        simp only [List.length_replicate] at hl
        rw [Instr.checkKey]
        simp only [Sem.run_bind, run_underlying' hu, Result.andThen_ok]
        rw [range_list]
        rw [run_forIn_unit]
        · rfl
        · intro i hi'
          have hi'' : i < us.toArray.size := by simp at hi'; simp; omega
          simp only [Sem.run_bind, run_sizeOf' hi, Result.andThen_ok, run_part_int he hi h1 hi'', run_checkKey_int he, Sem.run_pure]
      · cases hk
    · cases hk
  · rename_i fs hu
    split at hk
    · rename_i hall
      split at hk
      · rename_i ks' i h1 h2
        split at hk
        · rename_i hks
          injection hk with hk
          subst hk
          have hag : isAggB P kt = true := by simp [isAggB, hu]
          rw [hag]
          simp only [ofCells, if_true]
          rw [Instr.checkKey]
          simp only [Sem.run_bind, run_underlying' hu, Result.andThen_ok]
          simp only [eqKinds, hu] at h1
          split at h1
          · cases h1
          · have key : ∀ (l : List Field) (m off : Nat) (kq : List Nat), eqKindsF P m l off = some kq → l.all (fun f => match P.underlying f.type with | some (.int _) => true | _ => false) = true → off + kq.length ≤ us.toArray.size →
                (forIn l PUnit.unit (fun f _ => do
                  if f.name ≠ "_" then
                    Instr.checkKey em (n + 1) f.type (← part f.type us.toArray f.offset)
                    pure (ForInStep.yield PUnit.unit)
                  else pure (ForInStep.yield PUnit.unit)) : Sem PUnit).run P w = .ok ⟨⟩ w := by
              intro l
              induction l with
              | nil => intro m off kq _ _ _; simp
              | cons f l ih =>
                intro m off kq hkq hal hle
                simp only [List.all_cons, Bool.and_eq_true] at hal
                obtain ⟨m, rfl⟩ : ∃ m', m = m' + 1 := by cases m with | zero => simp [eqKindsF] at hkq | succ m => exact ⟨m, rfl⟩
                simp only [eqKindsF] at hkq
                split at hkq
                · rename_i ks1 i1 hk1 hi1
                  split at hkq
                  · rename_i hc
                    obtain ⟨ks2, hk2, rfl⟩ := Option.map_eq_some_iff.1 hkq
                    obtain ⟨c1, c2, c3, c4⟩ := hc
                    have hf : ∃ kk, P.underlying f.type = some (.int kk) := by
                      have := hal.1
                      split at this
                      · exact ⟨_, by assumption⟩
                      · cases this
                    obtain ⟨kk, hf⟩ := hf
                    rw [List.length_append] at hle
                    have hp := run_part' (P := P) (w := w) hi1 hf (by rcases c4 with h | h <;> simp [h]) (cs := us.toArray) (off := f.offset) (by omega)
                    simp only [List.forIn_cons, Sem.run_bind, Sem.run_ite, hp, run_checkKey_int hf, Result.andThen_ok, Sem.run_pure, c1, ne_eq, not_false_eq_true, if_true]
                    exact ih m (off + i1.size) ks2 hk2 hal.2 (by omega)
                  · cases hkq
                · cases hkq
            have := key fs.toList 39 0 _ h1 hall (by simp; omega)
            rw [← Array.forIn_toList]
            rw [this]
            rfl
        · cases hk
      · cases hk
    · cases hk
  · cases hk
end
/-! ### entries -/
section
variable {P : Program} {w : World}
theorem keyc_cells {k : K} {ag : Bool} {kx : AV} {c : List AV} {v : Value} (h : kx.keyc ag = some c) (hR : R k kx v) : ∃ us, v = ofCells ag us ∧ Rs k c us := by
  unfold AV.keyc at h
  split at h
  · injection h with h
    subst h
    simp only [R] at hR
    obtain ⟨arr, rfl, hr⟩ := hR
    exact ⟨arr.toList, by simp [ofCells], hr⟩
  · injection h with h
    subst h
    rename_i u
    have hR' := hR
    simp only [R] at hR'
    obtain ⟨rfl, h1⟩ := hR'
    refine ⟨[v], by simp [ofCells], ?_⟩
    simp only [Rs]
    exact ⟨v, [], rfl, hR, h1, rfl⟩
  · cases h
def plainV (u : Value) : Prop := (∃ b, u = .bool b) ∨ (∃ k n, u = .int k n) ∨ ∃ s, u = .string s
theorem eqCells_true {k : K} : ∀ {ks : List Nat} {xs ys : List AV} {us vs : List Value}, eqCells ks xs ys = some true → Rs k xs us → Rs k ys vs → us = vs ∧ ∀ u ∈ us, plainV u
  | [], [], [], us, vs, _, hx, hy => by
    simp only [Rs] at hx hy
    subst hx; subst hy
    exact ⟨rfl, by simp⟩
  | [], [], _ :: _, us, vs, h, _, _ => by simp [eqCells] at h
  | [], _ :: _, ys, us, vs, h, _, _ => by cases ys <;> simp [eqCells] at h
  | q :: ks, [], ys, us, vs, h, _, _ => by simp [eqCells] at h
  | q :: ks, x :: xs, [], us, vs, h, _, _ => by simp [eqCells] at h
  | q :: ks, x :: xs, y :: ys, us, vs, h, hx, hy => by
    simp only [eqCells] at h
    split at h
    · rename_i a b ha hb
      injection h with h
      simp only [Bool.and_eq_true] at h
      obtain ⟨rfl, rfl⟩ := h
      simp only [Rs] at hx hy
      obtain ⟨u, ur, rfl, hu, _, hur⟩ := hx
      obtain ⟨v, vr, rfl, hv, _, hvr⟩ := hy
      obtain ⟨rfl, hp⟩ := eqCells_true hb hur hvr
      have : u = v ∧ plainV u := by
        unfold eqCell at ha
        split at ha
        · injection ha with ha
          simp only [R] at hu hv
          rw [beq_iff_eq] at ha
          subst ha
          exact ⟨hu.1.trans hv.1.symm, .inl ⟨_, hu.1⟩⟩
        · split at ha
          · injection ha with ha
            rename_i hk
            simp only [R] at hu hv
            rw [beq_iff_eq] at ha
            subst ha; subst hk
            exact ⟨hu.1.trans hv.1.symm, .inr (.inl ⟨_, _, hu.1⟩)⟩
          · cases ha
        · injection ha with ha
          simp only [R] at hu hv
          rw [beq_iff_eq] at ha
          rw [ByteArray.toList_eq, ByteArray.toList_eq] at ha
          rename_i p q
          have : p = q := by
            cases p; cases q
            simp at ha
            rw [ha]
          subst this
          exact ⟨hu.1.trans hv.1.symm, .inr (.inr ⟨_, hu.1⟩)⟩
        · cases ha
      obtain ⟨rfl, h1⟩ := this
      refine ⟨rfl, fun z hz => ?_⟩
      rcases List.mem_cons.1 hz with rfl | hz
      · exact h1
      · exact hp z hz
    · cases h
theorem sameBits_plain (n : Nat) {u : Value} (h : plainV u) : Instr.sameBits n u u = true := by
  rcases h with ⟨b, rfl⟩ | ⟨k, m, rfl⟩ | ⟨s, rfl⟩
  · cases n <;> simp [Instr.sameBits]
  · cases n <;> simp [Instr.sameBits]
  · have : (s == s) = true := by rw [beq_toListBytes]; simp
    cases n <;> simp [Instr.sameBits, this]
theorem sameBits_cells {us : List Value} (h : ∀ u ∈ us, plainV u) (ag : Bool) (h1 : ag = false → us.length = 1) : Instr.sameBits 10000 (ofCells ag us) (ofCells ag us) = true := by
  cases ag with
  | false =>
    match us, h1 rfl with
    | [u], _ => exact sameBits_plain _ (h u (by simp))
  | true =>
    show Instr.sameBits (9999 + 1) (.agg us.toArray) (.agg us.toArray) = true
    have key : ∀ l : List Value, (∀ u ∈ l, plainV u) → (l.zip l).all (fun p => Instr.sameBits 9999 p.1 p.2) = true := by
      intro l
      induction l with
      | nil => intro _; rfl
      | cons u l ih =>
        intro hl
        simp only [List.zip_cons_cons, List.all_cons, Bool.and_eq_true]
        exact ⟨sameBits_plain _ (hl u (by simp)), ih fun z hz => hl z (by simp [hz])⟩
    have := key us h
    simp only [Instr.sameBits, Bool.and_eq_true, beq_self_eq_true, true_and]
    exact this
theorem sameNow_ok {kt : TypeId} {ks : List Nat} {ds : TypeDesc} (hk : keyKinds P kt = some ks) (hd : P.underlying kt = some ds) {k : K} {xs ys : List AV} {us vs : List Value} {r : Bool} (hx : Rs k xs us) (hy : Rs k ys vs) (l1 : xs.length = ks.length) (hq : eqCells ks xs ys = some r) :
    Instr.sameNow ds (ofCells (isAggB P kt) us) (ofCells (isAggB P kt) vs) = none ∨ Instr.sameNow ds (ofCells (isAggB P kt) us) (ofCells (isAggB P kt) vs) = some r := by
  unfold keyKinds at hk
  have one : ∀ q, ks = [q] → ∃ x u y v, xs = [x] ∧ us = [u] ∧ ys = [y] ∧ vs = [v] ∧ R k x u ∧ R k y v ∧ eqCell q x y = some r := by
    rintro q rfl
    obtain ⟨_, l2⟩ := eqCells_length hq
    match xs, ys, l1, l2 with
    | [x], [y], _, _ =>
      simp only [Rs] at hx hy
      obtain ⟨u, _, rfl, hu, _, rfl⟩ := hx
      obtain ⟨v, _, rfl, hv, _, rfl⟩ := hy
      refine ⟨x, u, y, v, rfl, rfl, rfl, rfl, hu, hv, ?_⟩
      simp only [eqCells] at hq
      split at hq
      · rename_i a b h3 h4
        injection h4 with h4
        injection hq with hq
        subst h4
        simp at hq
        subst hq
        exact h3
      · cases hq
  rw [hd] at hk
  split at hk
  · rename_i e
    injection e with e
    subst e
    injection hk with hk
    obtain ⟨x, u, y, v, rfl, rfl, rfl, rfl, hu, hv, hc⟩ := one 2 hk.symm
    obtain ⟨p, q, rfl, rfl, rfl⟩ := eqCell2 hc
    simp only [R] at hu hv
    obtain ⟨rfl, _⟩ := hu
    obtain ⟨rfl, _⟩ := hv
    right
    simp only [ofCells, isAggB, hd, Bool.false_eq_true, if_false, List.getD_cons_zero, Instr.sameNow, beq_toListBytes]
  · rename_i q e
    injection e with e
    subst e
    injection hk with hk
    obtain ⟨x, u, y, v, rfl, rfl, rfl, rfl, hu, hv, hc⟩ := one 1 hk.symm
    obtain ⟨kq, p, q, rfl, rfl, rfl⟩ := eqCell1 hc
    simp only [R] at hu hv
    obtain ⟨rfl, _⟩ := hu
    obtain ⟨rfl, _⟩ := hv
    right
    simp only [ofCells, isAggB, hd, Bool.false_eq_true, if_false, List.getD_cons_zero, Instr.sameNow, if_true]
  · rename_i n e he
    injection he with he
    subst he
    left
    rfl
  · rename_i fs he
    injection he with he
    subst he
    left
    rfl
  · cases hk

theorem setM_findM {ag : Bool} {ks : List Nat} {kc : List AV} {e : AV} : ∀ {l l' : List AV}, setM ag ks kc e l = some l' → ∃ q, findM ag ks kc l = some q
  | [], l', h => ⟨none, rfl⟩
  | x :: l, l', h => by
    unfold setM at h
    unfold findM
    split at h
    · rename_i e1; cases e1
    · rename_i kx vx r e1
      injection e1 with e1 e2
      subst e1; subst e2
      split at h
      · rename_i cc ec
        split at h
        · rename_i b eb
          split at h
          · rename_i hb; simp [ec, eb, hb]
          · rename_i hb
            obtain ⟨q, hq, _⟩ := Option.map_eq_some_iff.1 h
            obtain ⟨q', hq'⟩ := setM_findM hq
            exact ⟨q', by simp [ec, eb, hb, hq']⟩
        · cases h
      · cases h
    · cases h
/-- Where an entry is found. -/
theorem find_run {kt : TypeId} {ks : List Nat} {ds : TypeDesc} (hk : keyKinds P kt = some ks) (hd : P.underlying kt = some ds) {k : K} {kc : List AV} {us : List Value} (hc : Rs k kc us) (l1 : kc.length = ks.length) (e : AV) : ∀ (l : List AV) (es : List MapEntry) (q : Option AV) (i0 : Nat), Rm k l es → findM (isAggB P kt) ks kc l = some q →
    ∃ res, (Instr.findAsking kt (ofCells (isAggB P kt) us) es i0).run P w = .ok res w ∧ (Instr.findNow ds (ofCells (isAggB P kt) us) es i0 = none ∨ Instr.findNow ds (ofCells (isAggB P kt) us) es i0 = some res) ∧
      match q with
      | none => res = none ∧ setM (isAggB P kt) ks kc e l = some (l ++ [e])
      | some x => ∃ j me, res = some (i0 + j, me.val) ∧ es[j]? = some me ∧ R k x me.val ∧ me.key = ofCells (isAggB P kt) us ∧ (∀ u ∈ us, plainV u) ∧ setM (isAggB P kt) ks kc e l = some (l.set j e)
  | [], es, q, i0, hm, hq => by
    simp only [Rm] at hm
    subst hm
    simp only [findM, Option.some.injEq] at hq
    subst hq
    exact ⟨none, by simp [Instr.findAsking], .inr rfl, rfl, rfl⟩
  | x :: l, es, q, i0, hm, hq => by
    simp only [Rm] at hm
    obtain ⟨kx, vx, me, r, rfl, rfl, hkx, hvx, hr⟩ := hm
    simp only [findM] at hq
    split at hq
    · rename_i cc ec
      obtain ⟨vs, hv, hcc⟩ := keyc_cells ec hkx
      split at hq
      · rename_i b eb
        have heq := run_keyEq (w := w) hk hc hcc l1 eb
        have hsn := sameNow_ok hk hd hc hcc l1 eb
        split at hq
        · rename_i hb
          subst hb
          injection hq with hq
          subst hq
          obtain ⟨rfl, hp⟩ := eqCells_true eb hc hcc
          refine ⟨some (i0, me.val), by simp [Instr.findAsking, hv, heq], ?_, 0, me, rfl, rfl, hvx, hv, hp, by simp [setM, ec, eb]⟩
          rcases hsn with h | h
          · left; simp only [Instr.findNow, hv, h]
          · right; simp only [Instr.findNow, hv, h]
        · rename_i hb
          have hb' : b = false := by simpa using hb
          subst hb'
          obtain ⟨res, h1, h2, h3⟩ := find_run hk hd hc l1 e l r q (i0 + 1) hr hq
          refine ⟨res, by simp [Instr.findAsking, hv, heq, h1], ?_, ?_⟩
          · rcases hsn with h | h
            · left; simp only [Instr.findNow, hv, h]
            · simp only [Instr.findNow, hv, h]; exact h2
          · cases q with
            | none =>
              obtain ⟨rfl, h4⟩ := h3
              exact ⟨rfl, by simp [setM, ec, eb, h4]⟩
            | some x =>
              obtain ⟨j, me', rfl, h4, h5, h6, h7, h8⟩ := h3
              exact ⟨j + 1, me', by simp; omega, by simpa using h4, h5, h6, h7, by simp [setM, ec, eb, h8]⟩
      · cases hq
    · cases hq
theorem run_findKeyM {kt : TypeId} {ds : TypeDesc} (hd : P.underlying kt = some ds) {kv : Value} {es : List MapEntry} {res : Option (Nat × Value)} (h1 : (Instr.findAsking kt kv es 0).run P w = .ok res w) (h2 : Instr.findNow ds kv es 0 = none ∨ Instr.findNow ds kv es 0 = some res) : (Instr.findKey kt kv es).run P w = .ok res w := by
  unfold Instr.findKey
  simp only [Sem.run_bind, run_underlying' hd, Result.andThen_ok]
  rcases h2 with h | h
  · rw [h]; exact h1
  · rw [h]; simp
theorem keyKinds_underlying {kt : TypeId} {ks : List Nat} (hk : keyKinds P kt = some ks) : ∃ ds, P.underlying kt = some ds := by
  cases h : P.underlying kt with
  | none => simp [keyKinds, h] at hk
  | some ds => exact ⟨ds, rfl⟩
end
/-! ### the operations -/
def setBlk (w : World) (b : Nat) (o : Obj) : World := { w with heap := w.heap.setIfInBounds b o }
theorem setBlk_same {w : World} {b : Nat} {o : Obj} (h : b < w.heap.size) : (setBlk w b o).heap[b]? = some o := by simp [setBlk, h]
theorem setBlk_other {w : World} {b b' : Nat} {o : Obj} (h : b' ≠ b) : (setBlk w b o).heap[b']? = w.heap[b']? := by simp [setBlk, Array.getElem?_setIfInBounds, Ne.symm h]
theorem setBlk_size {w : World} {b : Nat} {o : Obj} : (setBlk w b o).heap.size = w.heap.size := by simp [setBlk]
theorem setBlk_cell {w : World} {b : Nat} {o : Obj} {p : Addr} (h : p.block ≠ b) : (setBlk w b o).cell? p = w.cell? p := by
  unfold World.cell?
  rw [setBlk_other h]
section
variable {P : Program} {T : List Nat} {Φ : Orc} {d : Nat} {c : Cx σ} {st st' : St σ} {x : AV} {a : Act} {w : World} {ow : Nat → Own} {τ : Nat → Nat} {ob : Nat → Value → Prop}
  {dst : Option Nat} {type : TypeId} {pos : String} {after : Array Edge} {guard : Option (Nat × Bool)}
/-- A store into a map's variable. -/
theorem FR.setMap (h : FR c st a w ow τ ob) {d b : Nat} (hb : c.base ≤ b) (hv : ow b = .var d) {xs : List AV} {es es0 : Array MapEntry} {clk clk0 : Nat} (hc0 : w.heap[b]? = some (.map es0 clk0)) (hr : Rm (Kof c st w ow τ ob) xs es.toList) :
    FR c { st with var := upd st.var d xs } a (setBlk w b (.map es clk)) ow τ ob := by
  have hlt : b < w.heap.size := (Array.getElem?_eq_some_iff.1 hc0).1
  have hcell : ∀ p : Addr, p.block ≠ b → (setBlk w b (.map es clk)).cell? p = w.cell? p := fun p hp => setBlk_cell hp
  have hk : KLe (Kof c st w ow τ ob) (Kof c { st with var := upd st.var d xs } (setBlk w b (.map es clk)) ow τ ob) := by
    refine KLe_of ?_ ?_ ?_ (fun _ => Nat.le_refl _) ?_ (fun _ => Nat.le_refl _) (fun _ _ _ h => h) ?_ (fun _ _ h => h)
    · intro p hp
      have := (c.g0 p hp).1
      exact hcell p (by omega)
    · intro p hb' hi
      exact ⟨hcell p (by rintro rfl; rw [hi] at hv; cases hv), hi⟩
    · intro p t hb' hi hlt
      exact ⟨hcell p (by rintro rfl; rw [hi] at hv; cases hv), .inr ⟨t, hi, hlt⟩⟩
    · intro d' b' _ hb' hv'
      refine ⟨hv', fun q hq => ?_⟩
      by_cases e : b' = b
      · subst e
        rw [setBlk_same hlt]
        rw [hc0] at hq
        cases q with
        | none => trivial
        | some z => exact hq.elim
      · rw [setBlk_other e]; exact hq
    · intro t n b' cur T' _ _ hb' ht hc
      refine ⟨ht, rfl, cur, T', ?_, rfl⟩
      rw [setBlk_other (by rintro rfl; rw [ht] at hv; cases hv)]; exact hc
  refine h.turn rfl hk ⟨rfl, rfl, rfl, by rw [setBlk_size]; exact Nat.le_refl _, fun k hk _ => setBlk_other (by omega)⟩ ?_ ?_ h.uniq ?_
  · intro b' hb' ho; rw [setBlk_size]; exact h.lt b' hb' ho
  · intro d' b' hb' hv'
    by_cases e : b' = b
    · subst e
      have : d' = d := by rw [hv] at hv'; injection hv' with hv'; exact hv'.symm
      subst this
      refine ⟨_, setBlk_same hlt, ?_⟩
      show VR _ (upd st.var d' xs d') _
      rw [upd_same]
      exact Rm_mono hk _ _ hr
    · have hd : d' ≠ d := by
        rintro rfl
        exact e (h.uniq d' b' b hb' hb hv' hv)
      obtain ⟨obj', hc, hr'⟩ := h.vars d' b' hb' hv'
      refine ⟨obj', by rw [setBlk_other e]; exact hc, ?_⟩
      show VR _ (upd st.var d xs d') _
      rw [upd_ne _ _ _ hd]
      exact VR_mono hk hr'
  · refine c.stable _ _ _ _ _ h.ext fun b' hb' => setBlk_other ?_
    rcases hb' with ⟨hb', _⟩ | ⟨hb', hx⟩
    · omega
    · rintro rfl; rw [hx] at hv; cases hv
theorem map_block (h : FR c st a w ow τ ob) {d b : Nat} (hv : (Kof c st w ow τ ob).vb d b none) : ∃ es clk, w.heap[b]? = some (.map es clk) ∧ Rm (Kof c st w ow τ ob) (st.var d) es.toList := by
  obtain ⟨hb, ho, hs⟩ := hv
  obtain ⟨obj, hc, hr⟩ := h.vars d b hb ho
  rw [hc] at hs
  cases obj with
  | map es clk => exact ⟨es, clk, hc, hr⟩
  | _ => exact hs.elim
theorem sim_mkmap (h : FR c st a w ow τ ob) {t : TypeId} (ha : act Φ d st .mkmap = some (x, st')) : Sim P c st' x ⟨dst, .makeMap t none, type, pos, after, guard⟩ a w ob := by
  simp only [act, Option.some.injEq, Prod.mk.injEq] at ha
  obtain ⟨rfl, rfl⟩ := ha
  obtain ⟨k1, _, k3, k4⟩ := h.newVarO d (xs := []) (.map #[] 0) rfl
  intro K Q hK
  refine wp_value (v := .map (some w.heap.size)) (w' := w.alloc (.map #[] 0)) ?_ (hK _ _ _ _ k1 ?_)
  · simp [execOp, Instr.makeMap]
  · simp only [R]
    exact ⟨k3, rfl, fun _ => ⟨_, k4 none trivial, rfl⟩⟩
theorem keyc_one {x : AV} {l : List AV} (h : x.keyc false = some l) : l.length = 1 := by
  cases x <;> simp [AV.keyc] at h
  subst h; rfl
theorem keyc_ev {ag : Bool} {ks : List Nat} {kx : AV} {kc : List AV} {k : K} {v : Value} (h : kx.keyc ag = some kc) (hl : kc.length = ks.length) (hR : R k kx v) : ∃ us, v = ofCells ag us ∧ Rs k kc us ∧ us.length = ks.length := by
  obtain ⟨us, h1, h2⟩ := keyc_cells h hR
  exact ⟨us, h1, h2, (Rs_length h2).trans hl⟩
theorem sim_mget (h : FR c st a w ow τ ob) {t kt et : TypeId} {m y : Operand} {comma : Bool} {ks : List Nat} {i : TypeInfo} {z : Value} (ht : P.underlying t = some (.map kt et)) (hk : keyKinds P kt = some ks) (hi : P.info? et = some i) (hz : i.zero = some z)
    (ha : act Φ d st (.mget (isAggB P kt) ks z comma m y) = some (x, st')) : Sim P c st' x ⟨dst, .lookup t m y comma, type, pos, after, guard⟩ a w ob := by
  simp only [act] at ha
  have hm := R_ev h m
  have hy := R_ev h y
  obtain ⟨ds, hd⟩ := keyKinds_underlying hk
  have tup : ∀ {x : AV} {v : Value} (b : Bool), R (Kof c st w ow τ ob) x v → R (Kof c st w ow τ ob) (if comma then .tup [x, .imm (.bool b)] else x) (if comma then Value.tuple #[v, .bool b] else v) := by
    intro x v b hx
    cases comma
    · exact hx
    · simp only [if_true]
      unfold R
      refine ⟨_, rfl, ?_⟩
      simp only [Rt]
      exact ⟨_, _, rfl, hx, _, _, rfl, by unfold R; exact ⟨rfl, rfl⟩, rfl⟩
  split at ha
  · rename_i d' g kc em ek
    rw [em] at hm
    obtain ⟨us, hv, hcs, hl⟩ : ∃ us, a.eval y = ofCells (isAggB P kt) us ∧ Rs (Kof c st w ow τ ob) kc us ∧ True := by
      obtain ⟨us, h1, h2⟩ := keyc_cells ek hy
      exact ⟨us, h1, h2, trivial⟩
    split at ha
    · rename_i hc
      obtain ⟨hg, hkl⟩ := hc
      obtain ⟨r, hr, hx⟩ := Option.map_eq_some_iff.1 ha
      simp only [Prod.mk.injEq] at hx
      obtain ⟨rfl, rfl⟩ := hx
      simp only [R] at hm
      obtain ⟨b, hvb, hmv⟩ := hm.2.2 hg
      obtain ⟨es, clk, hheap, hRm⟩ := map_block h hvb
      obtain ⟨res, f1, f2, f3⟩ := find_run (w := w) hk hd hcs hkl (.tup []) _ _ r 0 hRm hr
      have hfk := run_findKeyM hd f1 f2
      have hck := run_checkKeyN (w := w) hk es.isEmpty 9998 (us := us) (by rw [Rs_length hcs]; exact hkl)
      have hget := MapKept.run_getObj_map (P := P) hheap
      cases r with
      | none =>
        obtain ⟨rfl, _⟩ := f3
        refine sim_same h (v := if comma then Value.tuple #[z, .bool false] else z) ?_ (tup false (R_ofV _ z))
        simp only [execOp, hmv, hv, Instr.lookup, Sem.run_bind, run_underlying' ht, Result.andThen_ok, hget, Sem.run_pure, hck, hfk, run_zeroValue' hi hz]
      | some x =>
        obtain ⟨j, me, rfl, _, e3, _⟩ := f3
        refine sim_same h (v := if comma then Value.tuple #[me.val, .bool true] else me.val) ?_ (tup true e3)
        simp only [execOp, hmv, hv, Instr.lookup, Sem.run_bind, run_underlying' ht, Result.andThen_ok, hget, Sem.run_pure, hck, hfk]
    · cases ha
  · rename_i kc em ek
    rw [em] at hm
    obtain ⟨us, hv, hcs⟩ := keyc_cells ek hy
    split at ha
    · rename_i hkl
      simp only [Option.some.injEq, Prod.mk.injEq] at ha
      obtain ⟨rfl, rfl⟩ := ha
      simp only [R] at hm
      obtain ⟨res, f1, f2, f3⟩ := find_run (w := w) (k := Kof c st w ow τ ob) hk hd hcs hkl (.tup []) [] [] none 0 rfl rfl
      have hfk := run_findKeyM hd f1 f2
      have hck := run_checkKeyN (w := w) hk true 9998 (us := us) (by rw [Rs_length hcs]; exact hkl)
      obtain ⟨rfl, _⟩ := f3
      refine sim_same h (v := if comma then Value.tuple #[z, .bool false] else z) ?_ (tup false (R_ofV _ z))
      have e0 : (#[] : Array MapEntry).isEmpty = true := rfl
      simp only [execOp, hm.1, hv, Instr.lookup, Sem.run_bind, run_underlying' ht, Result.andThen_ok, Sem.run_pure, e0, hck, hfk, run_zeroValue' hi hz]
    · cases ha
  · cases ha
theorem sim_mset (h : FR c st a w ow τ ob) {t kt et : TypeId} {m y u : Operand} {ks : List Nat} (ht : P.underlying t = some (.map kt et)) (hk : keyKinds P kt = some ks)
    (ha : act Φ d st (.mset (isAggB P kt) ks m y u) = some (x, st')) : Sim P c st' x ⟨dst, .mapUpdate t m y u, type, pos, after, guard⟩ a w ob := by
  simp only [act] at ha
  have hm := R_ev h m
  have hy := R_ev h y
  have hu := R_ev h u
  obtain ⟨ds, hd⟩ := keyKinds_underlying hk
  split at ha
  · rename_i d' g kc em ek
    rw [em] at hm
    obtain ⟨us, hv, hcs⟩ := keyc_cells ek hy
    split at ha
    · rename_i hc
      obtain ⟨hg, hkl⟩ := hc
      obtain ⟨l', hl', hx⟩ := Option.map_eq_some_iff.1 ha
      simp only [Prod.mk.injEq] at hx
      obtain ⟨rfl, rfl⟩ := hx
      simp only [R] at hm
      obtain ⟨b, hvb, hmv⟩ := hm.2.2 hg
      obtain ⟨es, clk, hheap, hRm⟩ := map_block h hvb
      obtain ⟨r, hr⟩ := setM_findM hl'
      obtain ⟨res, f1, f2, f3⟩ := find_run (w := w) hk hd hcs hkl (.tup [st.ev y, st.ev u]) _ _ r 0 hRm hr
      have hfk := run_findKeyM hd f1 f2
      have hck := run_checkKeyN (w := w) hk false 9998 (us := us) (by rw [Rs_length hcs]; exact hkl)
      have hget := MapKept.run_getObj_map (P := P) hheap
      intro K Q hK
      have happ : ∀ (l : List AV) (l1 : List MapEntry) (y' : AV) (z' : List AV) (me : MapEntry), Rm (Kof c st w ow τ ob) l l1 → Rm (Kof c st w ow τ ob) [y'] [me] → Rm (Kof c st w ow τ ob) (l ++ [y']) (l1 ++ [me]) := by
        intro l
        induction l with
        | nil => intro l1 y' z' me h1 h2; simp only [Rm] at h1; subst h1; exact h2
        | cons q l ih =>
          intro l1 y' z' me h1 h2
          simp only [Rm, List.cons_append] at h1 ⊢
          obtain ⟨kx, vx, e, r, e1, rfl, h3, h4, h5⟩ := h1
          exact ⟨kx, vx, e, r ++ [me], e1, rfl, h3, h4, ih r y' z' me h5 h2⟩
      have hset : ∀ (l : List AV) (l1 : List MapEntry) (j : Nat) (y' : AV) (me : MapEntry), Rm (Kof c st w ow τ ob) l l1 → Rm (Kof c st w ow τ ob) [y'] [me] → Rm (Kof c st w ow τ ob) (l.set j y') (l1.set j me) := by
        intro l
        induction l with
        | nil => intro l1 j y' me h1 h2; simp only [Rm] at h1; subst h1; simp [Rm]
        | cons q l ih =>
          intro l1 j y' me h1 h2
          simp only [Rm] at h1
          obtain ⟨kx, vx, e, r, e1, rfl, h3, h4, h5⟩ := h1
          cases j with
          | zero =>
            simp only [Rm] at h2
            obtain ⟨kx', vx', e', r', e1', e2', h3', h4', _⟩ := h2
            injection e2' with e2' _
            subst e2'
            simp only [List.set_cons_zero, Rm]
            exact ⟨kx', vx', _, r, e1', rfl, h3', h4', h5⟩
          | succ j =>
            simp only [List.set_cons_succ, Rm]
            exact ⟨kx, vx, e, _, e1, rfl, h3, h4, ih r j y' me h5 h2⟩
      have one : ∀ born, Rm (Kof c st w ow τ ob) [.tup [st.ev y, st.ev u]] [{ key := a.eval y, val := a.eval u, born := born }] := fun born => by
        simp only [Rm]
        exact ⟨_, _, _, _, rfl, rfl, hy, hu, rfl⟩
      cases r with
      | none =>
        obtain ⟨rfl, f4⟩ := f3
        rw [hl'] at f4
        injection f4 with f4
        subst f4
        have hF := h.setMap (clk := clk + 1) hvb.1 hvb.2.1 hheap (xs := st.var d' ++ [.tup [st.ev y, st.ev u]]) (es := es.push { key := a.eval y, val := a.eval u, born := clk }) (by
          simp only [Array.toList_push]
          exact happ _ _ _ [] _ hRm (one clk))
        have hst := MapKept.run_setObj_map (P := P) (.map (es.push { key := a.eval y, val := a.eval u, born := clk }) (clk + 1)) hheap
        refine wp_skip' (w' := setBlk w b (.map (es.push { key := a.eval y, val := a.eval u, born := clk }) (clk + 1))) ?_ (hK undef _ _ _ hF (R_undef _))
        rw [← hv] at hck hfk
        simp only [execOp, hmv, Instr.mapUpdate, Sem.run_bind, run_underlying' ht, Result.andThen_ok, hget, hck, hfk, hst, Sem.run_pure, setBlk]
      | some x =>
        obtain ⟨j, me, rfl, e2, e3, e4, e5, f4⟩ := f3
        rw [hl'] at f4
        injection f4 with f4
        subst f4
        have hjl : j < es.size := by have := (List.getElem?_eq_some_iff.1 e2).1; simpa using this
        have hF := h.setMap (clk := clk) hvb.1 hvb.2.1 hheap (xs := (st.var d').set j (.tup [st.ev y, st.ev u])) (es := es.modify (0 + j) fun e => { e with key := a.eval y, val := a.eval u }) (by
          have e6 : (es.modify (0 + j) fun e => { e with key := a.eval y, val := a.eval u }).toList = es.toList.set j { key := a.eval y, val := a.eval u, born := me.born } := by
            apply List.ext_getElem?
            intro q
            have e2' : es[j]? = some me := by simpa using e2
            simp only [Array.getElem?_toList, Array.getElem?_modify, Nat.zero_add, List.getElem?_set, Array.length_toList]
            by_cases hq : j = q
            · subst hq
              have e7 : es[j] = me := by rw [Array.getElem?_eq_getElem hjl] at e2'; exact Option.some.inj e2'
              simp [hjl, e7]
            · simp [hq]
          rw [e6]
          exact hset _ _ _ _ _ hRm (one me.born))
        have hst := MapKept.run_setObj_map (P := P) (.map (es.modify (0 + j) fun e => { e with key := a.eval y, val := a.eval u }) clk) hheap
        refine wp_skip' (w' := setBlk w b (.map (es.modify (0 + j) fun e => { e with key := a.eval y, val := a.eval u }) clk)) ?_ (hK undef _ _ _ hF (R_undef _))
        have hkey : ((es[0 + j]?).map (·.key)).getD (a.eval y) = ofCells (isAggB P kt) us := by
          have e2' : es[j]? = some me := by simpa using e2
          rw [Nat.zero_add, e2']
          exact e4
        have hks : Instr.sameBits 10000 (ofCells (isAggB P kt) us) (a.eval y) = true := by
          rw [hv]
          refine sameBits_cells e5 _ fun hag => ?_
          have := Rs_length hcs
          have hkc : kc.length = 1 := by
            rw [hag] at ek
            exact keyc_one ek
          omega
        rw [← hv] at hck hfk
        simp only [execOp, hmv, Instr.mapUpdate, Sem.run_bind, run_underlying' ht, Result.andThen_ok, hget, hck, hfk, hkey, Instr.keyThatStays, hks, if_true, hst, Sem.run_pure, setBlk]
    · cases ha
  · cases ha
theorem sim_insert (h : FR c st a w ow τ ob) {t kt et : TypeId} {m y u : Operand} {ks : List Nat} (ht : P.underlying t = some (.map kt et)) (hk : keyKinds P kt = some ks)
    (ha : act Φ d st (.mset (isAggB P kt) ks m y u) = some (x, st')) : Sim P c st' x ⟨dst, .insert t m y u, type, pos, after, guard⟩ a w ob :=
  sim_mset (type := type) (pos := pos) (after := after) (guard := guard) h ht hk ha
theorem sim_mlen (h : FR c st a w ow τ ob) {t kt et : TypeId} {y : Operand} {args : Array Operand} {argTypes : Array TypeId} (hargs : args.toList = [y]) (htys : argTypes.toList = [t]) (ht : P.underlying t = some (.map kt et))
    (ha : act Φ d st (.mlen y) = some (x, st')) : Sim P c st' x ⟨dst, .call { callee := .builtin .len, args := args, argTypes := argTypes }, type, pos, after, guard⟩ a w ob := by
  have e1 : args = #[y] := by rw [← Array.toArray_toList (xs := args), hargs]
  have e2 : argTypes = #[t] := by rw [← Array.toArray_toList (xs := argTypes), htys]
  subst e1
  subst e2
  simp only [act] at ha
  have hy := R_ev h y
  split at ha
  · rename_i d' g e
    rw [e] at hy
    split at ha
    · rename_i hg
      simp only [Option.some.injEq, Prod.mk.injEq] at ha
      obtain ⟨rfl, rfl⟩ := ha
      simp only [R] at hy
      obtain ⟨b, hvb, hmv⟩ := hy.2.2 hg
      obtain ⟨es, clk, hheap, hRm⟩ := map_block h hvb
      have hlen : es.size = (st.var d').length := by
        have : ∀ (l : List AV) (l1 : List MapEntry), Rm (Kof c st w ow τ ob) l l1 → l1.length = l.length := by
          intro l
          induction l with
          | nil => intro l1 h1; simp only [Rm] at h1; simp [h1]
          | cons q l ih =>
            intro l1 h1
            simp only [Rm] at h1
            obtain ⟨kx, vx, e, r, e1, rfl, h3, h4, h5⟩ := h1
            simp [ih r h5]
        simpa using this _ _ hRm
      have hget := MapKept.run_getObj_map (P := P) hheap
      refine sim_same h (v := .int .i64 (st.var d').length) ?_ (by unfold R; exact ⟨rfl, rfl⟩)
      simp [execOp, resolve, invoke, builtin, Builtin.len_, run_underlying' ht, hmv, hget, goInt, hlen]
    · cases ha
  · rename_i e
    rw [e] at hy
    simp only [R] at hy
    simp only [Option.some.injEq, Prod.mk.injEq] at ha
    obtain ⟨rfl, rfl⟩ := ha
    exact sim_same h (v := .int .i64 0) (by simp [execOp, resolve, invoke, builtin, Builtin.len_, run_underlying' ht, hy.1, goInt]) (by unfold R; exact ⟨rfl, rfl⟩)
  · cases ha
end
end Go.Av
