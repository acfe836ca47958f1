/-
  OWN TEXT. How the relation goes on: a new block, a draw, a store into a variable, an append in place, a call that leaves old memory alone.
-/
import Derived.Test.YtinmcbkebfgekaaAv2
set_option linter.all false
set_option linter.unusedVariables false
set_option linter.unusedSimpArgs false
namespace Go.Av
open Go.RowKit (Below)
variable {σ : Type}

section
variable {c : Cx σ} {st : St σ} {a : Act} {w : World} {o : Nat → Own} {τ : Nat → Nat} {ob : Nat → Value → Prop}

/-- A new block that is no variable and no outside object's. -/
theorem FR.newBlk (h : FR c st a w o τ ob) (x : Own) (hx1 : x ≠ .ext) (hx2 : ∀ d, x ≠ .var d) (obj : Obj) (f : Nat) {st' : St σ} (e1 : st'.env = st.env) (e2 : st'.gen = st.gen) (e3 : st'.var = st.var) (e4 : st'.x = st.x)
    (h6 : ∀ t, st.tgen t ≤ st'.tgen t) (h7 : ∀ t n, st'.tgen t = st.tgen t → st'.top t = some n → st.top t = some n) :
    FR c st' a (w.alloc obj) (upd o w.heap.size x) (upd τ w.heap.size f) ob ∧ KLe (Kof c st w o τ ob) (Kof c st' (w.alloc obj) (upd o w.heap.size x) (upd τ w.heap.size f) ob) := by
  have hne : ∀ b, c.base ≤ b → o b ≠ .free → b ≠ w.heap.size := fun b hb ho => by have := h.lt b hb ho; omega
  have hk : KLe (Kof c st w o τ ob) (Kof c st' (w.alloc obj) (upd o w.heap.size x) (upd τ w.heap.size f) ob) := by
    refine KLe_of ?_ ?_ ?_ ?_ ?_ h6 h7 ?_ (fun _ _ h => h)
    · intro p hp
      have := (c.g0 p hp).1
      have := h.base
      exact cell_alloc (by omega)
    · intro p hb hi
      have := hne p.block hb (by rw [hi]; simp)
      exact ⟨cell_alloc this, (upd_ne _ _ _ this).trans hi⟩
    · intro p t hb hi hlt
      have := hne p.block hb (by rw [hi]; simp)
      exact ⟨cell_alloc this, .inr ⟨t, (upd_ne _ _ _ this).trans hi, by rw [upd_ne _ _ _ this]; exact hlt⟩⟩
    · intro d; rw [e2]; exact Nat.le_refl _
    · intro d b _ hb hv
      have := hne b hb (by rw [hv]; simp)
      refine ⟨(upd_ne _ _ _ this).trans hv, fun q hq => ?_⟩
      rw [heap_alloc (h.lt b hb (by rw [hv]; simp))]; exact hq
    · intro t n b cur T' _ _ hb ht hc
      have hn := hne b hb (by rw [ht]; simp)
      refine ⟨(upd_ne _ _ _ hn).trans ht, upd_ne _ _ _ hn, cur, T', ?_, rfl⟩
      rw [heap_alloc (h.lt b hb (by rw [ht]; simp))]; exact hc
  have hvar : ∀ d b, upd o w.heap.size x b = .var d → b ≠ w.heap.size ∧ o b = .var d := by
    intro d b hv
    by_cases e : b = w.heap.size
    · subst e; rw [upd_same] at hv; exact absurd hv (hx2 d)
    · rw [upd_ne _ _ _ e] at hv; exact ⟨e, hv⟩
  refine ⟨h.turn e1 hk (keeps_alloc _ h.base) ?_ ?_ ?_ ?_, hk⟩
  · intro b hb ho
    rw [World.size_alloc]
    by_cases e : b = w.heap.size
    · omega
    · rw [upd_ne _ _ _ e] at ho
      have := h.lt b hb ho
      omega
  · intro d b hb hv
    obtain ⟨e, hv'⟩ := hvar d b hv
    obtain ⟨obj', hc, hr'⟩ := h.vars d b hb hv'
    refine ⟨obj', ?_, by rw [e3]; exact VR_mono hk hr'⟩
    rw [heap_alloc (h.lt b hb (by rw [hv']; simp))]; exact hc
  · intro d b b' hb hb' hv hv'
    exact h.uniq d b b' hb hb' (hvar d b hv).2 (hvar d b' hv').2
  · have : (fun b => (b < c.base ∧ c.E0 b) ∨ (c.base ≤ b ∧ upd o w.heap.size x b = .ext)) = (fun b => (b < c.base ∧ c.E0 b) ∨ (c.base ≤ b ∧ o b = .ext)) := by
      funext b
      apply propext
      refine or_congr Iff.rfl (and_congr_right fun hb => ⟨fun hx => ?_, fun hx => ?_⟩)
      · by_cases e : b = w.heap.size
        · subst e; rw [upd_same] at hx; exact absurd hx hx1
        · rwa [upd_ne _ _ _ e] at hx
      · rw [upd_ne _ _ _ (hne b hb (by rw [hx]; simp))]; exact hx
    rw [this, e4]
    refine c.stable _ _ _ _ _ h.ext fun b hb => heap_alloc ?_
    rcases hb with ⟨hb, _⟩ | ⟨hb, hx⟩
    · have := h.base; omega
    · exact h.lt b hb (by rw [hx]; simp)

/-- A draw. -/
theorem Kof_drew : Kof c st w.drew o τ ob = Kof c st w o τ ob := rfl
theorem FR.drew (h : FR c st a w o τ ob) : FR c st a w.drew o τ ob :=
  ⟨h.defers, h.size, h.keeps.trans ⟨rfl, rfl, rfl, Nat.le_refl _, fun _ _ _ => rfl⟩, h.base, h.lt, h.tmps, h.vars, h.uniq, h.saved, c.stable _ _ _ _ _ h.ext fun _ _ => rfl⟩

/-- One block's cells are written anew. -/
theorem FR.setRow_keeps (h : FR c st a w o τ ob) {b : Nat} (hb : c.base ≤ b) (cs : Array Value) : Keeps c.base c.E0 w (w.setRow b cs) :=
  ⟨rfl, rfl, rfl, by simp, fun k hk _ => setRow_other w b k cs (by omega)⟩

/-- A store into a variable. -/
theorem FR.setVar (h : FR c st a w o τ ob) {d b : Nat} (hb : c.base ≤ b) (hv : o b = .var d) {xs : List AV} {cs : List Value} {cs0 : Array Value} {T0 : TypeId} (hc0 : w.heap[b]? = some (.cells cs0 T0 (0, 0))) (hl : cs0.size ≤ cs.length) (h1 : ∀ v ∈ cs, v.oneCell' = true) (hr : Rs (Kof c st w o τ ob) xs (cs.take xs.length)) :
    FR c { st with var := upd st.var d xs } a (w.setRow b cs.toArray) o τ ob ∧ KLe (Kof c st w o τ ob) (Kof c { st with var := upd st.var d xs } (w.setRow b cs.toArray) o τ ob) := by
  have hcell : ∀ p : Addr, p.block ≠ b → (w.setRow b cs.toArray).cell? p = w.cell? p := fun p hp => cell_setRow_other w b _ p hp
  have hk : KLe (Kof c st w o τ ob) (Kof c { st with var := upd st.var d xs } (w.setRow b cs.toArray) o τ ob) := by
    refine KLe_of ?_ ?_ ?_ (fun _ => Nat.le_refl _) ?_ (fun _ => Nat.le_refl _) (fun _ _ _ h => h) ?_ (fun _ _ h => h)
    · intro p hp
      have := (c.g0 p hp).1
      exact hcell p (by omega)
    · intro p hb' hi
      exact ⟨hcell p (by rintro rfl; rw [hi] at hv; cases hv), hi⟩
    · intro p t hb' hi hlt
      exact ⟨hcell p (by rintro rfl; rw [hi] at hv; cases hv), .inr ⟨t, hi, hlt⟩⟩
    · intro d' b' _ hb' hv'
      refine ⟨hv', fun q hq => ?_⟩
      by_cases e : b' = b
      · subst e
        rw [setRow_heap w b' cs0 _ T0 _ hc0]
        rw [hc0] at hq
        cases q with
        | none => exact hq.elim
        | some z => exact ⟨rfl, by have := hq.2; simp; omega⟩
      · rw [setRow_other w b b' _ e]; exact hq
    · intro t n b' cur T' _ _ hb' ht hc
      refine ⟨ht, rfl, cur, T', ?_, rfl⟩
      rw [setRow_other w b b' _ (by rintro rfl; rw [ht] at hv; cases hv)]; exact hc
  refine ⟨h.turn rfl hk (h.setRow_keeps hb _) ?_ ?_ h.uniq ?_, hk⟩
  · intro b' hb' ho; rw [size_setRow]; exact h.lt b' hb' ho
  · intro d' b' hb' hv'
    by_cases e : b' = b
    · subst e
      have : d' = d := by rw [hv] at hv'; injection hv' with hv'; exact hv'.symm
      subst this
      refine ⟨_, setRow_heap w b' cs0 _ T0 _ hc0, ?_⟩
      show VR _ (upd st.var d' xs d') _
      rw [upd_same]
      exact ⟨rfl, by simpa using h1, by simpa using Rs_mono hk _ _ hr⟩
    · have hd : d' ≠ d := by
        rintro rfl
        exact e (h.uniq d' b' b hb' hb hv' hv)
      obtain ⟨obj', hc, hr'⟩ := h.vars d' b' hb' hv'
      refine ⟨obj', by rw [setRow_other w b b' _ e]; exact hc, ?_⟩
      show VR _ (upd st.var d xs d') _
      rw [upd_ne _ _ _ hd]
      exact VR_mono hk hr'
  · refine c.stable _ _ _ _ _ h.ext fun b' hb' => setRow_other w b b' _ ?_
    rcases hb' with ⟨hb', _⟩ | ⟨hb', hx⟩
    · omega
    · rintro rfl; rw [hx] at hv; cases hv

/-- A token is given anew: at slot d, length n. -/
def St.give (st : St σ) (d : Nat) (n : Nat) : St σ := { st with tgen := upd st.tgen d (st.tgen d + 1), top := upd st.top d (some n) }
/-- A token is spent. -/
def St.spend (st : St σ) (t : Nat) : St σ := { st with top := upd st.top t none }
theorem give_le (st : St σ) (d n : Nat) : ∀ t, st.tgen t ≤ (st.give d n).tgen t := by
  intro t
  show st.tgen t ≤ upd st.tgen d (st.tgen d + 1) t
  unfold upd; split
  · rename_i e; subst e; omega
  · omega
theorem give_top (st : St σ) (d n : Nat) : ∀ t m, (st.give d n).tgen t = st.tgen t → (st.give d n).top t = some m → t ≠ d ∧ st.top t = some m := by
  intro t m hg ht
  have e : t ≠ d := by
    rintro rfl
    simp [St.give, upd] at hg
  exact ⟨e, by simpa [St.give, upd, e] using ht⟩

/-- An append in place: the token t's block b; its first f cells are immutable, and stay so. -/
theorem FR.setTok (h : FR c st a w o τ ob) {t b d n f : Nat} {cur : Array Value} {T : TypeId} (hb : c.base ≤ b) (ht : o b = .tok t) (hc : w.heap[b]? = some (.cells cur T (0, 0))) {cs : List Value}
    (hpre : ∀ j, j < τ b → cs[j]? = cur[j]?) (hf : τ b ≤ f) (hsz : cs.length = cur.size) :
    FR c ((st.spend t).give d n) a (w.setRow b cs.toArray) (upd o b (.tok d)) (upd τ b f) ob ∧ KLe (Kof c st w o τ ob) (Kof c ((st.spend t).give d n) (w.setRow b cs.toArray) (upd o b (.tok d)) (upd τ b f) ob) := by
  have hcell : ∀ p : Addr, p.block ≠ b → (w.setRow b cs.toArray).cell? p = w.cell? p := fun p hp => cell_setRow_other w b _ p hp
  have hk : KLe (Kof c st w o τ ob) (Kof c ((st.spend t).give d n) (w.setRow b cs.toArray) (upd o b (.tok d)) (upd τ b f) ob) := by
    refine KLe_of ?_ ?_ ?_ (fun _ => Nat.le_refl _) ?_ (give_le (st.spend t) d n) ?_ ?_ (fun _ _ h => h)
    · intro p hp
      have := (c.g0 p hp).1
      exact hcell p (by omega)
    · intro p hb' hi
      have e : p.block ≠ b := by rintro rfl; rw [hi] at ht; cases ht
      exact ⟨hcell p e, (upd_ne _ _ _ e).trans hi⟩
    · intro p t' hb' hi hlt
      by_cases e : p.block = b
      · have hlt' : p.off < τ b := by rw [← e]; exact hlt
        refine ⟨?_, .inr ⟨d, by rw [e, upd_same], by rw [e, upd_same]; omega⟩⟩
        have h1 := setRow_heap w b cur cs.toArray T _ hc
        unfold World.cell?
        rw [e, h1, hc]
        simp only [List.getElem?_toArray]
        rw [hpre _ hlt']
      · exact ⟨hcell p e, .inr ⟨t', (upd_ne _ _ _ e).trans hi, by rw [upd_ne _ _ _ e]; exact hlt⟩⟩
    · intro d' b' _ hb' hv
      have e : b' ≠ b := by rintro rfl; rw [hv] at ht; cases ht
      exact ⟨(upd_ne _ _ _ e).trans hv, fun q hq => by rw [setRow_other w b b' _ e]; exact hq⟩
    · intro t' m hg hm
      have := (give_top (st.spend t) d n t' m hg hm).2
      by_cases e : t' = t
      · subst e; simp [St.spend, upd] at this
      · simpa [St.spend, upd, e] using this
    · intro t' m b' cur' T' hg hm hb' ht' hc'
      have hm' := (give_top (st.spend t) d n t' m hg hm).2
      have et : t' ≠ t := by rintro rfl; simp [St.spend, upd] at hm'
      have e : b' ≠ b := by
        rintro rfl
        rw [ht] at ht'
        injection ht' with ht'
        exact et ht'.symm
      exact ⟨(upd_ne _ _ _ e).trans ht', upd_ne _ _ _ e, cur', T', by rw [setRow_other w b b' _ e]; exact hc', rfl⟩
  have hvar : ∀ d' b', upd o b (.tok d) b' = .var d' → b' ≠ b ∧ o b' = .var d' := by
    intro d' b' hv
    by_cases e : b' = b
    · subst e; rw [upd_same] at hv; cases hv
    · rw [upd_ne _ _ _ e] at hv; exact ⟨e, hv⟩
  refine ⟨h.turn rfl hk (h.setRow_keeps hb _) ?_ ?_ ?_ ?_, hk⟩
  · intro b' hb' ho
    rw [size_setRow]
    by_cases e : b' = b
    · subst e; exact h.lt b' hb' (by rw [ht]; simp)
    · rw [upd_ne _ _ _ e] at ho; exact h.lt b' hb' ho
  · intro d' b' hb' hv'
    obtain ⟨e, hv''⟩ := hvar d' b' hv'
    obtain ⟨obj', hc', hr'⟩ := h.vars d' b' hb' hv''
    exact ⟨obj', by rw [setRow_other w b b' _ e]; exact hc', VR_mono hk hr'⟩
  · intro d' b1 b2 h1 h2 hv1 hv2
    exact h.uniq d' b1 b2 h1 h2 (hvar _ _ hv1).2 (hvar _ _ hv2).2
  · have : (fun b' => (b' < c.base ∧ c.E0 b') ∨ (c.base ≤ b' ∧ upd o b (.tok d) b' = .ext)) = (fun b' => (b' < c.base ∧ c.E0 b') ∨ (c.base ≤ b' ∧ o b' = .ext)) := by
      funext b'
      apply propext
      refine or_congr Iff.rfl (and_congr_right fun hb' => ⟨fun hx => ?_, fun hx => ?_⟩)
      · by_cases e : b' = b
        · subst e; rw [upd_same] at hx; cases hx
        · rwa [upd_ne _ _ _ e] at hx
      · have e : b' ≠ b := by rintro rfl; rw [hx] at ht; cases ht
        rw [upd_ne _ _ _ e]; exact hx
    rw [this]
    refine c.stable _ _ _ _ _ h.ext fun b' hb' => setRow_other w b b' _ ?_
    rcases hb' with ⟨hb', _⟩ | ⟨hb', hx⟩
    · omega
    · rintro rfl; rw [hx] at ht; cases ht
end

/-! ### calls that leave old memory alone -/
/-- What is known of arguments: immutable cells alone. -/
def KG (G : Addr → Prop) (w : World) : K :=
  ⟨fun a v => a.spot = none ∧ w.cell? a = some v ∧ G a, fun _ _ => False, fun _ _ => False, fun _ _ _ => False, fun _ _ => False, fun _ _ _ => False, fun _ _ _ _ => False, fun _ _ => False⟩
/-- What is known of a result: new immutable cells besides; token 0 for spare cells. -/
def KR (base : Nat) (G : Addr → Prop) (w : World) (o : Nat → Own) (τ : Nat → Nat) : K :=
  ⟨fun a v => a.spot = none ∧ w.cell? a = some v ∧ (G a ∨ (base ≤ a.block ∧ (o a.block = .imm ∨ ∃ t, o a.block = .tok t ∧ a.off < τ a.block))),
   fun _ _ => False, fun _ _ => False, fun _ _ _ => False, fun t g => t = 0 ∧ g = 0, fun t g _ => t = 0 ∧ g = 0,
   fun t b f z => base ≤ b ∧ o b = .tok t ∧ τ b = f ∧ ∃ cur T, w.heap[b]? = some (.cells cur T (0, 0)) ∧ cur.size = z, fun _ _ => False⟩
/-- The contract of a function that computes: whatever stands for the arguments, the result stands for r, and old memory is as it was. -/
def PCall (P : Program) (f : FuncId) (args : List AV) (r : AV) : Prop :=
  ∀ (G : Addr → Prop) (w : World) (vs : List Value), (∀ a, G a → a.block < w.heap.size) → Rt (KG G w) args vs →
    Calls P f vs.toArray w fun e w' => ∃ v o τ, e = .returned v ∧ Below w.heap.size w w' ∧ (∀ b, w.heap.size ≤ b → o b ≠ .free → b < w'.heap.size) ∧ R (KR w.heap.size G w' o τ) r v

/-- Tokens taken away. -/
def AV.weak : AV → AV
  | .sl sz (.own _ _) rows => .sl sz .ro rows
  | x => x
theorem R_weak {k : K} : ∀ {x : AV} {v : Value}, R k x v → R k x.weak v
  | .imm _, _, h => h
  | .agg _, _, h => h
  | .tup _, _, h => h
  | .ptr _ _ _, _, h => h
  | .eptr _ _, _, h => h
  | .sl sz .ro rows, _, h => h
  | .sl sz .full rows, _, h => h
  | .sl sz (.own t g) rows, v, h => by
    simp only [AV.weak, R] at h ⊢
    obtain ⟨A, c, e, hl, hm, hr, _⟩ := h
    exact ⟨A, c, e, hl, hm, hr, trivial⟩
  | .obj _, _, h => h
  | .fv _ _ _, _, h => h
  | .vsl _ _ _ _ _ _, _, h => h
  | .mp _ _, _, h => h
  | .dead, _, h => h
/-- .. one level down, and two. -/
def AV.weak1 : AV → AV
  | .agg cs => .agg (cs.map AV.weak)
  | x => x.weak
def AV.weaks : AV → AV
  | .tup vs => .tup (vs.map AV.weak1)
  | x => x.weak1
theorem Rs_weak {k : K} : ∀ {xs : List AV} {us : List Value}, Rs k xs us → Rs k (xs.map AV.weak) us
  | [], us, h => by simpa [Rs] using h
  | y :: ys, us, h => by
    simp only [Rs, List.map_cons] at h ⊢
    obtain ⟨u, r, e, hy, ho, hrr⟩ := h
    exact ⟨u, r, e, R_weak hy, ho, Rs_weak hrr⟩
theorem R_weak1 {k : K} {x : AV} {v : Value} (h : R k x v) : R k x.weak1 v := by
  unfold AV.weak1
  split
  · simp only [R] at h ⊢
    obtain ⟨arr, e, hr⟩ := h
    exact ⟨arr, e, Rs_weak hr⟩
  · exact R_weak h
theorem Rt_weak1 {k : K} : ∀ {xs : List AV} {us : List Value}, Rt k xs us → Rt k (xs.map AV.weak1) us
  | [], us, h => by simpa [Rt] using h
  | y :: ys, us, h => by
    simp only [Rt, List.map_cons] at h ⊢
    obtain ⟨u, r, e, hy, hrr⟩ := h
    exact ⟨u, r, e, R_weak1 hy, Rt_weak1 hrr⟩
theorem R_weaks {k : K} {x : AV} {v : Value} (h : R k x v) : R k x.weaks v := by
  unfold AV.weaks
  split
  · simp only [R] at h ⊢
    obtain ⟨arr, e, hr⟩ := h
    exact ⟨arr, e, Rt_weak1 hr⟩
  · exact R_weak1 h
mutual
/-- Nothing of the call's own: it may be handed to another call. -/
def AV.pureB : AV → Bool
  | .imm _ => true
  | .sl _ .ro _ => true
  | .sl _ .full _ => true
  | .sl _ (.own _ _) _ => false
  | .agg cs => AV.pureBs cs
  | .tup cs => AV.pureBs cs
  | .ptr _ _ _ => false
  | .eptr _ _ => true
  | .obj _ => false
  | .fv _ first caps => AV.pureBs first && AV.pureBs caps
  | .vsl _ _ _ _ _ _ => false
  | .mp _ _ => false
  | .dead => true
def AV.pureBs : List AV → Bool
  | [] => true
  | x :: xs => AV.pureB x && AV.pureBs xs
end
mutual
theorem R_pure {k : K} : ∀ (x : AV) (v : Value), x.pureB = true → R k x v → R k.pure x v
  | .imm _, _, _, h => by simp only [R] at h ⊢; exact h
  | .sl sz .ro rows, _, _, h => by simp only [R, K.pure_pure] at h ⊢; exact h
  | .sl sz .full rows, _, _, h => by simp only [R, K.pure_pure] at h ⊢; exact h
  | .sl sz (.own _ _) rows, _, hp, h => by simp [AV.pureB] at hp
  | .agg cs, v, hp, h => by
    simp only [AV.pureB] at hp
    simp only [R] at h ⊢
    obtain ⟨arr, e, hr⟩ := h
    exact ⟨arr, e, Rs_pure cs _ hp hr⟩
  | .tup cs, v, hp, h => by
    simp only [AV.pureB] at hp
    simp only [R] at h ⊢
    obtain ⟨arr, e, hr⟩ := h
    exact ⟨arr, e, Rt_pure cs _ hp hr⟩
  | .ptr _ _ _, _, hp, h => by simp [AV.pureB] at hp
  | .eptr _ _, _, _, h => by simp only [R, K.pure_pure] at h ⊢; exact h
  | .obj _, _, hp, h => by simp [AV.pureB] at hp
  | .fv f first caps, v, hp, h => by
    simp only [AV.pureB, Bool.and_eq_true] at hp
    simp only [R] at h ⊢
    obtain ⟨us, vs, e, hr, hr'⟩ := h
    exact ⟨us, vs, e, Rt_pure first _ hp.1 hr, Rt_pure caps _ hp.2 hr'⟩
  | .vsl _ _ _ _ _ _, _, hp, h => by simp [AV.pureB] at hp
  | .mp _ _, _, hp, h => by simp [AV.pureB] at hp
  | .dead, _, _, _ => by simp only [R]
theorem Rs_pure {k : K} : ∀ (xs : List AV) (vs : List Value), AV.pureBs xs = true → Rs k xs vs → Rs k.pure xs vs
  | [], _, _, h => by simp only [Rs] at h ⊢; exact h
  | x :: xs, vs, hp, h => by
    simp only [AV.pureBs, Bool.and_eq_true] at hp
    simp only [Rs] at h ⊢
    obtain ⟨v, r, e, hx, h1, hr⟩ := h
    exact ⟨v, r, e, R_pure x v hp.1 hx, h1, Rs_pure xs r hp.2 hr⟩
theorem Rt_pure {k : K} : ∀ (xs : List AV) (vs : List Value), AV.pureBs xs = true → Rt k xs vs → Rt k.pure xs vs
  | [], _, _, h => by simp only [Rt] at h ⊢; exact h
  | x :: xs, vs, hp, h => by
    simp only [AV.pureBs, Bool.and_eq_true] at hp
    simp only [Rt] at h ⊢
    obtain ⟨v, r, e, hx, hr⟩ := h
    exact ⟨v, r, e, R_pure x v hp.1 hx, Rt_pure xs r hp.2 hr⟩
end
end Go.Av
