/-
  OWN TEXT. A call that leaves old memory alone, in the relation.
-/
import Derived.Test.YtinmcbkebfgekaaAv3
set_option linter.all false
set_option linter.unusedVariables false
set_option linter.unusedSimpArgs false
namespace Go.Av
open Go.RowKit (Below)
variable {σ : Type}

/-- What a result becomes in the caller's slot d: its token gets the slot's name. -/
def AV.ret (d g : Nat) : AV → Option AV
  | .sl sz (.own _ _) rows => some (.sl sz (.own d g) rows)
  | r => if r.pureB then some r else none
/-- .. and the caller's state. -/
def St.given (st : St σ) (d : Nat) : AV → St σ
  | .sl _ (.own _ _) rows => st.give d rows.length
  | _ => st

section
variable {c : Cx σ} {st : St σ} {a : Act} {w : World} {o : Nat → Own} {τ : Nat → Nat} {ob : Nat → Value → Prop}

def callOwn (o oc : Nat → Own) (n d : Nat) : Nat → Own := fun b => if b < n then o b else match oc b with | .tok _ => .tok d | .imm => .imm | .free => .free | _ => .junk
theorem callOwn_lt {o oc : Nat → Own} {n d b : Nat} (h : b < n) : callOwn o oc n d b = o b := by simp [callOwn, h]
theorem callOwn_free {o oc : Nat → Own} {n d b : Nat} (hb : n ≤ b) (h : callOwn o oc n d b ≠ .free) : oc b ≠ .free := by
  intro e
  apply h
  simp [callOwn, e, Nat.not_lt.2 hb]
theorem callOwn_var {o oc : Nat → Own} {n d b d' : Nat} (h : callOwn o oc n d b = .var d') : b < n ∧ o b = .var d' := by
  unfold callOwn at h
  split at h
  · exact ⟨‹_›, h⟩
  · cases e : oc b <;> simp [e] at h
theorem callOwn_ext {o oc : Nat → Own} {n d b : Nat} (h : callOwn o oc n d b = .ext) : b < n ∧ o b = .ext := by
  unfold callOwn at h
  split at h
  · exact ⟨‹_›, h⟩
  · cases e : oc b <;> simp [e] at h
def callTau (τ τc : Nat → Nat) (n : Nat) : Nat → Nat := fun b => if b < n then τ b else τc b

/-- Old memory is as it was: the relation holds behind the call. -/
theorem FR.after (h : FR c st a w o τ ob) {w' : World} {oc : Nat → Own} {τc : Nat → Nat} (hw : Below w.heap.size w w') (hlt : ∀ b, w.heap.size ≤ b → oc b ≠ .free → b < w'.heap.size) (d : Nat) {st' : St σ}
    (e1 : st'.env = st.env) (e2 : st'.gen = st.gen) (e3 : st'.var = st.var) (e4 : st'.x = st.x) (h6 : ∀ t, st.tgen t ≤ st'.tgen t) (h7 : ∀ t n, st'.tgen t = st.tgen t → st'.top t = some n → st.top t = some n) :
    FR c st' a w' (callOwn o oc w.heap.size d) (callTau τ τc w.heap.size) ob ∧ KLe (Kof c st w o τ ob) (Kof c st' w' (callOwn o oc w.heap.size d) (callTau τ τc w.heap.size) ob) := by
  have hl : ∀ b, c.base ≤ b → o b ≠ .free → b < w.heap.size := h.lt
  have hcell : ∀ p : Addr, p.block < w.heap.size → w'.cell? p = w.cell? p := fun p hp => World.cell?_of_block (hw.block p.block hp)
  have hk : KLe (Kof c st w o τ ob) (Kof c st' w' (callOwn o oc w.heap.size d) (callTau τ τc w.heap.size) ob) := by
    refine KLe_of ?_ ?_ ?_ ?_ ?_ h6 h7 ?_ (fun _ _ h => h)
    · intro p hp
      have := (c.g0 p hp).1
      have := h.base
      exact hcell p (by omega)
    · intro p hb hi
      have := hl p.block hb (by rw [hi]; simp)
      exact ⟨hcell p this, (callOwn_lt this).trans hi⟩
    · intro p t hb hi hlt'
      have := hl p.block hb (by rw [hi]; simp)
      refine ⟨hcell p this, .inr ⟨t, (callOwn_lt this).trans hi, ?_⟩⟩
      simp [callTau, this, hlt']
    · intro t; rw [e2]; exact Nat.le_refl _
    · intro t b _ hb hv
      have := hl b hb (by rw [hv]; simp)
      exact ⟨(callOwn_lt this).trans hv, fun q hq => by rw [hw.block b this]; exact hq⟩
    · intro t n b cur T _ _ hb ht hc
      have := hl b hb (by rw [ht]; simp)
      exact ⟨(callOwn_lt this).trans ht, by simp [callTau, this], cur, T, (hw.block b this).trans hc, rfl⟩
  refine ⟨h.turn e1 hk (Keeps.of_below h.base hw) ?_ ?_ ?_ ?_, hk⟩
  · intro b hb ho
    rcases Nat.lt_or_ge b w.heap.size with hlt' | hge
    · exact Nat.lt_of_lt_of_le hlt' hw.size
    · exact hlt b hge (callOwn_free hge ho)
  · intro d' b hb hv
    obtain ⟨hlt', hv'⟩ := callOwn_var hv
    obtain ⟨obj', hc, hr⟩ := h.vars d' b hb hv'
    exact ⟨obj', (hw.block b hlt').trans hc, by rw [e3]; exact VR_mono hk hr⟩
  · intro d' b b' hb hb' hv hv'
    exact h.uniq d' b b' hb hb' (callOwn_var hv).2 (callOwn_var hv').2
  · have : (fun b => (b < c.base ∧ c.E0 b) ∨ (c.base ≤ b ∧ callOwn o oc w.heap.size d b = .ext)) = (fun b => (b < c.base ∧ c.E0 b) ∨ (c.base ≤ b ∧ o b = .ext)) := by
      funext b
      apply propext
      refine or_congr Iff.rfl (and_congr_right fun hb => ⟨fun hx => (callOwn_ext hx).2, fun hx => ?_⟩)
      rw [callOwn_lt (hl b hb (by rw [hx]; simp))]; exact hx
    rw [this, e4]
    refine c.stable _ _ _ _ _ h.ext fun b hb => hw.block b ?_
    rcases hb with ⟨hb, _⟩ | ⟨hb, hx⟩
    · have := h.base; omega
    · exact hl b hb (by rw [hx]; simp)

theorem given_env (st : St σ) (d : Nat) (r : AV) : (st.given d r).env = st.env ∧ (st.given d r).gen = st.gen ∧ (st.given d r).var = st.var ∧ (st.given d r).x = st.x := by
  unfold St.given
  split <;> exact ⟨rfl, rfl, rfl, rfl⟩
theorem given_le (st : St σ) (d : Nat) (r : AV) : ∀ t, st.tgen t ≤ (st.given d r).tgen t := by
  unfold St.given
  split
  · exact give_le _ _ _
  · exact fun _ => Nat.le_refl _
theorem given_top (st : St σ) (d : Nat) (r : AV) : ∀ t m, (st.given d r).tgen t = st.tgen t → (st.given d r).top t = some m → st.top t = some m := by
  unfold St.given
  split
  · exact fun t m h1 h2 => (give_top _ _ _ t m h1 h2).2
  · exact fun _ _ _ h => h

theorem FR.call (h : FR c st a w o τ ob) {P : Program} {f : FuncId} {args : List AV} {vs : List Value} {r r' : AV} (hp : AV.pureBs args = true) (hr : Rt (Kof c st w o τ ob) args vs) (hf : PCall P f args r) (d : Nat) (he : r.ret d (st.tgen d + 1) = some r') :
    Calls P f vs.toArray w fun e w' => ∃ v o' τ', e = .returned v ∧ FR c (st.given d r) a w' o' τ' ob ∧ R (Kof c (st.given d r) w' o' τ' ob) r' v ∧ KLe (Kof c st w o τ ob) (Kof c (st.given d r) w' o' τ' ob) := by
  let G : Addr → Prop := fun p => c.G0 p ∨ (c.base ≤ p.block ∧ (o p.block = .imm ∨ ∃ t, o p.block = .tok t ∧ p.off < τ p.block))
  have hG : ∀ p, G p → p.block < w.heap.size := by
    rintro p (hg | ⟨hb, hi | ⟨t, ht, _⟩⟩)
    · have := (c.g0 p hg).1
      have := h.base
      omega
    · exact h.lt p.block hb (by rw [hi]; simp)
    · exact h.lt p.block hb (by rw [ht]; simp)
  have hle : KLe (Kof c st w o τ ob).pure (KG G w) :=
    ⟨fun p v hv => ⟨hv.1, hv.2.1, hv.2.2⟩, fun _ _ h => h.elim, fun _ _ h => h.elim, fun _ _ _ _ h => h.elim, fun _ _ h => h.elim, fun _ _ _ h => h.elim, fun _ _ _ _ _ _ h => h.elim, fun _ _ h => h.elim⟩
  refine (hf G w vs hG (Rt_mono hle _ _ (Rt_pure _ _ hp hr))).mono ?_
  rintro e w' ⟨v, oc, τc, rfl, hw, hlt, hv⟩
  obtain ⟨e1, e2, e3, e4⟩ := given_env st d r
  obtain ⟨hF, hk⟩ := h.after (τc := τc) hw hlt d e1 e2 e3 e4 (given_le st d r) (given_top st d r)
  refine ⟨v, _, _, rfl, hF, ?_, hk⟩
  have hpure : KLe (KR w.heap.size G w' oc τc).pure (Kof c (st.given d r) w' (callOwn o oc w.heap.size d) (callTau τ τc w.heap.size) ob) := by
    refine ⟨?_, fun _ _ h => h.elim, fun _ _ h => h.elim, fun _ _ _ _ h => h.elim, fun _ _ h => h.elim, fun _ _ _ h => h.elim, fun _ _ _ _ _ _ h => h.elim, fun _ _ h => h.elim⟩
    rintro p u ⟨hs, hc, hr⟩
    refine ⟨hs, hc, ?_⟩
    rcases hr with hg | ⟨hb, hi⟩
    · have hlt' := hG p hg
      rcases hg with hg | ⟨hb, hi | ⟨t, ht, hlt''⟩⟩
      · exact .inl hg
      · exact .inr ⟨hb, .inl ((callOwn_lt hlt').trans hi)⟩
      · exact .inr ⟨hb, .inr ⟨t, (callOwn_lt hlt').trans ht, by simp [callTau, hlt', hlt'']⟩⟩
    · have hnl : ¬ p.block < w.heap.size := by omega
      refine .inr ⟨Nat.le_trans h.base hb, ?_⟩
      rcases hi with hi | ⟨t, ht, hlt''⟩
      · exact .inl (by simp [callOwn, hnl, hi])
      · exact .inr ⟨d, by simp [callOwn, hnl, ht], by simp [callTau, hnl, hlt'']⟩
  have plain : ∀ {x : AV}, x.pureB = true → R (KR w.heap.size G w' oc τc) x v → R (Kof c (st.given d r) w' (callOwn o oc w.heap.size d) (callTau τ τc w.heap.size) ob) x v :=
    fun hx hv => R_mono hpure _ _ (R_pure _ _ hx hv)
  have he0 := he
  cases r with
  | sl sz tok rows =>
    cases tok with
    | own t g =>
      simp only [AV.ret, Option.some.injEq] at he
      subst he
      simp only [R] at hv ⊢
      obtain ⟨A, z, rfl, hl, hm, hrows, ⟨ht, hg⟩, htok⟩ := hv
      subst ht
      subst hg
      refine ⟨A, z, rfl, hl, hm, fun hne => ?_, ⟨⟨by omega, by simp [St.given, St.give, upd]⟩, fun _ => ?_⟩⟩
      · obtain ⟨b, q, hA, hq⟩ := hrows hne
        exact ⟨b, q, hA, rowsAt_mono (KLe.pure hpure) _ _ _ _ hq⟩
      · rcases htok ⟨rfl, rfl⟩ with hz | ⟨b, hA, hb, hob, hτ, cur, T, hcur, hsz⟩
        · exact .inl hz
        · have hnl : ¬ b < w.heap.size := by omega
          exact .inr ⟨b, hA, Nat.le_trans h.base hb, by simp [callOwn, hnl, hob], by simp [callTau, hnl, hτ], cur, T, hcur, hsz⟩
    | _ => simp only [AV.ret, AV.pureB, if_true, Option.some.injEq] at he; subst he; exact plain rfl hv
  | _ =>
    simp only [AV.ret] at he
    split at he
    · injection he with he; subst he; exact plain ‹_› hv
    · cases he

/-- The end of a function that computes: from the relation to its contract. -/
theorem R_out {c : Cx σ} {st : St σ} {w : World} {r r0 : AV} {v : Value} (hE : True) (hr : R (Kof c st w o τ ob) r v) (h0 : match r with | .sl sz (.own t g) rows => (st.tgen t = g ∧ st.top t = some rows.length ∧ r0 = .sl sz (.own 0 0) rows) ∨ r0 = .sl sz .ro rows | x => x.pureB = true ∧ r0 = x) :
    ∃ o', (∀ b, c.base ≤ b → o' b ≠ .free → o b ≠ .free) ∧ R (KR c.base c.G0 w o' τ) r0 v := by
  refine ⟨fun b => match o b with | .tok _ => .tok 0 | .imm => .imm | .free => .free | _ => .junk, ?_, ?_⟩
  · intro b hb h e
    apply h
    simp [e]
  have hpure : KLe (Kof c st w o τ ob).pure (KR c.base c.G0 w (fun b => match o b with | .tok _ => .tok 0 | .imm => .imm | .free => .free | _ => .junk) τ) := by
    refine ⟨?_, fun _ _ h => h.elim, fun _ _ h => h.elim, fun _ _ _ _ h => h.elim, fun _ _ h => h.elim, fun _ _ _ h => h.elim, fun _ _ _ _ _ _ h => h.elim, fun _ _ h => h.elim⟩
    rintro p u ⟨hs, hc, hr⟩
    refine ⟨hs, hc, ?_⟩
    rcases hr with hg | ⟨hb, hi | ⟨t, ht, hlt⟩⟩
    · exact .inl hg
    · exact .inr ⟨hb, .inl (by simp [hi])⟩
    · exact .inr ⟨hb, .inr ⟨0, by simp [ht], hlt⟩⟩
  have plain : ∀ {x : AV}, x.pureB = true → R (Kof c st w o τ ob) x v → R (KR c.base c.G0 w (fun b => match o b with | .tok _ => .tok 0 | .imm => .imm | .free => .free | _ => .junk) τ) x v :=
    fun hx hv => R_mono hpure _ _ (R_pure _ _ hx hv)
  cases r with
  | sl sz tok rows =>
    cases tok with
    | own t g =>
      rcases h0 with ⟨hg, ht, rfl⟩ | rfl
      · simp only [R] at hr ⊢
        obtain ⟨A, z, rfl, hl, hm, hrows, htg, htok⟩ := hr
        refine ⟨A, z, rfl, hl, hm, fun hne => ?_, ⟨rfl, rfl⟩, fun _ => ?_⟩
        · obtain ⟨b, q, hA, hq⟩ := hrows hne
          exact ⟨b, q, hA, rowsAt_mono hpure.pure _ _ _ _ hq⟩
        · rcases htok ⟨hg.symm, ht⟩ with hz | ⟨b, hA, hb, hob, hτ, cur, T, hcur, hsz⟩
          · exact .inl hz
          · exact .inr ⟨b, hA, hb, by simp [hob], hτ, cur, T, hcur, hsz⟩
      · have hw := R_weak hr
        simp only [AV.weak] at hw
        exact plain rfl hw
    | _ => obtain ⟨hp, rfl⟩ := h0; exact plain hp hr
  | _ => obtain ⟨hp, rfl⟩ := h0; exact plain hp hr

/-! ### calls that are handed variables of the call's own, to read -/
mutual
/-- Nothing but immediate values. -/
def AV.flatB : AV → Bool
  | .imm _ => true
  | .agg cs => AV.flatBs cs
  | .tup cs => AV.flatBs cs
  | _ => false
def AV.flatBs : List AV → Bool
  | [] => true
  | x :: xs => AV.flatB x && AV.flatBs xs
end
mutual
theorem R_flat {k k' : K} : ∀ (x : AV) (v : Value), x.flatB = true → R k x v → R k' x v
  | .imm _, _, _, h => by simp only [R] at h ⊢; exact h
  | .agg cs, v, hp, h => by
    simp only [AV.flatB] at hp
    simp only [R] at h ⊢
    obtain ⟨arr, e, hr⟩ := h
    exact ⟨arr, e, Rs_flat cs _ hp hr⟩
  | .tup cs, v, hp, h => by
    simp only [AV.flatB] at hp
    simp only [R] at h ⊢
    obtain ⟨arr, e, hr⟩ := h
    exact ⟨arr, e, Rt_flat cs _ hp hr⟩
  | .sl _ _ _, _, hp, _ => by simp [AV.flatB] at hp
  | .ptr _ _ _, _, hp, _ => by simp [AV.flatB] at hp
  | .eptr _ _, _, hp, _ => by simp [AV.flatB] at hp
  | .obj _, _, hp, _ => by simp [AV.flatB] at hp
  | .fv _ _ _, _, hp, _ => by simp [AV.flatB] at hp
  | .vsl _ _ _ _ _ _, _, hp, _ => by simp [AV.flatB] at hp
  | .mp _ _, _, hp, _ => by simp [AV.flatB] at hp
  | .dead, _, hp, _ => by simp [AV.flatB] at hp
theorem Rs_flat {k k' : K} : ∀ (xs : List AV) (vs : List Value), AV.flatBs xs = true → Rs k xs vs → Rs k' xs vs
  | [], _, _, h => by simp only [Rs] at h ⊢; exact h
  | x :: xs, vs, hp, h => by
    simp only [AV.flatBs, Bool.and_eq_true] at hp
    simp only [Rs] at h ⊢
    obtain ⟨v, r, e, hx, h1, hr⟩ := h
    exact ⟨v, r, e, R_flat x v hp.1 hx, h1, Rs_flat xs r hp.2 hr⟩
theorem Rt_flat {k k' : K} : ∀ (xs : List AV) (vs : List Value), AV.flatBs xs = true → Rt k xs vs → Rt k' xs vs
  | [], _, _, h => by simp only [Rt] at h ⊢; exact h
  | x :: xs, vs, hp, h => by
    simp only [AV.flatBs, Bool.and_eq_true] at hp
    simp only [Rt] at h ⊢
    obtain ⟨v, r, e, hx, hr⟩ := h
    exact ⟨v, r, e, R_flat x v hp.1 hx, Rt_flat xs r hp.2 hr⟩
end
mutual
/-- What a value is to a call that writes nothing old. -/
inductive View (st : St σ) : AV → AV → Prop where
  | weak {x : AV} : x.weaks.pureB = true → View st x x.weaks
  | dead {x : AV} : View st x .dead
  | ptr {d g off : Nat} {cs : List AV} : g = st.gen d → Views st (st.var d) cs → View st (.ptr d g off) (.eptr cs off)
  | vsl {d g sz off n : Nat} {cp : Option Nat} {rows : List (List AV)} : g = st.gen d → off + n * sz ≤ (st.var d).length → Views st (((st.var d).drop off).take (n * sz)) rows.flatten → (∀ r ∈ rows, r.length = sz) → rows.length = n → View st (.vsl d g sz off n cp) (.sl sz .ro rows)
  | fv {f : Nat} {fs fs' cs cs' : List AV} : Views st fs fs' → Views st cs cs' → View st (.fv f fs cs) (.fv f fs' cs')
  | agg {cs cs' : List AV} : Views st cs cs' → View st (.agg cs) (.agg cs')
inductive Views (st : St σ) : List AV → List AV → Prop where
  | nil : Views st [] []
  | cons {x y : AV} {xs ys : List AV} : View st x y → Views st xs ys → Views st (x :: xs) (y :: ys)
end
/-- The cells that such a call may read. -/
def viewG (c : Cx σ) (o : Nat → Own) (τ : Nat → Nat) : Addr → Prop := fun p => c.G0 p ∨ (c.base ≤ p.block ∧ (o p.block = .imm ∨ (∃ t, o p.block = .tok t ∧ p.off < τ p.block) ∨ ∃ d, o p.block = .var d))
theorem viewG_lt (h : FR c st a w o τ ob) : ∀ p, viewG c o τ p → p.block < w.heap.size := by
  rintro p (hg | ⟨hb, hi | ⟨t, ht, _⟩ | ⟨d, hd⟩⟩)
  · have := (c.g0 p hg).1
    have := h.base
    omega
  · exact h.lt p.block hb (by rw [hi]; simp)
  · exact h.lt p.block hb (by rw [ht]; simp)
  · exact h.lt p.block hb (by rw [hd]; simp)
theorem viewG_le (c : Cx σ) (st : St σ) (w : World) (o : Nat → Own) (τ : Nat → Nat) (ob : Nat → Value → Prop) : KLe (Kof c st w o τ ob).pure (KG (viewG c o τ) w) := by
  refine ⟨?_, fun _ _ h => h.elim, fun _ _ h => h.elim, fun _ _ _ _ h => h.elim, fun _ _ h => h.elim, fun _ _ _ h => h.elim, fun _ _ _ _ _ _ h => h.elim, fun _ _ h => h.elim⟩
  rintro p v ⟨h1, h2, h3⟩
  refine ⟨h1, h2, ?_⟩
  rcases h3 with hg | ⟨hb, hi | ht⟩
  · exact .inl hg
  · exact .inr ⟨hb, .inl hi⟩
  · exact .inr ⟨hb, .inr (.inl ht)⟩
theorem KG_pure (G : Addr → Prop) (w : World) : (KG G w).pure = KG G w := rfl
theorem var_block (h : FR c st a w o τ ob) {d b z : Nat} (hv : (Kof c st w o τ ob).vb d b (some z)) : ∃ cs T, w.heap[b]? = some (.cells cs T (0, 0)) ∧ z ≤ cs.size ∧ (∀ v ∈ cs.toList, v.oneCell' = true) ∧ Rs (Kof c st w o τ ob) (st.var d) (cs.toList.take (st.var d).length) := by
  obtain ⟨hb, ho, hs⟩ := hv
  obtain ⟨obj, hc, hr⟩ := h.vars d b hb ho
  rw [hc] at hs
  cases obj with
  | cells cs T fr =>
    obtain ⟨rfl, hz⟩ := hs
    exact ⟨cs, T, hc, hz, hr.2.1, hr.2.2⟩
  | _ => exact hs.elim
theorem View_sound (h : FR c st a w o τ ob) {x y : AV} (hv : View st x y) : ∀ v, R (Kof c st w o τ ob) x v → R (KG (viewG c o τ) w) y v := by
  refine View.rec (motive_1 := fun x y _ => ∀ v, R (Kof c st w o τ ob) x v → R (KG (viewG c o τ) w) y v)
    (motive_2 := fun xs ys _ => (∀ us, Rs (Kof c st w o τ ob) xs us → Rs (KG (viewG c o τ) w) ys us) ∧ (∀ us, Rt (Kof c st w o τ ob) xs us → Rt (KG (viewG c o τ) w) ys us)) ?_ ?_ ?_ ?_ ?_ ?_ ?_ ?_ hv
  · intro x hp v hx
    exact R_mono (viewG_le c st w o τ ob) _ _ (R_pure _ _ hp (R_weaks hx))
  · intro x v _
    simp only [R]
  · intro d g off cs hg _ ih v hx
    simp only [R] at hx ⊢
    obtain ⟨b, hb, rfl⟩ := hx.2.2 hg
    obtain ⟨cs0, T, hc, _, _, hr⟩ := var_block h hb
    refine ⟨b, 0, by rw [Nat.zero_add], ?_⟩
    rw [KG_pure]
    refine rowAt_of (ih.1 _ hr) fun j v hj => ?_
    rw [Nat.zero_add]
    refine ⟨rfl, ?_, .inr ⟨hb.1, .inr (.inr ⟨d, hb.2.1⟩)⟩⟩
    rw [List.getElem?_take] at hj
    split at hj
    · simp [World.cell?, hc]; simpa using hj
    · cases hj
  · intro d g sz off n cp rows hg hl _ hsz hn ih v hx
    simp only [R] at hx ⊢
    obtain ⟨_, A, z, rfl, h1, h2, _, h3⟩ := hx
    obtain ⟨b, q, hb, rfl, hq⟩ := h3 hg
    obtain ⟨cs0, T, hc, _, _, hr⟩ := var_block h hb
    refine ⟨_, z, by rw [hn], by omega, h2, fun hne => ⟨b, q, rfl, ?_⟩, trivial⟩
    have hpos : 0 < rows.length := List.length_pos_iff.2 hne
    have hqo := hq (by omega)
    subst hqo
    rw [KG_pure]
    refine rowsAt_of (ih.1 _ (Rs_take _ (Rs_drop q hr))) hsz fun j v hj => ?_
    refine ⟨rfl, ?_, .inr ⟨hb.1, .inr (.inr ⟨d, hb.2.1⟩)⟩⟩
    rw [List.getElem?_take] at hj
    split at hj
    · rw [List.getElem?_drop, List.getElem?_take] at hj
      split at hj
      · simp [World.cell?, hc]; simpa using hj
      · cases hj
    · cases hj
  · intro f fs fs' cs cs' _ _ ih1 ih2 v hx
    simp only [R] at hx ⊢
    obtain ⟨us, vs, e, h1, h2⟩ := hx
    exact ⟨us, vs, e, ih1.2 _ h1, ih2.2 _ h2⟩
  · intro cs cs' _ ih v hx
    simp only [R] at hx ⊢
    obtain ⟨arr, e, h1⟩ := hx
    exact ⟨arr, e, ih.1 _ h1⟩
  · exact ⟨fun us h => by simpa [Rs] using h, fun us h => by simpa [Rt] using h⟩
  · intro x y xs ys _ _ ih1 ih2
    refine ⟨fun us h => ?_, fun us h => ?_⟩
    · simp only [Rs] at h ⊢
      obtain ⟨v, r, e, hx, ho, hr⟩ := h
      exact ⟨v, r, e, ih1 _ hx, ho, ih2.1 _ hr⟩
    · simp only [Rt] at h ⊢
      obtain ⟨v, r, e, hx, hr⟩ := h
      exact ⟨v, r, e, ih1 _ hx, ih2.2 _ hr⟩
theorem Views_sound (h : FR c st a w o τ ob) {xs ys : List AV} (hv : Views st xs ys) {us : List Value} (hr : Rt (Kof c st w o τ ob) xs us) : Rt (KG (viewG c o τ) w) ys us := by
  induction xs generalizing ys us with
  | nil => cases hv; simpa [Rt] using hr
  | cons x xs ih =>
    cases hv with
    | cons h1 h2 =>
      simp only [Rt] at hr ⊢
      obtain ⟨v, r, e, hx, hr⟩ := hr
      exact ⟨v, r, e, View_sound h h1 v hx, ih h2 hr⟩
theorem FR.callV (h : FR c st a w o τ ob) {P : Program} {f : FuncId} {args ys : List AV} {vs : List Value} {r : AV} (hp : Views st args ys) (hr : Rt (Kof c st w o τ ob) args vs) (hf : PCall P f ys r) (d : Nat) (he : r.flatB = true) :
    Calls P f vs.toArray w fun e w' => ∃ v o' τ', e = .returned v ∧ FR c st a w' o' τ' ob ∧ R (Kof c st w' o' τ' ob) r v ∧ KLe (Kof c st w o τ ob) (Kof c st w' o' τ' ob) := by
  refine (hf (viewG c o τ) w vs (viewG_lt h) (Views_sound h hp hr)).mono ?_
  rintro e w' ⟨v, oc, τc, rfl, hw, hlt, hv⟩
  obtain ⟨hF, hk⟩ := h.after (τc := τc) hw hlt d (st' := st) rfl rfl rfl rfl (fun _ => Nat.le_refl _) (fun _ _ _ h => h)
  exact ⟨v, _, _, rfl, hF, R_flat _ _ he hv, hk⟩
end
end Go.Av
