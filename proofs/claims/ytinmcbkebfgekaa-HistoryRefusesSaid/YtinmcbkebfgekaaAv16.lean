/-
  OWN TEXT. Regions in the order of the text; the rules for code; a function's contract out of its code.
-/
import Derived.Test.YtinmcbkebfgekaaAv15
import Derived.Deep.LoopGhost
set_option linter.all false
set_option linter.unusedVariables false
set_option linter.unusedSimpArgs false
namespace Go.Av
open Go.RowKit (Below)
variable {σ : Type}

section
variable {P : Program} {T : List Nat} {Φ : Orc} {c : Cx σ} {st st' : St σ} {a : Act} {w : World} {ow : Nat → Own} {τ : Nat → Nat} {ob : Nat → Value → Prop}

theorem yielded_of (h : FR c st a w ow τ ob) {ops : Array Oper} {j dg : Nat} (hj : (ops[j]?).bind (·.dst) = some dg) :
    (∀ b, st.env dg = .imm (.bool b) → yielded ops a.tmps j = some b) ∧ (st.env dg = .tup [] → yielded ops a.tmps j = none) := by
  have hR := h.tmps dg
  constructor
  · intro b e
    rw [e] at hR
    simp only [R] at hR
    have : a.tmps[dg]? = some (.bool b) := by
      rw [Array.getD_eq_getD_getElem?] at hR
      cases e : a.tmps[dg]? with
      | none => rw [e] at hR; simp [undef] at hR
      | some v => rw [e] at hR; simp at hR; rw [hR.1]
    simp [yielded, hj, this]
  · intro e
    rw [e] at hR
    simp only [R] at hR
    obtain ⟨arr, hv, _⟩ := hR
    unfold yielded
    rw [hj]
    simp only [Option.bind_some]
    rw [Array.getD_eq_getD_getElem?] at hv
    cases e : a.tmps[dg]? with
    | none => rfl
    | some v => rw [e] at hv; simp at hv; rw [hv]

theorem wanted_of (h : FR c st a w ow τ ob) {ops : Array Oper} {o : Oper} {g : Option (Nat × Bool)} (hg : compGuard ops o.guard = some g) {b : Bool} (hw : wantedA st g = some b) : Region.wanted o (yielded ops a.tmps) = b := by
  unfold Region.wanted
  unfold compGuard at hg
  split at hg
  · rename_i e
    injection hg with hg
    subst hg
    simp only [wantedA, Option.some.injEq] at hw
    rw [e, ← hw]
  · rename_i j want e
    rw [e]
    split at hg
    · rename_i dg hd
      injection hg with hg
      subst hg
      obtain ⟨h1, h2⟩ := yielded_of h hd
      simp only [wantedA] at hw
      split at hw
      · rename_i x ex
        injection hw with hw
        simp only [h1 x ex]
        rw [← hw]
        cases x <;> cases want <;> rfl
      · rename_i ex
        injection hw with hw
        simp only [h2 ex]
        rw [← hw]
        rfl
      · cases hw
    · cases hg

theorem FR.put_undef (h : FR c st a w ow τ ob) {dst : Option Nat} (hd : ∀ s, dst = some s → s < c.nt) : FR c (st.put dst undefA) (a.put dst undef) w ow τ ob := by
  cases dst with
  | none => exact h
  | some s => exact h.put (hd s rfl) (R_undef _)

theorem step_sim (hΦ : Specs σ P T Φ) {ops : Array Oper} {o : Oper} {ao : AOper} (hc : compO P T c.nt ops o = some ao) {k : Nat} (hs : stepA Φ k st ao = some st') (h : FR c st a w ow τ ob) {K : Act → World → Prop} {Q : Exit → Act → World → Prop}
    (hK : ∀ a' w' ow' τ', FR c st' a' w' ow' τ' ob → K a' w') : if Region.wanted o (yielded ops a.tmps) then o.wp P a w K Q ∨ (o.asks P a w ∧ LetsOut Q) else K (a.put o.dst undef) w := by
  unfold compO at hc
  split at hc
  · rename_i ap g hcomp hguard
    split at hc
    · rename_i hnt
      injection hc with hc
      subst hc
      have hlt : ∀ s, o.dst = some s → s < c.nt := by
        intro s e
        rw [e] at hnt
        simpa [dstOk] using hnt
      unfold stepA at hs
      simp only at hs
      split at hs
      · rename_i hw
        rw [wanted_of h hguard hw]
        simp only [if_true]
        obtain ⟨r, hr, hx⟩ := Option.map_eq_some_iff.1 hs
        subst hx
        obtain ⟨dst, op, type, pos, after, guard⟩ := o
        refine .inl (act_sim (c := c) hΦ hcomp (dst := dst) hr h K Q ?_)
        intro v w' ow' τ' hF hR
        refine hK _ _ ow' τ' ?_
        cases dst with
        | none => exact hF
        | some s => exact hF.put (hlt s rfl) hR
      · rename_i hw
        rw [wanted_of h hguard hw]
        simp only [Bool.false_eq_true, if_false]
        injection hs with hs
        subst hs
        exact hK _ _ ow τ (h.put_undef hlt)
      · cases hs
    · cases hc
  · cases hc

end

/-- As an operation without types, or as it stands. -/
def compOH (P : Program) (T : List Nat) (nt : Nat) (ops : Array Oper) (o : Oper) : Option AOper :=
  match compGuard ops o.guard with
  | some g => if dstOk nt o.dst = true then some ⟨o.dst, (comp P T o.op).getD (.hard o.op), g⟩ else none
  | none => none
def compLH (P : Program) (T : List Nat) (nt : Nat) (ops : Array Oper) : List Oper → Option (List AOper)
  | [] => some []
  | o :: rest => match compOH P T nt ops o, compLH P T nt ops rest with | some a, some r => some (a :: r) | _, _ => none

/-- What a hard operation does to the abstract state: a hypothesis of the walks. -/
def HStep (P : Program) (c : Cx σ) (o : Op) (st : St σ) (F : AV → St σ → Prop) : Prop :=
  ∀ dst type pos after guard a w ow τ ob, FR c st a w ow τ ob → ∀ K Q, (∀ x st' v w' ow' τ' ob', F x st' → FR c st' a w' ow' τ' ob' → R (Kof c st' w' ow' τ' ob') x v → K (a.put dst v) w') → (⟨dst, o, type, pos, after, guard⟩ : Oper).wp P a w K Q
/-- What a call does to the abstract state. -/
def ICallC (P : Program) (c : Cx σ) (n : Nat) (xs : List AV) (st : St σ) (F : AV → St σ → Prop) : Prop :=
  ∀ a w ow τ ob vs, FR c st a w ow τ ob → Rt (Kof c st w ow τ ob) xs vs →
    Calls P n vs.toArray w fun e w' => ∃ v x st' ow' τ' ob', e = .returned v ∧ F x st' ∧ st'.env = st.env ∧ FR c st' a w' ow' τ' ob' ∧ R (Kof c st' w' ow' τ' ob') x v

/-- The program, the numbers of its functions, what is known of the call; what is added to slots for names; appends that make a variable; what is made immutable ahead of which slot's operation. -/
structure Sys (σ : Type) where
  P : Program
  T : List Nat
  Γ : Cx σ → Prop
  off : Nat
  th : List Nat
  fz : List (Nat × Nat × Nat)
/-- A contract in the system; of a function value. -/
def Sys.C {σ : Type} (S : Sys σ) (f : Nat) (xs : List AV) (r : AV) : Prop := ∀ n, S.T[f]? = some n → PCall S.P n xs r
def Sys.CV {σ : Type} (S : Sys σ) (n : Nat) (xs : List AV) (r : AV) : Prop := PCall S.P n xs r ∧ Enters S.P n
/-- .. of a call that reads variables. -/
def Sys.V {σ : Type} (S : Sys σ) (f : Nat) (ys : List AV) (r : AV) : Prop := ∀ n, S.T[f]? = some n → PCall S.P n ys r
def Sys.I {σ : Type} (S : Sys σ) (f : Nat) (xs : List AV) (st : St σ) (F : AV → St σ → Prop) : Prop := ∀ c, S.Γ c → ∀ n, S.T[f]? = some n → ICallC S.P c n xs st F
def Sys.IV {σ : Type} (S : Sys σ) (n : Nat) (xs : List AV) (st : St σ) (F : AV → St σ → Prop) : Prop := (∀ c, S.Γ c → ICallC S.P c n xs st F) ∧ Enters S.P n

/-! ### one value stands for what another stands for -/
def AV.le1 : AV → AV → Prop
  | .imm (.slice none 0 0), .sl _ tok rows => rows = [] ∧ (tok = .ro ∨ tok = .full)
  | .sl s t r, .sl s' t' r' => s = s' ∧ r = r' ∧ (t' = .ro ∨ t = t')
  | x, y => x = y
def AV.les1 : List AV → List AV → Prop
  | [], ys => ys = []
  | x :: xs, y :: ys => x.le1 y ∧ AV.les1 xs ys
  | _ :: _, [] => False
def AV.le2 : AV → AV → Prop
  | .agg xs, .agg ys => AV.les1 xs ys
  | x, y => x.le1 y
def AV.les2 : List AV → List AV → Prop
  | [], ys => ys = []
  | x :: xs, y :: ys => x.le2 y ∧ AV.les2 xs ys
  | _ :: _, [] => False
def AV.le : AV → AV → Prop
  | .tup xs, .tup ys => AV.les2 xs ys
  | x, y => x.le2 y
theorem R_le1 {k : K} {x y : AV} {v : Value} (h : x.le1 y) (hr : R k x v) : R k y v := by
  unfold AV.le1 at h
  split at h
  · obtain ⟨rfl, ht⟩ := h
    simp only [R] at hr ⊢
    refine ⟨none, 0, hr.1, Nat.le_refl _, Nat.zero_le _, fun h => absurd rfl h, ?_⟩
    rcases ht with rfl | rfl <;> simp
  · obtain ⟨rfl, rfl, rfl | rfl⟩ := h
    · simp only [R] at hr ⊢
      obtain ⟨A, c, e, hl, hm, hrr, _⟩ := hr
      exact ⟨A, c, e, hl, hm, hrr, trivial⟩
    · exact hr
  · subst h; exact hr
theorem Rs_les1 {k : K} : ∀ {xs ys : List AV} {vs : List Value}, AV.les1 xs ys → Rs k xs vs → Rs k ys vs
  | [], ys, vs, h, hr => by simp only [AV.les1] at h; subst h; exact hr
  | x :: xs, [], vs, h, hr => by simp [AV.les1] at h
  | x :: xs, y :: ys, vs, h, hr => by
    simp only [AV.les1] at h
    simp only [Rs] at hr ⊢
    obtain ⟨v, r, e, hx, ho, hrr⟩ := hr
    exact ⟨v, r, e, R_le1 h.1 hx, ho, Rs_les1 h.2 hrr⟩
theorem R_le2 {k : K} {x y : AV} {v : Value} (h : x.le2 y) (hr : R k x v) : R k y v := by
  unfold AV.le2 at h
  split at h
  · simp only [R] at hr ⊢
    obtain ⟨arr, e, h'⟩ := hr
    exact ⟨arr, e, Rs_les1 h h'⟩
  · exact R_le1 h hr
theorem Rt_les2 {k : K} : ∀ {xs ys : List AV} {vs : List Value}, AV.les2 xs ys → Rt k xs vs → Rt k ys vs
  | [], ys, vs, h, hr => by simp only [AV.les2] at h; subst h; exact hr
  | x :: xs, [], vs, h, hr => by simp [AV.les2] at h
  | x :: xs, y :: ys, vs, h, hr => by
    simp only [AV.les2] at h
    simp only [Rt] at hr ⊢
    obtain ⟨v, r, e, hx, hrr⟩ := hr
    exact ⟨v, r, e, R_le2 h.1 hx, Rt_les2 h.2 hrr⟩
theorem R_le {k : K} {x y : AV} {v : Value} (h : x.le y) (hr : R k x v) : R k y v := by
  unfold AV.le at h
  split at h
  · simp only [R] at hr ⊢
    obtain ⟨arr, e, h'⟩ := hr
    exact ⟨arr, e, Rt_les2 h h'⟩
  · exact R_le2 h hr


/-! ### a variable's block becomes immutable -/
def chunk (sz n : Nat) (cells : List AV) : List (List AV) := (List.range n).map fun i => (cells.drop (i * sz)).take sz
theorem chunk_flatten (sz : Nat) : ∀ (n : Nat) (cells : List AV), n * sz ≤ cells.length → (chunk sz n cells).flatten = cells.take (n * sz)
  | 0, cells, h => by simp [chunk]
  | n + 1, cells, h => by
    have ih := chunk_flatten sz n cells (by rw [Nat.add_mul] at h; omega)
    unfold chunk at ih ⊢
    rw [List.range_succ, List.map_append, List.flatten_append, ih]
    simp only [List.map_cons, List.map_nil, List.flatten_cons, List.flatten_nil, List.append_nil]
    rw [Nat.add_mul, Nat.one_mul, List.take_add]
theorem chunk_length (sz n : Nat) (cells : List AV) (h : n * sz ≤ cells.length) : ∀ r ∈ chunk sz n cells, r.length = sz := by
  intro r hr
  unfold chunk at hr
  obtain ⟨i, hi, rfl⟩ := List.mem_map.1 hr
  have hi := List.mem_range.1 hi
  have : (i + 1) * sz ≤ n * sz := Nat.mul_le_mul_right _ hi
  rw [Nat.add_mul] at this
  simp
  omega
/-- What goes into immutable memory; what cannot is forgotten. -/
def AV.weakp (x : AV) : AV := if x.weak.pureB then x.weak else .dead
theorem weakp_pure (x : AV) : x.weakp.pureB = true := by
  unfold AV.weakp
  split
  · assumption
  · rfl
theorem weakps_pure : ∀ xs : List AV, AV.pureBs (xs.map AV.weakp) = true
  | [] => rfl
  | x :: xs => by simp only [List.map_cons, AV.pureBs, weakp_pure, weakps_pure xs, Bool.and_self]
theorem R_weakp {k : K} {x : AV} {v : Value} (h : R k x v) : R k x.weakp v := by
  unfold AV.weakp
  split
  · exact R_weak h
  · simp only [R]
theorem Rs_weakp {k : K} : ∀ {xs : List AV} {us : List Value}, Rs k xs us → Rs k (xs.map AV.weakp) us
  | [], us, h => by simpa [Rs] using h
  | y :: ys, us, h => by
    simp only [Rs, List.map_cons] at h ⊢
    obtain ⟨u, r, e, hy, ho, hrr⟩ := h
    exact ⟨u, r, e, R_weakp hy, ho, Rs_weakp hrr⟩
def AV.frz1 (d g sz : Nat) (cells : List AV) : AV → AV
  | .vsl d' g' sz' off n cp => if d' = d ∧ g' = g ∧ sz' = sz ∧ off + n * sz ≤ cells.length then .sl sz .ro (chunk sz n (cells.drop off)) else .vsl d' g' sz' off n cp
  | .ptr d' g' off => if d' = d ∧ g' = g then .eptr cells off else .ptr d' g' off
  | x => x
def AV.frz (d g sz : Nat) (cells : List AV) : AV → AV
  | .agg cs => .agg (cs.map (AV.frz1 d g sz cells))
  | x => x.frz1 d g sz cells
def St.frz (st : St σ) (d sz : Nat) : St σ :=
  let cells := (st.var d).map AV.weakp
  { st with env := fun s => (st.env s).frz d (st.gen d) sz cells, gen := upd st.gen d (st.gen d + 1), var := upd (fun i => (st.var i).map (AV.frz1 d (st.gen d) sz cells)) d [] }

section
variable {c : Cx σ} {st : St σ} {a : Act} {w : World} {o : Nat → Own} {τ : Nat → Nat} {ob : Nat → Value → Prop}
def frzOwn (o : Nat → Own) (d : Nat) : Nat → Own := fun b => match o b with | .var d' => if d' = d then .imm else .var d' | x => x
theorem frzOwn_var {d d' b : Nat} (h : frzOwn o d b = .var d') : o b = .var d' ∧ d' ≠ d := by
  unfold frzOwn at h
  split at h
  · split at h
    · cases h
    · rename_i e h2; injection h with h; subst h; exact ⟨e, h2⟩
  · rename_i hn; exact absurd h (hn d')
theorem frzOwn_at {d b : Nat} (h : o b = .var d) : frzOwn o d b = .imm := by simp [frzOwn, h]
theorem frzOwn_ne {d b d' : Nat} (h : o b = .var d') (hd : d' ≠ d) : frzOwn o d b = .var d' := by simp [frzOwn, h, hd]
theorem frzOwn_other {d b : Nat} (h : ∀ d', o b ≠ .var d') : frzOwn o d b = o b := by
  unfold frzOwn
  split
  · rename_i d' e; exact absurd e (h d')
  · rfl
theorem FR.freeze (h : FR c st a w o τ ob) (d sz : Nat) : FR c (st.frz d sz) a w (frzOwn o d) τ ob := by
  have hk : KLe (Kof c st w o τ ob) (Kof c (st.frz d sz) w (frzOwn o d) τ ob) := by
    refine KLe_of (fun _ _ => rfl) ?_ ?_ ?_ ?_ (fun _ => Nat.le_refl _) (fun _ _ _ h => h) ?_ (fun _ _ h => h)
    · intro p hb hi
      exact ⟨rfl, (frzOwn_other (by rw [hi]; simp)).trans hi⟩
    · intro p t hb hi hlt
      exact ⟨rfl, .inr ⟨t, (frzOwn_other (by rw [hi]; simp)).trans hi, hlt⟩⟩
    · intro d'
      simp only [St.frz, upd]
      split
      · rename_i e; subst e; omega
      · exact Nat.le_refl _
    · intro d' b hg hb hv
      refine ⟨frzOwn_ne hv ?_, fun _ hq => hq⟩
      rintro rfl
      simp [St.frz, upd] at hg
    · intro t n b cur T _ _ hb ht hc
      exact ⟨(frzOwn_other (by rw [ht]; simp)).trans ht, rfl, cur, T, hc, rfl⟩
  have hcells : ∀ b z, (Kof c st w o τ ob).vb d b (some z) → ∃ vs, Rs (Kof c (st.frz d sz) w (frzOwn o d) τ ob).pure ((st.var d).map AV.weakp) vs ∧ ∀ j v, vs[j]? = some v → (Kof c (st.frz d sz) w (frzOwn o d) τ ob).pure.ic ⟨b, j, none⟩ v := by
    intro b z hvb
    obtain ⟨cs, T, hc, _, _, hr⟩ := var_block h hvb
    refine ⟨_, Rs_mono hk.pure _ _ (Rs_pure _ _ (weakps_pure _) (Rs_weakp hr)), fun j v hj => ?_⟩
    rw [List.getElem?_take] at hj
    split at hj
    · refine ⟨rfl, ?_, .inr ⟨hvb.1, .inl (frzOwn_at hvb.2.1)⟩⟩
      have hj' : cs[j]? = some v := by simpa using hj
      show w.cell? _ = _
      simp [World.cell?, hc, hj']
    · cases hj
  have h1 : ∀ x v, R (Kof c st w o τ ob) x v → R (Kof c (st.frz d sz) w (frzOwn o d) τ ob) (x.frz1 d (st.gen d) sz ((st.var d).map AV.weakp)) v := by
    intro x v hx
    unfold AV.frz1
    split
    · rename_i d' g' sz' off n cp
      split
      · rename_i hc
        obtain ⟨rfl, rfl, rfl, hn⟩ := hc
        simp only [R] at hx ⊢
        obtain ⟨_, A, cc, rfl, h1, h2, _, hb⟩ := hx
        obtain ⟨b, q, hvb, rfl, hq⟩ := hb rfl
        have hl : (chunk sz' n (((st.var d').map AV.weakp).drop off)).length = n := by simp [chunk]
        refine ⟨_, cc, by rw [hl], by rw [hl]; exact h1, h2, fun hne => ⟨b, q, rfl, ?_⟩, trivial⟩
        have hpos : 0 < n := by rw [← hl]; exact List.length_pos_iff.2 hne
        have := hq (by omega)
        subst this
        obtain ⟨vs, hvs, hcl⟩ := hcells b _ hvb
        have hlen : n * sz' ≤ (((st.var d').map AV.weakp).drop q).length := by simp at hn ⊢; omega
        refine rowsAt_of (vs := (vs.drop q).take (n * sz')) ?_ (chunk_length _ _ _ hlen) fun j v hj => ?_
        · rw [chunk_flatten _ _ _ hlen]
          exact Rs_take _ (Rs_drop _ hvs)
        · rw [List.getElem?_take] at hj
          split at hj
          · rw [List.getElem?_drop] at hj; exact hcl _ _ hj
          · cases hj
      · exact R_mono hk _ _ hx
    · rename_i d' g' off
      split
      · rename_i hc
        obtain ⟨rfl, rfl⟩ := hc
        simp only [R] at hx ⊢
        obtain ⟨_, _, hb⟩ := hx
        obtain ⟨b, hvb, rfl⟩ := hb rfl
        obtain ⟨vs, hvs, hcl⟩ := hcells b _ hvb
        exact ⟨b, 0, by rw [Nat.zero_add], rowAt_of hvs fun j v hj => by rw [Nat.zero_add]; exact hcl j v hj⟩
      · exact R_mono hk _ _ hx
    · exact R_mono hk _ _ hx
  have hs : ∀ xs vs, Rs (Kof c st w o τ ob) xs vs → Rs (Kof c (st.frz d sz) w (frzOwn o d) τ ob) (xs.map (AV.frz1 d (st.gen d) sz ((st.var d).map AV.weakp))) vs := by
    intro xs
    induction xs with
    | nil => intro vs hx; simpa [Rs] using hx
    | cons x xs ih =>
      intro vs hx
      simp only [Rs, List.map_cons] at hx ⊢
      obtain ⟨v, r, rfl, hx, ho, hr⟩ := hx
      exact ⟨v, r, rfl, h1 x v hx, ho, ih r hr⟩
  have hm : ∀ xs es, Rm (Kof c st w o τ ob) xs es → Rm (Kof c (st.frz d sz) w (frzOwn o d) τ ob) (xs.map (AV.frz1 d (st.gen d) sz ((st.var d).map AV.weakp))) es := by
    intro xs
    induction xs with
    | nil => intro es hx; simpa [Rm] using hx
    | cons x xs ih =>
      intro es hx
      simp only [Rm, List.map_cons] at hx ⊢
      obtain ⟨kx, vx, e, r, rfl, rfl, hk1, hv1, hr⟩ := hx
      exact ⟨kx, vx, e, r, rfl, rfl, R_mono hk _ _ hk1, R_mono hk _ _ hv1, ih r hr⟩
  refine ⟨h.defers, h.size, h.keeps, h.base, ?_, ?_, ?_, ?_, ?_, ?_⟩
  · intro b hb ho
    refine h.lt b hb fun e => ho ?_
    rw [frzOwn_other (by rw [e]; simp)]; exact e
  · intro s
    show R _ ((st.env s).frz d (st.gen d) sz ((st.var d).map AV.weakp)) _
    have := h.tmps s
    unfold AV.frz
    split
    · rename_i cs e
      rw [e] at this
      simp only [R] at this ⊢
      obtain ⟨arr, hv, hr⟩ := this
      exact ⟨arr, hv, hs _ _ hr⟩
    · exact h1 _ _ this
  · intro d' b hb hv
    obtain ⟨hv', hd⟩ := frzOwn_var hv
    obtain ⟨obj, hc, hr⟩ := h.vars d' b hb hv'
    refine ⟨obj, hc, ?_⟩
    show VR _ (upd (fun i => (st.var i).map (AV.frz1 d (st.gen d) sz ((st.var d).map AV.weakp))) d [] d') _
    rw [upd_ne _ _ _ hd]
    cases obj with
    | cells cs T fr =>
      refine ⟨hr.1, hr.2.1, ?_⟩
      simp only [List.length_map]
      exact hs _ _ hr.2.2
    | map es clk => exact hm _ _ hr
    | _ => exact hr.elim
  · intro d' b b' hb hb' hv hv'
    exact h.uniq d' b b' hb hb' (frzOwn_var hv).1 (frzOwn_var hv').1
  · intro x v hx
    exact R_mono hk _ _ (h.saved x v hx)
  · have : (fun b => (b < c.base ∧ c.E0 b) ∨ (c.base ≤ b ∧ frzOwn o d b = .ext)) = (fun b => (b < c.base ∧ c.E0 b) ∨ (c.base ≤ b ∧ o b = .ext)) := by
      funext b
      apply propext
      refine or_congr Iff.rfl (and_congr_right fun hb => ⟨fun hx => ?_, fun hx => ?_⟩)
      · unfold frzOwn at hx
        split at hx
        · split at hx <;> cases hx
        · exact hx
      · exact (frzOwn_other (by rw [hx]; simp)).trans hx
    rw [this]
    exact h.ext
end
end Go.Av
