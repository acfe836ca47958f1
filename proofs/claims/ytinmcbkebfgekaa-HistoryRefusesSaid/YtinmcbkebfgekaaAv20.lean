/-
  OWN TEXT. Code's conditions; a function's contract out of its code's condition.
-/
import Derived.Test.YtinmcbkebfgekaaAv19
set_option linter.all false
set_option linter.unusedVariables false
set_option linter.unusedSimpArgs false
namespace Go.Av
open Go.RowKit (Below)
variable {σ : Type}

def wDraw (S : Sys σ) (st : St σ) : List AOper → List Eff → (St σ → List Eff → Prop) → Prop
  | [], lg, K => K st lg.reverse
  | o :: rest, lg, K => wStep S false st o fun s => wDraw S s rest (eff (S.off + o.dst.getD 0) st o.op :: lg) K

/-- The code read without types. -/
def compC (P : Program) (T : List Nat) (nt : Nat) : Code → Option ACode
  | .skip => some .skip
  | .region _ ops false => (compLH P T nt ops ops.toList).map .region
  | .region _ ops true => if (P.follows .mixedOrders || !Region.departs ops) && befOk ops (befs ops) then (compL P T nt ops ops.toList).map (.draw · (befs ops)) else none
  | .seq a b => match compC P T nt a, compC P T nt b with | some x, some y => some (.seq x y) | _, _ => none
  | .cond c x y => match compC P T nt x, compC P T nt y with | some x, some y => some (.cond c x y) | _, _ => none
  | .block id x => (compC P T nt x).map (.block id)
  | .loop x => (compC P T nt x).map .loop
  | .exit id => some (.exit id)
  | .ret => some .ret
  | _ => none

/-- Where code may end. -/
def Post (c : Cx σ) (N Rr : St σ → Prop) (E : Nat → St σ → Prop) : Exit → Act → World → Prop := fun e a' w' =>
  match e with
  | .normal => ∃ st' ow' τ' ob', N st' ∧ FR c st' a' w' ow' τ' ob'
  | .ret => ∃ st' ow' τ' ob', Rr st' ∧ FR c st' a' w' ow' τ' ob'
  | .exit id => ∃ st' ow' τ' ob', E id st' ∧ FR c st' a' w' ow' τ' ob'
  | _ => False
/-- From an abstract state the code comes to its end (N), to a return (Rr), out of a block (E). -/
def AW (S : Sys σ) (ac : ACode) (st : St σ) (N Rr : St σ → Prop) (E : Nat → St σ → Prop) : Prop :=
  ∀ (c : Cx σ), S.Γ c → ∀ code, compC S.P S.T c.nt code = some ac → ∀ a w ow τ ob, FR c st a w ow τ ob → code.wp S.P (Post c N Rr E) a w

/-- The condition of code; of a loop it is left standing. -/
def wCode (S : Sys σ) : ACode → St σ → (St σ → Prop) → (St σ → Prop) → (Nat → St σ → Prop) → Prop
  | .skip, st, N, _, _ => N st
  | .region ops, st, N, _, _ => wOps S st ops N
  | .draw ops bef, st, N, _, _ => wDraw S st ops [] fun s lg => pairsOk ops lg bef = true ∧ N s
  | .seq a b, st, N, Rr, E => wCode S a st (fun s => wCode S b s N Rr E) Rr E
  | .cond cd x y, st, N, Rr, E => match st.ev cd with | .imm (.bool t) => (t = true → wCode S x st N Rr E) ∧ (t = false → wCode S y st N Rr E) | _ => False
  | .block id x, st, N, Rr, E => wCode S x st N Rr fun i s => if i = id then N s else E i s
  | .loop x, st, N, Rr, E => AW S (.loop x) st N Rr E
  | .exit id, st, _, _, E => E id st
  | .ret, st, _, Rr, _ => Rr st

section
variable {S : Sys σ} {N Rr : St σ → Prop} {E : Nat → St σ → Prop} {P : Program} {T : List Nat} {nt : Nat}
theorem compC_skip {code : Code} (h : compC P T nt code = some .skip) : code = .skip := by
  cases code with
  | region id ops draw => cases draw <;> simp [compC] at h
  | seq x y => simp only [compC] at h; split at h <;> cases h
  | cond x y z => simp only [compC] at h; split at h <;> cases h
  | _ => first | rfl | (simp [compC] at h)
theorem compC_region {code : Code} {al : List AOper} (h : compC P T nt code = some (.region al)) : ∃ id ops, code = .region id ops false ∧ compLH P T nt ops ops.toList = some al := by
  cases code with
  | region id ops draw =>
    cases draw with
    | false => simp only [compC, Option.map_eq_some_iff] at h; obtain ⟨x, hx, hy⟩ := h; injection hy with hy; subst hy; exact ⟨_, _, rfl, hx⟩
    | true => simp [compC] at h
  | seq x y => simp only [compC] at h; split at h <;> cases h
  | cond x y z => simp only [compC] at h; split at h <;> cases h
  | _ => simp [compC] at h
theorem compC_draw {code : Code} {al : List AOper} {bef : List (List Nat)} (h : compC P T nt code = some (.draw al bef)) : ∃ id ops, code = .region id ops true ∧ bef = befs ops ∧ (P.follows .mixedOrders || !Region.departs ops) = true ∧ befOk ops bef = true ∧ compL P T nt ops ops.toList = some al := by
  cases code with
  | region id ops draw =>
    cases draw with
    | false => simp [compC] at h
    | true =>
      simp only [compC] at h
      split at h
      · rename_i hc
        simp only [Bool.and_eq_true] at hc
        obtain ⟨x, hx, hy⟩ := Option.map_eq_some_iff.1 h
        injection hy with h1 h2
        subst h1; subst h2
        exact ⟨_, _, rfl, rfl, hc.1, hc.2, hx⟩
      · cases h
  | seq x y => simp only [compC] at h; split at h <;> cases h
  | cond x y z => simp only [compC] at h; split at h <;> cases h
  | _ => simp [compC] at h
theorem compC_seq {code : Code} {x y : ACode} (h : compC P T nt code = some (.seq x y)) : ∃ cx cy, code = .seq cx cy ∧ compC P T nt cx = some x ∧ compC P T nt cy = some y := by
  cases code with
  | region id ops draw => cases draw <;> simp [compC] at h
  | seq a b =>
    simp only [compC] at h
    split at h
    · rename_i p q h1 h2; injection h with h; injection h with e1 e2; subst e1; subst e2; exact ⟨_, _, rfl, h1, h2⟩
    · cases h
  | cond x y z => simp only [compC] at h; split at h <;> cases h
  | _ => simp [compC] at h
theorem compC_cond {code : Code} {cd : Operand} {x y : ACode} (h : compC P T nt code = some (.cond cd x y)) : ∃ cx cy, code = .cond cd cx cy ∧ compC P T nt cx = some x ∧ compC P T nt cy = some y := by
  cases code with
  | region id ops draw => cases draw <;> simp [compC] at h
  | seq a b => simp only [compC] at h; split at h <;> cases h
  | cond z a b =>
    simp only [compC] at h
    split at h
    · rename_i p q h1 h2; injection h with h; injection h with e0 e1 e2; subst e0; subst e1; subst e2; exact ⟨_, _, rfl, h1, h2⟩
    · cases h
  | _ => simp [compC] at h
theorem compC_block {code : Code} {id : Nat} {x : ACode} (h : compC P T nt code = some (.block id x)) : ∃ cx, code = .block id cx ∧ compC P T nt cx = some x := by
  cases code with
  | region id ops draw => cases draw <;> simp [compC] at h
  | seq a b => simp only [compC] at h; split at h <;> cases h
  | cond z a b => simp only [compC] at h; split at h <;> cases h
  | block i a => simp only [compC, Option.map_eq_some_iff] at h; obtain ⟨q, hq, hy⟩ := h; injection hy with e1 e2; subst e1; subst e2; exact ⟨_, rfl, hq⟩
  | _ => simp [compC] at h
theorem compC_loop {code : Code} {x : ACode} (h : compC P T nt code = some (.loop x)) : ∃ cx, code = .loop cx ∧ compC P T nt cx = some x := by
  cases code with
  | region id ops draw => cases draw <;> simp [compC] at h
  | seq a b => simp only [compC] at h; split at h <;> cases h
  | cond z a b => simp only [compC] at h; split at h <;> cases h
  | loop a => simp only [compC, Option.map_eq_some_iff] at h; obtain ⟨q, hq, hy⟩ := h; injection hy with e1; subst e1; exact ⟨_, rfl, hq⟩
  | _ => simp [compC] at h
theorem compC_exit {code : Code} {id : Nat} (h : compC P T nt code = some (.exit id)) : code = .exit id := by
  cases code with
  | region id ops draw => cases draw <;> simp [compC] at h
  | seq a b => simp only [compC] at h; split at h <;> cases h
  | cond z a b => simp only [compC] at h; split at h <;> cases h
  | exit i => simp only [compC, Option.some.injEq, ACode.exit.injEq] at h; rw [h]
  | _ => simp [compC] at h
theorem compC_ret {code : Code} (h : compC P T nt code = some .ret) : code = .ret := by
  cases code with
  | region id ops draw => cases draw <;> simp [compC] at h
  | seq a b => simp only [compC] at h; split at h <;> cases h
  | cond z a b => simp only [compC] at h; split at h <;> cases h
  | ret => rfl
  | _ => simp [compC] at h

/-- The steps that the text's order makes. -/
theorem wDraw_run {K : St σ → List Eff → Prop} : ∀ (ops : List AOper) (lg : List Eff) (st : St σ), wDraw S st ops lg K →
    ∃ (Φs : Nat → Orc) (es : List Eff) (t : St σ), (∀ i, Specs σ S.P S.T (Φs i)) ∧ es.length = ops.length ∧ K t (lg.reverse ++ es) ∧ ∀ k, runG (fun i s => match ops[i - k]? with | some o => stepE (Φs (i - k)) S.off (es.getD (i - k) noEff) o s | none => none) (List.range' k ops.length) st = some t
  | [], lg, st, h => ⟨fun _ => noCalls, [], st, fun _ => specs_no _ _, rfl, by simpa [wDraw] using h, fun k => rfl⟩
  | o :: ops, lg, st, h => by
    simp only [wDraw] at h
    obtain ⟨Φ, hΦ, st1, h1, h2⟩ := wStep_step h
    obtain ⟨Φs, es, t, k1, k2, k3, k4⟩ := wDraw_run ops _ st1 h2
    refine ⟨fun i => if i = 0 then Φ else Φs (i - 1), eff (S.off + o.dst.getD 0) st o.op :: es, t, fun i => ?_, by simp [k2], by simpa using k3, fun k => ?_⟩
    · cases i with
      | zero => exact hΦ
      | succ i => exact k1 i
    · simp only [List.length_cons, List.range'_succ, runG]
      have e0 : (match (o :: ops)[k - k]? with | some o' => stepE ((fun i => if i = 0 then Φ else Φs (i - 1)) (k - k)) S.off ((eff (S.off + o.dst.getD 0) st o.op :: es).getD (k - k) noEff) o' st | none => none) = some st1 := by
        simp [stepE, h1]
      rw [e0]
      simp only []
      rw [← k4 (k + 1)]
      have : ∀ (l : List Nat) (s : St σ), (∀ i, i ∈ l → k + 1 ≤ i) → runG (fun i s => match (o :: ops)[i - k]? with | some o' => stepE ((fun i => if i = 0 then Φ else Φs (i - 1)) (i - k)) S.off ((eff (S.off + o.dst.getD 0) st o.op :: es).getD (i - k) noEff) o' s | none => none) l s = runG (fun i s => match ops[i - (k + 1)]? with | some o => stepE (Φs (i - (k + 1))) S.off (es.getD (i - (k + 1)) noEff) o s | none => none) l s := by
        intro l
        induction l with
        | nil => intro s _; rfl
        | cons i l ih =>
          intro s hl
          have hi := hl i (by simp)
          obtain ⟨m, rfl⟩ : ∃ m, i = m + (k + 1) := ⟨i - (k + 1), by omega⟩
          have e1 : m + (k + 1) - k = m + 1 := by omega
          have e2 : m + (k + 1) - (k + 1) = m := by omega
          simp only [runG, e1, e2, List.getElem?_cons_succ, List.getD_cons_succ, Nat.add_one_ne_zero, if_false, Nat.add_sub_cancel]
          split
          · exact ih _ fun j hj => hl j (by simp [hj])
          · rfl
      exact this _ _ fun i hi => by have := List.mem_range'.1 hi; obtain ⟨j, hj, e⟩ := this; omega

theorem FR.drew' {c : Cx σ} {st : St σ} {a : Act} {w : World} {ow : Nat → Own} {τ : Nat → Nat} {ob : Nat → Value → Prop} (h : FR c st a w ow τ ob) : FR c st a { w with drawn := w.drawn + 1 } ow τ ob := h.drew

theorem AW_of_wCode : ∀ (ac : ACode) (st : St σ) (N Rr : St σ → Prop) (E : Nat → St σ → Prop), wCode S ac st N Rr E → AW S ac st N Rr E
  | .skip, st, N, Rr, E, h, c, hΓ, code, hco, a, w, ow, τ, ob, hF => by
    rw [compC_skip hco]
    exact wp_skip ⟨st, ow, τ, ob, h, hF⟩
  | .region al, st, N, Rr, E, h, c, hΓ, code, hco, a, w, ow, τ, ob, hF => by
    obtain ⟨id, ops, rfl, hcl⟩ := compC_region hco
    refine wp_region ?_
    rw [List.range_eq_range']
    simpa using wOps_sim hΓ ops.toList 0 al st a w ow τ ob rfl hcl h hF fun st' a' w' ow' τ' ob' hN hF' => ⟨st', ow', τ', ob', hN, hF'⟩
  | .draw al bef, st, N, Rr, E, h, c, hΓ, code, hco, a, w, ow, τ, ob, hF => by
    obtain ⟨id, ops, rfl, hb, hmx, hbo, hcl⟩ := compC_draw hco
    obtain ⟨Φs, es, t, hΦ, hes, ⟨hpr, hN⟩, hrun⟩ := wDraw_run al [] st h
    refine wp_region_draw fun tt => ?_
    unfold Region.schedule
    rw [if_pos hmx]
    unfold Region.linearise
    refine wpAny_sound ops.size tt _ a _ ?_
    have hlen : al.length = ops.size := by simpa using (compL_get (c := { base := 0, w0 := default, G0 := fun _ => False, E0 := fun _ => False, nt := c.nt, sv := c.sv, rep := c.rep, stable := c.stable, g0 := fun _ h => h.elim }) hcl).1
    have hrun0 := hrun 0
    simp only [Nat.sub_zero] at hrun0
    refine any_sim (c := c) hcl hbo hΦ hpr (fun a' w' ow' τ' hF' => ⟨t, ow', τ', ob, hN, hF'⟩) ops.size _ (List.range' 0 al.length) st a _ ow τ (by simp [hlen]) ?_ hrun0 hF.drew'
    refine ⟨by simp, List.pairwise_lt_range', fun i => ?_, fun i hi hl => ?_⟩
    · rw [List.mem_range']
      constructor
      · rintro ⟨j, hj, rfl⟩
        refine ⟨by omega, ?_⟩
        simp [Array.getD_eq_getD_getElem?, Array.getElem?_replicate, show j < ops.size by omega]
      · rintro ⟨hi, _⟩
        exact ⟨i, by omega, by omega⟩
    · simp [Array.getD_eq_getD_getElem?, Array.getElem?_replicate, hi] at hl
  | .seq x y, st, N, Rr, E, h, c, hΓ, code, hco, a, w, ow, τ, ob, hF => by
    obtain ⟨cx, cy, rfl, hx, hy⟩ := compC_seq hco
    refine wp_seq (wp_mono (AW_of_wCode x st _ _ _ h c hΓ cx hx a w ow τ ob hF) ?_)
    intro e a' w' q
    cases e with
    | normal => obtain ⟨s, o', t', ob', hs, hf⟩ := q; exact AW_of_wCode y s _ _ _ hs c hΓ cy hy a' w' o' t' ob' hf
    | _ => exact q
  | .cond cd x y, st, N, Rr, E, h, c, hΓ, code, hco, a, w, ow, τ, ob, hF => by
    obtain ⟨cx, cy, rfl, hx, hy⟩ := compC_cond hco
    simp only [wCode] at h
    split at h
    · rename_i t e
      have hR := R_ev hF cd
      rw [e] at hR
      simp only [R] at hR
      refine wp_cond hR.1 ?_
      cases t
      · exact AW_of_wCode y st _ _ _ (h.2 rfl) c hΓ cy hy a w ow τ ob hF
      · exact AW_of_wCode x st _ _ _ (h.1 rfl) c hΓ cx hx a w ow τ ob hF
    · exact h.elim
  | .block id x, st, N, Rr, E, h, c, hΓ, code, hco, a, w, ow, τ, ob, hF => by
    obtain ⟨cx, rfl, hx⟩ := compC_block hco
    refine wp_block (wp_mono (AW_of_wCode x st _ _ _ h c hΓ cx hx a w ow τ ob hF) ?_)
    intro e a' w' q
    cases e with
    | normal => exact q
    | ret => exact q
    | exit i =>
      obtain ⟨s, o', t', ob', hs, hf⟩ := q
      by_cases hi : i = id
      · rw [if_pos hi] at hs
        simp only [Exit.inBlock, hi, if_true]
        exact ⟨s, o', t', ob', hs, hf⟩
      · rw [if_neg hi] at hs
        simp only [Exit.inBlock, hi, if_false]
        exact ⟨s, o', t', ob', hs, hf⟩
    | _ => exact q
  | .loop x, st, N, Rr, E, h, c, hΓ, code, hco, a, w, ow, τ, ob, hF => h c hΓ code hco a w ow τ ob hF
  | .exit id, st, N, Rr, E, h, c, hΓ, code, hco, a, w, ow, τ, ob, hF => by
    rw [compC_exit hco]
    exact wp_exit ⟨st, ow, τ, ob, h, hF⟩
  | .ret, st, N, Rr, E, h, c, hΓ, code, hco, a, w, ow, τ, ob, hF => by
    rw [compC_ret hco]
    exact wp_ret ⟨st, ow, τ, ob, h, hF⟩

/-- A loop: I n holds at the head of each round, n goes down. -/
theorem AW.loop {x : ACode} {st : St σ} (I : Nat → St σ → Prop) (n : Nat) (h0 : I n st) (h : ∀ n s, I n s → wCode S x s (fun s' => ∃ n', n' < n ∧ I n' s') Rr E) : AW S (.loop x) st N Rr E := by
  intro c hΓ code hco a w ow τ ob hF
  obtain ⟨cx, rfl, h1⟩ := compC_loop hco
  refine wp_loop_ghost (fun n a w => ∃ s ow τ ob, I n s ∧ FR c s a w ow τ ob) n ⟨st, ow, τ, ob, h0, hF⟩ ?_
  rintro m a' w' ⟨s, ow', τ', ob', hI, hF'⟩
  refine wp_mono (AW_of_wCode x s _ _ _ (h m s hI) c hΓ cx h1 a' w' ow' τ' ob' hF') ?_
  intro e a'' w'' q
  cases e with
  | normal => obtain ⟨s', o', t', ob'', ⟨n', hn, hs⟩, hf⟩ := q; exact ⟨n', hn, s', o', t', ob'', hs, hf⟩
  | _ => exact q
end

/-- A function without types: its slots, its code, where its results lie. -/
structure AFun where
  nt : Nat
  code : ACode
  res : List (Nat × Option (Bool × Nat))

def compRes (P : Program) : List ResultVar → Option (List (Nat × Option (Bool × Nat)))
  | [] => some []
  | .tmp t :: rest => (compRes P rest).map ((t, none) :: ·)
  | .cell a t :: rest =>
    match P.info? t, P.underlying t with
    | some i, some _ => if isAggB P t || i.size == 1 then (compRes P rest).map ((a, some (isAggB P t, i.size)) :: ·) else none
    | _, _ => none
def compF (P : Program) (T : List Nat) (fn : Func) : Option AFun :=
  match fn.body with
  | some code => match compC P T fn.ntmps code, compRes P fn.results.toList with | some ac, some r => some ⟨fn.ntmps, ac, r⟩ | _, _ => none
  | none => none

def env0 (args : List AV) : Nat → AV := fun i => (args[i]?).getD (.tup [])
def st0 {σ : Type} (x : σ) (args : List AV) : St σ := ⟨env0 args, fun _ => 0, fun _ => [], fun _ => 0, fun _ => none, x⟩
/-- What lies outside: at the start nothing. -/
structure Outs (σ : Type) where
  rep : σ → (Nat → Value → Prop) → (Nat → Prop) → World → Prop
  stable : ∀ x ob E w w', rep x ob E w → (∀ b, E b → w'.heap[b]? = w.heap[b]?) → rep x ob E w'
  x0 : σ
  init : ∀ w, rep x0 (fun _ _ => False) (fun _ => False) w
def Outs.Γ {σ : Type} (O : Outs σ) (nt : Nat) : Cx σ → Prop := fun c => c.nt = nt ∧ c.rep = O.rep
def resA {σ : Type} (st : St σ) : Nat × Option (Bool × Nat) → Option AV
  | (s, none) => some (st.env s)
  | (s, some (agg, n)) =>
    match st.env s with
    | .ptr d g off => if g = st.gen d ∧ 1 ≤ g ∧ off + n ≤ (st.var d).length then AV.mk agg (((st.var d).drop off).take n) else none
    | _ => none
def resL {σ : Type} (st : St σ) : List (Nat × Option (Bool × Nat)) → Option (List AV)
  | [] => some []
  | x :: xs => match resA st x, resL st xs with | some r, some rs => some (r :: rs) | _, _ => none
def resV : List AV → AV
  | [x] => x
  | xs => .tup xs
def out {σ : Type} (st : St σ) : AV → Option AV
  | .sl sz (.own t g) rows => some (if st.tgen t = g ∧ st.top t = some rows.length then .sl sz (.own 0 0) rows else .sl sz .ro rows)
  | r => if r.weaks.pureB then some r.weaks else none
/-- The state hands back r. -/
def ends {σ : Type} (F : AFun) (r : AV) (st : St σ) : Prop := wOpt (resL st F.res) fun l => wOpt (out st (resV l)) fun r0 => r0.le r

section
variable {σ : Type} {P : Program} {T : List Nat} {Φ : Orc} {c : Cx σ} {st st' : St σ} {a : Act} {w : World} {ow : Nat → Own} {τ : Nat → Nat} {ob : Nat → Value → Prop}
theorem Rt_get {k : K} : ∀ {xs : List AV} {vs : List Value} (h : Rt k xs vs) (i : Nat) (x : AV), xs[i]? = some x → ∃ v, vs[i]? = some v ∧ R k x v
  | [], vs, h, i, x, hx => by simp at hx
  | y :: xs, vs, h, i, x, hx => by
    simp only [Rt] at h
    obtain ⟨v, r, rfl, hy, hr⟩ := h
    cases i with
    | zero => simp at hx; subst hx; exact ⟨v, by simp, hy⟩
    | succ i => simpa using Rt_get hr i x (by simpa using hx)
theorem Rt_length {k : K} : ∀ {xs : List AV} {vs : List Value}, Rt k xs vs → vs.length = xs.length
  | [], vs, h => by simp only [Rt] at h; simp [h]
  | x :: xs, vs, h => by
    simp only [Rt] at h
    obtain ⟨v, r, rfl, _, hr⟩ := h
    simp [Rt_length hr]

def resStep (tmps : Array Value) : ResultVar → Sem Value
  | .tmp t => pure (tmps.getD t undef)
  | .cell a t => do loadVar t (← asAddr (tmps.getD a undef))
theorem results_eq (fn : Func) (tmps : Array Value) : results fn tmps = (do let vs ← fn.results.mapM (resStep tmps); pure (if h : vs.size = 1 then vs[0] else .tuple vs)) := by
  unfold results
  congr 2

theorem res_run (h : FR c st a w ow τ ob) : ∀ (rs : List ResultVar) (l : List (Nat × Option (Bool × Nat))) (xs : List AV), compRes P rs = some l → resL st l = some xs → ∃ vs, (rs.mapM (resStep a.tmps)).run P w = .ok vs w ∧ Rt (Kof c st w ow τ ob) xs vs
  | [], l, xs, hc, hr => by
    simp only [compRes, Option.some.injEq] at hc
    subst hc
    simp only [resL, Option.some.injEq] at hr
    subst hr
    exact ⟨[], by simp, by simp [Rt]⟩
  | .tmp t :: rs, l, xs, hc, hr => by
    simp only [compRes] at hc
    obtain ⟨l', h1, rfl⟩ := Option.map_eq_some_iff.1 hc
    simp only [resL, resA] at hr
    split at hr
    · rename_i r xs' e1 e2
      injection hr with hr
      subst hr
      injection e1 with e1
      subst e1
      obtain ⟨vs, hv, hR⟩ := res_run h rs l' xs' h1 e2
      refine ⟨a.tmps.getD t undef :: vs, by simp [resStep, hv], ?_⟩
      simp only [Rt]
      exact ⟨_, _, rfl, h.tmps t, hR⟩
    · cases hr
  | .cell s t :: rs, l, xs, hc, hr => by
    simp only [compRes] at hc
    split at hc
    · rename_i i d hi hu
      split at hc
      · rename_i hag
        obtain ⟨l', h1, rfl⟩ := Option.map_eq_some_iff.1 hc
        simp only [resL] at hr
        split at hr
        · rename_i r xs' e1 e2
          injection hr with hr
          subst hr
          obtain ⟨vs, hv, hR⟩ := res_run h rs l' xs' h1 e2
          simp only [resA] at e1
          split at e1
          · rename_i d' g off e
            split at e1
            · rename_i hcond
              obtain ⟨hg, _, hl⟩ := hcond
              have hp := h.tmps s
              rw [e] at hp
              obtain ⟨b, cs, T', hv', hb, hvar, hheap, _, hr'⟩ := ptr_cells h hp hg
              have hlen := Rs_length hr'
              have hr2 := Rs_take i.size (Rs_drop off hr')
              have hrun := run_loadVar' (w := w) hi hu hag (b := b) (o := off) (vs := ((cs.toList.take (st.var d').length).drop off).take i.size) (by simp at hlen ⊢; omega) (var_cells hheap)
              refine ⟨ofCells (isAggB P t) (((cs.toList.take (st.var d').length).drop off).take i.size) :: vs, by simp only [List.mapM_cons, resStep, hv', asAddr, Sem.run_bind, Sem.run_pure, Result.andThen_ok, hrun, hv], ?_⟩
              simp only [Rt]
              exact ⟨_, _, rfl, R_mk e1 hr2, hR⟩
            · cases e1
          · cases e1
        · cases hr
      · cases hc
    · cases hc
theorem results_run (h : FR c st a w ow τ ob) {fn : Func} {l : List (Nat × Option (Bool × Nat))} {xs : List AV} (hc : compRes P fn.results.toList = some l) (hr : resL st l = some xs) : ∃ v, (results fn a.tmps).run P w = .ok v w ∧ R (Kof c st w ow τ ob) (resV xs) v := by
  obtain ⟨vs, hv, hR⟩ := res_run h _ l xs hc hr
  rw [results_eq]
  refine ⟨if h : vs.length = 1 then vs.toArray[0]'(by simpa using (by omega : 0 < vs.length)) else .tuple vs.toArray, ?_, ?_⟩
  · rw [Sem.run_bind, Array.mapM_eq_mapM_toList, Sem.run_map, hv]
    simp only [Result.andThen_ok, Sem.run_pure]
    congr 1
  · have hlen := Rt_length hR
    unfold resV
    split
    · rename_i x
      simp only [Rt] at hR
      obtain ⟨v, r, rfl, hx, rfl⟩ := hR
      simpa using hx
    · rename_i hne
      have : ¬ vs.length = 1 := by
        intro e
        rw [e] at hlen
        match xs, hlen with
        | [x], _ => exact hne x rfl
      rw [dif_neg this]
      unfold R
      exact ⟨_, rfl, by simpa using hR⟩
end

/-- A function that computes: its contract. -/
def sys {σ : Type} (O : Outs σ) (P : Program) (T : List Nat) (nt : Nat) (off : Nat) (th : List Nat) (fz : List (Nat × Nat × Nat)) : Sys σ := ⟨P, T, O.Γ nt, off, th, fz⟩
theorem PCall_of {σ : Type} {O : Outs σ} {th : List Nat} {fz : List (Nat × Nat × Nat)} {P : Program} {T : List Nat} {F : AFun} {f : FuncId} {fn : Func} {args : List AV} {r : AV} (hf : P.funcs[f]? = some fn) (hF : compF P T fn = some F) (hargs : args.length ≤ F.nt)
    (h : wCode (sys O P T F.nt 0 th fz) F.code (st0 O.x0 args) (ends F r) (ends F r) (fun _ _ => False)) : PCall P f args r := by
  intro G w vs hG hvs
  unfold compF at hF
  split at hF
  · rename_i code hbody
    split at hF
    · rename_i ac l hcode hres
      injection hF with hF
      subst hF
      let c : Cx σ := { base := w.heap.size, w0 := w, G0 := G, E0 := fun _ => False, nt := fn.ntmps, sv := fun _ _ => False, rep := O.rep, stable := O.stable, g0 := fun a ha => ⟨hG a ha, fun h => h⟩ }
      have hvl := Rt_length hvs
      have hle : KLe (KG G w) (Kof c (st0 O.x0 args) w (fun _ => .free) (fun _ => 0) (fun _ _ => False)) :=
        ⟨fun p v hv => ⟨hv.1, hv.2.1, .inl hv.2.2⟩, fun _ _ h => h.elim, fun _ _ h => h.elim, fun _ _ _ _ h => h.elim, fun _ _ h => h.elim, fun _ _ _ h => h.elim, fun _ _ _ _ _ _ h => h.elim, fun _ _ h => h.elim⟩
      have hFR : FR c (st0 O.x0 args) { tmps := vs.toArray ++ Array.replicate (fn.ntmps - vs.toArray.size) undef, defers := [] } w (fun _ => .free) (fun _ => 0) (fun _ _ => False) := by
        refine ⟨rfl, ?_, Keeps.refl _ _ _, Nat.le_refl _, fun b _ hb => absurd rfl hb, ?_, (fun d b _ h => by cases h), (fun d b b' _ _ h => by cases h), (fun _ _ h => h.elim), ?_⟩
        · simp only [Array.size_append, List.size_toArray, Array.size_replicate]
          have : vs.length ≤ fn.ntmps := by rw [hvl]; exact hargs
          show _ = fn.ntmps
          omega
        · intro s
          show R _ ((args[s]?).getD (.tup [])) _
          cases e : args[s]? with
          | some x =>
            obtain ⟨v, hv, hR⟩ := Rt_get hvs s x e
            have hlt : s < vs.length := (List.getElem?_eq_some_iff.1 hv).1
            have : (vs.toArray ++ Array.replicate (fn.ntmps - vs.toArray.size) undef).getD s undef = v := by
              rw [Array.getD_eq_getD_getElem?, Array.getElem?_append_left (by simpa using hlt)]
              simp [hv]
            rw [this]
            exact R_mono hle _ _ hR
          | none =>
            have hge : args.length ≤ s := by
              rcases Nat.lt_or_ge s args.length with h | h
              · simp [h] at e
              · exact h
            have : (vs.toArray ++ Array.replicate (fn.ntmps - vs.toArray.size) undef).getD s undef = undef := by
              rw [Array.getD_eq_getD_getElem?, Array.getElem?_append_right (by simp; omega), Array.getElem?_replicate]
              split <;> rfl
            rw [this]
            exact R_undef _
        · have e : (fun b => (b < c.base ∧ c.E0 b) ∨ (c.base ≤ b ∧ Own.free = Own.ext)) = fun _ => False := by funext b; simp [c]
          show c.rep O.x0 _ _ w
          rw [e]; exact O.init w
      refine calls_of_wp hf hbody (wp_mono (AW_of_wCode _ _ _ _ _ h c ⟨rfl, rfl⟩ code hcode _ w _ _ _ hFR) ?_)
      have fin : ∀ (a' : Act) (w' : World), (∃ st' ow' τ' ob', ends ⟨fn.ntmps, ac, l⟩ r st' ∧ FR c st' a' w' ow' τ' ob') → a'.defers = [] ∧ ∃ v, (results fn a'.tmps).run P w' = .ok v w' ∧ ∃ v_1 o τ, Ending.returned v = .returned v_1 ∧ Below w.heap.size w w' ∧ (∀ b, w.heap.size ≤ b → o b ≠ .free → b < w'.heap.size) ∧ R (KR w.heap.size G w' o τ) r v_1 := by
        rintro a' w' ⟨st', ow', τ', ob', he, hf'⟩
        obtain ⟨xs, hx, he⟩ := wOpt_exists he
        obtain ⟨r0, ho, hle⟩ := wOpt_exists he
        obtain ⟨v, hv, hR⟩ := results_run (P := P) hf' hres hx
        have key : ∃ o', (∀ b, c.base ≤ b → o' b ≠ .free → ow' b ≠ .free) ∧ R (KR c.base c.G0 w' o' τ') r0 v := by
          cases hrv : resV xs with
          | sl sz tok rows =>
            rw [hrv] at hR ho
            cases tok with
            | own t g =>
              simp only [out, Option.some.injEq] at ho
              subst ho
              refine R_out (c := c) trivial hR ?_
              by_cases hc : st'.tgen t = g ∧ st'.top t = some rows.length
              · rw [if_pos hc]; exact .inl ⟨hc.1, hc.2, rfl⟩
              · rw [if_neg hc]; exact .inr rfl
            | ro =>
              simp only [out] at ho
              split at ho
              · injection ho with ho; subst ho; exact R_out (c := c) trivial (R_weaks hR) ⟨by assumption, rfl⟩
              · cases ho
            | full =>
              simp only [out] at ho
              split at ho
              · injection ho with ho; subst ho; exact R_out (c := c) trivial (R_weaks hR) ⟨by assumption, rfl⟩
              · cases ho
          | _ =>
            rw [hrv] at hR ho
            simp only [out] at ho
            split at ho
            · injection ho with ho; subst ho; exact R_out (c := c) trivial (R_weaks hR) ⟨by assumption, rfl⟩
            · cases ho
        obtain ⟨o', h1, h2⟩ := key
        exact ⟨hf'.defers, v, hv, v, o', τ', rfl, hf'.keeps.below, fun b hb ho => hf'.lt b hb (h1 b hb ho), R_le hle h2⟩
      intro e a' w' q
      cases e with
      | normal => exact fin a' w' q
      | ret => exact fin a' w' q
      | exit id => obtain ⟨_, _, _, _, h, _⟩ := q; exact h.elim
      | _ => exact q.elim
    · cases hF
  · cases hF

/-- The state hands back a value of which Q holds, for a caller with these slots. -/
def endsI {σ : Type} (F : AFun) (env : Nat → AV) (Q : AV → St σ → Prop) (st : St σ) : Prop := wOpt (resL st F.res) fun l => Q (resV l) { st with env := env }
/-- What a call does to the caller's state. -/
theorem ICall_of {σ : Type} {O : Outs σ} {k : Nat} {th : List Nat} {fz : List (Nat × Nat × Nat)} {P : Program} {T : List Nat} {F : AFun} {f : FuncId} {fn : Func} {xs : List AV} {st : St σ} {Q : AV → St σ → Prop} {c : Cx σ} (hc : c.rep = O.rep) (hf : P.funcs[f]? = some fn) (hF : compF P T fn = some F) (hxs : xs.length ≤ F.nt)
    (h : wCode (sys O P T F.nt k th fz) F.code { st with env := env0 xs } (endsI F st.env Q) (endsI F st.env Q) (fun _ _ => False)) : ICallC P c f xs st Q := by
  intro a w ow τ ob vs hFR hvs
  unfold compF at hF
  split at hF
  · rename_i code hbody
    split at hF
    · rename_i ac l hcode hres
      injection hF with hF
      subst hF
      let c' : Cx σ := { c with nt := fn.ntmps, sv := fun x v => (∃ s, x = st.env s ∧ v = a.tmps.getD s undef) ∨ c.sv x v }
      have hvl := Rt_length hvs
      have hFR' : FR c' { st with env := env0 xs } { tmps := vs.toArray ++ Array.replicate (fn.ntmps - vs.toArray.size) undef, defers := [] } w ow τ ob := by
        refine ⟨rfl, ?_, hFR.keeps, hFR.base, hFR.lt, ?_, hFR.vars, hFR.uniq, ?_, hFR.ext⟩
        · simp only [Array.size_append, List.size_toArray, Array.size_replicate]
          have : vs.length ≤ fn.ntmps := by rw [hvl]; exact hxs
          show _ = fn.ntmps
          omega
        · intro s
          show R _ ((xs[s]?).getD (.tup [])) _
          cases e : xs[s]? with
          | some x =>
            obtain ⟨v, hv, hR⟩ := Rt_get hvs s x e
            have hlt : s < vs.length := (List.getElem?_eq_some_iff.1 hv).1
            have : (vs.toArray ++ Array.replicate (fn.ntmps - vs.toArray.size) undef).getD s undef = v := by
              rw [Array.getD_eq_getD_getElem?, Array.getElem?_append_left (by simpa using hlt)]
              simp [hv]
            rw [this]
            exact hR
          | none =>
            have hge : xs.length ≤ s := by
              rcases Nat.lt_or_ge s xs.length with h | h
              · simp [h] at e
              · exact h
            have : (vs.toArray ++ Array.replicate (fn.ntmps - vs.toArray.size) undef).getD s undef = undef := by
              rw [Array.getD_eq_getD_getElem?, Array.getElem?_append_right (by simp; omega), Array.getElem?_replicate]
              split <;> rfl
            rw [this]
            exact R_undef _
        · rintro x v (⟨s, rfl, rfl⟩ | hx)
          · exact hFR.tmps s
          · exact hFR.saved x v hx
      refine calls_of_wp hf hbody (wp_mono (AW_of_wCode _ _ _ _ _ h c' ⟨rfl, hc⟩ code hcode _ w _ _ _ hFR') ?_)
      have fin : ∀ (a' : Act) (w' : World), (∃ st' ow' τ' ob', endsI ⟨fn.ntmps, ac, l⟩ st.env Q st' ∧ FR c' st' a' w' ow' τ' ob') → a'.defers = [] ∧ ∃ v, (results fn a'.tmps).run P w' = .ok v w' ∧ ∃ v_1 x st' ow' τ' ob', Ending.returned v = .returned v_1 ∧ Q x st' ∧ st'.env = st.env ∧ FR c st' a w' ow' τ' ob' ∧ R (Kof c st' w' ow' τ' ob') x v_1 := by
        rintro a' w' ⟨st', ow', τ', ob', he, hf'⟩
        obtain ⟨xs', hx, he⟩ := wOpt_exists he
        obtain ⟨v, hv, hR⟩ := results_run (P := P) hf' hres hx
        refine ⟨hf'.defers, v, hv, v, resV xs', { st' with env := st.env }, ow', τ', ob', rfl, he, rfl, ?_, hR⟩
        refine ⟨hFR.defers, hFR.size, hf'.keeps, hf'.base, hf'.lt, fun s => hf'.saved _ _ (.inl ⟨s, rfl, rfl⟩), hf'.vars, hf'.uniq, fun x v hx => hf'.saved x v (.inr hx), hf'.ext⟩
      intro e a' w' q
      cases e with
      | normal => exact fin a' w' q
      | ret => exact fin a' w' q
      | exit id => obtain ⟨_, _, _, _, h, _⟩ := q; exact h.elim
      | _ => exact q.elim
    · cases hF
  · cases hF
end Go.Av
