/-
  OWN TEXT. Appends to a slice of the call's own.
-/
import Derived.Test.YtinmcbkebfgekaaAv22
set_option linter.all false
set_option linter.unusedVariables false
set_option linter.unusedSimpArgs false
namespace Go.Av
variable {σ : Type}
/-- An append; it is left standing. -/
def wApp (d : Nat) (st : St σ) (sz bytes : Nat) (x y : AV) (K : AV → St σ → Prop) : Prop :=
  match x.vslOf, x.asSl sz, y.asSl sz with
  | some (d', g, sz', off, n, _), _, _ =>
    match st.src sz none y with
    | some (m, news) => (sz' = sz ∧ off = 0 ∧ g = st.gen d' ∧ n * sz ≤ (st.var d').length ∧ (n + m) * bytes ≤ 140737488355328) ∧ K (.vsl d ((st.kill d').gen d + 1) sz 0 (n + m) none) ((st.kill d').newVar d ((st.var d').take (n * sz) ++ news))
    | none => False
  | none, some (tok, rows), some (_, news) =>
    (rows.length + news.length) * bytes ≤ 140737488355328 ∧ wOpt (appTok st d rows.length (rows.length + news.length) tok) fun st' => K (.sl sz (.own d (st.tgen d + 1)) (rows ++ news)) st'
  | _, _, _ => False
@[congr] theorem wApp_congr {d : Nat} {st : St σ} {sz bytes : Nat} {x x' y y' : AV} {K : AV → St σ → Prop} (h : x = x') (h2 : y = y') : wApp d st sz bytes x y K = wApp d st sz bytes x' y' K := by rw [h, h2]
section
variable {e : Nat → AV} {g : Nat → Nat} {v : Nat → List AV} {tg : Nat → Nat} {tp : Nat → Option Nat} {x : σ} {b : Bool} {d : Nat} {K : AV → St σ → Prop}
theorem wAct_app1 {O : Outs σ} {P : Program} {T : List Nat} {nt k : Nat} {fz : List (Nat × Nat × Nat)} {sz by' : Nat} {y z : Operand} : wAct (sys O P T nt k [] fz) b d ⟨e, g, v, tg, tp, x⟩ (.app sz by' y z) K = wApp d ⟨e, g, v, tg, tp, x⟩ sz by' (St.ev ⟨e, g, v, tg, tp, x⟩ y) (St.ev ⟨e, g, v, tg, tp, x⟩ z) K := by
  rw [wAct_app rfl]
  simp only [wVal, act, wApp]
  generalize AV.vslOf (St.ev ⟨e, g, v, tg, tp, x⟩ y) = o
  generalize AV.asSl sz (St.ev ⟨e, g, v, tg, tp, x⟩ y) = p
  generalize AV.asSl sz (St.ev ⟨e, g, v, tg, tp, x⟩ z) = q
  rcases o with _ | ⟨d', g', sz', off, n, cp⟩
  · rcases p with _ | ⟨t1, r1⟩ <;> rcases q with _ | ⟨t2, r2⟩ <;> simp only [wOpt_none, wOpt_if, wOpt_map]
  · simp only
    generalize St.src ⟨e, g, v, tg, tp, x⟩ sz none (St.ev ⟨e, g, v, tg, tp, x⟩ z) = u
    rcases u with _ | ⟨m, news⟩
    · rfl
    · simp only [wOpt_if, wOpt_some]
end
/-- A slice of the call's own (token d), or none yet. -/
def OwnSl (st : St σ) (a : AV) (d sz : Nat) (rows : List (List AV)) : Prop :=
  (a = .imm (.slice none 0 0) ∧ rows = []) ∨ (a = .sl sz .full [] ∧ rows = []) ∨ a = .sl sz (.own d (st.tgen d)) rows ∧ st.top d = some rows.length
theorem wApp_own {st : St σ} {x y : AV} {d sz bytes : Nat} {rows news : List (List AV)} {tk : Tok} {K : AV → St σ → Prop} (h : OwnSl st x d sz rows) (hy : y.asSl sz = some (tk, news)) (hb : (rows.length + news.length) * bytes ≤ 140737488355328)
    (hK : K (.sl sz (.own d (st.tgen d + 1)) (rows ++ news)) (st.give d (rows.length + news.length))) : wApp d st sz bytes x y K := by
  unfold wApp
  rcases h with ⟨rfl, rfl⟩ | ⟨rfl, rfl⟩ | ⟨rfl, ht⟩
  · rw [hy]
    exact ⟨hb, by simpa [AV.asSl, appTok, wOpt] using hK⟩
  · rw [hy]
    simp only [AV.asSl, if_true]
    exact ⟨hb, by simpa [appTok, wOpt] using hK⟩
  · rw [hy]
    simp only [AV.asSl, if_true]
    refine ⟨hb, ?_⟩
    simp only [appTok, ht, and_self, if_true, wOpt]
    have : (st.spend d).give d (rows.length + news.length) = st.give d (rows.length + news.length) := by
      simp only [St.spend, St.give, St.mk.injEq, true_and, and_true]
      funext j
      simp only [upd]
      split <;> rfl
    rw [this]
    exact hK
theorem OwnSl.give {st : St σ} {d sz n : Nat} {rows : List (List AV)} (h : n = rows.length) : OwnSl (st.give d n) (.sl sz (.own d (st.tgen d + 1)) rows) d sz rows := by
  refine .inr (.inr ⟨?_, ?_⟩) <;> simp [St.give, upd, h]
theorem OwnSl.le {st : St σ} {a : AV} {d sz : Nat} {rows : List (List AV)} (h : OwnSl st a d sz rows) : endR a (.sl sz .ro rows) st := by
  rcases h with ⟨rfl, rfl⟩ | ⟨rfl, rfl⟩ | ⟨rfl, ht⟩
  · simp [endR, out, AV.weaks, AV.weak1, AV.weak, AV.pureB, wOpt, AV.le, AV.le2, AV.le1]
  · simp [endR, out, AV.weaks, AV.weak1, AV.weak, AV.pureB, wOpt, AV.le, AV.le2, AV.le1]
  · simp [endR, out, ht, wOpt, AV.le, AV.le2, AV.le1]

/-! ### more ends -/
theorem AV.le_refl (x : AV) : x.le x := by
  cases x with
  | tup cs => simp only [AV.le]; exact AV.les2_refl cs
  | _ => simp only [AV.le]; exact AV.le2_refl _
theorem out_pure {a : AV} {st : St σ} (h : a.weaks = a) (hp : a.pureB = true) : out st a = some a := by
  unfold out
  split
  · simp [AV.pureB] at hp
  · rw [h, if_pos hp]
theorem endR_pure {a : AV} {st : St σ} (h : a.weaks = a) (hp : a.pureB = true) : endR a a st := by
  unfold endR
  rw [out_pure h hp]
  exact AV.le_refl a
/-- A result that lies in a variable. -/
def endC (a : AV) (ag : Bool) (m : Nat) (r : AV) (st : St σ) : Prop :=
  match a with
  | .ptr d g off => (g = st.gen d ∧ 1 ≤ g ∧ off + m ≤ (st.var d).length) ∧ wOpt (AV.mk ag (((st.var d).drop off).take m)) fun b => endR b r st
  | _ => False
@[congr] theorem endC_congr {a a' r : AV} {ag : Bool} {m : Nat} {st : St σ} (h : a = a') : endC a ag m r st = endC a' ag m r st := by rw [h]
section
variable {e : Nat → AV} {g : Nat → Nat} {v : Nat → List AV} {tg : Nat → Nat} {tp : Nat → Option Nat} {x : σ}
theorem ends_cell {n : Nat} {c : ACode} {s : Nat} {ag : Bool} {m : Nat} {r : AV} : ends ⟨n, c, [(s, some (ag, m))]⟩ r (⟨e, g, v, tg, tp, x⟩ : St σ) = endC (e s) ag m r ⟨e, g, v, tg, tp, x⟩ := by
  simp only [ends, resL, resA, endC]
  cases e s with
  | ptr d q off =>
    simp only
    by_cases h : q = g d ∧ 1 ≤ q ∧ off + m ≤ (v d).length
    · rw [if_pos h]
      cases AV.mk ag (List.take m (List.drop off (v d))) with
      | none => simp [wOpt]
      | some b => simp only [Option.map_some, wOpt_some, resV, endR]; exact propext ⟨fun q => ⟨h, q⟩, fun q => q.2⟩
    · rw [if_neg h]
      simp [wOpt, h]
  | _ => simp [wOpt]
theorem endC_ptr {d q off : Nat} {ag : Bool} {m : Nat} {r : AV} : endC (.ptr d q off) ag m r (⟨e, g, v, tg, tp, x⟩ : St σ) = ((q = g d ∧ 1 ≤ q ∧ off + m ≤ (v d).length) ∧ wOpt (AV.mk ag (((v d).drop off).take m)) fun b => endR b r ⟨e, g, v, tg, tp, x⟩) := rfl
end
section
variable {k : IntKind} {m n : Int} {KA : AV → Prop}
theorem wBin_shr : wBin .shr (.imm (.int k m)) (.imm (.int k n)) KA = (n = 1 ∧ KA (.imm (.int k (m.fdiv 2)))) := by
  by_cases h : n = 1 <;> simp [wBin, binV, wOpt, h]
end
theorem half_wrap {n : Int} (h0 : 0 ≤ n) (h1 : n ≤ 4611686018427387904) : IntKind.i64.wrap ((IntKind.u64.wrap (IntKind.i64.wrap n)).fdiv 2) = n / 2 := by
  have e1 : IntKind.i64.wrap n = n := IntWalk.i64_in _ (by omega)
  have e2 : IntKind.u64.wrap n = n := by
    unfold IntKind.wrap
    simp [IntKind.bits, IntKind.signed]
    omega
  rw [e1, e2, Int.fdiv_eq_ediv_of_nonneg _ (by omega)]
  exact IntWalk.i64_in _ (by omega)
section
variable {e : Nat → AV} {g : Nat → Nat} {v : Nat → List AV} {tg : Nat → Nat} {tp : Nat → Option Nat} {x : σ} {n : Nat} {c : ACode} {s s' : Nat} {env : Nat → AV} {Q : AV → St σ → Prop}
theorem endsI_none : endsI ⟨n, c, []⟩ env Q (⟨e, g, v, tg, tp, x⟩ : St σ) = Q (.tup []) ⟨env, g, v, tg, tp, x⟩ := rfl
theorem endsI_one : endsI ⟨n, c, [(s, none)]⟩ env Q (⟨e, g, v, tg, tp, x⟩ : St σ) = Q (e s) ⟨env, g, v, tg, tp, x⟩ := rfl
theorem endsI_two : endsI ⟨n, c, [(s, none), (s', none)]⟩ env Q (⟨e, g, v, tg, tp, x⟩ : St σ) = Q (.tup [e s, e s']) ⟨env, g, v, tg, tp, x⟩ := rfl
end
theorem splice_all {l xs : List AV} (h : l.length ≤ xs.length) : splice l 0 xs = xs := by
  unfold splice
  rw [List.drop_of_length_le (by omega)]
  simp
/-! ### views -/
theorem View.imm {st : St σ} (v : Value) : View st (.imm v) (.imm v) := .weak (x := .imm v) rfl
theorem Views.imms {st : St σ} : ∀ l : List Value, Views st (l.map .imm) (l.map .imm)
  | [] => .nil
  | v :: l => .cons (View.imm v) (Views.imms l)
theorem View.same {st : St σ} {x : AV} (h : x.weaks = x) (hp : x.pureB = true) : View st x x := by
  have := View.weak (st := st) (x := x) (by rw [h]; exact hp)
  rwa [h] at this
end Go.Av
