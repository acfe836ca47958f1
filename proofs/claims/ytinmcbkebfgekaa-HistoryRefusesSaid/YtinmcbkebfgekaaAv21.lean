/-
  OWN TEXT. Lemmas for working conditions out by simp: they fire at a state that is written out, and keep simp out of what comes behind.
-/
import Derived.Test.YtinmcbkebfgekaaAv20
set_option linter.all false
set_option linter.unusedVariables false
set_option linter.unusedSimpArgs false
namespace Go.Av
variable {σ : Type}

theorem toList_inj' {s t : ByteArray} (h : s.toList = t.toList) : s = t := by
  rw [ByteArray.toList_eq, ByteArray.toList_eq] at h
  cases s; cases t
  simp at h
  rw [h]
/-! ### where simp goes in -/
@[congr] theorem wOpt_congr {α : Type} {x x' : Option α} {K : α → Prop} (h : x = x') : wOpt x K = wOpt x' K := by rw [h]
@[congr] theorem wCode_congr {S : Sys σ} {ac : ACode} {st st' : St σ} {N Rr : St σ → Prop} {E : Nat → St σ → Prop} (h : st = st') : wCode S ac st N Rr E = wCode S ac st' N Rr E := by rw [h]
@[congr] theorem wOps_congr {S : Sys σ} {l : List AOper} {st st' : St σ} {K : St σ → Prop} (h : st = st') : wOps S st l K = wOps S st' l K := by rw [h]
@[congr] theorem wDraw_congr {S : Sys σ} {l : List AOper} {lg lg' : List Eff} {st st' : St σ} {K : St σ → List Eff → Prop} (h : st = st') (h2 : lg = lg') : wDraw S st l lg K = wDraw S st' l lg' K := by rw [h, h2]
@[congr] theorem wGuard_congr {x x' : AV} {b : Bool} {A B C : Prop} (h : x = x') : wGuard x b A B C = wGuard x' b A B C := by rw [h]
@[congr] theorem wPick_congr {t t' x x' y y' : AV} {st : St σ} {K : AV → St σ → Prop} (h : t = t') (h1 : x = x') (h2 : y = y') : wPick t x y st K = wPick t' x' y' st K := by rw [h, h1, h2]
@[congr] theorem wIdx_congr {st : St σ} {sz : Nat} {x x' i i' : AV} {K : AV → St σ → Prop} (h : x = x') (h1 : i = i') : wIdx st sz x i K = wIdx st sz x' i' K := by rw [h, h1]
@[congr] theorem wThaw_congr {d : Nat} {st : St σ} {sz bytes : Nat} {x x' y y' : AV} {K : AV → St σ → Prop} (h : x = x') (h1 : y = y') : wThaw d st sz bytes x y K = wThaw d st sz bytes x' y' K := by rw [h, h1]
@[congr] theorem wCall_congr {S : Sys σ} {b : Bool} {d : Nat} {st : St σ} {f : Nat} {xs xs' : List AV} {K : AV → St σ → Prop} (h : xs = xs') : wCall S b d st f xs K = wCall S b d st f xs' K := by rw [h]
@[congr] theorem wCallV_congr {S : Sys σ} {b : Bool} {d : Nat} {st : St σ} {g : Nat} {fs fs' caps caps' xs xs' : List AV} {K : AV → St σ → Prop} (h : xs = xs') (h1 : fs = fs') (h2 : caps = caps') : wCallV S b d st g fs caps xs K = wCallV S b d st g fs' caps' xs' K := by rw [h, h1, h2]
@[congr] theorem wSnil_congr {b ng : Bool} {a a' : AV} {st : St σ} {K : AV → St σ → Prop} (h : a = a') : wSnil b ng a st K = wSnil b ng a' st K := by rw [h]

@[congr] theorem wStep_congr {S : Sys σ} {b : Bool} {o : AOper} {st st' : St σ} {K : St σ → Prop} (h : st = st') : wStep S b st o K = wStep S b st' o K := by rw [h]
@[congr] theorem wAct_congr {S : Sys σ} {b : Bool} {d : Nat} {op : AOp} {st st' : St σ} {K : AV → St σ → Prop} (h : st = st') : wAct S b d st op K = wAct S b d st' op K := by rw [h]
@[congr] theorem wFrz_congr {S : Sys σ} {o : AOper} {st st' : St σ} {K : St σ → Prop} (h : st = st') : wFrz S st o K = wFrz S st' o K := by rw [h]

/-! ### steps -/
section
variable {S : Sys σ} {e : Nat → AV} {g : Nat → Nat} {v : Nat → List AV} {tg : Nat → Nat} {tp : Nat → Option Nat} {x : σ}
theorem wOps_nil {st : St σ} {K : St σ → Prop} : wOps S st [] K = K st := rfl
theorem put_some {d : Nat} {a : AV} : St.put (⟨e, g, v, tg, tp, x⟩ : St σ) (some d) a = ⟨upd e d a, g, v, tg, tp, x⟩ := rfl
theorem put_none {st : St σ} {a : AV} : St.put st none a = st := rfl
theorem ev_tmp {t : Nat} : St.ev (⟨e, g, v, tg, tp, x⟩ : St σ) (.tmp t) = e t := rfl
theorem ev_const {st : St σ} {u : Value} : st.ev (.const u) = .ofV u := rfl
theorem ev_func {st : St σ} {f : Nat} : st.ev (.func f) = .fv f [] [] := rfl
theorem kill_lit {d : Nat} : St.kill (⟨e, g, v, tg, tp, x⟩ : St σ) d = ⟨e, upd g d (g d + 1), upd v d [], tg, tp, x⟩ := rfl
theorem newVar_lit {d : Nat} {xs : List AV} : St.newVar (⟨e, g, v, tg, tp, x⟩ : St σ) d xs = ⟨e, upd g d (g d + 1), upd v d xs, tg, tp, x⟩ := rfl
theorem give_lit {d n : Nat} : St.give (⟨e, g, v, tg, tp, x⟩ : St σ) d n = ⟨e, g, v, upd tg d (tg d + 1), upd tp d (some n), x⟩ := rfl
theorem spend_lit {t : Nat} : St.spend (⟨e, g, v, tg, tp, x⟩ : St σ) t = ⟨e, g, v, tg, upd tp t none, x⟩ := rfl
theorem upd_eq {α : Type} (f : Nat → α) (i : Nat) (a : α) (j : Nat) : upd f i a j = if j = i then a else f j := rfl

theorem wOps_cons {r : List AOper} {o : AOper} {K : St σ → Prop} : wOps S ⟨e, g, v, tg, tp, x⟩ (o :: r) K = wFrz S ⟨e, g, v, tg, tp, x⟩ o fun st => wStep S true st o fun s => wOps S s r K := rfl
/-- Where nothing is made immutable on the way. -/
theorem wOps_cons' (hf : S.fz = []) {r : List AOper} {o : AOper} {K : St σ → Prop} : wOps S ⟨e, g, v, tg, tp, x⟩ (o :: r) K = wStep S true ⟨e, g, v, tg, tp, x⟩ o fun s => wOps S s r K := by
  simp only [wOps, wFrz, hf, List.lookup]
theorem wOps_cons0 {O : Outs σ} {P : Program} {T : List Nat} {nt k : Nat} {th : List Nat} {r : List AOper} {o : AOper} {K : St σ → Prop} : wOps (sys O P T nt k th []) ⟨e, g, v, tg, tp, x⟩ (o :: r) K = wStep (sys O P T nt k th []) true ⟨e, g, v, tg, tp, x⟩ o fun s => wOps (sys O P T nt k th []) s r K := wOps_cons' rfl
theorem wDraw_nil {st : St σ} {lg : List Eff} {K : St σ → List Eff → Prop} : wDraw S st [] lg K = K st lg.reverse := rfl
theorem wDraw_cons {r : List AOper} {o : AOper} {lg : List Eff} {K : St σ → List Eff → Prop} : wDraw S ⟨e, g, v, tg, tp, x⟩ (o :: r) lg K = wStep S false ⟨e, g, v, tg, tp, x⟩ o fun s => wDraw S s r (eff (S.off + o.dst.getD 0) ⟨e, g, v, tg, tp, x⟩ o.op :: lg) K := rfl
theorem wStep_none {b : Bool} {d : Option Nat} {op : AOp} {K : St σ → Prop} : wStep S b ⟨e, g, v, tg, tp, x⟩ ⟨d, op, none⟩ K = wAct S b (S.off + d.getD 0) ⟨e, g, v, tg, tp, x⟩ op fun u s => K (s.put d u) := rfl
theorem wStep_some {b : Bool} {d : Option Nat} {op : AOp} {i : Nat} {t : Bool} {K : St σ → Prop} : wStep S b ⟨e, g, v, tg, tp, x⟩ ⟨d, op, some (i, t)⟩ K =
    wGuard (e i) t (wAct S b (S.off + d.getD 0) ⟨upd e i (.imm (.bool t)), g, v, tg, tp, x⟩ op fun u s => K (s.put d u)) (K (St.put ⟨upd e i (.imm (.bool !t)), g, v, tg, tp, x⟩ d undefA)) (K (St.put ⟨e, g, v, tg, tp, x⟩ d undefA)) := rfl
theorem wGuard_tt {A B C : Prop} : wGuard (.imm (.bool true)) true A B C = A := by simp [wGuard]
theorem wGuard_ff {A B C : Prop} : wGuard (.imm (.bool false)) false A B C = A := by simp [wGuard]
theorem wGuard_tf {A B C : Prop} : wGuard (.imm (.bool true)) false A B C = B := by simp [wGuard]
theorem wGuard_ft {A B C : Prop} : wGuard (.imm (.bool false)) true A B C = B := by simp [wGuard]
theorem wGuard_tup {b : Bool} {A B C : Prop} : wGuard (.tup []) b A B C = C := rfl
theorem wGuard_undef {b : Bool} {A B C : Prop} : wGuard undefA b A B C = C := rfl
theorem wGuard_t {y : Bool} {A B C : Prop} : wGuard (.imm (.bool y)) true A B C = ((y = true → A) ∧ (y = false → B)) := rfl
theorem wGuard_f {y : Bool} {A B C : Prop} : wGuard (.imm (.bool y)) false A B C = ((y = false → A) ∧ (y = true → B)) := rfl
/-- A truth value that is not known: a mark that keeps simp from taking it for a literal. -/
def tb (y : Bool) : Bool := y
theorem wGuard_dt {p : Prop} [Decidable p] {A B C : Prop} : wGuard (.imm (.bool (decide p))) true A B C = ((p → A) ∧ (¬ p → B)) := by
  by_cases h : p <;> simp [wGuard, h]
theorem wGuard_df {p : Prop} [Decidable p] {A B C : Prop} : wGuard (.imm (.bool (decide p))) false A B C = ((¬ p → A) ∧ (p → B)) := by
  by_cases h : p <;> simp [wGuard, h]
theorem wGuard_bt {y : Bool} {A B C : Prop} : wGuard (.imm (.bool (tb y))) true A B C = ((y = true → A) ∧ (y = false → B)) := rfl
theorem wGuard_bf {y : Bool} {A B C : Prop} : wGuard (.imm (.bool (tb y))) false A B C = ((y = false → A) ∧ (y = true → B)) := rfl
theorem wPick_d {p : Prop} [Decidable p] {a b : AV} {st : St σ} {K : AV → St σ → Prop} : wPick (.imm (.bool (decide p))) a b st K = ((p → K a st) ∧ (¬ p → K b st)) := by
  by_cases h : p <;> simp [wPick, h]
theorem wPick_tb {y : Bool} {a b : AV} {st : St σ} {K : AV → St σ → Prop} : wPick (.imm (.bool (tb y))) a b st K = ((y = true → K a st) ∧ (y = false → K b st)) := rfl
theorem wPick_t {a b : AV} {st : St σ} {K : AV → St σ → Prop} : wPick (.imm (.bool true)) a b st K = K a st := by simp [wPick]
theorem wPick_f {a b : AV} {st : St σ} {K : AV → St σ → Prop} : wPick (.imm (.bool false)) a b st K = K b st := by simp [wPick]
theorem wPick_b {y : Bool} {a b : AV} {st : St σ} {K : AV → St σ → Prop} : wPick (.imm (.bool y)) a b st K = ((y = true → K a st) ∧ (y = false → K b st)) := rfl

/-! ### operations -/
variable {b : Bool} {d : Nat} {K : AV → St σ → Prop}
theorem wAct_mov {y : Operand} : wAct S b d ⟨e, g, v, tg, tp, x⟩ (.mov y) K = K (St.ev ⟨e, g, v, tg, tp, x⟩ y) ⟨e, g, v, tg, tp, x⟩ := rfl
theorem wAct_pick {c y z : Operand} : wAct S b d ⟨e, g, v, tg, tp, x⟩ (.pick c y z) K = wPick (St.ev ⟨e, g, v, tg, tp, x⟩ c) (St.ev ⟨e, g, v, tg, tp, x⟩ y) (St.ev ⟨e, g, v, tg, tp, x⟩ z) ⟨e, g, v, tg, tp, x⟩ K := rfl
theorem wAct_iaddr {sz : Nat} {y z : Operand} : wAct S b d ⟨e, g, v, tg, tp, x⟩ (.iaddr sz y z) K = wIdx ⟨e, g, v, tg, tp, x⟩ sz (St.ev ⟨e, g, v, tg, tp, x⟩ y) (St.ev ⟨e, g, v, tg, tp, x⟩ z) K := rfl
theorem wAct_call {f : Nat} {l : List Operand} : wAct S b d ⟨e, g, v, tg, tp, x⟩ (.call f l) K = wCall S b d ⟨e, g, v, tg, tp, x⟩ f (l.map (St.ev ⟨e, g, v, tg, tp, x⟩)) K := rfl
/-- The others: a value out of the state, by what 'act' says. -/
def wVal (o : Option (AV × St σ)) (K : AV → St σ → Prop) : Prop := wOpt o fun r => K r.1 r.2
@[congr] theorem wVal_congr {o o' : Option (AV × St σ)} {K : AV → St σ → Prop} (h : o = o') : wVal o K = wVal o' K := by rw [h]
theorem wVal_some {a : AV} {st : St σ} {K : AV → St σ → Prop} : wVal (some (a, st)) K = K a st := rfl
theorem wVal_none {K : AV → St σ → Prop} : wVal (none : Option (AV × St σ)) K = False := rfl
theorem wVal_if {p : Prop} [Decidable p] {o : Option (AV × St σ)} {K : AV → St σ → Prop} : wVal (if p then o else none) K = (p ∧ wVal o K) := wOpt_if p o _
theorem wVal_if' {p : Prop} [Decidable p] {o o' : Option (AV × St σ)} {K : AV → St σ → Prop} : wVal (if p then o else o') K = ((p → wVal o K) ∧ (¬ p → wVal o' K)) := by
  by_cases h : p <;> simp [h]
theorem wVal_map {α : Type} {f : α → AV × St σ} {o : Option α} {K : AV → St σ → Prop} : wVal (o.map f) K = wOpt o fun a => K (f a).1 (f a).2 := by cases o <;> rfl
theorem wAct_box {y : Operand} : wAct S b d ⟨e, g, v, tg, tp, x⟩ (.box y) K = wVal (act noCalls d ⟨e, g, v, tg, tp, x⟩ (.box y)) K := rfl
theorem wAct_alloc {z : List Value} : wAct S b d ⟨e, g, v, tg, tp, x⟩ (.alloc z) K = wVal (act noCalls d ⟨e, g, v, tg, tp, x⟩ (.alloc z)) K := rfl
theorem wAct_build {z : List Value} {p : List (Nat × Nat × Operand)} : wAct S b d ⟨e, g, v, tg, tp, x⟩ (.build z p) K = wVal (act noCalls d ⟨e, g, v, tg, tp, x⟩ (.build z p)) K := rfl
theorem wAct_bsl {sz : Nat} {p : List Operand} : wAct S b d ⟨e, g, v, tg, tp, x⟩ (.bsl sz p) K = wVal (act noCalls d ⟨e, g, v, tg, tp, x⟩ (.bsl sz p)) K := rfl
theorem wAct_load {ag : Bool} {n : Nat} {p : Operand} : wAct S b d ⟨e, g, v, tg, tp, x⟩ (.load ag n p) K = wVal (act noCalls d ⟨e, g, v, tg, tp, x⟩ (.load ag n p)) K := rfl
theorem wAct_store {n : Nat} {p y : Operand} : wAct S b d ⟨e, g, v, tg, tp, x⟩ (.store n p y) K = wVal (act noCalls d ⟨e, g, v, tg, tp, x⟩ (.store n p y)) K := rfl
theorem wAct_faddr {o : Nat} {p : Operand} : wAct S b d ⟨e, g, v, tg, tp, x⟩ (.faddr o p) K = wVal (act noCalls d ⟨e, g, v, tg, tp, x⟩ (.faddr o p)) K := rfl
theorem wAct_aaddr {l sz : Nat} {y z : Operand} : wAct S b d ⟨e, g, v, tg, tp, x⟩ (.aaddr l sz y z) K = wVal (act noCalls d ⟨e, g, v, tg, tp, x⟩ (.aaddr l sz y z)) K := rfl
theorem wAct_sidx {y z : Operand} : wAct S b d ⟨e, g, v, tg, tp, x⟩ (.sidx y z) K = wVal (act noCalls d ⟨e, g, v, tg, tp, x⟩ (.sidx y z)) K := rfl
theorem wAct_field {ag : Bool} {o n : Nat} {y : Operand} : wAct S b d ⟨e, g, v, tg, tp, x⟩ (.field ag o n y) K = wVal (act noCalls d ⟨e, g, v, tg, tp, x⟩ (.field ag o n y)) K := rfl
/-- Operators. -/
def wBin (op : BinOp) (y z : AV) (K : AV → Prop) : Prop := match y, z with | .imm u, .imm w => wOpt (binV op u w) fun r => K (.imm r) | _, _ => False
@[congr] theorem wBin_congr {op : BinOp} {y y' z z' : AV} {K : AV → Prop} (h : y = y') (h2 : z = z') : wBin op y z K = wBin op y' z' K := by rw [h, h2]
theorem wAct_bin {op : BinOp} {y z : Operand} : wAct S b d ⟨e, g, v, tg, tp, x⟩ (.bin op y z) K = wBin op (St.ev ⟨e, g, v, tg, tp, x⟩ y) (St.ev ⟨e, g, v, tg, tp, x⟩ z) fun a => K a ⟨e, g, v, tg, tp, x⟩ := by
  simp only [wAct, act, wBin]
  generalize St.ev ⟨e, g, v, tg, tp, x⟩ y = p
  generalize St.ev ⟨e, g, v, tg, tp, x⟩ z = q
  cases p <;> cases q <;> simp only [wOpt_none, wOpt_map]
section
variable {k : IntKind} {m n : Int} {KA : AV → Prop} {s t : ByteArray}
theorem wBin_add : wBin .add (.imm (.int k m)) (.imm (.int k n)) KA = KA (.imm (.int k (k.wrap (m + n)))) := by simp [wBin, binV, wOpt]
theorem wBin_sub : wBin .sub (.imm (.int k m)) (.imm (.int k n)) KA = KA (.imm (.int k (k.wrap (m - n)))) := by simp [wBin, binV, wOpt]
theorem wBin_mul : wBin .mul (.imm (.int k m)) (.imm (.int k n)) KA = KA (.imm (.int k (k.wrap (m * n)))) := by simp [wBin, binV, wOpt]
theorem wBin_rem : wBin .rem (.imm (.int k m)) (.imm (.int k n)) KA = (n ≠ 0 ∧ KA (.imm (.int k (m.tmod n)))) := by
  by_cases h : n = 0 <;> simp [wBin, binV, wOpt, h]
theorem wBin_eql : wBin .eql (.imm (.int k m)) (.imm (.int k n)) KA = KA (.imm (.bool (decide (m = n)))) := by
  have : (m == n) = decide (m = n) := by by_cases h : m = n <;> simp [h]
  simp only [wBin, binV, wOpt, if_true, this]
theorem wBin_neq : wBin .neq (.imm (.int k m)) (.imm (.int k n)) KA = KA (.imm (.bool (decide (m ≠ n)))) := by
  have : (m != n) = decide (m ≠ n) := by by_cases h : m = n <;> simp [h]
  simp only [wBin, binV, wOpt, if_true, this]
theorem wBin_lss : wBin .lss (.imm (.int k m)) (.imm (.int k n)) KA = KA (.imm (.bool (decide (m < n)))) := by simp [wBin, binV, wOpt]
theorem wBin_leq : wBin .leq (.imm (.int k m)) (.imm (.int k n)) KA = KA (.imm (.bool (decide (m ≤ n)))) := by simp [wBin, binV, wOpt]
theorem wBin_gtr : wBin .gtr (.imm (.int k m)) (.imm (.int k n)) KA = KA (.imm (.bool (decide (n < m)))) := by simp [wBin, binV, wOpt]
theorem wBin_geq : wBin .geq (.imm (.int k m)) (.imm (.int k n)) KA = KA (.imm (.bool (decide (n ≤ m)))) := by simp [wBin, binV, wOpt]
theorem bytes_beq (s t : ByteArray) : (s.toList == t.toList) = decide (s = t) := by
  by_cases h : s = t
  · simp [h]
  · have : s.toList ≠ t.toList := fun e => h (toList_inj' e)
    simp [h, this]
theorem wBin_seql : wBin .eql (.imm (.string s)) (.imm (.string t)) KA = KA (.imm (.bool (decide (s = t)))) := by simp only [wBin, binV, wOpt, bytes_beq]
theorem wBin_sneq : wBin .neq (.imm (.string s)) (.imm (.string t)) KA = KA (.imm (.bool (decide (s ≠ t)))) := by
  simp only [wBin, binV, wOpt, bytes_beq, decide_not]
theorem wBin_sadd : wBin .add (.imm (.string s)) (.imm (.string t)) KA = (s.size + t.size ≤ 9223372036854775807 ∧ KA (.imm (.string (s ++ t)))) := by
  by_cases h : s.size + t.size ≤ 9223372036854775807 <;> simp [wBin, binV, wOpt, h]
end
theorem wAct_beq {ng : Bool} {y z : Operand} : wAct S b d ⟨e, g, v, tg, tp, x⟩ (.beq ng y z) K = wVal (act noCalls d ⟨e, g, v, tg, tp, x⟩ (.beq ng y z)) K := rfl
theorem wAct_seq {ng : Bool} {ks : List Nat} {y z : Operand} : wAct S b d ⟨e, g, v, tg, tp, x⟩ (.seq ng ks y z) K = wVal (act noCalls d ⟨e, g, v, tg, tp, x⟩ (.seq ng ks y z)) K := rfl
theorem wAct_un {op : UnOp} {y : Operand} : wAct S b d ⟨e, g, v, tg, tp, x⟩ (.un op y) K = wVal (act noCalls d ⟨e, g, v, tg, tp, x⟩ (.un op y)) K := rfl
theorem wAct_convi {k : IntKind} {y : Operand} : wAct S b d ⟨e, g, v, tg, tp, x⟩ (.convi k y) K = wVal (act noCalls d ⟨e, g, v, tg, tp, x⟩ (.convi k y)) K := rfl
theorem wAct_convs {y : Operand} : wAct S b d ⟨e, g, v, tg, tp, x⟩ (.convs y) K = wVal (act noCalls d ⟨e, g, v, tg, tp, x⟩ (.convs y)) K := rfl
theorem wAct_slc {sz : Nat} {y : Operand} {lo hi mx : Option Operand} : wAct S b d ⟨e, g, v, tg, tp, x⟩ (.slc sz y lo hi mx) K = wVal (act noCalls d ⟨e, g, v, tg, tp, x⟩ (.slc sz y lo hi mx)) K := rfl
theorem wAct_sslc {y : Operand} {lo hi : Option Operand} : wAct S b d ⟨e, g, v, tg, tp, x⟩ (.sslc y lo hi) K = wVal (act noCalls d ⟨e, g, v, tg, tp, x⟩ (.sslc y lo hi)) K := rfl
theorem wAct_ext {i : Nat} {y : Operand} : wAct S b d ⟨e, g, v, tg, tp, x⟩ (.ext i y) K = wVal (act noCalls d ⟨e, g, v, tg, tp, x⟩ (.ext i y)) K := rfl
theorem wAct_slen {y : Operand} : wAct S b d ⟨e, g, v, tg, tp, x⟩ (.slen y) K = wVal (act noCalls d ⟨e, g, v, tg, tp, x⟩ (.slen y)) K := rfl
theorem wAct_len {y : Operand} : wAct S b d ⟨e, g, v, tg, tp, x⟩ (.len y) K = wVal (act noCalls d ⟨e, g, v, tg, tp, x⟩ (.len y)) K := rfl
theorem wAct_nilc {y : Operand} : wAct S b d ⟨e, g, v, tg, tp, x⟩ (.nilc y) K = wVal (act noCalls d ⟨e, g, v, tg, tp, x⟩ (.nilc y)) K := rfl
theorem wAct_mkf {f : Nat} {l l' : List Operand} : wAct S b d ⟨e, g, v, tg, tp, x⟩ (.mkf f l l') K = wVal (act noCalls d ⟨e, g, v, tg, tp, x⟩ (.mkf f l l')) K := rfl
theorem wAct_aidx {ag : Bool} {n sz : Nat} {y z : Operand} : wAct S b d ⟨e, g, v, tg, tp, x⟩ (.aidx ag n sz y z) K = wVal (act noCalls d ⟨e, g, v, tg, tp, x⟩ (.aidx ag n sz y z)) K := rfl
theorem wAct_app (h : S.th = []) {sz by' : Nat} {y z : Operand} : wAct S b d ⟨e, g, v, tg, tp, x⟩ (.app sz by' y z) K = wVal (act noCalls d ⟨e, g, v, tg, tp, x⟩ (.app sz by' y z)) K := by
  simp [wAct, h, wVal]
theorem wAct_app0 {O : Outs σ} {P : Program} {T : List Nat} {nt k : Nat} {fz : List (Nat × Nat × Nat)} {sz by' : Nat} {y z : Operand} : wAct (sys O P T nt k [] fz) b d ⟨e, g, v, tg, tp, x⟩ (.app sz by' y z) K = wVal (act noCalls d ⟨e, g, v, tg, tp, x⟩ (.app sz by' y z)) K := wAct_app rfl
/-- A function value. -/
def wFv (a : AV) (K : Nat → List AV → List AV → Prop) : Prop := match a with | .fv f fs caps => K f fs caps | _ => False
@[congr] theorem wFv_congr {a a' : AV} {K : Nat → List AV → List AV → Prop} (h : a = a') : wFv a K = wFv a' K := by rw [h]
theorem wFv_fv {f : Nat} {fs caps : List AV} {K : Nat → List AV → List AV → Prop} : wFv (.fv f fs caps) K = K f fs caps := rfl
theorem wAct_mm {mx : Bool} {y z : Operand} : wAct S b d ⟨e, g, v, tg, tp, x⟩ (.mm mx y z) K = wVal (act noCalls d ⟨e, g, v, tg, tp, x⟩ (.mm mx y z)) K := rfl
theorem wAct_peq {ng : Bool} {y : Operand} : wAct S b d ⟨e, g, v, tg, tp, x⟩ (.peq ng y) K = wVal (act noCalls d ⟨e, g, v, tg, tp, x⟩ (.peq ng y)) K := rfl
theorem wAct_snil {ng : Bool} {y : Operand} : wAct S b d ⟨e, g, v, tg, tp, x⟩ (.snil ng y) K = wSnil b ng (St.ev ⟨e, g, v, tg, tp, x⟩ y) ⟨e, g, v, tg, tp, x⟩ K := rfl
theorem wAct_asl {sz n : Nat} {y : Operand} : wAct S b d ⟨e, g, v, tg, tp, x⟩ (.asl sz n y) K = wVal (act noCalls d ⟨e, g, v, tg, tp, x⟩ (.asl sz n y)) K := rfl
theorem wAct_capv {y : Operand} : wAct S b d ⟨e, g, v, tg, tp, x⟩ (.capv y) K = wVal (act noCalls d ⟨e, g, v, tg, tp, x⟩ (.capv y)) K := rfl
theorem wAct_mkmap : wAct S b d ⟨e, g, v, tg, tp, x⟩ .mkmap K = K (.mp d (g d + 1)) ⟨e, upd g d (g d + 1), upd v d [], tg, tp, x⟩ := rfl
theorem wAct_mlen {y : Operand} : wAct S b d ⟨e, g, v, tg, tp, x⟩ (.mlen y) K = wVal (act noCalls d ⟨e, g, v, tg, tp, x⟩ (.mlen y)) K := rfl
/-- A copy; it is left standing. -/
def wCpy (st : St σ) (sz : Nat) (y z : AV) (K : AV → St σ → Prop) : Prop :=
  match y.vslOf with
  | some (d', g, sz', off, n, _) =>
    match st.src sz (some n) z with
    | some (m, news) => (sz' = sz ∧ g = st.gen d' ∧ 0 < n) ∧ K (.imm (.int .i64 m)) { st with var := upd st.var d' (splice (padTo (st.var d') (off + news.length)) off news) }
    | none => False
  | none => False
@[congr] theorem wCpy_congr {st : St σ} {sz : Nat} {y y' z z' : AV} {K : AV → St σ → Prop} (h : y = y') (h2 : z = z') : wCpy st sz y z K = wCpy st sz y' z' K := by rw [h, h2]
theorem wAct_cpy {sz : Nat} {y z : Operand} : wAct S b d ⟨e, g, v, tg, tp, x⟩ (.cpy sz y z) K = wCpy ⟨e, g, v, tg, tp, x⟩ sz (St.ev ⟨e, g, v, tg, tp, x⟩ y) (St.ev ⟨e, g, v, tg, tp, x⟩ z) K := by
  simp only [wAct, act, wCpy]
  generalize (St.ev ⟨e, g, v, tg, tp, x⟩ y).vslOf = p
  rcases p with _ | ⟨d', g', sz', off, n, cp⟩
  · rfl
  · simp only
    generalize St.src ⟨e, g, v, tg, tp, x⟩ sz (some n) (St.ev ⟨e, g, v, tg, tp, x⟩ z) = q
    rcases q with _ | ⟨m, news⟩
    · rfl
    · simp only [wOpt_if, wOpt_some]
/-- An append of zeros; it is left standing. -/
def wAppz (d : Nat) (st : St σ) (sz bytes : Nat) (z : List Value) (y n : AV) (K : AV → St σ → Prop) : Prop :=
  match y.vslOf, n.asInt with
  | some (d', g, sz', off, k, some c), some m => (sz' = sz ∧ g = st.gen d' ∧ off + k * sz ≤ (st.var d').length ∧ 0 ≤ m ∧ c < k + m.toNat ∧ (k + m.toNat) * bytes ≤ 140737488355328) ∧
      K (.vsl d (st.gen d + 1) sz 0 (k + m.toNat) none) (st.newVar d (((st.var d').drop off).take (k * sz) ++ (List.replicate m.toNat (z.map AV.imm)).flatten))
  | _, _ => False
@[congr] theorem wAppz_congr {d : Nat} {st : St σ} {sz bytes : Nat} {z : List Value} {y y' n n' : AV} {K : AV → St σ → Prop} (h : y = y') (h2 : n = n') : wAppz d st sz bytes z y n K = wAppz d st sz bytes z y' n' K := by rw [h, h2]
theorem wAct_appz {sz by' : Nat} {zz : List Value} {y z : Operand} : wAct S b d ⟨e, g, v, tg, tp, x⟩ (.appz sz by' zz y z) K = wAppz d ⟨e, g, v, tg, tp, x⟩ sz by' zz (St.ev ⟨e, g, v, tg, tp, x⟩ y) (St.ev ⟨e, g, v, tg, tp, x⟩ z) K := by
  simp only [wAct, act, wAppz]
  generalize (St.ev ⟨e, g, v, tg, tp, x⟩ y).vslOf = p
  generalize (St.ev ⟨e, g, v, tg, tp, x⟩ z).asInt = q
  rcases p with _ | ⟨d', g', sz', off, n, _ | c⟩ <;> rcases q with _ | m <;> simp only [wOpt_none, wOpt_if, wOpt_some]
/-- make; it is left standing. -/
def wMksl (d : Nat) (st : St σ) (sz bytes : Nat) (z : List Value) (n : AV) (K : AV → St σ → Prop) : Prop :=
  match n.asInt with
  | some m => (0 ≤ m ∧ m.toNat * bytes ≤ 140737488355328) ∧ K (.vsl d (st.gen d + 1) sz 0 m.toNat (some m.toNat)) (st.newVar d (List.replicate m.toNat (z.map AV.imm)).flatten)
  | none => False
@[congr] theorem wMksl_congr {d : Nat} {st : St σ} {sz bytes : Nat} {z : List Value} {n n' : AV} {K : AV → St σ → Prop} (h2 : n = n') : wMksl d st sz bytes z n K = wMksl d st sz bytes z n' K := by rw [h2]
theorem wAct_mksl {sz by' : Nat} {zz : List Value} {z : Operand} : wAct S b d ⟨e, g, v, tg, tp, x⟩ (.mksl sz by' zz z) K = wMksl d ⟨e, g, v, tg, tp, x⟩ sz by' zz (St.ev ⟨e, g, v, tg, tp, x⟩ z) K := by
  simp only [wAct, act, wMksl]
  generalize (St.ev ⟨e, g, v, tg, tp, x⟩ z).asInt = q
  rcases q with _ | m <;> simp only [wOpt_none, wOpt_if, wOpt_some]
/-- A map is read, or written; left standing. -/
def wMget (st : St σ) (ag : Bool) (ks : List Nat) (z : Value) (comma : Bool) (m k : AV) (K : AV → Prop) : Prop :=
  match m, k.keyc ag with
  | .mp d' g, some kc => (g = st.gen d' ∧ kc.length = ks.length) ∧ wOpt (findM ag ks kc (st.var d')) fun r => K (if comma then .tup [r.getD (.ofV z), .imm (.bool r.isSome)] else r.getD (.ofV z))
  | .imm (.map none), some kc => kc.length = ks.length ∧ K (if comma then .tup [.ofV z, .imm (.bool false)] else .ofV z)
  | _, _ => False
@[congr] theorem wMget_congr {st : St σ} {ag : Bool} {ks : List Nat} {z : Value} {comma : Bool} {m m' k k' : AV} {K : AV → Prop} (h : m = m') (h2 : k = k') : wMget st ag ks z comma m k K = wMget st ag ks z comma m' k' K := by rw [h, h2]
theorem wAct_mget {ag : Bool} {ks : List Nat} {zz : Value} {comma : Bool} {y z : Operand} : wAct S b d ⟨e, g, v, tg, tp, x⟩ (.mget ag ks zz comma y z) K = wMget ⟨e, g, v, tg, tp, x⟩ ag ks zz comma (St.ev ⟨e, g, v, tg, tp, x⟩ y) (St.ev ⟨e, g, v, tg, tp, x⟩ z) fun a => K a ⟨e, g, v, tg, tp, x⟩ := by
  simp only [wAct, act, wMget]
  generalize St.ev ⟨e, g, v, tg, tp, x⟩ y = m
  generalize AV.keyc ag (St.ev ⟨e, g, v, tg, tp, x⟩ z) = q
  split <;> simp only [wOpt_none, wOpt_if, wOpt_map, wOpt_some]
def wMset (st : St σ) (ag : Bool) (ks : List Nat) (m k u : AV) (K : AV → St σ → Prop) : Prop :=
  match m, k.keyc ag with
  | .mp d' g, some kc => (g = st.gen d' ∧ kc.length = ks.length) ∧ wOpt (setM ag ks kc (.tup [k, u]) (st.var d')) fun l => K undefA { st with var := upd st.var d' l }
  | _, _ => False
@[congr] theorem wMset_congr {st : St σ} {ag : Bool} {ks : List Nat} {m m' k k' u u' : AV} {K : AV → St σ → Prop} (h : m = m') (h2 : k = k') (h3 : u = u') : wMset st ag ks m k u K = wMset st ag ks m' k' u' K := by rw [h, h2, h3]
theorem wAct_mset {ag : Bool} {ks : List Nat} {y z u : Operand} : wAct S b d ⟨e, g, v, tg, tp, x⟩ (.mset ag ks y z u) K = wMset ⟨e, g, v, tg, tp, x⟩ ag ks (St.ev ⟨e, g, v, tg, tp, x⟩ y) (St.ev ⟨e, g, v, tg, tp, x⟩ z) (St.ev ⟨e, g, v, tg, tp, x⟩ u) K := by
  simp only [wAct, act, wMset]
  generalize St.ev ⟨e, g, v, tg, tp, x⟩ y = m
  generalize St.ev ⟨e, g, v, tg, tp, x⟩ z = k
  generalize AV.keyc ag k = q
  split <;> simp only [wOpt_none, wOpt_if, wOpt_map]
theorem wAct_callv {y : Operand} {l : List Operand} : wAct S b d ⟨e, g, v, tg, tp, x⟩ (.callv y l) K = wFv (St.ev ⟨e, g, v, tg, tp, x⟩ y) fun f fs caps => wCallV S b d ⟨e, g, v, tg, tp, x⟩ f fs caps (l.map (St.ev ⟨e, g, v, tg, tp, x⟩)) K := by
  simp only [wAct, wFv]
  cases St.ev ⟨e, g, v, tg, tp, x⟩ y <;> rfl

/-! ### code -/
variable {N Rr : St σ → Prop} {E : Nat → St σ → Prop} {st : St σ}
theorem wCode_skip : wCode S .skip st N Rr E = N st := rfl
theorem wCode_region {l : List AOper} : wCode S (.region l) st N Rr E = wOps S st l N := rfl
theorem wCode_draw {l : List AOper} {bf : List (List Nat)} : wCode S (.draw l bf) st N Rr E = wDraw S st l [] fun s lg => pairsOk l lg bf = true ∧ N s := rfl
theorem wCode_seq {a c : ACode} : wCode S (.seq a c) st N Rr E = wCode S a st (fun s => wCode S c s N Rr E) Rr E := rfl
def wCond (a : AV) (A B : Prop) : Prop := match a with | .imm (.bool t) => (t = true → A) ∧ (t = false → B) | _ => False
@[congr] theorem wCond_congr {a a' : AV} {A B : Prop} (h : a = a') : wCond a A B = wCond a' A B := by rw [h]
theorem wCond_t {A B : Prop} : wCond (.imm (.bool true)) A B = A := by simp [wCond]
theorem wCond_f {A B : Prop} : wCond (.imm (.bool false)) A B = B := by simp [wCond]
theorem wCond_b {t : Bool} {A B : Prop} : wCond (.imm (.bool t)) A B = ((t = true → A) ∧ (t = false → B)) := rfl
theorem wCond_d {p : Prop} [Decidable p] {A B : Prop} : wCond (.imm (.bool (decide p))) A B = ((p → A) ∧ (¬ p → B)) := by
  by_cases h : p <;> simp [wCond, h]
theorem wCond_tb {t : Bool} {A B : Prop} : wCond (.imm (.bool (tb t))) A B = ((t = true → A) ∧ (t = false → B)) := rfl
theorem wCode_cond {cd : Operand} {p q : ACode} : wCode S (.cond cd p q) ⟨e, g, v, tg, tp, x⟩ N Rr E = wCond (St.ev ⟨e, g, v, tg, tp, x⟩ cd) (wCode S p ⟨e, g, v, tg, tp, x⟩ N Rr E) (wCode S q ⟨e, g, v, tg, tp, x⟩ N Rr E) := rfl
theorem wCode_block {i : Nat} {p : ACode} : wCode S (.block i p) st N Rr E = wCode S p st N Rr fun j s => if j = i then N s else E j s := rfl
theorem wCode_loop {p : ACode} : wCode S (.loop p) st N Rr E = AW S (.loop p) st N Rr E := rfl
theorem wCode_exit {i : Nat} : wCode S (.exit i) st N Rr E = E i st := rfl
theorem wCode_ret : wCode S .ret st N Rr E = Rr st := rfl
theorem off_sys {O : Outs σ} {P : Program} {T : List Nat} {nt k : Nat} {th : List Nat} {fz : List (Nat × Nat × Nat)} : (sys O P T nt k th fz).off = k := rfl
theorem ends_eq {F : AFun} {r : AV} {st : St σ} : ends F r st = wOpt (resL st F.res) fun l => wOpt (out st (resV l)) fun r0 => r0.le r := rfl

/-! ### ends -/
def endR (a r : AV) (st : St σ) : Prop := wOpt (out st a) fun r0 => r0.le r
@[congr] theorem endR_congr {a a' r : AV} {st : St σ} (h : a = a') : endR a r st = endR a' r st := by rw [h]
theorem ends_one {n : Nat} {c : ACode} {s : Nat} {r : AV} : ends ⟨n, c, [(s, none)]⟩ r (⟨e, g, v, tg, tp, x⟩ : St σ) = endR (e s) r ⟨e, g, v, tg, tp, x⟩ := rfl
theorem ends_two {n : Nat} {c : ACode} {s s' : Nat} {r : AV} : ends ⟨n, c, [(s, none), (s', none)]⟩ r (⟨e, g, v, tg, tp, x⟩ : St σ) = endR (.tup [e s, e s']) r ⟨e, g, v, tg, tp, x⟩ := rfl
theorem endR_imm {u w : Value} {st : St σ} : endR (.imm u) (.imm w) st = (u = w) := by
  simp only [endR, out, AV.weaks, AV.weak1, AV.weak, AV.pureB, if_true, wOpt_some, AV.le, AV.le2]
  unfold AV.le1
  split
  · rename_i h; cases h
  · rename_i h; cases h
  · simp
end
end Go.Av
