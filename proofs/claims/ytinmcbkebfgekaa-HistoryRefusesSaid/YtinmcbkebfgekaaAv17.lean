/-
  OWN TEXT. The walk's conditions: what must hold for code to come to its end (after the pattern of a weakest precondition).
-/
import Derived.Test.YtinmcbkebfgekaaAv16
import Derived.Deep.LoopGhost
set_option linter.all false
set_option linter.unusedVariables false
set_option linter.unusedSimpArgs false
namespace Go.Av
open Go.RowKit (Below)
variable {σ : Type}

def wOpt {α : Type} (o : Option α) (K : α → Prop) : Prop := match o with | some x => K x | none => False
theorem wOpt_some {α : Type} (x : α) (K : α → Prop) : wOpt (some x) K = K x := rfl
theorem wOpt_none {α : Type} (K : α → Prop) : wOpt (none : Option α) K = False := rfl
theorem wOpt_if {α : Type} (p : Prop) [Decidable p] (x : Option α) (K : α → Prop) : wOpt (if p then x else none) K = (p ∧ wOpt x K) := by
  by_cases h : p <;> simp [wOpt, h]
theorem wOpt_map {α β : Type} (f : α → β) (x : Option α) (K : β → Prop) : wOpt (x.map f) K = wOpt x fun a => K (f a) := by cases x <;> rfl
theorem wOpt_exists {α : Type} {x : Option α} {K : α → Prop} (h : wOpt x K) : ∃ a, x = some a ∧ K a := by
  cases x with
  | none => exact h.elim
  | some a => exact ⟨a, rfl, h⟩

def noCalls : Orc := ⟨fun _ _ _ => none, fun _ _ _ _ _ => none⟩
/-- A call of a function by its number; of a function value: by a contract of what it computes, or (where the order of operations is fixed) by what it does to the state. -/
def wCall (S : Sys σ) (b : Bool) (d : Nat) (st : St σ) (f : Nat) (xs : List AV) (K : AV → St σ → Prop) : Prop :=
  (AV.pureBs (xs.map AV.weaks) = true ∧ ∃ ys r, AV.les2 (xs.map AV.weaks) ys ∧ S.C f ys r ∧ wOpt (r.ret d (st.tgen d + 1)) fun v => K v (st.given d r)) ∨
  (AV.pureBs (xs.map AV.weaks) = false ∧ ∃ zs ys r, Views st xs zs ∧ AV.les2 zs ys ∧ S.C f ys r ∧ r.flatB = true ∧ K r st) ∨
  (b = true ∧ ∃ F, S.I f xs st F ∧ ∀ x st', F x st' → st'.env = st.env → K x st')
def wCallV (S : Sys σ) (b : Bool) (d : Nat) (st : St σ) (g : Nat) (fs caps xs : List AV) (K : AV → St σ → Prop) : Prop :=
  (AV.pureBs (fs ++ xs.map AV.weaks ++ caps) = true ∧ ∃ ys r, AV.les2 (fs ++ xs.map AV.weaks ++ caps) ys ∧ S.CV g ys r ∧ wOpt (r.ret d (st.tgen d + 1)) fun v => K v (st.given d r)) ∨
  (AV.pureBs (fs ++ xs.map AV.weaks ++ caps) = false ∧ ∃ zs ys r, Views st (fs ++ xs ++ caps) zs ∧ AV.les2 zs ys ∧ S.CV g ys r ∧ r.flatB = true ∧ K r st) ∨
  (b = true ∧ ∃ F, S.IV g (fs ++ xs ++ caps) st F ∧ ∀ x st', F x st' → st'.env = st.env → K x st')
/-- An append that makes a variable. -/
def wThaw (d : Nat) (st : St σ) (sz bytes : Nat) (x y : AV) (K : AV → St σ → Prop) : Prop :=
  match x.asSl sz, y.asSl sz with
  | some (.full, rows), some (_, news) =>
    (0 < news.length ∧ (rows.length + news.length) * bytes ≤ 140737488355328) ∧ K (.vsl d (st.gen d + 1) sz 0 (rows.length + news.length) none) (st.newVar d (rows.flatten ++ news.flatten))
  | _, _ => False
def wIdx (st : St σ) (sz : Nat) (x i : AV) (K : AV → St σ → Prop) : Prop :=
  match x.vslOf, x.asSl sz, i.asInt with
  | some (d, g, sz', off, m, _), _, some n => (sz' = sz ∧ g = st.gen d ∧ 0 ≤ n ∧ n < m) ∧ K (.ptr d g (off + n.toNat * sz)) st
  | none, some r, some n => (0 ≤ n ∧ n < r.2.length) ∧ ∀ row, r.2[n.toNat]? = some row → K (.eptr row 0) st
  | _, _, _ => False
/-- Is a slice nil. -/
def wSnil (b ng : Bool) (a : AV) (st : St σ) (K : AV → St σ → Prop) : Prop :=
  match a with
  | .imm (.slice none 0 0) => K (.imm (.bool (!ng))) st
  | .sl _ _ rows => (rows ≠ [] → K (.imm (.bool ng)) st) ∧ (rows = [] → b = true ∧ K (.imm (.bool true)) st ∧ K (.imm (.bool false)) st)
  | .vsl d g _ _ _ _ => g = st.gen d ∧ K (.imm (.bool ng)) st
  | _ => False
def wPick (t x y : AV) (st : St σ) (K : AV → St σ → Prop) : Prop := match t with | .imm (.bool t) => (t = true → K x st) ∧ (t = false → K y st) | _ => False
/-- The condition of one operation; b: is the order fixed. -/
def wAct (S : Sys σ) (b : Bool) (d : Nat) (st : St σ) (op : AOp) (K : AV → St σ → Prop) : Prop :=
  match op with
  | .pick c x y => wPick (st.ev c) (st.ev x) (st.ev y) st K
  | .iaddr sz x i => wIdx st sz (st.ev x) (st.ev i) K
  | .call f args => wCall S b d st f (args.map st.ev) K
  | .callv x args => match st.ev x with | .fv g fs caps => wCallV S b d st g fs caps (args.map st.ev) K | _ => False
  | .snil ng x => wSnil b ng (st.ev x) st K
  | .app sz bytes x y => if b = true ∧ S.th.contains d = true then wThaw d st sz bytes (st.ev x) (st.ev y) K else wOpt (act noCalls d st (.app sz bytes x y)) fun r => K r.1 r.2
  | .hard o => b = true ∧ ∃ F, (∀ c, S.Γ c → HStep S.P c o st F) ∧ ∀ x st', F x st' → K x st'
  | op => wOpt (act noCalls d st op) fun r => K r.1 r.2
def wGuard (x : AV) (b : Bool) (A B C : Prop) : Prop :=
  match x with
  | .imm (.bool x) => (x = b → A) ∧ (x = !b → B)
  | .tup [] => C
  | _ => False
/-- .. with its guard; which way the guard goes is written down. -/
def wStep (S : Sys σ) (b : Bool) (st : St σ) (o : AOper) (K : St σ → Prop) : Prop :=
  match o.guard with
  | none => wAct S b (S.off + o.dst.getD 0) st o.op fun v s => K (s.put o.dst v)
  | some (g, t) =>
    wGuard (st.env g) t (wAct S b (S.off + o.dst.getD 0) { st with env := upd st.env g (.imm (.bool t)) } o.op fun v s => K (s.put o.dst v))
      (K (St.put { st with env := upd st.env g (.imm (.bool !t)) } o.dst undefA)) (K (st.put o.dst undefA))
/-- .. what is made immutable ahead of it. -/
def wFrz (S : Sys σ) (st : St σ) (o : AOper) (K : St σ → Prop) : Prop :=
  match S.fz.lookup (o.dst.getD 0) with
  | some (d, sz) => K (st.frz d sz)
  | none => K st
def wOps (S : Sys σ) (st : St σ) : List AOper → (St σ → Prop) → Prop
  | [], K => K st
  | o :: rest, K => wFrz S st o fun st => wStep S true st o fun s => wOps S s rest K

def isHard : AOp → Bool
  | .hard _ => true
  | _ => false
theorem PCall_les {P : Program} {n : Nat} {xs ys : List AV} {r : AV} (hl : AV.les2 xs ys) (h : PCall P n ys r) : PCall P n xs r :=
  fun G w vs hG hvs => h G w vs hG (Rt_les2 hl hvs)
theorem specs_no (P : Program) (T : List Nat) : Specs σ P T noCalls := ⟨fun _ _ _ _ h => (by cases h), fun _ _ _ h => (by cases h), fun _ _ _ _ _ _ h => (by cases h), fun _ _ _ _ _ h => (by cases h)⟩
open Classical in
theorem specs_f (S : Sys σ) {f : Nat} {xs ys : List AV} {r : AV} (hl : AV.les2 xs ys) (hc : S.C f ys r) : Specs σ S.P S.T ⟨fun b f' xs' => if b = true ∧ f' = f ∧ xs' = xs then some r else none, fun _ _ _ _ _ => none⟩ := by
  refine ⟨fun f' xs' r' n h hn => ?_, fun n xs' r' h => ?_, fun _ _ _ _ _ _ h => (by cases h), fun _ _ _ _ _ h => (by cases h)⟩
  · simp only at h
    split at h
    · rename_i hq
      injection h with h
      obtain ⟨_, rfl, rfl⟩ := hq
      subst h
      exact PCall_les hl (hc n hn)
    · cases h
  · simp at h
open Classical in
theorem specs_fv (S : Sys σ) {f : Nat} {xs ys : List AV} {r : AV} (hl : AV.les2 xs ys) (hc : S.CV f ys r) : Specs σ S.P S.T ⟨fun b f' xs' => if b = false ∧ f' = f ∧ xs' = xs then some r else none, fun _ _ _ _ _ => none⟩ := by
  refine ⟨fun f' xs' r' n h hn => ?_, fun n xs' r' h => ?_, fun _ _ _ _ _ _ h => (by cases h), fun _ _ _ _ _ h => (by cases h)⟩
  · simp at h
  · simp only at h
    split at h
    · rename_i hq
      injection h with h
      obtain ⟨_, rfl, rfl⟩ := hq
      subst h
      exact ⟨PCall_les hl hc.1, hc.2⟩
    · cases h
theorem Views_congr {st st' : St σ} (hg : st'.gen = st.gen) (hv : st'.var = st.var) : ∀ {xs ys : List AV}, Views st xs ys → Views st' xs ys := by
  intro xs ys h
  refine Views.rec (motive_1 := fun x y _ => View st' x y) (motive_2 := fun xs ys _ => Views st' xs ys) ?_ ?_ ?_ ?_ ?_ ?_ ?_ ?_ h
  · intro x hp; exact .weak hp
  · intro x; exact .dead
  · intro d g off cs hgg _ ih; exact .ptr (by rw [hg]; exact hgg) (by rw [hv]; exact ih)
  · intro d g sz off n cp rows hgg hl _ hs hn ih; exact .vsl (by rw [hg]; exact hgg) (by rw [hv]; exact hl) (by rw [hv]; exact ih) hs hn
  · intro f fs fs' cs cs' _ _ i1 i2; exact .fv i1 i2
  · intro cs cs' _ i1; exact .agg i1
  · exact .nil
  · intro x y xs ys _ _ i1 i2; exact .cons i1 i2
open Classical in
theorem specs_v (S : Sys σ) {f : Nat} {st : St σ} {xs zs ys : List AV} {r : AV} (hv : Views st xs zs) (hl : AV.les2 zs ys) (hc : S.C f ys r) (hr : r.flatB = true) : Specs σ S.P S.T ⟨fun _ _ _ => none, fun b f' xs' g v => if b = true ∧ f' = f ∧ xs' = xs ∧ g = st.gen ∧ v = st.var then some r else none⟩ := by
  refine ⟨fun _ _ _ _ h => (by cases h), fun _ _ _ h => (by cases h), fun f' xs' g v r' n h hn => ?_, fun n xs' g v r' h => ?_⟩
  · simp only at h
    split at h
    · rename_i hq
      injection h with h
      obtain ⟨_, rfl, rfl, rfl, rfl⟩ := hq
      subst h
      exact ⟨hr, zs, fun st' e1 e2 => Views_congr e1 e2 hv, PCall_les hl (hc n hn)⟩
    · cases h
  · simp at h
open Classical in
theorem specs_vv (S : Sys σ) {f : Nat} {st : St σ} {xs zs ys : List AV} {r : AV} (hv : Views st xs zs) (hl : AV.les2 zs ys) (hc : S.CV f ys r) (hr : r.flatB = true) : Specs σ S.P S.T ⟨fun _ _ _ => none, fun b f' xs' g v => if b = false ∧ f' = f ∧ xs' = xs ∧ g = st.gen ∧ v = st.var then some r else none⟩ := by
  refine ⟨fun _ _ _ _ h => (by cases h), fun _ _ _ h => (by cases h), fun f' xs' g v r' n h hn => ?_, fun n xs' g v r' h => ?_⟩
  · simp at h
  · simp only at h
    split at h
    · rename_i hq
      injection h with h
      obtain ⟨_, rfl, rfl, rfl, rfl⟩ := hq
      subst h
      exact ⟨⟨hr, zs, fun st' e1 e2 => Views_congr e1 e2 hv, PCall_les hl hc.1⟩, hc.2⟩
    · cases h
/-- Is the operation to make a variable out of an append. -/
def isThaw (S : Sys σ) (d : Nat) : AOp → Bool
  | .app .. => S.th.contains d
  | _ => false
/-- Does it take the address of an element of a variable. -/
def isVsl : AV → Bool
  | .vsl .. => true
  | _ => false
/-- The condition of an operation whose order is not fixed leads to what it does. -/
theorem wAct_act {S : Sys σ} {d : Nat} {st : St σ} {op : AOp} {K : AV → St σ → Prop} (h : wAct S false d st op K) : ∃ Φ, Specs σ S.P S.T Φ ∧ ∃ r, act Φ d st op = some r ∧ K r.1 r.2 := by
  cases op
  case pick c a b =>
    refine ⟨noCalls, specs_no _ _, ?_⟩
    simp only [wAct, wPick] at h
    split at h
    · rename_i t e
      simp only [act, e]
      cases t
      · exact ⟨_, rfl, by simpa using h.2 rfl⟩
      · exact ⟨_, rfl, by simpa using h.1 rfl⟩
    · exact h.elim
  case iaddr sz x i =>
    refine ⟨noCalls, specs_no _ _, ?_⟩
    simp only [wAct, wIdx] at h
    split at h
    · rename_i d' g sz' off m cp n e1 e2
      obtain ⟨hc, hK⟩ := h
      refine ⟨(.ptr d' g (off + n.toNat * sz), st), ?_, hK⟩
      simp only [act, e1, e2]
      rw [if_pos hc]
    · rename_i r n e0 e1 e2
      obtain ⟨tok, rows⟩ := r
      obtain ⟨⟨h0, h1⟩, h2⟩ := h
      refine ⟨(.eptr (rows.getD n.toNat []) 0, st), ?_, ?_⟩
      · simp only [act, e0, e1, e2]
        rw [if_pos ⟨h0, h1⟩]
      · apply h2
        have : n.toNat < rows.length := by simp only at h1; omega
        simp [List.getD_eq_getElem?_getD, List.getElem?_eq_getElem this]
    · exact h.elim
  case call f args =>
    simp only [wAct, wCall] at h
    have e0 : (args.map fun x => (st.ev x).weaks) = (args.map st.ev).map AV.weaks := by simp
    rcases h with ⟨hp, ys, r, hl, hc, hr⟩ | ⟨hp, zs, ys, r, hv, hl, hc, hf, hK⟩ | ⟨hb, _⟩
    · obtain ⟨v, hv, hK⟩ := wOpt_exists hr
      refine ⟨_, specs_f S hl hc, (v, st.given d r), ?_, hK⟩
      simp only [act, e0]
      rw [if_pos hp]
      simp [hv]
    · refine ⟨_, specs_v S hv hl hc hf, (r, st), ?_, hK⟩
      simp only [act, e0]
      rw [if_neg (by rw [hp]; simp)]
      simp
    · cases hb
  case callv x args =>
    simp only [wAct] at h
    have e0 : (args.map fun x => (st.ev x).weaks) = (args.map st.ev).map AV.weaks := by simp
    split at h
    · rename_i g fs caps ex
      simp only [wCallV] at h
      rcases h with ⟨hp, ys, r, hl, hc, hr⟩ | ⟨hp, zs, ys, r, hv, hl, hc, hf, hK⟩ | ⟨hb, _⟩
      · obtain ⟨v, hv, hK⟩ := wOpt_exists hr
        refine ⟨_, specs_fv S hl hc, (v, st.given d r), ?_, hK⟩
        simp only [act, ex, e0]
        rw [if_pos hp]
        simp [hv]
      · refine ⟨_, specs_vv S hv hl hc hf, (r, st), ?_, hK⟩
        simp only [act, ex, e0]
        rw [if_neg (by rw [hp]; simp)]
        simp
      · cases hb
    · exact h.elim
  case snil ng x =>
    refine ⟨noCalls, specs_no _ _, ?_⟩
    simp only [wAct, wSnil] at h
    split at h
    · rename_i e
      exact ⟨_, by simp only [act, e]; rfl, h⟩
    · rename_i sz tok rows e
      by_cases hr : rows = []
      · exact absurd (h.2 hr).1 (by simp)
      · exact ⟨_, by simp only [act, e]; rw [if_pos hr], h.1 hr⟩
    · rename_i d' g sz off n cp e
      exact ⟨_, by simp only [act, e]; rw [if_pos h.1], h.2⟩
    · exact h.elim
  case app sz bytes x y =>
    refine ⟨noCalls, specs_no _ _, ?_⟩
    simp only [wAct, Bool.false_eq_true, false_and, if_false] at h
    exact wOpt_exists h
  case hard o => simp only [wAct] at h; exact absurd h.1 (by simp)
  all_goals
    refine ⟨noCalls, specs_no _ _, ?_⟩
    simp only [wAct] at h
    exact wOpt_exists h

theorem upd_id {α : Type} {f : Nat → α} {i : Nat} {v : α} (h : f i = v) : upd f i v = f := by
  funext j
  unfold upd
  split
  · rename_i e; rw [e, h]
  · rfl
theorem env_id {st : St σ} {g : Nat} {v : AV} (h : st.env g = v) : ({ st with env := upd st.env g v } : St σ) = st := by
  rw [upd_id h]

section
variable {S : Sys σ} {c : Cx σ} {st st' : St σ} {a : Act} {w : World} {ow : Nat → Own} {τ : Nat → Nat} {ob : Nat → Value → Prop}

/-- One step under its guard: what it does. -/
theorem wStep_step {ao : AOper} {K : St σ → Prop} (h : wStep S false st ao K) : ∃ Φ, Specs σ S.P S.T Φ ∧ ∃ st', stepA Φ S.off st ao = some st' ∧ K st' := by
  unfold wStep at h
  split at h
  · rename_i e
    obtain ⟨Φ, hΦ, r, hr, hK⟩ := wAct_act h
    exact ⟨Φ, hΦ, _, by simp only [stepA, wantedA, e, hr, Option.map_some], hK⟩
  · rename_i g b e
    unfold wGuard at h
    split at h
    · rename_i x ex
      by_cases hx : x = b
      · subst hx
        have h1 := h.1 rfl
        rw [env_id ex] at h1
        obtain ⟨Φ, hΦ, r, hr, hK⟩ := wAct_act h1
        exact ⟨Φ, hΦ, _, by simp only [stepA, wantedA, e, ex, hr, Option.map_some, BEq.rfl], hK⟩
      · have hx' : x = !b := by cases x <;> cases b <;> simp_all
        have h2 := h.2 hx'
        subst hx'
        rw [env_id ex] at h2
        exact ⟨noCalls, specs_no _ _, _, by simp only [stepA, wantedA, e, ex]; cases b <;> rfl, h2⟩
    · rename_i ex
      exact ⟨noCalls, specs_no _ _, _, by simp only [stepA, wantedA, e, ex], h⟩
    · exact h.elim

theorem comp_not_hard {P : Program} {T : List Nat} {op : Op} {ao : AOp} (h : comp P T op = some ao) : isHard ao = false := by
  cases e : isHard ao with
  | false => rfl
  | true =>
    cases ao <;> simp [isHard] at e
    exfalso
    unfold comp at h
    repeat' (split at h)
    all_goals first
      | (simp only [reduceCtorEq, Option.some.injEq] at h; done)
      | (obtain ⟨q, _, hq⟩ := Option.map_eq_some_iff.1 h; cases hq; done)
      | skip
theorem comp_call {P : Program} {T : List Nat} {op : Op} {j : Nat} {l : List Operand} (h : comp P T op = some (.call j l)) : ∃ args tys f fn, op = .call { callee := .value (.func f), args := args, argTypes := tys } ∧ l = args.toList ∧ T[j]? = some f ∧ P.funcs[f]? = some fn ∧ fn.body.isSome = true ∧ (fn.name == "runtime.NumGoroutine") = false := by
  unfold comp at h
  repeat' (split at h)
  all_goals first
    | (simp only [reduceCtorEq, Option.some.injEq] at h; done)
    | (obtain ⟨q, _, hq⟩ := Option.map_eq_some_iff.1 h; cases hq; done)
    | skip
  rename_i cl _ f hcal _ fn hfn hcond
  obtain ⟨callee, args, tys⟩ := cl
  simp only at hcal h
  subst hcal
  simp only [Option.some.injEq, AOp.call.injEq] at h
  obtain ⟨rfl, rfl⟩ := h
  exact ⟨args, tys, f, fn, rfl, rfl, hcond.2.2, hfn, hcond.1, hcond.2.1⟩
theorem comp_callv {P : Program} {T : List Nat} {op : Op} {x : Operand} {l : List Operand} (h : comp P T op = some (.callv x l)) : ∃ args tys, op = .call { callee := .value x, args := args, argTypes := tys } ∧ l = args.toList := by
  unfold comp at h
  repeat' (split at h)
  all_goals first
    | (simp only [reduceCtorEq, Option.some.injEq] at h; done)
    | (obtain ⟨q, _, hq⟩ := Option.map_eq_some_iff.1 h; cases hq; done)
    | skip
  rename_i cl _ t hcal
  obtain ⟨callee, args, tys⟩ := cl
  simp only at hcal h
  subst hcal
  simp only [Option.some.injEq, AOp.callv.injEq] at h
  obtain ⟨rfl, rfl⟩ := h
  exact ⟨args, tys, rfl, rfl⟩
theorem comp_snil {P : Program} {T : List Nat} {op : Op} {ng : Bool} {x : Operand} (h : comp P T op = some (.snil ng x)) : ∃ t e y ty, op = .binOp (if ng then .neq else .eql) t x y ty ∧ P.underlying t = some (.slice e) ∧ isNilS y = true := by
  unfold comp at h
  repeat' (split at h)
  all_goals first
    | (simp only [reduceCtorEq, Option.some.injEq] at h; done)
    | (obtain ⟨q, _, hq⟩ := Option.map_eq_some_iff.1 h; cases hq; done)
    | skip
  rename_i hu _ ng' hn hz
  simp only [Option.some.injEq, AOp.snil.injEq] at h
  obtain ⟨rfl, rfl⟩ := h
  exact ⟨_, _, _, _, by rw [isNeq_eq hn], hu, hz⟩
theorem comp_app {P : Program} {T : List Nat} {op : Op} {sz bytes : Nat} {x y : Operand} (h : comp P T op = some (.app sz bytes x y)) : ∃ args tys t e i, op = .call { callee := .builtin .append, args := args, argTypes := tys } ∧ args.toList = [x, y] ∧ tys.toList = [t, t] ∧ P.underlying t = some (.slice e) ∧ P.info? e = some i ∧ sz = i.size ∧ bytes = i.bytes ∧ 0 < i.size ∧ 0 < i.bytes ∧ (i.zero.map fun z => (z.cells.size, z.cells.toList.all (·.oneCell'))) = some (i.size, true) := by
  unfold comp at h
  repeat' (split at h)
  all_goals first
    | (simp only [reduceCtorEq, Option.some.injEq] at h; done)
    | (obtain ⟨q, _, hq⟩ := Option.map_eq_some_iff.1 h; cases hq; done)
    | skip
  rename_i cl _ hcal _ _ x' y' t u ha ht _ _ e _ hu hu' _ i hi hc
  obtain ⟨callee, args, tys⟩ := cl
  simp only at hcal h ha ht
  subst hcal
  simp only [Option.some.injEq, AOp.app.injEq] at h
  obtain ⟨rfl, rfl, rfl, rfl⟩ := h
  obtain ⟨h1, h2, h3, h4⟩ := hc
  subst h3
  exact ⟨args, tys, t, e, i, rfl, ha, ht, hu, hi, rfl, rfl, h1, h2, h4⟩

theorem sim_thaw (h : FR c st a w ow τ ob) {P : Program} {d : Nat} {dst : Option Nat} {type : TypeId} {pos : String} {after : Array Edge} {guard : Option (Nat × Bool)} {t e : TypeId} {y z : Operand} {args : Array Operand} {argTypes : Array TypeId} {i : TypeInfo} {zv : Value} (hargs : args.toList = [y, z]) (htys : argTypes.toList = [t, t]) (ht : P.underlying t = some (.slice e)) (hi : P.info? e = some i) (hzv : i.zero = some zv) (hzs : zv.cells.size = i.size) (hz1 : zv.cells.toList.all (·.oneCell') = true) (hsz : 0 < i.size)
    (hby : 0 < i.bytes) {KA : AV → St σ → Prop} (hw : wThaw d st i.size i.bytes (st.ev y) (st.ev z) KA) :
    ∃ x st', KA x st' ∧ Sim P c st' x ⟨dst, .call { callee := .builtin .append, args := args, argTypes := argTypes }, type, pos, after, guard⟩ a w ob := by
  have e1 : args = #[y, z] := by rw [← Array.toArray_toList (xs := args), hargs]
  have e2 : argTypes = #[t, t] := by rw [← Array.toArray_toList (xs := argTypes), htys]
  subst e1
  subst e2
  unfold wThaw at hw
  split at hw
  · rename_i rows tok2 news q1 q2
    obtain ⟨⟨hm, hbound⟩, hK⟩ := hw
    refine ⟨_, _, hK, ?_⟩
    have hy := R_asSl (R_ev h y) q1
    have hz := R_asSl (R_ev h z) q2
    obtain ⟨A, zc, hv, _, _⟩ := sl_value hy
    obtain ⟨A2, zc2, hv2, _, _⟩ := sl_value hz
    rw [hv] at hy
    rw [hv2] at hz
    obtain ⟨_, hnz, hzm, olds, ho1, ho2, ho3, ho4⟩ := sl_vals hy
    obtain ⟨_, _, _, nvs, hn1, hn2, hn3, hn4⟩ := sl_vals hz
    have hlen1 : rows.length ≤ rows.length * i.bytes := Nat.le_mul_of_pos_right _ hby
    have htot : rows.length + news.length ≤ 140737488355328 := Nat.le_trans (Nat.le_mul_of_pos_right _ hby) hbound
    have hfull : zc = rows.length := by
      simp only [R] at hy
      obtain ⟨A', z', e, _, _, _, hf⟩ := hy
      injection e with _ _ e3
      exact e3.trans hf
    obtain ⟨b2, o2, rfl, hc2⟩ := hn4 (by omega)
    have hA : (A = none ∧ rows.length = 0 ∧ zc = 0) ∨ ∃ b : Addr, A = some b ∧ ∀ j u, olds[j]? = some u → w.cell? (b.add j) = some u := by
      by_cases h0 : rows.length = 0
      · have hol : olds = [] := List.eq_nil_of_length_eq_zero (by rw [ho2, h0, Nat.zero_mul])
        cases A with
        | none => exact .inl ⟨rfl, h0, by omega⟩
        | some ad => exact .inr ⟨ad, rfl, fun j u hj => by rw [hol] at hj; simp at hj⟩
      · obtain ⟨b3, o3, rfl, hc3⟩ := ho4 h0
        exact .inr ⟨_, rfl, fun j u hj => by rw [addr_add]; exact (hc3 j u hj).2.1⟩
    have hrun := run_app_grow (P := P) (ty := type) ht hi hzv (A := A) (z := zc) (z2 := zc2) (ad := ⟨b2, o2, none⟩) (w := w) ho2 hA hn2 (fun j u hj => by rw [addr_add]; exact (hc2 j u hj).2.1) hm (by omega) (by omega) hbound
    have hge := grownCap_ge w (rows.length + news.length) zc e
    have hle := grownCap_le_maxLen w (rows.length + news.length) zc e (by unfold maxLen; omega)
    intro K Q hK
    have hRs : Rs (Kof c st w ow τ ob) (rows.flatten ++ news.flatten) (olds ++ nvs) :=
      Rs_append (Rs_mono (KLe.of_pure (KLe.refl _)) _ _ ho1) (Rs_mono (KLe.of_pure (KLe.refl _)) _ _ hn1)
    have hl := Rs_length hRs
    have hz1' := List.all_eq_true.1 hz1
    obtain ⟨k1, _, k3, k4⟩ := h.drew.newVarO d (xs := rows.flatten ++ news.flatten) (.cells (olds.toArray ++ nvs.toArray ++ Builtin.zeroCells zv.cells (grownCap w (rows.length + news.length) zc e - (rows.length + news.length))) e) ⟨rfl, by
      intro v hv
      simp only [Array.toList_append, List.mem_append] at hv
      rcases hv with (hv | hv) | hv
      · exact Rs_one ho1 v (by simpa using hv)
      · exact Rs_one hn1 v (by simpa using hv)
      · rw [zeros_list _ (by omega)] at hv; exact zeros_one hz1' _ v hv, by
      have e1 : (olds.toArray ++ nvs.toArray ++ Builtin.zeroCells zv.cells (grownCap w (rows.length + news.length) zc e - (rows.length + news.length))).toList = (olds ++ nvs) ++ (Builtin.zeroCells zv.cells (grownCap w (rows.length + news.length) zc e - (rows.length + news.length))).toList := by simp
      rw [← hl, e1, List.take_left]
      exact hRs⟩
    refine wp_value (v := .slice (some ⟨w.heap.size, 0, none⟩) (rows.length + news.length) (grownCap w (rows.length + news.length) zc e)) ?_ (hK _ _ _ _ k1 (R_vslNew k3 (k4 _ ⟨rfl, ?_⟩) hge hle (fun c' hc' => by cases hc')))
    · simp only [execOp, resolve, invoke, builtin, Sem.run_bind, Sem.run_pure, Result.andThen_ok, List.map_toArray, List.map_cons, List.map_nil, hv, hv2, hrun, Array.toArray_toList]
    · rw [← Array.length_toList, Array.toList_append, Array.toList_append, List.length_append, List.length_append, size_zeroCells', hzs]
      have e3 : (olds.toArray.toList).length = rows.length * i.size := ho2
      have e4 : (nvs.toArray.toList).length = news.length * i.size := hn2
      rw [e3, e4, ← Nat.add_mul, ← Nat.add_mul]
      exact Nat.mul_le_mul_right _ (by omega)
  · exact hw.elim

/-- An operation whose order is fixed: it does what its condition says. -/
theorem wAct_sim {P : Program} {T : List Nat} {Γ off th fz} {d : Nat} {dst : Option Nat} {op : Op} {type : TypeId} {pos : String} {after : Array Edge} {guard : Option (Nat × Bool)} {KA : AV → St σ → Prop} (hΓ : Γ c)
    (hw : wAct (⟨P, T, Γ, off, th, fz⟩ : Sys σ) true d st ((comp P T op).getD (.hard op)) KA) (h : FR c st a w ow τ ob) {K : Act → World → Prop} {Q : Exit → Act → World → Prop}
    (hK : ∀ x st' v w' ow' τ' ob', KA x st' → FR c st' a w' ow' τ' ob' → R (Kof c st' w' ow' τ' ob') x v → K (a.put dst v) w') : (⟨dst, op, type, pos, after, guard⟩ : Oper).wp P a w K Q := by
  cases hcomp : comp P T op with
  | none =>
    rw [hcomp] at hw
    simp only [Option.getD_none, wAct] at hw
    obtain ⟨_, F, hst, hx⟩ := hw
    exact hst c hΓ dst type pos after guard a w ow τ ob h K Q fun x st' v w' ow' τ' ob' hF hR => hK x st' v w' ow' τ' ob' (hx x st' hF) hR
  | some ao =>
    rw [hcomp] at hw
    simp only [Option.getD_some] at hw
    have plain : wAct (⟨P, T, Γ, off, th, fz⟩ : Sys σ) false d st ao KA → (⟨dst, op, type, pos, after, guard⟩ : Oper).wp P a w K Q := by
      intro hw
      obtain ⟨Φ, hΦ, r, hr, hK'⟩ := wAct_act hw
      exact act_sim (c := c) hΦ hcomp hr h K Q fun v w' ow' τ' hF hR => hK r.1 r.2 v w' ow' τ' ob hK' hF hR
    cases ao
    case call j l =>
      simp only [wAct, wCall] at hw
      rcases hw with hw | hw | ⟨_, F, hI, hF⟩
      · exact plain (by simp only [wAct, wCall]; exact .inl hw)
      · exact plain (by simp only [wAct, wCall]; exact .inr (.inl hw))
      · obtain ⟨args, tys, f, fn, rfl, rfl, hT, hf, hb, hn⟩ := comp_call hcomp
        have hcall := hI c hΓ f hT a w ow τ ob _ h (Rt_evs h args.toList)
        unfold Oper.wp
        rw [exec_call hf hb hn, Oper.upon_enter]
        refine hcall.mono ?_
        rintro e w' ⟨v, x, st', ow', τ', ob', rfl, hFx, he, hFR, hR⟩
        exact hK x st' v w' ow' τ' ob' (hF x st' hFx he) hFR hR
    case callv y l =>
      simp only [wAct] at hw
      split at hw
      · rename_i g fs caps ey
        simp only [wCallV] at hw
        rcases hw with hw | hw | ⟨_, F, ⟨hI, fn, hf, hb, hn⟩, hF⟩
        · exact plain (by simp only [wAct, ey, wCallV]; exact .inl hw)
        · exact plain (by simp only [wAct, ey, wCallV]; exact .inr (.inl hw))
        · obtain ⟨args, tys, rfl, rfl⟩ := comp_callv hcomp
          have hy := R_ev h y
          rw [ey] at hy
          simp only [R] at hy
          obtain ⟨us, vs, hv, hfirst, hcaps⟩ := hy
          have hcall := hI c hΓ a w ow τ ob _ h (Rt_append (Rt_append hfirst (Rt_evs h args.toList)) hcaps)
          unfold Oper.wp
          rw [exec_callv hv hf hb hn, Oper.upon_enter]
          refine hcall.mono ?_
          rintro e w' ⟨v, x, st', ow', τ', ob', rfl, hFx, he, hFR, hR⟩
          exact hK x st' v w' ow' τ' ob' (hF x st' hFx he) hFR hR
      · exact hw.elim
    case snil ng y =>
      simp only [wAct, wSnil] at hw
      obtain ⟨t, e, z, ty, rfl, ht, hz⟩ := comp_snil hcomp
      split at hw
      · rename_i ey
        exact plain (by simp only [wAct, wSnil, ey]; exact hw)
      · rename_i sz tok rows ey
        by_cases hr : rows = []
        · obtain ⟨_, k1, k2⟩ := hw.2 hr
          have hy := R_ev h y
          rw [ey] at hy
          obtain ⟨A, q, hv, _, _⟩ := sl_value hy
          have hall : ∀ b : Bool, KA (.imm (.bool b)) st := fun b => by cases b; exact k2; exact k1
          exact wp_value (exec_snil ht hz hv) (hK _ _ _ _ _ _ _ (hall _) h (by unfold R; exact ⟨rfl, rfl⟩))
        · exact plain (by simp only [wAct, wSnil, ey]; exact ⟨hw.1, fun h => absurd h hr⟩)
      · rename_i d' g sz off n cp ey
        exact plain (by simp only [wAct, wSnil, ey]; exact hw)
      · exact hw.elim
    case app sz bytes y z =>
      simp only [wAct] at hw
      split at hw
      · obtain ⟨args, tys, t, e, i, rfl, hargs, htys, ht, hi, rfl, rfl, h1, h2, h4⟩ := comp_app hcomp
        obtain ⟨zv, hz, hzs⟩ := Option.map_eq_some_iff.1 h4
        simp only [Prod.mk.injEq] at hzs
        obtain ⟨x, st', hKA, hsim⟩ := sim_thaw (dst := dst) (type := type) (pos := pos) (after := after) (guard := guard) h hargs htys ht hi hz hzs.1 hzs.2 h1 h2 hw
        exact hsim K Q fun v w' ow' τ' hF hR => hK x st' v w' ow' τ' ob hKA hF hR
      · exact plain (by simp only [wAct, Bool.false_eq_true, false_and, if_false]; exact hw)
    case hard o => exact absurd (comp_not_hard hcomp) (by simp [isHard])
    all_goals exact plain hw

theorem wStep_sim {ops : Array Oper} {o : Oper} {ao : AOper} (hΓ : S.Γ c) (hc : compOH S.P S.T c.nt ops o = some ao) {KA : St σ → Prop} (hs : wStep S true st ao KA) (h : FR c st a w ow τ ob) {K : Act → World → Prop} {Q : Exit → Act → World → Prop}
    (hK : ∀ st' a' w' ow' τ' ob', KA st' → FR c st' a' w' ow' τ' ob' → K a' w') : if Region.wanted o (yielded ops a.tmps) then o.wp S.P a w K Q ∨ (o.asks S.P a w ∧ LetsOut Q) else K (a.put o.dst undef) w := by
  unfold compOH at hc
  split at hc
  · rename_i g hg
    split at hc
    · rename_i hnt
      injection hc with hc
      have hlt : ∀ s, o.dst = some s → s < c.nt := by
        intro s e
        rw [e] at hnt
        simpa [dstOk] using hnt
      subst hc
      have key : wAct S true (S.off + o.dst.getD 0) st ((comp S.P S.T o.op).getD (.hard o.op)) (fun v s => KA (s.put o.dst v)) → o.wp S.P a w K Q := by
        intro hw
        obtain ⟨dst, op, type, pos, after, guard⟩ := o
        refine wAct_sim (Γ := S.Γ) hΓ hw h fun x st' v w' ow' τ' ob' hKA hF hR => hK (st'.put dst x) _ _ ow' τ' ob' hKA ?_
        cases dst with
        | none => exact hF
        | some s => exact hF.put (hlt s rfl) hR
      unfold wStep at hs
      simp only at hs
      split at hs
      · have hw : Region.wanted o (yielded ops a.tmps) = true := wanted_of h hg rfl
        rw [hw]
        exact .inl (key hs)
      · rename_i g' b
        unfold wGuard at hs
        split at hs
        · rename_i x ex
          by_cases hx : x = b
          · subst hx
            have h1 := hs.1 rfl
            rw [env_id ex] at h1
            have hw : Region.wanted o (yielded ops a.tmps) = true := wanted_of h hg (by simp [wantedA, ex])
            rw [hw]
            exact .inl (key h1)
          · have hx' : x = !b := by cases x <;> cases b <;> simp_all
            have h2 := hs.2 hx'
            subst hx'
            rw [env_id ex] at h2
            have hw : Region.wanted o (yielded ops a.tmps) = false := wanted_of h hg (by simp only [wantedA, ex]; cases b <;> rfl)
            rw [hw]
            exact hK _ _ _ ow τ ob h2 (h.put_undef hlt)
        · rename_i ex
          have hw : Region.wanted o (yielded ops a.tmps) = false := wanted_of h hg (by simp [wantedA, ex])
          rw [hw]
          exact hK _ _ _ ow τ ob hs (h.put_undef hlt)
        · exact hs.elim
    · cases hc
  · cases hc

theorem wOps_sim {ops : Array Oper} {Q : Exit → Act → World → Prop} {KA : St σ → Prop} (hΓ : S.Γ c) : ∀ (l : List Oper) (k : Nat) (al : List AOper) (st : St σ) (a : Act) (w : World) (ow : Nat → Own) (τ : Nat → Nat) (ob : Nat → Value → Prop), ops.toList.drop k = l → compLH S.P S.T c.nt ops l = some al → wOps S st al KA → FR c st a w ow τ ob →
    (∀ st' a' w' ow' τ' ob', KA st' → FR c st' a' w' ow' τ' ob' → Q .normal a' w') → wpOps S.P ops Q (List.range' k l.length) a w
  | [], k, al, st, a, w, ow, τ, ob, hl, hc, hs, h, hQ => by
    simp only [compLH, Option.some.injEq] at hc
    subst hc
    exact hQ st a w ow τ ob hs h
  | o :: l, k, al, st, a, w, ow, τ, ob, hl, hc, hs, h, hQ => by
    simp only [compLH] at hc
    split at hc
    · rename_i ao al' h1 h2
      injection hc with hc
      subst hc
      simp only [wOps] at hs
      have hk : ops[k]? = some o := by
        have := congrArg (fun l => l[0]?) hl
        simpa using this
      have hl' : ops.toList.drop (k + 1) = l := by
        have := congrArg List.tail hl
        simpa using this
      simp only [List.length_cons, List.range'_succ, wpOps, hk]
      unfold wFrz at hs
      split at hs
      · rename_i d sz _
        exact wStep_sim hΓ h1 hs (h.freeze d sz) fun st' a' w' ow' τ' ob' hKA hF => wOps_sim hΓ l (k + 1) al' st' a' w' ow' τ' ob' hl' h2 hKA hF hQ
      · exact wStep_sim hΓ h1 hs h fun st' a' w' ow' τ' ob' hKA hF => wOps_sim hΓ l (k + 1) al' st' a' w' ow' τ' ob' hl' h2 hKA hF hQ
    · cases hc
end
end Go.Av
