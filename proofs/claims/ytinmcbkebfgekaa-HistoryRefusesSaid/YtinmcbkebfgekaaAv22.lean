/-
  OWN TEXT. Contracts by the functions' own numbers; rules for calls.
-/
import Derived.Test.YtinmcbkebfgekaaAv21
set_option linter.all false
set_option linter.unusedVariables false
set_option linter.unusedSimpArgs false
namespace Go.Av
variable {σ : Type}

/-- The contract of function f (by its number here). -/
def Con (P : Program) (T : List Nat) (f : Nat) (xs : List AV) (r : AV) : Prop := ∀ n, T[f]? = some n → PCall P n xs r
/-- Function f of the program is, without types, F. -/
def Tied (P : Program) (T : List Nat) (f : Nat) (F : AFun) : Prop := ∀ n, T[f]? = some n → ∃ fn, P.funcs[n]? = some fn ∧ compF P T fn = some F ∧ (fn.name == "runtime.NumGoroutine") = false
theorem C_sys {O : Outs σ} {P : Program} {T : List Nat} {nt k : Nat} {th : List Nat} {fz : List (Nat × Nat × Nat)} {f : Nat} {xs : List AV} {r : AV} : (sys O P T nt k th fz).C f xs r = Con P T f xs r := rfl
theorem Con_of (O : Outs σ) {P : Program} {T : List Nat} {f : Nat} {F : AFun} (ht : Tied P T f F) {args : List AV} {r : AV} (th : List Nat) (fz : List (Nat × Nat × Nat)) (hargs : args.length ≤ F.nt)
    (h : wCode (sys O P T F.nt 0 th fz) F.code (st0 O.x0 args) (ends F r) (ends F r) (fun _ _ => False)) : Con P T f args r := by
  intro n hn
  obtain ⟨fn, hf, hc, _⟩ := ht n hn
  exact PCall_of hf hc hargs h
theorem CV_of {O : Outs σ} {P : Program} {T : List Nat} {nt k : Nat} {th : List Nat} {fz : List (Nat × Nat × Nat)} {f : Nat} {F : AFun} (ht : Tied P T f F) (hl : f < T.length) {xs : List AV} {r : AV} (h : Con P T f xs r) : (sys O P T nt k th fz).CV (T.getD f 0) xs r := by
  have hn : T[f]? = some (T.getD f 0) := by rw [List.getD_eq_getElem?_getD, List.getElem?_eq_getElem hl]; rfl
  obtain ⟨fn, hf, hc, hm⟩ := ht _ hn
  refine ⟨h _ hn, fn, hf, ?_, hm⟩
  unfold compF at hc
  split at hc
  · rename_i e; rw [e]; rfl
  · cases hc
/-- The same at the level of states. -/
theorem I_of {O : Outs σ} {P : Program} {T : List Nat} {nt k : Nat} {th : List Nat} {fz : List (Nat × Nat × Nat)} {f : Nat} {F : AFun} (ht : Tied P T f F) {xs : List AV} {st : St σ} {Q : AV → St σ → Prop} (k' : Nat) (th' : List Nat) (fz' : List (Nat × Nat × Nat)) (hxs : xs.length ≤ F.nt)
    (h : wCode (sys O P T F.nt k' th' fz') F.code { st with env := env0 xs } (endsI F st.env Q) (endsI F st.env Q) (fun _ _ => False)) : (sys O P T nt k th fz).I f xs st Q := by
  intro c hc n hn
  obtain ⟨fn, hf, hcc, _⟩ := ht n hn
  exact ICall_of hc.2 hf hcc hxs h
def opIn : Code → Nat → Nat → Option Op
  | .region id ops _, r, i => if id = r then (ops[i]?).map (·.op) else none
  | .seq a b, r, i => match opIn a r i with | some o => some o | none => opIn b r i
  | .cond _ a b, r, i => match opIn a r i with | some o => some o | none => opIn b r i
  | .block _ a, r, i => opIn a r i
  | .loop a, r, i => opIn a r i
  | _, _, _ => none
/-- The operation of function f at a place. -/
def opsOf (P : Program) (T : List Nat) (f r i : Nat) : Op := (((P.funcs[T.getD f 0]?).bind (·.body)).bind fun c => opIn c r i).getD (.move (.const (.bool false)))
/-- Nothing outside. -/
def nul : Outs Unit := ⟨fun _ _ _ _ => True, fun _ _ _ _ _ _ _ => trivial, (), fun _ => trivial⟩

theorem AV.le1_refl (x : AV) : x.le1 x := by
  cases x with
  | sl s t r => simp [AV.le1]
  | imm v => unfold AV.le1; split <;> simp_all
  | _ => simp [AV.le1]
theorem AV.les1_refl : ∀ xs : List AV, AV.les1 xs xs
  | [] => by simp [AV.les1]
  | x :: xs => by simp only [AV.les1]; exact ⟨AV.le1_refl x, AV.les1_refl xs⟩
theorem AV.le2_refl (x : AV) : x.le2 x := by
  cases x with
  | agg cs => simp only [AV.le2]; exact AV.les1_refl cs
  | _ => simp only [AV.le2]; exact AV.le1_refl _
theorem AV.les2_refl : ∀ xs : List AV, AV.les2 xs xs
  | [] => by simp [AV.les2]
  | x :: xs => by simp only [AV.les2]; exact ⟨AV.le2_refl x, AV.les2_refl xs⟩
section
variable {S : Sys σ} {b : Bool} {d : Nat} {st : St σ} {f : Nat} {xs ys : List AV} {r : AV} {K : AV → St σ → Prop}
theorem wCall_P (h : S.C f ys r) (hp : AV.pureBs (xs.map AV.weaks) = true) (hl : AV.les2 (xs.map AV.weaks) ys) (hk : wOpt (r.ret d (st.tgen d + 1)) fun v => K v (st.given d r)) : wCall S b d st f xs K :=
  .inl ⟨hp, ys, r, hl, h, hk⟩
theorem wCall_imm {u : Value} (h : S.C f ys (.imm u)) (hp : AV.pureBs (xs.map AV.weaks) = true) (hl : AV.les2 (xs.map AV.weaks) ys) (hk : K (.imm u) st) : wCall S b d st f xs K :=
  wCall_P h hp hl hk
/-- A result of its own, with room behind it. -/
theorem wCall_own {sz : Nat} {rows : List (List AV)} (h : S.C f ys (.sl sz (.own 0 0) rows)) (hp : AV.pureBs (xs.map AV.weaks) = true) (hl : AV.les2 (xs.map AV.weaks) ys) (hk : K (.sl sz (.own d (st.tgen d + 1)) rows) (st.give d rows.length)) : wCall S b d st f xs K :=
  wCall_P h hp hl hk
theorem wCall_pure (h : S.C f ys r) (hr : r.pureB = true) (hp : AV.pureBs (xs.map AV.weaks) = true) (hl : AV.les2 (xs.map AV.weaks) ys) (hk : K r st) : wCall S b d st f xs K := by
  refine wCall_P h hp hl ?_
  cases r with
  | sl sz tok rows => cases tok <;> simp_all [AV.ret, AV.pureB, wOpt, St.given]
  | _ => simp_all [AV.ret, AV.pureB, wOpt, St.given]
theorem wCall_I {F : AV → St σ → Prop} (h : S.I f xs st F) (hk : ∀ x st', F x st' → st'.env = st.env → K x st') : wCall S true d st f xs K := .inr (.inr ⟨rfl, F, h, hk⟩)
theorem wCallV_imm {g : Nat} {fs caps : List AV} {u : Value} (h : S.CV g ys (.imm u)) (hp : AV.pureBs (fs ++ xs.map AV.weaks ++ caps) = true) (hl : AV.les2 (fs ++ xs.map AV.weaks ++ caps) ys) (hk : K (.imm u) st) : wCallV S b d st g fs caps xs K :=
  .inl ⟨hp, ys, .imm u, hl, h, hk⟩
theorem wCallV_V {g : Nat} {fs caps zs : List AV} (h : S.CV g ys r) (hp : AV.pureBs (fs ++ xs.map AV.weaks ++ caps) = false) (hv : Views st (fs ++ xs ++ caps) zs) (hl : AV.les2 zs ys) (hr : r.flatB = true) (hk : K r st) : wCallV S b d st g fs caps xs K := .inr (.inl ⟨hp, zs, ys, r, hv, hl, h, hr, hk⟩)
theorem wCall_V {zs : List AV} (h : S.C f ys r) (hp : AV.pureBs (xs.map AV.weaks) = false) (hv : Views st xs zs) (hl : AV.les2 zs ys) (hr : r.flatB = true) (hk : K r st) : wCall S b d st f xs K := .inr (.inl ⟨hp, zs, ys, r, hv, hl, h, hr, hk⟩)
end
end Go.Av
