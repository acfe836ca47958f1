/-
  OWN TEXT. Each operation of the program does what 'act' says: equality of structs at the operation, append, calls.
-/
import Derived.Test.YtinmcbkebfgekaaAv12
set_option linter.all false
set_option linter.unusedVariables false
set_option linter.unusedSimpArgs false
namespace Go.Av
variable {σ : Type}

theorem eqCells_length : ∀ {ks : List Nat} {xs ys : List AV} {r : Bool}, eqCells ks xs ys = some r → xs.length = ks.length ∧ ys.length = ks.length
  | [], [], [], r, h => ⟨rfl, rfl⟩
  | [], [], _ :: _, r, h => by simp [eqCells] at h
  | [], _ :: _, ys, r, h => by cases ys <;> simp [eqCells] at h
  | k :: ks, [], ys, r, h => by simp [eqCells] at h
  | k :: ks, x :: xs, [], r, h => by simp [eqCells] at h
  | k :: ks, x :: xs, y :: ys, r, h => by
    simp only [eqCells] at h
    split at h
    · rename_i a b h1 h2
      obtain ⟨e1, e2⟩ := eqCells_length h2
      simp [e1, e2]
    · cases h

section
variable {P : Program} {T : List Nat} {Φ : Orc} {d : Nat} {c : Cx σ} {st st' : St σ} {x : AV} {a : Act} {w : World} {ow : Nat → Own} {τ : Nat → Nat} {ob : Nat → Value → Prop}
  {dst : Option Nat} {type : TypeId} {pos : String} {after : Array Edge} {guard : Option (Nat × Bool)}

theorem sim_seq (h : FR c st a w ow τ ob) {neg : Bool} {t ty : TypeId} {y z : Operand} {fs : Array Field} {ks : List Nat} (hu : P.underlying t = some (.struct fs)) (hk : eqKinds P 40 t = some ks) (hg : P.eqGuardType P.depth t = false)
    (ha : act Φ d st (.seq neg ks y z) = some (x, st')) : Sim P c st' x ⟨dst, .binOp (if neg then .neq else .eql) t y z ty, type, pos, after, guard⟩ a w ob := by
  simp only [act] at ha
  have hy := R_ev h y
  have hz := R_ev h z
  split at ha
  · rename_i us vs e1 e2
    rw [e1] at hy
    rw [e2] at hz
    obtain ⟨r, hr, hx⟩ := Option.map_eq_some_iff.1 ha
    simp only [Prod.mk.injEq] at hx
    obtain ⟨rfl, rfl⟩ := hx
    simp only [R] at hy hz
    obtain ⟨p, hp, hrp⟩ := hy
    obtain ⟨q, hq, hrq⟩ := hz
    obtain ⟨l1, l2⟩ := eqCells_length hr
    have hag : isAggB P t = true := by simp [isAggB, hu]
    have he := (run_eqKinds (P := P) w _ 40).1 t ks hk 10000 (by omega) p.toList q.toList us vs r hrp hrq (by rw [← l1]; exact Rs_length hrp) (by rw [← l2]; exact Rs_length hrq) hr
    rw [hag] at he
    simp only [ofCells, if_true, Array.toArray_toList] at he
    have hgu : ∀ op, (eqGuard op t y z (.agg p) (.agg q)).run P w = .ok () w := fun op => run_eqGuard_agg w op t y z p q hg
    refine sim_same h (v := .bool (if neg then !r else r)) ?_ (by unfold R; exact ⟨rfl, rfl⟩)
    cases neg
    · simp only [Bool.false_eq_true, if_false, execOp, hp, hq, Sem.run_bind, hgu, Result.andThen_ok, run_eql_struct, he, Sem.run_pure]
    · simp only [if_true, execOp, hp, hq, Sem.run_bind, hgu, Result.andThen_ok, run_neq_struct, he, Sem.run_pure]
  · cases ha

theorem Rt_append {k : K} : ∀ {xs ys : List AV} {us vs : List Value}, Rt k xs us → Rt k ys vs → Rt k (xs ++ ys) (us ++ vs)
  | [], ys, us, vs, h, h' => by simp only [Rt] at h; simpa [h] using h'
  | x :: xs, ys, us, vs, h, h' => by
    simp only [Rt] at h
    obtain ⟨v, r, rfl, hx, hr⟩ := h
    simp only [List.cons_append, Rt]
    exact ⟨v, r ++ vs, rfl, hx, Rt_append hr h'⟩
theorem Rt_evs (h : FR c st a w ow τ ob) : ∀ (l : List Operand), Rt (Kof c st w ow τ ob) (l.map st.ev) (l.map a.eval)
  | [] => by simp [Rt]
  | y :: l => by
    simp only [List.map_cons, Rt]
    exact ⟨_, _, rfl, R_ev h y, Rt_evs h l⟩
theorem Rt_evsw (h : FR c st a w ow τ ob) : ∀ (l : List Operand), Rt (Kof c st w ow τ ob) (l.map fun x => (st.ev x).weaks) (l.map a.eval)
  | [] => by simp [Rt]
  | y :: l => by
    simp only [List.map_cons, Rt]
    exact ⟨_, _, rfl, R_weaks (R_ev h y), Rt_evsw h l⟩
theorem exec_call {f : FuncId} {fn : Func} {args : Array Operand} {argTypes : Array TypeId} (hf : P.funcs[f]? = some fn) (hb : fn.body.isSome = true) (hn : (fn.name == "runtime.NumGoroutine") = false) :
    (execOp a.eval (⟨dst, .call { callee := .value (.func f), args := args, argTypes := argTypes }, type, pos, after, guard⟩ : Oper)).run P w = .ok (.enter f (args.toList.map a.eval).toArray) w := by
  have e : args.map a.eval = (args.toList.map a.eval).toArray := by apply Array.ext'; simp
  have hn' : ¬ fn.name = "runtime.NumGoroutine" := by simpa using hn
  have hb' : ¬ fn.body = none := by intro e; simp [e] at hb
  simp [execOp, resolve, Act.eval, Deferred.ofValue, invoke, callFunc, run_program, hf, hn', hb', e]
theorem exec_callv {y : Operand} {g : FuncId} {fn : Func} {us vs : Array Value} {args : Array Operand} {argTypes : Array TypeId} (hv : a.eval y = .func (.func g) us vs) (hf : P.funcs[g]? = some fn) (hb : fn.body.isSome = true) (hn : (fn.name == "runtime.NumGoroutine") = false) :
    (execOp a.eval (⟨dst, .call { callee := .value y, args := args, argTypes := argTypes }, type, pos, after, guard⟩ : Oper)).run P w = .ok (.enter g (us.toList ++ args.toList.map a.eval ++ vs.toList).toArray) w := by
  have e : us ++ args.map a.eval ++ vs = (us.toList ++ args.toList.map a.eval ++ vs.toList).toArray := by apply Array.ext'; simp
  have hn' : ¬ fn.name = "runtime.NumGoroutine" := by simpa using hn
  have hb' : ¬ fn.body = none := by intro e; simp [e] at hb
  simp only [execOp, resolve, hv, Deferred.ofValue, Sem.run_bind, Sem.run_pure, Result.andThen_ok, invoke, callFunc, run_program, hf, hn, hb', e]
  simp [hb']

theorem sim_call (hΦ : Specs σ P T Φ) (h : FR c st a w ow τ ob) {f : FuncId} {fn : Func} {args : Array Operand} {argTypes : Array TypeId} {j : Nat} (hf : P.funcs[f]? = some fn) (hb : fn.body.isSome = true) (hn : (fn.name == "runtime.NumGoroutine") = false) (hj : T[j]? = some f)
    (ha : act Φ d st (.call j args.toList) = some (x, st')) : Sim P c st' x ⟨dst, .call { callee := .value (.func f), args := args, argTypes := argTypes }, type, pos, after, guard⟩ a w ob := by
  simp only [act] at ha
  split at ha
  · rename_i hp
    split at ha
    · rename_i r hr
      obtain ⟨r', hret, hx⟩ := Option.map_eq_some_iff.1 ha
      simp only [Prod.mk.injEq] at hx
      obtain ⟨rfl, rfl⟩ := hx
      have hcall := h.call hp (Rt_evsw h args.toList) (hΦ.f1 _ _ _ _ hr hj) d hret
      intro K Q hK
      unfold Oper.wp
      rw [exec_call hf hb hn, Oper.upon_enter]
      refine hcall.mono ?_
      rintro e w' ⟨v, o', τ', rfl, hF, hR, _⟩
      exact hK v w' o' τ' hF hR
    · cases ha
  · obtain ⟨r, hr, hx⟩ := Option.map_eq_some_iff.1 ha
    simp only [Prod.mk.injEq] at hx
    obtain ⟨rfl, rfl⟩ := hx
    obtain ⟨hflat, ys, hys, hpc⟩ := hΦ.v1 _ _ _ _ _ _ hr hj
    have hcall := h.callV (hys st rfl rfl) (Rt_evs h args.toList) hpc d hflat
    intro K Q hK
    unfold Oper.wp
    rw [exec_call hf hb hn, Oper.upon_enter]
    refine hcall.mono ?_
    rintro e w' ⟨v, o', τ', rfl, hF, hR, _⟩
    exact hK v w' o' τ' hF hR

theorem sim_mkf (h : FR c st a w ow τ ob) {f : FuncId} {first caps : Array Operand} (ha : act Φ d st (.mkf f first.toList caps.toList) = some (x, st')) : Sim P c st' x ⟨dst, .makeFunc (.func f) first caps, type, pos, after, guard⟩ a w ob := by
  simp only [act, Option.some.injEq, Prod.mk.injEq] at ha
  obtain ⟨rfl, rfl⟩ := ha
  refine sim_same h (v := .func (.func f) (first.map a.eval) (caps.map a.eval)) ?_ ?_
  · simp [execOp, Instr.makeFunc]
  · simp only [R]
    exact ⟨_, _, rfl, by simpa using Rt_evs h first.toList, by simpa using Rt_evs h caps.toList⟩
theorem sim_callv (hΦ : Specs σ P T Φ) (h : FR c st a w ow τ ob) {y : Operand} {args : Array Operand} {argTypes : Array TypeId}
    (ha : act Φ d st (.callv y args.toList) = some (x, st')) : Sim P c st' x ⟨dst, .call { callee := .value y, args := args, argTypes := argTypes }, type, pos, after, guard⟩ a w ob := by
  simp only [act] at ha
  split at ha
  · rename_i g first caps ey
    have hy := R_ev h y
    rw [ey] at hy
    simp only [R] at hy
    obtain ⟨us, vs, hv, hfirst, hcaps⟩ := hy
    split at ha
    · rename_i hp
      split at ha
      · rename_i r hr
        obtain ⟨r', hret, hx⟩ := Option.map_eq_some_iff.1 ha
        simp only [Prod.mk.injEq] at hx
        obtain ⟨rfl, rfl⟩ := hx
        obtain ⟨hpc, fn, hf, hb, hn⟩ := hΦ.f2 _ _ _ hr
        have hcall := h.call hp (Rt_append (Rt_append hfirst (Rt_evsw h args.toList)) hcaps) hpc d hret
        intro K Q hK
        unfold Oper.wp
        rw [exec_callv hv hf hb hn, Oper.upon_enter]
        refine hcall.mono ?_
        rintro e w' ⟨v, o', τ', rfl, hF, hR, _⟩
        exact hK v w' o' τ' hF hR
      · cases ha
    · obtain ⟨r, hr, hx⟩ := Option.map_eq_some_iff.1 ha
      simp only [Prod.mk.injEq] at hx
      obtain ⟨rfl, rfl⟩ := hx
      obtain ⟨⟨hflat, ys, hys, hpc⟩, fn, hf, hb, hn⟩ := hΦ.v2 _ _ _ _ _ hr
      have hcall := h.callV (hys st rfl rfl) (Rt_append (Rt_append hfirst (Rt_evs h args.toList)) hcaps) hpc d hflat
      intro K Q hK
      unfold Oper.wp
      rw [exec_callv hv hf hb hn, Oper.upon_enter]
      refine hcall.mono ?_
      rintro e w' ⟨v, o', τ', rfl, hF, hR, _⟩
      exact hK v w' o' τ' hF hR
  · cases ha

theorem FR.give' (h : FR c st a w ow τ ob) (n : Nat) (d : Nat) {st1 : St σ} (e1 : st1.env = st.env) (e2 : st1.gen = st.gen) (e3 : st1.var = st.var) (e4 : st1.x = st.x) (h6 : ∀ t, st.tgen t ≤ st1.tgen t) (h7 : ∀ t n, st1.tgen t = st.tgen t → st1.top t = some n → st.top t = some n) :
    FR c st1 a w ow τ ob ∧ KLe (Kof c st w ow τ ob) (Kof c st1 w ow τ ob) := by
  have hk : KLe (Kof c st w ow τ ob) (Kof c st1 w ow τ ob) :=
    KLe_of (fun _ _ => rfl) (fun _ _ h => ⟨rfl, h⟩) (fun _ t _ h h' => ⟨rfl, .inr ⟨t, h, h'⟩⟩) (fun d => by rw [e2]; exact Nat.le_refl _) (fun _ _ _ _ h => ⟨h, fun _ hq => hq⟩) h6 h7 (fun _ _ _ cur T _ _ _ h hc => ⟨h, rfl, cur, T, hc, rfl⟩) (fun _ _ h => h)
  refine ⟨h.turn e1 hk (Keeps.refl _ _ _) h.lt ?_ h.uniq (by rw [e4]; exact h.ext), hk⟩
  intro d' b hb hv
  obtain ⟨obj, hc, hr⟩ := h.vars d' b hb hv
  exact ⟨obj, hc, by rw [e3]; exact VR_mono hk hr⟩

/-- The three ways of an append. -/
theorem run_app_none {t e ty : TypeId} {i : TypeInfo} (ht : P.underlying t = some (.slice e)) (hi : P.info? e = some i) {A A2 : Option Addr} {n z z2 : Nat} (hz : n ≤ z) (w : World) :
    (Builtin.append_ #[t, t] ty #[.slice A n z, .slice A2 0 z2]).run P w = .ok (.slice A n z) w := by
  cases A <;> cases A2 <;> simp [Builtin.append_, run_underlying ht, sizeOf, typeInfo, hi, Builtin.lenOf, Builtin.firstCells, loadCells, loadCellsFrom, storeCells, hz]
theorem run_app_room {t e ty : TypeId} {i : TypeInfo} (ht : P.underlying t = some (.slice e)) (hi : P.info? e = some i) {g n z m z2 : Nat} {ad : Addr} {cur : Array Value} {T : TypeId} (hg : w.heap[g]? = some (.cells cur T (0, 0))) {news : List Value} (hl : news.length = m * i.size)
    (hnews : ∀ j u, news[j]? = some u → w.cell? (ad.add j) = some u) (h1 : ∀ u ∈ news, u.oneCell' = true) (hroom : n + m ≤ z) (hfit : n * i.size + news.length ≤ cur.size) :
    (Builtin.append_ #[t, t] ty #[.slice (some ⟨g, 0, none⟩) n z, .slice (some ad) m z2]).run P w = .ok (.slice (some ⟨g, 0, none⟩) (n + m) z) (w.setRow g (splice cur.toList (n * i.size) news).toArray) := by
  have hf := run_firstCells_some (P := P) w i.size m ad m z2 news hl hnews
  have hst := run_storeCells_at P g (n * i.size) T news 0 cur w hg (by simpa using hfit) h1
  simp only [Nat.add_zero] at hst
  simp [Builtin.append_, run_underlying ht, sizeOf, typeInfo, hi, Builtin.lenOf, hroom, hf, Addr.add_lit, hst, splice]
theorem run_app_grow {t e ty : TypeId} {i : TypeInfo} {zv : Value} (ht : P.underlying t = some (.slice e)) (hi : P.info? e = some i) (hzv : i.zero = some zv) {A : Option Addr} {n z m z2 : Nat} {ad : Addr} {olds news : List Value} (hlo : olds.length = n * i.size)
    (hA : (A = none ∧ n = 0 ∧ z = 0) ∨ ∃ b : Addr, A = some b ∧ ∀ j u, olds[j]? = some u → w.cell? (b.add j) = some u) (hl : news.length = m * i.size)
    (hnews : ∀ j u, news[j]? = some u → w.cell? (ad.add j) = some u) (hm : 0 < m) (hg : z < n + m) (h63 : n + m ≤ 9223372036854775807) (hb : (n + m) * i.bytes ≤ 140737488355328) :
    (Builtin.append_ #[t, t] ty #[.slice A n z, .slice (some ad) m z2]).run P w = .ok (.slice (some ⟨w.heap.size, 0, none⟩) (n + m) (grownCap w (n + m) z e))
      (w.drew.alloc (.cells (olds.toArray ++ news.toArray ++ Builtin.zeroCells zv.cells (grownCap w (n + m) z e - (n + m))) e)) := by
  rcases hA with ⟨rfl, rfl, rfl⟩ | ⟨b, rfl, holds⟩
  · have ho : olds = [] := List.eq_nil_of_length_eq_zero (by simpa using hlo)
    subst ho
    have := run_append_nil (P := P) w t ty e i zv ht hi hzv ad m z2 news hl hnews hm (by omega) (by rw [Nat.zero_add] at hb; omega)
    simpa using this
  · exact run_append_grow (P := P) w t ty e i zv ht hi hzv b n z olds hlo holds ad m z2 news hl hnews hg (by omega) (growslice_fits (by omega) hb)
end
end Go.Av
