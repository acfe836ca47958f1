/-
  OWN TEXT. Each operation of the program does what 'act' says: the second part.
-/
import Derived.Test.YtinmcbkebfgekaaAv8
set_option linter.all false
set_option linter.unusedVariables false
set_option linter.unusedSimpArgs false
namespace Go.Av
variable {σ : Type}
section
variable {P : Program} {T : List Nat} {Φ : Orc} {d : Nat} {c : Cx σ} {st st' : St σ} {x : AV} {a : Act} {w : World} {ow : Nat → Own} {τ : Nat → Nat} {ob : Nat → Value → Prop}
  {dst : Option Nat} {type : TypeId} {pos : String} {after : Array Edge} {guard : Option (Nat × Bool)}

theorem vslOf_eq {y : AV} {p : Nat × Nat × Nat × Nat × Nat × Option Nat} (h : y.vslOf = some p) : y = .vsl p.1 p.2.1 p.2.2.1 p.2.2.2.1 p.2.2.2.2.1 p.2.2.2.2.2 := by
  unfold AV.vslOf at h
  split at h
  · injection h with h; subst h; rfl
  · cases h
theorem vb_le {d b z z' : Nat} (h : (Kof c st w ow τ ob).vb d b (some z)) (hz : z' ≤ z) : (Kof c st w ow τ ob).vb d b (some z') := by
  obtain ⟨h1, h2, h3⟩ := h
  refine ⟨h1, h2, ?_⟩
  revert h3
  cases w.heap[b]? with
  | none => exact fun h => h
  | some obj => cases obj with
    | cells cs T fr => exact fun h => ⟨h.1, Nat.le_trans hz h.2⟩
    | _ => exact fun h => h
theorem sim_iaddr (h : FR c st a w ow τ ob) {t e : TypeId} {y z : Operand} {ie : TypeInfo} (ht : P.underlying t = some (.slice e)) (hi : P.info? e = some ie) (ha : act Φ d st (.iaddr ie.size y z) = some (x, st')) :
    Sim P c st' x ⟨dst, .indexAddr t y z, type, pos, after, guard⟩ a w ob := by
  simp only [act] at ha
  split at ha
  · rename_i d' g sz' off m cp n e1 e2
    obtain ⟨q, hz⟩ := R_asInt (R_ev h z) e2
    have hy := R_ev h y
    have e3 := vslOf_eq e1
    rw [e3] at hy
    split at ha
    · rename_i hn
      obtain ⟨_, hg, h0, hl⟩ := hn
      simp only [Option.some.injEq, Prod.mk.injEq] at ha
      obtain ⟨rfl, rfl⟩ := ha
      simp only [R] at hy
      obtain ⟨hpg, A, z', hv, hmz, _, _, hb⟩ := hy
      obtain ⟨b, o, hb', rfl, ho⟩ := hb hg
      have := ho (by omega)
      subst this
      refine sim_same h (v := .pointer (some ⟨b, o + n.toNat * ie.size, none⟩)) ?_ ?_
      · simp [execOp, Instr.indexAt, hz, run_asIntOf', run_underlying' ht, hv, h0, hl, run_sizeOf' hi, addr_add]
      · simp only [R]
        exact ⟨hpg, rfl, fun _ => ⟨b, vb_le hb' (Nat.zero_le _), rfl⟩⟩
    · cases ha
  · rename_i tok rows n _ e1 e2
    have hy := R_asSl (R_ev h y) e1
    obtain ⟨q, hz⟩ := R_asInt (R_ev h z) e2
    split at ha
    · rename_i hn
      obtain ⟨h0, hl⟩ := hn
      simp only [Option.some.injEq, Prod.mk.injEq] at ha
      obtain ⟨rfl, rfl⟩ := ha
      simp only [R] at hy
      obtain ⟨A, z', hv, hlen, _, hrows, _⟩ := hy
      have hne : rows ≠ [] := by rintro rfl; simp at hl; omega
      obtain ⟨b, o, rfl, hr⟩ := hrows hne
      have hlt : n.toNat < rows.length := by omega
      obtain ⟨hrow, hsz⟩ := rowsAt_get hr n.toNat (rows.getD n.toNat []) (by simp [List.getD_eq_getElem?_getD, hlt])
      refine sim_same h (v := .pointer (some ⟨b, o + n.toNat * ie.size, none⟩)) ?_ ?_
      · simp [execOp, Instr.indexAt, hz, run_asIntOf', run_underlying' ht, hv, h0, hl, run_sizeOf' hi, addr_add]
      · simp only [R]
        exact ⟨b, _, rfl, hrow⟩
    · cases ha
  · cases ha

theorem sim_aaddr (h : FR c st a w ow τ ob) {t e : TypeId} {y z : Operand} {ie : TypeInfo} {len : Nat} (ht : P.underlying t = some (.array len e)) (hi : P.info? e = some ie) (ha : act Φ d st (.aaddr len ie.size y z) = some (x, st')) :
    Sim P c st' x ⟨dst, .indexAddr t y z, type, pos, after, guard⟩ a w ob := by
  simp only [act] at ha
  have hy := R_ev h y
  split at ha
  · rename_i d' g q n e1 e2
    rw [e1] at hy
    obtain ⟨k, hz⟩ := R_asInt (R_ev h z) e2
    split at ha
    · rename_i hn
      obtain ⟨hg, h0, hl⟩ := hn
      simp only [Option.some.injEq, Prod.mk.injEq] at ha
      obtain ⟨rfl, rfl⟩ := ha
      simp only [R] at hy
      obtain ⟨hpg, h1, hb⟩ := hy
      obtain ⟨b, hb', hv⟩ := hb hg
      refine sim_same h (v := .pointer (some ⟨b, q + n.toNat * ie.size, none⟩)) ?_ ?_
      · simp [execOp, Instr.indexAt, hz, run_asIntOf', run_underlying' ht, hv, Instr.sureAddr, h0, hl, run_sizeOf' hi, addr_add]
      · simp only [R]
        exact ⟨hpg, rfl, fun _ => ⟨b, hb', rfl⟩⟩
    · cases ha
  · cases ha

theorem sim_sidx (h : FR c st a w ow τ ob) {t : TypeId} {y z : Operand} (ht : P.underlying t = some .string) (ha : act Φ d st (.sidx y z) = some (x, st')) :
    Sim P c st' x ⟨dst, .index t y z, type, pos, after, guard⟩ a w ob := by
  simp only [act] at ha
  have hy := R_ev h y
  split at ha
  · rename_i s n e1 e2
    rw [e1] at hy
    simp only [R] at hy
    obtain ⟨k, hz⟩ := R_asInt (R_ev h z) e2
    split at ha
    · rename_i hn
      obtain ⟨h0, hl⟩ := hn
      simp only [Option.some.injEq, Prod.mk.injEq] at ha
      obtain ⟨rfl, rfl⟩ := ha
      refine sim_same h (v := .int .u8 (s.data.toList.getD n.toNat 0).toNat) ?_ (by unfold R; exact ⟨rfl, rfl⟩)
      have hg : s[n.toNat]? = some (s.data.toList.getD n.toNat 0) := by
        have hl' : n.toNat < s.data.size := hl
        rw [getElem?_pos s n.toNat hl]
        simp only [List.getD_eq_getElem?_getD, Array.getElem?_toList, Array.getElem?_eq_getElem hl', Option.getD_some]
        rfl
      simp [execOp, Instr.index, hz, run_asIntOf', run_underlying' ht, hy.1, h0, hg]
    · cases ha
  · cases ha

theorem sim_field (h : FR c st a w ow τ ob) {t : TypeId} {y : Operand} {f : Nat} {fs : Array Field} {fd : Field} {i : TypeInfo} {ds : TypeDesc} (hs : P.underlying t = some (.struct fs)) (hf : fs[f]? = some fd) (hi : P.info? fd.type = some i) (hu : P.underlying fd.type = some ds)
    (h1 : (isAggB P fd.type || i.size == 1) = true) (ha : act Φ d st (.field (isAggB P fd.type) fd.offset i.size y) = some (x, st')) : Sim P c st' x ⟨dst, .field t y f, type, pos, after, guard⟩ a w ob := by
  simp only [act] at ha
  have hy := R_ev h y
  split at ha
  · rename_i cs e
    rw [e] at hy
    split at ha
    · rename_i hl
      obtain ⟨x', hm, hx⟩ := Option.map_eq_some_iff.1 ha
      simp only [Prod.mk.injEq] at hx
      obtain ⟨rfl, rfl⟩ := hx
      simp only [R] at hy
      obtain ⟨arr, hv, hr⟩ := hy
      have hlen := Rs_length hr
      refine sim_same h (v := ofCells (isAggB P fd.type) ((arr.toList.drop fd.offset).take i.size)) ?_ (R_mk hm (Rs_take _ (Rs_drop _ hr)))
      have := run_part' (w := w) hi hu h1 (cs := arr) (off := fd.offset) (by simp at hlen; omega)
      simp [execOp, Instr.field, run_underlying' hs, hf, hv, asAgg, this]
    · cases ha
  · cases ha

theorem sim_aidx (h : FR c st a w ow τ ob) {t e : TypeId} {y z : Operand} {len : Nat} {i : TypeInfo} {ds : TypeDesc} (ht : P.underlying t = some (.array len e)) (hi : P.info? e = some i) (hu : P.underlying e = some ds)
    (h1 : (isAggB P e || i.size == 1) = true) (ha : act Φ d st (.aidx (isAggB P e) len i.size y z) = some (x, st')) : Sim P c st' x ⟨dst, .index t y z, type, pos, after, guard⟩ a w ob := by
  simp only [act] at ha
  have hy := R_ev h y
  split at ha
  · rename_i cs n e1 e2
    rw [e1] at hy
    obtain ⟨k, hz⟩ := R_asInt (R_ev h z) e2
    split at ha
    · rename_i hn
      obtain ⟨h0, hl, hs⟩ := hn
      obtain ⟨x', hm, hx⟩ := Option.map_eq_some_iff.1 ha
      simp only [Prod.mk.injEq] at hx
      obtain ⟨rfl, rfl⟩ := hx
      simp only [R] at hy
      obtain ⟨arr, hv, hr⟩ := hy
      have hlen := Rs_length hr
      refine sim_same h (v := ofCells (isAggB P e) ((arr.toList.drop (n.toNat * i.size)).take i.size)) ?_ (R_mk hm (Rs_take _ (Rs_drop _ hr)))
      have := run_part' (w := w) hi hu h1 (cs := arr) (off := n.toNat * i.size) (by simp at hlen; omega)
      simp [execOp, Instr.index, hz, run_asIntOf', run_underlying' ht, hv, h0, hl, run_sizeOf' hi, this]
    · cases ha
  · cases ha

theorem run_binV {op : BinOp} {u v r : Value} (hr : binV op u v = some r) (t : TypeId) (w : World) : (binOp op t u v).run P w = .ok r w ∧ r.oneCell' = true := by
  unfold binV at hr
  split at hr
  · rename_i k m k' n
    split at hr
    · rename_i hk
      subst hk
      cases op <;> simp only [Option.some.injEq, reduceCtorEq] at hr <;> first
        | (subst hr; exact ⟨by simp [binOp, Op.intArith, Op.intCmp], rfl⟩)
        | (split at hr
           · cases hr
           · rename_i hn
             injection hr with hr; subst hr
             exact ⟨by simp [binOp, Op.intDiv, hn], rfl⟩)
        | (split at hr
           · rename_i hn
             injection hr with hr; subst hr; subst hn
             refine ⟨?_, rfl⟩
             have e1 : min (1 : Int).toNat k.bits = 1 := by cases k <;> rfl
             simp only [binOp, Op.shift, e1]
             rfl
           · cases hr)
    · cases hr
  · rename_i s1 s2
    cases op <;> simp only [Option.some.injEq, reduceCtorEq] at hr <;> first
      | (subst hr; exact ⟨by simp [binOp, Op.stringOp], rfl⟩)
      | (split at hr
         · rename_i hl
           injection hr with hr; subst hr
           refine ⟨?_, rfl⟩
           have : ¬ (((s1.size + s2.size : Nat) : Int) > IntKind.i64.max) := by
             have : IntKind.i64.max = 9223372036854775807 := by decide
             omega
           simp only [binOp, Op.stringOp, if_neg this]
           rfl
         · cases hr)
  · cases hr
theorem run_eqGuard_imm {op : BinOp} {t : TypeId} {y z : Operand} {u v : Value} (h : ¬ (u = .nilIface ∧ v = .nilIface)) (h2 : ¬ ∃ p q, u = .agg p ∧ v = .agg q) (w : World) : (eqGuard op t y z u v).run P w = .ok () w := by
  cases op <;> first
    | rfl
    | (unfold eqGuard
       simp only [Bool.not_true, Bool.false_eq_true, if_false]
       cases u <;> cases v <;> first
         | rfl
         | exact absurd ⟨rfl, rfl⟩ h
         | exact absurd ⟨_, _, rfl, rfl⟩ h2)

theorem sim_bin (h : FR c st a w ow τ ob) {op : BinOp} {t ty : TypeId} {y z : Operand} (ha : act Φ d st (.bin op y z) = some (x, st')) :
    Sim P c st' x ⟨dst, .binOp op t y z ty, type, pos, after, guard⟩ a w ob := by
  simp only [act] at ha
  have hy := R_ev h y
  have hz := R_ev h z
  split at ha
  · rename_i u v e1 e2
    rw [e1] at hy
    rw [e2] at hz
    simp only [R] at hy hz
    obtain ⟨r, hr, hx⟩ := Option.map_eq_some_iff.1 ha
    simp only [Prod.mk.injEq] at hx
    obtain ⟨rfl, rfl⟩ := hx
    obtain ⟨hrun, h1⟩ := run_binV (P := P) hr t w
    refine sim_same h (v := r) ?_ (by unfold R; exact ⟨rfl, h1⟩)
    have hg := run_eqGuard_imm (P := P) (op := op) (t := t) (y := y) (z := z) (u := u) (v := v) (by rintro ⟨rfl, rfl⟩; simp [binV] at hr) (by rintro ⟨p, q, rfl, rfl⟩; simp [binV] at hr) w
    simp [execOp, hy.1, hz.1, hg, hrun]
  · cases ha

theorem run_equalIn_bool {t : TypeId} (ht : P.underlying t = some .bool) (n : Nat) (u v : Bool) (w : World) : (Op.equalIn (n + 1) t (.bool u) (.bool v)).run P w = .ok (u == v) w := by
  simp [Op.equalIn, run_underlying' ht]
theorem run_equal_bool {t : TypeId} (ht : P.underlying t = some .bool) (u v : Bool) (w : World) : (Op.equal t (.bool u) (.bool v)).run P w = .ok (u == v) w := run_equalIn_bool ht 9999 u v w
theorem run_binOp_eql_bool {t : TypeId} (ht : P.underlying t = some .bool) (u v : Bool) (w : World) : (binOp .eql t (.bool u) (.bool v)).run P w = .ok (.bool (u == v)) w := by
  show (do pure (Value.bool (← Op.equal t (.bool u) (.bool v))) : Sem Value).run P w = _
  rw [Sem.run_bind, run_equal_bool ht]
  rfl
theorem run_binOp_neq_bool {t : TypeId} (ht : P.underlying t = some .bool) (u v : Bool) (w : World) : (binOp .neq t (.bool u) (.bool v)).run P w = .ok (.bool (!(u == v))) w := by
  show (do pure (Value.bool (!(← Op.equal t (.bool u) (.bool v)))) : Sem Value).run P w = _
  rw [Sem.run_bind, run_equal_bool ht]
  rfl

theorem sim_beq (h : FR c st a w ow τ ob) {neg : Bool} {t ty : TypeId} {y z : Operand} (ht : P.underlying t = some .bool) (ha : act Φ d st (.beq neg y z) = some (x, st')) :
    Sim P c st' x ⟨dst, .binOp (if neg then .neq else .eql) t y z ty, type, pos, after, guard⟩ a w ob := by
  simp only [act] at ha
  have hy := R_ev h y
  have hz := R_ev h z
  split at ha
  · rename_i u v e1 e2
    rw [e1] at hy
    rw [e2] at hz
    simp only [R] at hy hz
    simp only [Option.some.injEq, Prod.mk.injEq] at ha
    obtain ⟨rfl, rfl⟩ := ha
    refine sim_same h (v := .bool (if neg then !(u == v) else u == v)) ?_ (by unfold R; exact ⟨rfl, rfl⟩)
    have hg := run_eqGuard_imm (P := P) (op := if neg then .neq else .eql) (t := t) (y := y) (z := z) (u := .bool u) (v := .bool v) (by rintro ⟨h, _⟩; cases h) (by rintro ⟨p, q, h, _⟩; cases h) w
    cases neg
    · simp only [Bool.false_eq_true, if_false] at hg ⊢
      simp only [execOp, hy.1, hz.1, Sem.run_bind, hg, Result.andThen_ok, run_binOp_eql_bool ht, Sem.run_pure]
    · simp only [if_true] at hg ⊢
      simp only [execOp, hy.1, hz.1, Sem.run_bind, hg, Result.andThen_ok, run_binOp_neq_bool ht, Sem.run_pure]
  · cases ha

theorem sim_un (h : FR c st a w ow τ ob) {op : UnOp} {t : TypeId} {y : Operand} (ha : act Φ d st (.un op y) = some (x, st')) :
    Sim P c st' x ⟨dst, .unOp op t y, type, pos, after, guard⟩ a w ob := by
  simp only [act] at ha
  have hy := R_ev h y
  split at ha
  · rename_i u e1
    rw [e1] at hy
    simp only [R] at hy
    obtain ⟨r, hr, hx⟩ := Option.map_eq_some_iff.1 ha
    simp only [Prod.mk.injEq] at hx
    obtain ⟨rfl, rfl⟩ := hx
    unfold unV at hr
    split at hr
    · rename_i b
      cases op <;> simp only [Option.some.injEq, reduceCtorEq] at hr
      subst hr
      exact sim_same h (v := .bool (!b)) (by simp only [execOp, hy.1, Op.unary, Sem.run_bind, Sem.run_pure, Result.andThen_ok]) (by unfold R; exact ⟨rfl, rfl⟩)
    · rename_i k n
      cases op <;> simp only [Option.some.injEq, reduceCtorEq] at hr
      subst hr
      exact sim_same h (v := .int k (k.wrap (0 - n))) (by simp only [execOp, hy.1, Op.unary, Op.intArith, Sem.run_bind, Sem.run_pure, Result.andThen_ok]) (by unfold R; exact ⟨rfl, rfl⟩)
    · cases hr
  · cases ha

theorem sim_convi (h : FR c st a w ow τ ob) {s t : TypeId} {q k : IntKind} {y : Operand} (hs : P.underlying s = some (.int q)) (ht : P.underlying t = some (.int k)) (ha : act Φ d st (.convi k y) = some (x, st')) :
    Sim P c st' x ⟨dst, .convert s t y, type, pos, after, guard⟩ a w ob := by
  simp only [act] at ha
  split at ha
  · rename_i n e
    obtain ⟨j, hy⟩ := R_asInt (R_ev h y) e
    simp only [Option.some.injEq, Prod.mk.injEq] at ha
    obtain ⟨rfl, rfl⟩ := ha
    exact sim_same h (v := .int k (k.wrap n)) (by simp [execOp, convert, run_underlying' hs, run_underlying' ht, hy, Conv.intToInt]) (by unfold R; exact ⟨rfl, rfl⟩)
  · cases ha

theorem sim_convs (h : FR c st a w ow τ ob) {s t : TypeId} {y : Operand} (hs : P.underlying s = some .string) (ht : P.underlying t = some .string) (ha : act Φ d st (.convs y) = some (x, st')) :
    Sim P c st' x ⟨dst, .convert s t y, type, pos, after, guard⟩ a w ob := by
  simp only [act] at ha
  have hy := R_ev h y
  split at ha
  · rename_i n e
    rw [e] at hy
    simp only [R] at hy
    simp only [Option.some.injEq, Prod.mk.injEq] at ha
    obtain ⟨rfl, rfl⟩ := ha
    exact sim_same h (v := .string n) (by simp [execOp, convert, run_underlying' hs, run_underlying' ht, hy.1]) (by unfold R; exact ⟨rfl, rfl⟩)
  · cases ha

theorem sim_ext (h : FR c st a w ow τ ob) {i : Nat} {y : Operand} (ha : act Φ d st (.ext i y) = some (x, st')) :
    Sim P c st' x ⟨dst, .extract y i, type, pos, after, guard⟩ a w ob := by
  simp only [act] at ha
  have hy := R_ev h y
  split at ha
  · rename_i vs e
    rw [e] at hy
    obtain ⟨r, hr, hx⟩ := Option.map_eq_some_iff.1 ha
    simp only [Prod.mk.injEq] at hx
    obtain ⟨rfl, rfl⟩ := hx
    simp only [R] at hy
    obtain ⟨arr, hv, hrt⟩ := hy
    have key : ∀ (xs : List AV) (us : List Value), Rt (Kof c st w ow τ ob) xs us → ∀ (i : Nat) (r : AV), xs[i]? = some r → ∃ v, us[i]? = some v ∧ R (Kof c st w ow τ ob) r v := by
      intro xs
      induction xs with
      | nil => intro us _ i r hi; simp at hi
      | cons y ys ih =>
        intro us hus i r hi
        simp only [Rt] at hus
        obtain ⟨v, rr, rfl, hv, hrr⟩ := hus
        cases i with
        | zero => simp at hi; subst hi; exact ⟨v, by simp, hv⟩
        | succ i => simpa using ih rr hrr i r (by simpa using hi)
    obtain ⟨v, hv', hR⟩ := key _ _ hrt i r hr
    refine sim_same h (v := v) ?_ hR
    have : arr[i]? = some v := by simpa using hv'
    simp [execOp, hv, Instr.extract, this]
  · cases ha

theorem sim_nilc (h : FR c st a w ow τ ob) {y : Operand} (ha : act Φ d st (.nilc y) = some (x, st')) :
    Sim P c st' x ⟨dst, .nilCheck y, type, pos, after, guard⟩ a w ob := by
  simp only [act] at ha
  have hy := R_ev h y
  split at ha
  · rename_i d' g q e
    rw [e] at hy
    split at ha
    · rename_i hg
      simp only [Option.some.injEq, Prod.mk.injEq] at ha
      obtain ⟨rfl, rfl⟩ := ha
      have hy' := hy
      simp only [R] at hy'
      obtain ⟨hpg, h1, hb⟩ := hy'
      obtain ⟨b, hb', hv⟩ := hb hg
      exact sim_same h (v := a.eval y) (by simp [execOp, hv]) hy
    · cases ha
  · rename_i cs q e
    rw [e] at hy
    simp only [Option.some.injEq, Prod.mk.injEq] at ha
    obtain ⟨rfl, rfl⟩ := ha
    have hy' := hy
    simp only [R] at hy'
    obtain ⟨b, o, hv, _⟩ := hy'
    exact sim_same h (v := a.eval y) (by simp [execOp, hv]) hy
  · cases ha

theorem sim_slen (h : FR c st a w ow τ ob) {t : TypeId} {y : Operand} {args : Array Operand} {argTypes : Array TypeId} (hargs : args.toList = [y]) (htys : argTypes.toList = [t]) (ht : P.underlying t = some .string)
    (ha : act Φ d st (.slen y) = some (x, st')) : Sim P c st' x ⟨dst, .call { callee := .builtin .len, args := args, argTypes := argTypes }, type, pos, after, guard⟩ a w ob := by
  have e1 : args = #[y] := by rw [← Array.toArray_toList (xs := args), hargs]
  have e2 : argTypes = #[t] := by rw [← Array.toArray_toList (xs := argTypes), htys]
  subst e1
  subst e2
  simp only [act] at ha
  have hy := R_ev h y
  split at ha
  · rename_i s e
    rw [e] at hy
    simp only [R] at hy
    simp only [Option.some.injEq, Prod.mk.injEq] at ha
    obtain ⟨rfl, rfl⟩ := ha
    exact sim_same h (v := .int .i64 s.size) (by simp [execOp, resolve, invoke, builtin, Builtin.len_, run_underlying' ht, hy.1, goInt]) (by unfold R; exact ⟨rfl, rfl⟩)
  · cases ha

theorem sim_len (h : FR c st a w ow τ ob) {t e : TypeId} {y : Operand} {args : Array Operand} {argTypes : Array TypeId} (hargs : args.toList = [y]) (htys : argTypes.toList = [t]) (ht : P.underlying t = some (.slice e))
    (ha : act Φ d st (.len y) = some (x, st')) : Sim P c st' x ⟨dst, .call { callee := .builtin .len, args := args, argTypes := argTypes }, type, pos, after, guard⟩ a w ob := by
  have e1 : args = #[y] := by rw [← Array.toArray_toList (xs := args), hargs]
  have e2 : argTypes = #[t] := by rw [← Array.toArray_toList (xs := argTypes), htys]
  subst e1
  subst e2
  simp only [act] at ha
  have hy := R_ev h y
  split at ha
  · rename_i e
    rw [e] at hy
    simp only [R] at hy
    simp only [Option.some.injEq, Prod.mk.injEq] at ha
    obtain ⟨rfl, rfl⟩ := ha
    exact sim_same h (v := .int .i64 0) (by simp [execOp, resolve, invoke, builtin, Builtin.len_, run_underlying' ht, hy.1, goInt]) (by unfold R; exact ⟨rfl, rfl⟩)
  · rename_i sz tok rows e
    rw [e] at hy
    simp only [R] at hy
    obtain ⟨A, z, hv, _⟩ := hy
    simp only [Option.some.injEq, Prod.mk.injEq] at ha
    obtain ⟨rfl, rfl⟩ := ha
    exact sim_same h (v := .int .i64 rows.length) (by simp [execOp, resolve, invoke, builtin, Builtin.len_, run_underlying' ht, hv, goInt]) (by unfold R; exact ⟨rfl, rfl⟩)
  · rename_i d' g sz off n cp e
    rw [e] at hy
    simp only [R] at hy
    obtain ⟨_, A, z, hv, _⟩ := hy
    simp only [Option.some.injEq, Prod.mk.injEq] at ha
    obtain ⟨rfl, rfl⟩ := ha
    exact sim_same h (v := .int .i64 n) (by simp [execOp, resolve, invoke, builtin, Builtin.len_, run_underlying' ht, hv, goInt]) (by unfold R; exact ⟨rfl, rfl⟩)
  · cases ha
end
end Go.Av
