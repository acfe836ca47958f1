/- OWN TEXT. Histories: Add. -/
import Derived.Test.YtinmcbkebfgekaaAvH6
set_option linter.all false
set_option linter.unusedVariables false
set_option linter.unusedSimpArgs false
namespace Go.Av
variable {P : Program} {T : List Nat} {σ : Type}
/-- A value that points into variables by names from lo to hi. -/
def AV.inN (lo hi : Nat) : AV → Prop
  | .ptr d _ _ => lo ≤ d ∧ d < hi
  | .vsl d _ _ _ _ _ => lo ≤ d ∧ d < hi
  | _ => False
/-- Values that differ there alone. -/
def VE (lo hi : Nat) (xs ys : List AV) : Prop := xs.length = ys.length ∧ ∀ (i : Nat) a, xs[i]? = some a → a.inN lo hi ∨ ys[i]? = some a
theorem VE.of {lo hi : Nat} {xs ys : List AV} (h : ys = xs) : VE lo hi xs ys := ⟨by rw [h], fun i a ha => .inr (by rw [h]; exact ha)⟩
theorem VE.trans {lo hi : Nat} {a b c : List AV} (h : VE lo hi a b) (k : VE lo hi b c) : VE lo hi a c :=
  ⟨h.1.trans k.1, fun i x hx => by
    rcases h.2 i x hx with hi | hb
    · exact .inl hi
    · exact k.2 i x hb⟩
theorem VE.mono {lo hi lo' hi' : Nat} {a b : List AV} (h : VE lo hi a b) (h1 : lo' ≤ lo) (h2 : hi ≤ hi') : VE lo' hi' a b :=
  ⟨h.1, fun i x hx => by
    rcases h.2 i x hx with hh | hb
    · left
      cases x <;> simp only [AV.inN] at hh ⊢ <;> omega
    · exact .inr hb⟩
theorem VE.eq {lo hi : Nat} {xs ys : List AV} (h : VE lo hi xs ys) (hn : ∀ a ∈ xs, ¬ a.inN lo hi) : ys = xs := by
  refine List.ext_getElem h.1.symm fun i h1 h2 => ?_
  rcases h.2 i xs[i] (List.getElem?_eq_getElem h2) with hh | hh
  · exact absurd hh (hn _ (List.getElem_mem h2))
  · rw [List.getElem?_eq_getElem h1] at hh
    injection hh
theorem VE.frz {lo hi d g sz : Nat} {cells xs : List AV} (h1 : lo ≤ d) (h2 : d < hi) : VE lo hi xs (xs.map (AV.frz1 d g sz cells)) := by
  refine ⟨by simp, fun i a ha => ?_⟩
  rw [List.getElem?_map, ha]
  cases a with
  | ptr d' g' o =>
    simp only [AV.inN, AV.frz1, Option.map_some]
    by_cases e : d' = d ∧ g' = g
    · left; omega
    · right; rw [if_neg e]
  | vsl d' g' sz' o n cp =>
    simp only [AV.inN, AV.frz1, Option.map_some]
    by_cases e : d' = d ∧ g' = g ∧ sz' = sz ∧ o + n * sz ≤ cells.length
    · left; omega
    · right; rw [if_neg e]
  | _ => right; rfl
/-- States that differ by names from lo to hi alone; what pointed there may point elsewhere. -/
def Otv (lo hi : Nat) (st s : St σ) : Prop := s.x = st.x ∧ ∀ j, (j < lo ∨ hi ≤ j) → s.gen j = st.gen j ∧ VE lo hi (st.var j) (s.var j) ∧ s.tgen j = st.tgen j ∧ s.top j = st.top j
theorem Oth.v {lo hi : Nat} {st s : St σ} (h : Oth lo hi st s) : Otv lo hi st s := ⟨h.1, fun j hj => ⟨(h.2 j hj).1, .of (h.2 j hj).2.1, (h.2 j hj).2.2⟩⟩
theorem Otv.trans {lo hi : Nat} {a b c : St σ} (h : Otv lo hi a b) (k : Otv lo hi b c) : Otv lo hi a c :=
  ⟨k.1.trans h.1, fun j hj => ⟨(k.2 j hj).1.trans (h.2 j hj).1, (h.2 j hj).2.1.trans (k.2 j hj).2.1, (k.2 j hj).2.2.1.trans (h.2 j hj).2.2.1, (k.2 j hj).2.2.2.trans (h.2 j hj).2.2.2⟩⟩
theorem Otv.mono {lo hi lo' hi' : Nat} {a b : St σ} (h : Otv lo hi a b) (h1 : lo' ≤ lo) (h2 : hi ≤ hi') : Otv lo' hi' a b := ⟨h.1, fun j hj => ⟨(h.2 j (by omega)).1, (h.2 j (by omega)).2.1.mono h1 h2, (h.2 j (by omega)).2.2⟩⟩
theorem HS.names {K : Nat} {st s : St σ} {h : AV} {l : List Known} (hs : HS K st h l) (h1 : s.gen (K + 1) = st.gen (K + 1)) (h2 : s.var (K + 1) = st.var (K + 1)) (h3 : s.gen (K + 4) = st.gen (K + 4)) (h4 : s.var (K + 4) = st.var (K + 4)) (h5 : s.gen (K + 290) = st.gen (K + 290)) (h6 : s.var (K + 290) = st.var (K + 290)) : HS K s h l := by
  obtain ⟨acts, us, q⟩ := hs
  refine ⟨acts, us, ?_⟩
  rw [h1, h2, h3, h4, h5, h6]
  exact q
theorem HS.otv {K lo hi : Nat} {st s : St σ} {h : AV} {l : List Known} (hs : HS K st h l) (ho : Otv lo hi st s) (hk : (∀ j, j = K + 1 ∨ j = K + 4 ∨ j = K + 290 → j < lo ∨ hi ≤ j)) : HS K s h l := by
  obtain ⟨acts, us, h1, h2, h3, h4, h5, h6, h7⟩ := hs
  obtain ⟨a1, a2, _⟩ := ho.2 (K + 4) (hk _ (by omega))
  obtain ⟨b1, b2, _⟩ := ho.2 (K + 1) (hk _ (by omega))
  obtain ⟨c1, c2, _⟩ := ho.2 (K + 290) (hk _ (by omega))
  have hout := hk (K + 290) (by omega)
  have hout1 := hk (K + 1) (by omega)
  have e4 := a2.eq (by
    rw [h3]
    rcases h7 with ⟨rfl, _⟩ | ⟨rfl, _⟩
    · simp [AV.inN]
    · simp only [List.mem_cons, List.not_mem_nil, or_false, forall_eq_or_imp, forall_eq, AV.inN, not_false_eq_true, and_true]
      omega)
  have e1 := b2.eq (by
    rw [h5]
    intro a ha
    obtain ⟨u, _, rfl⟩ := List.mem_map.1 ha
    exact fun h => h)
  refine ⟨acts, us, by rw [h1, a1], by rw [a1]; exact h2, by rw [e4, b1]; exact h3, by rw [b1]; exact h4, by rw [e1]; exact h5, h6, ?_⟩
  rcases h7 with h7 | ⟨h7, h8, h9⟩
  · exact .inl h7
  · refine .inr ⟨by rw [h7, c1], by rw [c1]; exact h8, ?_⟩
    rw [c2.eq, h9]
    rw [h9]
    intro a ha
    obtain ⟨u, _, rfl⟩ := List.mem_map.1 ha
    exact fun h => h
/-! ### the map of acts -/
def SamePl (a b : Known) : Prop := a.office = b.office ∧ a.number = b.number ∧ a.index = b.index
def Taken (l : List Known) (k : Known) : Prop := ∃ u ∈ l, SamePl k u
instance (a b : Known) : Decidable (SamePl a b) := inferInstanceAs (Decidable (_ ∧ _ ∧ _))
instance (l : List Known) (k : Known) : Decidable (Taken l k) := inferInstanceAs (Decidable (∃ u ∈ l, _))
theorem same_eq (k u : Known) : ((0 : Int) == 0 && (k.office == u.office && (k.number == u.number && (k.index == u.index && true)))) = decide (SamePl k u) := by
  rw [Bool.eq_iff_iff, decide_eq_true_iff]
  simp [SamePl]
theorem findM_mrow (k : Known) : ∀ us : List Known, findM true [1, 1, 1, 1] [.imm (.int .i64 0), .imm (.int .i64 k.office), .imm (.int .i64 k.number), .imm (.int .i64 k.index)] (us.map mrow) = some (if Taken us k then some (.imm (.bool true)) else none)
  | [] => by simp [findM, Taken]
  | u :: us => by
    have ih := findM_mrow k us
    have hc : Taken (u :: us) k ↔ SamePl k u ∨ Taken us k := by simp [Taken]
    simp only [List.map_cons, mrow, findM, AV.keyc, eqCells, eqCell, if_true, same_eq]
    by_cases h : SamePl k u
    · simp [h, hc]
    · simp only [h, hc, false_or, decide_false, Bool.false_eq_true, if_false]
      exact ih
theorem setM_mrow (k : Known) : ∀ us : List Known, ¬ Taken us k → setM true [1, 1, 1, 1] [.imm (.int .i64 0), .imm (.int .i64 k.office), .imm (.int .i64 k.number), .imm (.int .i64 k.index)] (mrow k) (us.map mrow) = some ((us ++ [k]).map mrow)
  | [], _ => rfl
  | u :: us, hn => by
    have hc : Taken (u :: us) k ↔ SamePl k u ∨ Taken us k := by simp [Taken]
    have h1 : ¬ SamePl k u := fun h => hn (hc.2 (.inl h))
    have ih := setM_mrow k us fun h => hn (hc.2 (.inr h))
    rw [List.map_cons, show mrow u = .tup [.agg [.imm (.int .i64 0), .imm (.int .i64 u.office), .imm (.int .i64 u.number), .imm (.int .i64 u.index)], .imm (.bool true)] from rfl]
    simp only [setM, AV.keyc, eqCells, eqCell, if_true, same_eq, h1, decide_false, Bool.false_eq_true, if_false, ih]
    rfl
theorem Known.weakp (k : Known) : k.row.map AV.weakp = k.row := by
  have h : ∀ l : List Value, (l.map AV.imm).map AV.weakp = l.map AV.imm := fun l => by
    rw [List.map_map]
    refine List.map_congr_left fun v _ => ?_
    simp [AV.weakp, AV.weak, AV.pureB]
  have : k.row = ((.int .i64 k.day :: .int .i64 k.office :: .int .i64 k.number :: .int .i64 k.index :: .int .i64 k.kind :: .string k.id :: .int .i64 k.aday :: k.rest : List Value)).map AV.imm := by simp [Known.row]
  rw [this, h]
/-- What Add answers. -/
def addE (l : List Known) (k : Known) : Int := if ¬ ValidK k.day k.office k.number k.index then 1 else if Taken l k then 9 else if l.length = 4000 then 27 else 0
theorem wOps_fz {O : Outs σ} {nt k : Nat} {th : List Nat} {i d sz : Nat} {r : List AOper} {o : AOper} {e : Nat → AV} {g : Nat → Nat} {v : Nat → List AV} {tg : Nat → Nat} {tp : Nat → Option Nat} {x : σ} {K : St σ → Prop} :
    wOps (sys O P T nt k th [(i, d, sz)]) ⟨e, g, v, tg, tp, x⟩ (o :: r) K = if o.dst.getD 0 = i then wStep (sys O P T nt k th [(i, d, sz)]) true (St.frz ⟨e, g, v, tg, tp, x⟩ d sz) o fun s => wOps (sys O P T nt k th [(i, d, sz)]) s r K else wStep (sys O P T nt k th [(i, d, sz)]) true ⟨e, g, v, tg, tp, x⟩ o fun s => wOps (sys O P T nt k th [(i, d, sz)]) s r K := by
  simp only [wOps, wFrz, sys, List.lookup]
  by_cases h : o.dst.getD 0 = i
  · simp [h]
  · have : (o.dst.getD 0 == i) = false := by simpa using h
    simp [h, this]
theorem views_prow {st : St σ} (l : List Known) : Views st (((l.map fun k => .eptr k.row 0).drop 0).take (l.length * 1)) (l.map prow).flatten := by
  rw [List.drop_zero, Nat.mul_one, List.take_of_length_le (by simp)]
  induction l with
  | nil => exact .nil
  | cons a l ih => exact .cons (View.same (by simp only [AV.weaks, AV.weak1, AV.weak]) (by simp only [AV.pureB, Known.pure])) ih
theorem add_I (L : Lay P T) (V : Ovl P T) {O : Outs σ} {nt k0 : Nat} {th : List Nat} {fz : List (Nat × Nat × Nat)} (K : Nat) {st : St σ} {h : AV} {l : List Known} (k : Known) {n : Nat} (hs : HS K st h l) (hl : l.length ≤ 4000) (hp : Place l k n) :
    (sys O P T nt k0 th fz).I 13 [h, .agg k.row] st (fun x s => x = .imm (.int .i64 (addE l k)) ∧ HS K s h (if addE l k = 0 then l.take n ++ k :: l.drop n else l) ∧ Otv K (K + 1000) st s) := by
  refine I_of L.t_history_History_Add (K + 100) [] [(10, K + 103, 49)] (by exact Nat.le_of_ble_eq_true rfl) ?_
  change wCode _ (b_history_History_Add (T.getD · 0)) _ _ _ _
  obtain ⟨e0, g0, v0, tg0, tp0, x0⟩ := st
  simp -implicitDefEqProofs only [b_history_History_Add, Known.weak, Known.pure, Known.len, Known.t49, Known.d0, Known.d1, Known.d2, Known.d3, Known.d4, Known.d5, Known.d6, List.drop_zero, wCode_draw, wDraw_cons, wDraw_nil, eff, AV.ptrOf, AV.tokOf, Option.toList_some, Option.toList_none, AV.weaks, AV.weak1, List.reverse_cons, List.reverse_nil, List.nil_append, List.cons_append, wCode_skip, wCode_region, wCode_seq, wCode_cond, wCode_block, wCode_loop, wCode_exit, wCode_ret, wCond_d, wCond_tb, wCond_t, wCond_f, wOps_nil, wOps_cons0, wStep_none, wStep_some, wGuard_dt, wGuard_df, wGuard_bt, wGuard_bf, wGuard_tup, wGuard_undef, wGuard_tt, wGuard_ff, wGuard_tf, wGuard_ft, wPick_d, wPick_tb, wPick_t, wPick_f, wAct_mov, wAct_pick, wAct_iaddr, wAct_call, wAct_box, wAct_alloc, wAct_build, wAct_bsl, wAct_load, wAct_store, wAct_faddr, wAct_aaddr, wAct_sidx, wAct_field, wAct_bin, wBin_add, wBin_sub, wBin_mul, wBin_rem, wBin_eql, wBin_neq, wBin_lss, wBin_leq, wBin_gtr, wBin_geq, wBin_seql, wBin_sneq, wBin_sadd, wBin_shr, wAct_beq, wAct_seq, wAct_un, wAct_convi, wAct_convs, wAct_slc, wAct_sslc, wAct_ext, wAct_slen, wAct_len, wAct_nilc, wAct_mkf, wAct_aidx, wAct_app1, wAct_mm, wAct_peq, wAct_snil, wSnil, wAct_asl, wAct_capv, wAct_mkmap, wAct_mlen, wAct_cpy, wAct_appz, wAct_mksl, wAct_mget, wAct_mset, wAct_callv, wFv_fv, kill_lit, AV.flatB, AV.flatBs, wVal_some, wVal_none, wVal_if, wVal_map, wOpt_some, wOpt_none, wOpt_if, wOpt_map, act, AV.cells, AV.mk, AV.asSl, AV.asInt, AV.vslOf, wIdx, put_some, put_none, ev_tmp, ev_const, newVar_lit, give_lit, spend_lit, st0, env0, upd_eq, off_sys, Nat.zero_add, Nat.reduceAdd, Nat.reduceEqDiff, Nat.reduceLeDiff, ↓reduceIte, AV.ofV, unV, ← decide_not, Classical.not_not, List.getElem?_cons_zero, List.getElem?_cons_succ, Option.getD_some, Option.getD_none, Option.map_some, decide_eq_true_eq, decide_eq_false_iff_not, Bool.not_true, Bool.not_false, Bool.not_eq_true', Bool.not_eq_false', List.drop_zero, List.drop_succ_cons, List.take_succ_cons, List.take_zero, List.length_cons, List.length_nil, List.map_cons, List.map_nil, Bool.false_eq_true, reduceCtorEq, rowsOf, pureCells, AV.weak, AV.pureB, AV.pureBs, List.all_cons, List.all_nil, beq_self_eq_true, Bool.and_true, Bool.and_self, Nat.reduceBEq, if_true, if_false, true_and, and_true, Nat.le_refl, and_self, eq_self, Nat.add_eq_left, Nat.left_eq_add, wOps_fz, Nat.add_assoc]
  generalize hS : St.frz (σ := σ) _ _ _ = s1
  have hO : Otv K (K + 1000) (⟨e0, g0, v0, tg0, tp0, x0⟩ : St σ) s1 := by
    subst hS
    refine ⟨rfl, fun j hj => ⟨?_, ?_, rfl, rfl⟩⟩
    · simp only [St.frz, upd_eq, if_neg (show j ≠ K + 103 by omega)]
    · simp only [St.frz, upd_eq, if_neg (show j ≠ K + 103 by omega)]
      exact VE.frz (by omega) (by omega)
  have hs1 : HS K s1 h l := by
    refine hs.otv (lo := K + 103) (hi := K + 104) ?_ (by omega)
    subst hS
    refine ⟨rfl, fun j hj => ⟨?_, ?_, rfl, rfl⟩⟩
    · simp only [St.frz, upd_eq, if_neg (show j ≠ K + 103 by omega)]
    · simp only [St.frz, upd_eq, if_neg (show j ≠ K + 103 by omega)]
      exact VE.frz (by omega) (by omega)
  have h0 : s1.env 0 = h := by
    obtain ⟨acts, us, rfl, _⟩ := hs
    subst hS
    simp [St.frz, upd_eq, env0, AV.frz, AV.frz1]
  have h3 : s1.env 3 = .eptr k.row 0 := by
    subst hS
    simp [St.frz, upd_eq, env0, AV.frz, AV.frz1, Known.weakp]
  have h4 : s1.env 4 = .imm (.int .i64 0) := by
    subst hS
    simp [St.frz, upd_eq, env0, AV.frz, AV.frz1]
  clear hS hs
  obtain ⟨e, g, v, tg, tp, x⟩ := s1
  obtain ⟨acts, us, rfl, p2, p3, p4, p5, p6, p7⟩ := hs1
  simp only at h0 h3 h4 p2 p3 p4 p5 p6 p7
  simp -implicitDefEqProofs only [h0, h3, h4, Known.weak, Known.pure, Known.len, Known.t49, Known.d0, Known.d1, Known.d2, Known.d3, Known.d4, Known.d5, Known.d6, List.drop_zero, wCode_draw, wDraw_cons, wDraw_nil, eff, AV.ptrOf, AV.tokOf, Option.toList_some, Option.toList_none, AV.weaks, AV.weak1, List.reverse_cons, List.reverse_nil, List.nil_append, List.cons_append, wCode_skip, wCode_region, wCode_seq, wCode_cond, wCode_block, wCode_loop, wCode_exit, wCode_ret, wCond_d, wCond_tb, wCond_t, wCond_f, wOps_nil, wOps_cons0, wStep_none, wStep_some, wGuard_dt, wGuard_df, wGuard_bt, wGuard_bf, wGuard_tup, wGuard_undef, wGuard_tt, wGuard_ff, wGuard_tf, wGuard_ft, wPick_d, wPick_tb, wPick_t, wPick_f, wAct_mov, wAct_pick, wAct_iaddr, wAct_call, wAct_box, wAct_alloc, wAct_build, wAct_bsl, wAct_load, wAct_store, wAct_faddr, wAct_aaddr, wAct_sidx, wAct_field, wAct_bin, wBin_add, wBin_sub, wBin_mul, wBin_rem, wBin_eql, wBin_neq, wBin_lss, wBin_leq, wBin_gtr, wBin_geq, wBin_seql, wBin_sneq, wBin_sadd, wBin_shr, wAct_beq, wAct_seq, wAct_un, wAct_convi, wAct_convs, wAct_slc, wAct_sslc, wAct_ext, wAct_slen, wAct_len, wAct_nilc, wAct_mkf, wAct_aidx, wAct_app1, wAct_mm, wAct_peq, wAct_snil, wSnil, wAct_asl, wAct_capv, wAct_mkmap, wAct_mlen, wAct_cpy, wAct_appz, wAct_mksl, wAct_mget, wAct_mset, wAct_callv, wFv_fv, kill_lit, AV.flatB, AV.flatBs, wVal_some, wVal_none, wVal_if, wVal_map, wOpt_some, wOpt_none, wOpt_if, wOpt_map, act, AV.cells, AV.mk, AV.asSl, AV.asInt, AV.vslOf, wIdx, put_some, put_none, ev_tmp, ev_const, newVar_lit, give_lit, spend_lit, st0, env0, upd_eq, off_sys, Nat.zero_add, Nat.reduceAdd, Nat.reduceEqDiff, Nat.reduceLeDiff, ↓reduceIte, AV.ofV, unV, ← decide_not, Classical.not_not, List.getElem?_cons_zero, List.getElem?_cons_succ, Option.getD_some, Option.getD_none, Option.map_some, decide_eq_true_eq, decide_eq_false_iff_not, Bool.not_true, Bool.not_false, Bool.not_eq_true', Bool.not_eq_false', List.drop_zero, List.drop_succ_cons, List.take_succ_cons, List.take_zero, List.length_cons, List.length_nil, List.map_cons, List.map_nil, Bool.false_eq_true, reduceCtorEq, rowsOf, pureCells, AV.weak, AV.pureB, AV.pureBs, List.all_cons, List.all_nil, beq_self_eq_true, Bool.and_true, Bool.and_self, Nat.reduceBEq, if_true, if_false, true_and, and_true, Nat.le_refl, and_self, eq_self, Nat.add_eq_left, Nat.left_eq_add, wOps_fz, Nat.add_assoc]
  refine wCall_pure (of_con L k) rfl (by simp only [List.map_cons, List.map_nil, AV.weaks, AV.weak1, AV.weak, Known.weak, AV.pureBs, AV.pureB, Known.pure, Bool.and_self, Bool.and_true]) (by simp only [List.map_cons, List.map_nil, AV.weaks, AV.weak1, AV.weak, Known.weak]; exact AV.les2_refl _) ?_
  simp -implicitDefEqProofs only [h0, h3, h4, p2, p3, p4, Known.weak, Known.pure, Known.len, Known.t49, Known.d0, Known.d1, Known.d2, Known.d3, Known.d4, Known.d5, Known.d6, List.drop_zero, wCode_draw, wDraw_cons, wDraw_nil, eff, AV.ptrOf, AV.tokOf, Option.toList_some, Option.toList_none, AV.weaks, AV.weak1, List.reverse_cons, List.reverse_nil, List.nil_append, List.cons_append, wCode_skip, wCode_region, wCode_seq, wCode_cond, wCode_block, wCode_loop, wCode_exit, wCode_ret, wCond_d, wCond_tb, wCond_t, wCond_f, wOps_nil, wOps_cons0, wStep_none, wStep_some, wGuard_dt, wGuard_df, wGuard_bt, wGuard_bf, wGuard_tup, wGuard_undef, wGuard_tt, wGuard_ff, wGuard_tf, wGuard_ft, wPick_d, wPick_tb, wPick_t, wPick_f, wAct_mov, wAct_pick, wAct_iaddr, wAct_call, wAct_box, wAct_alloc, wAct_build, wAct_bsl, wAct_load, wAct_store, wAct_faddr, wAct_aaddr, wAct_sidx, wAct_field, wAct_bin, wBin_add, wBin_sub, wBin_mul, wBin_rem, wBin_eql, wBin_neq, wBin_lss, wBin_leq, wBin_gtr, wBin_geq, wBin_seql, wBin_sneq, wBin_sadd, wBin_shr, wAct_beq, wAct_seq, wAct_un, wAct_convi, wAct_convs, wAct_slc, wAct_sslc, wAct_ext, wAct_slen, wAct_len, wAct_nilc, wAct_mkf, wAct_aidx, wAct_app1, wAct_mm, wAct_peq, wAct_snil, wSnil, wAct_asl, wAct_capv, wAct_mkmap, wAct_mlen, wAct_cpy, wAct_appz, wAct_mksl, wAct_mget, wAct_mset, wAct_callv, wFv_fv, kill_lit, AV.flatB, AV.flatBs, wVal_some, wVal_none, wVal_if, wVal_map, wOpt_some, wOpt_none, wOpt_if, wOpt_map, act, AV.cells, AV.mk, AV.asSl, AV.asInt, AV.vslOf, wIdx, put_some, put_none, ev_tmp, ev_const, newVar_lit, give_lit, spend_lit, st0, env0, upd_eq, off_sys, Nat.zero_add, Nat.reduceAdd, Nat.reduceEqDiff, Nat.reduceLeDiff, ↓reduceIte, AV.ofV, unV, ← decide_not, Classical.not_not, List.getElem?_cons_zero, List.getElem?_cons_succ, Option.getD_some, Option.getD_none, Option.map_some, decide_eq_true_eq, decide_eq_false_iff_not, Bool.not_true, Bool.not_false, Bool.not_eq_true', Bool.not_eq_false', List.drop_zero, List.drop_succ_cons, List.take_succ_cons, List.take_zero, List.length_cons, List.length_nil, List.map_cons, List.map_nil, Bool.false_eq_true, reduceCtorEq, rowsOf, pureCells, AV.weak, AV.pureB, AV.pureBs, List.all_cons, List.all_nil, beq_self_eq_true, Bool.and_true, Bool.and_self, Nat.reduceBEq, if_true, if_false, true_and, and_true, Nat.le_refl, and_self, eq_self, Nat.add_eq_left, Nat.left_eq_add, wOps_fz, Nat.add_assoc, splice, Int.toNat_zero, Nat.zero_mul, List.drop_nil, List.append_nil, Int.cast_ofNat_Int, Int.reduceLT]
  refine ⟨Int.le_refl _, ?_⟩
  refine wCall_imm (valid_con L k.day k.office k.number k.index) rfl (AV.les2_refl _) ?_
  simp -implicitDefEqProofs only [h0, h3, h4, p2, p3, p4, Known.weak, Known.pure, Known.len, Known.t49, Known.d0, Known.d1, Known.d2, Known.d3, Known.d4, Known.d5, Known.d6, List.drop_zero, wCode_draw, wDraw_cons, wDraw_nil, eff, AV.ptrOf, AV.tokOf, Option.toList_some, Option.toList_none, AV.weaks, AV.weak1, List.reverse_cons, List.reverse_nil, List.nil_append, List.cons_append, wCode_skip, wCode_region, wCode_seq, wCode_cond, wCode_block, wCode_loop, wCode_exit, wCode_ret, wCond_d, wCond_tb, wCond_t, wCond_f, wOps_nil, wOps_cons0, wStep_none, wStep_some, wGuard_dt, wGuard_df, wGuard_bt, wGuard_bf, wGuard_tup, wGuard_undef, wGuard_tt, wGuard_ff, wGuard_tf, wGuard_ft, wPick_d, wPick_tb, wPick_t, wPick_f, wAct_mov, wAct_pick, wAct_iaddr, wAct_call, wAct_box, wAct_alloc, wAct_build, wAct_bsl, wAct_load, wAct_store, wAct_faddr, wAct_aaddr, wAct_sidx, wAct_field, wAct_bin, wBin_add, wBin_sub, wBin_mul, wBin_rem, wBin_eql, wBin_neq, wBin_lss, wBin_leq, wBin_gtr, wBin_geq, wBin_seql, wBin_sneq, wBin_sadd, wBin_shr, wAct_beq, wAct_seq, wAct_un, wAct_convi, wAct_convs, wAct_slc, wAct_sslc, wAct_ext, wAct_slen, wAct_len, wAct_nilc, wAct_mkf, wAct_aidx, wAct_app1, wAct_mm, wAct_peq, wAct_snil, wSnil, wAct_asl, wAct_capv, wAct_mkmap, wAct_mlen, wAct_cpy, wAct_appz, wAct_mksl, wAct_mget, wAct_mset, wAct_callv, wFv_fv, kill_lit, AV.flatB, AV.flatBs, wVal_some, wVal_none, wVal_if, wVal_map, wOpt_some, wOpt_none, wOpt_if, wOpt_map, act, AV.cells, AV.mk, AV.asSl, AV.asInt, AV.vslOf, wIdx, put_some, put_none, ev_tmp, ev_const, newVar_lit, give_lit, spend_lit, st0, env0, upd_eq, off_sys, Nat.zero_add, Nat.reduceAdd, Nat.reduceEqDiff, Nat.reduceLeDiff, ↓reduceIte, AV.ofV, unV, ← decide_not, Classical.not_not, List.getElem?_cons_zero, List.getElem?_cons_succ, Option.getD_some, Option.getD_none, Option.map_some, decide_eq_true_eq, decide_eq_false_iff_not, Bool.not_true, Bool.not_false, Bool.not_eq_true', Bool.not_eq_false', List.drop_zero, List.drop_succ_cons, List.take_succ_cons, List.take_zero, List.length_cons, List.length_nil, List.map_cons, List.map_nil, Bool.false_eq_true, reduceCtorEq, rowsOf, pureCells, AV.weak, AV.pureB, AV.pureBs, List.all_cons, List.all_nil, beq_self_eq_true, Bool.and_true, Bool.and_self, Nat.reduceBEq, if_true, if_false, true_and, and_true, Nat.le_refl, and_self, eq_self, Nat.add_eq_left, Nat.left_eq_add, wOps_fz, Nat.add_assoc, splice, Int.toNat_zero, Nat.zero_mul, List.drop_nil, List.append_nil, Int.cast_ofNat_Int, Int.reduceLT]
  have keep : ∀ (gg : Nat → Nat) (vv : Nat → List AV), (∀ j, j ≠ K + 105 → j ≠ K + 106 → j ≠ K + 107 → gg j = g j ∧ vv j = v j) → HS K ⟨e0, gg, vv, tg, tp, x⟩ (.ptr (K + 4) (g (K + 4)) 0) l ∧ Otv K (K + 1000) (⟨e0, g0, v0, tg0, tp0, x0⟩ : St σ) ⟨e0, gg, vv, tg, tp, x⟩ := fun gg vv hk => by
    have h1 := hk (K + 1) (by omega) (by omega) (by omega)
    have h4 := hk (K + 4) (by omega) (by omega) (by omega)
    have h290 := hk (K + 290) (by omega) (by omega) (by omega)
    refine ⟨⟨acts, us, ?_⟩, ?_⟩
    · simp only [h1.1, h1.2, h4.1, h4.2, h290.1, h290.2]
      exact ⟨trivial, p2, p3, p4, p5, p6, p7⟩
    · refine ⟨hO.1, fun j hj => ?_⟩
      have := hk j (by omega) (by omega) (by omega)
      simp only [this.1, this.2]
      exact hO.2 j hj
  have hT : Taken us k ↔ Taken l k := by simp only [Taken, p6.mem_iff]
  refine ⟨fun hv => ?_, fun hv => ?_⟩
  · simp -implicitDefEqProofs only [c_history_History_Add, wCode_draw, wDraw_cons, wDraw_nil, eff, AV.ptrOf, AV.tokOf, Option.toList_some, Option.toList_none, AV.weaks, AV.weak1, List.reverse_cons, List.reverse_nil, List.nil_append, List.cons_append, wCode_skip, wCode_region, wCode_seq, wCode_cond, wCode_block, wCode_loop, wCode_exit, wCode_ret, wCond_d, wCond_tb, wCond_t, wCond_f, wOps_nil, wOps_cons0, wStep_none, wStep_some, wGuard_dt, wGuard_df, wGuard_bt, wGuard_bf, wGuard_tup, wGuard_undef, wGuard_tt, wGuard_ff, wGuard_tf, wGuard_ft, wPick_d, wPick_tb, wPick_t, wPick_f, wAct_mov, wAct_pick, wAct_iaddr, wAct_call, wAct_box, wAct_alloc, wAct_build, wAct_bsl, wAct_load, wAct_store, wAct_faddr, wAct_aaddr, wAct_sidx, wAct_field, wAct_bin, wBin_add, wBin_sub, wBin_mul, wBin_rem, wBin_eql, wBin_neq, wBin_lss, wBin_leq, wBin_gtr, wBin_geq, wBin_seql, wBin_sneq, wBin_sadd, wBin_shr, wAct_beq, wAct_seq, wAct_un, wAct_convi, wAct_convs, wAct_slc, wAct_sslc, wAct_ext, wAct_slen, wAct_len, wAct_nilc, wAct_mkf, wAct_aidx, wAct_app1, wAct_mm, wAct_peq, wAct_snil, wSnil, wAct_asl, wAct_capv, wAct_mkmap, wAct_mlen, wAct_cpy, wAct_appz, wAct_mksl, wAct_mget, wAct_mset, wAct_callv, wFv_fv, kill_lit, AV.flatB, AV.flatBs, wVal_some, wVal_none, wVal_if, wVal_map, wOpt_some, wOpt_none, wOpt_if, wOpt_map, act, AV.cells, AV.mk, AV.asSl, AV.asInt, AV.vslOf, wIdx, put_some, put_none, ev_tmp, ev_const, newVar_lit, give_lit, spend_lit, st0, env0, upd_eq, off_sys, Nat.zero_add, Nat.reduceAdd, Nat.reduceEqDiff, Nat.reduceLeDiff, ↓reduceIte, AV.ofV, unV, ← decide_not, Classical.not_not, List.getElem?_cons_zero, List.getElem?_cons_succ, Option.getD_some, Option.getD_none, Option.map_some, decide_eq_true_eq, decide_eq_false_iff_not, Bool.not_true, Bool.not_false, Bool.not_eq_true', Bool.not_eq_false', List.drop_zero, List.drop_succ_cons, List.take_succ_cons, List.take_zero, List.length_cons, List.length_nil, List.map_cons, List.map_nil, Bool.false_eq_true, reduceCtorEq, rowsOf, pureCells, AV.weak, AV.pureB, AV.pureBs, List.all_cons, List.all_nil, beq_self_eq_true, Bool.and_true, Bool.and_self, Nat.reduceBEq, if_true, if_false, true_and, and_true, Nat.le_refl, and_self, eq_self, Nat.add_eq_left, Nat.left_eq_add, ends_one, ends_two, endR_imm, ends_cell, endC_ptr, endsI_none, endsI_one, endsI_two, Value.bool.injEq, Value.int.injEq, upd_eq, Nat.reduceEqDiff, ↓reduceIte, Option.getD_some]
    have hE : addE l k = 1 := by simp [addE, hv]
    rw [hE]
    refine ⟨rfl, keep _ _ fun j h5 h6 h7 => ?_⟩
    simp only [upd_eq, if_neg h5, if_neg h6, and_self]
  have hv' : ValidK k.day k.office k.number k.index := hv
  simp -implicitDefEqProofs only [wMget, AV.keyc, p5, findM_mrow, wCode_draw, wDraw_cons, wDraw_nil, eff, AV.ptrOf, AV.tokOf, Option.toList_some, Option.toList_none, AV.weaks, AV.weak1, List.reverse_cons, List.reverse_nil, List.nil_append, List.cons_append, wCode_skip, wCode_region, wCode_seq, wCode_cond, wCode_block, wCode_loop, wCode_exit, wCode_ret, wCond_d, wCond_tb, wCond_t, wCond_f, wOps_nil, wOps_cons0, wStep_none, wStep_some, wGuard_dt, wGuard_df, wGuard_bt, wGuard_bf, wGuard_tup, wGuard_undef, wGuard_tt, wGuard_ff, wGuard_tf, wGuard_ft, wPick_d, wPick_tb, wPick_t, wPick_f, wAct_mov, wAct_pick, wAct_iaddr, wAct_call, wAct_box, wAct_alloc, wAct_build, wAct_bsl, wAct_load, wAct_store, wAct_faddr, wAct_aaddr, wAct_sidx, wAct_field, wAct_bin, wBin_add, wBin_sub, wBin_mul, wBin_rem, wBin_eql, wBin_neq, wBin_lss, wBin_leq, wBin_gtr, wBin_geq, wBin_seql, wBin_sneq, wBin_sadd, wBin_shr, wAct_beq, wAct_seq, wAct_un, wAct_convi, wAct_convs, wAct_slc, wAct_sslc, wAct_ext, wAct_slen, wAct_len, wAct_nilc, wAct_mkf, wAct_aidx, wAct_app1, wAct_mm, wAct_peq, wAct_snil, wSnil, wAct_asl, wAct_capv, wAct_mkmap, wAct_mlen, wAct_cpy, wAct_appz, wAct_mksl, wAct_mget, wAct_mset, wAct_callv, wFv_fv, kill_lit, AV.flatB, AV.flatBs, wVal_some, wVal_none, wVal_if, wVal_map, wOpt_some, wOpt_none, wOpt_if, wOpt_map, act, AV.cells, AV.mk, AV.asSl, AV.asInt, AV.vslOf, wIdx, put_some, put_none, ev_tmp, ev_const, newVar_lit, give_lit, spend_lit, st0, env0, upd_eq, off_sys, Nat.zero_add, Nat.reduceAdd, Nat.reduceEqDiff, Nat.reduceLeDiff, ↓reduceIte, AV.ofV, unV, ← decide_not, Classical.not_not, List.getElem?_cons_zero, List.getElem?_cons_succ, Option.getD_some, Option.getD_none, Option.map_some, decide_eq_true_eq, decide_eq_false_iff_not, Bool.not_true, Bool.not_false, Bool.not_eq_true', Bool.not_eq_false', List.drop_zero, List.drop_succ_cons, List.take_succ_cons, List.take_zero, List.length_cons, List.length_nil, List.map_cons, List.map_nil, Bool.false_eq_true, reduceCtorEq, rowsOf, pureCells, AV.weak, AV.pureB, AV.pureBs, List.all_cons, List.all_nil, beq_self_eq_true, Bool.and_true, Bool.and_self, Nat.reduceBEq, if_true, if_false, true_and, and_true, Nat.le_refl, and_self, eq_self, Nat.add_eq_left, Nat.left_eq_add]
  by_cases ht : Taken us k
  · have hE : addE l k = 9 := by simp [addE, hv', hT.1 ht]
    simp -implicitDefEqProofs only [h0, h3, h4, p2, p3, p4, ht, hE, c_history_History_Add, ends_one, ends_two, endR_imm, ends_cell, endC_ptr, endsI_none, endsI_one, endsI_two, Value.bool.injEq, Value.int.injEq, upd_eq, Nat.reduceEqDiff, ↓reduceIte, Option.getD_some, Known.weak, Known.pure, Known.len, Known.t49, Known.d0, Known.d1, Known.d2, Known.d3, Known.d4, Known.d5, Known.d6, List.drop_zero, wCode_draw, wDraw_cons, wDraw_nil, eff, AV.ptrOf, AV.tokOf, Option.toList_some, Option.toList_none, AV.weaks, AV.weak1, List.reverse_cons, List.reverse_nil, List.nil_append, List.cons_append, wCode_skip, wCode_region, wCode_seq, wCode_cond, wCode_block, wCode_loop, wCode_exit, wCode_ret, wCond_d, wCond_tb, wCond_t, wCond_f, wOps_nil, wOps_cons0, wStep_none, wStep_some, wGuard_dt, wGuard_df, wGuard_bt, wGuard_bf, wGuard_tup, wGuard_undef, wGuard_tt, wGuard_ff, wGuard_tf, wGuard_ft, wPick_d, wPick_tb, wPick_t, wPick_f, wAct_mov, wAct_pick, wAct_iaddr, wAct_call, wAct_box, wAct_alloc, wAct_build, wAct_bsl, wAct_load, wAct_store, wAct_faddr, wAct_aaddr, wAct_sidx, wAct_field, wAct_bin, wBin_add, wBin_sub, wBin_mul, wBin_rem, wBin_eql, wBin_neq, wBin_lss, wBin_leq, wBin_gtr, wBin_geq, wBin_seql, wBin_sneq, wBin_sadd, wBin_shr, wAct_beq, wAct_seq, wAct_un, wAct_convi, wAct_convs, wAct_slc, wAct_sslc, wAct_ext, wAct_slen, wAct_len, wAct_nilc, wAct_mkf, wAct_aidx, wAct_app1, wAct_mm, wAct_peq, wAct_snil, wSnil, wAct_asl, wAct_capv, wAct_mkmap, wAct_mlen, wAct_cpy, wAct_appz, wAct_mksl, wAct_mget, wAct_mset, wAct_callv, wFv_fv, kill_lit, AV.flatB, AV.flatBs, wVal_some, wVal_none, wVal_if, wVal_map, wOpt_some, wOpt_none, wOpt_if, wOpt_map, act, AV.cells, AV.mk, AV.asSl, AV.asInt, AV.vslOf, wIdx, put_some, put_none, ev_tmp, ev_const, newVar_lit, give_lit, spend_lit, st0, env0, upd_eq, off_sys, Nat.zero_add, Nat.reduceAdd, Nat.reduceEqDiff, Nat.reduceLeDiff, ↓reduceIte, AV.ofV, unV, ← decide_not, Classical.not_not, List.getElem?_cons_zero, List.getElem?_cons_succ, Option.getD_some, Option.getD_none, Option.map_some, decide_eq_true_eq, decide_eq_false_iff_not, Bool.not_true, Bool.not_false, Bool.not_eq_true', Bool.not_eq_false', List.drop_zero, List.drop_succ_cons, List.take_succ_cons, List.take_zero, List.length_cons, List.length_nil, List.map_cons, List.map_nil, Bool.false_eq_true, reduceCtorEq, rowsOf, pureCells, AV.weak, AV.pureB, AV.pureBs, List.all_cons, List.all_nil, beq_self_eq_true, Bool.and_true, Bool.and_self, Nat.reduceBEq, if_true, if_false, true_and, and_true, Nat.le_refl, and_self, eq_self, Nat.add_eq_left, Nat.left_eq_add, wOps_fz, Nat.add_assoc]
    refine ⟨rfl, keep _ _ fun j h5 h6 h7 => ?_⟩
    simp only [upd_eq, if_neg h5, if_neg h6, and_self]
  have hT' : ¬ Taken l k := fun h => ht (hT.2 h)
  have hset : setM true [1, 1, 1, 1] [.imm (.int .i64 0), .imm (.int .i64 k.office), .imm (.int .i64 k.number), .imm (.int .i64 k.index)] (.tup [.agg [.imm (.int .i64 0), .imm (.int .i64 k.office), .imm (.int .i64 k.number), .imm (.int .i64 k.index)], .imm (.bool true)]) (us.map mrow) = some ((us ++ [k]).map mrow) := setM_mrow k us ht
  have hT0 : ¬ Taken ([] : List Known) k := fun ⟨_, h, _⟩ => by cases h
  rcases p7 with ⟨ha, hl0⟩ | ⟨ha, pg, pv⟩
  · subst ha
    have hE : addE l k = 0 := by simp [addE, hv', hT0, hl0]
    simp -implicitDefEqProofs only [h0, h3, h4, p2, p3, p4, p5, ht, hE, wMset, AV.keyc, hset, c_history_History_Add, ends_one, ends_two, endR_imm, ends_cell, endC_ptr, endsI_none, endsI_one, endsI_two, Value.bool.injEq, Value.int.injEq, upd_eq, Nat.reduceEqDiff, ↓reduceIte, Option.getD_some, Known.weak, Known.pure, Known.len, Known.t49, Known.d0, Known.d1, Known.d2, Known.d3, Known.d4, Known.d5, Known.d6, List.drop_zero, wCode_draw, wDraw_cons, wDraw_nil, eff, AV.ptrOf, AV.tokOf, Option.toList_some, Option.toList_none, AV.weaks, AV.weak1, List.reverse_cons, List.reverse_nil, List.nil_append, List.cons_append, wCode_skip, wCode_region, wCode_seq, wCode_cond, wCode_block, wCode_loop, wCode_exit, wCode_ret, wCond_d, wCond_tb, wCond_t, wCond_f, wOps_nil, wOps_cons0, wStep_none, wStep_some, wGuard_dt, wGuard_df, wGuard_bt, wGuard_bf, wGuard_tup, wGuard_undef, wGuard_tt, wGuard_ff, wGuard_tf, wGuard_ft, wPick_d, wPick_tb, wPick_t, wPick_f, wAct_mov, wAct_pick, wAct_iaddr, wAct_call, wAct_box, wAct_alloc, wAct_build, wAct_bsl, wAct_load, wAct_store, wAct_faddr, wAct_aaddr, wAct_sidx, wAct_field, wAct_bin, wBin_add, wBin_sub, wBin_mul, wBin_rem, wBin_eql, wBin_neq, wBin_lss, wBin_leq, wBin_gtr, wBin_geq, wBin_seql, wBin_sneq, wBin_sadd, wBin_shr, wAct_beq, wAct_seq, wAct_un, wAct_convi, wAct_convs, wAct_slc, wAct_sslc, wAct_ext, wAct_slen, wAct_len, wAct_nilc, wAct_mkf, wAct_aidx, wAct_app1, wAct_mm, wAct_peq, wAct_snil, wSnil, wAct_asl, wAct_capv, wAct_mkmap, wAct_mlen, wAct_cpy, wAct_appz, wAct_mksl, wAct_mget, wAct_mset, wAct_callv, wFv_fv, kill_lit, AV.flatB, AV.flatBs, wVal_some, wVal_none, wVal_if, wVal_map, wOpt_some, wOpt_none, wOpt_if, wOpt_map, act, AV.cells, AV.mk, AV.asSl, AV.asInt, AV.vslOf, wIdx, put_some, put_none, ev_tmp, ev_const, newVar_lit, give_lit, spend_lit, st0, env0, upd_eq, off_sys, Nat.zero_add, Nat.reduceAdd, Nat.reduceEqDiff, Nat.reduceLeDiff, ↓reduceIte, AV.ofV, unV, ← decide_not, Classical.not_not, List.getElem?_cons_zero, List.getElem?_cons_succ, Option.getD_some, Option.getD_none, Option.map_some, decide_eq_true_eq, decide_eq_false_iff_not, Bool.not_true, Bool.not_false, Bool.not_eq_true', Bool.not_eq_false', List.drop_zero, List.drop_succ_cons, List.take_succ_cons, List.take_zero, List.length_cons, List.length_nil, List.map_cons, List.map_nil, Bool.false_eq_true, reduceCtorEq, rowsOf, pureCells, AV.weak, AV.pureB, AV.pureBs, List.all_cons, List.all_nil, beq_self_eq_true, Bool.and_true, Bool.and_self, Nat.reduceBEq, if_true, if_false, true_and, and_true, Nat.le_refl, and_self, eq_self, Nat.add_eq_left, Nat.left_eq_add, wOps_fz, Nat.add_assoc]
    refine ⟨rfl, fun h => absurd h (by decide), fun _ => ⟨rfl, ?_⟩⟩
    refine wCall_V (zs := [.imm (.slice none 0 0), .agg k.row, .fv (T.getD 21 0) [] [.eptr [.fv (T.getD 16 0) [.dead] []] 0]]) (bsearch_con L l k n (by omega) hp) ?_ ?_ ?_ rfl ?_
    · simp [AV.weaks, AV.weak1, AV.weak, AV.pureBs, AV.pureB]
    · refine .cons ?_ (.cons (View.same (by simp only [AV.weaks, AV.weak1, Known.weak]) (by simp only [AV.pureB, Known.pure])) (.cons (.fv .nil (.cons (.ptr (by simp [upd]) (by simp only [upd_eq, if_true]; exact .cons (.fv (.cons .dead .nil) .nil) .nil)) .nil)) .nil))
      exact View.imm _
    · subst hl0; simp only [AV.les2]; exact ⟨by simp [AV.le2, AV.le1], AV.le2_refl _, AV.le2_refl _, trivial⟩
    simp -implicitDefEqProofs only [h0, h3, h4, p2, p3, p4, p5, ht, hE, Known.weak, Known.pure, Known.len, Known.t49, Known.d0, Known.d1, Known.d2, Known.d3, Known.d4, Known.d5, Known.d6, List.drop_zero, wCode_draw, wDraw_cons, wDraw_nil, eff, AV.ptrOf, AV.tokOf, Option.toList_some, Option.toList_none, AV.weaks, AV.weak1, List.reverse_cons, List.reverse_nil, List.nil_append, List.cons_append, wCode_skip, wCode_region, wCode_seq, wCode_cond, wCode_block, wCode_loop, wCode_exit, wCode_ret, wCond_d, wCond_tb, wCond_t, wCond_f, wOps_nil, wOps_cons0, wStep_none, wStep_some, wGuard_dt, wGuard_df, wGuard_bt, wGuard_bf, wGuard_tup, wGuard_undef, wGuard_tt, wGuard_ff, wGuard_tf, wGuard_ft, wPick_d, wPick_tb, wPick_t, wPick_f, wAct_mov, wAct_pick, wAct_iaddr, wAct_call, wAct_box, wAct_alloc, wAct_build, wAct_bsl, wAct_load, wAct_store, wAct_faddr, wAct_aaddr, wAct_sidx, wAct_field, wAct_bin, wBin_add, wBin_sub, wBin_mul, wBin_rem, wBin_eql, wBin_neq, wBin_lss, wBin_leq, wBin_gtr, wBin_geq, wBin_seql, wBin_sneq, wBin_sadd, wBin_shr, wAct_beq, wAct_seq, wAct_un, wAct_convi, wAct_convs, wAct_slc, wAct_sslc, wAct_ext, wAct_slen, wAct_len, wAct_nilc, wAct_mkf, wAct_aidx, wAct_app1, wAct_mm, wAct_peq, wAct_snil, wSnil, wAct_asl, wAct_capv, wAct_mkmap, wAct_mlen, wAct_cpy, wAct_appz, wAct_mksl, wAct_mget, wAct_mset, wAct_callv, wFv_fv, kill_lit, AV.flatB, AV.flatBs, wVal_some, wVal_none, wVal_if, wVal_map, wOpt_some, wOpt_none, wOpt_if, wOpt_map, act, AV.cells, AV.mk, AV.asSl, AV.asInt, AV.vslOf, wIdx, put_some, put_none, ev_tmp, ev_const, newVar_lit, give_lit, spend_lit, st0, env0, upd_eq, off_sys, Nat.zero_add, Nat.reduceAdd, Nat.reduceEqDiff, Nat.reduceLeDiff, ↓reduceIte, AV.ofV, unV, ← decide_not, Classical.not_not, List.getElem?_cons_zero, List.getElem?_cons_succ, Option.getD_some, Option.getD_none, Option.map_some, decide_eq_true_eq, decide_eq_false_iff_not, Bool.not_true, Bool.not_false, Bool.not_eq_true', Bool.not_eq_false', List.drop_zero, List.drop_succ_cons, List.take_succ_cons, List.take_zero, List.length_cons, List.length_nil, List.map_cons, List.map_nil, Bool.false_eq_true, reduceCtorEq, rowsOf, pureCells, AV.weak, AV.pureB, AV.pureBs, List.all_cons, List.all_nil, beq_self_eq_true, Bool.and_true, Bool.and_self, Nat.reduceBEq, if_true, if_false, true_and, and_true, Nat.le_refl, and_self, eq_self, Nat.add_eq_left, Nat.left_eq_add, wOps_fz, Nat.add_assoc]
    refine ⟨rfl, ?_⟩
    refine wCall_I (insert_I L V (K + 200) (l := l.map fun k => .eptr k.row 0) (i := n) (by simp; omega) (by simpa using hp.1) (.inl ⟨rfl, by simp [hl0]⟩)) ?_
    rintro _ s ⟨rfl, q1, q2, q3⟩ he
    obtain ⟨e', g', v', tg', tp', x'⟩ := s
    obtain ⟨qx, qn⟩ := q3
    have qn4 := qn (K + 4) (by omega)
    have qn1 := qn (K + 1) (by omega)
    have qO : Otv K (K + 1000) (⟨e0, g0, v0, tg0, tp0, x0⟩ : St σ) ⟨e0, g', v', tg', tp', x'⟩ := by
      refine ⟨qx.trans hO.1, fun j hj => ?_⟩
      have := qn j (by omega)
      simp only [upd_eq, if_neg (show j ≠ K + 105 by omega), if_neg (show j ≠ K + 106 by omega), if_neg (show j ≠ K + 107 by omega), if_neg (show j ≠ K + 1 by omega)] at this
      simp only [this]
      exact hO.2 j hj
    simp only [upd_eq, Nat.add_eq_left, Nat.add_right_inj, Nat.reduceEqDiff, if_false, if_true] at he qx qn4 qn1 q1 q2
    clear qn
    subst he
    simp -implicitDefEqProofs only [h0, h3, h4, p2, p3, p4, p5, qn4, qn1, q1, q2, ht, hE, Known.weak, Known.pure, Known.len, Known.t49, Known.d0, Known.d1, Known.d2, Known.d3, Known.d4, Known.d5, Known.d6, List.drop_zero, wCode_draw, wDraw_cons, wDraw_nil, eff, AV.ptrOf, AV.tokOf, Option.toList_some, Option.toList_none, AV.weaks, AV.weak1, List.reverse_cons, List.reverse_nil, List.nil_append, List.cons_append, wCode_skip, wCode_region, wCode_seq, wCode_cond, wCode_block, wCode_loop, wCode_exit, wCode_ret, wCond_d, wCond_tb, wCond_t, wCond_f, wOps_nil, wOps_cons0, wStep_none, wStep_some, wGuard_dt, wGuard_df, wGuard_bt, wGuard_bf, wGuard_tup, wGuard_undef, wGuard_tt, wGuard_ff, wGuard_tf, wGuard_ft, wPick_d, wPick_tb, wPick_t, wPick_f, wAct_mov, wAct_pick, wAct_iaddr, wAct_call, wAct_box, wAct_alloc, wAct_build, wAct_bsl, wAct_load, wAct_store, wAct_faddr, wAct_aaddr, wAct_sidx, wAct_field, wAct_bin, wBin_add, wBin_sub, wBin_mul, wBin_rem, wBin_eql, wBin_neq, wBin_lss, wBin_leq, wBin_gtr, wBin_geq, wBin_seql, wBin_sneq, wBin_sadd, wBin_shr, wAct_beq, wAct_seq, wAct_un, wAct_convi, wAct_convs, wAct_slc, wAct_sslc, wAct_ext, wAct_slen, wAct_len, wAct_nilc, wAct_mkf, wAct_aidx, wAct_app1, wAct_mm, wAct_peq, wAct_snil, wSnil, wAct_asl, wAct_capv, wAct_mkmap, wAct_mlen, wAct_cpy, wAct_appz, wAct_mksl, wAct_mget, wAct_mset, wAct_callv, wFv_fv, kill_lit, AV.flatB, AV.flatBs, wVal_some, wVal_none, wVal_if, wVal_map, wOpt_some, wOpt_none, wOpt_if, wOpt_map, act, AV.cells, AV.mk, AV.asSl, AV.asInt, AV.vslOf, wIdx, put_some, put_none, ev_tmp, ev_const, newVar_lit, give_lit, spend_lit, st0, env0, upd_eq, off_sys, Nat.zero_add, Nat.reduceAdd, Nat.reduceEqDiff, Nat.reduceLeDiff, ↓reduceIte, AV.ofV, unV, ← decide_not, Classical.not_not, List.getElem?_cons_zero, List.getElem?_cons_succ, Option.getD_some, Option.getD_none, Option.map_some, decide_eq_true_eq, decide_eq_false_iff_not, Bool.not_true, Bool.not_false, Bool.not_eq_true', Bool.not_eq_false', List.drop_zero, List.drop_succ_cons, List.take_succ_cons, List.take_zero, List.length_cons, List.length_nil, List.map_cons, List.map_nil, Bool.false_eq_true, reduceCtorEq, rowsOf, pureCells, AV.weak, AV.pureB, AV.pureBs, List.all_cons, List.all_nil, beq_self_eq_true, Bool.and_true, Bool.and_self, Nat.reduceBEq, if_true, if_false, true_and, and_true, Nat.le_refl, and_self, eq_self, Nat.add_eq_left, Nat.left_eq_add, ends_one, ends_two, endR_imm, ends_cell, endC_ptr, endsI_none, endsI_one, endsI_two, Value.bool.injEq, Value.int.injEq, upd_eq, Nat.reduceEqDiff, ↓reduceIte, Option.getD_some, wOps_fz, Nat.add_assoc]
    have hlen : (l.take n ++ k :: l.drop n).length = l.length + 1 := by
      have := hp.1
      simp
      omega
    refine ⟨⟨.vsl (K + 290) (g' (K + 290)) 1 0 (l.length + 1) none, us ++ [k], by simp only [qn4.1], by simp only [qn4.1]; exact p2, by simp [upd, splice, qn1.1], by simp only [qn1.1]; exact p4, ?_, ?_, .inr ⟨by rw [hlen], q1, ?_⟩⟩, ?_⟩
    · simp only [upd_eq, Nat.add_right_inj, Nat.reduceEqDiff, if_false]
      exact qn1.2.1
    · refine (List.perm_append_singleton k us).trans ((p6.cons k).trans ?_)
      conv => lhs; rw [← List.take_append_drop n l]
      exact List.perm_middle.symm
    · simp only [upd_eq, Nat.add_right_inj, Nat.reduceEqDiff, if_false]
      refine Eq.trans q2 ?_
      simp
    · refine ⟨qO.1, fun j hj => ?_⟩
      have := qO.2 j hj
      simp only [upd_eq, if_neg (show j ≠ K + 4 by omega)]
      exact this
  · subst ha
    by_cases hfull : l.length = 4000
    · have hE : addE l k = 27 := by simp [addE, hv', hT', hfull]
      simp -implicitDefEqProofs only [h0, h3, h4, p2, p3, p4, p5, ht, hE, wMset, AV.keyc, hset, c_history_History_Add, ends_one, ends_two, endR_imm, ends_cell, endC_ptr, endsI_none, endsI_one, endsI_two, Value.bool.injEq, Value.int.injEq, upd_eq, Nat.reduceEqDiff, ↓reduceIte, Option.getD_some, Known.weak, Known.pure, Known.len, Known.t49, Known.d0, Known.d1, Known.d2, Known.d3, Known.d4, Known.d5, Known.d6, List.drop_zero, wCode_draw, wDraw_cons, wDraw_nil, eff, AV.ptrOf, AV.tokOf, Option.toList_some, Option.toList_none, AV.weaks, AV.weak1, List.reverse_cons, List.reverse_nil, List.nil_append, List.cons_append, wCode_skip, wCode_region, wCode_seq, wCode_cond, wCode_block, wCode_loop, wCode_exit, wCode_ret, wCond_d, wCond_tb, wCond_t, wCond_f, wOps_nil, wOps_cons0, wStep_none, wStep_some, wGuard_dt, wGuard_df, wGuard_bt, wGuard_bf, wGuard_tup, wGuard_undef, wGuard_tt, wGuard_ff, wGuard_tf, wGuard_ft, wPick_d, wPick_tb, wPick_t, wPick_f, wAct_mov, wAct_pick, wAct_iaddr, wAct_call, wAct_box, wAct_alloc, wAct_build, wAct_bsl, wAct_load, wAct_store, wAct_faddr, wAct_aaddr, wAct_sidx, wAct_field, wAct_bin, wBin_add, wBin_sub, wBin_mul, wBin_rem, wBin_eql, wBin_neq, wBin_lss, wBin_leq, wBin_gtr, wBin_geq, wBin_seql, wBin_sneq, wBin_sadd, wBin_shr, wAct_beq, wAct_seq, wAct_un, wAct_convi, wAct_convs, wAct_slc, wAct_sslc, wAct_ext, wAct_slen, wAct_len, wAct_nilc, wAct_mkf, wAct_aidx, wAct_app1, wAct_mm, wAct_peq, wAct_snil, wSnil, wAct_asl, wAct_capv, wAct_mkmap, wAct_mlen, wAct_cpy, wAct_appz, wAct_mksl, wAct_mget, wAct_mset, wAct_callv, wFv_fv, kill_lit, AV.flatB, AV.flatBs, wVal_some, wVal_none, wVal_if, wVal_map, wOpt_some, wOpt_none, wOpt_if, wOpt_map, act, AV.cells, AV.mk, AV.asSl, AV.asInt, AV.vslOf, wIdx, put_some, put_none, ev_tmp, ev_const, newVar_lit, give_lit, spend_lit, st0, env0, upd_eq, off_sys, Nat.zero_add, Nat.reduceAdd, Nat.reduceEqDiff, Nat.reduceLeDiff, ↓reduceIte, AV.ofV, unV, ← decide_not, Classical.not_not, List.getElem?_cons_zero, List.getElem?_cons_succ, Option.getD_some, Option.getD_none, Option.map_some, decide_eq_true_eq, decide_eq_false_iff_not, Bool.not_true, Bool.not_false, Bool.not_eq_true', Bool.not_eq_false', List.drop_zero, List.drop_succ_cons, List.take_succ_cons, List.take_zero, List.length_cons, List.length_nil, List.map_cons, List.map_nil, Bool.false_eq_true, reduceCtorEq, rowsOf, pureCells, AV.weak, AV.pureB, AV.pureBs, List.all_cons, List.all_nil, beq_self_eq_true, Bool.and_true, Bool.and_self, Nat.reduceBEq, if_true, if_false, true_and, and_true, Nat.le_refl, and_self, eq_self, Nat.add_eq_left, Nat.left_eq_add, wOps_fz, Nat.add_assoc]
      refine ⟨rfl, fun _ => ?_, fun h => absurd (by omega) h⟩
      refine keep _ _ fun j h5 h6 h7 => ?_
      simp only [upd_eq, if_neg h5, if_neg h6, and_self]
    have hE : addE l k = 0 := by simp [addE, hv', hT', hfull]
    have hne : ¬ (l.length : Int) = 4000 := by omega
    simp -implicitDefEqProofs only [h0, h3, h4, p2, p3, p4, p5, ht, hE, wMset, AV.keyc, hset, c_history_History_Add, ends_one, ends_two, endR_imm, ends_cell, endC_ptr, endsI_none, endsI_one, endsI_two, Value.bool.injEq, Value.int.injEq, upd_eq, Nat.reduceEqDiff, ↓reduceIte, Option.getD_some, Known.weak, Known.pure, Known.len, Known.t49, Known.d0, Known.d1, Known.d2, Known.d3, Known.d4, Known.d5, Known.d6, List.drop_zero, wCode_draw, wDraw_cons, wDraw_nil, eff, AV.ptrOf, AV.tokOf, Option.toList_some, Option.toList_none, AV.weaks, AV.weak1, List.reverse_cons, List.reverse_nil, List.nil_append, List.cons_append, wCode_skip, wCode_region, wCode_seq, wCode_cond, wCode_block, wCode_loop, wCode_exit, wCode_ret, wCond_d, wCond_tb, wCond_t, wCond_f, wOps_nil, wOps_cons0, wStep_none, wStep_some, wGuard_dt, wGuard_df, wGuard_bt, wGuard_bf, wGuard_tup, wGuard_undef, wGuard_tt, wGuard_ff, wGuard_tf, wGuard_ft, wPick_d, wPick_tb, wPick_t, wPick_f, wAct_mov, wAct_pick, wAct_iaddr, wAct_call, wAct_box, wAct_alloc, wAct_build, wAct_bsl, wAct_load, wAct_store, wAct_faddr, wAct_aaddr, wAct_sidx, wAct_field, wAct_bin, wBin_add, wBin_sub, wBin_mul, wBin_rem, wBin_eql, wBin_neq, wBin_lss, wBin_leq, wBin_gtr, wBin_geq, wBin_seql, wBin_sneq, wBin_sadd, wBin_shr, wAct_beq, wAct_seq, wAct_un, wAct_convi, wAct_convs, wAct_slc, wAct_sslc, wAct_ext, wAct_slen, wAct_len, wAct_nilc, wAct_mkf, wAct_aidx, wAct_app1, wAct_mm, wAct_peq, wAct_snil, wSnil, wAct_asl, wAct_capv, wAct_mkmap, wAct_mlen, wAct_cpy, wAct_appz, wAct_mksl, wAct_mget, wAct_mset, wAct_callv, wFv_fv, kill_lit, AV.flatB, AV.flatBs, wVal_some, wVal_none, wVal_if, wVal_map, wOpt_some, wOpt_none, wOpt_if, wOpt_map, act, AV.cells, AV.mk, AV.asSl, AV.asInt, AV.vslOf, wIdx, put_some, put_none, ev_tmp, ev_const, newVar_lit, give_lit, spend_lit, st0, env0, upd_eq, off_sys, Nat.zero_add, Nat.reduceAdd, Nat.reduceEqDiff, Nat.reduceLeDiff, ↓reduceIte, AV.ofV, unV, ← decide_not, Classical.not_not, List.getElem?_cons_zero, List.getElem?_cons_succ, Option.getD_some, Option.getD_none, Option.map_some, decide_eq_true_eq, decide_eq_false_iff_not, Bool.not_true, Bool.not_false, Bool.not_eq_true', Bool.not_eq_false', List.drop_zero, List.drop_succ_cons, List.take_succ_cons, List.take_zero, List.length_cons, List.length_nil, List.map_cons, List.map_nil, Bool.false_eq_true, reduceCtorEq, rowsOf, pureCells, AV.weak, AV.pureB, AV.pureBs, List.all_cons, List.all_nil, beq_self_eq_true, Bool.and_true, Bool.and_self, Nat.reduceBEq, if_true, if_false, true_and, and_true, Nat.le_refl, and_self, eq_self, Nat.add_eq_left, Nat.left_eq_add, wOps_fz, Nat.add_assoc]
    refine ⟨rfl, fun h => absurd h hne, fun _ => ⟨rfl, ?_⟩⟩
    refine wCall_V (zs := [.sl 1 .ro (l.map prow), .agg k.row, .fv (T.getD 21 0) [] [.eptr [.fv (T.getD 16 0) [.dead] []] 0]]) (bsearch_con L l k n (by omega) hp) ?_ ?_ ?_ rfl ?_
    · simp [AV.weaks, AV.weak1, AV.weak, AV.pureBs, AV.pureB]
    · refine .cons ?_ (.cons (View.same (by simp only [AV.weaks, AV.weak1, Known.weak]) (by simp only [AV.pureB, Known.pure])) (.cons (.fv .nil (.cons (.ptr (by simp [upd]) (by simp only [upd_eq, if_true]; exact .cons (.fv (.cons .dead .nil) .nil) .nil)) .nil)) .nil))
      refine View.vsl (by simp [upd]) (by simp [upd, pv]) (by simp only [upd_eq, Nat.add_right_inj, Nat.reduceEqDiff, if_false, pv]; exact views_prow l) (by simp [prow]) (by simp)
    · exact AV.les2_refl _
    simp -implicitDefEqProofs only [h0, h3, h4, p2, p3, p4, p5, ht, hE, Known.weak, Known.pure, Known.len, Known.t49, Known.d0, Known.d1, Known.d2, Known.d3, Known.d4, Known.d5, Known.d6, List.drop_zero, wCode_draw, wDraw_cons, wDraw_nil, eff, AV.ptrOf, AV.tokOf, Option.toList_some, Option.toList_none, AV.weaks, AV.weak1, List.reverse_cons, List.reverse_nil, List.nil_append, List.cons_append, wCode_skip, wCode_region, wCode_seq, wCode_cond, wCode_block, wCode_loop, wCode_exit, wCode_ret, wCond_d, wCond_tb, wCond_t, wCond_f, wOps_nil, wOps_cons0, wStep_none, wStep_some, wGuard_dt, wGuard_df, wGuard_bt, wGuard_bf, wGuard_tup, wGuard_undef, wGuard_tt, wGuard_ff, wGuard_tf, wGuard_ft, wPick_d, wPick_tb, wPick_t, wPick_f, wAct_mov, wAct_pick, wAct_iaddr, wAct_call, wAct_box, wAct_alloc, wAct_build, wAct_bsl, wAct_load, wAct_store, wAct_faddr, wAct_aaddr, wAct_sidx, wAct_field, wAct_bin, wBin_add, wBin_sub, wBin_mul, wBin_rem, wBin_eql, wBin_neq, wBin_lss, wBin_leq, wBin_gtr, wBin_geq, wBin_seql, wBin_sneq, wBin_sadd, wBin_shr, wAct_beq, wAct_seq, wAct_un, wAct_convi, wAct_convs, wAct_slc, wAct_sslc, wAct_ext, wAct_slen, wAct_len, wAct_nilc, wAct_mkf, wAct_aidx, wAct_app1, wAct_mm, wAct_peq, wAct_snil, wSnil, wAct_asl, wAct_capv, wAct_mkmap, wAct_mlen, wAct_cpy, wAct_appz, wAct_mksl, wAct_mget, wAct_mset, wAct_callv, wFv_fv, kill_lit, AV.flatB, AV.flatBs, wVal_some, wVal_none, wVal_if, wVal_map, wOpt_some, wOpt_none, wOpt_if, wOpt_map, act, AV.cells, AV.mk, AV.asSl, AV.asInt, AV.vslOf, wIdx, put_some, put_none, ev_tmp, ev_const, newVar_lit, give_lit, spend_lit, st0, env0, upd_eq, off_sys, Nat.zero_add, Nat.reduceAdd, Nat.reduceEqDiff, Nat.reduceLeDiff, ↓reduceIte, AV.ofV, unV, ← decide_not, Classical.not_not, List.getElem?_cons_zero, List.getElem?_cons_succ, Option.getD_some, Option.getD_none, Option.map_some, decide_eq_true_eq, decide_eq_false_iff_not, Bool.not_true, Bool.not_false, Bool.not_eq_true', Bool.not_eq_false', List.drop_zero, List.drop_succ_cons, List.take_succ_cons, List.take_zero, List.length_cons, List.length_nil, List.map_cons, List.map_nil, Bool.false_eq_true, reduceCtorEq, rowsOf, pureCells, AV.weak, AV.pureB, AV.pureBs, List.all_cons, List.all_nil, beq_self_eq_true, Bool.and_true, Bool.and_self, Nat.reduceBEq, if_true, if_false, true_and, and_true, Nat.le_refl, and_self, eq_self, Nat.add_eq_left, Nat.left_eq_add, wOps_fz, Nat.add_assoc]
    refine ⟨rfl, ?_⟩
    refine wCall_I (insert_I L V (K + 200) (l := l.map fun k => .eptr k.row 0) (i := n) (by simp; omega) (by simpa using hp.1) (.inr ⟨by simp [upd, Nat.add_assoc], by simp [upd, pg, Nat.add_assoc], by simp [upd, pv, Nat.add_assoc]⟩)) ?_
    rintro _ s ⟨rfl, q1, q2, q3⟩ he
    obtain ⟨e', g', v', tg', tp', x'⟩ := s
    obtain ⟨qx, qn⟩ := q3
    have qn4 := qn (K + 4) (by omega)
    have qn1 := qn (K + 1) (by omega)
    have qO : Otv K (K + 1000) (⟨e0, g0, v0, tg0, tp0, x0⟩ : St σ) ⟨e0, g', v', tg', tp', x'⟩ := by
      refine ⟨qx.trans hO.1, fun j hj => ?_⟩
      have := qn j (by omega)
      simp only [upd_eq, if_neg (show j ≠ K + 105 by omega), if_neg (show j ≠ K + 106 by omega), if_neg (show j ≠ K + 107 by omega), if_neg (show j ≠ K + 1 by omega)] at this
      simp only [this]
      exact hO.2 j hj
    simp only [upd_eq, Nat.add_eq_left, Nat.add_right_inj, Nat.reduceEqDiff, if_false, if_true] at he qx qn4 qn1 q1 q2
    clear qn
    subst he
    simp -implicitDefEqProofs only [h0, h3, h4, p2, p3, p4, p5, qn4, qn1, q1, q2, ht, hE, Known.weak, Known.pure, Known.len, Known.t49, Known.d0, Known.d1, Known.d2, Known.d3, Known.d4, Known.d5, Known.d6, List.drop_zero, wCode_draw, wDraw_cons, wDraw_nil, eff, AV.ptrOf, AV.tokOf, Option.toList_some, Option.toList_none, AV.weaks, AV.weak1, List.reverse_cons, List.reverse_nil, List.nil_append, List.cons_append, wCode_skip, wCode_region, wCode_seq, wCode_cond, wCode_block, wCode_loop, wCode_exit, wCode_ret, wCond_d, wCond_tb, wCond_t, wCond_f, wOps_nil, wOps_cons0, wStep_none, wStep_some, wGuard_dt, wGuard_df, wGuard_bt, wGuard_bf, wGuard_tup, wGuard_undef, wGuard_tt, wGuard_ff, wGuard_tf, wGuard_ft, wPick_d, wPick_tb, wPick_t, wPick_f, wAct_mov, wAct_pick, wAct_iaddr, wAct_call, wAct_box, wAct_alloc, wAct_build, wAct_bsl, wAct_load, wAct_store, wAct_faddr, wAct_aaddr, wAct_sidx, wAct_field, wAct_bin, wBin_add, wBin_sub, wBin_mul, wBin_rem, wBin_eql, wBin_neq, wBin_lss, wBin_leq, wBin_gtr, wBin_geq, wBin_seql, wBin_sneq, wBin_sadd, wBin_shr, wAct_beq, wAct_seq, wAct_un, wAct_convi, wAct_convs, wAct_slc, wAct_sslc, wAct_ext, wAct_slen, wAct_len, wAct_nilc, wAct_mkf, wAct_aidx, wAct_app1, wAct_mm, wAct_peq, wAct_snil, wSnil, wAct_asl, wAct_capv, wAct_mkmap, wAct_mlen, wAct_cpy, wAct_appz, wAct_mksl, wAct_mget, wAct_mset, wAct_callv, wFv_fv, kill_lit, AV.flatB, AV.flatBs, wVal_some, wVal_none, wVal_if, wVal_map, wOpt_some, wOpt_none, wOpt_if, wOpt_map, act, AV.cells, AV.mk, AV.asSl, AV.asInt, AV.vslOf, wIdx, put_some, put_none, ev_tmp, ev_const, newVar_lit, give_lit, spend_lit, st0, env0, upd_eq, off_sys, Nat.zero_add, Nat.reduceAdd, Nat.reduceEqDiff, Nat.reduceLeDiff, ↓reduceIte, AV.ofV, unV, ← decide_not, Classical.not_not, List.getElem?_cons_zero, List.getElem?_cons_succ, Option.getD_some, Option.getD_none, Option.map_some, decide_eq_true_eq, decide_eq_false_iff_not, Bool.not_true, Bool.not_false, Bool.not_eq_true', Bool.not_eq_false', List.drop_zero, List.drop_succ_cons, List.take_succ_cons, List.take_zero, List.length_cons, List.length_nil, List.map_cons, List.map_nil, Bool.false_eq_true, reduceCtorEq, rowsOf, pureCells, AV.weak, AV.pureB, AV.pureBs, List.all_cons, List.all_nil, beq_self_eq_true, Bool.and_true, Bool.and_self, Nat.reduceBEq, if_true, if_false, true_and, and_true, Nat.le_refl, and_self, eq_self, Nat.add_eq_left, Nat.left_eq_add, ends_one, ends_two, endR_imm, ends_cell, endC_ptr, endsI_none, endsI_one, endsI_two, Value.bool.injEq, Value.int.injEq, upd_eq, Nat.reduceEqDiff, ↓reduceIte, Option.getD_some, wOps_fz, Nat.add_assoc]
    have hlen : (l.take n ++ k :: l.drop n).length = l.length + 1 := by
      have := hp.1
      simp
      omega
    refine ⟨⟨.vsl (K + 290) (g' (K + 290)) 1 0 (l.length + 1) none, us ++ [k], by simp only [qn4.1], by simp only [qn4.1]; exact p2, by simp [upd, splice, qn1.1], by simp only [qn1.1]; exact p4, ?_, ?_, .inr ⟨by rw [hlen], q1, ?_⟩⟩, ?_⟩
    · simp only [upd_eq, Nat.add_right_inj, Nat.reduceEqDiff, if_false]
      exact qn1.2.1
    · refine (List.perm_append_singleton k us).trans ((p6.cons k).trans ?_)
      conv => lhs; rw [← List.take_append_drop n l]
      exact List.perm_middle.symm
    · simp only [upd_eq, Nat.add_right_inj, Nat.reduceEqDiff, if_false]
      refine Eq.trans q2 ?_
      simp
    · refine ⟨qO.1, fun j hj => ?_⟩
      have := qO.2 j hj
      simp only [upd_eq, if_neg (show j ≠ K + 4 by omega)]
      exact this
end Go.Av
