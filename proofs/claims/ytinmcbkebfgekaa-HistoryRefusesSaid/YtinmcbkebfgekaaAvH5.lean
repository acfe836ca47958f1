/- OWN TEXT. Histories: Since, New. -/
import Derived.Test.YtinmcbkebfgekaaAvH4
set_option linter.all false
set_option linter.unusedVariables false
set_option linter.unusedSimpArgs false
namespace Go.Av
variable {P : Program} {T : List Nat} {σ : Type}
/-- States that differ by names from lo to hi alone. -/
def Oth (lo hi : Nat) (st s : St σ) : Prop := s.x = st.x ∧ ∀ j, (j < lo ∨ hi ≤ j) → s.gen j = st.gen j ∧ s.var j = st.var j ∧ s.tgen j = st.tgen j ∧ s.top j = st.top j
theorem Oth.refl (lo hi : Nat) (st : St σ) : Oth lo hi st st := ⟨rfl, fun _ _ => ⟨rfl, rfl, rfl, rfl⟩⟩
theorem Oth.trans {lo hi : Nat} {a b c : St σ} (h : Oth lo hi a b) (k : Oth lo hi b c) : Oth lo hi a c :=
  ⟨k.1.trans h.1, fun j hj => ⟨(k.2 j hj).1.trans (h.2 j hj).1, (k.2 j hj).2.1.trans (h.2 j hj).2.1, (k.2 j hj).2.2.1.trans (h.2 j hj).2.2.1, (k.2 j hj).2.2.2.trans (h.2 j hj).2.2.2⟩⟩
theorem Oth.mono {lo hi lo' hi' : Nat} {a b : St σ} (h : Oth lo hi a b) (h1 : lo' ≤ lo) (h2 : hi ≤ hi') : Oth lo' hi' a b := ⟨h.1, fun j hj => h.2 j (by omega)⟩
theorem Oth.tok {d lo hi : Nat} {a b : St σ} (h : TokOnly d a b) (h1 : lo ≤ d) (h2 : d < hi) : Oth lo hi a b :=
  ⟨h.2.2.1, fun j hj => ⟨by rw [h.1], by rw [h.2.1], (h.2.2.2 j (by omega)).1, (h.2.2.2 j (by omega)).2⟩⟩
def sinceK (l : List Known) (id : ByteArray) : Option Known := (upTo l 1000000).find? fun k => decide (k.id = id)
def sinceDay (l : List Known) (id : ByteArray) : Int := match sinceK l id with | some k => k.day | none => 0
theorem find_at {l : List Known} {p : Known → Bool} {i : Nat} {a : Known} (h : ∀ (j : Nat) b, j < i → l[j]? = some b → p b = false) (ha : l[i]? = some a) (hp : p a = true) : l.find? p = some a := by
  induction l generalizing i with
  | nil => simp at ha
  | cons x l ih =>
    cases i with
    | zero => simp at ha; subst ha; simp [hp]
    | succ i =>
      have := h 0 x (by omega) rfl
      simp only [List.find?_cons, this]
      exact ih (i := i) (fun j b hj hb => h (j + 1) b (by omega) (by simpa using hb)) (by simpa using ha)
theorem find_no {l : List Known} {p : Known → Bool} (h : ∀ (j : Nat) b, l[j]? = some b → p b = false) : l.find? p = none := by
  rw [List.find?_eq_none]
  intro x hx
  obtain ⟨j, hj, rfl⟩ := List.mem_iff_getElem.1 hx
  simp [h j _ (List.getElem?_eq_getElem hj)]
theorem since_I (L : Lay P T) {O : Outs σ} {nt k0 : Nat} {th : List Nat} {fz : List (Nat × Nat × Nat)} (k : Nat) {st : St σ} {h : AV} {l : List Known} (id : ByteArray) (hl : l.length ≤ 100000) (hh : HV st h l) :
    (sys O P T nt k0 th fz).I 11 [h, .imm (.string id)] st (fun x s => x = .tup [.imm (.int .i64 (sinceDay l id)), .imm (.bool (decide (HasK (upTo l 1000000) id)))] ∧ Oth k (k + 100) st s) := by
  refine I_of L.t_history_History_Since k [] [] (by exact Nat.le_of_ble_eq_true rfl) ?_
  show wCode _ b_history_History_Since _ _ _ _
  obtain ⟨e0, g0, v0, tg0, tp0, x0⟩ := st
  simp -implicitDefEqProofs only [b_history_History_Since, wCode_draw, wDraw_cons, wDraw_nil, eff, AV.ptrOf, AV.tokOf, Option.toList_some, Option.toList_none, AV.weaks, AV.weak1, List.reverse_cons, List.reverse_nil, List.nil_append, List.cons_append, wCode_skip, wCode_region, wCode_seq, wCode_cond, wCode_block, wCode_loop, wCode_exit, wCode_ret, wCond_d, wCond_tb, wCond_t, wCond_f, wOps_nil, wOps_cons0, wStep_none, wStep_some, wGuard_dt, wGuard_df, wGuard_bt, wGuard_bf, wGuard_tup, wGuard_undef, wGuard_tt, wGuard_ff, wGuard_tf, wGuard_ft, wPick_d, wPick_tb, wPick_t, wPick_f, wAct_mov, wAct_pick, wAct_iaddr, wAct_call, wAct_box, wAct_alloc, wAct_build, wAct_bsl, wAct_load, wAct_store, wAct_faddr, wAct_aaddr, wAct_sidx, wAct_field, wAct_bin, wBin_add, wBin_sub, wBin_mul, wBin_rem, wBin_eql, wBin_neq, wBin_lss, wBin_leq, wBin_gtr, wBin_geq, wBin_seql, wBin_sneq, wBin_sadd, wBin_shr, wAct_beq, wAct_seq, wAct_un, wAct_convi, wAct_convs, wAct_slc, wAct_sslc, wAct_ext, wAct_slen, wAct_len, wAct_nilc, wAct_mkf, wAct_aidx, wAct_app1, wAct_mm, wAct_peq, wAct_snil, wSnil, wAct_asl, wAct_capv, wAct_mkmap, wAct_mlen, wAct_cpy, wAct_appz, wAct_mksl, wAct_mget, wAct_mset, wAct_callv, wFv_fv, kill_lit, AV.flatB, AV.flatBs, wVal_some, wVal_none, wVal_if, wVal_map, wOpt_some, wOpt_none, wOpt_if, wOpt_map, act, AV.cells, AV.mk, AV.asSl, AV.asInt, AV.vslOf, wIdx, put_some, put_none, ev_tmp, ev_const, newVar_lit, give_lit, spend_lit, st0, env0, upd_eq, off_sys, Nat.zero_add, Nat.reduceAdd, Nat.reduceEqDiff, Nat.reduceLeDiff, ↓reduceIte, AV.ofV, unV, ← decide_not, Classical.not_not, List.getElem?_cons_zero, List.getElem?_cons_succ, Option.getD_some, Option.getD_none, Option.map_some, decide_eq_true_eq, decide_eq_false_iff_not, Bool.not_true, Bool.not_false, Bool.not_eq_true', Bool.not_eq_false', List.drop_zero, List.drop_succ_cons, List.take_succ_cons, List.take_zero, List.length_cons, List.length_nil, List.map_cons, List.map_nil, Bool.false_eq_true, reduceCtorEq, rowsOf, pureCells, AV.weak, AV.pureB, AV.pureBs, List.all_cons, List.all_nil, beq_self_eq_true, Bool.and_true, Bool.and_self, Nat.reduceBEq, if_true, if_false, true_and, and_true, Nat.le_refl, and_self, eq_self, Nat.add_eq_left, Nat.left_eq_add]
  refine wCall_I (at_I L (k + 50) 1000000 hl (by exact hh)) ?_
  rintro _ s ⟨rfl, hs⟩ he
  obtain ⟨e, g, v, tg, tp, x⟩ := s
  obtain ⟨hg, hv, hx, htk⟩ := hs
  simp only at he htk hg hv hx
  subst he; subst hg; subst hv; subst hx
  have hrows : (upTo l 1000000).length ≤ 100000 := by
    have := (List.takeWhile_sublist (fun k : Known => decide (k.day ≤ 1000000)) (l := l)).length_le
    exact Nat.le_trans this hl
  have hsd : ∀ r, (upTo l 1000000).find? (fun k => decide (k.id = id)) = r → sinceDay l id = match r with | some k => k.day | none => 0 := by rintro r rfl; rfl
  generalize upTo l 1000000 = m at *
  simp -implicitDefEqProofs only [wCode_draw, wDraw_cons, wDraw_nil, eff, AV.ptrOf, AV.tokOf, Option.toList_some, Option.toList_none, AV.weaks, AV.weak1, List.reverse_cons, List.reverse_nil, List.nil_append, List.cons_append, wCode_skip, wCode_region, wCode_seq, wCode_cond, wCode_block, wCode_loop, wCode_exit, wCode_ret, wCond_d, wCond_tb, wCond_t, wCond_f, wOps_nil, wOps_cons0, wStep_none, wStep_some, wGuard_dt, wGuard_df, wGuard_bt, wGuard_bf, wGuard_tup, wGuard_undef, wGuard_tt, wGuard_ff, wGuard_tf, wGuard_ft, wPick_d, wPick_tb, wPick_t, wPick_f, wAct_mov, wAct_pick, wAct_iaddr, wAct_call, wAct_box, wAct_alloc, wAct_build, wAct_bsl, wAct_load, wAct_store, wAct_faddr, wAct_aaddr, wAct_sidx, wAct_field, wAct_bin, wBin_add, wBin_sub, wBin_mul, wBin_rem, wBin_eql, wBin_neq, wBin_lss, wBin_leq, wBin_gtr, wBin_geq, wBin_seql, wBin_sneq, wBin_sadd, wBin_shr, wAct_beq, wAct_seq, wAct_un, wAct_convi, wAct_convs, wAct_slc, wAct_sslc, wAct_ext, wAct_slen, wAct_len, wAct_nilc, wAct_mkf, wAct_aidx, wAct_app1, wAct_mm, wAct_peq, wAct_snil, wSnil, wAct_asl, wAct_capv, wAct_mkmap, wAct_mlen, wAct_cpy, wAct_appz, wAct_mksl, wAct_mget, wAct_mset, wAct_callv, wFv_fv, kill_lit, AV.flatB, AV.flatBs, wVal_some, wVal_none, wVal_if, wVal_map, wOpt_some, wOpt_none, wOpt_if, wOpt_map, act, AV.cells, AV.mk, AV.asSl, AV.asInt, AV.vslOf, wIdx, put_some, put_none, ev_tmp, ev_const, newVar_lit, give_lit, spend_lit, st0, env0, upd_eq, off_sys, Nat.zero_add, Nat.reduceAdd, Nat.reduceEqDiff, Nat.reduceLeDiff, ↓reduceIte, AV.ofV, unV, ← decide_not, Classical.not_not, List.getElem?_cons_zero, List.getElem?_cons_succ, Option.getD_some, Option.getD_none, Option.map_some, decide_eq_true_eq, decide_eq_false_iff_not, Bool.not_true, Bool.not_false, Bool.not_eq_true', Bool.not_eq_false', List.drop_zero, List.drop_succ_cons, List.take_succ_cons, List.take_zero, List.length_cons, List.length_nil, List.map_cons, List.map_nil, Bool.false_eq_true, reduceCtorEq, rowsOf, pureCells, AV.weak, AV.pureB, AV.pureBs, List.all_cons, List.all_nil, beq_self_eq_true, Bool.and_true, Bool.and_self, Nat.reduceBEq, if_true, if_false, true_and, and_true, Nat.le_refl, and_self, eq_self, Nat.add_eq_left, Nat.left_eq_add, List.length_map]
  refine AW.loop (fun n s => s.env 1 = .imm (.string id) ∧ s.env 9 = .sl 49 .ro (m.map Known.row) ∧ s.env 10 = .imm (.int .i64 m.length) ∧ Oth k (k + 100) (⟨e0, g, v, tg0, tp0, x⟩ : St σ) s ∧ ∃ i : Nat, i + n = m.length ∧ s.env 11 = .imm (.int .i64 i) ∧ ∀ j b, j < i → m[j]? = some b → ¬ b.id = id) m.length ?_ ?_
  · refine ⟨rfl, rfl, rfl, ⟨rfl, fun j hj => ⟨rfl, rfl, htk j (by omega)⟩⟩, 0, by simp, rfl, fun j b hj => absurd hj (Nat.not_lt_zero _)⟩
  · rintro n ⟨e, g', v', tg', tp', x'⟩ ⟨h1, h9, h10, ho, i, hi, h11, hn⟩
    simp only at h1 h9 h10 h11
    have hfr : ∀ (e1 e2 : Nat → AV) (gg : Nat) (vv : List AV), Oth k (k + 100) (⟨e1, g, v, tg0, tp0, x⟩ : St σ) ⟨e2, upd g' (k + 7) gg, upd v' (k + 7) vv, tg', tp', x'⟩ := fun e1 e2 gg vv =>
      ⟨ho.1, fun j hj => ⟨(upd_ne _ _ _ (by omega)).trans (ho.2 j hj).1, (upd_ne _ _ _ (by omega)).trans (ho.2 j hj).2.1, (ho.2 j hj).2.2⟩⟩
    have hfr2 : ∀ (e1 e2 : Nat → AV) (gg : Nat) (vv ww : List AV), Oth k (k + 100) (⟨e1, g, v, tg0, tp0, x⟩ : St σ) ⟨e2, upd g' (k + 7) gg, upd (upd v' (k + 7) ww) (k + 7) vv, tg', tp', x'⟩ := fun e1 e2 gg vv ww => by
      have := hfr e1 e2 gg vv
      refine ⟨this.1, fun j hj => ⟨(this.2 j hj).1, ?_, (this.2 j hj).2.2⟩⟩
      show upd (upd v' (k + 7) ww) (k + 7) vv j = v j
      rw [upd_ne _ _ _ (show j ≠ k + 7 by omega), upd_ne _ _ _ (show j ≠ k + 7 by omega)]
      exact (ho.2 j hj).2.1
    simp -implicitDefEqProofs only [l_history_History_Since_0, h1, h9, h10, h11, splice_all, Known.weak, Known.pure, Known.len, Known.t49, Known.d0, Known.d1, Known.d2, Known.d3, Known.d4, Known.d5, Known.d6, List.drop_zero, wCode_draw, wDraw_cons, wDraw_nil, eff, AV.ptrOf, AV.tokOf, Option.toList_some, Option.toList_none, AV.weaks, AV.weak1, List.reverse_cons, List.reverse_nil, List.nil_append, List.cons_append, wCode_skip, wCode_region, wCode_seq, wCode_cond, wCode_block, wCode_loop, wCode_exit, wCode_ret, wCond_d, wCond_tb, wCond_t, wCond_f, wOps_nil, wOps_cons0, wStep_none, wStep_some, wGuard_dt, wGuard_df, wGuard_bt, wGuard_bf, wGuard_tup, wGuard_undef, wGuard_tt, wGuard_ff, wGuard_tf, wGuard_ft, wPick_d, wPick_tb, wPick_t, wPick_f, wAct_mov, wAct_pick, wAct_iaddr, wAct_call, wAct_box, wAct_alloc, wAct_build, wAct_bsl, wAct_load, wAct_store, wAct_faddr, wAct_aaddr, wAct_sidx, wAct_field, wAct_bin, wBin_add, wBin_sub, wBin_mul, wBin_rem, wBin_eql, wBin_neq, wBin_lss, wBin_leq, wBin_gtr, wBin_geq, wBin_seql, wBin_sneq, wBin_sadd, wBin_shr, wAct_beq, wAct_seq, wAct_un, wAct_convi, wAct_convs, wAct_slc, wAct_sslc, wAct_ext, wAct_slen, wAct_len, wAct_nilc, wAct_mkf, wAct_aidx, wAct_app1, wAct_mm, wAct_peq, wAct_snil, wSnil, wAct_asl, wAct_capv, wAct_mkmap, wAct_mlen, wAct_cpy, wAct_appz, wAct_mksl, wAct_mget, wAct_mset, wAct_callv, wFv_fv, kill_lit, AV.flatB, AV.flatBs, wVal_some, wVal_none, wVal_if, wVal_map, wOpt_some, wOpt_none, wOpt_if, wOpt_map, act, AV.cells, AV.mk, AV.asSl, AV.asInt, AV.vslOf, wIdx, put_some, put_none, ev_tmp, ev_const, newVar_lit, give_lit, spend_lit, st0, env0, upd_eq, off_sys, Nat.zero_add, Nat.reduceAdd, Nat.reduceEqDiff, Nat.reduceLeDiff, ↓reduceIte, AV.ofV, unV, ← decide_not, Classical.not_not, List.getElem?_cons_zero, List.getElem?_cons_succ, Option.getD_some, Option.getD_none, Option.map_some, decide_eq_true_eq, decide_eq_false_iff_not, Bool.not_true, Bool.not_false, Bool.not_eq_true', Bool.not_eq_false', List.drop_zero, List.drop_succ_cons, List.take_succ_cons, List.take_zero, List.length_cons, List.length_nil, List.map_cons, List.map_nil, Bool.false_eq_true, reduceCtorEq, rowsOf, pureCells, AV.weak, AV.pureB, AV.pureBs, List.all_cons, List.all_nil, beq_self_eq_true, Bool.and_true, Bool.and_self, Nat.reduceBEq, if_true, if_false, true_and, and_true, Nat.le_refl, and_self, eq_self, Nat.add_eq_left, Nat.left_eq_add, List.length_map, List.getElem?_map, Option.map_eq_some_iff, forall_exists_index, and_imp, forall_apply_eq_imp_iff₂, Int.toNat_natCast]
    refine ⟨fun hlt => ⟨⟨by omega, hlt⟩, fun a ha => ?_⟩, fun hge => ?_⟩
    · refine ⟨fun he => ?_, fun hne => ?_⟩
      · simp -implicitDefEqProofs only [c_history_History_Since, ends_one, ends_two, endR_imm, ends_cell, endC_ptr, endsI_none, endsI_one, endsI_two, Value.bool.injEq, Value.int.injEq, upd_eq, Nat.reduceEqDiff, ↓reduceIte, Option.getD_some]
        rw [hsd (some a) (find_at (fun j b hj hb => decide_eq_false (hn j b hj hb)) ha (decide_eq_true he))]
        exact ⟨by rw [decide_eq_true (p := HasK m id) ⟨a, List.mem_of_getElem? ha, he⟩], hfr2 _ _ _ _ _⟩
      · refine ⟨n - 1, by omega, hfr2 _ _ _ _ _, i + 1, by omega, ?_, fun j b hj hb => ?_⟩
        · rw [IntWalk.i64_in _ (by omega)]; rfl
        · rcases Nat.lt_succ_iff_lt_or_eq.1 hj with hj | rfl
          · exact hn j b hj hb
          · rw [ha] at hb; injection hb with hb; rw [← hb]; exact hne
    · simp -implicitDefEqProofs only [c_history_History_Since, wCode_draw, wDraw_cons, wDraw_nil, eff, AV.ptrOf, AV.tokOf, Option.toList_some, Option.toList_none, AV.weaks, AV.weak1, List.reverse_cons, List.reverse_nil, List.nil_append, List.cons_append, wCode_skip, wCode_region, wCode_seq, wCode_cond, wCode_block, wCode_loop, wCode_exit, wCode_ret, wCond_d, wCond_tb, wCond_t, wCond_f, wOps_nil, wOps_cons0, wStep_none, wStep_some, wGuard_dt, wGuard_df, wGuard_bt, wGuard_bf, wGuard_tup, wGuard_undef, wGuard_tt, wGuard_ff, wGuard_tf, wGuard_ft, wPick_d, wPick_tb, wPick_t, wPick_f, wAct_mov, wAct_pick, wAct_iaddr, wAct_call, wAct_box, wAct_alloc, wAct_build, wAct_bsl, wAct_load, wAct_store, wAct_faddr, wAct_aaddr, wAct_sidx, wAct_field, wAct_bin, wBin_add, wBin_sub, wBin_mul, wBin_rem, wBin_eql, wBin_neq, wBin_lss, wBin_leq, wBin_gtr, wBin_geq, wBin_seql, wBin_sneq, wBin_sadd, wBin_shr, wAct_beq, wAct_seq, wAct_un, wAct_convi, wAct_convs, wAct_slc, wAct_sslc, wAct_ext, wAct_slen, wAct_len, wAct_nilc, wAct_mkf, wAct_aidx, wAct_app1, wAct_mm, wAct_peq, wAct_snil, wSnil, wAct_asl, wAct_capv, wAct_mkmap, wAct_mlen, wAct_cpy, wAct_appz, wAct_mksl, wAct_mget, wAct_mset, wAct_callv, wFv_fv, kill_lit, AV.flatB, AV.flatBs, wVal_some, wVal_none, wVal_if, wVal_map, wOpt_some, wOpt_none, wOpt_if, wOpt_map, act, AV.cells, AV.mk, AV.asSl, AV.asInt, AV.vslOf, wIdx, put_some, put_none, ev_tmp, ev_const, newVar_lit, give_lit, spend_lit, st0, env0, upd_eq, off_sys, Nat.zero_add, Nat.reduceAdd, Nat.reduceEqDiff, Nat.reduceLeDiff, ↓reduceIte, AV.ofV, unV, ← decide_not, Classical.not_not, List.getElem?_cons_zero, List.getElem?_cons_succ, Option.getD_some, Option.getD_none, Option.map_some, decide_eq_true_eq, decide_eq_false_iff_not, Bool.not_true, Bool.not_false, Bool.not_eq_true', Bool.not_eq_false', List.drop_zero, List.drop_succ_cons, List.take_succ_cons, List.take_zero, List.length_cons, List.length_nil, List.map_cons, List.map_nil, Bool.false_eq_true, reduceCtorEq, rowsOf, pureCells, AV.weak, AV.pureB, AV.pureBs, List.all_cons, List.all_nil, beq_self_eq_true, Bool.and_true, Bool.and_self, Nat.reduceBEq, if_true, if_false, true_and, and_true, Nat.le_refl, and_self, eq_self, Nat.add_eq_left, Nat.left_eq_add, ends_one, ends_two, endR_imm, ends_cell, endC_ptr, endsI_none, endsI_one, endsI_two, Value.bool.injEq, Value.int.injEq, upd_eq, Nat.reduceEqDiff, ↓reduceIte, Option.getD_some]
      rw [hsd none (find_no fun j b hb => decide_eq_false (hn j b (by have := (List.getElem?_eq_some_iff.1 hb).1; omega) hb))]
      refine ⟨?_, ho⟩
      have : ¬ HasK m id := by
        rintro ⟨a, ha, he⟩
        obtain ⟨j, hj, rfl⟩ := List.mem_iff_getElem.1 ha
        exact hn j _ (by omega) (List.getElem?_eq_getElem hj) he
      rw [decide_eq_false this]
/-! ### a history that may be changed -/
def mrow (k : Known) : AV := .tup [.agg [.imm (.int .i64 0), .imm (.int .i64 k.office), .imm (.int .i64 k.number), .imm (.int .i64 k.index)], .imm (.bool true)]
/-- The history at names K to K + 1000 holds l. -/
def HS (K : Nat) (st : St σ) (h : AV) (l : List Known) : Prop :=
  ∃ (acts : AV) (us : List Known), h = .ptr (K + 4) (st.gen (K + 4)) 0 ∧ 1 ≤ st.gen (K + 4) ∧ st.var (K + 4) = [acts, .mp (K + 1) (st.gen (K + 1))] ∧ 1 ≤ st.gen (K + 1) ∧ st.var (K + 1) = us.map mrow ∧ us.Perm l ∧
    ((acts = .imm (.slice none 0 0) ∧ l = []) ∨ acts = .vsl (K + 290) (st.gen (K + 290)) 1 0 l.length none ∧ 1 ≤ st.gen (K + 290) ∧ st.var (K + 290) = l.map fun k => .eptr k.row 0)
theorem HS.hv {K : Nat} {st : St σ} {h : AV} {l : List Known} (hs : HS K st h l) : HV st h l := by
  obtain ⟨acts, us, h1, h2, h3, h4, h5, h6, h7⟩ := hs
  refine ⟨acts, _, ?_, .inl ⟨_, _, h1, rfl, h2, h3⟩⟩
  rcases h7 with h7 | ⟨h7, h8, h9⟩
  · exact .inl h7
  · exact .inr (.inr ⟨_, _, _, h7, rfl, h8, h9⟩)
theorem HS.oth {K lo hi : Nat} {st s : St σ} {h : AV} {l : List Known} (hs : HS K st h l) (ho : Oth lo hi st s) (hk : K + 1000 ≤ lo ∨ hi ≤ K) : HS K s h l := by
  obtain ⟨acts, us, h1, h2, h3, h4, h5, h6, h7⟩ := hs
  obtain ⟨a1, a2, _⟩ := ho.2 (K + 4) (by omega)
  obtain ⟨b1, b2, _⟩ := ho.2 (K + 1) (by omega)
  obtain ⟨c1, c2, _⟩ := ho.2 (K + 290) (by omega)
  refine ⟨acts, us, ?_⟩
  rw [a1, a2, b1, b2, c1, c2]
  exact ⟨h1, h2, h3, h4, h5, h6, h7⟩
theorem new_I (L : Lay P T) {O : Outs σ} {nt k0 : Nat} {th : List Nat} {fz : List (Nat × Nat × Nat)} (K : Nat) {st : St σ} :
    (sys O P T nt k0 th fz).I 14 [] st (fun x s => HS K s x [] ∧ Oth K (K + 1000) st s) := by
  refine I_of L.t_history_New K [] [] (by exact Nat.le_of_ble_eq_true rfl) ?_
  show wCode _ b_history_New _ _ _ _
  obtain ⟨e0, g0, v0, tg0, tp0, x0⟩ := st
  simp -implicitDefEqProofs only [b_history_New, fills, splice, List.drop_nil, List.append_nil, List.nil_append, wCode_draw, wDraw_cons, wDraw_nil, eff, AV.ptrOf, AV.tokOf, Option.toList_some, Option.toList_none, AV.weaks, AV.weak1, List.reverse_cons, List.reverse_nil, List.nil_append, List.cons_append, wCode_skip, wCode_region, wCode_seq, wCode_cond, wCode_block, wCode_loop, wCode_exit, wCode_ret, wCond_d, wCond_tb, wCond_t, wCond_f, wOps_nil, wOps_cons0, wStep_none, wStep_some, wGuard_dt, wGuard_df, wGuard_bt, wGuard_bf, wGuard_tup, wGuard_undef, wGuard_tt, wGuard_ff, wGuard_tf, wGuard_ft, wPick_d, wPick_tb, wPick_t, wPick_f, wAct_mov, wAct_pick, wAct_iaddr, wAct_call, wAct_box, wAct_alloc, wAct_build, wAct_bsl, wAct_load, wAct_store, wAct_faddr, wAct_aaddr, wAct_sidx, wAct_field, wAct_bin, wBin_add, wBin_sub, wBin_mul, wBin_rem, wBin_eql, wBin_neq, wBin_lss, wBin_leq, wBin_gtr, wBin_geq, wBin_seql, wBin_sneq, wBin_sadd, wBin_shr, wAct_beq, wAct_seq, wAct_un, wAct_convi, wAct_convs, wAct_slc, wAct_sslc, wAct_ext, wAct_slen, wAct_len, wAct_nilc, wAct_mkf, wAct_aidx, wAct_app1, wAct_mm, wAct_peq, wAct_snil, wSnil, wAct_asl, wAct_capv, wAct_mkmap, wAct_mlen, wAct_cpy, wAct_appz, wAct_mksl, wAct_mget, wAct_mset, wAct_callv, wFv_fv, kill_lit, AV.flatB, AV.flatBs, wVal_some, wVal_none, wVal_if, wVal_map, wOpt_some, wOpt_none, wOpt_if, wOpt_map, act, AV.cells, AV.mk, AV.asSl, AV.asInt, AV.vslOf, wIdx, put_some, put_none, ev_tmp, ev_const, newVar_lit, give_lit, spend_lit, st0, env0, upd_eq, off_sys, Nat.zero_add, Nat.reduceAdd, Nat.reduceEqDiff, Nat.reduceLeDiff, ↓reduceIte, AV.ofV, unV, ← decide_not, Classical.not_not, List.getElem?_cons_zero, List.getElem?_cons_succ, Option.getD_some, Option.getD_none, Option.map_some, decide_eq_true_eq, decide_eq_false_iff_not, Bool.not_true, Bool.not_false, Bool.not_eq_true', Bool.not_eq_false', List.drop_zero, List.drop_succ_cons, List.take_succ_cons, List.take_zero, List.length_cons, List.length_nil, List.map_cons, List.map_nil, Bool.false_eq_true, reduceCtorEq, rowsOf, pureCells, AV.weak, AV.pureB, AV.pureBs, List.all_cons, List.all_nil, beq_self_eq_true, Bool.and_true, Bool.and_self, Nat.reduceBEq, if_true, if_false, true_and, and_true, Nat.le_refl, and_self, eq_self, Nat.add_eq_left, Nat.left_eq_add]
  simp -implicitDefEqProofs only [c_history_New, ends_one, ends_two, endR_imm, ends_cell, endC_ptr, endsI_none, endsI_one, endsI_two, Value.bool.injEq, Value.int.injEq, upd_eq, Nat.reduceEqDiff, ↓reduceIte, Option.getD_some]
  refine ⟨⟨.imm (.slice none 0 0), [], by simp [upd], by simp [upd], by simp [upd], by simp [upd], by simp [upd], List.Perm.refl _, .inl ⟨rfl, rfl⟩⟩, rfl, fun j hj => ?_⟩
  simp only [upd_eq, if_neg (show j ≠ K + 4 by omega), if_neg (show j ≠ K + 1 by omega), and_self]
end Go.Av
