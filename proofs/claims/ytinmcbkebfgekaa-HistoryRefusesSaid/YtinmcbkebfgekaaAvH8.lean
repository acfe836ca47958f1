/- OWN TEXT. Histories: lists of acts that are added one after the other. -/
import Derived.Test.YtinmcbkebfgekaaAvH7
set_option linter.all false
set_option linter.unusedVariables false
set_option linter.unusedSimpArgs false
namespace Go.Av
variable {P : Program} {T : List Nat} {σ : Type}
/-! ### the order -/
theorem cmpI_lt {a b : Int} : cmpI a b < 0 ↔ a < b := by unfold cmpI; (repeat' split) <;> omega
theorem cmpI_eq {a b : Int} : cmpI a b = 0 ↔ a = b := by unfold cmpI; (repeat' split) <;> omega
theorem cmpI_m1 {a b : Int} : cmpI a b = -1 ↔ a < b := by unfold cmpI; (repeat' split) <;> omega
theorem ordK_lt {a b : Known} : ordK a b < 0 ↔ a.day < b.day ∨ a.day = b.day ∧ (a.office < b.office ∨ a.office = b.office ∧ (a.number < b.number ∨ a.number = b.number ∧ a.index < b.index)) := by
  unfold ordK; (repeat' split) <;> simp only [cmpI_lt] <;> omega
theorem ordK_m1 {a b : Known} : ordK a b = -1 ↔ ordK a b < 0 := by
  unfold ordK; (repeat' split) <;> simp only [cmpI_lt, cmpI_m1]
theorem ordK_refl (a : Known) : ordK a a = 0 := by simp [ordK, cmpI]
theorem ordK_trans {a b c : Known} (h : ordK a b < 0) (k : ordK b c < 0) : ordK a c < 0 := by rw [ordK_lt] at *; omega
theorem ordK_ge {a b : Known} (h : ¬ ordK a b < 0) (hs : ¬ SamePl a b) : ordK b a < 0 := by
  rw [ordK_lt] at *
  unfold SamePl at hs
  omega
theorem EqK.refl (a : Known) : EqK a a := ⟨ordK_refl a, rfl, rfl, rfl⟩
theorem SameK.refl (l : List Known) : SameK l l := ⟨rfl, fun i _ _ => EqK.refl _⟩
/-! ### adding -/
def placeN (l : List Known) (k : Known) : Nat := (l.takeWhile fun a => decide (ordK a k < 0)).length
def addTo (l : List Known) (k : Known) : List Known := if addE l k = 0 then l.take (placeN l k) ++ k :: l.drop (placeN l k) else l
def addS (p : List Known × List Int) (k : Known) : List Known × List Int := (addTo p.1 k, p.2 ++ [addE p.1 k])
def runA (am : List Known) : List Known × List Int := am.foldl addS ([], [])
/-- What a history holds. -/
structure Good (l : List Known) : Prop where
  ord : l.Pairwise fun a b => ordK a b < 0
  val : ∀ a ∈ l, ValidK a.day a.office a.number a.index
  dif : ∀ a ∈ l, ∀ b ∈ l, SamePl a b → a = b
  len : l.length ≤ 4000
theorem take_len_takeWhile {α : Type} (p : α → Bool) (l : List α) : l.take (l.takeWhile p).length = l.takeWhile p := by
  induction l with
  | nil => rfl
  | cons a l ih =>
    by_cases h : p a = true
    · simp [h, ih]
    · simp [h]
theorem drop_len_takeWhile {α : Type} (p : α → Bool) (l : List α) : l.drop (l.takeWhile p).length = l.dropWhile p := by
  induction l with
  | nil => rfl
  | cons a l ih =>
    by_cases h : p a = true
    · simp [h, ih]
    · simp [h]
/-- Behind the place nothing is smaller. -/
theorem dropWhile_ge {l : List Known} {k : Known} (h : l.Pairwise fun a b => ordK a b < 0) : ∀ a ∈ l.dropWhile (fun a => decide (ordK a k < 0)), ¬ ordK a k < 0 := by
  induction l with
  | nil => intro a ha; cases ha
  | cons x l ih =>
    rw [List.pairwise_cons] at h
    by_cases hx : ordK x k < 0
    · simp only [List.dropWhile_cons, hx, decide_true, if_true]
      exact ih h.2
    · simp only [List.dropWhile_cons, hx, decide_false, Bool.false_eq_true, if_false, List.mem_cons]
      rintro a (rfl | ha)
      · exact hx
      · exact fun hk => hx (ordK_trans (h.1 a ha) hk)
theorem Place_of {l : List Known} {k : Known} (h : l.Pairwise fun a b => ordK a b < 0) : Place l k (placeN l k) := by
  refine ⟨(List.takeWhile_sublist _).length_le, fun i a hi ha => ?_, fun i a hi ha => ?_⟩
  · have : a ∈ l.takeWhile fun a => decide (ordK a k < 0) := by
      rw [← take_len_takeWhile]
      refine List.mem_of_getElem? (i := i) ?_
      have hi' : i < (l.takeWhile fun a => decide (ordK a k < 0)).length := hi
      rw [List.getElem?_take, if_pos hi']
      exact ha
    have := List.all_takeWhile (p := fun a => decide (ordK a k < 0)) (l := l)
    rw [List.all_eq_true] at this
    exact of_decide_eq_true (this a ‹_›)
  · have : a ∈ l.dropWhile fun a => decide (ordK a k < 0) := by
      rw [← drop_len_takeWhile]
      refine List.mem_of_getElem? (i := i - placeN l k) ?_
      rw [List.getElem?_drop]
      rw [← ha]
      congr 1
      unfold placeN at *
      omega
    have := dropWhile_ge h a this
    omega
theorem mem_addTo {l : List Known} {k a : Known} (h : addE l k = 0) : a ∈ addTo l k ↔ a = k ∨ a ∈ l := by
  rw [addTo, if_pos h]
  conv => rhs; rw [← List.take_append_drop (placeN l k) l]
  simp only [List.mem_append, List.mem_cons]
  constructor
  · rintro (h | h | h) <;> simp [h]
  · rintro (h | h | h) <;> simp [h]
theorem addTo_perm {l : List Known} {k : Known} (h : addE l k = 0) : (addTo l k).Perm (k :: l) := by
  rw [addTo, if_pos h]
  conv => rhs; rw [← List.take_append_drop (placeN l k) l]
  exact List.perm_middle
theorem addE_0 {l : List Known} {k : Known} : addE l k = 0 ↔ ValidK k.day k.office k.number k.index ∧ ¬ Taken l k ∧ l.length ≠ 4000 := by
  unfold addE
  repeat' split
  all_goals simp_all
theorem SamePl.symm {a b : Known} (h : SamePl a b) : SamePl b a := ⟨h.1.symm, h.2.1.symm, h.2.2.symm⟩
theorem Good.add {l : List Known} (h : Good l) (k : Known) : Good (addTo l k) := by
  by_cases he : addE l k = 0
  · have h0 := addE_0.1 he
    have hm := fun a => mem_addTo (a := a) he
    refine ⟨?_, fun a ha => ?_, fun a ha b hb hs => ?_, ?_⟩
    · rw [addTo, if_pos he, placeN, take_len_takeWhile, drop_len_takeWhile, List.pairwise_append]
      refine ⟨h.ord.sublist (List.takeWhile_sublist _), ?_, fun a ha b hb => ?_⟩
      · rw [List.pairwise_cons]
        refine ⟨fun b hb => ?_, h.ord.sublist (List.dropWhile_sublist _)⟩
        refine ordK_ge (dropWhile_ge h.ord b hb) fun hs => h0.2.1 ⟨b, (List.dropWhile_sublist _).subset hb, hs.symm⟩
      · have hak : ordK a k < 0 := by
          have := List.all_takeWhile (p := fun a => decide (ordK a k < 0)) (l := l)
          rw [List.all_eq_true] at this
          exact of_decide_eq_true (this a ha)
        rcases List.mem_cons.1 hb with rfl | hb
        · exact hak
        · refine ordK_trans hak (ordK_ge (dropWhile_ge h.ord b hb) fun hs => h0.2.1 ⟨b, (List.dropWhile_sublist _).subset hb, hs.symm⟩)
    · rcases (hm a).1 ha with rfl | ha
      · exact h0.1
      · exact h.val a ha
    · rcases (hm a).1 ha with ea | ha' <;> rcases (hm b).1 hb with eb | hb'
      · rw [ea, eb]
      · exact absurd ⟨b, hb', ea ▸ hs⟩ h0.2.1
      · exact absurd ⟨a, ha', eb ▸ hs.symm⟩ h0.2.1
      · exact h.dif a ha' b hb' hs
    · have := (addTo_perm he).length_eq
      have := h.len
      have := h0.2.2
      simp at *
      omega
  · rw [addTo, if_neg he]
    exact h
theorem Good.nil : Good [] := ⟨.nil, fun _ h => (by cases h), fun _ h => (by cases h), Nat.zero_le _⟩
theorem runA_snoc (am : List Known) (k : Known) : runA (am ++ [k]) = addS (runA am) k := by simp [runA]
theorem runA_take {am : List Known} {i : Nat} {k : Known} (h : am[i]? = some k) : runA (am.take (i + 1)) = addS (runA (am.take i)) k := by
  rw [List.take_add_one, h]
  exact runA_snoc _ _
theorem runA_good (am : List Known) : Good (runA am).1 := by
  suffices ∀ (p : List Known × List Int), Good p.1 → Good (am.foldl addS p).1 from this _ .nil
  induction am with
  | nil => exact fun p h => h
  | cons k am ih => exact fun p h => ih _ (h.add k)
theorem runA_len (am : List Known) : (runA am).2.length = am.length := by
  suffices ∀ (p : List Known × List Int), (am.foldl addS p).2.length = p.2.length + am.length by have := this ([], []); simpa [runA] using this
  induction am with
  | nil => exact fun p => rfl
  | cons k am ih =>
    intro p
    rw [List.foldl_cons, ih]
    simp [addS]
    omega
theorem runA_le (am : List Known) : (runA am).1.length ≤ am.length := by
  suffices ∀ (p : List Known × List Int), (am.foldl addS p).1.length ≤ p.1.length + am.length by have := this ([], []); simpa [runA] using this
  induction am with
  | nil => exact fun p => Nat.le_refl _
  | cons k am ih =>
    intro p
    rw [List.foldl_cons]
    refine Nat.le_trans (ih _) ?_
    have : (addTo p.1 k).length ≤ p.1.length + 1 := by
      by_cases he : addE p.1 k = 0
      · rw [(addTo_perm he).length_eq]; simp
      · rw [addTo, if_neg he]; omega
    simp only [addS, List.length_cons]
    omega
theorem OwnSl.of {st s : St σ} {a : AV} {d sz : Nat} {rows : List (List AV)} (h : OwnSl st a d sz rows) (ht : s.tgen d = st.tgen d) (hp : s.top d = st.top d) : OwnSl s a d sz rows := by
  unfold OwnSl at h ⊢
  rw [ht, hp]
  exact h
def erow (n : Int) : List AV := [.imm (.int .i64 n)]
theorem added_I (L : Lay P T) (V : Ovl P T) {O : Outs σ} {nt k0 : Nat} {th : List Nat} {fz : List (Nat × Nat × Nat)} (k : Nat) {st : St σ} {tok : Tok} (am : List Known) (hl : am.length ≤ 1000) :
    (sys O P T nt k0 th fz).I 6 [.sl 49 tok (am.map Known.row)] st (fun x s => ∃ h, x = .tup [h, .sl 1 .ro ((runA am).2.map erow)] ∧ HS (k + 100) s h (runA am).1 ∧ Otv k (k + 1100) st s) := by
  refine I_le (F := fun x s => ∃ h e, x = .tup [h, e] ∧ OwnSl s e (k + 22) 1 ((runA am).2.map erow) ∧ HS (k + 100) s h (runA am).1 ∧ Otv k (k + 1100) st s) ?_ ?_
  · refine I_of L.t_pandectlaw29_added k [] [] (by exact Nat.le_of_ble_eq_true rfl) ?_
    show wCode _ b_pandectlaw29_added _ _ _ _
    obtain ⟨e0, g0, v0, tg0, tp0, x0⟩ := st
    simp -implicitDefEqProofs only [b_pandectlaw29_added, wCode_draw, wDraw_cons, wDraw_nil, eff, AV.ptrOf, AV.tokOf, Option.toList_some, Option.toList_none, AV.weaks, AV.weak1, List.reverse_cons, List.reverse_nil, List.nil_append, List.cons_append, wCode_skip, wCode_region, wCode_seq, wCode_cond, wCode_block, wCode_loop, wCode_exit, wCode_ret, wCond_d, wCond_tb, wCond_t, wCond_f, wOps_nil, wOps_cons0, wStep_none, wStep_some, wGuard_dt, wGuard_df, wGuard_bt, wGuard_bf, wGuard_tup, wGuard_undef, wGuard_tt, wGuard_ff, wGuard_tf, wGuard_ft, wPick_d, wPick_tb, wPick_t, wPick_f, wAct_mov, wAct_pick, wAct_iaddr, wAct_call, wAct_box, wAct_alloc, wAct_build, wAct_bsl, wAct_load, wAct_store, wAct_faddr, wAct_aaddr, wAct_sidx, wAct_field, wAct_bin, wBin_add, wBin_sub, wBin_mul, wBin_rem, wBin_eql, wBin_neq, wBin_lss, wBin_leq, wBin_gtr, wBin_geq, wBin_seql, wBin_sneq, wBin_sadd, wBin_shr, wAct_beq, wAct_seq, wAct_un, wAct_convi, wAct_convs, wAct_slc, wAct_sslc, wAct_ext, wAct_slen, wAct_len, wAct_nilc, wAct_mkf, wAct_aidx, wAct_app1, wAct_mm, wAct_peq, wAct_snil, wSnil, wAct_asl, wAct_capv, wAct_mkmap, wAct_mlen, wAct_cpy, wAct_appz, wAct_mksl, wAct_mget, wAct_mset, wAct_callv, wFv_fv, kill_lit, AV.flatB, AV.flatBs, wVal_some, wVal_none, wVal_if, wVal_map, wOpt_some, wOpt_none, wOpt_if, wOpt_map, act, AV.cells, AV.mk, AV.asSl, AV.asInt, AV.vslOf, wIdx, put_some, put_none, ev_tmp, ev_const, newVar_lit, give_lit, spend_lit, st0, env0, upd_eq, off_sys, Nat.zero_add, Nat.reduceAdd, Nat.reduceEqDiff, Nat.reduceLeDiff, ↓reduceIte, AV.ofV, unV, ← decide_not, Classical.not_not, List.getElem?_cons_zero, List.getElem?_cons_succ, Option.getD_some, Option.getD_none, Option.map_some, decide_eq_true_eq, decide_eq_false_iff_not, Bool.not_true, Bool.not_false, Bool.not_eq_true', Bool.not_eq_false', List.drop_zero, List.drop_succ_cons, List.take_succ_cons, List.take_zero, List.length_cons, List.length_nil, List.map_cons, List.map_nil, Bool.false_eq_true, reduceCtorEq, rowsOf, pureCells, AV.weak, AV.pureB, AV.pureBs, List.all_cons, List.all_nil, beq_self_eq_true, Bool.and_true, Bool.and_self, Nat.reduceBEq, if_true, if_false, true_and, and_true, Nat.le_refl, and_self, eq_self, Nat.add_eq_left, Nat.left_eq_add]
    refine wCall_I (new_I L (k + 100)) ?_
    rintro h s ⟨hs, ho⟩ he
    obtain ⟨e, g, v, tg, tp, x⟩ := s
    simp only at he
    subst he
    simp -implicitDefEqProofs only [wCode_draw, wDraw_cons, wDraw_nil, eff, AV.ptrOf, AV.tokOf, Option.toList_some, Option.toList_none, AV.weaks, AV.weak1, List.reverse_cons, List.reverse_nil, List.nil_append, List.cons_append, wCode_skip, wCode_region, wCode_seq, wCode_cond, wCode_block, wCode_loop, wCode_exit, wCode_ret, wCond_d, wCond_tb, wCond_t, wCond_f, wOps_nil, wOps_cons0, wStep_none, wStep_some, wGuard_dt, wGuard_df, wGuard_bt, wGuard_bf, wGuard_tup, wGuard_undef, wGuard_tt, wGuard_ff, wGuard_tf, wGuard_ft, wPick_d, wPick_tb, wPick_t, wPick_f, wAct_mov, wAct_pick, wAct_iaddr, wAct_call, wAct_box, wAct_alloc, wAct_build, wAct_bsl, wAct_load, wAct_store, wAct_faddr, wAct_aaddr, wAct_sidx, wAct_field, wAct_bin, wBin_add, wBin_sub, wBin_mul, wBin_rem, wBin_eql, wBin_neq, wBin_lss, wBin_leq, wBin_gtr, wBin_geq, wBin_seql, wBin_sneq, wBin_sadd, wBin_shr, wAct_beq, wAct_seq, wAct_un, wAct_convi, wAct_convs, wAct_slc, wAct_sslc, wAct_ext, wAct_slen, wAct_len, wAct_nilc, wAct_mkf, wAct_aidx, wAct_app1, wAct_mm, wAct_peq, wAct_snil, wSnil, wAct_asl, wAct_capv, wAct_mkmap, wAct_mlen, wAct_cpy, wAct_appz, wAct_mksl, wAct_mget, wAct_mset, wAct_callv, wFv_fv, kill_lit, AV.flatB, AV.flatBs, wVal_some, wVal_none, wVal_if, wVal_map, wOpt_some, wOpt_none, wOpt_if, wOpt_map, act, AV.cells, AV.mk, AV.asSl, AV.asInt, AV.vslOf, wIdx, put_some, put_none, ev_tmp, ev_const, newVar_lit, give_lit, spend_lit, st0, env0, upd_eq, off_sys, Nat.zero_add, Nat.reduceAdd, Nat.reduceEqDiff, Nat.reduceLeDiff, ↓reduceIte, AV.ofV, unV, ← decide_not, Classical.not_not, List.getElem?_cons_zero, List.getElem?_cons_succ, Option.getD_some, Option.getD_none, Option.map_some, decide_eq_true_eq, decide_eq_false_iff_not, Bool.not_true, Bool.not_false, Bool.not_eq_true', Bool.not_eq_false', List.drop_zero, List.drop_succ_cons, List.take_succ_cons, List.take_zero, List.length_cons, List.length_nil, List.map_cons, List.map_nil, Bool.false_eq_true, reduceCtorEq, rowsOf, pureCells, AV.weak, AV.pureB, AV.pureBs, List.all_cons, List.all_nil, beq_self_eq_true, Bool.and_true, Bool.and_self, Nat.reduceBEq, if_true, if_false, true_and, and_true, Nat.le_refl, and_self, eq_self, Nat.add_eq_left, Nat.left_eq_add]
    refine AW.loop (fun n s => s.env 0 = .sl 49 tok (am.map Known.row) ∧ s.env 4 = h ∧ ∃ i : Nat, i + n = am.length ∧ s.env 6 = .imm (.int .i64 i) ∧ OwnSl s (s.env 5) (k + 22) 1 ((runA (am.take i)).2.map erow) ∧ HS (k + 100) s h (runA (am.take i)).1 ∧ Otv k (k + 1100) (⟨e0, g0, v0, tg0, tp0, x0⟩ : St σ) s) am.length ?_ ?_
    · refine ⟨rfl, rfl, 0, by simp, rfl, .inl ⟨rfl, rfl⟩, ?_, ?_⟩
      · rw [List.take_zero]
        exact hs.names rfl rfl rfl rfl rfl rfl
      · exact ⟨ho.1, fun j hj => (ho.v.mono (lo' := k) (hi' := k + 1100) (by omega) (by omega)).2 j hj⟩
    · rintro n ⟨e, g, v, tg, tp, x⟩ ⟨h0, h4, i, hi, h6, h5, hs, ho⟩
      simp only at h0 h4 h6 h5
      simp -implicitDefEqProofs only [l_pandectlaw29_added_0, h0, h4, h6, Known.weak, Known.pure, Known.len, Known.t49, Known.d0, Known.d1, Known.d2, Known.d3, Known.d4, Known.d5, Known.d6, List.drop_zero, wCode_draw, wDraw_cons, wDraw_nil, eff, AV.ptrOf, AV.tokOf, Option.toList_some, Option.toList_none, AV.weaks, AV.weak1, List.reverse_cons, List.reverse_nil, List.nil_append, List.cons_append, wCode_skip, wCode_region, wCode_seq, wCode_cond, wCode_block, wCode_loop, wCode_exit, wCode_ret, wCond_d, wCond_tb, wCond_t, wCond_f, wOps_nil, wOps_cons0, wStep_none, wStep_some, wGuard_dt, wGuard_df, wGuard_bt, wGuard_bf, wGuard_tup, wGuard_undef, wGuard_tt, wGuard_ff, wGuard_tf, wGuard_ft, wPick_d, wPick_tb, wPick_t, wPick_f, wAct_mov, wAct_pick, wAct_iaddr, wAct_call, wAct_box, wAct_alloc, wAct_build, wAct_bsl, wAct_load, wAct_store, wAct_faddr, wAct_aaddr, wAct_sidx, wAct_field, wAct_bin, wBin_add, wBin_sub, wBin_mul, wBin_rem, wBin_eql, wBin_neq, wBin_lss, wBin_leq, wBin_gtr, wBin_geq, wBin_seql, wBin_sneq, wBin_sadd, wBin_shr, wAct_beq, wAct_seq, wAct_un, wAct_convi, wAct_convs, wAct_slc, wAct_sslc, wAct_ext, wAct_slen, wAct_len, wAct_nilc, wAct_mkf, wAct_aidx, wAct_app1, wAct_mm, wAct_peq, wAct_snil, wSnil, wAct_asl, wAct_capv, wAct_mkmap, wAct_mlen, wAct_cpy, wAct_appz, wAct_mksl, wAct_mget, wAct_mset, wAct_callv, wFv_fv, kill_lit, AV.flatB, AV.flatBs, wVal_some, wVal_none, wVal_if, wVal_map, wOpt_some, wOpt_none, wOpt_if, wOpt_map, act, AV.cells, AV.mk, AV.asSl, AV.asInt, AV.vslOf, wIdx, put_some, put_none, ev_tmp, ev_const, newVar_lit, give_lit, spend_lit, st0, env0, upd_eq, off_sys, Nat.zero_add, Nat.reduceAdd, Nat.reduceEqDiff, Nat.reduceLeDiff, ↓reduceIte, AV.ofV, unV, ← decide_not, Classical.not_not, List.getElem?_cons_zero, List.getElem?_cons_succ, Option.getD_some, Option.getD_none, Option.map_some, decide_eq_true_eq, decide_eq_false_iff_not, Bool.not_true, Bool.not_false, Bool.not_eq_true', Bool.not_eq_false', List.drop_zero, List.drop_succ_cons, List.take_succ_cons, List.take_zero, List.length_cons, List.length_nil, List.map_cons, List.map_nil, Bool.false_eq_true, reduceCtorEq, rowsOf, pureCells, AV.weak, AV.pureB, AV.pureBs, List.all_cons, List.all_nil, beq_self_eq_true, Bool.and_true, Bool.and_self, Nat.reduceBEq, if_true, if_false, true_and, and_true, Nat.le_refl, and_self, eq_self, Nat.add_eq_left, Nat.left_eq_add, List.length_map, List.getElem?_map, Option.map_eq_some_iff, forall_exists_index, and_imp, forall_apply_eq_imp_iff₂, Int.toNat_natCast]
      refine ⟨fun hlt => ⟨⟨by omega, by omega⟩, fun a ha => ?_⟩, fun hge => ?_⟩
      · have hgd := runA_good (am.take i)
        refine wCall_I (add_I L V (k + 100) a (hs.names rfl rfl rfl rfl rfl rfl) hgd.len (Place_of hgd.ord)) ?_
        rintro _ s' ⟨rfl, hs', ho'⟩ he
        obtain ⟨e', g', v', tg', tp', x'⟩ := s'
        simp only at he
        subst he
        have hn := ho'.2 (k + 22) (by omega)
        have hop := OwnSl.of h5 (s := ⟨e, g', v', tg', tp', x'⟩) hn.2.2.1 hn.2.2.2
        simp -implicitDefEqProofs only [h0, h4, h6, Known.weak, Known.pure, Known.len, Known.t49, Known.d0, Known.d1, Known.d2, Known.d3, Known.d4, Known.d5, Known.d6, List.drop_zero, wCode_draw, wDraw_cons, wDraw_nil, eff, AV.ptrOf, AV.tokOf, Option.toList_some, Option.toList_none, AV.weaks, AV.weak1, List.reverse_cons, List.reverse_nil, List.nil_append, List.cons_append, wCode_skip, wCode_region, wCode_seq, wCode_cond, wCode_block, wCode_loop, wCode_exit, wCode_ret, wCond_d, wCond_tb, wCond_t, wCond_f, wOps_nil, wOps_cons0, wStep_none, wStep_some, wGuard_dt, wGuard_df, wGuard_bt, wGuard_bf, wGuard_tup, wGuard_undef, wGuard_tt, wGuard_ff, wGuard_tf, wGuard_ft, wPick_d, wPick_tb, wPick_t, wPick_f, wAct_mov, wAct_pick, wAct_iaddr, wAct_call, wAct_box, wAct_alloc, wAct_build, wAct_bsl, wAct_load, wAct_store, wAct_faddr, wAct_aaddr, wAct_sidx, wAct_field, wAct_bin, wBin_add, wBin_sub, wBin_mul, wBin_rem, wBin_eql, wBin_neq, wBin_lss, wBin_leq, wBin_gtr, wBin_geq, wBin_seql, wBin_sneq, wBin_sadd, wBin_shr, wAct_beq, wAct_seq, wAct_un, wAct_convi, wAct_convs, wAct_slc, wAct_sslc, wAct_ext, wAct_slen, wAct_len, wAct_nilc, wAct_mkf, wAct_aidx, wAct_app1, wAct_mm, wAct_peq, wAct_snil, wSnil, wAct_asl, wAct_capv, wAct_mkmap, wAct_mlen, wAct_cpy, wAct_appz, wAct_mksl, wAct_mget, wAct_mset, wAct_callv, wFv_fv, kill_lit, AV.flatB, AV.flatBs, wVal_some, wVal_none, wVal_if, wVal_map, wOpt_some, wOpt_none, wOpt_if, wOpt_map, act, AV.cells, AV.mk, AV.asSl, AV.asInt, AV.vslOf, wIdx, put_some, put_none, ev_tmp, ev_const, newVar_lit, give_lit, spend_lit, st0, env0, upd_eq, off_sys, Nat.zero_add, Nat.reduceAdd, Nat.reduceEqDiff, Nat.reduceLeDiff, ↓reduceIte, AV.ofV, unV, ← decide_not, Classical.not_not, List.getElem?_cons_zero, List.getElem?_cons_succ, Option.getD_some, Option.getD_none, Option.map_some, decide_eq_true_eq, decide_eq_false_iff_not, Bool.not_true, Bool.not_false, Bool.not_eq_true', Bool.not_eq_false', List.drop_zero, List.drop_succ_cons, List.take_succ_cons, List.take_zero, List.length_cons, List.length_nil, List.map_cons, List.map_nil, Bool.false_eq_true, reduceCtorEq, rowsOf, pureCells, AV.weak, AV.pureB, AV.pureBs, List.all_cons, List.all_nil, beq_self_eq_true, Bool.and_true, Bool.and_self, Nat.reduceBEq, if_true, if_false, true_and, and_true, Nat.le_refl, and_self, eq_self, Nat.add_eq_left, Nat.left_eq_add]
        have hlen : ((runA (am.take i)).2.map erow).length = i := by rw [List.length_map, runA_len, List.length_take]; omega
        have hrun : runA (am.take (i + 1)) = addS (runA (am.take i)) a := runA_take ha
        refine wApp_own (OwnSl.of hop rfl rfl) rfl (by rw [hlen]; simp; omega) ?_
        simp -implicitDefEqProofs only [h0, h4, h6, hlen, Known.weak, Known.pure, Known.len, Known.t49, Known.d0, Known.d1, Known.d2, Known.d3, Known.d4, Known.d5, Known.d6, List.drop_zero, wCode_draw, wDraw_cons, wDraw_nil, eff, AV.ptrOf, AV.tokOf, Option.toList_some, Option.toList_none, AV.weaks, AV.weak1, List.reverse_cons, List.reverse_nil, List.nil_append, List.cons_append, wCode_skip, wCode_region, wCode_seq, wCode_cond, wCode_block, wCode_loop, wCode_exit, wCode_ret, wCond_d, wCond_tb, wCond_t, wCond_f, wOps_nil, wOps_cons0, wStep_none, wStep_some, wGuard_dt, wGuard_df, wGuard_bt, wGuard_bf, wGuard_tup, wGuard_undef, wGuard_tt, wGuard_ff, wGuard_tf, wGuard_ft, wPick_d, wPick_tb, wPick_t, wPick_f, wAct_mov, wAct_pick, wAct_iaddr, wAct_call, wAct_box, wAct_alloc, wAct_build, wAct_bsl, wAct_load, wAct_store, wAct_faddr, wAct_aaddr, wAct_sidx, wAct_field, wAct_bin, wBin_add, wBin_sub, wBin_mul, wBin_rem, wBin_eql, wBin_neq, wBin_lss, wBin_leq, wBin_gtr, wBin_geq, wBin_seql, wBin_sneq, wBin_sadd, wBin_shr, wAct_beq, wAct_seq, wAct_un, wAct_convi, wAct_convs, wAct_slc, wAct_sslc, wAct_ext, wAct_slen, wAct_len, wAct_nilc, wAct_mkf, wAct_aidx, wAct_app1, wAct_mm, wAct_peq, wAct_snil, wSnil, wAct_asl, wAct_capv, wAct_mkmap, wAct_mlen, wAct_cpy, wAct_appz, wAct_mksl, wAct_mget, wAct_mset, wAct_callv, wFv_fv, kill_lit, AV.flatB, AV.flatBs, wVal_some, wVal_none, wVal_if, wVal_map, wOpt_some, wOpt_none, wOpt_if, wOpt_map, act, AV.cells, AV.mk, AV.asSl, AV.asInt, AV.vslOf, wIdx, put_some, put_none, ev_tmp, ev_const, newVar_lit, give_lit, spend_lit, st0, env0, upd_eq, off_sys, Nat.zero_add, Nat.reduceAdd, Nat.reduceEqDiff, Nat.reduceLeDiff, ↓reduceIte, AV.ofV, unV, ← decide_not, Classical.not_not, List.getElem?_cons_zero, List.getElem?_cons_succ, Option.getD_some, Option.getD_none, Option.map_some, decide_eq_true_eq, decide_eq_false_iff_not, Bool.not_true, Bool.not_false, Bool.not_eq_true', Bool.not_eq_false', List.drop_zero, List.drop_succ_cons, List.take_succ_cons, List.take_zero, List.length_cons, List.length_nil, List.map_cons, List.map_nil, Bool.false_eq_true, reduceCtorEq, rowsOf, pureCells, AV.weak, AV.pureB, AV.pureBs, List.all_cons, List.all_nil, beq_self_eq_true, Bool.and_true, Bool.and_self, Nat.reduceBEq, if_true, if_false, true_and, and_true, Nat.le_refl, and_self, eq_self, Nat.add_eq_left, Nat.left_eq_add]
        refine ⟨n - 1, by omega, i + 1, by omega, ?_, ?_, ?_, ?_⟩
        · rw [IntWalk.i64_in _ (by omega)]; rfl
        · rw [hrun]
          have := OwnSl.give (st := (⟨e, g', v', tg', tp', x'⟩ : St σ)) (d := k + 22) (sz := 1) (rows := (runA (am.take i)).2.map erow ++ [[.imm (.int .i64 (addE (runA (am.take i)).1 a))]]) (n := i + 1) (by rw [List.length_append, hlen]; rfl)
          rw [show (addS (runA (am.take i)) a).2.map erow = (runA (am.take i)).2.map erow ++ [[.imm (.int .i64 (addE (runA (am.take i)).1 a))]] by simp [addS, erow]]
          exact OwnSl.of this rfl rfl
        · rw [hrun]
          exact hs'.names rfl rfl rfl rfl rfl rfl
        · have h2 := ho.trans (c := ⟨e, g', v', tg', tp', x'⟩) (ho'.mono (lo' := k) (hi' := k + 1100) (by omega) (by omega))
          refine ⟨h2.1, fun j hj => ?_⟩
          have := h2.2 j hj
          simp only [upd_eq, if_neg (show j ≠ k + 22 by omega)]
          exact this
      · simp -implicitDefEqProofs only [c_pandectlaw29_added, h4, wCode_draw, wDraw_cons, wDraw_nil, eff, AV.ptrOf, AV.tokOf, Option.toList_some, Option.toList_none, AV.weaks, AV.weak1, List.reverse_cons, List.reverse_nil, List.nil_append, List.cons_append, wCode_skip, wCode_region, wCode_seq, wCode_cond, wCode_block, wCode_loop, wCode_exit, wCode_ret, wCond_d, wCond_tb, wCond_t, wCond_f, wOps_nil, wOps_cons0, wStep_none, wStep_some, wGuard_dt, wGuard_df, wGuard_bt, wGuard_bf, wGuard_tup, wGuard_undef, wGuard_tt, wGuard_ff, wGuard_tf, wGuard_ft, wPick_d, wPick_tb, wPick_t, wPick_f, wAct_mov, wAct_pick, wAct_iaddr, wAct_call, wAct_box, wAct_alloc, wAct_build, wAct_bsl, wAct_load, wAct_store, wAct_faddr, wAct_aaddr, wAct_sidx, wAct_field, wAct_bin, wBin_add, wBin_sub, wBin_mul, wBin_rem, wBin_eql, wBin_neq, wBin_lss, wBin_leq, wBin_gtr, wBin_geq, wBin_seql, wBin_sneq, wBin_sadd, wBin_shr, wAct_beq, wAct_seq, wAct_un, wAct_convi, wAct_convs, wAct_slc, wAct_sslc, wAct_ext, wAct_slen, wAct_len, wAct_nilc, wAct_mkf, wAct_aidx, wAct_app1, wAct_mm, wAct_peq, wAct_snil, wSnil, wAct_asl, wAct_capv, wAct_mkmap, wAct_mlen, wAct_cpy, wAct_appz, wAct_mksl, wAct_mget, wAct_mset, wAct_callv, wFv_fv, kill_lit, AV.flatB, AV.flatBs, wVal_some, wVal_none, wVal_if, wVal_map, wOpt_some, wOpt_none, wOpt_if, wOpt_map, act, AV.cells, AV.mk, AV.asSl, AV.asInt, AV.vslOf, wIdx, put_some, put_none, ev_tmp, ev_const, newVar_lit, give_lit, spend_lit, st0, env0, upd_eq, off_sys, Nat.zero_add, Nat.reduceAdd, Nat.reduceEqDiff, Nat.reduceLeDiff, ↓reduceIte, AV.ofV, unV, ← decide_not, Classical.not_not, List.getElem?_cons_zero, List.getElem?_cons_succ, Option.getD_some, Option.getD_none, Option.map_some, decide_eq_true_eq, decide_eq_false_iff_not, Bool.not_true, Bool.not_false, Bool.not_eq_true', Bool.not_eq_false', List.drop_zero, List.drop_succ_cons, List.take_succ_cons, List.take_zero, List.length_cons, List.length_nil, List.map_cons, List.map_nil, Bool.false_eq_true, reduceCtorEq, rowsOf, pureCells, AV.weak, AV.pureB, AV.pureBs, List.all_cons, List.all_nil, beq_self_eq_true, Bool.and_true, Bool.and_self, Nat.reduceBEq, if_true, if_false, true_and, and_true, Nat.le_refl, and_self, eq_self, Nat.add_eq_left, Nat.left_eq_add, ends_one, ends_two, endR_imm, ends_cell, endC_ptr, endsI_none, endsI_one, endsI_two, Value.bool.injEq, Value.int.injEq, upd_eq, Nat.reduceEqDiff, ↓reduceIte, Option.getD_some]
        have e : am.take i = am := List.take_of_length_le (by omega)
        rw [e] at h5 hs
        exact ⟨h, _, rfl, OwnSl.of h5 rfl rfl, hs.names rfl rfl rfl rfl rfl rfl, ho⟩
  · rintro x s ⟨h, e, rfl, h1, h2⟩
    refine ⟨.tup [h, .sl 1 .ro ((runA am).2.map erow)], ?_, h, rfl, h2⟩
    simp only [AV.le, AV.les2]
    refine ⟨AV.le2_refl _, ?_, trivial⟩
    rcases h1 with ⟨rfl, h⟩ | ⟨rfl, h⟩ | ⟨rfl, h⟩ <;> simp [AV.le2, AV.le1, *]
end Go.Av
