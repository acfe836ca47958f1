/- OWN TEXT: see NOTES.md. -/
import Derived.Test.YtmeppjgkmbdmfaaA4
set_option linter.all false
namespace Go.Av
variable {P : Program} {T : List Nat} {σ : Type}
theorem AW_gen {S : Sys σ} {ac : ACode} {st : St σ} {N Rr : St σ → Prop} {E : Nat → St σ → Prop} (L : List (Nat × AV)) (GG : List (Nat × Nat)) (V : List (Nat × List AV)) (h1 : Envs st.env L ∧ Gens st.gen GG ∧ Vars st.var V)
    (h2 : ∀ e g v tg tp x, Envs e L → Gens g GG → Vars v V → AW S ac ⟨e, g, v, tg, tp, x⟩ N Rr E) : AW S ac st N Rr E := by
  obtain ⟨e, g, v, tg, tp, x⟩ := st
  exact h2 _ _ _ _ _ _ h1.1 h1.2.1 h1.2.2
theorem wOps_fz2' {O : Outs σ} {nt k : Nat} {th : List Nat} {i d sz i2 d2 sz2 : Nat} {r : List AOper} {o : AOper} {e : Nat → AV} {g : Nat → Nat} {v : Nat → List AV} {tg : Nat → Nat} {tp : Nat → Option Nat} {x : σ} {K : St σ → Prop} :
    wOps (sys O P T nt k th [(i, d, sz), (i2, d2, sz2)]) ⟨e, g, v, tg, tp, x⟩ (o :: r) K = if o.dst.getD 0 = i then wStep (sys O P T nt k th [(i, d, sz), (i2, d2, sz2)]) true (St.frz ⟨e, g, v, tg, tp, x⟩ d sz) o fun s => wOps (sys O P T nt k th [(i, d, sz), (i2, d2, sz2)]) s r K else if o.dst.getD 0 = i2 then wStep (sys O P T nt k th [(i, d, sz), (i2, d2, sz2)]) true (St.frz ⟨e, g, v, tg, tp, x⟩ d2 sz2) o fun s => wOps (sys O P T nt k th [(i, d, sz), (i2, d2, sz2)]) s r K else wStep (sys O P T nt k th [(i, d, sz), (i2, d2, sz2)]) true ⟨e, g, v, tg, tp, x⟩ o fun s => wOps (sys O P T nt k th [(i, d, sz), (i2, d2, sz2)]) s r K := by
  simp only [wOps,wFrz,sys,List.lookup]
  generalize o.dst.getD 0 = q
  by_cases h : q = i
  · simp [h]
  · have h' : (q == i) = false := by simpa using h
    by_cases h2 : q = i2
    · have h3 : (q == i2) = true := by simpa using h2
      rw [if_neg h, if_pos h2]
      simp only [h',h3]
    · have h3 : (q == i2) = false := by simpa using h2
      rw [if_neg h, if_neg h2]
      simp only [h',h3]
/-- What holds while the parts of the code without what is moved are worked out, in whatever order. -/
structure MvInv (l : List Item) (p : PatchS) (n m g200 : Nat) (X : List AV) (lx : Nat) (D : Nat → Prop) (s : St Unit) : Prop where
  b1 : s.env 1 = .ptr 1 1 0
  b2 : s.env 2 = .ptr 2 1 0
  b4 : s.env 4 = .ptr 4 1 0
  b5 : s.env 5 = .imm (.int .i64 (m : Nat))
  b6 : s.env 6 = .vsl 200 g200 7 0 lx none
  c1 : s.gen 1 = 1
  c2 : s.gen 2 = 1
  c4 : s.gen 4 = 1
  c200 : s.gen 200 = g200
  d2 : s.var 2 = [.imm (.slice none 0 0)]
  d4 : s.var 4 = p.row
  d200 : s.var 200 = X
  h0 : D 0 → s.env 61 = .ptr 1 1 0
  h1 : D 1 → s.env 62 = .ptr 1 1 0
  h2 : D 2 → s.env 63 = .sl 7 .ro (l.map Item.row)
  h4 : D 4 → s.env 65 = .ptr 1 1 16
  h5 : D 5 → s.env 66 = .imm (.int .i64 n)
  h6 : D 6 → s.env 67 = .ptr 1 1 16
  h7 : D 7 → s.env 68 = .imm (.int .i64 n)
  h8 : D 8 → s.env 69 = .imm (.int .i64 (m : Nat))
  h9 : D 9 → s.env 70 = .imm (.int .i64 ((n + m : Nat) : Int))
  h12 : D 12 → s.env 73 = .ptr 1 1 0
  q10 : D 10 → ∀ j, j < 10 → D j
  q11 : D 11 → D 10
  q12 : D 12 → D 11
  q13 : D 13 → D 12
  h3 : D 3 → ¬ D 10 → s.env 64 = .vsl 390 (s.gen 390) 7 0 l.length none ∧ 1 ≤ s.gen 390 ∧ s.var 390 = fl l
  h10 : D 10 → ∃ cp Z, s.env 71 = .vsl 326 (s.gen 326) 7 0 (n + (l.length - (n + m))) cp ∧ 1 ≤ s.gen 326 ∧ s.var 326 = fl (l.take n ++ l.drop (n + m)) ++ Z
  h11 : D 11 → s.env 72 = .agg [s.env 71]
  v1a : ¬ D 13 → s.var 1 = .sl 7 .ro (l.map Item.row) :: p.row ++ [.imm (.int .i64 n)]
  v1b : D 13 → s.var 1 = s.env 71 :: p.row ++ [.imm (.int .i64 n)]
theorem move_at {l A B C : List Item} {x : Item} {os : List (List Bs)} {sq : List Bs} {oa ob oc : List (List Bs)} (hat : At l A x B C os sq oa ob oc) (hT : Tree l os) (hl : l.length ≤ 2000) {p : PatchS} (hx : x.id = p.id) : moveS l p = putS (A ++ C) ({ x with parent := p.parent } :: B) p.parent p.after := by
  have hA := (hT.pos hat.eq).1
  have hb := hat.below hT hl
  rw [moveS, cutS]
  have f1 : findS p.id l = A.length := by rw [← hx, hat.eq]; exact findS_at hA
  have f2 : itemAt l p.id = x := by rw [← hx, hat.eq]; exact itemAt_at hA
  rw [f1, f2, ← hx, hb]
  have e1 : l.take A.length = A := by rw [hat.eq]; exact List.take_left ..
  have e2 : l.drop (A.length + (1 + (ids B).length)) = C := by
    rw [hat.eq, ← List.drop_drop, List.drop_left, Nat.add_comm 1, List.drop_succ_cons]
    simp [ids]
  have e3 : (l.drop (A.length + 1)).take (ids B).length = B := by
    rw [hat.eq, ← List.drop_drop, List.drop_left, List.drop_succ_cons, List.drop_zero]
    simp [ids]
  simp only [zr0,e1,e2,e3]
theorem move70_con (L : Lay P T) (V : StrLib P T) (W : Ovl7 P T) (W2 : Clr7 P T) (l : List Item) (p : PatchS) (n : Nat) (x : Item) (hv : ValidC l) (hid : Fit l) (hx : l[n]? = some x) (hxid : x.id = p.id) :
    Con P T 70 [chg l p n] (resC (if BadMove l p then [] else moveS l p) (if BadMove l p then 14 else 0)) := by
  obtain ⟨os, hT⟩ := hv.tree
  have hl := hv.2
  have hn := (List.getElem?_eq_some_iff.1 hx).1
  refine Con_ofA nul L.t_patch_change_move [] [(74, 326, 7), (75, 200, 7)] (by exact Nat.le_of_ble_eq_true rfl) ?_
  show AW _ b_patch_change_move _ _ _ _
  refine AW_seq ?_
  simp -implicitDefEqProofs only [chg,PatchS.row,Item.row,zb0,za9,wOps_fz2',za0,za1,za2,za3,za4,eff,AV.ptrOf,AV.tokOf,za5,za6,AV.weaks,AV.weak1,za7,za8,zb1,zb2,zb3,zb4,zb5,zb6,zb7,zb8,zb9,zc0,zc1,zc2,zc3,zc4,zc5,zc6,zc7,zc8,zc9,zd0,zd1,zd2,zd3,zd4,zd5,zd6,zd7,zd8,zd9,ze0,ze1,ze2,ze3,ze4,ze5,ze6,ze7,ze8,ze9,zf0,zf1,zf2,zf3,zf4,zf5,zf6,zf7,zf8,zf9,zg0,zg1,zg2,zg3,zg4,zg5,zg6,zg7,zg8,zg9,zh0,zh1,zh2,zh3,zh4,zh5,zh6,zh7,zh8,zh9,zi0,zi1,zi2,zi3,zi4,zi5,zi6,wSnil,zi7,zi8,zi9,zj0,zj1,zj2,zj3,zj4,zj5,zj6,zj7,zj8,AV.flatB,AV.flatBs,zj9,zk0,zk1,zk2,zk3,zk4,zk5,zk6,act,AV.cells,AV.mk,AV.asSl,AV.asInt,AV.vslOf,wIdx,zk7,zk8,zk9,zl0,zl1,zl2,zl3,st0,env0,zl4,zl5,zl6,Nat.reduceAdd,Nat.reduceEqDiff,Nat.reduceLeDiff,↓reduceIte,AV.ofV,unV,← decide_not,zl7,zl8,zl9,zm0,zm1,zm2,zm3,zm4,zm5,zm6,zm7,zm8,zm9,zn0,zn1,zn2,zn3,zn4,zn5,zn6,zn7,reduceCtorEq,rowsOf,pureCells,AV.weak,AV.pureB,AV.pureBs,zn8,zn9,zo0,zo1,zo2,Nat.reduceBEq,zo3,zo4,zo5,zo6,zo7,zo8,zo9,zp0,zp1]
  refine AW_seq ?_
  simp -implicitDefEqProofs only [chg,PatchS.row,Item.row,splice,zq7,zq8,zb0,za9,wOps_fz2',za0,za1,za2,za3,za4,eff,AV.ptrOf,AV.tokOf,za5,za6,AV.weaks,AV.weak1,za7,za8,zb1,zb2,zb3,zb4,zb5,zb6,zb7,zb8,zb9,zc0,zc1,zc2,zc3,zc4,zc5,zc6,zc7,zc8,zc9,zd0,zd1,zd2,zd3,zd4,zd5,zd6,zd7,zd8,zd9,ze0,ze1,ze2,ze3,ze4,ze5,ze6,ze7,ze8,ze9,zf0,zf1,zf2,zf3,zf4,zf5,zf6,zf7,zf8,zf9,zg0,zg1,zg2,zg3,zg4,zg5,zg6,zg7,zg8,zg9,zh0,zh1,zh2,zh3,zh4,zh5,zh6,zh7,zh8,zh9,zi0,zi1,zi2,zi3,zi4,zi5,zi6,wSnil,zi7,zi8,zi9,zj0,zj1,zj2,zj3,zj4,zj5,zj6,zj7,zj8,AV.flatB,AV.flatBs,zj9,zk0,zk1,zk2,zk3,zk4,zk5,zk6,act,AV.cells,AV.mk,AV.asSl,AV.asInt,AV.vslOf,wIdx,zk7,zk8,zk9,zl0,zl1,zl2,zl3,st0,env0,zl4,zl5,zl6,Nat.reduceAdd,Nat.reduceEqDiff,Nat.reduceLeDiff,↓reduceIte,AV.ofV,unV,← decide_not,zl7,zl8,zl9,zm0,zm1,zm2,zm3,zm4,zm5,zm6,zm7,zm8,zm9,zn0,zn1,zn2,zn3,zn4,zn5,zn6,zn7,reduceCtorEq,rowsOf,pureCells,AV.weak,AV.pureB,AV.pureBs,zn8,zn9,zo0,zo1,zo2,Nat.reduceBEq,zo3,zo4,zo5,zo6,zo7,zo8,zo9,zp0,zp1]
  refine AW_gen [(1, .ptr 1 1 0), (2, .ptr 2 1 0), (3, .imm (.int .i64 0)), (4, .ptr 4 1 0)] [(1, 1), (2, 1), (4, 1)] [(1, .sl 7 .ro (l.map Item.row) :: p.row ++ [.imm (.int .i64 n)]), (2, [.imm (.slice none 0 0)]), (4, p.row)] ?_ ?_
  · simp -implicitDefEqProofs only [PatchS.row,Item.row,undefA,zb0,za9,zq2,zq3,zq4,zq5,zq6,Envs,Gens,Vars,za0,za1,za2,za3,za4,eff,AV.ptrOf,AV.tokOf,za5,za6,AV.weaks,AV.weak1,za7,za8,zb1,zb2,zb3,zb4,zb5,zb6,zb7,zb8,zb9,zc0,zc1,zc2,zc3,zc4,zc5,zc6,zc7,zc8,zc9,zd0,zd1,zd2,zd3,zd4,zd5,zd6,zd7,zd8,zd9,ze0,ze1,ze2,ze3,ze4,ze5,ze6,ze7,ze8,ze9,zf0,zf1,zf2,zf3,zf4,zf5,zf6,zf7,zf8,zf9,zg0,zg1,zg2,zg3,zg4,zg5,zg6,zg7,zg8,zg9,zh0,zh1,zh2,zh3,zh4,zh5,zh6,zh7,zh8,zh9,zi0,zi1,zi2,zi3,zi4,zi5,zi6,wSnil,zi7,zi8,zi9,zj0,zj1,zj2,zj3,zj4,zj5,zj6,zj7,zj8,AV.flatB,AV.flatBs,zj9,zk0,zk1,zk2,zk3,zk4,zk5,zk6,act,AV.cells,AV.mk,AV.asSl,AV.asInt,AV.vslOf,wIdx,zk7,zk8,zk9,zl0,zl1,zl2,zl3,st0,env0,zl4,zl5,zl6,Nat.reduceAdd,Nat.reduceEqDiff,Nat.reduceLeDiff,↓reduceIte,AV.ofV,unV,← decide_not,zl7,zl8,zl9,zm0,zm1,zm2,zm3,zm4,zm5,zm6,zm7,zm8,zm9,zn0,zn1,zn2,zn3,zn4,zn5,zn6,zn7,reduceCtorEq,rowsOf,pureCells,AV.weak,AV.pureB,AV.pureBs,zn8,zn9,zo0,zo1,zo2,Nat.reduceBEq,zo3,zo4,zo5,zo6,zo7,zo8,zo9,zp0,zp1]
  rintro e g v tg tp x' ⟨e1, e2, e3, e4, -⟩ ⟨g1, g2, g4, -⟩ ⟨v1, v2, v4, -⟩
  refine AW_seq ?_
  simp -implicitDefEqProofs only [chg,PatchS.row,Item.row,splice,zq7,zq8,zb0,za9,wOps_fz2',za0,za1,za2,za3,za4,eff,AV.ptrOf,AV.tokOf,za5,za6,AV.weaks,AV.weak1,za7,za8,zb1,zb2,zb3,zb4,zb5,zb6,zb7,zb8,zb9,zc0,zc1,zc2,zc3,zc4,zc5,zc6,zc7,zc8,zc9,zd0,zd1,zd2,zd3,zd4,zd5,zd6,zd7,zd8,zd9,ze0,ze1,ze2,ze3,ze4,ze5,ze6,ze7,ze8,ze9,zf0,zf1,zf2,zf3,zf4,zf5,zf6,zf7,zf8,zf9,zg0,zg1,zg2,zg3,zg4,zg5,zg6,zg7,zg8,zg9,zh0,zh1,zh2,zh3,zh4,zh5,zh6,zh7,zh8,zh9,zi0,zi1,zi2,zi3,zi4,zi5,zi6,wSnil,zi7,zi8,zi9,zj0,zj1,zj2,zj3,zj4,zj5,zj6,zj7,zj8,AV.flatB,AV.flatBs,zj9,zk0,zk1,zk2,zk3,zk4,zk5,zk6,act,AV.cells,AV.mk,AV.asSl,AV.asInt,AV.vslOf,wIdx,zk7,zk8,zk9,zl0,zl1,zl2,zl3,st0,env0,zl4,zl5,zl6,Nat.reduceAdd,Nat.reduceEqDiff,Nat.reduceLeDiff,↓reduceIte,AV.ofV,unV,← decide_not,zl7,zl8,zl9,zm0,zm1,zm2,zm3,zm4,zm5,zm6,zm7,zm8,zm9,zn0,zn1,zn2,zn3,zn4,zn5,zn6,zn7,reduceCtorEq,rowsOf,pureCells,AV.weak,AV.pureB,AV.pureBs,zn8,zn9,zo0,zo1,zo2,Nat.reduceBEq,zo3,zo4,zo5,zo6,zo7,zo8,zo9,zp0,zp1]
  refine wOps_cutV 31 [(1, .ptr 1 1 0), (2, .ptr 2 1 0), (3, .imm (.int .i64 0)), (4, .ptr 4 1 0), (39, .imm (.bool (decide (BadMove l p))))] [(1, 1), (2, 1), (4, 1)] [(1, .sl 7 .ro (l.map Item.row) :: p.row ++ [.imm (.int .i64 n)]), (2, [.imm (.slice none 0 0)]), (4, p.row)] ?_ ?_
  · simp -implicitDefEqProofs only [r_patch_change_move_0,e1,e2,e3,e4,g1,g2,g4,v1,v2,v4,chg,PatchS.row,Item.row,splice,zq7,zq8,wOps_fz2',undefA,zb0,za9,zq2,zq3,zq4,zq5,zq6,Envs,Gens,Vars,za0,za1,za2,za3,za4,eff,AV.ptrOf,AV.tokOf,za5,za6,AV.weaks,AV.weak1,za7,za8,zb1,zb2,zb3,zb4,zb5,zb6,zb7,zb8,zb9,zc0,zc1,zc2,zc3,zc4,zc5,zc6,zc7,zc8,zc9,zd0,zd1,zd2,zd3,zd4,zd5,zd6,zd7,zd8,zd9,ze0,ze1,ze2,ze3,ze4,ze5,ze6,ze7,ze8,ze9,zf0,zf1,zf2,zf3,zf4,zf5,zf6,zf7,zf8,zf9,zg0,zg1,zg2,zg3,zg4,zg5,zg6,zg7,zg8,zg9,zh0,zh1,zh2,zh3,zh4,zh5,zh6,zh7,zh8,zh9,zi0,zi1,zi2,zi3,zi4,zi5,zi6,wSnil,zi7,zi8,zi9,zj0,zj1,zj2,zj3,zj4,zj5,zj6,zj7,zj8,AV.flatB,AV.flatBs,zj9,zk0,zk1,zk2,zk3,zk4,zk5,zk6,act,AV.cells,AV.mk,AV.asSl,AV.asInt,AV.vslOf,wIdx,zk7,zk8,zk9,zl0,zl1,zl2,zl3,st0,env0,zl4,zl5,zl6,Nat.reduceAdd,Nat.reduceEqDiff,Nat.reduceLeDiff,↓reduceIte,AV.ofV,unV,← decide_not,zl7,zl8,zl9,zm0,zm1,zm2,zm3,zm4,zm5,zm6,zm7,zm8,zm9,zn0,zn1,zn2,zn3,zn4,zn5,zn6,zn7,reduceCtorEq,rowsOf,pureCells,AV.weak,AV.pureB,AV.pureBs,zn8,zn9,zo0,zo1,zo2,Nat.reduceBEq,zo3,zo4,zo5,zo6,zo7,zo8,zo9,zp0,zp1]
    refine wCall_imm (exists_con L l p n (by omega)) rfl (AV.les2_refl _) ?_
    by_cases h1 : HasPlace l p.parent p.after
    · have t1 := eq_true h1
      by_cases h2 : p.parent = p.id
      · have t2 := eq_true h2
        simp -implicitDefEqProofs only [r_patch_change_move_0,t1,t2,e1,e2,e3,e4,g1,g2,g4,v1,v2,v4,chg,PatchS.row,Item.row,splice,zq7,zq8,wOps_fz2',undefA,zb0,za9,zq2,zq3,zq4,zq5,zq6,Envs,Gens,Vars,za0,za1,za2,za3,za4,eff,AV.ptrOf,AV.tokOf,za5,za6,AV.weaks,AV.weak1,za7,za8,zb1,zb2,zb3,zb4,zb5,zb6,zb7,zb8,zb9,zc0,zc1,zc2,zc3,zc4,zc5,zc6,zc7,zc8,zc9,zd0,zd1,zd2,zd3,zd4,zd5,zd6,zd7,zd8,zd9,ze0,ze1,ze2,ze3,ze4,ze5,ze6,ze7,ze8,ze9,zf0,zf1,zf2,zf3,zf4,zf5,zf6,zf7,zf8,zf9,zg0,zg1,zg2,zg3,zg4,zg5,zg6,zg7,zg8,zg9,zh0,zh1,zh2,zh3,zh4,zh5,zh6,zh7,zh8,zh9,zi0,zi1,zi2,zi3,zi4,zi5,zi6,wSnil,zi7,zi8,zi9,zj0,zj1,zj2,zj3,zj4,zj5,zj6,zj7,zj8,AV.flatB,AV.flatBs,zj9,zk0,zk1,zk2,zk3,zk4,zk5,zk6,act,AV.cells,AV.mk,AV.asSl,AV.asInt,AV.vslOf,wIdx,zk7,zk8,zk9,zl0,zl1,zl2,zl3,st0,env0,zl4,zl5,zl6,Nat.reduceAdd,Nat.reduceEqDiff,Nat.reduceLeDiff,↓reduceIte,AV.ofV,unV,← decide_not,zl7,zl8,zl9,zm0,zm1,zm2,zm3,zm4,zm5,zm6,zm7,zm8,zm9,zn0,zn1,zn2,zn3,zn4,zn5,zn6,zn7,reduceCtorEq,rowsOf,pureCells,AV.weak,AV.pureB,AV.pureBs,zn8,zn9,zo0,zo1,zo2,Nat.reduceBEq,zo3,zo4,zo5,zo6,zo7,zo8,zo9,zp0,zp1]
        exact b_t (.inr (.inl h2))
      · have t2 := eq_false h2
        by_cases h3 : p.after = p.id
        · have t3 := eq_true h3
          simp -implicitDefEqProofs only [r_patch_change_move_0,t1,t2,t3,e1,e2,e3,e4,g1,g2,g4,v1,v2,v4,chg,PatchS.row,Item.row,splice,zq7,zq8,wOps_fz2',undefA,zb0,za9,zq2,zq3,zq4,zq5,zq6,Envs,Gens,Vars,za0,za1,za2,za3,za4,eff,AV.ptrOf,AV.tokOf,za5,za6,AV.weaks,AV.weak1,za7,za8,zb1,zb2,zb3,zb4,zb5,zb6,zb7,zb8,zb9,zc0,zc1,zc2,zc3,zc4,zc5,zc6,zc7,zc8,zc9,zd0,zd1,zd2,zd3,zd4,zd5,zd6,zd7,zd8,zd9,ze0,ze1,ze2,ze3,ze4,ze5,ze6,ze7,ze8,ze9,zf0,zf1,zf2,zf3,zf4,zf5,zf6,zf7,zf8,zf9,zg0,zg1,zg2,zg3,zg4,zg5,zg6,zg7,zg8,zg9,zh0,zh1,zh2,zh3,zh4,zh5,zh6,zh7,zh8,zh9,zi0,zi1,zi2,zi3,zi4,zi5,zi6,wSnil,zi7,zi8,zi9,zj0,zj1,zj2,zj3,zj4,zj5,zj6,zj7,zj8,AV.flatB,AV.flatBs,zj9,zk0,zk1,zk2,zk3,zk4,zk5,zk6,act,AV.cells,AV.mk,AV.asSl,AV.asInt,AV.vslOf,wIdx,zk7,zk8,zk9,zl0,zl1,zl2,zl3,st0,env0,zl4,zl5,zl6,Nat.reduceAdd,Nat.reduceEqDiff,Nat.reduceLeDiff,↓reduceIte,AV.ofV,unV,← decide_not,zl7,zl8,zl9,zm0,zm1,zm2,zm3,zm4,zm5,zm6,zm7,zm8,zm9,zn0,zn1,zn2,zn3,zn4,zn5,zn6,zn7,reduceCtorEq,rowsOf,pureCells,AV.weak,AV.pureB,AV.pureBs,zn8,zn9,zo0,zo1,zo2,Nat.reduceBEq,zo3,zo4,zo5,zo6,zo7,zo8,zo9,zp0,zp1]
          exact b_t (.inr (.inr (.inl h3)))
        · have t3 := eq_false h3
          by_cases h4 : p.parent = ⟨#[]⟩
          · have t4 := eq_true h4
            simp -implicitDefEqProofs only [r_patch_change_move_0,t1,t2,t3,t4,e1,e2,e3,e4,g1,g2,g4,v1,v2,v4,chg,PatchS.row,Item.row,splice,zq7,zq8,wOps_fz2',undefA,zb0,za9,zq2,zq3,zq4,zq5,zq6,Envs,Gens,Vars,za0,za1,za2,za3,za4,eff,AV.ptrOf,AV.tokOf,za5,za6,AV.weaks,AV.weak1,za7,za8,zb1,zb2,zb3,zb4,zb5,zb6,zb7,zb8,zb9,zc0,zc1,zc2,zc3,zc4,zc5,zc6,zc7,zc8,zc9,zd0,zd1,zd2,zd3,zd4,zd5,zd6,zd7,zd8,zd9,ze0,ze1,ze2,ze3,ze4,ze5,ze6,ze7,ze8,ze9,zf0,zf1,zf2,zf3,zf4,zf5,zf6,zf7,zf8,zf9,zg0,zg1,zg2,zg3,zg4,zg5,zg6,zg7,zg8,zg9,zh0,zh1,zh2,zh3,zh4,zh5,zh6,zh7,zh8,zh9,zi0,zi1,zi2,zi3,zi4,zi5,zi6,wSnil,zi7,zi8,zi9,zj0,zj1,zj2,zj3,zj4,zj5,zj6,zj7,zj8,AV.flatB,AV.flatBs,zj9,zk0,zk1,zk2,zk3,zk4,zk5,zk6,act,AV.cells,AV.mk,AV.asSl,AV.asInt,AV.vslOf,wIdx,zk7,zk8,zk9,zl0,zl1,zl2,zl3,st0,env0,zl4,zl5,zl6,Nat.reduceAdd,Nat.reduceEqDiff,Nat.reduceLeDiff,↓reduceIte,AV.ofV,unV,← decide_not,zl7,zl8,zl9,zm0,zm1,zm2,zm3,zm4,zm5,zm6,zm7,zm8,zm9,zn0,zn1,zn2,zn3,zn4,zn5,zn6,zn7,reduceCtorEq,rowsOf,pureCells,AV.weak,AV.pureB,AV.pureBs,zn8,zn9,zo0,zo1,zo2,Nat.reduceBEq,zo3,zo4,zo5,zo6,zo7,zo8,zo9,zp0,zp1]
            exact b_f fun h => by
              rcases h with h | h | h | h
              · exact h h1
              · exact h2 h
              · exact h3 h
              · exact h.1 h4
          · have t4 := eq_false h4
            simp -implicitDefEqProofs only [r_patch_change_move_0,t1,t2,t3,t4,e1,e2,e3,e4,g1,g2,g4,v1,v2,v4,chg,PatchS.row,Item.row,splice,zq7,zq8,wOps_fz2',undefA,zb0,za9,zq2,zq3,zq4,zq5,zq6,Envs,Gens,Vars,za0,za1,za2,za3,za4,eff,AV.ptrOf,AV.tokOf,za5,za6,AV.weaks,AV.weak1,za7,za8,zb1,zb2,zb3,zb4,zb5,zb6,zb7,zb8,zb9,zc0,zc1,zc2,zc3,zc4,zc5,zc6,zc7,zc8,zc9,zd0,zd1,zd2,zd3,zd4,zd5,zd6,zd7,zd8,zd9,ze0,ze1,ze2,ze3,ze4,ze5,ze6,ze7,ze8,ze9,zf0,zf1,zf2,zf3,zf4,zf5,zf6,zf7,zf8,zf9,zg0,zg1,zg2,zg3,zg4,zg5,zg6,zg7,zg8,zg9,zh0,zh1,zh2,zh3,zh4,zh5,zh6,zh7,zh8,zh9,zi0,zi1,zi2,zi3,zi4,zi5,zi6,wSnil,zi7,zi8,zi9,zj0,zj1,zj2,zj3,zj4,zj5,zj6,zj7,zj8,AV.flatB,AV.flatBs,zj9,zk0,zk1,zk2,zk3,zk4,zk5,zk6,act,AV.cells,AV.mk,AV.asSl,AV.asInt,AV.vslOf,wIdx,zk7,zk8,zk9,zl0,zl1,zl2,zl3,st0,env0,zl4,zl5,zl6,Nat.reduceAdd,Nat.reduceEqDiff,Nat.reduceLeDiff,↓reduceIte,AV.ofV,unV,← decide_not,zl7,zl8,zl9,zm0,zm1,zm2,zm3,zm4,zm5,zm6,zm7,zm8,zm9,zn0,zn1,zn2,zn3,zn4,zn5,zn6,zn7,reduceCtorEq,rowsOf,pureCells,AV.weak,AV.pureB,AV.pureBs,zn8,zn9,zo0,zo1,zo2,Nat.reduceBEq,zo3,zo4,zo5,zo6,zo7,zo8,zo9,zp0,zp1]
            refine wCall_imm (under_con L V l p.parent p.id (by omega) hid) rfl (AV.les2_refl _) ?_
            simp -implicitDefEqProofs only [r_patch_change_move_0,t1,t2,t3,t4,e1,e2,e3,e4,g1,g2,g4,v1,v2,v4,chg,PatchS.row,Item.row,splice,zq7,zq8,wOps_fz2',undefA,zb0,za9,zq2,zq3,zq4,zq5,zq6,Envs,Gens,Vars,za0,za1,za2,za3,za4,eff,AV.ptrOf,AV.tokOf,za5,za6,AV.weaks,AV.weak1,za7,za8,zb1,zb2,zb3,zb4,zb5,zb6,zb7,zb8,zb9,zc0,zc1,zc2,zc3,zc4,zc5,zc6,zc7,zc8,zc9,zd0,zd1,zd2,zd3,zd4,zd5,zd6,zd7,zd8,zd9,ze0,ze1,ze2,ze3,ze4,ze5,ze6,ze7,ze8,ze9,zf0,zf1,zf2,zf3,zf4,zf5,zf6,zf7,zf8,zf9,zg0,zg1,zg2,zg3,zg4,zg5,zg6,zg7,zg8,zg9,zh0,zh1,zh2,zh3,zh4,zh5,zh6,zh7,zh8,zh9,zi0,zi1,zi2,zi3,zi4,zi5,zi6,wSnil,zi7,zi8,zi9,zj0,zj1,zj2,zj3,zj4,zj5,zj6,zj7,zj8,AV.flatB,AV.flatBs,zj9,zk0,zk1,zk2,zk3,zk4,zk5,zk6,act,AV.cells,AV.mk,AV.asSl,AV.asInt,AV.vslOf,wIdx,zk7,zk8,zk9,zl0,zl1,zl2,zl3,st0,env0,zl4,zl5,zl6,Nat.reduceAdd,Nat.reduceEqDiff,Nat.reduceLeDiff,↓reduceIte,AV.ofV,unV,← decide_not,zl7,zl8,zl9,zm0,zm1,zm2,zm3,zm4,zm5,zm6,zm7,zm8,zm9,zn0,zn1,zn2,zn3,zn4,zn5,zn6,zn7,reduceCtorEq,rowsOf,pureCells,AV.weak,AV.pureB,AV.pureBs,zn8,zn9,zo0,zo1,zo2,Nat.reduceBEq,zo3,zo4,zo5,zo6,zo7,zo8,zo9,zp0,zp1]
            have h4' : p.parent ≠ nilS := h4
            exact b_d (by simp [BadMove, h1, h2, h3, h4'])
    · have t1 := eq_false h1
      simp -implicitDefEqProofs only [r_patch_change_move_0,t1,e1,e2,e3,e4,g1,g2,g4,v1,v2,v4,chg,PatchS.row,Item.row,splice,zq7,zq8,wOps_fz2',undefA,zb0,za9,zq2,zq3,zq4,zq5,zq6,Envs,Gens,Vars,za0,za1,za2,za3,za4,eff,AV.ptrOf,AV.tokOf,za5,za6,AV.weaks,AV.weak1,za7,za8,zb1,zb2,zb3,zb4,zb5,zb6,zb7,zb8,zb9,zc0,zc1,zc2,zc3,zc4,zc5,zc6,zc7,zc8,zc9,zd0,zd1,zd2,zd3,zd4,zd5,zd6,zd7,zd8,zd9,ze0,ze1,ze2,ze3,ze4,ze5,ze6,ze7,ze8,ze9,zf0,zf1,zf2,zf3,zf4,zf5,zf6,zf7,zf8,zf9,zg0,zg1,zg2,zg3,zg4,zg5,zg6,zg7,zg8,zg9,zh0,zh1,zh2,zh3,zh4,zh5,zh6,zh7,zh8,zh9,zi0,zi1,zi2,zi3,zi4,zi5,zi6,wSnil,zi7,zi8,zi9,zj0,zj1,zj2,zj3,zj4,zj5,zj6,zj7,zj8,AV.flatB,AV.flatBs,zj9,zk0,zk1,zk2,zk3,zk4,zk5,zk6,act,AV.cells,AV.mk,AV.asSl,AV.asInt,AV.vslOf,wIdx,zk7,zk8,zk9,zl0,zl1,zl2,zl3,st0,env0,zl4,zl5,zl6,Nat.reduceAdd,Nat.reduceEqDiff,Nat.reduceLeDiff,↓reduceIte,AV.ofV,unV,← decide_not,zl7,zl8,zl9,zm0,zm1,zm2,zm3,zm4,zm5,zm6,zm7,zm8,zm9,zn0,zn1,zn2,zn3,zn4,zn5,zn6,zn7,reduceCtorEq,rowsOf,pureCells,AV.weak,AV.pureB,AV.pureBs,zn8,zn9,zo0,zo1,zo2,Nat.reduceBEq,zo3,zo4,zo5,zo6,zo7,zo8,zo9,zp0,zp1]
      exact b_t (.inl h1)
  rintro e g v tg tp x' ⟨e1, e2, e3, e4, e39, -⟩ ⟨g1, g2, g4, -⟩ ⟨v1, v2, v4, -⟩
  simp -implicitDefEqProofs only [r_patch_change_move_0,e39,fills,e1,e2,e3,e4,g1,g2,g4,v1,v2,v4,chg,PatchS.row,Item.row,splice,zq7,zq8,wOps_fz2',undefA,zb0,za9,zq2,zq3,zq4,zq5,zq6,Envs,Gens,Vars,za0,za1,za2,za3,za4,eff,AV.ptrOf,AV.tokOf,za5,za6,AV.weaks,AV.weak1,za7,za8,zb1,zb2,zb3,zb4,zb5,zb6,zb7,zb8,zb9,zc0,zc1,zc2,zc3,zc4,zc5,zc6,zc7,zc8,zc9,zd0,zd1,zd2,zd3,zd4,zd5,zd6,zd7,zd8,zd9,ze0,ze1,ze2,ze3,ze4,ze5,ze6,ze7,ze8,ze9,zf0,zf1,zf2,zf3,zf4,zf5,zf6,zf7,zf8,zf9,zg0,zg1,zg2,zg3,zg4,zg5,zg6,zg7,zg8,zg9,zh0,zh1,zh2,zh3,zh4,zh5,zh6,zh7,zh8,zh9,zi0,zi1,zi2,zi3,zi4,zi5,zi6,wSnil,zi7,zi8,zi9,zj0,zj1,zj2,zj3,zj4,zj5,zj6,zj7,zj8,AV.flatB,AV.flatBs,zj9,zk0,zk1,zk2,zk3,zk4,zk5,zk6,act,AV.cells,AV.mk,AV.asSl,AV.asInt,AV.vslOf,wIdx,zk7,zk8,zk9,zl0,zl1,zl2,zl3,st0,env0,zl4,zl5,zl6,Nat.reduceAdd,Nat.reduceEqDiff,Nat.reduceLeDiff,↓reduceIte,AV.ofV,unV,← decide_not,zl7,zl8,zl9,zm0,zm1,zm2,zm3,zm4,zm5,zm6,zm7,zm8,zm9,zn0,zn1,zn2,zn3,zn4,zn5,zn6,zn7,reduceCtorEq,rowsOf,pureCells,AV.weak,AV.pureB,AV.pureBs,zn8,zn9,zo0,zo1,zo2,Nat.reduceBEq,zo3,zo4,zo5,zo6,zo7,zo8,zo9,zp0,zp1]
  refine ⟨fun hb => ?_, fun hb => ?_⟩
  · rw [if_pos hb, if_pos hb]
    refine ends_ptr (d := 2) (q := 1) (off := 0) (by simp [upd, e2]) ⟨by simp [g2], Nat.le_refl _, by simp [upd]⟩ (b := .agg [.imm (.slice none 0 0)]) (by simp [upd, AV.mk]) ?_
    exact nilC_end
  have hsp : l = l.take n ++ x :: l.drop (n + 1) := by
    conv => lhs; rw [← List.take_append_drop n l]
    rw [List.drop_eq_getElem_cons hn]
    congr 2
    rw [List.getElem?_eq_getElem hn] at hx
    injection hx
  have hA : (l.take n).length = n := by simp; omega
  obtain ⟨B, C, sq, oa, ob, oc, hR, hat⟩ := hT.at hsp
  generalize l.take n = A at *
  rw [hR] at hsp
  clear hR
  obtain ⟨q1, q2, q3⟩ := (hat.movable hT hl hxid).1 hb
  have hbel : belowS l p.id = ids B := by rw [← hxid]; exact hat.below hT hl
  have hTC := hat.cut hT
  have hbl : (belowS l p.id).length = B.length := by rw [hbel]; simp [ids]
  have hln : l.length = n + 1 + B.length + C.length := by rw [hsp]; simp; omega
  refine AW_seq ?_
  simp -implicitDefEqProofs only [e1,e2,e3,e4,g1,g2,g4,v1,v2,v4,chg,PatchS.row,Item.row,splice,zq7,zq8,wOps_fz2',undefA,zb0,za9,zq2,zq3,zq4,zq5,zq6,Envs,Gens,Vars,za0,za1,za2,za3,za4,eff,AV.ptrOf,AV.tokOf,za5,za6,AV.weaks,AV.weak1,za7,za8,zb1,zb2,zb3,zb4,zb5,zb6,zb7,zb8,zb9,zc0,zc1,zc2,zc3,zc4,zc5,zc6,zc7,zc8,zc9,zd0,zd1,zd2,zd3,zd4,zd5,zd6,zd7,zd8,zd9,ze0,ze1,ze2,ze3,ze4,ze5,ze6,ze7,ze8,ze9,zf0,zf1,zf2,zf3,zf4,zf5,zf6,zf7,zf8,zf9,zg0,zg1,zg2,zg3,zg4,zg5,zg6,zg7,zg8,zg9,zh0,zh1,zh2,zh3,zh4,zh5,zh6,zh7,zh8,zh9,zi0,zi1,zi2,zi3,zi4,zi5,zi6,wSnil,zi7,zi8,zi9,zj0,zj1,zj2,zj3,zj4,zj5,zj6,zj7,zj8,AV.flatB,AV.flatBs,zj9,zk0,zk1,zk2,zk3,zk4,zk5,zk6,act,AV.cells,AV.mk,AV.asSl,AV.asInt,AV.vslOf,wIdx,zk7,zk8,zk9,zl0,zl1,zl2,zl3,st0,env0,zl4,zl5,zl6,Nat.reduceAdd,Nat.reduceEqDiff,Nat.reduceLeDiff,↓reduceIte,AV.ofV,unV,← decide_not,zl7,zl8,zl9,zm0,zm1,zm2,zm3,zm4,zm5,zm6,zm7,zm8,zm9,zn0,zn1,zn2,zn3,zn4,zn5,zn6,zn7,reduceCtorEq,rowsOf,pureCells,AV.weak,AV.pureB,AV.pureBs,zn8,zn9,zo0,zo1,zo2,Nat.reduceBEq,zo3,zo4,zo5,zo6,zo7,zo8,zo9,zp0,zp1]
  refine wCall_imm (size_con L V l p n p.id (by omega) hid) rfl (AV.les2_refl _) ?_
  rw [hbl]
  simp -implicitDefEqProofs only [e1,e2,e3,e4,g1,g2,g4,v1,v2,v4,chg,PatchS.row,Item.row,splice,zq7,zq8,wOps_fz2',undefA,zb0,za9,zq2,zq3,zq4,zq5,zq6,Envs,Gens,Vars,za0,za1,za2,za3,za4,eff,AV.ptrOf,AV.tokOf,za5,za6,AV.weaks,AV.weak1,za7,za8,zb1,zb2,zb3,zb4,zb5,zb6,zb7,zb8,zb9,zc0,zc1,zc2,zc3,zc4,zc5,zc6,zc7,zc8,zc9,zd0,zd1,zd2,zd3,zd4,zd5,zd6,zd7,zd8,zd9,ze0,ze1,ze2,ze3,ze4,ze5,ze6,ze7,ze8,ze9,zf0,zf1,zf2,zf3,zf4,zf5,zf6,zf7,zf8,zf9,zg0,zg1,zg2,zg3,zg4,zg5,zg6,zg7,zg8,zg9,zh0,zh1,zh2,zh3,zh4,zh5,zh6,zh7,zh8,zh9,zi0,zi1,zi2,zi3,zi4,zi5,zi6,wSnil,zi7,zi8,zi9,zj0,zj1,zj2,zj3,zj4,zj5,zj6,zj7,zj8,AV.flatB,AV.flatBs,zj9,zk0,zk1,zk2,zk3,zk4,zk5,zk6,act,AV.cells,AV.mk,AV.asSl,AV.asInt,AV.vslOf,wIdx,zk7,zk8,zk9,zl0,zl1,zl2,zl3,st0,env0,zl4,zl5,zl6,Nat.reduceAdd,Nat.reduceEqDiff,Nat.reduceLeDiff,↓reduceIte,AV.ofV,unV,← decide_not,zl7,zl8,zl9,zm0,zm1,zm2,zm3,zm4,zm5,zm6,zm7,zm8,zm9,zn0,zn1,zn2,zn3,zn4,zn5,zn6,zn7,reduceCtorEq,rowsOf,pureCells,AV.weak,AV.pureB,AV.pureBs,zn8,zn9,zo0,zo1,zo2,Nat.reduceBEq,zo3,zo4,zo5,zo6,zo7,zo8,zo9,zp0,zp1]
  refine AW_seq ?_
  have hw : IntKind.i64.wrap ((n : Int) + ((1 + B.length : Nat) : Int)) = ((n + 1 + B.length : Nat) : Int) := by rw [IntWalk.i64_in _ (by omega)]; push_cast; omega
  have hsl : ((l.map Item.row).take (n + 1 + B.length)).drop n = (x :: B).map Item.row := by
    rw [← List.map_take, ← List.map_drop]
    congr 1
    rw [hsp, show A ++ x :: (B ++ C) = (A ++ x :: B) ++ C by simp, List.take_append_of_le_length (by simp; omega), List.take_of_length_le (by simp; omega), ← hA, List.drop_left]
  simp -implicitDefEqProofs only [boundOf,Option.map_none,hw,hsl,zq9,zr0,slcTok,e1,e2,e3,e4,g1,g2,g4,v1,v2,v4,chg,PatchS.row,Item.row,splice,zq7,zq8,wOps_fz2',undefA,zb0,za9,zq2,zq3,zq4,zq5,zq6,Envs,Gens,Vars,za0,za1,za2,za3,za4,eff,AV.ptrOf,AV.tokOf,za5,za6,AV.weaks,AV.weak1,za7,za8,zb1,zb2,zb3,zb4,zb5,zb6,zb7,zb8,zb9,zc0,zc1,zc2,zc3,zc4,zc5,zc6,zc7,zc8,zc9,zd0,zd1,zd2,zd3,zd4,zd5,zd6,zd7,zd8,zd9,ze0,ze1,ze2,ze3,ze4,ze5,ze6,ze7,ze8,ze9,zf0,zf1,zf2,zf3,zf4,zf5,zf6,zf7,zf8,zf9,zg0,zg1,zg2,zg3,zg4,zg5,zg6,zg7,zg8,zg9,zh0,zh1,zh2,zh3,zh4,zh5,zh6,zh7,zh8,zh9,zi0,zi1,zi2,zi3,zi4,zi5,zi6,wSnil,zi7,zi8,zi9,zj0,zj1,zj2,zj3,zj4,zj5,zj6,zj7,zj8,AV.flatB,AV.flatBs,zj9,zk0,zk1,zk2,zk3,zk4,zk5,zk6,act,AV.cells,AV.mk,AV.asSl,AV.asInt,AV.vslOf,wIdx,zk7,zk8,zk9,zl0,zl1,zl2,zl3,st0,env0,zl4,zl5,zl6,Nat.reduceAdd,Nat.reduceEqDiff,Nat.reduceLeDiff,↓reduceIte,AV.ofV,unV,← decide_not,zl7,zl8,zl9,zm0,zm1,zm2,zm3,zm4,zm5,zm6,zm7,zm8,zm9,zn0,zn1,zn2,zn3,zn4,zn5,zn6,zn7,reduceCtorEq,rowsOf,pureCells,AV.weak,AV.pureB,AV.pureBs,zn8,zn9,zo0,zo1,zo2,Nat.reduceBEq,zo3,zo4,zo5,zo6,zo7,zo8,zo9,zp0,zp1]
  refine ⟨⟨by omega, by omega, by omega⟩, ?_⟩
  refine wCall_I (clone_I L 193 (x :: B) (by simp; omega) (by simp)) ?_
  rintro _ s ⟨rfl, rfl⟩ he
  simp -implicitDefEqProofs only [zl1,e1,e2,e3,e4,g1,g2,g4,v1,v2,v4,chg,PatchS.row,Item.row,splice,zq7,zq8,wOps_fz2',undefA,zb0,za9,zq2,zq3,zq4,zq5,zq6,Envs,Gens,Vars,za0,za1,za2,za3,za4,eff,AV.ptrOf,AV.tokOf,za5,za6,AV.weaks,AV.weak1,za7,za8,zb1,zb2,zb3,zb4,zb5,zb6,zb7,zb8,zb9,zc0,zc1,zc2,zc3,zc4,zc5,zc6,zc7,zc8,zc9,zd0,zd1,zd2,zd3,zd4,zd5,zd6,zd7,zd8,zd9,ze0,ze1,ze2,ze3,ze4,ze5,ze6,ze7,ze8,ze9,zf0,zf1,zf2,zf3,zf4,zf5,zf6,zf7,zf8,zf9,zg0,zg1,zg2,zg3,zg4,zg5,zg6,zg7,zg8,zg9,zh0,zh1,zh2,zh3,zh4,zh5,zh6,zh7,zh8,zh9,zi0,zi1,zi2,zi3,zi4,zi5,zi6,wSnil,zi7,zi8,zi9,zj0,zj1,zj2,zj3,zj4,zj5,zj6,zj7,zj8,AV.flatB,AV.flatBs,zj9,zk0,zk1,zk2,zk3,zk4,zk5,zk6,act,AV.cells,AV.mk,AV.asSl,AV.asInt,AV.vslOf,wIdx,zk7,zk8,zk9,zl0,zl2,zl3,st0,env0,zl4,zl5,zl6,Nat.reduceAdd,Nat.reduceEqDiff,Nat.reduceLeDiff,↓reduceIte,AV.ofV,unV,← decide_not,zl7,zl8,zl9,zm0,zm1,zm2,zm3,zm4,zm5,zm6,zm7,zm8,zm9,zn0,zn1,zn2,zn3,zn4,zn5,zn6,zn7,reduceCtorEq,rowsOf,pureCells,AV.weak,AV.pureB,AV.pureBs,zn8,zn9,zo0,zo1,zo2,Nat.reduceBEq,zo3,zo4,zo5,zo6,zo7,zo8,zo9,zp0,zp1]
  refine AW_gen [(1, .ptr 1 1 0), (2, .ptr 2 1 0), (3, .imm (.int .i64 0)), (4, .ptr 4 1 0), (5, .imm (.int .i64 ((1 + B.length : Nat) : Int))), (6, .vsl 200 (g 200 + 1) 7 0 (x :: B).length none)] [(1, 1), (2, 1), (4, 1), (200, g 200 + 1)] [(1, .sl 7 .ro (l.map Item.row) :: p.row ++ [.imm (.int .i64 n)]), (2, [.imm (.slice none 0 0)]), (4, p.row), (200, fl (x :: B))] ?_ ?_
  · simp -implicitDefEqProofs only [e1,e2,e3,e4,g1,g2,g4,v1,v2,v4,chg,PatchS.row,Item.row,splice,zq7,zq8,wOps_fz2',undefA,zb0,za9,zq2,zq3,zq4,zq5,zq6,Envs,Gens,Vars,za0,za1,za2,za3,za4,eff,AV.ptrOf,AV.tokOf,za5,za6,AV.weaks,AV.weak1,za7,za8,zb1,zb2,zb3,zb4,zb5,zb6,zb7,zb8,zb9,zc0,zc1,zc2,zc3,zc4,zc5,zc6,zc7,zc8,zc9,zd0,zd1,zd2,zd3,zd4,zd5,zd6,zd7,zd8,zd9,ze0,ze1,ze2,ze3,ze4,ze5,ze6,ze7,ze8,ze9,zf0,zf1,zf2,zf3,zf4,zf5,zf6,zf7,zf8,zf9,zg0,zg1,zg2,zg3,zg4,zg5,zg6,zg7,zg8,zg9,zh0,zh1,zh2,zh3,zh4,zh5,zh6,zh7,zh8,zh9,zi0,zi1,zi2,zi3,zi4,zi5,zi6,wSnil,zi7,zi8,zi9,zj0,zj1,zj2,zj3,zj4,zj5,zj6,zj7,zj8,AV.flatB,AV.flatBs,zj9,zk0,zk1,zk2,zk3,zk4,zk5,zk6,act,AV.cells,AV.mk,AV.asSl,AV.asInt,AV.vslOf,wIdx,zk7,zk8,zk9,zl0,zl1,zl2,zl3,st0,env0,zl4,zl5,zl6,Nat.reduceAdd,Nat.reduceEqDiff,Nat.reduceLeDiff,↓reduceIte,AV.ofV,unV,← decide_not,zl7,zl8,zl9,zm0,zm1,zm2,zm3,zm4,zm5,zm6,zm7,zm8,zm9,zn0,zn1,zn2,zn3,zn4,zn5,zn6,zn7,reduceCtorEq,rowsOf,pureCells,AV.weak,AV.pureB,AV.pureBs,zn8,zn9,zo0,zo1,zo2,Nat.reduceBEq,zo3,zo4,zo5,zo6,zo7,zo8,zo9,zp0,zp1]
    rfl
  have hg1 : 1 ≤ g 200 + 1 := by omega
  generalize g 200 + 1 = g200 at hg1 ⊢
  clear e1 e2 e3 e4 e39 g1 g2 g4 v1 v2 v4
  rintro e g v tg tp x'' ⟨e1, e2, e3, e4, e5, e6, -⟩ ⟨g1, g2, g4, hg200, -⟩ ⟨v1, v2, v4, v200, -⟩
  refine AW_seq ?_
  simp -implicitDefEqProofs only [e1,e2,e3,e4,e5,e6,g1,g2,g4,hg200,v1,v2,v4,v200,wOps_fz2',PatchS.row,Item.row,Int.toNat_zero,Nat.zero_mul,Nat.add_zero,zb0,za9,za0,za1,za2,za3,za4,eff,AV.ptrOf,AV.tokOf,za5,za6,AV.weaks,AV.weak1,za7,za8,zb1,zb2,zb3,zb4,zb5,zb6,zb7,zb8,zb9,zc0,zc1,zc2,zc3,zc4,zc5,zc6,zc7,zc8,zc9,zd0,zd1,zd2,zd3,zd4,zd5,zd6,zd7,zd8,zd9,ze0,ze1,ze2,ze3,ze4,ze5,ze6,ze7,ze8,ze9,zf0,zf1,zf2,zf3,zf4,zf5,zf6,zf7,zf8,zf9,zg0,zg1,zg2,zg3,zg4,zg5,zg6,zg7,zg8,zg9,zh0,zh1,zh2,zh3,zh4,zh5,zh6,zh7,zh8,zh9,zi0,zi1,zi2,zi3,zi4,zi5,zi6,wSnil,zi7,zi8,zi9,zj0,zj1,zj2,zj3,zj4,zj5,zj6,zj7,zj8,AV.flatB,AV.flatBs,zj9,zk0,zk1,zk2,zk3,zk4,zk5,zk6,act,AV.cells,AV.mk,AV.asSl,AV.asInt,AV.vslOf,wIdx,zk7,zk8,zk9,zl0,zl1,zl2,zl3,st0,env0,zl4,zl5,zl6,Nat.reduceAdd,Nat.reduceEqDiff,Nat.reduceLeDiff,↓reduceIte,AV.ofV,unV,← decide_not,zl7,zl8,zl9,zm0,zm1,zm2,zm3,zm4,zm5,zm6,zm7,zm8,zm9,zn0,zn1,zn2,zn3,zn4,zn5,zn6,zn7,reduceCtorEq,rowsOf,pureCells,AV.weak,AV.pureB,AV.pureBs,zn8,zn9,zo0,zo1,zo2,Nat.reduceBEq,zo3,zo4,zo5,zo6,zo7,zo8,zo9,zp0,zp1]
  refine ⟨by simp, by rw [fl_len, List.length_cons]; omega, ?_⟩
  refine AW_then ?_
  refine AW_drawI (MvInv l p n (1 + B.length) g200 (fl ({ x with parent := p.parent } :: B)) (x :: B).length) ?_ ?_ ?_
  · refine ⟨by simp [upd, e1], by simp [upd, e2], by simp [upd, e4], by simp [upd, e5], by simp [upd, e6], by simp [g1], by simp [g2], by simp [g4], by simp [hg200], by simp [upd, v2], by simp [upd, v4, PatchS.row, Item.row], by simp [upd, splice, fl, Item.row], fun h => h.elim, fun h => h.elim, fun h => h.elim, fun h => h.elim, fun h => h.elim, fun h => h.elim, fun h => h.elim, fun h => h.elim, fun h => h.elim, fun h => h.elim, fun h => h.elim, fun h => h.elim, fun h => h.elim, fun h => h.elim, fun h => h.elim, fun h => h.elim, fun h => h.elim, fun _ => by simp [upd, v1, PatchS.row, Item.row], fun h => h.elim⟩
  · rintro D ⟨e, g, v, tg, tp, x1⟩ i o ho hnD hb I
    have hi : i < 14 := by have := (List.getElem?_eq_some_iff.1 ho).1; simpa using this
    have h13 : i ≠ 13 → ¬ D 13 := by
      intro hne h
      have a12 := I.q13 h; have a11 := I.q12 a12; have a10 := I.q11 a11
      rcases Nat.lt_or_ge i 10 with h' | h'
      · exact hnD (I.q10 a10 i h')
      · rcases (show i = 10 ∨ i = 11 ∨ i = 12 by omega) with rfl | rfl | rfl <;> exact hnD (by assumption)
    have h10 : i < 10 → ¬ D 10 := fun h' h => hnD (I.q10 h i h')
    rcases (show i = 0 ∨ i = 1 ∨ i = 2 ∨ i = 3 ∨ i = 4 ∨ i = 5 ∨ i = 6 ∨ i = 7 ∨ i = 8 ∨ i = 9 ∨ i = 10 ∨ i = 11 ∨ i = 12 ∨ i = 13 by omega) with rfl | rfl | rfl | rfl | rfl | rfl | rfl | rfl | rfl | rfl | rfl | rfl | rfl | rfl
    all_goals (simp only [zl8,zl9,Option.some.injEq] at ho; subst ho)
    · have w0 := I.b1
      have w1 := I.c1
      simp only at w0 w1
      simp -implicitDefEqProofs only [w0,w1,boundOf,Option.map_none,slcTok,fills,PatchS.row,Item.row,splice,zq7,zq8,zb0,za9,zn0,zn1,zm9,zn2,Nat.add_zero,zl6,za0,za1,za2,za3,za4,eff,AV.ptrOf,AV.tokOf,za5,za6,AV.weaks,AV.weak1,za7,za8,zb1,zb2,zb3,zb4,zb5,zb6,zb7,zb8,zb9,zc0,zc1,zc2,zc3,zc4,zc5,zc6,zc7,zc8,zc9,zd0,zd1,zd2,zd3,zd4,zd5,zd6,zd7,zd8,zd9,ze0,ze1,ze2,ze3,ze4,ze5,ze6,ze7,ze8,ze9,zf0,zf1,zf2,zf3,zf4,zf5,zf6,zf7,zf8,zf9,zg0,zg1,zg2,zg3,zg4,zg5,zg6,zg7,zg8,zg9,zh0,zh1,zh2,zh3,zh4,zh5,zh6,zh7,zh8,zh9,zi0,zi1,zi2,zi3,zi4,zi5,zi6,wSnil,zi7,zi8,zi9,zj0,zj1,zj2,zj3,zj4,zj5,zj6,zj7,zj8,AV.flatB,AV.flatBs,zj9,zk0,zk1,zk2,zk3,zk4,zk5,zk6,act,AV.cells,AV.mk,AV.asSl,AV.asInt,AV.vslOf,wIdx,zk7,zk8,zk9,zl0,zl1,zl2,zl3,st0,env0,zl4,zl5,Nat.reduceAdd,Nat.reduceEqDiff,Nat.reduceLeDiff,↓reduceIte,AV.ofV,unV,← decide_not,zl7,zl8,zl9,zm0,zm1,zm2,zm3,zm4,zm5,zm6,zm7,zm8,zn3,zn4,zn5,zn6,zn7,reduceCtorEq,rowsOf,pureCells,AV.weak,AV.pureB,AV.pureBs,zn8,zn9,zo0,zo1,zo2,Nat.reduceBEq,zo3,zo4,zo5,zo6,zo7,zo8,zo9,zp0,zp1]
      exact ⟨by simpa [upd] using I.b1, by simpa [upd] using I.b2, by simpa [upd] using I.b4, by simpa [upd] using I.b5, by simpa [upd] using I.b6, by simpa [upd] using I.c1, by simpa [upd] using I.c2, by simpa [upd] using I.c4, by simpa [upd] using I.c200, by simpa [upd] using I.d2, by simpa [upd] using I.d4, by simpa [upd] using I.d200, fun _ => by simp [upd], fun h => by simpa [upd] using I.h1 (h.resolve_left (by decide)), fun h => by simpa [upd] using I.h2 (h.resolve_left (by decide)), fun h => by simpa [upd] using I.h4 (h.resolve_left (by decide)), fun h => by simpa [upd] using I.h5 (h.resolve_left (by decide)), fun h => by simpa [upd] using I.h6 (h.resolve_left (by decide)), fun h => by simpa [upd] using I.h7 (h.resolve_left (by decide)), fun h => by simpa [upd] using I.h8 (h.resolve_left (by decide)), fun h => by simpa [upd] using I.h9 (h.resolve_left (by decide)), fun h => by simpa [upd] using I.h12 (h.resolve_left (by decide)), fun h j hj => .inr (I.q10 (h.resolve_left (by decide)) j hj), fun h => .inr (I.q11 (h.resolve_left (by decide))), fun h => .inr (I.q12 (h.resolve_left (by decide))), fun h => .inr (I.q13 (h.resolve_left (by decide))), fun h h' => by simpa [upd] using I.h3 (h.resolve_left (by decide)) fun q => h' (.inr q), fun h => by simpa [upd] using I.h10 (h.resolve_left (by decide)), fun h => by simpa [upd] using I.h11 (h.resolve_left (by decide)), fun h => by simpa [upd] using I.v1a fun q => h (.inr q), fun h => by simpa [upd] using I.v1b (h.resolve_left (by decide))⟩
    · have w0 := I.h0 (hb 0 (by decide))
      have w1 := I.c1
      simp only at w0 w1
      simp -implicitDefEqProofs only [w0,w1,boundOf,Option.map_none,slcTok,fills,PatchS.row,Item.row,splice,zq7,zq8,zb0,za9,zn0,zn1,zm9,zn2,Nat.add_zero,zl6,za0,za1,za2,za3,za4,eff,AV.ptrOf,AV.tokOf,za5,za6,AV.weaks,AV.weak1,za7,za8,zb1,zb2,zb3,zb4,zb5,zb6,zb7,zb8,zb9,zc0,zc1,zc2,zc3,zc4,zc5,zc6,zc7,zc8,zc9,zd0,zd1,zd2,zd3,zd4,zd5,zd6,zd7,zd8,zd9,ze0,ze1,ze2,ze3,ze4,ze5,ze6,ze7,ze8,ze9,zf0,zf1,zf2,zf3,zf4,zf5,zf6,zf7,zf8,zf9,zg0,zg1,zg2,zg3,zg4,zg5,zg6,zg7,zg8,zg9,zh0,zh1,zh2,zh3,zh4,zh5,zh6,zh7,zh8,zh9,zi0,zi1,zi2,zi3,zi4,zi5,zi6,wSnil,zi7,zi8,zi9,zj0,zj1,zj2,zj3,zj4,zj5,zj6,zj7,zj8,AV.flatB,AV.flatBs,zj9,zk0,zk1,zk2,zk3,zk4,zk5,zk6,act,AV.cells,AV.mk,AV.asSl,AV.asInt,AV.vslOf,wIdx,zk7,zk8,zk9,zl0,zl1,zl2,zl3,st0,env0,zl4,zl5,Nat.reduceAdd,Nat.reduceEqDiff,Nat.reduceLeDiff,↓reduceIte,AV.ofV,unV,← decide_not,zl7,zl8,zl9,zm0,zm1,zm2,zm3,zm4,zm5,zm6,zm7,zm8,zn3,zn4,zn5,zn6,zn7,reduceCtorEq,rowsOf,pureCells,AV.weak,AV.pureB,AV.pureBs,zn8,zn9,zo0,zo1,zo2,Nat.reduceBEq,zo3,zo4,zo5,zo6,zo7,zo8,zo9,zp0,zp1]
      exact ⟨by simpa [upd] using I.b1, by simpa [upd] using I.b2, by simpa [upd] using I.b4, by simpa [upd] using I.b5, by simpa [upd] using I.b6, by simpa [upd] using I.c1, by simpa [upd] using I.c2, by simpa [upd] using I.c4, by simpa [upd] using I.c200, by simpa [upd] using I.d2, by simpa [upd] using I.d4, by simpa [upd] using I.d200, fun h => by simpa [upd] using I.h0 (h.resolve_left (by decide)), fun _ => by simp [upd], fun h => by simpa [upd] using I.h2 (h.resolve_left (by decide)), fun h => by simpa [upd] using I.h4 (h.resolve_left (by decide)), fun h => by simpa [upd] using I.h5 (h.resolve_left (by decide)), fun h => by simpa [upd] using I.h6 (h.resolve_left (by decide)), fun h => by simpa [upd] using I.h7 (h.resolve_left (by decide)), fun h => by simpa [upd] using I.h8 (h.resolve_left (by decide)), fun h => by simpa [upd] using I.h9 (h.resolve_left (by decide)), fun h => by simpa [upd] using I.h12 (h.resolve_left (by decide)), fun h j hj => .inr (I.q10 (h.resolve_left (by decide)) j hj), fun h => .inr (I.q11 (h.resolve_left (by decide))), fun h => .inr (I.q12 (h.resolve_left (by decide))), fun h => .inr (I.q13 (h.resolve_left (by decide))), fun h h' => by simpa [upd] using I.h3 (h.resolve_left (by decide)) fun q => h' (.inr q), fun h => by simpa [upd] using I.h10 (h.resolve_left (by decide)), fun h => by simpa [upd] using I.h11 (h.resolve_left (by decide)), fun h => by simpa [upd] using I.v1a fun q => h (.inr q), fun h => by simpa [upd] using I.v1b (h.resolve_left (by decide))⟩
    · have w0 := I.h1 (hb 1 (by decide))
      have w1 := I.c1
      have wv := I.v1a (h13 (by decide))
      simp only at w0 w1 wv
      simp -implicitDefEqProofs only [w0,w1,wv,boundOf,Option.map_none,slcTok,fills,PatchS.row,Item.row,splice,zq7,zq8,zb0,za9,zn0,zn1,zm9,zn2,Nat.add_zero,zl6,za0,za1,za2,za3,za4,eff,AV.ptrOf,AV.tokOf,za5,za6,AV.weaks,AV.weak1,za7,za8,zb1,zb2,zb3,zb4,zb5,zb6,zb7,zb8,zb9,zc0,zc1,zc2,zc3,zc4,zc5,zc6,zc7,zc8,zc9,zd0,zd1,zd2,zd3,zd4,zd5,zd6,zd7,zd8,zd9,ze0,ze1,ze2,ze3,ze4,ze5,ze6,ze7,ze8,ze9,zf0,zf1,zf2,zf3,zf4,zf5,zf6,zf7,zf8,zf9,zg0,zg1,zg2,zg3,zg4,zg5,zg6,zg7,zg8,zg9,zh0,zh1,zh2,zh3,zh4,zh5,zh6,zh7,zh8,zh9,zi0,zi1,zi2,zi3,zi4,zi5,zi6,wSnil,zi7,zi8,zi9,zj0,zj1,zj2,zj3,zj4,zj5,zj6,zj7,zj8,AV.flatB,AV.flatBs,zj9,zk0,zk1,zk2,zk3,zk4,zk5,zk6,act,AV.cells,AV.mk,AV.asSl,AV.asInt,AV.vslOf,wIdx,zk7,zk8,zk9,zl0,zl1,zl2,zl3,st0,env0,zl4,zl5,Nat.reduceAdd,Nat.reduceEqDiff,Nat.reduceLeDiff,↓reduceIte,AV.ofV,unV,← decide_not,zl7,zl8,zl9,zm0,zm1,zm2,zm3,zm4,zm5,zm6,zm7,zm8,zn3,zn4,zn5,zn6,zn7,reduceCtorEq,rowsOf,pureCells,AV.weak,AV.pureB,AV.pureBs,zn8,zn9,zo0,zo1,zo2,Nat.reduceBEq,zo3,zo4,zo5,zo6,zo7,zo8,zo9,zp0,zp1]
      exact ⟨by simpa [upd] using I.b1, by simpa [upd] using I.b2, by simpa [upd] using I.b4, by simpa [upd] using I.b5, by simpa [upd] using I.b6, by simpa [upd] using I.c1, by simpa [upd] using I.c2, by simpa [upd] using I.c4, by simpa [upd] using I.c200, by simpa [upd] using I.d2, by simpa [upd] using I.d4, by simpa [upd] using I.d200, fun h => by simpa [upd] using I.h0 (h.resolve_left (by decide)), fun h => by simpa [upd] using I.h1 (h.resolve_left (by decide)), fun _ => by simp [upd], fun h => by simpa [upd] using I.h4 (h.resolve_left (by decide)), fun h => by simpa [upd] using I.h5 (h.resolve_left (by decide)), fun h => by simpa [upd] using I.h6 (h.resolve_left (by decide)), fun h => by simpa [upd] using I.h7 (h.resolve_left (by decide)), fun h => by simpa [upd] using I.h8 (h.resolve_left (by decide)), fun h => by simpa [upd] using I.h9 (h.resolve_left (by decide)), fun h => by simpa [upd] using I.h12 (h.resolve_left (by decide)), fun h j hj => .inr (I.q10 (h.resolve_left (by decide)) j hj), fun h => .inr (I.q11 (h.resolve_left (by decide))), fun h => .inr (I.q12 (h.resolve_left (by decide))), fun h => .inr (I.q13 (h.resolve_left (by decide))), fun h h' => by simpa [upd] using I.h3 (h.resolve_left (by decide)) fun q => h' (.inr q), fun h => by simpa [upd] using I.h10 (h.resolve_left (by decide)), fun h => by simpa [upd] using I.h11 (h.resolve_left (by decide)), fun h => by simpa [upd] using I.v1a fun q => h (.inr q), fun h => by simpa [upd] using I.v1b (h.resolve_left (by decide))⟩
    · have w1 := I.h2 (hb 2 (by decide))
      simp only at w1
      simp -implicitDefEqProofs only [w1,boundOf,Option.map_none,slcTok,fills,PatchS.row,Item.row,splice,zq7,zq8,zb0,za9,zn0,zn1,zm9,zn2,Nat.add_zero,zl6,za0,za1,za2,za3,za4,eff,AV.ptrOf,AV.tokOf,za5,za6,AV.weaks,AV.weak1,za7,za8,zb1,zb2,zb3,zb4,zb5,zb6,zb7,zb8,zb9,zc0,zc1,zc2,zc3,zc4,zc5,zc6,zc7,zc8,zc9,zd0,zd1,zd2,zd3,zd4,zd5,zd6,zd7,zd8,zd9,ze0,ze1,ze2,ze3,ze4,ze5,ze6,ze7,ze8,ze9,zf0,zf1,zf2,zf3,zf4,zf5,zf6,zf7,zf8,zf9,zg0,zg1,zg2,zg3,zg4,zg5,zg6,zg7,zg8,zg9,zh0,zh1,zh2,zh3,zh4,zh5,zh6,zh7,zh8,zh9,zi0,zi1,zi2,zi3,zi4,zi5,zi6,wSnil,zi7,zi8,zi9,zj0,zj1,zj2,zj3,zj4,zj5,zj6,zj7,zj8,AV.flatB,AV.flatBs,zj9,zk0,zk1,zk2,zk3,zk4,zk5,zk6,act,AV.cells,AV.mk,AV.asSl,AV.asInt,AV.vslOf,wIdx,zk7,zk8,zk9,zl0,zl1,zl2,zl3,st0,env0,zl4,zl5,Nat.reduceAdd,Nat.reduceEqDiff,Nat.reduceLeDiff,↓reduceIte,AV.ofV,unV,← decide_not,zl7,zl8,zl9,zm0,zm1,zm2,zm3,zm4,zm5,zm6,zm7,zm8,zn3,zn4,zn5,zn6,zn7,reduceCtorEq,rowsOf,pureCells,AV.weak,AV.pureB,AV.pureBs,zn8,zn9,zo0,zo1,zo2,Nat.reduceBEq,zo3,zo4,zo5,zo6,zo7,zo8,zo9,zp0,zp1]
      refine wCall_I (clone_I L 383 l (by omega) (by omega)) ?_
      rintro _ s ⟨rfl, rfl⟩ he
      simp -implicitDefEqProofs only [zl1,boundOf,Option.map_none,slcTok,fills,PatchS.row,Item.row,splice,zq7,zq8,zb0,za9,zn0,zn1,zm9,zn2,Nat.add_zero,zl6,za0,za1,za2,za3,za4,eff,AV.ptrOf,AV.tokOf,za5,za6,AV.weaks,AV.weak1,za7,za8,zb1,zb2,zb3,zb4,zb5,zb6,zb7,zb8,zb9,zc0,zc1,zc2,zc3,zc4,zc5,zc6,zc7,zc8,zc9,zd0,zd1,zd2,zd3,zd4,zd5,zd6,zd7,zd8,zd9,ze0,ze1,ze2,ze3,ze4,ze5,ze6,ze7,ze8,ze9,zf0,zf1,zf2,zf3,zf4,zf5,zf6,zf7,zf8,zf9,zg0,zg1,zg2,zg3,zg4,zg5,zg6,zg7,zg8,zg9,zh0,zh1,zh2,zh3,zh4,zh5,zh6,zh7,zh8,zh9,zi0,zi1,zi2,zi3,zi4,zi5,zi6,wSnil,zi7,zi8,zi9,zj0,zj1,zj2,zj3,zj4,zj5,zj6,zj7,zj8,AV.flatB,AV.flatBs,zj9,zk0,zk1,zk2,zk3,zk4,zk5,zk6,act,AV.cells,AV.mk,AV.asSl,AV.asInt,AV.vslOf,wIdx,zk7,zk8,zk9,zl0,zl2,zl3,st0,env0,zl4,zl5,Nat.reduceAdd,Nat.reduceEqDiff,Nat.reduceLeDiff,↓reduceIte,AV.ofV,unV,← decide_not,zl7,zl8,zl9,zm0,zm1,zm2,zm3,zm4,zm5,zm6,zm7,zm8,zn3,zn4,zn5,zn6,zn7,reduceCtorEq,rowsOf,pureCells,AV.weak,AV.pureB,AV.pureBs,zn8,zn9,zo0,zo1,zo2,Nat.reduceBEq,zo3,zo4,zo5,zo6,zo7,zo8,zo9,zp0,zp1]
      exact ⟨by simpa [upd] using I.b1, by simpa [upd] using I.b2, by simpa [upd] using I.b4, by simpa [upd] using I.b5, by simpa [upd] using I.b6, by simpa [upd] using I.c1, by simpa [upd] using I.c2, by simpa [upd] using I.c4, by simpa [upd] using I.c200, by simpa [upd] using I.d2, by simpa [upd] using I.d4, by simpa [upd] using I.d200, fun h => by simpa [upd] using I.h0 (h.resolve_left (by decide)), fun h => by simpa [upd] using I.h1 (h.resolve_left (by decide)), fun h => by simpa [upd] using I.h2 (h.resolve_left (by decide)), fun h => by simpa [upd] using I.h4 (h.resolve_left (by decide)), fun h => by simpa [upd] using I.h5 (h.resolve_left (by decide)), fun h => by simpa [upd] using I.h6 (h.resolve_left (by decide)), fun h => by simpa [upd] using I.h7 (h.resolve_left (by decide)), fun h => by simpa [upd] using I.h8 (h.resolve_left (by decide)), fun h => by simpa [upd] using I.h9 (h.resolve_left (by decide)), fun h => by simpa [upd] using I.h12 (h.resolve_left (by decide)), fun h j hj => .inr (I.q10 (h.resolve_left (by decide)) j hj), fun h => .inr (I.q11 (h.resolve_left (by decide))), fun h => .inr (I.q12 (h.resolve_left (by decide))), fun h => .inr (I.q13 (h.resolve_left (by decide))), fun _ _ => by simp [upd, fl], fun h => by simpa [upd] using I.h10 (h.resolve_left (by decide)), fun h => by simpa [upd] using I.h11 (h.resolve_left (by decide)), fun h => by simpa [upd] using I.v1a fun q => h (.inr q), fun h => by simpa [upd] using I.v1b (h.resolve_left (by decide))⟩
    · have w0 := I.b1
      have w1 := I.c1
      simp only at w0 w1
      simp -implicitDefEqProofs only [w0,w1,boundOf,Option.map_none,slcTok,fills,PatchS.row,Item.row,splice,zq7,zq8,zb0,za9,zn0,zn1,zm9,zn2,Nat.add_zero,zl6,za0,za1,za2,za3,za4,eff,AV.ptrOf,AV.tokOf,za5,za6,AV.weaks,AV.weak1,za7,za8,zb1,zb2,zb3,zb4,zb5,zb6,zb7,zb8,zb9,zc0,zc1,zc2,zc3,zc4,zc5,zc6,zc7,zc8,zc9,zd0,zd1,zd2,zd3,zd4,zd5,zd6,zd7,zd8,zd9,ze0,ze1,ze2,ze3,ze4,ze5,ze6,ze7,ze8,ze9,zf0,zf1,zf2,zf3,zf4,zf5,zf6,zf7,zf8,zf9,zg0,zg1,zg2,zg3,zg4,zg5,zg6,zg7,zg8,zg9,zh0,zh1,zh2,zh3,zh4,zh5,zh6,zh7,zh8,zh9,zi0,zi1,zi2,zi3,zi4,zi5,zi6,wSnil,zi7,zi8,zi9,zj0,zj1,zj2,zj3,zj4,zj5,zj6,zj7,zj8,AV.flatB,AV.flatBs,zj9,zk0,zk1,zk2,zk3,zk4,zk5,zk6,act,AV.cells,AV.mk,AV.asSl,AV.asInt,AV.vslOf,wIdx,zk7,zk8,zk9,zl0,zl1,zl2,zl3,st0,env0,zl4,zl5,Nat.reduceAdd,Nat.reduceEqDiff,Nat.reduceLeDiff,↓reduceIte,AV.ofV,unV,← decide_not,zl7,zl8,zl9,zm0,zm1,zm2,zm3,zm4,zm5,zm6,zm7,zm8,zn3,zn4,zn5,zn6,zn7,reduceCtorEq,rowsOf,pureCells,AV.weak,AV.pureB,AV.pureBs,zn8,zn9,zo0,zo1,zo2,Nat.reduceBEq,zo3,zo4,zo5,zo6,zo7,zo8,zo9,zp0,zp1]
      exact ⟨by simpa [upd] using I.b1, by simpa [upd] using I.b2, by simpa [upd] using I.b4, by simpa [upd] using I.b5, by simpa [upd] using I.b6, by simpa [upd] using I.c1, by simpa [upd] using I.c2, by simpa [upd] using I.c4, by simpa [upd] using I.c200, by simpa [upd] using I.d2, by simpa [upd] using I.d4, by simpa [upd] using I.d200, fun h => by simpa [upd] using I.h0 (h.resolve_left (by decide)), fun h => by simpa [upd] using I.h1 (h.resolve_left (by decide)), fun h => by simpa [upd] using I.h2 (h.resolve_left (by decide)), fun _ => by simp [upd], fun h => by simpa [upd] using I.h5 (h.resolve_left (by decide)), fun h => by simpa [upd] using I.h6 (h.resolve_left (by decide)), fun h => by simpa [upd] using I.h7 (h.resolve_left (by decide)), fun h => by simpa [upd] using I.h8 (h.resolve_left (by decide)), fun h => by simpa [upd] using I.h9 (h.resolve_left (by decide)), fun h => by simpa [upd] using I.h12 (h.resolve_left (by decide)), fun h j hj => .inr (I.q10 (h.resolve_left (by decide)) j hj), fun h => .inr (I.q11 (h.resolve_left (by decide))), fun h => .inr (I.q12 (h.resolve_left (by decide))), fun h => .inr (I.q13 (h.resolve_left (by decide))), fun h h' => by simpa [upd] using I.h3 (h.resolve_left (by decide)) fun q => h' (.inr q), fun h => by simpa [upd] using I.h10 (h.resolve_left (by decide)), fun h => by simpa [upd] using I.h11 (h.resolve_left (by decide)), fun h => by simpa [upd] using I.v1a fun q => h (.inr q), fun h => by simpa [upd] using I.v1b (h.resolve_left (by decide))⟩
    · have w0 := I.h4 (hb 4 (by decide))
      have w1 := I.c1
      have wv := I.v1a (h13 (by decide))
      simp only at w0 w1 wv
      simp -implicitDefEqProofs only [w0,w1,wv,boundOf,Option.map_none,slcTok,fills,PatchS.row,Item.row,splice,zq7,zq8,zb0,za9,zn0,zn1,zm9,zn2,Nat.add_zero,zl6,za0,za1,za2,za3,za4,eff,AV.ptrOf,AV.tokOf,za5,za6,AV.weaks,AV.weak1,za7,za8,zb1,zb2,zb3,zb4,zb5,zb6,zb7,zb8,zb9,zc0,zc1,zc2,zc3,zc4,zc5,zc6,zc7,zc8,zc9,zd0,zd1,zd2,zd3,zd4,zd5,zd6,zd7,zd8,zd9,ze0,ze1,ze2,ze3,ze4,ze5,ze6,ze7,ze8,ze9,zf0,zf1,zf2,zf3,zf4,zf5,zf6,zf7,zf8,zf9,zg0,zg1,zg2,zg3,zg4,zg5,zg6,zg7,zg8,zg9,zh0,zh1,zh2,zh3,zh4,zh5,zh6,zh7,zh8,zh9,zi0,zi1,zi2,zi3,zi4,zi5,zi6,wSnil,zi7,zi8,zi9,zj0,zj1,zj2,zj3,zj4,zj5,zj6,zj7,zj8,AV.flatB,AV.flatBs,zj9,zk0,zk1,zk2,zk3,zk4,zk5,zk6,act,AV.cells,AV.mk,AV.asSl,AV.asInt,AV.vslOf,wIdx,zk7,zk8,zk9,zl0,zl1,zl2,zl3,st0,env0,zl4,zl5,Nat.reduceAdd,Nat.reduceEqDiff,Nat.reduceLeDiff,↓reduceIte,AV.ofV,unV,← decide_not,zl7,zl8,zl9,zm0,zm1,zm2,zm3,zm4,zm5,zm6,zm7,zm8,zn3,zn4,zn5,zn6,zn7,reduceCtorEq,rowsOf,pureCells,AV.weak,AV.pureB,AV.pureBs,zn8,zn9,zo0,zo1,zo2,Nat.reduceBEq,zo3,zo4,zo5,zo6,zo7,zo8,zo9,zp0,zp1]
      exact ⟨by simpa [upd] using I.b1, by simpa [upd] using I.b2, by simpa [upd] using I.b4, by simpa [upd] using I.b5, by simpa [upd] using I.b6, by simpa [upd] using I.c1, by simpa [upd] using I.c2, by simpa [upd] using I.c4, by simpa [upd] using I.c200, by simpa [upd] using I.d2, by simpa [upd] using I.d4, by simpa [upd] using I.d200, fun h => by simpa [upd] using I.h0 (h.resolve_left (by decide)), fun h => by simpa [upd] using I.h1 (h.resolve_left (by decide)), fun h => by simpa [upd] using I.h2 (h.resolve_left (by decide)), fun h => by simpa [upd] using I.h4 (h.resolve_left (by decide)), fun _ => by simp [upd], fun h => by simpa [upd] using I.h6 (h.resolve_left (by decide)), fun h => by simpa [upd] using I.h7 (h.resolve_left (by decide)), fun h => by simpa [upd] using I.h8 (h.resolve_left (by decide)), fun h => by simpa [upd] using I.h9 (h.resolve_left (by decide)), fun h => by simpa [upd] using I.h12 (h.resolve_left (by decide)), fun h j hj => .inr (I.q10 (h.resolve_left (by decide)) j hj), fun h => .inr (I.q11 (h.resolve_left (by decide))), fun h => .inr (I.q12 (h.resolve_left (by decide))), fun h => .inr (I.q13 (h.resolve_left (by decide))), fun h h' => by simpa [upd] using I.h3 (h.resolve_left (by decide)) fun q => h' (.inr q), fun h => by simpa [upd] using I.h10 (h.resolve_left (by decide)), fun h => by simpa [upd] using I.h11 (h.resolve_left (by decide)), fun h => by simpa [upd] using I.v1a fun q => h (.inr q), fun h => by simpa [upd] using I.v1b (h.resolve_left (by decide))⟩
    · have w0 := I.b1
      have w1 := I.c1
      simp only at w0 w1
      simp -implicitDefEqProofs only [w0,w1,boundOf,Option.map_none,slcTok,fills,PatchS.row,Item.row,splice,zq7,zq8,zb0,za9,zn0,zn1,zm9,zn2,Nat.add_zero,zl6,za0,za1,za2,za3,za4,eff,AV.ptrOf,AV.tokOf,za5,za6,AV.weaks,AV.weak1,za7,za8,zb1,zb2,zb3,zb4,zb5,zb6,zb7,zb8,zb9,zc0,zc1,zc2,zc3,zc4,zc5,zc6,zc7,zc8,zc9,zd0,zd1,zd2,zd3,zd4,zd5,zd6,zd7,zd8,zd9,ze0,ze1,ze2,ze3,ze4,ze5,ze6,ze7,ze8,ze9,zf0,zf1,zf2,zf3,zf4,zf5,zf6,zf7,zf8,zf9,zg0,zg1,zg2,zg3,zg4,zg5,zg6,zg7,zg8,zg9,zh0,zh1,zh2,zh3,zh4,zh5,zh6,zh7,zh8,zh9,zi0,zi1,zi2,zi3,zi4,zi5,zi6,wSnil,zi7,zi8,zi9,zj0,zj1,zj2,zj3,zj4,zj5,zj6,zj7,zj8,AV.flatB,AV.flatBs,zj9,zk0,zk1,zk2,zk3,zk4,zk5,zk6,act,AV.cells,AV.mk,AV.asSl,AV.asInt,AV.vslOf,wIdx,zk7,zk8,zk9,zl0,zl1,zl2,zl3,st0,env0,zl4,zl5,Nat.reduceAdd,Nat.reduceEqDiff,Nat.reduceLeDiff,↓reduceIte,AV.ofV,unV,← decide_not,zl7,zl8,zl9,zm0,zm1,zm2,zm3,zm4,zm5,zm6,zm7,zm8,zn3,zn4,zn5,zn6,zn7,reduceCtorEq,rowsOf,pureCells,AV.weak,AV.pureB,AV.pureBs,zn8,zn9,zo0,zo1,zo2,Nat.reduceBEq,zo3,zo4,zo5,zo6,zo7,zo8,zo9,zp0,zp1]
      exact ⟨by simpa [upd] using I.b1, by simpa [upd] using I.b2, by simpa [upd] using I.b4, by simpa [upd] using I.b5, by simpa [upd] using I.b6, by simpa [upd] using I.c1, by simpa [upd] using I.c2, by simpa [upd] using I.c4, by simpa [upd] using I.c200, by simpa [upd] using I.d2, by simpa [upd] using I.d4, by simpa [upd] using I.d200, fun h => by simpa [upd] using I.h0 (h.resolve_left (by decide)), fun h => by simpa [upd] using I.h1 (h.resolve_left (by decide)), fun h => by simpa [upd] using I.h2 (h.resolve_left (by decide)), fun h => by simpa [upd] using I.h4 (h.resolve_left (by decide)), fun h => by simpa [upd] using I.h5 (h.resolve_left (by decide)), fun _ => by simp [upd], fun h => by simpa [upd] using I.h7 (h.resolve_left (by decide)), fun h => by simpa [upd] using I.h8 (h.resolve_left (by decide)), fun h => by simpa [upd] using I.h9 (h.resolve_left (by decide)), fun h => by simpa [upd] using I.h12 (h.resolve_left (by decide)), fun h j hj => .inr (I.q10 (h.resolve_left (by decide)) j hj), fun h => .inr (I.q11 (h.resolve_left (by decide))), fun h => .inr (I.q12 (h.resolve_left (by decide))), fun h => .inr (I.q13 (h.resolve_left (by decide))), fun h h' => by simpa [upd] using I.h3 (h.resolve_left (by decide)) fun q => h' (.inr q), fun h => by simpa [upd] using I.h10 (h.resolve_left (by decide)), fun h => by simpa [upd] using I.h11 (h.resolve_left (by decide)), fun h => by simpa [upd] using I.v1a fun q => h (.inr q), fun h => by simpa [upd] using I.v1b (h.resolve_left (by decide))⟩
    · have w0 := I.h6 (hb 6 (by decide))
      have w1 := I.c1
      have wv := I.v1a (h13 (by decide))
      simp only at w0 w1 wv
      simp -implicitDefEqProofs only [w0,w1,wv,boundOf,Option.map_none,slcTok,fills,PatchS.row,Item.row,splice,zq7,zq8,zb0,za9,zn0,zn1,zm9,zn2,Nat.add_zero,zl6,za0,za1,za2,za3,za4,eff,AV.ptrOf,AV.tokOf,za5,za6,AV.weaks,AV.weak1,za7,za8,zb1,zb2,zb3,zb4,zb5,zb6,zb7,zb8,zb9,zc0,zc1,zc2,zc3,zc4,zc5,zc6,zc7,zc8,zc9,zd0,zd1,zd2,zd3,zd4,zd5,zd6,zd7,zd8,zd9,ze0,ze1,ze2,ze3,ze4,ze5,ze6,ze7,ze8,ze9,zf0,zf1,zf2,zf3,zf4,zf5,zf6,zf7,zf8,zf9,zg0,zg1,zg2,zg3,zg4,zg5,zg6,zg7,zg8,zg9,zh0,zh1,zh2,zh3,zh4,zh5,zh6,zh7,zh8,zh9,zi0,zi1,zi2,zi3,zi4,zi5,zi6,wSnil,zi7,zi8,zi9,zj0,zj1,zj2,zj3,zj4,zj5,zj6,zj7,zj8,AV.flatB,AV.flatBs,zj9,zk0,zk1,zk2,zk3,zk4,zk5,zk6,act,AV.cells,AV.mk,AV.asSl,AV.asInt,AV.vslOf,wIdx,zk7,zk8,zk9,zl0,zl1,zl2,zl3,st0,env0,zl4,zl5,Nat.reduceAdd,Nat.reduceEqDiff,Nat.reduceLeDiff,↓reduceIte,AV.ofV,unV,← decide_not,zl7,zl8,zl9,zm0,zm1,zm2,zm3,zm4,zm5,zm6,zm7,zm8,zn3,zn4,zn5,zn6,zn7,reduceCtorEq,rowsOf,pureCells,AV.weak,AV.pureB,AV.pureBs,zn8,zn9,zo0,zo1,zo2,Nat.reduceBEq,zo3,zo4,zo5,zo6,zo7,zo8,zo9,zp0,zp1]
      exact ⟨by simpa [upd] using I.b1, by simpa [upd] using I.b2, by simpa [upd] using I.b4, by simpa [upd] using I.b5, by simpa [upd] using I.b6, by simpa [upd] using I.c1, by simpa [upd] using I.c2, by simpa [upd] using I.c4, by simpa [upd] using I.c200, by simpa [upd] using I.d2, by simpa [upd] using I.d4, by simpa [upd] using I.d200, fun h => by simpa [upd] using I.h0 (h.resolve_left (by decide)), fun h => by simpa [upd] using I.h1 (h.resolve_left (by decide)), fun h => by simpa [upd] using I.h2 (h.resolve_left (by decide)), fun h => by simpa [upd] using I.h4 (h.resolve_left (by decide)), fun h => by simpa [upd] using I.h5 (h.resolve_left (by decide)), fun h => by simpa [upd] using I.h6 (h.resolve_left (by decide)), fun _ => by simp [upd], fun h => by simpa [upd] using I.h8 (h.resolve_left (by decide)), fun h => by simpa [upd] using I.h9 (h.resolve_left (by decide)), fun h => by simpa [upd] using I.h12 (h.resolve_left (by decide)), fun h j hj => .inr (I.q10 (h.resolve_left (by decide)) j hj), fun h => .inr (I.q11 (h.resolve_left (by decide))), fun h => .inr (I.q12 (h.resolve_left (by decide))), fun h => .inr (I.q13 (h.resolve_left (by decide))), fun h h' => by simpa [upd] using I.h3 (h.resolve_left (by decide)) fun q => h' (.inr q), fun h => by simpa [upd] using I.h10 (h.resolve_left (by decide)), fun h => by simpa [upd] using I.h11 (h.resolve_left (by decide)), fun h => by simpa [upd] using I.v1a fun q => h (.inr q), fun h => by simpa [upd] using I.v1b (h.resolve_left (by decide))⟩
    · have w0 := I.b5
      simp only at w0
      simp -implicitDefEqProofs only [w0,boundOf,Option.map_none,slcTok,fills,PatchS.row,Item.row,splice,zq7,zq8,zb0,za9,zn0,zn1,zm9,zn2,Nat.add_zero,zl6,za0,za1,za2,za3,za4,eff,AV.ptrOf,AV.tokOf,za5,za6,AV.weaks,AV.weak1,za7,za8,zb1,zb2,zb3,zb4,zb5,zb6,zb7,zb8,zb9,zc0,zc1,zc2,zc3,zc4,zc5,zc6,zc7,zc8,zc9,zd0,zd1,zd2,zd3,zd4,zd5,zd6,zd7,zd8,zd9,ze0,ze1,ze2,ze3,ze4,ze5,ze6,ze7,ze8,ze9,zf0,zf1,zf2,zf3,zf4,zf5,zf6,zf7,zf8,zf9,zg0,zg1,zg2,zg3,zg4,zg5,zg6,zg7,zg8,zg9,zh0,zh1,zh2,zh3,zh4,zh5,zh6,zh7,zh8,zh9,zi0,zi1,zi2,zi3,zi4,zi5,zi6,wSnil,zi7,zi8,zi9,zj0,zj1,zj2,zj3,zj4,zj5,zj6,zj7,zj8,AV.flatB,AV.flatBs,zj9,zk0,zk1,zk2,zk3,zk4,zk5,zk6,act,AV.cells,AV.mk,AV.asSl,AV.asInt,AV.vslOf,wIdx,zk7,zk8,zk9,zl0,zl1,zl2,zl3,st0,env0,zl4,zl5,Nat.reduceAdd,Nat.reduceEqDiff,Nat.reduceLeDiff,↓reduceIte,AV.ofV,unV,← decide_not,zl7,zl8,zl9,zm0,zm1,zm2,zm3,zm4,zm5,zm6,zm7,zm8,zn3,zn4,zn5,zn6,zn7,reduceCtorEq,rowsOf,pureCells,AV.weak,AV.pureB,AV.pureBs,zn8,zn9,zo0,zo1,zo2,Nat.reduceBEq,zo3,zo4,zo5,zo6,zo7,zo8,zo9,zp0,zp1]
      exact ⟨by simpa [upd] using I.b1, by simpa [upd] using I.b2, by simpa [upd] using I.b4, by simpa [upd] using I.b5, by simpa [upd] using I.b6, by simpa [upd] using I.c1, by simpa [upd] using I.c2, by simpa [upd] using I.c4, by simpa [upd] using I.c200, by simpa [upd] using I.d2, by simpa [upd] using I.d4, by simpa [upd] using I.d200, fun h => by simpa [upd] using I.h0 (h.resolve_left (by decide)), fun h => by simpa [upd] using I.h1 (h.resolve_left (by decide)), fun h => by simpa [upd] using I.h2 (h.resolve_left (by decide)), fun h => by simpa [upd] using I.h4 (h.resolve_left (by decide)), fun h => by simpa [upd] using I.h5 (h.resolve_left (by decide)), fun h => by simpa [upd] using I.h6 (h.resolve_left (by decide)), fun h => by simpa [upd] using I.h7 (h.resolve_left (by decide)), fun _ => by simp [upd], fun h => by simpa [upd] using I.h9 (h.resolve_left (by decide)), fun h => by simpa [upd] using I.h12 (h.resolve_left (by decide)), fun h j hj => .inr (I.q10 (h.resolve_left (by decide)) j hj), fun h => .inr (I.q11 (h.resolve_left (by decide))), fun h => .inr (I.q12 (h.resolve_left (by decide))), fun h => .inr (I.q13 (h.resolve_left (by decide))), fun h h' => by simpa [upd] using I.h3 (h.resolve_left (by decide)) fun q => h' (.inr q), fun h => by simpa [upd] using I.h10 (h.resolve_left (by decide)), fun h => by simpa [upd] using I.h11 (h.resolve_left (by decide)), fun h => by simpa [upd] using I.v1a fun q => h (.inr q), fun h => by simpa [upd] using I.v1b (h.resolve_left (by decide))⟩
    · have w0 := I.h7 (hb 7 (by decide))
      have w1 := I.h8 (hb 8 (by decide))
      simp only at w0 w1
      have hw9 : IntKind.i64.wrap ((n : Int) + ((1 + B.length : Nat) : Int)) = ((n + (1 + B.length) : Nat) : Int) := by rw [hw]; push_cast; omega
      simp -implicitDefEqProofs only [w0,w1,hw9,boundOf,Option.map_none,slcTok,fills,PatchS.row,Item.row,splice,zq7,zq8,zb0,za9,zn0,zn1,zm9,zn2,Nat.add_zero,zl6,za0,za1,za2,za3,za4,eff,AV.ptrOf,AV.tokOf,za5,za6,AV.weaks,AV.weak1,za7,za8,zb1,zb2,zb3,zb4,zb5,zb6,zb7,zb8,zb9,zc0,zc1,zc2,zc3,zc4,zc5,zc6,zc7,zc8,zc9,zd0,zd1,zd2,zd3,zd4,zd5,zd6,zd7,zd8,zd9,ze0,ze1,ze2,ze3,ze4,ze5,ze6,ze7,ze8,ze9,zf0,zf1,zf2,zf3,zf4,zf5,zf6,zf7,zf8,zf9,zg0,zg1,zg2,zg3,zg4,zg5,zg6,zg7,zg8,zg9,zh0,zh1,zh2,zh3,zh4,zh5,zh6,zh7,zh8,zh9,zi0,zi1,zi2,zi3,zi4,zi5,zi6,wSnil,zi7,zi8,zi9,zj0,zj1,zj2,zj3,zj4,zj5,zj6,zj7,zj8,AV.flatB,AV.flatBs,zj9,zk0,zk1,zk2,zk3,zk4,zk5,zk6,act,AV.cells,AV.mk,AV.asSl,AV.asInt,AV.vslOf,wIdx,zk7,zk8,zk9,zl0,zl1,zl2,zl3,st0,env0,zl4,zl5,Nat.reduceAdd,Nat.reduceEqDiff,Nat.reduceLeDiff,↓reduceIte,AV.ofV,unV,← decide_not,zl7,zl8,zl9,zm0,zm1,zm2,zm3,zm4,zm5,zm6,zm7,zm8,zn3,zn4,zn5,zn6,zn7,reduceCtorEq,rowsOf,pureCells,AV.weak,AV.pureB,AV.pureBs,zn8,zn9,zo0,zo1,zo2,Nat.reduceBEq,zo3,zo4,zo5,zo6,zo7,zo8,zo9,zp0,zp1]
      exact ⟨by simpa [upd] using I.b1, by simpa [upd] using I.b2, by simpa [upd] using I.b4, by simpa [upd] using I.b5, by simpa [upd] using I.b6, by simpa [upd] using I.c1, by simpa [upd] using I.c2, by simpa [upd] using I.c4, by simpa [upd] using I.c200, by simpa [upd] using I.d2, by simpa [upd] using I.d4, by simpa [upd] using I.d200, fun h => by simpa [upd] using I.h0 (h.resolve_left (by decide)), fun h => by simpa [upd] using I.h1 (h.resolve_left (by decide)), fun h => by simpa [upd] using I.h2 (h.resolve_left (by decide)), fun h => by simpa [upd] using I.h4 (h.resolve_left (by decide)), fun h => by simpa [upd] using I.h5 (h.resolve_left (by decide)), fun h => by simpa [upd] using I.h6 (h.resolve_left (by decide)), fun h => by simpa [upd] using I.h7 (h.resolve_left (by decide)), fun h => by simpa [upd] using I.h8 (h.resolve_left (by decide)), fun _ => by simp [upd], fun h => by simpa [upd] using I.h12 (h.resolve_left (by decide)), fun h j hj => .inr (I.q10 (h.resolve_left (by decide)) j hj), fun h => .inr (I.q11 (h.resolve_left (by decide))), fun h => .inr (I.q12 (h.resolve_left (by decide))), fun h => .inr (I.q13 (h.resolve_left (by decide))), fun h h' => by simpa [upd] using I.h3 (h.resolve_left (by decide)) fun q => h' (.inr q), fun h => by simpa [upd] using I.h10 (h.resolve_left (by decide)), fun h => by simpa [upd] using I.h11 (h.resolve_left (by decide)), fun h => by simpa [upd] using I.v1a fun q => h (.inr q), fun h => by simpa [upd] using I.v1b (h.resolve_left (by decide))⟩
    · have w1 := I.h3 (hb 3 (by decide)) hnD
      have w2 := I.h5 (hb 5 (by decide))
      have w3 := I.h9 (hb 9 (by decide))
      simp only at w1 w2 w3
      obtain ⟨w1, w1g, w1v⟩ := w1
      simp -implicitDefEqProofs only [w1,w2,w3,boundOf,Option.map_none,slcTok,fills,PatchS.row,Item.row,splice,zq7,zq8,zb0,za9,zn0,zn1,zm9,zn2,Nat.add_zero,zl6,za0,za1,za2,za3,za4,eff,AV.ptrOf,AV.tokOf,za5,za6,AV.weaks,AV.weak1,za7,za8,zb1,zb2,zb3,zb4,zb5,zb6,zb7,zb8,zb9,zc0,zc1,zc2,zc3,zc4,zc5,zc6,zc7,zc8,zc9,zd0,zd1,zd2,zd3,zd4,zd5,zd6,zd7,zd8,zd9,ze0,ze1,ze2,ze3,ze4,ze5,ze6,ze7,ze8,ze9,zf0,zf1,zf2,zf3,zf4,zf5,zf6,zf7,zf8,zf9,zg0,zg1,zg2,zg3,zg4,zg5,zg6,zg7,zg8,zg9,zh0,zh1,zh2,zh3,zh4,zh5,zh6,zh7,zh8,zh9,zi0,zi1,zi2,zi3,zi4,zi5,zi6,wSnil,zi7,zi8,zi9,zj0,zj1,zj2,zj3,zj4,zj5,zj6,zj7,zj8,AV.flatB,AV.flatBs,zj9,zk0,zk1,zk2,zk3,zk4,zk5,zk6,act,AV.cells,AV.mk,AV.asSl,AV.asInt,AV.vslOf,wIdx,zk7,zk8,zk9,zl0,zl1,zl2,zl3,st0,env0,zl4,zl5,Nat.reduceAdd,Nat.reduceEqDiff,Nat.reduceLeDiff,↓reduceIte,AV.ofV,unV,← decide_not,zl7,zl8,zl9,zm0,zm1,zm2,zm3,zm4,zm5,zm6,zm7,zm8,zn3,zn4,zn5,zn6,zn7,reduceCtorEq,rowsOf,pureCells,AV.weak,AV.pureB,AV.pureBs,zn8,zn9,zo0,zo1,zo2,Nat.reduceBEq,zo3,zo4,zo5,zo6,zo7,zo8,zo9,zp0,zp1]
      refine wCall_I (delete7_I L W2 300 (l := l) (i := n) (j := n + (1 + B.length)) (by omega) (by omega) (by omega) w1g w1v) ?_
      rintro _ ⟨e', g', v', tg', tp', x'⟩ ⟨cp, Z, rfl, y1, y2, y3⟩ he
      simp only at he y1 y2
      subst he
      have z1 := y3.2 1 (by omega); have z2 := y3.2 2 (by omega); have z4 := y3.2 4 (by omega); have z200 := y3.2 200 (by omega)
      simp only at z1 z2 z4 z200
      simp -implicitDefEqProofs only [boundOf,Option.map_none,slcTok,fills,PatchS.row,Item.row,splice,zq7,zq8,zb0,za9,zn0,zn1,zm9,zn2,Nat.add_zero,zl6,za0,za1,za2,za3,za4,eff,AV.ptrOf,AV.tokOf,za5,za6,AV.weaks,AV.weak1,za7,za8,zb1,zb2,zb3,zb4,zb5,zb6,zb7,zb8,zb9,zc0,zc1,zc2,zc3,zc4,zc5,zc6,zc7,zc8,zc9,zd0,zd1,zd2,zd3,zd4,zd5,zd6,zd7,zd8,zd9,ze0,ze1,ze2,ze3,ze4,ze5,ze6,ze7,ze8,ze9,zf0,zf1,zf2,zf3,zf4,zf5,zf6,zf7,zf8,zf9,zg0,zg1,zg2,zg3,zg4,zg5,zg6,zg7,zg8,zg9,zh0,zh1,zh2,zh3,zh4,zh5,zh6,zh7,zh8,zh9,zi0,zi1,zi2,zi3,zi4,zi5,zi6,wSnil,zi7,zi8,zi9,zj0,zj1,zj2,zj3,zj4,zj5,zj6,zj7,zj8,AV.flatB,AV.flatBs,zj9,zk0,zk1,zk2,zk3,zk4,zk5,zk6,act,AV.cells,AV.mk,AV.asSl,AV.asInt,AV.vslOf,wIdx,zk7,zk8,zk9,zl0,zl1,zl2,zl3,st0,env0,zl4,zl5,Nat.reduceAdd,Nat.reduceEqDiff,Nat.reduceLeDiff,↓reduceIte,AV.ofV,unV,← decide_not,zl7,zl8,zl9,zm0,zm1,zm2,zm3,zm4,zm5,zm6,zm7,zm8,zn3,zn4,zn5,zn6,zn7,reduceCtorEq,rowsOf,pureCells,AV.weak,AV.pureB,AV.pureBs,zn8,zn9,zo0,zo1,zo2,Nat.reduceBEq,zo3,zo4,zo5,zo6,zo7,zo8,zo9,zp0,zp1]
      exact ⟨by simpa [upd] using I.b1, by simpa [upd] using I.b2, by simpa [upd] using I.b4, by simpa [upd] using I.b5, by simpa [upd] using I.b6, z1.1.trans I.c1, z2.1.trans I.c2, z4.1.trans I.c4, z200.1.trans I.c200, z2.2.1.trans I.d2, z4.2.1.trans I.d4, z200.2.1.trans I.d200, fun h => by simpa [upd] using I.h0 (h.resolve_left (by decide)), fun h => by simpa [upd] using I.h1 (h.resolve_left (by decide)), fun h => by simpa [upd] using I.h2 (h.resolve_left (by decide)), fun h => by simpa [upd] using I.h4 (h.resolve_left (by decide)), fun h => by simpa [upd] using I.h5 (h.resolve_left (by decide)), fun h => by simpa [upd] using I.h6 (h.resolve_left (by decide)), fun h => by simpa [upd] using I.h7 (h.resolve_left (by decide)), fun h => by simpa [upd] using I.h8 (h.resolve_left (by decide)), fun h => by simpa [upd] using I.h9 (h.resolve_left (by decide)), fun h => by simpa [upd] using I.h12 (h.resolve_left (by decide)), fun _ j hj => .inr (hb j (by revert j; decide)), fun h => .inr (I.q11 (h.resolve_left (by decide))), fun h => .inr (I.q12 (h.resolve_left (by decide))), fun h => .inr (I.q13 (h.resolve_left (by decide))), fun _ h' => absurd (.inl rfl) h', fun _ => ⟨cp, Z, by simp [upd], y1, y2⟩, fun h => absurd (I.q11 (h.resolve_left (by decide))) hnD, fun h => z1.2.1.trans (I.v1a fun q => h (.inr q)), fun h => absurd (h.resolve_left (by decide)) (h13 (by decide))⟩
    · obtain ⟨cp, Z, w1, w2, w3⟩ := I.h10 (hb 10 (by decide))
      simp only at w1 w2 w3
      simp -implicitDefEqProofs only [w1,boundOf,Option.map_none,slcTok,fills,PatchS.row,Item.row,splice,zq7,zq8,zb0,za9,zn0,zn1,zm9,zn2,Nat.add_zero,zl6,za0,za1,za2,za3,za4,eff,AV.ptrOf,AV.tokOf,za5,za6,AV.weaks,AV.weak1,za7,za8,zb1,zb2,zb3,zb4,zb5,zb6,zb7,zb8,zb9,zc0,zc1,zc2,zc3,zc4,zc5,zc6,zc7,zc8,zc9,zd0,zd1,zd2,zd3,zd4,zd5,zd6,zd7,zd8,zd9,ze0,ze1,ze2,ze3,ze4,ze5,ze6,ze7,ze8,ze9,zf0,zf1,zf2,zf3,zf4,zf5,zf6,zf7,zf8,zf9,zg0,zg1,zg2,zg3,zg4,zg5,zg6,zg7,zg8,zg9,zh0,zh1,zh2,zh3,zh4,zh5,zh6,zh7,zh8,zh9,zi0,zi1,zi2,zi3,zi4,zi5,zi6,wSnil,zi7,zi8,zi9,zj0,zj1,zj2,zj3,zj4,zj5,zj6,zj7,zj8,AV.flatB,AV.flatBs,zj9,zk0,zk1,zk2,zk3,zk4,zk5,zk6,act,AV.cells,AV.mk,AV.asSl,AV.asInt,AV.vslOf,wIdx,zk7,zk8,zk9,zl0,zl1,zl2,zl3,st0,env0,zl4,zl5,Nat.reduceAdd,Nat.reduceEqDiff,Nat.reduceLeDiff,↓reduceIte,AV.ofV,unV,← decide_not,zl7,zl8,zl9,zm0,zm1,zm2,zm3,zm4,zm5,zm6,zm7,zm8,zn3,zn4,zn5,zn6,zn7,reduceCtorEq,rowsOf,pureCells,AV.weak,AV.pureB,AV.pureBs,zn8,zn9,zo0,zo1,zo2,Nat.reduceBEq,zo3,zo4,zo5,zo6,zo7,zo8,zo9,zp0,zp1]
      exact ⟨by simpa [upd] using I.b1, by simpa [upd] using I.b2, by simpa [upd] using I.b4, by simpa [upd] using I.b5, by simpa [upd] using I.b6, by simpa [upd] using I.c1, by simpa [upd] using I.c2, by simpa [upd] using I.c4, by simpa [upd] using I.c200, by simpa [upd] using I.d2, by simpa [upd] using I.d4, by simpa [upd] using I.d200, fun h => by simpa [upd] using I.h0 (h.resolve_left (by decide)), fun h => by simpa [upd] using I.h1 (h.resolve_left (by decide)), fun h => by simpa [upd] using I.h2 (h.resolve_left (by decide)), fun h => by simpa [upd] using I.h4 (h.resolve_left (by decide)), fun h => by simpa [upd] using I.h5 (h.resolve_left (by decide)), fun h => by simpa [upd] using I.h6 (h.resolve_left (by decide)), fun h => by simpa [upd] using I.h7 (h.resolve_left (by decide)), fun h => by simpa [upd] using I.h8 (h.resolve_left (by decide)), fun h => by simpa [upd] using I.h9 (h.resolve_left (by decide)), fun h => by simpa [upd] using I.h12 (h.resolve_left (by decide)), fun h j hj => .inr (I.q10 (h.resolve_left (by decide)) j hj), fun _ => .inr (hb 10 (by decide)), fun h => .inr (I.q12 (h.resolve_left (by decide))), fun h => .inr (I.q13 (h.resolve_left (by decide))), fun h h' => by simpa [upd] using I.h3 (h.resolve_left (by decide)) fun q => h' (.inr q), fun h => by simpa [upd] using I.h10 (h.resolve_left (by decide)), fun _ => by simp [upd, w1], fun h => by simpa [upd] using I.v1a fun q => h (.inr q), fun h => by simpa [upd] using I.v1b (h.resolve_left (by decide))⟩
    · have w0 := I.b1
      have w1 := I.c1
      simp only at w0 w1
      simp -implicitDefEqProofs only [w0,w1,boundOf,Option.map_none,slcTok,fills,PatchS.row,Item.row,splice,zq7,zq8,zb0,za9,zn0,zn1,zm9,zn2,Nat.add_zero,zl6,za0,za1,za2,za3,za4,eff,AV.ptrOf,AV.tokOf,za5,za6,AV.weaks,AV.weak1,za7,za8,zb1,zb2,zb3,zb4,zb5,zb6,zb7,zb8,zb9,zc0,zc1,zc2,zc3,zc4,zc5,zc6,zc7,zc8,zc9,zd0,zd1,zd2,zd3,zd4,zd5,zd6,zd7,zd8,zd9,ze0,ze1,ze2,ze3,ze4,ze5,ze6,ze7,ze8,ze9,zf0,zf1,zf2,zf3,zf4,zf5,zf6,zf7,zf8,zf9,zg0,zg1,zg2,zg3,zg4,zg5,zg6,zg7,zg8,zg9,zh0,zh1,zh2,zh3,zh4,zh5,zh6,zh7,zh8,zh9,zi0,zi1,zi2,zi3,zi4,zi5,zi6,wSnil,zi7,zi8,zi9,zj0,zj1,zj2,zj3,zj4,zj5,zj6,zj7,zj8,AV.flatB,AV.flatBs,zj9,zk0,zk1,zk2,zk3,zk4,zk5,zk6,act,AV.cells,AV.mk,AV.asSl,AV.asInt,AV.vslOf,wIdx,zk7,zk8,zk9,zl0,zl1,zl2,zl3,st0,env0,zl4,zl5,Nat.reduceAdd,Nat.reduceEqDiff,Nat.reduceLeDiff,↓reduceIte,AV.ofV,unV,← decide_not,zl7,zl8,zl9,zm0,zm1,zm2,zm3,zm4,zm5,zm6,zm7,zm8,zn3,zn4,zn5,zn6,zn7,reduceCtorEq,rowsOf,pureCells,AV.weak,AV.pureB,AV.pureBs,zn8,zn9,zo0,zo1,zo2,Nat.reduceBEq,zo3,zo4,zo5,zo6,zo7,zo8,zo9,zp0,zp1]
      exact ⟨by simpa [upd] using I.b1, by simpa [upd] using I.b2, by simpa [upd] using I.b4, by simpa [upd] using I.b5, by simpa [upd] using I.b6, by simpa [upd] using I.c1, by simpa [upd] using I.c2, by simpa [upd] using I.c4, by simpa [upd] using I.c200, by simpa [upd] using I.d2, by simpa [upd] using I.d4, by simpa [upd] using I.d200, fun h => by simpa [upd] using I.h0 (h.resolve_left (by decide)), fun h => by simpa [upd] using I.h1 (h.resolve_left (by decide)), fun h => by simpa [upd] using I.h2 (h.resolve_left (by decide)), fun h => by simpa [upd] using I.h4 (h.resolve_left (by decide)), fun h => by simpa [upd] using I.h5 (h.resolve_left (by decide)), fun h => by simpa [upd] using I.h6 (h.resolve_left (by decide)), fun h => by simpa [upd] using I.h7 (h.resolve_left (by decide)), fun h => by simpa [upd] using I.h8 (h.resolve_left (by decide)), fun h => by simpa [upd] using I.h9 (h.resolve_left (by decide)), fun _ => by simp [upd], fun h j hj => .inr (I.q10 (h.resolve_left (by decide)) j hj), fun h => .inr (I.q11 (h.resolve_left (by decide))), fun _ => .inr (hb 11 (by decide)), fun h => .inr (I.q13 (h.resolve_left (by decide))), fun h h' => by simpa [upd] using I.h3 (h.resolve_left (by decide)) fun q => h' (.inr q), fun h => by simpa [upd] using I.h10 (h.resolve_left (by decide)), fun h => by simpa [upd] using I.h11 (h.resolve_left (by decide)), fun h => by simpa [upd] using I.v1a fun q => h (.inr q), fun h => by simpa [upd] using I.v1b (h.resolve_left (by decide))⟩
    · have w1 := I.h12 (hb 12 (by decide))
      have w2 := I.h11 (hb 11 (by decide))
      have w3 := I.c1
      have w4 := I.v1a hnD
      simp only at w1 w2 w3 w4
      simp -implicitDefEqProofs only [w1,w2,w3,w4,boundOf,Option.map_none,slcTok,fills,PatchS.row,Item.row,splice,zq7,zq8,zb0,za9,zn0,zn1,zm9,zn2,Nat.add_zero,zl6,za0,za1,za2,za3,za4,eff,AV.ptrOf,AV.tokOf,za5,za6,AV.weaks,AV.weak1,za7,za8,zb1,zb2,zb3,zb4,zb5,zb6,zb7,zb8,zb9,zc0,zc1,zc2,zc3,zc4,zc5,zc6,zc7,zc8,zc9,zd0,zd1,zd2,zd3,zd4,zd5,zd6,zd7,zd8,zd9,ze0,ze1,ze2,ze3,ze4,ze5,ze6,ze7,ze8,ze9,zf0,zf1,zf2,zf3,zf4,zf5,zf6,zf7,zf8,zf9,zg0,zg1,zg2,zg3,zg4,zg5,zg6,zg7,zg8,zg9,zh0,zh1,zh2,zh3,zh4,zh5,zh6,zh7,zh8,zh9,zi0,zi1,zi2,zi3,zi4,zi5,zi6,wSnil,zi7,zi8,zi9,zj0,zj1,zj2,zj3,zj4,zj5,zj6,zj7,zj8,AV.flatB,AV.flatBs,zj9,zk0,zk1,zk2,zk3,zk4,zk5,zk6,act,AV.cells,AV.mk,AV.asSl,AV.asInt,AV.vslOf,wIdx,zk7,zk8,zk9,zl0,zl1,zl2,zl3,st0,env0,zl4,zl5,Nat.reduceAdd,Nat.reduceEqDiff,Nat.reduceLeDiff,↓reduceIte,AV.ofV,unV,← decide_not,zl7,zl8,zl9,zm0,zm1,zm2,zm3,zm4,zm5,zm6,zm7,zm8,zn3,zn4,zn5,zn6,zn7,reduceCtorEq,rowsOf,pureCells,AV.weak,AV.pureB,AV.pureBs,zn8,zn9,zo0,zo1,zo2,Nat.reduceBEq,zo3,zo4,zo5,zo6,zo7,zo8,zo9,zp0,zp1]
      exact ⟨by simpa [upd] using I.b1, by simpa [upd] using I.b2, by simpa [upd] using I.b4, by simpa [upd] using I.b5, by simpa [upd] using I.b6, by simpa [upd] using I.c1, by simpa [upd] using I.c2, by simpa [upd] using I.c4, by simpa [upd] using I.c200, by simpa [upd] using I.d2, by simpa [upd] using I.d4, by simpa [upd] using I.d200, fun h => by simpa [upd] using I.h0 (h.resolve_left (by decide)), fun h => by simpa [upd] using I.h1 (h.resolve_left (by decide)), fun h => by simpa [upd] using I.h2 (h.resolve_left (by decide)), fun h => by simpa [upd] using I.h4 (h.resolve_left (by decide)), fun h => by simpa [upd] using I.h5 (h.resolve_left (by decide)), fun h => by simpa [upd] using I.h6 (h.resolve_left (by decide)), fun h => by simpa [upd] using I.h7 (h.resolve_left (by decide)), fun h => by simpa [upd] using I.h8 (h.resolve_left (by decide)), fun h => by simpa [upd] using I.h9 (h.resolve_left (by decide)), fun h => by simpa [upd] using I.h12 (h.resolve_left (by decide)), fun h j hj => .inr (I.q10 (h.resolve_left (by decide)) j hj), fun h => .inr (I.q11 (h.resolve_left (by decide))), fun h => .inr (I.q12 (h.resolve_left (by decide))), fun _ => .inr (hb 12 (by decide)), fun h h' => by simpa [upd] using I.h3 (h.resolve_left (by decide)) fun q => h' (.inr q), fun h => by simpa [upd] using I.h10 (h.resolve_left (by decide)), fun h => by simpa [upd] using I.h11 (h.resolve_left (by decide)), fun h => absurd (.inl rfl) h, fun _ => by simp [upd, PatchS.row, Item.row]⟩
  · rintro D ⟨e, g, v, tg, tp, x1⟩ hD I
    refine AW_code ?_
    obtain ⟨cp, Z, w1, w2, w3⟩ := I.h10 (hD 10 (by decide))
    have u1 := I.b1
    have u2 := I.b2
    have u6 := I.b6
    have t1 := I.c1
    have t2 := I.c2
    have t200 := I.c200
    have y2 := I.d2
    have y200 := I.d200
    have y1 := I.v1b (hD 13 (by decide))
    clear I
    simp only at w1 w2 w3 u1 u2 u6 t1 t2 t200 y2 y200 y1
    rw [w1] at y1
    have hAC : l.take n ++ l.drop (n + (1 + B.length)) = A ++ C := by
      rw [hsp, ← hA, List.take_left, ← List.drop_drop, List.drop_left, Nat.add_comm 1, List.drop_succ_cons, List.drop_left]
    have hN : n + (l.length - (n + (1 + B.length))) = (A ++ C).length := by rw [List.length_append]; omega
    rw [hAC] at w3
    rw [hN] at w1 y1
    have hcells : (v 326).map AV.weakp = fl (A ++ C) ++ Z.map AV.weakp := by
      rw [w3, List.map_append, show (fl (A ++ C)).map AV.weakp = fl (A ++ C) from Item.weakps _]
    have hchunk : chunk 7 (A ++ C).length (fl (A ++ C) ++ Z.map AV.weakp) = (A ++ C).map Item.row := by
      have h1 := chunk_flat (rows_len (A ++ C))
      rw [List.length_map] at h1
      conv => rhs; rw [← h1]
      unfold chunk
      refine List.map_congr_left fun j hj => ?_
      have hj := List.mem_range.1 hj
      have hlen := fl_len (A ++ C)
      rw [List.drop_append_of_le_length (by omega), List.take_append_of_le_length (by rw [List.length_drop]; omega)]
      rfl
    simp -implicitDefEqProofs only [wOps_fz2',za0,za1,za2,za3,za4,eff,AV.ptrOf,AV.tokOf,za5,za6,AV.weaks,AV.weak1,za7,za8,za9,zb0,zb1,zb2,zb3,zb4,zb5,zb6,zb7,zb8,zb9,zc0,zc1,zc2,zc3,zc4,zc5,zc6,zc7,zc8,zc9,zd0,zd1,zd2,zd3,zd4,zd5,zd6,zd7,zd8,zd9,ze0,ze1,ze2,ze3,ze4,ze5,ze6,ze7,ze8,ze9,zf0,zf1,zf2,zf3,zf4,zf5,zf6,zf7,zf8,zf9,zg0,zg1,zg2,zg3,zg4,zg5,zg6,zg7,zg8,zg9,zh0,zh1,zh2,zh3,zh4,zh5,zh6,zh7,zh8,zh9,zi0,zi1,zi2,zi3,zi4,zi5,zi6,wSnil,zi7,zi8,zi9,zj0,zj1,zj2,zj3,zj4,zj5,zj6,zj7,zj8,AV.flatB,AV.flatBs,zj9,zk0,zk1,zk2,zk3,zk4,zk5,zk6,act,AV.cells,AV.mk,AV.asSl,AV.asInt,AV.vslOf,wIdx,zk7,zk8,zk9,zl0,zl1,zl2,zl3,st0,env0,zl4,zl5,zl6,Nat.reduceAdd,Nat.reduceEqDiff,Nat.reduceLeDiff,↓reduceIte,AV.ofV,unV,← decide_not,zl7,zl8,zl9,zm0,zm1,zm2,zm3,zm4,zm5,zm6,zm7,zm8,zm9,zn0,zn1,zn2,zn3,zn4,zn5,zn6,zn7,reduceCtorEq,rowsOf,pureCells,AV.weak,AV.pureB,AV.pureBs,zn8,zn9,zo0,zo1,zo2,Nat.reduceBEq,zo3,zo4,zo5,zo6,zo7,zo8,zo9,zp0,zp1]
    generalize hS : St.frz (σ := Unit) _ 326 7 = s1
    have f1 : s1.env 1 = .ptr 1 1 0 := by subst hS; simp [St.frz, u1, AV.frz, AV.frz1]
    have f2 : s1.env 2 = .ptr 2 1 0 := by subst hS; simp [St.frz, u2, AV.frz, AV.frz1]
    have f6 : s1.env 6 = .vsl 200 g200 7 0 (x :: B).length none := by subst hS; simp [St.frz, u6, AV.frz, AV.frz1]
    have k1 : s1.gen 1 = 1 := by subst hS; simp [St.frz, upd, t1]
    have k2 : s1.gen 2 = 1 := by subst hS; simp [St.frz, upd, t2]
    have k200 : s1.gen 200 = g200 := by subst hS; simp [St.frz, upd, t200]
    have j2 : s1.var 2 = [.imm (.slice none 0 0)] := by subst hS; simp [St.frz, upd, y2, AV.frz1]
    have j200 : s1.var 200 = fl ({ x with parent := p.parent } :: B) := by
      subst hS
      simp only [St.frz,zl4,Nat.reduceEqDiff,zo4,y200]
      unfold fl
      generalize ({ x with parent := p.parent } :: B) = q
      induction q with
      | nil => rfl
      | cons a q ih => rw [List.map_cons, List.flatten_cons, List.map_append, ih]; rfl
    have j1 : s1.var 1 = .sl 7 .ro ((A ++ C).map Item.row) :: p.row ++ [.imm (.int .i64 n)] := by
      subst hS
      simp only [St.frz,zl4,Nat.reduceEqDiff,zo4,y1,hcells,zb0,zn5,AV.frz1]
      rw [if_pos ⟨trivial, trivial, trivial, by have := fl_len (A ++ C); simp only [List.length_append] at this ⊢; omega⟩, List.drop_zero, hchunk]
      rfl
    clear hS
    obtain ⟨e', g', v', tg', tp', x'⟩ := s1
    simp only at f1 f2 f6 k1 k2 k200 j1 j2 j200
    simp -implicitDefEqProofs only [f1,f2,f6,k1,k2,k200,j1,j2,PatchS.row,Item.row,zb0,za9,splice,zq7,zq8,zn0,zn1,zm9,zn2,wOps_fz2',za0,za1,za2,za3,za4,eff,AV.ptrOf,AV.tokOf,za5,za6,AV.weaks,AV.weak1,za7,za8,zb1,zb2,zb3,zb4,zb5,zb6,zb7,zb8,zb9,zc0,zc1,zc2,zc3,zc4,zc5,zc6,zc7,zc8,zc9,zd0,zd1,zd2,zd3,zd4,zd5,zd6,zd7,zd8,zd9,ze0,ze1,ze2,ze3,ze4,ze5,ze6,ze7,ze8,ze9,zf0,zf1,zf2,zf3,zf4,zf5,zf6,zf7,zf8,zf9,zg0,zg1,zg2,zg3,zg4,zg5,zg6,zg7,zg8,zg9,zh0,zh1,zh2,zh3,zh4,zh5,zh6,zh7,zh8,zh9,zi0,zi1,zi2,zi3,zi4,zi5,zi6,wSnil,zi7,zi8,zi9,zj0,zj1,zj2,zj3,zj4,zj5,zj6,zj7,zj8,AV.flatB,AV.flatBs,zj9,zk0,zk1,zk2,zk3,zk4,zk5,zk6,act,AV.cells,AV.mk,AV.asSl,AV.asInt,AV.vslOf,wIdx,zk7,zk8,zk9,zl0,zl1,zl2,zl3,st0,env0,zl4,zl5,zl6,Nat.reduceAdd,Nat.reduceEqDiff,Nat.reduceLeDiff,↓reduceIte,AV.ofV,unV,← decide_not,zl7,zl8,zl9,zm0,zm1,zm2,zm3,zm4,zm5,zm6,zm7,zm8,zn3,zn4,zn5,zn6,zn7,reduceCtorEq,rowsOf,pureCells,AV.weak,AV.pureB,AV.pureBs,zn8,zn9,zo0,zo1,zo2,Nat.reduceBEq,zo3,zo4,zo5,zo6,zo7,zo8,zo9,zp0,zp1]
    generalize hS : St.frz (σ := Unit) _ 200 7 = s1
    have hcells2 : (fl ({ x with parent := p.parent } :: B)).map AV.weakp = fl ({ x with parent := p.parent } :: B) := Item.weakps _
    have hchunk2 : chunk 7 (x :: B).length (fl ({ x with parent := p.parent } :: B)) = ({ x with parent := p.parent } :: B).map Item.row := by
      have h1 := chunk_flat (rows_len ({ x with parent := p.parent } :: B))
      rw [List.length_map] at h1
      exact h1
    have f2' : s1.env 2 = .ptr 2 1 0 := by subst hS; simp [St.frz, upd, f2, AV.frz, AV.frz1]
    have f6' : s1.env 6 = .sl 7 .ro (({ x with parent := p.parent } :: B).map Item.row) := by
      subst hS
      simp only [St.frz,zl4,Nat.reduceEqDiff,zo4,f6,AV.frz,AV.frz1,k200,j200,hcells2]
      rw [if_pos ⟨trivial, trivial, trivial, by rw [fl_len]; simp⟩, List.drop_zero, hchunk2]
    have f74 : s1.env 74 = .agg (.sl 7 .ro ((A ++ C).map Item.row) :: p.row ++ [.imm (.int .i64 n)]) := by
      subst hS
      simp [St.frz, upd, AV.frz, AV.frz1, PatchS.row, Item.row]
    have k2' : s1.gen 2 = 1 := by subst hS; simp [St.frz, upd, k2]
    have j2' : s1.var 2 = [.imm (.slice none 0 0)] := by subst hS; simp [St.frz, upd, j2, AV.frz1]
    clear hS
    obtain ⟨e'', g'', v'', tg'', tp'', x''⟩ := s1
    simp only at f2' f6' f74 k2' j2'
    simp -implicitDefEqProofs only [f2',f6',f74,k2',j2',PatchS.row,Item.row,zb0,za9,splice,zq7,zq8,zn0,zn1,zm9,zn2,wOps_fz2',za0,za1,za2,za3,za4,eff,AV.ptrOf,AV.tokOf,za5,za6,AV.weaks,AV.weak1,za7,za8,zb1,zb2,zb3,zb4,zb5,zb6,zb7,zb8,zb9,zc0,zc1,zc2,zc3,zc4,zc5,zc6,zc7,zc8,zc9,zd0,zd1,zd2,zd3,zd4,zd5,zd6,zd7,zd8,zd9,ze0,ze1,ze2,ze3,ze4,ze5,ze6,ze7,ze8,ze9,zf0,zf1,zf2,zf3,zf4,zf5,zf6,zf7,zf8,zf9,zg0,zg1,zg2,zg3,zg4,zg5,zg6,zg7,zg8,zg9,zh0,zh1,zh2,zh3,zh4,zh5,zh6,zh7,zh8,zh9,zi0,zi1,zi2,zi3,zi4,zi5,zi6,wSnil,zi7,zi8,zi9,zj0,zj1,zj2,zj3,zj4,zj5,zj6,zj7,zj8,AV.flatB,AV.flatBs,zj9,zk0,zk1,zk2,zk3,zk4,zk5,zk6,act,AV.cells,AV.mk,AV.asSl,AV.asInt,AV.vslOf,wIdx,zk7,zk8,zk9,zl0,zl1,zl2,zl3,st0,env0,zl4,zl5,zl6,Nat.reduceAdd,Nat.reduceEqDiff,Nat.reduceLeDiff,↓reduceIte,AV.ofV,unV,← decide_not,zl7,zl8,zl9,zm0,zm1,zm2,zm3,zm4,zm5,zm6,zm7,zm8,zn3,zn4,zn5,zn6,zn7,reduceCtorEq,rowsOf,pureCells,AV.weak,AV.pureB,AV.pureBs,zn8,zn9,zo0,zo1,zo2,Nat.reduceBEq,zo3,zo4,zo5,zo6,zo7,zo8,zo9,zp0,zp1]
    refine wCall_pure (put_con L V W (A ++ C) ({ x with parent := p.parent } :: B) p n (by rw [List.length_append]; omega) (fun y hy => hid y (by rw [hsp]; simp only [List.mem_append,List.mem_cons] at hy ⊢; grind)) (by simp; omega) (by simp) (fun h => q3.after hTC h) (fun h => q3.parent hTC h) (q3.le hTC (by rw [List.length_append]; omega))) rfl rfl ?_ ?_
    · exact AV.les2_refl _
    simp -implicitDefEqProofs only [f2',k2',j2',PatchS.row,Item.row,zb0,za9,splice,zq7,zq8,zn0,zn1,zm9,zn2,wOps_fz2',za0,za1,za2,za3,za4,eff,AV.ptrOf,AV.tokOf,za5,za6,AV.weaks,AV.weak1,za7,za8,zb1,zb2,zb3,zb4,zb5,zb6,zb7,zb8,zb9,zc0,zc1,zc2,zc3,zc4,zc5,zc6,zc7,zc8,zc9,zd0,zd1,zd2,zd3,zd4,zd5,zd6,zd7,zd8,zd9,ze0,ze1,ze2,ze3,ze4,ze5,ze6,ze7,ze8,ze9,zf0,zf1,zf2,zf3,zf4,zf5,zf6,zf7,zf8,zf9,zg0,zg1,zg2,zg3,zg4,zg5,zg6,zg7,zg8,zg9,zh0,zh1,zh2,zh3,zh4,zh5,zh6,zh7,zh8,zh9,zi0,zi1,zi2,zi3,zi4,zi5,zi6,wSnil,zi7,zi8,zi9,zj0,zj1,zj2,zj3,zj4,zj5,zj6,zj7,zj8,AV.flatB,AV.flatBs,zj9,zk0,zk1,zk2,zk3,zk4,zk5,zk6,act,AV.cells,AV.mk,AV.asSl,AV.asInt,AV.vslOf,wIdx,zk7,zk8,zk9,zl0,zl1,zl2,zl3,st0,env0,zl4,zl5,zl6,Nat.reduceAdd,Nat.reduceEqDiff,Nat.reduceLeDiff,↓reduceIte,AV.ofV,unV,← decide_not,zl7,zl8,zl9,zm0,zm1,zm2,zm3,zm4,zm5,zm6,zm7,zm8,zn3,zn4,zn5,zn6,zn7,reduceCtorEq,rowsOf,pureCells,AV.weak,AV.pureB,AV.pureBs,zn8,zn9,zo0,zo1,zo2,Nat.reduceBEq,zo3,zo4,zo5,zo6,zo7,zo8,zo9,zp0,zp1]
    have hmv := move_at hat hT hl hxid
    rw [if_neg hb, if_neg hb, hmv]
    refine ends_ptr (d := 2) (q := 1) (off := 0) (by simp [upd, f2']) ⟨by simp [k2'], Nat.le_refl _, by simp [upd]⟩ (b := .agg [.sl 7 .ro ((putS (A ++ C) ({ x with parent := p.parent } :: B) p.parent p.after).map Item.row)]) (by simp [upd, AV.mk]) ?_
    exact resC_end
end Go.Av

namespace Go.Av
variable {P : Program} {T : List Nat} {σ : Type}
/-- Sizes that indices can hold. -/
structure FitP (p : PatchS) : Prop where
  item : p.item.id.size ≤ 1048576
  old : p.old.size ≤ 1048576
  new : p.new.size ≤ 1048576
theorem wCallV_pure {S : Sys σ} {b : Bool} {d : Nat} {st : St σ} {xs ys fs caps : List AV} {r : AV} {K : AV → St σ → Prop} {g : Nat} (h : S.CV g ys r) (hr : r.pureB = true) (hp : AV.pureBs (fs ++ xs.map AV.weaks ++ caps) = true) (hl : AV.les2 (fs ++ xs.map AV.weaks ++ caps) ys) (hk : K r st) : wCallV S b d st g fs caps xs K := by
  refine .inl ⟨hp, ys, r, hl, h, ?_⟩
  cases r with
  | sl sz tok rows => cases tok <;> simp_all [AV.ret, AV.pureB, wOpt, St.given]
  | _ => simp_all [AV.ret, AV.pureB, wOpt, St.given]
theorem find_item {l : List Item} {id : Bs} (h : (itemAt l id).kind ≠ 0) : ∃ n : Nat, findS id l = n ∧ l[n]? = some (itemAt l id) ∧ (itemAt l id).id = id ∧ itemAt l id ∈ l := by
  have h0 : 0 ≤ findS id l := by
    rcases Int.lt_or_le (findS id l) 0 with h1 | h1
    · rw [findS_neg h1] at h
      exact absurd rfl h
    · exact h1
  obtain ⟨n, hn⟩ : ∃ n : Nat, findS id l = n := ⟨(findS id l).toNat, by omega⟩
  obtain ⟨a, ha, hia⟩ := findS_find l id n hn
  refine ⟨n, hn, by rw [hia]; exact ha, ?_, by rw [hia]; exact List.mem_of_getElem? ha⟩
  unfold itemAt at h ⊢
  cases hq : l.find? fun x => decide (x.id = id) with
  | none => rw [hq] at h; exact absurd rfl h
  | some y => have := List.find?_some hq; simpa using this
theorem Proper.text {x : Item} (h : Proper x) (k : Int) : (textOf k x).size ≤ 400 := by
  have h0 : ByteArray.size nilS = 0 := rfl
  rcases h.2.2 with ⟨-, h1, h2, -⟩ | ⟨-, h1, h2⟩
  · unfold textOf; split
    · rw [h1, h0]; omega
    · rw [h2, h0]; omega
  · unfold textOf; split <;> assumption
theorem apply_con (L : Lay P T) (V : StrLib P T) (W : Ovl7 P T) (W2 : Clr7 P T) (l : List Item) (p : PatchS) (hl : l.length ≤ 100000) (hid : Fit l) (hp : FitP p) :
    Con P T 46 [.agg [.sl 7 .ro (l.map Item.row)], .agg p.row] (resC (applyL l p) (applyE l p)) := by
  have fail : ∀ (e : Int), e ≠ 0 → applyE l p = e → (∀ e' : Nat → AV, ∀ g v tg tp, ∀ x : Unit, e' 4 = .ptr 4 1 0 → g 4 = 1 → v 4 = [.imm (.slice none 0 0)] → e' 5 = .imm (.int .i64 e) → ends (c_patch_Apply (T.getD · 0)) (resC (applyL l p) (applyE l p)) ⟨e', g, v, tg, tp, x⟩) := by
    rintro e he0 he e' g v tg tp x h1 h2 h3 h4
    refine ends_ptr (d := 4) (q := 1) (off := 0) h1 ⟨h2.symm, Nat.le_refl _, by simp [h3]⟩ (b := .agg [.imm (.slice none 0 0)]) (by simp [h3, AV.mk]) ?_
    rw [h4, he, applyL, if_pos (by rw [he]; exact he0)]
    exact nilC_end
  refine Con_ofA nul L.t_patch_Apply [] [] (by exact Nat.le_of_ble_eq_true rfl) ?_
  change AW _ (b_patch_Apply (T.getD · 0)) _ _ _ _
  refine AW_seq ?_
  simp -implicitDefEqProofs only [PatchS.row,Item.row,zb0,za9,za0,za1,za2,za3,za4,eff,AV.ptrOf,AV.tokOf,za5,za6,AV.weaks,AV.weak1,za7,za8,zb1,zb2,zb3,zb4,zb5,zb6,zb7,zb8,zb9,zc0,zc1,zc2,zc3,zc4,zc5,zc6,zc7,zc8,zc9,zd0,zd1,zd2,zd3,zd4,zd5,zd6,zd7,zd8,zd9,ze0,ze1,ze2,ze3,ze4,ze5,ze6,ze7,ze8,ze9,zf0,zf1,zf2,zf3,zf4,zf5,zf6,zf7,zf8,zf9,zg0,zg1,zg2,zg3,zg4,zg5,zg6,zg7,zg8,zg9,zh0,zh1,zh2,zh3,zh4,zh5,zh6,zh7,zh8,zh9,zi0,zi1,zi2,zi3,zi4,zi5,zi6,wSnil,zi7,zi8,zi9,zj0,zj1,zj2,zj3,zj4,zj5,zj6,zj7,zj8,AV.flatB,AV.flatBs,zj9,zk0,zk1,zk2,zk3,zk4,zk5,zk6,act,AV.cells,AV.mk,AV.asSl,AV.asInt,AV.vslOf,wIdx,zk7,zk8,zk9,zl0,zl1,zl2,zl3,st0,env0,zl4,zl5,zl6,Nat.reduceAdd,Nat.reduceEqDiff,Nat.reduceLeDiff,↓reduceIte,AV.ofV,unV,← decide_not,zl7,zl8,zl9,zm0,zm1,zm2,zm3,zm4,zm5,zm6,zm7,zm8,zm9,zn0,zn1,zn2,zn3,zn4,zn5,zn6,zn7,reduceCtorEq,rowsOf,pureCells,AV.weak,AV.pureB,AV.pureBs,zn8,zn9,zo0,zo1,zo2,Nat.reduceBEq,zo3,zo4,zo5,zo6,zo7,zo8,zo9,zp0,zp1]
  refine AW_gen [(2, .ptr 2 1 0), (3, .ptr 3 1 0), (4, .ptr 4 1 0)] [(2, 1), (3, 1), (4, 1)] [(2, [.sl 7 .ro (l.map Item.row)]), (3, p.row), (4, [.imm (.slice none 0 0)])] ?_ ?_
  · simp -implicitDefEqProofs only [PatchS.row,Item.row,undefA,zb0,za9,zq2,zq3,zq4,zq5,zq6,Envs,Gens,Vars,za0,za1,za2,za3,za4,eff,AV.ptrOf,AV.tokOf,za5,za6,AV.weaks,AV.weak1,za7,za8,zb1,zb2,zb3,zb4,zb5,zb6,zb7,zb8,zb9,zc0,zc1,zc2,zc3,zc4,zc5,zc6,zc7,zc8,zc9,zd0,zd1,zd2,zd3,zd4,zd5,zd6,zd7,zd8,zd9,ze0,ze1,ze2,ze3,ze4,ze5,ze6,ze7,ze8,ze9,zf0,zf1,zf2,zf3,zf4,zf5,zf6,zf7,zf8,zf9,zg0,zg1,zg2,zg3,zg4,zg5,zg6,zg7,zg8,zg9,zh0,zh1,zh2,zh3,zh4,zh5,zh6,zh7,zh8,zh9,zi0,zi1,zi2,zi3,zi4,zi5,zi6,wSnil,zi7,zi8,zi9,zj0,zj1,zj2,zj3,zj4,zj5,zj6,zj7,zj8,AV.flatB,AV.flatBs,zj9,zk0,zk1,zk2,zk3,zk4,zk5,zk6,act,AV.cells,AV.mk,AV.asSl,AV.asInt,AV.vslOf,wIdx,zk7,zk8,zk9,zl0,zl1,zl2,zl3,st0,env0,zl4,zl5,zl6,Nat.reduceAdd,Nat.reduceEqDiff,Nat.reduceLeDiff,↓reduceIte,AV.ofV,unV,← decide_not,zl7,zl8,zl9,zm0,zm1,zm2,zm3,zm4,zm5,zm6,zm7,zm8,zm9,zn0,zn1,zn2,zn3,zn4,zn5,zn6,zn7,reduceCtorEq,rowsOf,pureCells,AV.weak,AV.pureB,AV.pureBs,zn8,zn9,zo0,zo1,zo2,Nat.reduceBEq,zo3,zo4,zo5,zo6,zo7,zo8,zo9,zp0,zp1]
  rintro e g v tg tp x' ⟨e2, e3, e4, -⟩ ⟨g2, g3, g4, -⟩ ⟨v2, v3, v4, -⟩
  refine AW_seq ?_
  simp -implicitDefEqProofs only [e2,e3,e4,g2,g3,g4,v2,v3,v4,r_patch_Apply_0,PatchS.row,Item.row,zb0,za9,za0,za1,za2,za3,za4,eff,AV.ptrOf,AV.tokOf,za5,za6,AV.weaks,AV.weak1,za7,za8,zb1,zb2,zb3,zb4,zb5,zb6,zb7,zb8,zb9,zc0,zc1,zc2,zc3,zc4,zc5,zc6,zc7,zc8,zc9,zd0,zd1,zd2,zd3,zd4,zd5,zd6,zd7,zd8,zd9,ze0,ze1,ze2,ze3,ze4,ze5,ze6,ze7,ze8,ze9,zf0,zf1,zf2,zf3,zf4,zf5,zf6,zf7,zf8,zf9,zg0,zg1,zg2,zg3,zg4,zg5,zg6,zg7,zg8,zg9,zh0,zh1,zh2,zh3,zh4,zh5,zh6,zh7,zh8,zh9,zi0,zi1,zi2,zi3,zi4,zi5,zi6,wSnil,zi7,zi8,zi9,zj0,zj1,zj2,zj3,zj4,zj5,zj6,zj7,zj8,AV.flatB,AV.flatBs,zj9,zk0,zk1,zk2,zk3,zk4,zk5,zk6,act,AV.cells,AV.mk,AV.asSl,AV.asInt,AV.vslOf,wIdx,zk7,zk8,zk9,zl0,zl1,zl2,zl3,st0,env0,zl4,zl5,zl6,Nat.reduceAdd,Nat.reduceEqDiff,Nat.reduceLeDiff,↓reduceIte,AV.ofV,unV,← decide_not,zl7,zl8,zl9,zm0,zm1,zm2,zm3,zm4,zm5,zm6,zm7,zm8,zm9,zn0,zn1,zn2,zn3,zn4,zn5,zn6,zn7,reduceCtorEq,rowsOf,pureCells,AV.weak,AV.pureB,AV.pureBs,zn8,zn9,zo0,zo1,zo2,Nat.reduceBEq,zo3,zo4,zo5,zo6,zo7,zo8,zo9,zp0,zp1]
  refine wCall_imm (valid_con L V l (by omega) hid) rfl (AV.les2_refl _) ?_
  have xt : ∀ (b : Prop) [Decidable b], ¬ b → (decide b) = false := fun b _ h => decide_eq_false h
  by_cases hv : ValidC l
  case neg =>
    have t1 := eq_false hv
    simp -implicitDefEqProofs only [t1,zq3,e2,e3,e4,g2,g3,g4,v2,v3,v4,PatchS.row,Item.row,fills,splice,zq7,zq8,zb0,za9,za0,za1,za2,za3,za4,eff,AV.ptrOf,AV.tokOf,za5,za6,AV.weaks,AV.weak1,za7,za8,zb1,zb2,zb3,zb4,zb5,zb6,zb7,zb8,zb9,zc0,zc1,zc2,zc3,zc4,zc5,zc6,zc7,zc8,zc9,zd0,zd1,zd2,zd3,zd4,zd5,zd6,zd7,zd8,zd9,ze0,ze1,ze2,ze3,ze4,ze5,ze6,ze7,ze8,ze9,zf0,zf1,zf2,zf3,zf4,zf5,zf6,zf7,zf8,zf9,zg0,zg1,zg2,zg3,zg4,zg5,zg6,zg7,zg8,zg9,zh0,zh1,zh2,zh3,zh4,zh5,zh6,zh7,zh8,zh9,zi0,zi1,zi2,zi3,zi4,zi5,zi6,wSnil,zi7,zi8,zi9,zj0,zj1,zj2,zj3,zj4,zj5,zj6,zj7,zj8,AV.flatB,AV.flatBs,zj9,zk0,zk1,zk2,zk3,zk4,zk5,zk6,act,AV.cells,AV.mk,AV.asSl,AV.asInt,AV.vslOf,wIdx,zk7,zk8,zk9,zl0,zl1,zl2,zl3,st0,env0,zl4,zl5,zl6,Nat.reduceAdd,Nat.reduceEqDiff,Nat.reduceLeDiff,↓reduceIte,AV.ofV,unV,← decide_not,zl7,zl8,zl9,zm0,zm1,zm2,zm3,zm4,zm5,zm6,zm7,zm8,zm9,zn0,zn1,zn2,zn3,zn4,zn5,zn6,zn7,reduceCtorEq,rowsOf,pureCells,AV.weak,AV.pureB,AV.pureBs,zn8,zn9,zo0,zo1,zo2,Nat.reduceBEq,zo3,zo4,zo5,zo6,zo7,zo8,zo9,zp0,zp1]
    exact fail 1 (by decide) (by rw [applyE, if_pos (.inl hv)]) _ _ _ _ _ _ (by simp [upd, e4]) (by simp [upd, g4]) (by simp [upd]) (by simp [upd])
  have t1 := eq_true hv
  simp -implicitDefEqProofs only [t1,zq2,e2,e3,e4,g2,g3,g4,v2,v3,v4,PatchS.row,Item.row,zb0,za9,za0,za1,za2,za3,za4,eff,AV.ptrOf,AV.tokOf,za5,za6,AV.weaks,AV.weak1,za7,za8,zb1,zb2,zb3,zb4,zb5,zb6,zb7,zb8,zb9,zc0,zc1,zc2,zc3,zc4,zc5,zc6,zc7,zc8,zc9,zd0,zd1,zd2,zd3,zd4,zd5,zd6,zd7,zd8,zd9,ze0,ze1,ze2,ze3,ze4,ze5,ze6,ze7,ze8,ze9,zf0,zf1,zf2,zf3,zf4,zf5,zf6,zf7,zf8,zf9,zg0,zg1,zg2,zg3,zg4,zg5,zg6,zg7,zg8,zg9,zh0,zh1,zh2,zh3,zh4,zh5,zh6,zh7,zh8,zh9,zi0,zi1,zi2,zi3,zi4,zi5,zi6,wSnil,zi7,zi8,zi9,zj0,zj1,zj2,zj3,zj4,zj5,zj6,zj7,zj8,AV.flatB,AV.flatBs,zj9,zk0,zk1,zk2,zk3,zk4,zk5,zk6,act,AV.cells,AV.mk,AV.asSl,AV.asInt,AV.vslOf,wIdx,zk7,zk8,zk9,zl0,zl1,zl2,zl3,st0,env0,zl4,zl5,zl6,Nat.reduceAdd,Nat.reduceEqDiff,Nat.reduceLeDiff,↓reduceIte,AV.ofV,unV,← decide_not,zl7,zl8,zl9,zm0,zm1,zm2,zm3,zm4,zm5,zm6,zm7,zm8,zm9,zn0,zn1,zn2,zn3,zn4,zn5,zn6,zn7,reduceCtorEq,rowsOf,pureCells,AV.weak,AV.pureB,AV.pureBs,zn8,zn9,zo0,zo1,zo2,Nat.reduceBEq,zo3,zo4,zo5,zo6,zo7,zo8,zo9,zp0,zp1]
  refine wCall_imm (formed_con L V p hp.item) rfl (AV.les2_refl _) ?_
  by_cases hf : FormedP p
  case neg =>
    have t2 := eq_false hf
    simp -implicitDefEqProofs only [t1,t2,zq3,e2,e3,e4,g2,g3,g4,v2,v3,v4,PatchS.row,Item.row,fills,splice,zq7,zq8,zb0,za9,za0,za1,za2,za3,za4,eff,AV.ptrOf,AV.tokOf,za5,za6,AV.weaks,AV.weak1,za7,za8,zb1,zb2,zb3,zb4,zb5,zb6,zb7,zb8,zb9,zc0,zc1,zc2,zc3,zc4,zc5,zc6,zc7,zc8,zc9,zd0,zd1,zd2,zd3,zd4,zd5,zd6,zd7,zd8,zd9,ze0,ze1,ze2,ze3,ze4,ze5,ze6,ze7,ze8,ze9,zf0,zf1,zf2,zf3,zf4,zf5,zf6,zf7,zf8,zf9,zg0,zg1,zg2,zg3,zg4,zg5,zg6,zg7,zg8,zg9,zh0,zh1,zh2,zh3,zh4,zh5,zh6,zh7,zh8,zh9,zi0,zi1,zi2,zi3,zi4,zi5,zi6,wSnil,zi7,zi8,zi9,zj0,zj1,zj2,zj3,zj4,zj5,zj6,zj7,zj8,AV.flatB,AV.flatBs,zj9,zk0,zk1,zk2,zk3,zk4,zk5,zk6,act,AV.cells,AV.mk,AV.asSl,AV.asInt,AV.vslOf,wIdx,zk7,zk8,zk9,zl0,zl1,zl2,zl3,st0,env0,zl4,zl5,zl6,Nat.reduceAdd,Nat.reduceEqDiff,Nat.reduceLeDiff,↓reduceIte,AV.ofV,unV,← decide_not,zl7,zl8,zl9,zm0,zm1,zm2,zm3,zm4,zm5,zm6,zm7,zm8,zm9,zn0,zn1,zn2,zn3,zn4,zn5,zn6,zn7,reduceCtorEq,rowsOf,pureCells,AV.weak,AV.pureB,AV.pureBs,zn8,zn9,zo0,zo1,zo2,Nat.reduceBEq,zo3,zo4,zo5,zo6,zo7,zo8,zo9,zp0,zp1]
    exact fail 1 (by decide) (by rw [applyE, if_pos (.inr hf)]) _ _ _ _ _ _ (by simp [upd, e4]) (by simp [upd, g4]) (by simp [upd]) (by simp [upd])
  have t2 := eq_true hf
  simp -implicitDefEqProofs only [t1,t2,zq2,e2,e3,e4,g2,g3,g4,v2,v3,v4,PatchS.row,Item.row,zb0,za9,za0,za1,za2,za3,za4,eff,AV.ptrOf,AV.tokOf,za5,za6,AV.weaks,AV.weak1,za7,za8,zb1,zb2,zb3,zb4,zb5,zb6,zb7,zb8,zb9,zc0,zc1,zc2,zc3,zc4,zc5,zc6,zc7,zc8,zc9,zd0,zd1,zd2,zd3,zd4,zd5,zd6,zd7,zd8,zd9,ze0,ze1,ze2,ze3,ze4,ze5,ze6,ze7,ze8,ze9,zf0,zf1,zf2,zf3,zf4,zf5,zf6,zf7,zf8,zf9,zg0,zg1,zg2,zg3,zg4,zg5,zg6,zg7,zg8,zg9,zh0,zh1,zh2,zh3,zh4,zh5,zh6,zh7,zh8,zh9,zi0,zi1,zi2,zi3,zi4,zi5,zi6,wSnil,zi7,zi8,zi9,zj0,zj1,zj2,zj3,zj4,zj5,zj6,zj7,zj8,AV.flatB,AV.flatBs,zj9,zk0,zk1,zk2,zk3,zk4,zk5,zk6,act,AV.cells,AV.mk,AV.asSl,AV.asInt,AV.vslOf,wIdx,zk7,zk8,zk9,zl0,zl1,zl2,zl3,st0,env0,zl4,zl5,zl6,Nat.reduceAdd,Nat.reduceEqDiff,Nat.reduceLeDiff,↓reduceIte,AV.ofV,unV,← decide_not,zl7,zl8,zl9,zm0,zm1,zm2,zm3,zm4,zm5,zm6,zm7,zm8,zm9,zn0,zn1,zn2,zn3,zn4,zn5,zn6,zn7,reduceCtorEq,rowsOf,pureCells,AV.weak,AV.pureB,AV.pureBs,zn8,zn9,zo0,zo1,zo2,Nat.reduceBEq,zo3,zo4,zo5,zo6,zo7,zo8,zo9,zp0,zp1]
  refine AW_gen [(2, .ptr 2 1 0), (3, .ptr 3 1 0), (4, .ptr 4 1 0)] [(2, 1), (3, 1), (4, 1)] [(2, [.sl 7 .ro (l.map Item.row)]), (3, p.row), (4, [.imm (.slice none 0 0)])] ?_ ?_
  · simp -implicitDefEqProofs only [e2,e3,e4,g2,g3,g4,v2,v3,v4,PatchS.row,Item.row,undefA,zb0,za9,zq2,zq3,zq4,zq5,zq6,Envs,Gens,Vars,za0,za1,za2,za3,za4,eff,AV.ptrOf,AV.tokOf,za5,za6,AV.weaks,AV.weak1,za7,za8,zb1,zb2,zb3,zb4,zb5,zb6,zb7,zb8,zb9,zc0,zc1,zc2,zc3,zc4,zc5,zc6,zc7,zc8,zc9,zd0,zd1,zd2,zd3,zd4,zd5,zd6,zd7,zd8,zd9,ze0,ze1,ze2,ze3,ze4,ze5,ze6,ze7,ze8,ze9,zf0,zf1,zf2,zf3,zf4,zf5,zf6,zf7,zf8,zf9,zg0,zg1,zg2,zg3,zg4,zg5,zg6,zg7,zg8,zg9,zh0,zh1,zh2,zh3,zh4,zh5,zh6,zh7,zh8,zh9,zi0,zi1,zi2,zi3,zi4,zi5,zi6,wSnil,zi7,zi8,zi9,zj0,zj1,zj2,zj3,zj4,zj5,zj6,zj7,zj8,AV.flatB,AV.flatBs,zj9,zk0,zk1,zk2,zk3,zk4,zk5,zk6,act,AV.cells,AV.mk,AV.asSl,AV.asInt,AV.vslOf,wIdx,zk7,zk8,zk9,zl0,zl1,zl2,zl3,st0,env0,zl4,zl5,zl6,Nat.reduceAdd,Nat.reduceEqDiff,Nat.reduceLeDiff,↓reduceIte,AV.ofV,unV,← decide_not,zl7,zl8,zl9,zm0,zm1,zm2,zm3,zm4,zm5,zm6,zm7,zm8,zm9,zn0,zn1,zn2,zn3,zn4,zn5,zn6,zn7,reduceCtorEq,rowsOf,pureCells,AV.weak,AV.pureB,AV.pureBs,zn8,zn9,zo0,zo1,zo2,Nat.reduceBEq,zo3,zo4,zo5,zo6,zo7,zo8,zo9,zp0,zp1]
  clear e2 e3 e4 g2 g3 g4 v2 v3 v4 xt
  rintro e g v tg tp x' ⟨e2, e3, e4, -⟩ ⟨g2, g3, g4, -⟩ ⟨v2, v3, v4, -⟩
  refine AW_seq ?_
  simp -implicitDefEqProofs only [e2,e3,e4,g2,g3,g4,v2,v3,v4,PatchS.row,Item.row,zb0,za9,za0,za1,za2,za3,za4,eff,AV.ptrOf,AV.tokOf,za5,za6,AV.weaks,AV.weak1,za7,za8,zb1,zb2,zb3,zb4,zb5,zb6,zb7,zb8,zb9,zc0,zc1,zc2,zc3,zc4,zc5,zc6,zc7,zc8,zc9,zd0,zd1,zd2,zd3,zd4,zd5,zd6,zd7,zd8,zd9,ze0,ze1,ze2,ze3,ze4,ze5,ze6,ze7,ze8,ze9,zf0,zf1,zf2,zf3,zf4,zf5,zf6,zf7,zf8,zf9,zg0,zg1,zg2,zg3,zg4,zg5,zg6,zg7,zg8,zg9,zh0,zh1,zh2,zh3,zh4,zh5,zh6,zh7,zh8,zh9,zi0,zi1,zi2,zi3,zi4,zi5,zi6,wSnil,zi7,zi8,zi9,zj0,zj1,zj2,zj3,zj4,zj5,zj6,zj7,zj8,AV.flatB,AV.flatBs,zj9,zk0,zk1,zk2,zk3,zk4,zk5,zk6,act,AV.cells,AV.mk,AV.asSl,AV.asInt,AV.vslOf,wIdx,zk7,zk8,zk9,zl0,zl1,zl2,zl3,st0,env0,zl4,zl5,zl6,Nat.reduceAdd,Nat.reduceEqDiff,Nat.reduceLeDiff,↓reduceIte,AV.ofV,unV,← decide_not,zl7,zl8,zl9,zm0,zm1,zm2,zm3,zm4,zm5,zm6,zm7,zm8,zm9,zn0,zn1,zn2,zn3,zn4,zn5,zn6,zn7,reduceCtorEq,rowsOf,pureCells,AV.weak,AV.pureB,AV.pureBs,zn8,zn9,zo0,zo1,zo2,Nat.reduceBEq,zo3,zo4,zo5,zo6,zo7,zo8,zo9,zp0,zp1]
  refine wCall_imm (cfind_con L l p.id (by omega)) rfl (AV.les2_refl _) ?_
  simp -implicitDefEqProofs only [e2,e3,e4,g2,g3,g4,v2,v3,v4,PatchS.row,Item.row,fills,splice,zq7,zq8,zb0,za9,za0,za1,za2,za3,za4,eff,AV.ptrOf,AV.tokOf,za5,za6,AV.weaks,AV.weak1,za7,za8,zb1,zb2,zb3,zb4,zb5,zb6,zb7,zb8,zb9,zc0,zc1,zc2,zc3,zc4,zc5,zc6,zc7,zc8,zc9,zd0,zd1,zd2,zd3,zd4,zd5,zd6,zd7,zd8,zd9,ze0,ze1,ze2,ze3,ze4,ze5,ze6,ze7,ze8,ze9,zf0,zf1,zf2,zf3,zf4,zf5,zf6,zf7,zf8,zf9,zg0,zg1,zg2,zg3,zg4,zg5,zg6,zg7,zg8,zg9,zh0,zh1,zh2,zh3,zh4,zh5,zh6,zh7,zh8,zh9,zi0,zi1,zi2,zi3,zi4,zi5,zi6,wSnil,zi7,zi8,zi9,zj0,zj1,zj2,zj3,zj4,zj5,zj6,zj7,zj8,AV.flatB,AV.flatBs,zj9,zk0,zk1,zk2,zk3,zk4,zk5,zk6,act,AV.cells,AV.mk,AV.asSl,AV.asInt,AV.vslOf,wIdx,zk7,zk8,zk9,zl0,zl1,zl2,zl3,st0,env0,zl4,zl5,zl6,Nat.reduceAdd,Nat.reduceEqDiff,Nat.reduceLeDiff,↓reduceIte,AV.ofV,unV,← decide_not,zl7,zl8,zl9,zm0,zm1,zm2,zm3,zm4,zm5,zm6,zm7,zm8,zm9,zn0,zn1,zn2,zn3,zn4,zn5,zn6,zn7,reduceCtorEq,rowsOf,pureCells,AV.weak,AV.pureB,AV.pureBs,zn8,zn9,zo0,zo1,zo2,Nat.reduceBEq,zo3,zo4,zo5,zo6,zo7,zo8,zo9,zp0,zp1]
  refine ⟨rfl, ?_⟩
  refine AW_gen [(2, .ptr 2 1 0), (3, .ptr 3 1 0), (4, .ptr 4 1 0), (6, .ptr 6 (g 6 + 1) 0)] [(2, 1), (3, 1), (4, 1), (6, g 6 + 1)] [(2, [.sl 7 .ro (l.map Item.row)]), (3, p.row), (4, [.imm (.slice none 0 0)]), (6, .sl 7 .ro (l.map Item.row) :: p.row ++ [.imm (.int .i64 (findS p.id l))])] ?_ ?_
  · simp -implicitDefEqProofs only [e2,e3,e4,g2,g3,g4,v2,v3,v4,PatchS.row,Item.row,fills,splice,zq7,zq8,zb0,za9,undefA,zq2,zq3,zq4,zq5,zq6,Envs,Gens,Vars,za0,za1,za2,za3,za4,eff,AV.ptrOf,AV.tokOf,za5,za6,AV.weaks,AV.weak1,za7,za8,zb1,zb2,zb3,zb4,zb5,zb6,zb7,zb8,zb9,zc0,zc1,zc2,zc3,zc4,zc5,zc6,zc7,zc8,zc9,zd0,zd1,zd2,zd3,zd4,zd5,zd6,zd7,zd8,zd9,ze0,ze1,ze2,ze3,ze4,ze5,ze6,ze7,ze8,ze9,zf0,zf1,zf2,zf3,zf4,zf5,zf6,zf7,zf8,zf9,zg0,zg1,zg2,zg3,zg4,zg5,zg6,zg7,zg8,zg9,zh0,zh1,zh2,zh3,zh4,zh5,zh6,zh7,zh8,zh9,zi0,zi1,zi2,zi3,zi4,zi5,zi6,wSnil,zi7,zi8,zi9,zj0,zj1,zj2,zj3,zj4,zj5,zj6,zj7,zj8,AV.flatB,AV.flatBs,zj9,zk0,zk1,zk2,zk3,zk4,zk5,zk6,act,AV.cells,AV.mk,AV.asSl,AV.asInt,AV.vslOf,wIdx,zk7,zk8,zk9,zl0,zl1,zl2,zl3,st0,env0,zl4,zl5,zl6,Nat.reduceAdd,Nat.reduceEqDiff,Nat.reduceLeDiff,↓reduceIte,AV.ofV,unV,← decide_not,zl7,zl8,zl9,zm0,zm1,zm2,zm3,zm4,zm5,zm6,zm7,zm8,zm9,zn0,zn1,zn2,zn3,zn4,zn5,zn6,zn7,reduceCtorEq,rowsOf,pureCells,AV.weak,AV.pureB,AV.pureBs,zn8,zn9,zo0,zo1,zo2,Nat.reduceBEq,zo3,zo4,zo5,zo6,zo7,zo8,zo9,zp0,zp1]
    trace_state
  clear e2 e3 e4 g2 g3 g4 v2 v3 v4
  have hg1 : 1 ≤ g 6 + 1 := by omega
  generalize g 6 + 1 = g6 at hg1 ⊢
  rintro e g v tg tp x' ⟨e2, e3, e4, e6, -⟩ ⟨g2, g3, g4, hg6, -⟩ ⟨v2, v3, v4, v6, -⟩
  refine AW_seq ?_
  simp -implicitDefEqProofs only [e2,e3,e4,e6,g2,g3,g4,hg6,v2,v3,v4,v6,PatchS.row,Item.row,fills,splice,zq7,zq8,zb0,za9,za0,za1,za2,za3,za4,eff,AV.ptrOf,AV.tokOf,za5,za6,AV.weaks,AV.weak1,za7,za8,zb1,zb2,zb3,zb4,zb5,zb6,zb7,zb8,zb9,zc0,zc1,zc2,zc3,zc4,zc5,zc6,zc7,zc8,zc9,zd0,zd1,zd2,zd3,zd4,zd5,zd6,zd7,zd8,zd9,ze0,ze1,ze2,ze3,ze4,ze5,ze6,ze7,ze8,ze9,zf0,zf1,zf2,zf3,zf4,zf5,zf6,zf7,zf8,zf9,zg0,zg1,zg2,zg3,zg4,zg5,zg6,zg7,zg8,zg9,zh0,zh1,zh2,zh3,zh4,zh5,zh6,zh7,zh8,zh9,zi0,zi1,zi2,zi3,zi4,zi5,zi6,wSnil,zi7,zi8,zi9,zj0,zj1,zj2,zj3,zj4,zj5,zj6,zj7,zj8,AV.flatB,AV.flatBs,zj9,zk0,zk1,zk2,zk3,zk4,zk5,zk6,act,AV.cells,AV.mk,AV.asSl,AV.asInt,AV.vslOf,wIdx,zk7,zk8,zk9,zl0,zl1,zl2,zl3,st0,env0,zl4,zl5,zl6,Nat.reduceAdd,Nat.reduceEqDiff,Nat.reduceLeDiff,↓reduceIte,AV.ofV,unV,← decide_not,zl7,zl8,zl9,zm0,zm1,zm2,zm3,zm4,zm5,zm6,zm7,zm8,zm9,zn0,zn1,zn2,zn3,zn4,zn5,zn6,zn7,reduceCtorEq,rowsOf,pureCells,AV.weak,AV.pureB,AV.pureBs,zn8,zn9,zo0,zo1,zo2,Nat.reduceBEq,zo3,zo4,zo5,zo6,zo7,zo8,zo9,zp0,zp1]
  refine AW_gen [(2, .ptr 2 1 0), (3, .ptr 3 1 0), (4, .ptr 4 1 0), (6, .ptr 6 g6 0), (7, .ptr 7 (g 7 + 1) 0)] [(2, 1), (3, 1), (4, 1), (6, g6), (7, g 7 + 1)] [(2, [.sl 7 .ro (l.map Item.row)]), (3, p.row), (4, [.imm (.slice none 0 0)]), (6, .sl 7 .ro (l.map Item.row) :: p.row ++ [.imm (.int .i64 (findS p.id l))]), (7, [.imm .nilFunc, .fv (T.getD 67 0) [] [], .fv (T.getD 68 0) [] [], .fv (T.getD 69 0) [] [], .fv (T.getD 70 0) [] [], .fv (T.getD 71 0) [] [], .fv (T.getD 71 0) [] [], .fv (T.getD 72 0) [] []])] ?_ ?_
  · simp -implicitDefEqProofs only [e2,e3,e4,e6,g2,g3,g4,hg6,v2,v3,v4,v6,PatchS.row,Item.row,splice,zq7,zq8,zb0,za9,undefA,zq2,zq3,zq4,zq5,zq6,Envs,Gens,Vars,za0,za1,za2,za3,za4,eff,AV.ptrOf,AV.tokOf,za5,za6,AV.weaks,AV.weak1,za7,za8,zb1,zb2,zb3,zb4,zb5,zb6,zb7,zb8,zb9,zc0,zc1,zc2,zc3,zc4,zc5,zc6,zc7,zc8,zc9,zd0,zd1,zd2,zd3,zd4,zd5,zd6,zd7,zd8,zd9,ze0,ze1,ze2,ze3,ze4,ze5,ze6,ze7,ze8,ze9,zf0,zf1,zf2,zf3,zf4,zf5,zf6,zf7,zf8,zf9,zg0,zg1,zg2,zg3,zg4,zg5,zg6,zg7,zg8,zg9,zh0,zh1,zh2,zh3,zh4,zh5,zh6,zh7,zh8,zh9,zi0,zi1,zi2,zi3,zi4,zi5,zi6,wSnil,zi7,zi8,zi9,zj0,zj1,zj2,zj3,zj4,zj5,zj6,zj7,zj8,AV.flatB,AV.flatBs,zj9,zk0,zk1,zk2,zk3,zk4,zk5,zk6,act,AV.cells,AV.mk,AV.asSl,AV.asInt,AV.vslOf,wIdx,zk7,zk8,zk9,zl0,zl1,zl2,zl3,st0,env0,zl4,zl5,zl6,Nat.reduceAdd,Nat.reduceEqDiff,Nat.reduceLeDiff,↓reduceIte,AV.ofV,unV,← decide_not,zl7,zl8,zl9,zm0,zm1,zm2,zm3,zm4,zm5,zm6,zm7,zm8,zm9,zn0,zn1,zn2,zn3,zn4,zn5,zn6,zn7,reduceCtorEq,rowsOf,pureCells,AV.weak,AV.pureB,AV.pureBs,zn8,zn9,zo0,zo1,zo2,Nat.reduceBEq,zo3,zo4,zo5,zo6,zo7,zo8,zo9,zp0,zp1]
  clear e2 e3 e4 e6 g2 g3 g4 hg6 v2 v3 v4 v6
  have hg7 : 1 ≤ g 7 + 1 := by omega
  generalize g 7 + 1 = g7 at hg7 ⊢
  rintro e g v tg tp x' ⟨e2, e3, e4, e6, e7, -⟩ ⟨g2, g3, g4, hg6, h7, -⟩ ⟨v2, v3, v4, v6, v7, -⟩
  refine AW_then (AW_mono (N := fun s => (Envs s.env [(3, .ptr 3 1 0), (4, .ptr 4 1 0), (6, .ptr 6 g6 0), (7, .ptr 7 g7 0)] ∧ Gens s.gen [(3, 1), (4, 1), (6, g6), (7, g7)] ∧ Vars s.var [(3, p.row), (4, [.imm (.slice none 0 0)]), (6, .sl 7 .ro (l.map Item.row) :: p.row ++ [.imm (.int .i64 (findS p.id l))]), (7, [.imm .nilFunc, .fv (T.getD 67 0) [] [], .fv (T.getD 68 0) [] [], .fv (T.getD 69 0) [] [], .fv (T.getD 70 0) [] [], .fv (T.getD 71 0) [] [], .fv (T.getD 71 0) [] [], .fv (T.getD 72 0) [] []])]) ∧ (p.kind ≠ 1 → ¬ ((itemAt l p.id).kind = 0 ∨ ((itemAt l p.id).kind = 1 ∧ p.kind ≠ 3 ∧ p.kind ≠ 4)) ∧ ¬ (p.kind = 6 ∧ (itemAt l p.id).gone = false) ∧ ¬ (p.kind ≠ 6 ∧ (itemAt l p.id).gone = true))) (AW_code ?_) ?_)
  · simp -implicitDefEqProofs only [e2,e3,e4,e6,e7,g2,g3,g4,hg6,h7,v2,v3,v4,v6,v7,PatchS.row,Item.row,fills,splice,zq7,zq8,zb0,za9,za0,za1,za2,za3,za4,eff,AV.ptrOf,AV.tokOf,za5,za6,AV.weaks,AV.weak1,za7,za8,zb1,zb2,zb3,zb4,zb5,zb6,zb7,zb8,zb9,zc0,zc1,zc2,zc3,zc4,zc5,zc6,zc7,zc8,zc9,zd0,zd1,zd2,zd3,zd4,zd5,zd6,zd7,zd8,zd9,ze0,ze1,ze2,ze3,ze4,ze5,ze6,ze7,ze8,ze9,zf0,zf1,zf2,zf3,zf4,zf5,zf6,zf7,zf8,zf9,zg0,zg1,zg2,zg3,zg4,zg5,zg6,zg7,zg8,zg9,zh0,zh1,zh2,zh3,zh4,zh5,zh6,zh7,zh8,zh9,zi0,zi1,zi2,zi3,zi4,zi5,zi6,wSnil,zi7,zi8,zi9,zj0,zj1,zj2,zj3,zj4,zj5,zj6,zj7,zj8,AV.flatB,AV.flatBs,zj9,zk0,zk1,zk2,zk3,zk4,zk5,zk6,act,AV.cells,AV.mk,AV.asSl,AV.asInt,AV.vslOf,wIdx,zk7,zk8,zk9,zl0,zl1,zl2,zl3,st0,env0,zl4,zl5,zl6,Nat.reduceAdd,Nat.reduceEqDiff,Nat.reduceLeDiff,↓reduceIte,AV.ofV,unV,← decide_not,zl7,zl8,zl9,zm0,zm1,zm2,zm3,zm4,zm5,zm6,zm7,zm8,zm9,zn0,zn1,zn2,zn3,zn4,zn5,zn6,zn7,reduceCtorEq,rowsOf,pureCells,AV.weak,AV.pureB,AV.pureBs,zn8,zn9,zo0,zo1,zo2,Nat.reduceBEq,zo3,zo4,zo5,zo6,zo7,zo8,zo9,zp0,zp1]
    have kk : ∀ (b : Bool), decide (b = true) = tb b := fun b => by cases b <;> rfl
    refine ⟨fun h1 => ⟨hg1, ?_⟩, fun h1 => ?_⟩
    · refine wCall_pure (item_con L l p (findS p.id l) p.id (by omega)) rfl rfl (AV.les2_refl _) ?_
      have no : ∀ e : Int, e ≠ 0 → applyE l p = e → applyE l p = e := fun _ _ h => h
      have pre : applyE l p = if (itemAt l p.id).kind = 0 ∨ ((itemAt l p.id).kind = 1 ∧ p.kind ≠ 3 ∧ p.kind ≠ 4) then 11 else if p.kind = 6 ∧ (itemAt l p.id).gone = false then 12 else if p.kind ≠ 6 ∧ (itemAt l p.id).gone = true then 16 else applyE l p := by
        by_cases q1 : (itemAt l p.id).kind = 0 ∨ ((itemAt l p.id).kind = 1 ∧ p.kind ≠ 3 ∧ p.kind ≠ 4)
        · rw [if_pos q1, applyE, if_neg (by simp [hv, hf]), if_neg h1, if_pos q1]
        · rw [if_neg q1]
          by_cases q2 : p.kind = 6 ∧ (itemAt l p.id).gone = false
          · rw [if_pos q2, applyE, if_neg (by simp [hv, hf]), if_neg h1, if_neg q1, if_pos q2]
          · rw [if_neg q2]
            by_cases q3 : p.kind ≠ 6 ∧ (itemAt l p.id).gone = true
            · rw [if_pos q3, applyE, if_neg (by simp [hv, hf]), if_neg h1, if_neg q1, if_neg q2, if_pos q3]
            · rw [if_neg q3]
      generalize itemAt l p.id = a at pre ⊢
      refine wOps_cutV 2 [(3, .ptr 3 1 0), (4, .ptr 4 1 0), (6, .ptr 6 g6 0), (7, .ptr 7 g7 0), (8, .ptr 8 (g 8 + 1) 0)] [(3, 1), (4, 1), (6, g6), (7, g7), (8, g 8 + 1)] [(3, p.row), (4, [.imm (.slice none 0 0)]), (6, .sl 7 .ro (l.map Item.row) :: p.row ++ [.imm (.int .i64 (findS p.id l))]), (7, [.imm .nilFunc, .fv (T.getD 67 0) [] [], .fv (T.getD 68 0) [] [], .fv (T.getD 69 0) [] [], .fv (T.getD 70 0) [] [], .fv (T.getD 71 0) [] [], .fv (T.getD 71 0) [] [], .fv (T.getD 72 0) [] []]), (8, a.row)] ?_ ?_
      · simp -implicitDefEqProofs only [e2,e3,e4,e6,e7,g2,g3,g4,hg6,h7,v2,v3,v4,v6,v7,PatchS.row,Item.row,fills,splice,zq7,zq8,zb0,za9,undefA,zq2,zq3,zq4,zq5,zq6,Envs,Gens,Vars,za0,za1,za2,za3,za4,eff,AV.ptrOf,AV.tokOf,za5,za6,AV.weaks,AV.weak1,za7,za8,zb1,zb2,zb3,zb4,zb5,zb6,zb7,zb8,zb9,zc0,zc1,zc2,zc3,zc4,zc5,zc6,zc7,zc8,zc9,zd0,zd1,zd2,zd3,zd4,zd5,zd6,zd7,zd8,zd9,ze0,ze1,ze2,ze3,ze4,ze5,ze6,ze7,ze8,ze9,zf0,zf1,zf2,zf3,zf4,zf5,zf6,zf7,zf8,zf9,zg0,zg1,zg2,zg3,zg4,zg5,zg6,zg7,zg8,zg9,zh0,zh1,zh2,zh3,zh4,zh5,zh6,zh7,zh8,zh9,zi0,zi1,zi2,zi3,zi4,zi5,zi6,wSnil,zi7,zi8,zi9,zj0,zj1,zj2,zj3,zj4,zj5,zj6,zj7,zj8,AV.flatB,AV.flatBs,zj9,zk0,zk1,zk2,zk3,zk4,zk5,zk6,act,AV.cells,AV.mk,AV.asSl,AV.asInt,AV.vslOf,wIdx,zk7,zk8,zk9,zl0,zl1,zl2,zl3,st0,env0,zl4,zl5,zl6,Nat.reduceAdd,Nat.reduceEqDiff,Nat.reduceLeDiff,↓reduceIte,AV.ofV,unV,← decide_not,zl7,zl8,zl9,zm0,zm1,zm2,zm3,zm4,zm5,zm6,zm7,zm8,zm9,zn0,zn1,zn2,zn3,zn4,zn5,zn6,zn7,reduceCtorEq,rowsOf,pureCells,AV.weak,AV.pureB,AV.pureBs,zn8,zn9,zo0,zo1,zo2,Nat.reduceBEq,zo3,zo4,zo5,zo6,zo7,zo8,zo9,zp0,zp1]
      have hg8 : 1 ≤ g 8 + 1 := by omega
      generalize g 8 + 1 = g8 at hg8 ⊢
      clear e2 e3 e4 e6 e7 g2 g3 g4 hg6 h7 v2 v3 v4 v6 v7
      rintro e g v tg tp x' ⟨e3, e4, e6, e7, e8, -⟩ ⟨g3, g4, hg6, h7, h8, -⟩ ⟨v3, v4, v6, v7, v8, -⟩
      simp -implicitDefEqProofs only [zn0,zm9,zc3]
      refine wOps_cutV 4 [(3, .ptr 3 1 0), (4, .ptr 4 1 0), (6, .ptr 6 g6 0), (7, .ptr 7 g7 0), (8, .ptr 8 g8 0), (33, .imm (.bool (decide (a.kind = 0))))] [(3, 1), (4, 1), (6, g6), (7, g7), (8, g8)] [(3, p.row), (4, [.imm (.slice none 0 0)]), (6, .sl 7 .ro (l.map Item.row) :: p.row ++ [.imm (.int .i64 (findS p.id l))]), (7, [.imm .nilFunc, .fv (T.getD 67 0) [] [], .fv (T.getD 68 0) [] [], .fv (T.getD 69 0) [] [], .fv (T.getD 70 0) [] [], .fv (T.getD 71 0) [] [], .fv (T.getD 71 0) [] [], .fv (T.getD 72 0) [] []]), (8, a.row)] ?_ ?_
      · simp -implicitDefEqProofs only [e3,e4,e6,e7,e8,g3,g4,hg6,h7,h8,v3,v4,v6,v7,v8,PatchS.row,Item.row,fills,splice,zq7,zq8,zb0,za9,undefA,zq2,zq3,zq4,zq5,zq6,Envs,Gens,Vars,za0,za1,za2,za3,za4,eff,AV.ptrOf,AV.tokOf,za5,za6,AV.weaks,AV.weak1,za7,za8,zb1,zb2,zb3,zb4,zb5,zb6,zb7,zb8,zb9,zc0,zc1,zc2,zc3,zc4,zc5,zc6,zc7,zc8,zc9,zd0,zd1,zd2,zd3,zd4,zd5,zd6,zd7,zd8,zd9,ze0,ze1,ze2,ze3,ze4,ze5,ze6,ze7,ze8,ze9,zf0,zf1,zf2,zf3,zf4,zf5,zf6,zf7,zf8,zf9,zg0,zg1,zg2,zg3,zg4,zg5,zg6,zg7,zg8,zg9,zh0,zh1,zh2,zh3,zh4,zh5,zh6,zh7,zh8,zh9,zi0,zi1,zi2,zi3,zi4,zi5,zi6,wSnil,zi7,zi8,zi9,zj0,zj1,zj2,zj3,zj4,zj5,zj6,zj7,zj8,AV.flatB,AV.flatBs,zj9,zk0,zk1,zk2,zk3,zk4,zk5,zk6,act,AV.cells,AV.mk,AV.asSl,AV.asInt,AV.vslOf,wIdx,zk7,zk8,zk9,zl0,zl1,zl2,zl3,st0,env0,zl4,zl5,zl6,Nat.reduceAdd,Nat.reduceEqDiff,Nat.reduceLeDiff,↓reduceIte,AV.ofV,unV,← decide_not,zl7,zl8,zl9,zm0,zm1,zm2,zm3,zm4,zm5,zm6,zm7,zm8,zm9,zn0,zn1,zn2,zn3,zn4,zn5,zn6,zn7,reduceCtorEq,rowsOf,pureCells,AV.weak,AV.pureB,AV.pureBs,zn8,zn9,zo0,zo1,zo2,Nat.reduceBEq,zo3,zo4,zo5,zo6,zo7,zo8,zo9,zp0,zp1]
        exact hg8
      clear e3 e4 e6 e7 e8 g3 g4 hg6 h7 h8 v3 v4 v6 v7 v8
      rintro e g v tg tp x' ⟨e3, e4, e6, e7, e8, e33, -⟩ ⟨g3, g4, hg6, h7, h8, -⟩ ⟨v3, v4, v6, v7, v8, -⟩
      by_cases q0 : a.kind = 0
      · rw [decide_eq_true q0] at e33
        simp -implicitDefEqProofs only [zn0,zm9,zc3,zb3,zb2,zb4,zb1,zk9,e33,zc1]
        simp -implicitDefEqProofs only [e3,e4,e6,e7,e8,g3,g4,hg6,h7,h8,v3,v4,v6,v7,v8,PatchS.row,Item.row,fills,splice,zq7,zq8,zb0,za9,za0,za1,za2,za3,za4,eff,AV.ptrOf,AV.tokOf,za5,za6,AV.weaks,AV.weak1,za7,za8,zb1,zb2,zb3,zb4,zb5,zb6,zb7,zb8,zb9,zc0,zc1,zc2,zc3,zc4,zc5,zc6,zc7,zc8,zc9,zd0,zd1,zd2,zd3,zd4,zd5,zd6,zd7,zd8,zd9,ze0,ze1,ze2,ze3,ze4,ze5,ze6,ze7,ze8,ze9,zf0,zf1,zf2,zf3,zf4,zf5,zf6,zf7,zf8,zf9,zg0,zg1,zg2,zg3,zg4,zg5,zg6,zg7,zg8,zg9,zh0,zh1,zh2,zh3,zh4,zh5,zh6,zh7,zh8,zh9,zi0,zi1,zi2,zi3,zi4,zi5,zi6,wSnil,zi7,zi8,zi9,zj0,zj1,zj2,zj3,zj4,zj5,zj6,zj7,zj8,AV.flatB,AV.flatBs,zj9,zk0,zk1,zk2,zk3,zk4,zk5,zk6,act,AV.cells,AV.mk,AV.asSl,AV.asInt,AV.vslOf,wIdx,zk7,zk8,zk9,zl0,zl1,zl2,zl3,st0,env0,zl4,zl5,zl6,Nat.reduceAdd,Nat.reduceEqDiff,Nat.reduceLeDiff,↓reduceIte,AV.ofV,unV,← decide_not,zl7,zl8,zl9,zm0,zm1,zm2,zm3,zm4,zm5,zm6,zm7,zm8,zm9,zn0,zn1,zn2,zn3,zn4,zn5,zn6,zn7,reduceCtorEq,rowsOf,pureCells,AV.weak,AV.pureB,AV.pureBs,zn8,zn9,zo0,zo1,zo2,Nat.reduceBEq,zo3,zo4,zo5,zo6,zo7,zo8,zo9,zp0,zp1]
        exact fail 11 (by decide) (by rw [pre, if_pos (.inl q0)]) _ _ _ _ _ _ (by simp [upd, e4]) (by simp [upd, g4]) (by simp [upd]) (by simp [upd])
      rw [decide_eq_false q0] at e33
      simp -implicitDefEqProofs only [zn0,zm9,zc3,zb3,zb2,zb4,zb1,zk9,e33,zc2]
      clear e33
      refine wOps_cutV 14 [(3, .ptr 3 1 0), (4, .ptr 4 1 0), (6, .ptr 6 g6 0), (7, .ptr 7 g7 0), (8, .ptr 8 g8 0), (33, .imm (.bool (decide (a.kind = 1 ∧ p.kind ≠ 3 ∧ p.kind ≠ 4))))] [(3, 1), (4, 1), (6, g6), (7, g7), (8, g8)] [(3, p.row), (4, [.imm (.slice none 0 0)]), (6, .sl 7 .ro (l.map Item.row) :: p.row ++ [.imm (.int .i64 (findS p.id l))]), (7, [.imm .nilFunc, .fv (T.getD 67 0) [] [], .fv (T.getD 68 0) [] [], .fv (T.getD 69 0) [] [], .fv (T.getD 70 0) [] [], .fv (T.getD 71 0) [] [], .fv (T.getD 71 0) [] [], .fv (T.getD 72 0) [] []]), (8, a.row)] ?_ ?_
      · by_cases u1 : a.kind = 1
        · have t1 := eq_true u1
          by_cases u2 : p.kind = 3
          · have t2 := eq_true u2
            simp -implicitDefEqProofs only [t1,t2,e3,e4,e6,e7,e8,g3,g4,hg6,h7,h8,v3,v4,v6,v7,v8,PatchS.row,Item.row,fills,splice,zq7,zq8,zb0,za9,undefA,zq2,zq3,zq4,zq5,zq6,Envs,Gens,Vars,za0,za1,za2,za3,za4,eff,AV.ptrOf,AV.tokOf,za5,za6,AV.weaks,AV.weak1,za7,za8,zb1,zb2,zb3,zb4,zb5,zb6,zb7,zb8,zb9,zc0,zc1,zc2,zc3,zc4,zc5,zc6,zc7,zc8,zc9,zd0,zd1,zd2,zd3,zd4,zd5,zd6,zd7,zd8,zd9,ze0,ze1,ze2,ze3,ze4,ze5,ze6,ze7,ze8,ze9,zf0,zf1,zf2,zf3,zf4,zf5,zf6,zf7,zf8,zf9,zg0,zg1,zg2,zg3,zg4,zg5,zg6,zg7,zg8,zg9,zh0,zh1,zh2,zh3,zh4,zh5,zh6,zh7,zh8,zh9,zi0,zi1,zi2,zi3,zi4,zi5,zi6,wSnil,zi7,zi8,zi9,zj0,zj1,zj2,zj3,zj4,zj5,zj6,zj7,zj8,AV.flatB,AV.flatBs,zj9,zk0,zk1,zk2,zk3,zk4,zk5,zk6,act,AV.cells,AV.mk,AV.asSl,AV.asInt,AV.vslOf,wIdx,zk7,zk8,zk9,zl0,zl1,zl2,zl3,st0,env0,zl4,zl5,zl6,Nat.reduceAdd,Nat.reduceEqDiff,Nat.reduceLeDiff,↓reduceIte,AV.ofV,unV,← decide_not,zl7,zl8,zl9,zm0,zm1,zm2,zm3,zm4,zm5,zm6,zm7,zm8,zm9,zn0,zn1,zn2,zn3,zn4,zn5,zn6,zn7,reduceCtorEq,rowsOf,pureCells,AV.weak,AV.pureB,AV.pureBs,zn8,zn9,zo0,zo1,zo2,Nat.reduceBEq,zo3,zo4,zo5,zo6,zo7,zo8,zo9,zp0,zp1]
            first | assumption | (refine ⟨by assumption, ?_⟩; simp; done) | (simp; done) | (refine ⟨by assumption, ?_⟩; cases Item.gone _ <;> rfl) | (refine ⟨by assumption, ?_⟩; cases a.gone <;> rfl)
          · have t2 := eq_false u2
            by_cases u3 : p.kind = 4
            · have t3 := eq_true u3
              simp -implicitDefEqProofs only [t1,t2,t3,e3,e4,e6,e7,e8,g3,g4,hg6,h7,h8,v3,v4,v6,v7,v8,PatchS.row,Item.row,fills,splice,zq7,zq8,zb0,za9,undefA,zq2,zq3,zq4,zq5,zq6,Envs,Gens,Vars,za0,za1,za2,za3,za4,eff,AV.ptrOf,AV.tokOf,za5,za6,AV.weaks,AV.weak1,za7,za8,zb1,zb2,zb3,zb4,zb5,zb6,zb7,zb8,zb9,zc0,zc1,zc2,zc3,zc4,zc5,zc6,zc7,zc8,zc9,zd0,zd1,zd2,zd3,zd4,zd5,zd6,zd7,zd8,zd9,ze0,ze1,ze2,ze3,ze4,ze5,ze6,ze7,ze8,ze9,zf0,zf1,zf2,zf3,zf4,zf5,zf6,zf7,zf8,zf9,zg0,zg1,zg2,zg3,zg4,zg5,zg6,zg7,zg8,zg9,zh0,zh1,zh2,zh3,zh4,zh5,zh6,zh7,zh8,zh9,zi0,zi1,zi2,zi3,zi4,zi5,zi6,wSnil,zi7,zi8,zi9,zj0,zj1,zj2,zj3,zj4,zj5,zj6,zj7,zj8,AV.flatB,AV.flatBs,zj9,zk0,zk1,zk2,zk3,zk4,zk5,zk6,act,AV.cells,AV.mk,AV.asSl,AV.asInt,AV.vslOf,wIdx,zk7,zk8,zk9,zl0,zl1,zl2,zl3,st0,env0,zl4,zl5,zl6,Nat.reduceAdd,Nat.reduceEqDiff,Nat.reduceLeDiff,↓reduceIte,AV.ofV,unV,← decide_not,zl7,zl8,zl9,zm0,zm1,zm2,zm3,zm4,zm5,zm6,zm7,zm8,zm9,zn0,zn1,zn2,zn3,zn4,zn5,zn6,zn7,reduceCtorEq,rowsOf,pureCells,AV.weak,AV.pureB,AV.pureBs,zn8,zn9,zo0,zo1,zo2,Nat.reduceBEq,zo3,zo4,zo5,zo6,zo7,zo8,zo9,zp0,zp1]
              first | assumption | (refine ⟨by assumption, ?_⟩; simp; done) | (simp; done) | (refine ⟨by assumption, ?_⟩; cases Item.gone _ <;> rfl) | (refine ⟨by assumption, ?_⟩; cases a.gone <;> rfl)
            · have t3 := eq_false u3
              simp -implicitDefEqProofs only [t1,t2,t3,e3,e4,e6,e7,e8,g3,g4,hg6,h7,h8,v3,v4,v6,v7,v8,PatchS.row,Item.row,fills,splice,zq7,zq8,zb0,za9,undefA,zq2,zq3,zq4,zq5,zq6,Envs,Gens,Vars,za0,za1,za2,za3,za4,eff,AV.ptrOf,AV.tokOf,za5,za6,AV.weaks,AV.weak1,za7,za8,zb1,zb2,zb3,zb4,zb5,zb6,zb7,zb8,zb9,zc0,zc1,zc2,zc3,zc4,zc5,zc6,zc7,zc8,zc9,zd0,zd1,zd2,zd3,zd4,zd5,zd6,zd7,zd8,zd9,ze0,ze1,ze2,ze3,ze4,ze5,ze6,ze7,ze8,ze9,zf0,zf1,zf2,zf3,zf4,zf5,zf6,zf7,zf8,zf9,zg0,zg1,zg2,zg3,zg4,zg5,zg6,zg7,zg8,zg9,zh0,zh1,zh2,zh3,zh4,zh5,zh6,zh7,zh8,zh9,zi0,zi1,zi2,zi3,zi4,zi5,zi6,wSnil,zi7,zi8,zi9,zj0,zj1,zj2,zj3,zj4,zj5,zj6,zj7,zj8,AV.flatB,AV.flatBs,zj9,zk0,zk1,zk2,zk3,zk4,zk5,zk6,act,AV.cells,AV.mk,AV.asSl,AV.asInt,AV.vslOf,wIdx,zk7,zk8,zk9,zl0,zl1,zl2,zl3,st0,env0,zl4,zl5,zl6,Nat.reduceAdd,Nat.reduceEqDiff,Nat.reduceLeDiff,↓reduceIte,AV.ofV,unV,← decide_not,zl7,zl8,zl9,zm0,zm1,zm2,zm3,zm4,zm5,zm6,zm7,zm8,zm9,zn0,zn1,zn2,zn3,zn4,zn5,zn6,zn7,reduceCtorEq,rowsOf,pureCells,AV.weak,AV.pureB,AV.pureBs,zn8,zn9,zo0,zo1,zo2,Nat.reduceBEq,zo3,zo4,zo5,zo6,zo7,zo8,zo9,zp0,zp1]
              first | assumption | (refine ⟨by assumption, ?_⟩; simp; done) | (simp; done) | (refine ⟨by assumption, ?_⟩; cases Item.gone _ <;> rfl) | (refine ⟨by assumption, ?_⟩; cases a.gone <;> rfl)
        · have t1 := eq_false u1
          simp -implicitDefEqProofs only [t1,e3,e4,e6,e7,e8,g3,g4,hg6,h7,h8,v3,v4,v6,v7,v8,PatchS.row,Item.row,fills,splice,zq7,zq8,zb0,za9,undefA,zq2,zq3,zq4,zq5,zq6,Envs,Gens,Vars,za0,za1,za2,za3,za4,eff,AV.ptrOf,AV.tokOf,za5,za6,AV.weaks,AV.weak1,za7,za8,zb1,zb2,zb3,zb4,zb5,zb6,zb7,zb8,zb9,zc0,zc1,zc2,zc3,zc4,zc5,zc6,zc7,zc8,zc9,zd0,zd1,zd2,zd3,zd4,zd5,zd6,zd7,zd8,zd9,ze0,ze1,ze2,ze3,ze4,ze5,ze6,ze7,ze8,ze9,zf0,zf1,zf2,zf3,zf4,zf5,zf6,zf7,zf8,zf9,zg0,zg1,zg2,zg3,zg4,zg5,zg6,zg7,zg8,zg9,zh0,zh1,zh2,zh3,zh4,zh5,zh6,zh7,zh8,zh9,zi0,zi1,zi2,zi3,zi4,zi5,zi6,wSnil,zi7,zi8,zi9,zj0,zj1,zj2,zj3,zj4,zj5,zj6,zj7,zj8,AV.flatB,AV.flatBs,zj9,zk0,zk1,zk2,zk3,zk4,zk5,zk6,act,AV.cells,AV.mk,AV.asSl,AV.asInt,AV.vslOf,wIdx,zk7,zk8,zk9,zl0,zl1,zl2,zl3,st0,env0,zl4,zl5,zl6,Nat.reduceAdd,Nat.reduceEqDiff,Nat.reduceLeDiff,↓reduceIte,AV.ofV,unV,← decide_not,zl7,zl8,zl9,zm0,zm1,zm2,zm3,zm4,zm5,zm6,zm7,zm8,zm9,zn0,zn1,zn2,zn3,zn4,zn5,zn6,zn7,reduceCtorEq,rowsOf,pureCells,AV.weak,AV.pureB,AV.pureBs,zn8,zn9,zo0,zo1,zo2,Nat.reduceBEq,zo3,zo4,zo5,zo6,zo7,zo8,zo9,zp0,zp1]
          first | assumption | (refine ⟨by assumption, ?_⟩; simp; done) | (simp; done) | (refine ⟨by assumption, ?_⟩; cases Item.gone _ <;> rfl) | (refine ⟨by assumption, ?_⟩; cases a.gone <;> rfl)
      clear e3 e4 e6 e7 e8 g3 g4 hg6 h7 h8 v3 v4 v6 v7 v8
      rintro e g v tg tp x' ⟨e3, e4, e6, e7, e8, e33, -⟩ ⟨g3, g4, hg6, h7, h8, -⟩ ⟨v3, v4, v6, v7, v8, -⟩
      by_cases w33 : a.kind = 1 ∧ p.kind ≠ 3 ∧ p.kind ≠ 4
      · rw [decide_eq_true w33] at e33
        simp -implicitDefEqProofs only [zn0,zm9,zc3,zb3,zb2,zb4,zb1,zk9,e33,zc1]
        simp -implicitDefEqProofs only [e3,e4,e6,e7,e8,g3,g4,hg6,h7,h8,v3,v4,v6,v7,v8,PatchS.row,Item.row,fills,splice,zq7,zq8,zb0,za9,za0,za1,za2,za3,za4,eff,AV.ptrOf,AV.tokOf,za5,za6,AV.weaks,AV.weak1,za7,za8,zb1,zb2,zb3,zb4,zb5,zb6,zb7,zb8,zb9,zc0,zc1,zc2,zc3,zc4,zc5,zc6,zc7,zc8,zc9,zd0,zd1,zd2,zd3,zd4,zd5,zd6,zd7,zd8,zd9,ze0,ze1,ze2,ze3,ze4,ze5,ze6,ze7,ze8,ze9,zf0,zf1,zf2,zf3,zf4,zf5,zf6,zf7,zf8,zf9,zg0,zg1,zg2,zg3,zg4,zg5,zg6,zg7,zg8,zg9,zh0,zh1,zh2,zh3,zh4,zh5,zh6,zh7,zh8,zh9,zi0,zi1,zi2,zi3,zi4,zi5,zi6,wSnil,zi7,zi8,zi9,zj0,zj1,zj2,zj3,zj4,zj5,zj6,zj7,zj8,AV.flatB,AV.flatBs,zj9,zk0,zk1,zk2,zk3,zk4,zk5,zk6,act,AV.cells,AV.mk,AV.asSl,AV.asInt,AV.vslOf,wIdx,zk7,zk8,zk9,zl0,zl1,zl2,zl3,st0,env0,zl4,zl5,zl6,Nat.reduceAdd,Nat.reduceEqDiff,Nat.reduceLeDiff,↓reduceIte,AV.ofV,unV,← decide_not,zl7,zl8,zl9,zm0,zm1,zm2,zm3,zm4,zm5,zm6,zm7,zm8,zm9,zn0,zn1,zn2,zn3,zn4,zn5,zn6,zn7,reduceCtorEq,rowsOf,pureCells,AV.weak,AV.pureB,AV.pureBs,zn8,zn9,zo0,zo1,zo2,Nat.reduceBEq,zo3,zo4,zo5,zo6,zo7,zo8,zo9,zp0,zp1]
        exact fail 11 (by decide) (by rw [pre, if_pos (.inr w33)]) _ _ _ _ _ _ (by simp [upd, e4]) (by simp [upd, g4]) (by simp [upd]) (by simp [upd])
      rw [decide_eq_false w33] at e33
      simp -implicitDefEqProofs only [zn0,zm9,zc3,zb3,zb2,zb4,zb1,zk9,e33,zc2]
      clear e33
      refine wOps_cutV 9 [(3, .ptr 3 1 0), (4, .ptr 4 1 0), (6, .ptr 6 g6 0), (7, .ptr 7 g7 0), (8, .ptr 8 g8 0), (51, .imm (.bool (decide (p.kind = 6 ∧ a.gone = false))))] [(3, 1), (4, 1), (6, g6), (7, g7), (8, g8)] [(3, p.row), (4, [.imm (.slice none 0 0)]), (6, .sl 7 .ro (l.map Item.row) :: p.row ++ [.imm (.int .i64 (findS p.id l))]), (7, [.imm .nilFunc, .fv (T.getD 67 0) [] [], .fv (T.getD 68 0) [] [], .fv (T.getD 69 0) [] [], .fv (T.getD 70 0) [] [], .fv (T.getD 71 0) [] [], .fv (T.getD 71 0) [] [], .fv (T.getD 72 0) [] []]), (8, a.row)] ?_ ?_
      · by_cases u1 : p.kind = 6
        · have t1 := eq_true u1
          simp -implicitDefEqProofs only [t1,e3,e4,e6,e7,e8,g3,g4,hg6,h7,h8,v3,v4,v6,v7,v8,PatchS.row,Item.row,fills,splice,zq7,zq8,zb0,za9,undefA,zq2,zq3,zq4,zq5,zq6,Envs,Gens,Vars,za0,za1,za2,za3,za4,eff,AV.ptrOf,AV.tokOf,za5,za6,AV.weaks,AV.weak1,za7,za8,zb1,zb2,zb3,zb4,zb5,zb6,zb7,zb8,zb9,zc0,zc1,zc2,zc3,zc4,zc5,zc6,zc7,zc8,zc9,zd0,zd1,zd2,zd3,zd4,zd5,zd6,zd7,zd8,zd9,ze0,ze1,ze2,ze3,ze4,ze5,ze6,ze7,ze8,ze9,zf0,zf1,zf2,zf3,zf4,zf5,zf6,zf7,zf8,zf9,zg0,zg1,zg2,zg3,zg4,zg5,zg6,zg7,zg8,zg9,zh0,zh1,zh2,zh3,zh4,zh5,zh6,zh7,zh8,zh9,zi0,zi1,zi2,zi3,zi4,zi5,zi6,wSnil,zi7,zi8,zi9,zj0,zj1,zj2,zj3,zj4,zj5,zj6,zj7,zj8,AV.flatB,AV.flatBs,zj9,zk0,zk1,zk2,zk3,zk4,zk5,zk6,act,AV.cells,AV.mk,AV.asSl,AV.asInt,AV.vslOf,wIdx,zk7,zk8,zk9,zl0,zl1,zl2,zl3,st0,env0,zl4,zl5,zl6,Nat.reduceAdd,Nat.reduceEqDiff,Nat.reduceLeDiff,↓reduceIte,AV.ofV,unV,← decide_not,zl7,zl8,zl9,zm0,zm1,zm2,zm3,zm4,zm5,zm6,zm7,zm8,zm9,zn0,zn1,zn2,zn3,zn4,zn5,zn6,zn7,reduceCtorEq,rowsOf,pureCells,AV.weak,AV.pureB,AV.pureBs,zn8,zn9,zo0,zo1,zo2,Nat.reduceBEq,zo3,zo4,zo5,zo6,zo7,zo8,zo9,zp0,zp1]
          first | assumption | (refine ⟨by assumption, ?_⟩; simp; done) | (simp; done) | (refine ⟨by assumption, ?_⟩; cases Item.gone _ <;> rfl) | (refine ⟨by assumption, ?_⟩; cases a.gone <;> rfl)
        · have t1 := eq_false u1
          simp -implicitDefEqProofs only [t1,e3,e4,e6,e7,e8,g3,g4,hg6,h7,h8,v3,v4,v6,v7,v8,PatchS.row,Item.row,fills,splice,zq7,zq8,zb0,za9,undefA,zq2,zq3,zq4,zq5,zq6,Envs,Gens,Vars,za0,za1,za2,za3,za4,eff,AV.ptrOf,AV.tokOf,za5,za6,AV.weaks,AV.weak1,za7,za8,zb1,zb2,zb3,zb4,zb5,zb6,zb7,zb8,zb9,zc0,zc1,zc2,zc3,zc4,zc5,zc6,zc7,zc8,zc9,zd0,zd1,zd2,zd3,zd4,zd5,zd6,zd7,zd8,zd9,ze0,ze1,ze2,ze3,ze4,ze5,ze6,ze7,ze8,ze9,zf0,zf1,zf2,zf3,zf4,zf5,zf6,zf7,zf8,zf9,zg0,zg1,zg2,zg3,zg4,zg5,zg6,zg7,zg8,zg9,zh0,zh1,zh2,zh3,zh4,zh5,zh6,zh7,zh8,zh9,zi0,zi1,zi2,zi3,zi4,zi5,zi6,wSnil,zi7,zi8,zi9,zj0,zj1,zj2,zj3,zj4,zj5,zj6,zj7,zj8,AV.flatB,AV.flatBs,zj9,zk0,zk1,zk2,zk3,zk4,zk5,zk6,act,AV.cells,AV.mk,AV.asSl,AV.asInt,AV.vslOf,wIdx,zk7,zk8,zk9,zl0,zl1,zl2,zl3,st0,env0,zl4,zl5,zl6,Nat.reduceAdd,Nat.reduceEqDiff,Nat.reduceLeDiff,↓reduceIte,AV.ofV,unV,← decide_not,zl7,zl8,zl9,zm0,zm1,zm2,zm3,zm4,zm5,zm6,zm7,zm8,zm9,zn0,zn1,zn2,zn3,zn4,zn5,zn6,zn7,reduceCtorEq,rowsOf,pureCells,AV.weak,AV.pureB,AV.pureBs,zn8,zn9,zo0,zo1,zo2,Nat.reduceBEq,zo3,zo4,zo5,zo6,zo7,zo8,zo9,zp0,zp1]
          first | assumption | (refine ⟨by assumption, ?_⟩; simp; done) | (simp; done) | (refine ⟨by assumption, ?_⟩; cases Item.gone _ <;> rfl) | (refine ⟨by assumption, ?_⟩; cases a.gone <;> rfl)
      clear e3 e4 e6 e7 e8 g3 g4 hg6 h7 h8 v3 v4 v6 v7 v8
      rintro e g v tg tp x' ⟨e3, e4, e6, e7, e8, e51, -⟩ ⟨g3, g4, hg6, h7, h8, -⟩ ⟨v3, v4, v6, v7, v8, -⟩
      by_cases w51 : p.kind = 6 ∧ a.gone = false
      · rw [decide_eq_true w51] at e51
        simp -implicitDefEqProofs only [zn0,zm9,zc3,zb3,zb2,zb4,zb1,zk9,e51,zc1]
        simp -implicitDefEqProofs only [e3,e4,e6,e7,e8,g3,g4,hg6,h7,h8,v3,v4,v6,v7,v8,PatchS.row,Item.row,fills,splice,zq7,zq8,zb0,za9,za0,za1,za2,za3,za4,eff,AV.ptrOf,AV.tokOf,za5,za6,AV.weaks,AV.weak1,za7,za8,zb1,zb2,zb3,zb4,zb5,zb6,zb7,zb8,zb9,zc0,zc1,zc2,zc3,zc4,zc5,zc6,zc7,zc8,zc9,zd0,zd1,zd2,zd3,zd4,zd5,zd6,zd7,zd8,zd9,ze0,ze1,ze2,ze3,ze4,ze5,ze6,ze7,ze8,ze9,zf0,zf1,zf2,zf3,zf4,zf5,zf6,zf7,zf8,zf9,zg0,zg1,zg2,zg3,zg4,zg5,zg6,zg7,zg8,zg9,zh0,zh1,zh2,zh3,zh4,zh5,zh6,zh7,zh8,zh9,zi0,zi1,zi2,zi3,zi4,zi5,zi6,wSnil,zi7,zi8,zi9,zj0,zj1,zj2,zj3,zj4,zj5,zj6,zj7,zj8,AV.flatB,AV.flatBs,zj9,zk0,zk1,zk2,zk3,zk4,zk5,zk6,act,AV.cells,AV.mk,AV.asSl,AV.asInt,AV.vslOf,wIdx,zk7,zk8,zk9,zl0,zl1,zl2,zl3,st0,env0,zl4,zl5,zl6,Nat.reduceAdd,Nat.reduceEqDiff,Nat.reduceLeDiff,↓reduceIte,AV.ofV,unV,← decide_not,zl7,zl8,zl9,zm0,zm1,zm2,zm3,zm4,zm5,zm6,zm7,zm8,zm9,zn0,zn1,zn2,zn3,zn4,zn5,zn6,zn7,reduceCtorEq,rowsOf,pureCells,AV.weak,AV.pureB,AV.pureBs,zn8,zn9,zo0,zo1,zo2,Nat.reduceBEq,zo3,zo4,zo5,zo6,zo7,zo8,zo9,zp0,zp1]
        exact fail 12 (by decide) (by rw [pre, if_neg (by simp [q0, w33]), if_pos w51]) _ _ _ _ _ _ (by simp [upd, e4]) (by simp [upd, g4]) (by simp [upd]) (by simp [upd])
      rw [decide_eq_false w51] at e51
      simp -implicitDefEqProofs only [zn0,zm9,zc3,zb3,zb2,zb4,zb1,zk9,e51,zc2]
      clear e51
      refine wOps_cutV 8 [(3, .ptr 3 1 0), (4, .ptr 4 1 0), (6, .ptr 6 g6 0), (7, .ptr 7 g7 0), (8, .ptr 8 g8 0), (61, .imm (.bool (decide (p.kind ≠ 6 ∧ a.gone = true))))] [(3, 1), (4, 1), (6, g6), (7, g7), (8, g8)] [(3, p.row), (4, [.imm (.slice none 0 0)]), (6, .sl 7 .ro (l.map Item.row) :: p.row ++ [.imm (.int .i64 (findS p.id l))]), (7, [.imm .nilFunc, .fv (T.getD 67 0) [] [], .fv (T.getD 68 0) [] [], .fv (T.getD 69 0) [] [], .fv (T.getD 70 0) [] [], .fv (T.getD 71 0) [] [], .fv (T.getD 71 0) [] [], .fv (T.getD 72 0) [] []]), (8, a.row)] ?_ ?_
      · by_cases u1 : p.kind = 6
        · have t1 := eq_true u1
          simp -implicitDefEqProofs only [t1,e3,e4,e6,e7,e8,g3,g4,hg6,h7,h8,v3,v4,v6,v7,v8,PatchS.row,Item.row,fills,splice,zq7,zq8,zb0,za9,undefA,zq2,zq3,zq4,zq5,zq6,Envs,Gens,Vars,za0,za1,za2,za3,za4,eff,AV.ptrOf,AV.tokOf,za5,za6,AV.weaks,AV.weak1,za7,za8,zb1,zb2,zb3,zb4,zb5,zb6,zb7,zb8,zb9,zc0,zc1,zc2,zc3,zc4,zc5,zc6,zc7,zc8,zc9,zd0,zd1,zd2,zd3,zd4,zd5,zd6,zd7,zd8,zd9,ze0,ze1,ze2,ze3,ze4,ze5,ze6,ze7,ze8,ze9,zf0,zf1,zf2,zf3,zf4,zf5,zf6,zf7,zf8,zf9,zg0,zg1,zg2,zg3,zg4,zg5,zg6,zg7,zg8,zg9,zh0,zh1,zh2,zh3,zh4,zh5,zh6,zh7,zh8,zh9,zi0,zi1,zi2,zi3,zi4,zi5,zi6,wSnil,zi7,zi8,zi9,zj0,zj1,zj2,zj3,zj4,zj5,zj6,zj7,zj8,AV.flatB,AV.flatBs,zj9,zk0,zk1,zk2,zk3,zk4,zk5,zk6,act,AV.cells,AV.mk,AV.asSl,AV.asInt,AV.vslOf,wIdx,zk7,zk8,zk9,zl0,zl1,zl2,zl3,st0,env0,zl4,zl5,zl6,Nat.reduceAdd,Nat.reduceEqDiff,Nat.reduceLeDiff,↓reduceIte,AV.ofV,unV,← decide_not,zl7,zl8,zl9,zm0,zm1,zm2,zm3,zm4,zm5,zm6,zm7,zm8,zm9,zn0,zn1,zn2,zn3,zn4,zn5,zn6,zn7,reduceCtorEq,rowsOf,pureCells,AV.weak,AV.pureB,AV.pureBs,zn8,zn9,zo0,zo1,zo2,Nat.reduceBEq,zo3,zo4,zo5,zo6,zo7,zo8,zo9,zp0,zp1]
          first | assumption | (refine ⟨by assumption, ?_⟩; simp; done) | (simp; done) | (refine ⟨by assumption, ?_⟩; cases Item.gone _ <;> rfl) | (refine ⟨by assumption, ?_⟩; cases a.gone <;> rfl)
        · have t1 := eq_false u1
          simp -implicitDefEqProofs only [t1,e3,e4,e6,e7,e8,g3,g4,hg6,h7,h8,v3,v4,v6,v7,v8,PatchS.row,Item.row,fills,splice,zq7,zq8,zb0,za9,undefA,zq2,zq3,zq4,zq5,zq6,Envs,Gens,Vars,za0,za1,za2,za3,za4,eff,AV.ptrOf,AV.tokOf,za5,za6,AV.weaks,AV.weak1,za7,za8,zb1,zb2,zb3,zb4,zb5,zb6,zb7,zb8,zb9,zc0,zc1,zc2,zc3,zc4,zc5,zc6,zc7,zc8,zc9,zd0,zd1,zd2,zd3,zd4,zd5,zd6,zd7,zd8,zd9,ze0,ze1,ze2,ze3,ze4,ze5,ze6,ze7,ze8,ze9,zf0,zf1,zf2,zf3,zf4,zf5,zf6,zf7,zf8,zf9,zg0,zg1,zg2,zg3,zg4,zg5,zg6,zg7,zg8,zg9,zh0,zh1,zh2,zh3,zh4,zh5,zh6,zh7,zh8,zh9,zi0,zi1,zi2,zi3,zi4,zi5,zi6,wSnil,zi7,zi8,zi9,zj0,zj1,zj2,zj3,zj4,zj5,zj6,zj7,zj8,AV.flatB,AV.flatBs,zj9,zk0,zk1,zk2,zk3,zk4,zk5,zk6,act,AV.cells,AV.mk,AV.asSl,AV.asInt,AV.vslOf,wIdx,zk7,zk8,zk9,zl0,zl1,zl2,zl3,st0,env0,zl4,zl5,zl6,Nat.reduceAdd,Nat.reduceEqDiff,Nat.reduceLeDiff,↓reduceIte,AV.ofV,unV,← decide_not,zl7,zl8,zl9,zm0,zm1,zm2,zm3,zm4,zm5,zm6,zm7,zm8,zm9,zn0,zn1,zn2,zn3,zn4,zn5,zn6,zn7,reduceCtorEq,rowsOf,pureCells,AV.weak,AV.pureB,AV.pureBs,zn8,zn9,zo0,zo1,zo2,Nat.reduceBEq,zo3,zo4,zo5,zo6,zo7,zo8,zo9,zp0,zp1]
          first | assumption | (refine ⟨by assumption, ?_⟩; simp; done) | (simp; done) | (refine ⟨by assumption, ?_⟩; cases Item.gone _ <;> rfl) | (refine ⟨by assumption, ?_⟩; cases a.gone <;> rfl)
      clear e3 e4 e6 e7 e8 g3 g4 hg6 h7 h8 v3 v4 v6 v7 v8
      rintro e g v tg tp x' ⟨e3, e4, e6, e7, e8, e61, -⟩ ⟨g3, g4, hg6, h7, h8, -⟩ ⟨v3, v4, v6, v7, v8, -⟩
      by_cases w61 : p.kind ≠ 6 ∧ a.gone = true
      · rw [decide_eq_true w61] at e61
        simp -implicitDefEqProofs only [zn0,zm9,zc3,zb3,zb2,zb4,zb1,zk9,e61,zc1]
        simp -implicitDefEqProofs only [e3,e4,e6,e7,e8,g3,g4,hg6,h7,h8,v3,v4,v6,v7,v8,PatchS.row,Item.row,fills,splice,zq7,zq8,zb0,za9,za0,za1,za2,za3,za4,eff,AV.ptrOf,AV.tokOf,za5,za6,AV.weaks,AV.weak1,za7,za8,zb1,zb2,zb3,zb4,zb5,zb6,zb7,zb8,zb9,zc0,zc1,zc2,zc3,zc4,zc5,zc6,zc7,zc8,zc9,zd0,zd1,zd2,zd3,zd4,zd5,zd6,zd7,zd8,zd9,ze0,ze1,ze2,ze3,ze4,ze5,ze6,ze7,ze8,ze9,zf0,zf1,zf2,zf3,zf4,zf5,zf6,zf7,zf8,zf9,zg0,zg1,zg2,zg3,zg4,zg5,zg6,zg7,zg8,zg9,zh0,zh1,zh2,zh3,zh4,zh5,zh6,zh7,zh8,zh9,zi0,zi1,zi2,zi3,zi4,zi5,zi6,wSnil,zi7,zi8,zi9,zj0,zj1,zj2,zj3,zj4,zj5,zj6,zj7,zj8,AV.flatB,AV.flatBs,zj9,zk0,zk1,zk2,zk3,zk4,zk5,zk6,act,AV.cells,AV.mk,AV.asSl,AV.asInt,AV.vslOf,wIdx,zk7,zk8,zk9,zl0,zl1,zl2,zl3,st0,env0,zl4,zl5,zl6,Nat.reduceAdd,Nat.reduceEqDiff,Nat.reduceLeDiff,↓reduceIte,AV.ofV,unV,← decide_not,zl7,zl8,zl9,zm0,zm1,zm2,zm3,zm4,zm5,zm6,zm7,zm8,zm9,zn0,zn1,zn2,zn3,zn4,zn5,zn6,zn7,reduceCtorEq,rowsOf,pureCells,AV.weak,AV.pureB,AV.pureBs,zn8,zn9,zo0,zo1,zo2,Nat.reduceBEq,zo3,zo4,zo5,zo6,zo7,zo8,zo9,zp0,zp1]
        exact fail 16 (by decide) (by rw [pre, if_neg (by simp [q0, w33]), if_neg w51, if_pos w61]) _ _ _ _ _ _ (by simp [upd, e4]) (by simp [upd, g4]) (by simp [upd]) (by simp [upd])
      rw [decide_eq_false w61] at e61
      simp -implicitDefEqProofs only [zn0,zm9,zc3,zb3,zb2,zb4,zb1,zk9,e61,zc2]
      clear e61
      simp -implicitDefEqProofs only [e3,e4,e6,e7,e8,g3,g4,hg6,h7,h8,v3,v4,v6,v7,v8,PatchS.row,Item.row,fills,splice,zq7,zq8,zb0,za9,undefA,zq2,zq3,zq4,zq5,zq6,Envs,Gens,Vars,za0,za1,za2,za3,za4,eff,AV.ptrOf,AV.tokOf,za5,za6,AV.weaks,AV.weak1,za7,za8,zb1,zb2,zb3,zb4,zb5,zb6,zb7,zb8,zb9,zc0,zc1,zc2,zc3,zc4,zc5,zc6,zc7,zc8,zc9,zd0,zd1,zd2,zd3,zd4,zd5,zd6,zd7,zd8,zd9,ze0,ze1,ze2,ze3,ze4,ze5,ze6,ze7,ze8,ze9,zf0,zf1,zf2,zf3,zf4,zf5,zf6,zf7,zf8,zf9,zg0,zg1,zg2,zg3,zg4,zg5,zg6,zg7,zg8,zg9,zh0,zh1,zh2,zh3,zh4,zh5,zh6,zh7,zh8,zh9,zi0,zi1,zi2,zi3,zi4,zi5,zi6,wSnil,zi7,zi8,zi9,zj0,zj1,zj2,zj3,zj4,zj5,zj6,zj7,zj8,AV.flatB,AV.flatBs,zj9,zk0,zk1,zk2,zk3,zk4,zk5,zk6,act,AV.cells,AV.mk,AV.asSl,AV.asInt,AV.vslOf,wIdx,zk7,zk8,zk9,zl0,zl1,zl2,zl3,st0,env0,zl4,zl5,zl6,Nat.reduceAdd,Nat.reduceEqDiff,Nat.reduceLeDiff,↓reduceIte,AV.ofV,unV,← decide_not,zl7,zl8,zl9,zm0,zm1,zm2,zm3,zm4,zm5,zm6,zm7,zm8,zm9,zn0,zn1,zn2,zn3,zn4,zn5,zn6,zn7,reduceCtorEq,rowsOf,pureCells,AV.weak,AV.pureB,AV.pureBs,zn8,zn9,zo0,zo1,zo2,Nat.reduceBEq,zo3,zo4,zo5,zo6,zo7,zo8,zo9,zp0,zp1]
      exact fun _ => ⟨fun hh => hh.elim q0 w33, w51, w61⟩
    · simp -implicitDefEqProofs only [e2,e3,e4,e6,e7,g2,g3,g4,hg6,h7,v2,v3,v4,v6,v7,PatchS.row,Item.row,fills,splice,zq7,zq8,zb0,za9,undefA,zq2,zq3,zq4,zq5,zq6,Envs,Gens,Vars,za0,za1,za2,za3,za4,eff,AV.ptrOf,AV.tokOf,za5,za6,AV.weaks,AV.weak1,za7,za8,zb1,zb2,zb3,zb4,zb5,zb6,zb7,zb8,zb9,zc0,zc1,zc2,zc3,zc4,zc5,zc6,zc7,zc8,zc9,zd0,zd1,zd2,zd3,zd4,zd5,zd6,zd7,zd8,zd9,ze0,ze1,ze2,ze3,ze4,ze5,ze6,ze7,ze8,ze9,zf0,zf1,zf2,zf3,zf4,zf5,zf6,zf7,zf8,zf9,zg0,zg1,zg2,zg3,zg4,zg5,zg6,zg7,zg8,zg9,zh0,zh1,zh2,zh3,zh4,zh5,zh6,zh7,zh8,zh9,zi0,zi1,zi2,zi3,zi4,zi5,zi6,wSnil,zi7,zi8,zi9,zj0,zj1,zj2,zj3,zj4,zj5,zj6,zj7,zj8,AV.flatB,AV.flatBs,zj9,zk0,zk1,zk2,zk3,zk4,zk5,zk6,act,AV.cells,AV.mk,AV.asSl,AV.asInt,AV.vslOf,wIdx,zk7,zk8,zk9,zl0,zl1,zl2,zl3,st0,env0,zl4,zl5,zl6,Nat.reduceAdd,Nat.reduceEqDiff,Nat.reduceLeDiff,↓reduceIte,AV.ofV,unV,← decide_not,zl7,zl8,zl9,zm0,zm1,zm2,zm3,zm4,zm5,zm6,zm7,zm8,zm9,zn0,zn1,zn2,zn3,zn4,zn5,zn6,zn7,reduceCtorEq,rowsOf,pureCells,AV.weak,AV.pureB,AV.pureBs,zn8,zn9,zo0,zo1,zo2,Nat.reduceBEq,zo3,zo4,zo5,zo6,zo7,zo8,zo9,zp0,zp1]
      exact fun h => absurd h1 h
  rintro ⟨e, g, v, tg, tp, x'⟩ ⟨⟨⟨e3, e4, e6, e7, -⟩, ⟨g3, g4, hg6, h7, -⟩, ⟨v3, v4, v6, v7, -⟩⟩, hok⟩
  simp only at e3 e4 e6 e7 g3 g4 hg6 h7 v3 v4 v6 v7
  refine AW_seq ?_
  simp -implicitDefEqProofs only [e3,e4,e6,e7,g3,g4,hg6,h7,v3,v4,v6,v7,PatchS.row,Item.row,fills,splice,zq7,zq8,zb0,za9,za0,za1,za2,za3,za4,eff,AV.ptrOf,AV.tokOf,za5,za6,AV.weaks,AV.weak1,za7,za8,zb1,zb2,zb3,zb4,zb5,zb6,zb7,zb8,zb9,zc0,zc1,zc2,zc3,zc4,zc5,zc6,zc7,zc8,zc9,zd0,zd1,zd2,zd3,zd4,zd5,zd6,zd7,zd8,zd9,ze0,ze1,ze2,ze3,ze4,ze5,ze6,ze7,ze8,ze9,zf0,zf1,zf2,zf3,zf4,zf5,zf6,zf7,zf8,zf9,zg0,zg1,zg2,zg3,zg4,zg5,zg6,zg7,zg8,zg9,zh0,zh1,zh2,zh3,zh4,zh5,zh6,zh7,zh8,zh9,zi0,zi1,zi2,zi3,zi4,zi5,zi6,wSnil,zi7,zi8,zi9,zj0,zj1,zj2,zj3,zj4,zj5,zj6,zj7,zj8,AV.flatB,AV.flatBs,zj9,zk0,zk1,zk2,zk3,zk4,zk5,zk6,act,AV.cells,AV.mk,AV.asSl,AV.asInt,AV.vslOf,wIdx,zk7,zk8,zk9,zl0,zl1,zl2,zl3,st0,env0,zl4,zl5,zl6,Nat.reduceAdd,Nat.reduceEqDiff,Nat.reduceLeDiff,↓reduceIte,AV.ofV,unV,← decide_not,zl7,zl8,zl9,zm0,zm1,zm2,zm3,zm4,zm5,zm6,zm7,zm8,zm9,zn0,zn1,zn2,zn3,zn4,zn5,zn6,zn7,reduceCtorEq,rowsOf,pureCells,AV.weak,AV.pureB,AV.pureBs,zn8,zn9,zo0,zo1,zo2,Nat.reduceBEq,zo3,zo4,zo5,zo6,zo7,zo8,zo9,zp0,zp1]
  have hne : p.kind ≠ 1 → ∃ (n : Nat) (a : Item), findS p.id l = n ∧ l[n]? = some a ∧ itemAt l p.id = a ∧ a.id = p.id ∧ Proper a := by
    intro h1
    obtain ⟨n, b1, b2, b3, b4⟩ := find_item (l := l) (id := p.id) (fun h => (hok h1).1 (.inl h))
    obtain ⟨os, hT⟩ := hv.tree
    exact ⟨n, _, b1, b2, rfl, b3, hT.proper _ b4⟩
  have hE : p.kind ≠ 1 → applyE l p = if p.kind = 2 then (if ¬ OnceP (textOf p.lang (itemAt l p.id)) p.old then 15 else if 400 < (swapT (textOf p.lang (itemAt l p.id)) p.old p.new).size then 2 else 0) else if p.kind = 4 then (if BadMove l p then 14 else 0) else if p.kind = 7 then (if 400 < p.item.north.size ∨ 400 < p.item.south.size then 2 else 0) else 0 := by
    intro h1
    obtain ⟨c1, c2, c3⟩ := hok h1
    rw [applyE, if_neg (by simp [hv, hf]), if_neg h1, if_neg c1, if_neg c2, if_neg c3]
  rcases hf.kinds with h | h | h | h | h | h | h
  · have hc := insert67_con L V W l p (findS p.id l) hv hid
    have e1 : applyE l p = insE l p (findS p.id l) := by rw [applyE, if_neg (by simp [hv, hf]), if_pos h]; rfl
    have e2 : applyL l p = if insE l p (findS p.id l) = 0 then putS l [p.item] p.parent p.after else [] := by
      rw [applyL, e1, if_pos h]
      by_cases h0 : insE l p (findS p.id l) = 0
      · rw [if_neg (by simp [h0]), if_pos h0]
      · rw [if_pos h0, if_neg h0]
    rw [← e2, ← e1] at hc
    have hk : p.kind.toNat * 1 = 1 := by rw [h]; rfl
    have hcv := CV_of (O := nul) (nt := (c_patch_Apply (T.getD · 0)).nt) (k := 0) (th := []) (fz := []) L.t_patch_change_insert (by have := L.len; omega) hc
    generalize hr : resC (applyL l p) (applyE l p) = r at hc hcv ⊢
    generalize hm : findS p.id l = m at hc hcv ⊢
    refine ⟨⟨by omega, by omega⟩, ⟨hg7, by omega⟩, ?_⟩
    simp -implicitDefEqProofs only [hk,zn1,zn2,zn0,zm9,za0,za1,za2,za3,za4,eff,AV.ptrOf,AV.tokOf,za5,za6,AV.weaks,AV.weak1,za7,za8,za9,zb0,zb1,zb2,zb3,zb4,zb5,zb6,zb7,zb8,zb9,zc0,zc1,zc2,zc3,zc4,zc5,zc6,zc7,zc8,zc9,zd0,zd1,zd2,zd3,zd4,zd5,zd6,zd7,zd8,zd9,ze0,ze1,ze2,ze3,ze4,ze5,ze6,ze7,ze8,ze9,zf0,zf1,zf2,zf3,zf4,zf5,zf6,zf7,zf8,zf9,zg0,zg1,zg2,zg3,zg4,zg5,zg6,zg7,zg8,zg9,zh0,zh1,zh2,zh3,zh4,zh5,zh6,zh7,zh8,zh9,zi0,zi1,zi2,zi3,zi4,zi5,zi6,wSnil,zi7,zi8,zi9,zj0,zj1,zj2,zj3,zj4,zj5,zj6,zj7,zj8,AV.flatB,AV.flatBs,zj9,zk0,zk1,zk2,zk3,zk4,zk5,zk6,act,AV.cells,AV.mk,AV.asSl,AV.asInt,AV.vslOf,wIdx,zk7,zk8,zk9,zl0,zl1,zl2,zl3,st0,env0,zl4,zl5,zl6,Nat.reduceAdd,Nat.reduceEqDiff,Nat.reduceLeDiff,↓reduceIte,AV.ofV,unV,← decide_not,zl7,zl8,zl9,zm0,zm1,zm2,zm3,zm4,zm5,zm6,zm7,zm8,zn3,zn4,zn5,zn6,zn7,reduceCtorEq,rowsOf,pureCells,AV.weak,AV.pureB,AV.pureBs,zn8,zn9,zo0,zo1,zo2,Nat.reduceBEq,zo3,zo4,zo5,zo6,zo7,zo8,zo9,zp0,zp1]
    refine ⟨hg1, wCallV_pure hcv (by rw [← hr]; rfl) rfl (AV.les2_refl _) ?_⟩
    subst hr
    simp -implicitDefEqProofs only [resC,e3,e4,e6,e7,g3,g4,hg6,h7,v3,v4,v6,v7,PatchS.row,Item.row,fills,splice,zq7,zq8,zb0,za9,za0,za1,za2,za3,za4,eff,AV.ptrOf,AV.tokOf,za5,za6,AV.weaks,AV.weak1,za7,za8,zb1,zb2,zb3,zb4,zb5,zb6,zb7,zb8,zb9,zc0,zc1,zc2,zc3,zc4,zc5,zc6,zc7,zc8,zc9,zd0,zd1,zd2,zd3,zd4,zd5,zd6,zd7,zd8,zd9,ze0,ze1,ze2,ze3,ze4,ze5,ze6,ze7,ze8,ze9,zf0,zf1,zf2,zf3,zf4,zf5,zf6,zf7,zf8,zf9,zg0,zg1,zg2,zg3,zg4,zg5,zg6,zg7,zg8,zg9,zh0,zh1,zh2,zh3,zh4,zh5,zh6,zh7,zh8,zh9,zi0,zi1,zi2,zi3,zi4,zi5,zi6,wSnil,zi7,zi8,zi9,zj0,zj1,zj2,zj3,zj4,zj5,zj6,zj7,zj8,AV.flatB,AV.flatBs,zj9,zk0,zk1,zk2,zk3,zk4,zk5,zk6,act,AV.cells,AV.mk,AV.asSl,AV.asInt,AV.vslOf,wIdx,zk7,zk8,zk9,zl0,zl1,zl2,zl3,st0,env0,zl4,zl5,zl6,Nat.reduceAdd,Nat.reduceEqDiff,Nat.reduceLeDiff,↓reduceIte,AV.ofV,unV,← decide_not,zl7,zl8,zl9,zm0,zm1,zm2,zm3,zm4,zm5,zm6,zm7,zm8,zm9,zn0,zn1,zn2,zn3,zn4,zn5,zn6,zn7,reduceCtorEq,rowsOf,pureCells,AV.weak,AV.pureB,AV.pureBs,zn8,zn9,zo0,zo1,zo2,Nat.reduceBEq,zo3,zo4,zo5,zo6,zo7,zo8,zo9,zp0,zp1]
    refine ⟨rfl, AW_code ?_⟩
    simp -implicitDefEqProofs only [c_patch_Apply,za0,za1,za2,za3,za4,eff,AV.ptrOf,AV.tokOf,za5,za6,AV.weaks,AV.weak1,za7,za8,za9,zb0,zb1,zb2,zb3,zb4,zb5,zb6,zb7,zb8,zb9,zc0,zc1,zc2,zc3,zc4,zc5,zc6,zc7,zc8,zc9,zd0,zd1,zd2,zd3,zd4,zd5,zd6,zd7,zd8,zd9,ze0,ze1,ze2,ze3,ze4,ze5,ze6,ze7,ze8,ze9,zf0,zf1,zf2,zf3,zf4,zf5,zf6,zf7,zf8,zf9,zg0,zg1,zg2,zg3,zg4,zg5,zg6,zg7,zg8,zg9,zh0,zh1,zh2,zh3,zh4,zh5,zh6,zh7,zh8,zh9,zi0,zi1,zi2,zi3,zi4,zi5,zi6,wSnil,zi7,zi8,zi9,zj0,zj1,zj2,zj3,zj4,zj5,zj6,zj7,zj8,AV.flatB,AV.flatBs,zj9,zk0,zk1,zk2,zk3,zk4,zk5,zk6,act,AV.cells,AV.mk,AV.asSl,AV.asInt,AV.vslOf,wIdx,zk7,zk8,zk9,zl0,zl1,zl2,zl3,st0,env0,zl4,zl5,zl6,Nat.reduceAdd,Nat.reduceEqDiff,Nat.reduceLeDiff,↓reduceIte,AV.ofV,unV,← decide_not,zl7,zl8,zl9,zm0,zm1,zm2,zm3,zm4,zm5,zm6,zm7,zm8,zm9,zn0,zn1,zn2,zn3,zn4,zn5,zn6,zn7,reduceCtorEq,rowsOf,pureCells,AV.weak,AV.pureB,AV.pureBs,zn8,zn9,zo0,zo1,zo2,Nat.reduceBEq,zo3,zo4,zo5,zo6,zo7,zo8,zo9,zp0,zp1]
    refine ends_ptr (d := 4) (q := 1) (off := 0) (by simp [upd, e4]) ⟨by simp [upd, g4], Nat.le_refl _, by simp [upd]⟩ (b := .agg [.sl 7 .ro ((applyL l p).map Item.row)]) (by simp [upd, AV.mk]) ?_
    exact resC_end
  · have h1 : p.kind ≠ 1 := by rw [h]; decide
    obtain ⟨n, a, b1, b2, b3, b4, b5⟩ := hne h1
    have hE' := hE h1
    rw [b3] at hE'
    have hL : applyE l p = 0 → p.kind ≠ 4 → applyL l p = l.set n (edit a p) := fun q q' => by
      rw [applyL, if_neg (by simp [q]), if_neg h1, if_neg q', b1, b3, Int.toNat_natCast]
    have hlang : p.lang = 1 ∨ p.lang = 2 := by
      rcases hf with hf | hf | hf | hf | hf | hf | hf
      · exact absurd hf.1 h1
      · exact hf.2.2.2
      all_goals (have := hf.1; omega)
    have hc := words68_con L V l p n a (by omega) b2 hlang (by have := b5.text p.lang; omega) hp.new hp.old
    have e1 : applyE l p = wordsE a p := by rw [hE', if_pos h]; rfl
    have e2 : applyL l p = if wordsE a p = 0 then l.set n (withText p.lang a (swapT (textOf p.lang a) p.old p.new)) else [] := by
      by_cases h0 : wordsE a p = 0
      · rw [hL (e1.trans h0) (by omega), if_pos h0, edit, if_pos h]
      · rw [applyL, e1, if_pos h0, if_neg h0]
    rw [← e2, ← e1, ← b1] at hc
    have hk : p.kind.toNat * 1 = 2 := by rw [h]; rfl
    have hcv := CV_of (O := nul) (nt := (c_patch_Apply (T.getD · 0)).nt) (k := 0) (th := []) (fz := []) L.t_patch_change_words (by have := L.len; omega) hc
    generalize hr : resC (applyL l p) (applyE l p) = r at hc hcv ⊢
    generalize hm : findS p.id l = m at hc hcv ⊢
    refine ⟨⟨by omega, by omega⟩, ⟨hg7, by omega⟩, ?_⟩
    simp -implicitDefEqProofs only [hk,zn1,zn2,zn0,zm9,za0,za1,za2,za3,za4,eff,AV.ptrOf,AV.tokOf,za5,za6,AV.weaks,AV.weak1,za7,za8,za9,zb0,zb1,zb2,zb3,zb4,zb5,zb6,zb7,zb8,zb9,zc0,zc1,zc2,zc3,zc4,zc5,zc6,zc7,zc8,zc9,zd0,zd1,zd2,zd3,zd4,zd5,zd6,zd7,zd8,zd9,ze0,ze1,ze2,ze3,ze4,ze5,ze6,ze7,ze8,ze9,zf0,zf1,zf2,zf3,zf4,zf5,zf6,zf7,zf8,zf9,zg0,zg1,zg2,zg3,zg4,zg5,zg6,zg7,zg8,zg9,zh0,zh1,zh2,zh3,zh4,zh5,zh6,zh7,zh8,zh9,zi0,zi1,zi2,zi3,zi4,zi5,zi6,wSnil,zi7,zi8,zi9,zj0,zj1,zj2,zj3,zj4,zj5,zj6,zj7,zj8,AV.flatB,AV.flatBs,zj9,zk0,zk1,zk2,zk3,zk4,zk5,zk6,act,AV.cells,AV.mk,AV.asSl,AV.asInt,AV.vslOf,wIdx,zk7,zk8,zk9,zl0,zl1,zl2,zl3,st0,env0,zl4,zl5,zl6,Nat.reduceAdd,Nat.reduceEqDiff,Nat.reduceLeDiff,↓reduceIte,AV.ofV,unV,← decide_not,zl7,zl8,zl9,zm0,zm1,zm2,zm3,zm4,zm5,zm6,zm7,zm8,zn3,zn4,zn5,zn6,zn7,reduceCtorEq,rowsOf,pureCells,AV.weak,AV.pureB,AV.pureBs,zn8,zn9,zo0,zo1,zo2,Nat.reduceBEq,zo3,zo4,zo5,zo6,zo7,zo8,zo9,zp0,zp1]
    refine ⟨hg1, wCallV_pure hcv (by rw [← hr]; rfl) rfl (AV.les2_refl _) ?_⟩
    subst hr
    simp -implicitDefEqProofs only [resC,e3,e4,e6,e7,g3,g4,hg6,h7,v3,v4,v6,v7,PatchS.row,Item.row,fills,splice,zq7,zq8,zb0,za9,za0,za1,za2,za3,za4,eff,AV.ptrOf,AV.tokOf,za5,za6,AV.weaks,AV.weak1,za7,za8,zb1,zb2,zb3,zb4,zb5,zb6,zb7,zb8,zb9,zc0,zc1,zc2,zc3,zc4,zc5,zc6,zc7,zc8,zc9,zd0,zd1,zd2,zd3,zd4,zd5,zd6,zd7,zd8,zd9,ze0,ze1,ze2,ze3,ze4,ze5,ze6,ze7,ze8,ze9,zf0,zf1,zf2,zf3,zf4,zf5,zf6,zf7,zf8,zf9,zg0,zg1,zg2,zg3,zg4,zg5,zg6,zg7,zg8,zg9,zh0,zh1,zh2,zh3,zh4,zh5,zh6,zh7,zh8,zh9,zi0,zi1,zi2,zi3,zi4,zi5,zi6,wSnil,zi7,zi8,zi9,zj0,zj1,zj2,zj3,zj4,zj5,zj6,zj7,zj8,AV.flatB,AV.flatBs,zj9,zk0,zk1,zk2,zk3,zk4,zk5,zk6,act,AV.cells,AV.mk,AV.asSl,AV.asInt,AV.vslOf,wIdx,zk7,zk8,zk9,zl0,zl1,zl2,zl3,st0,env0,zl4,zl5,zl6,Nat.reduceAdd,Nat.reduceEqDiff,Nat.reduceLeDiff,↓reduceIte,AV.ofV,unV,← decide_not,zl7,zl8,zl9,zm0,zm1,zm2,zm3,zm4,zm5,zm6,zm7,zm8,zm9,zn0,zn1,zn2,zn3,zn4,zn5,zn6,zn7,reduceCtorEq,rowsOf,pureCells,AV.weak,AV.pureB,AV.pureBs,zn8,zn9,zo0,zo1,zo2,Nat.reduceBEq,zo3,zo4,zo5,zo6,zo7,zo8,zo9,zp0,zp1]
    refine ⟨rfl, AW_code ?_⟩
    simp -implicitDefEqProofs only [c_patch_Apply,za0,za1,za2,za3,za4,eff,AV.ptrOf,AV.tokOf,za5,za6,AV.weaks,AV.weak1,za7,za8,za9,zb0,zb1,zb2,zb3,zb4,zb5,zb6,zb7,zb8,zb9,zc0,zc1,zc2,zc3,zc4,zc5,zc6,zc7,zc8,zc9,zd0,zd1,zd2,zd3,zd4,zd5,zd6,zd7,zd8,zd9,ze0,ze1,ze2,ze3,ze4,ze5,ze6,ze7,ze8,ze9,zf0,zf1,zf2,zf3,zf4,zf5,zf6,zf7,zf8,zf9,zg0,zg1,zg2,zg3,zg4,zg5,zg6,zg7,zg8,zg9,zh0,zh1,zh2,zh3,zh4,zh5,zh6,zh7,zh8,zh9,zi0,zi1,zi2,zi3,zi4,zi5,zi6,wSnil,zi7,zi8,zi9,zj0,zj1,zj2,zj3,zj4,zj5,zj6,zj7,zj8,AV.flatB,AV.flatBs,zj9,zk0,zk1,zk2,zk3,zk4,zk5,zk6,act,AV.cells,AV.mk,AV.asSl,AV.asInt,AV.vslOf,wIdx,zk7,zk8,zk9,zl0,zl1,zl2,zl3,st0,env0,zl4,zl5,zl6,Nat.reduceAdd,Nat.reduceEqDiff,Nat.reduceLeDiff,↓reduceIte,AV.ofV,unV,← decide_not,zl7,zl8,zl9,zm0,zm1,zm2,zm3,zm4,zm5,zm6,zm7,zm8,zm9,zn0,zn1,zn2,zn3,zn4,zn5,zn6,zn7,reduceCtorEq,rowsOf,pureCells,AV.weak,AV.pureB,AV.pureBs,zn8,zn9,zo0,zo1,zo2,Nat.reduceBEq,zo3,zo4,zo5,zo6,zo7,zo8,zo9,zp0,zp1]
    refine ends_ptr (d := 4) (q := 1) (off := 0) (by simp [upd, e4]) ⟨by simp [upd, g4], Nat.le_refl _, by simp [upd]⟩ (b := .agg [.sl 7 .ro ((applyL l p).map Item.row)]) (by simp [upd, AV.mk]) ?_
    exact resC_end
  · have h1 : p.kind ≠ 1 := by rw [h]; decide
    obtain ⟨n, a, b1, b2, b3, b4, b5⟩ := hne h1
    have hE' := hE h1
    rw [b3] at hE'
    have hL : applyE l p = 0 → p.kind ≠ 4 → applyL l p = l.set n (edit a p) := fun q q' => by
      rw [applyL, if_neg (by simp [q]), if_neg h1, if_neg q', b1, b3, Int.toNat_natCast]
    have hc := number69_con L l p n a (by omega) b2
    have e1 : applyE l p = 0 := by rw [hE', if_neg (by omega), if_neg (by omega), if_neg (by omega)]
    have e2 : applyL l p = l.set n { a with number := p.number } := by
      rw [hL e1 (by omega), edit, if_neg (by omega), if_pos h]
    have hc : Con P T 69 [chg l p n] (resC (applyL l p) (applyE l p)) := by rw [e1, e2]; exact hc
    rw [← b1] at hc
    have hk : p.kind.toNat * 1 = 3 := by rw [h]; rfl
    have hcv := CV_of (O := nul) (nt := (c_patch_Apply (T.getD · 0)).nt) (k := 0) (th := []) (fz := []) L.t_patch_change_number (by have := L.len; omega) hc
    generalize hr : resC (applyL l p) (applyE l p) = r at hc hcv ⊢
    generalize hm : findS p.id l = m at hc hcv ⊢
    refine ⟨⟨by omega, by omega⟩, ⟨hg7, by omega⟩, ?_⟩
    simp -implicitDefEqProofs only [hk,zn1,zn2,zn0,zm9,za0,za1,za2,za3,za4,eff,AV.ptrOf,AV.tokOf,za5,za6,AV.weaks,AV.weak1,za7,za8,za9,zb0,zb1,zb2,zb3,zb4,zb5,zb6,zb7,zb8,zb9,zc0,zc1,zc2,zc3,zc4,zc5,zc6,zc7,zc8,zc9,zd0,zd1,zd2,zd3,zd4,zd5,zd6,zd7,zd8,zd9,ze0,ze1,ze2,ze3,ze4,ze5,ze6,ze7,ze8,ze9,zf0,zf1,zf2,zf3,zf4,zf5,zf6,zf7,zf8,zf9,zg0,zg1,zg2,zg3,zg4,zg5,zg6,zg7,zg8,zg9,zh0,zh1,zh2,zh3,zh4,zh5,zh6,zh7,zh8,zh9,zi0,zi1,zi2,zi3,zi4,zi5,zi6,wSnil,zi7,zi8,zi9,zj0,zj1,zj2,zj3,zj4,zj5,zj6,zj7,zj8,AV.flatB,AV.flatBs,zj9,zk0,zk1,zk2,zk3,zk4,zk5,zk6,act,AV.cells,AV.mk,AV.asSl,AV.asInt,AV.vslOf,wIdx,zk7,zk8,zk9,zl0,zl1,zl2,zl3,st0,env0,zl4,zl5,zl6,Nat.reduceAdd,Nat.reduceEqDiff,Nat.reduceLeDiff,↓reduceIte,AV.ofV,unV,← decide_not,zl7,zl8,zl9,zm0,zm1,zm2,zm3,zm4,zm5,zm6,zm7,zm8,zn3,zn4,zn5,zn6,zn7,reduceCtorEq,rowsOf,pureCells,AV.weak,AV.pureB,AV.pureBs,zn8,zn9,zo0,zo1,zo2,Nat.reduceBEq,zo3,zo4,zo5,zo6,zo7,zo8,zo9,zp0,zp1]
    refine ⟨hg1, wCallV_pure hcv (by rw [← hr]; rfl) rfl (AV.les2_refl _) ?_⟩
    subst hr
    simp -implicitDefEqProofs only [resC,e3,e4,e6,e7,g3,g4,hg6,h7,v3,v4,v6,v7,PatchS.row,Item.row,fills,splice,zq7,zq8,zb0,za9,za0,za1,za2,za3,za4,eff,AV.ptrOf,AV.tokOf,za5,za6,AV.weaks,AV.weak1,za7,za8,zb1,zb2,zb3,zb4,zb5,zb6,zb7,zb8,zb9,zc0,zc1,zc2,zc3,zc4,zc5,zc6,zc7,zc8,zc9,zd0,zd1,zd2,zd3,zd4,zd5,zd6,zd7,zd8,zd9,ze0,ze1,ze2,ze3,ze4,ze5,ze6,ze7,ze8,ze9,zf0,zf1,zf2,zf3,zf4,zf5,zf6,zf7,zf8,zf9,zg0,zg1,zg2,zg3,zg4,zg5,zg6,zg7,zg8,zg9,zh0,zh1,zh2,zh3,zh4,zh5,zh6,zh7,zh8,zh9,zi0,zi1,zi2,zi3,zi4,zi5,zi6,wSnil,zi7,zi8,zi9,zj0,zj1,zj2,zj3,zj4,zj5,zj6,zj7,zj8,AV.flatB,AV.flatBs,zj9,zk0,zk1,zk2,zk3,zk4,zk5,zk6,act,AV.cells,AV.mk,AV.asSl,AV.asInt,AV.vslOf,wIdx,zk7,zk8,zk9,zl0,zl1,zl2,zl3,st0,env0,zl4,zl5,zl6,Nat.reduceAdd,Nat.reduceEqDiff,Nat.reduceLeDiff,↓reduceIte,AV.ofV,unV,← decide_not,zl7,zl8,zl9,zm0,zm1,zm2,zm3,zm4,zm5,zm6,zm7,zm8,zm9,zn0,zn1,zn2,zn3,zn4,zn5,zn6,zn7,reduceCtorEq,rowsOf,pureCells,AV.weak,AV.pureB,AV.pureBs,zn8,zn9,zo0,zo1,zo2,Nat.reduceBEq,zo3,zo4,zo5,zo6,zo7,zo8,zo9,zp0,zp1]
    refine ⟨rfl, AW_code ?_⟩
    simp -implicitDefEqProofs only [c_patch_Apply,za0,za1,za2,za3,za4,eff,AV.ptrOf,AV.tokOf,za5,za6,AV.weaks,AV.weak1,za7,za8,za9,zb0,zb1,zb2,zb3,zb4,zb5,zb6,zb7,zb8,zb9,zc0,zc1,zc2,zc3,zc4,zc5,zc6,zc7,zc8,zc9,zd0,zd1,zd2,zd3,zd4,zd5,zd6,zd7,zd8,zd9,ze0,ze1,ze2,ze3,ze4,ze5,ze6,ze7,ze8,ze9,zf0,zf1,zf2,zf3,zf4,zf5,zf6,zf7,zf8,zf9,zg0,zg1,zg2,zg3,zg4,zg5,zg6,zg7,zg8,zg9,zh0,zh1,zh2,zh3,zh4,zh5,zh6,zh7,zh8,zh9,zi0,zi1,zi2,zi3,zi4,zi5,zi6,wSnil,zi7,zi8,zi9,zj0,zj1,zj2,zj3,zj4,zj5,zj6,zj7,zj8,AV.flatB,AV.flatBs,zj9,zk0,zk1,zk2,zk3,zk4,zk5,zk6,act,AV.cells,AV.mk,AV.asSl,AV.asInt,AV.vslOf,wIdx,zk7,zk8,zk9,zl0,zl1,zl2,zl3,st0,env0,zl4,zl5,zl6,Nat.reduceAdd,Nat.reduceEqDiff,Nat.reduceLeDiff,↓reduceIte,AV.ofV,unV,← decide_not,zl7,zl8,zl9,zm0,zm1,zm2,zm3,zm4,zm5,zm6,zm7,zm8,zm9,zn0,zn1,zn2,zn3,zn4,zn5,zn6,zn7,reduceCtorEq,rowsOf,pureCells,AV.weak,AV.pureB,AV.pureBs,zn8,zn9,zo0,zo1,zo2,Nat.reduceBEq,zo3,zo4,zo5,zo6,zo7,zo8,zo9,zp0,zp1]
    refine ends_ptr (d := 4) (q := 1) (off := 0) (by simp [upd, e4]) ⟨by simp [upd, g4], Nat.le_refl _, by simp [upd]⟩ (b := .agg [.sl 7 .ro ((applyL l p).map Item.row)]) (by simp [upd, AV.mk]) ?_
    exact resC_end
  · have h1 : p.kind ≠ 1 := by rw [h]; decide
    obtain ⟨n, a, b1, b2, b3, b4, b5⟩ := hne h1
    have hE' := hE h1
    rw [b3] at hE'
    have hL : applyE l p = 0 → p.kind ≠ 4 → applyL l p = l.set n (edit a p) := fun q q' => by
      rw [applyL, if_neg (by simp [q]), if_neg h1, if_neg q', b1, b3, Int.toNat_natCast]
    have hc := move70_con L V W W2 l p n a hv hid b2 b4
    have e1 : applyE l p = if BadMove l p then 14 else 0 := by rw [hE', if_neg (by omega), if_pos h]
    have e2 : applyL l p = if BadMove l p then [] else moveS l p := by
      rw [applyL, e1]
      by_cases h0 : BadMove l p
      · rw [if_pos h0, if_pos h0, if_pos (by decide)]
      · rw [if_neg h0, if_neg h0, if_neg (by decide), if_neg h1, if_pos h]
    rw [← e2, ← e1, ← b1] at hc
    have hk : p.kind.toNat * 1 = 4 := by rw [h]; rfl
    have hcv := CV_of (O := nul) (nt := (c_patch_Apply (T.getD · 0)).nt) (k := 0) (th := []) (fz := []) L.t_patch_change_move (by have := L.len; omega) hc
    generalize hr : resC (applyL l p) (applyE l p) = r at hc hcv ⊢
    generalize hm : findS p.id l = m at hc hcv ⊢
    refine ⟨⟨by omega, by omega⟩, ⟨hg7, by omega⟩, ?_⟩
    simp -implicitDefEqProofs only [hk,zn1,zn2,zn0,zm9,za0,za1,za2,za3,za4,eff,AV.ptrOf,AV.tokOf,za5,za6,AV.weaks,AV.weak1,za7,za8,za9,zb0,zb1,zb2,zb3,zb4,zb5,zb6,zb7,zb8,zb9,zc0,zc1,zc2,zc3,zc4,zc5,zc6,zc7,zc8,zc9,zd0,zd1,zd2,zd3,zd4,zd5,zd6,zd7,zd8,zd9,ze0,ze1,ze2,ze3,ze4,ze5,ze6,ze7,ze8,ze9,zf0,zf1,zf2,zf3,zf4,zf5,zf6,zf7,zf8,zf9,zg0,zg1,zg2,zg3,zg4,zg5,zg6,zg7,zg8,zg9,zh0,zh1,zh2,zh3,zh4,zh5,zh6,zh7,zh8,zh9,zi0,zi1,zi2,zi3,zi4,zi5,zi6,wSnil,zi7,zi8,zi9,zj0,zj1,zj2,zj3,zj4,zj5,zj6,zj7,zj8,AV.flatB,AV.flatBs,zj9,zk0,zk1,zk2,zk3,zk4,zk5,zk6,act,AV.cells,AV.mk,AV.asSl,AV.asInt,AV.vslOf,wIdx,zk7,zk8,zk9,zl0,zl1,zl2,zl3,st0,env0,zl4,zl5,zl6,Nat.reduceAdd,Nat.reduceEqDiff,Nat.reduceLeDiff,↓reduceIte,AV.ofV,unV,← decide_not,zl7,zl8,zl9,zm0,zm1,zm2,zm3,zm4,zm5,zm6,zm7,zm8,zn3,zn4,zn5,zn6,zn7,reduceCtorEq,rowsOf,pureCells,AV.weak,AV.pureB,AV.pureBs,zn8,zn9,zo0,zo1,zo2,Nat.reduceBEq,zo3,zo4,zo5,zo6,zo7,zo8,zo9,zp0,zp1]
    refine ⟨hg1, wCallV_pure hcv (by rw [← hr]; rfl) rfl (AV.les2_refl _) ?_⟩
    subst hr
    simp -implicitDefEqProofs only [resC,e3,e4,e6,e7,g3,g4,hg6,h7,v3,v4,v6,v7,PatchS.row,Item.row,fills,splice,zq7,zq8,zb0,za9,za0,za1,za2,za3,za4,eff,AV.ptrOf,AV.tokOf,za5,za6,AV.weaks,AV.weak1,za7,za8,zb1,zb2,zb3,zb4,zb5,zb6,zb7,zb8,zb9,zc0,zc1,zc2,zc3,zc4,zc5,zc6,zc7,zc8,zc9,zd0,zd1,zd2,zd3,zd4,zd5,zd6,zd7,zd8,zd9,ze0,ze1,ze2,ze3,ze4,ze5,ze6,ze7,ze8,ze9,zf0,zf1,zf2,zf3,zf4,zf5,zf6,zf7,zf8,zf9,zg0,zg1,zg2,zg3,zg4,zg5,zg6,zg7,zg8,zg9,zh0,zh1,zh2,zh3,zh4,zh5,zh6,zh7,zh8,zh9,zi0,zi1,zi2,zi3,zi4,zi5,zi6,wSnil,zi7,zi8,zi9,zj0,zj1,zj2,zj3,zj4,zj5,zj6,zj7,zj8,AV.flatB,AV.flatBs,zj9,zk0,zk1,zk2,zk3,zk4,zk5,zk6,act,AV.cells,AV.mk,AV.asSl,AV.asInt,AV.vslOf,wIdx,zk7,zk8,zk9,zl0,zl1,zl2,zl3,st0,env0,zl4,zl5,zl6,Nat.reduceAdd,Nat.reduceEqDiff,Nat.reduceLeDiff,↓reduceIte,AV.ofV,unV,← decide_not,zl7,zl8,zl9,zm0,zm1,zm2,zm3,zm4,zm5,zm6,zm7,zm8,zm9,zn0,zn1,zn2,zn3,zn4,zn5,zn6,zn7,reduceCtorEq,rowsOf,pureCells,AV.weak,AV.pureB,AV.pureBs,zn8,zn9,zo0,zo1,zo2,Nat.reduceBEq,zo3,zo4,zo5,zo6,zo7,zo8,zo9,zp0,zp1]
    refine ⟨rfl, AW_code ?_⟩
    simp -implicitDefEqProofs only [c_patch_Apply,za0,za1,za2,za3,za4,eff,AV.ptrOf,AV.tokOf,za5,za6,AV.weaks,AV.weak1,za7,za8,za9,zb0,zb1,zb2,zb3,zb4,zb5,zb6,zb7,zb8,zb9,zc0,zc1,zc2,zc3,zc4,zc5,zc6,zc7,zc8,zc9,zd0,zd1,zd2,zd3,zd4,zd5,zd6,zd7,zd8,zd9,ze0,ze1,ze2,ze3,ze4,ze5,ze6,ze7,ze8,ze9,zf0,zf1,zf2,zf3,zf4,zf5,zf6,zf7,zf8,zf9,zg0,zg1,zg2,zg3,zg4,zg5,zg6,zg7,zg8,zg9,zh0,zh1,zh2,zh3,zh4,zh5,zh6,zh7,zh8,zh9,zi0,zi1,zi2,zi3,zi4,zi5,zi6,wSnil,zi7,zi8,zi9,zj0,zj1,zj2,zj3,zj4,zj5,zj6,zj7,zj8,AV.flatB,AV.flatBs,zj9,zk0,zk1,zk2,zk3,zk4,zk5,zk6,act,AV.cells,AV.mk,AV.asSl,AV.asInt,AV.vslOf,wIdx,zk7,zk8,zk9,zl0,zl1,zl2,zl3,st0,env0,zl4,zl5,zl6,Nat.reduceAdd,Nat.reduceEqDiff,Nat.reduceLeDiff,↓reduceIte,AV.ofV,unV,← decide_not,zl7,zl8,zl9,zm0,zm1,zm2,zm3,zm4,zm5,zm6,zm7,zm8,zm9,zn0,zn1,zn2,zn3,zn4,zn5,zn6,zn7,reduceCtorEq,rowsOf,pureCells,AV.weak,AV.pureB,AV.pureBs,zn8,zn9,zo0,zo1,zo2,Nat.reduceBEq,zo3,zo4,zo5,zo6,zo7,zo8,zo9,zp0,zp1]
    refine ends_ptr (d := 4) (q := 1) (off := 0) (by simp [upd, e4]) ⟨by simp [upd, g4], Nat.le_refl _, by simp [upd]⟩ (b := .agg [.sl 7 .ro ((applyL l p).map Item.row)]) (by simp [upd, AV.mk]) ?_
    exact resC_end
  · have h1 : p.kind ≠ 1 := by rw [h]; decide
    obtain ⟨n, a, b1, b2, b3, b4, b5⟩ := hne h1
    have hE' := hE h1
    rw [b3] at hE'
    have hL : applyE l p = 0 → p.kind ≠ 4 → applyL l p = l.set n (edit a p) := fun q q' => by
      rw [applyL, if_neg (by simp [q]), if_neg h1, if_neg q', b1, b3, Int.toNat_natCast]
    have hc := gone71_con L l p n a (by omega) b2
    have e1 : applyE l p = 0 := by rw [hE', if_neg (by omega), if_neg (by omega), if_neg (by omega)]
    have e2 : applyL l p = l.set n { a with gone := decide (p.kind = 5) } := by
      rw [hL e1 (by omega), edit, if_neg (by omega), if_neg (by omega)]
      simp [h]
    have hc : Con P T 71 [chg l p n] (resC (applyL l p) (applyE l p)) := by rw [e1, e2]; exact hc
    rw [← b1] at hc
    have hk : p.kind.toNat * 1 = 5 := by rw [h]; rfl
    have hcv := CV_of (O := nul) (nt := (c_patch_Apply (T.getD · 0)).nt) (k := 0) (th := []) (fz := []) L.t_patch_change_gone (by have := L.len; omega) hc
    generalize hr : resC (applyL l p) (applyE l p) = r at hc hcv ⊢
    generalize hm : findS p.id l = m at hc hcv ⊢
    refine ⟨⟨by omega, by omega⟩, ⟨hg7, by omega⟩, ?_⟩
    simp -implicitDefEqProofs only [hk,zn1,zn2,zn0,zm9,za0,za1,za2,za3,za4,eff,AV.ptrOf,AV.tokOf,za5,za6,AV.weaks,AV.weak1,za7,za8,za9,zb0,zb1,zb2,zb3,zb4,zb5,zb6,zb7,zb8,zb9,zc0,zc1,zc2,zc3,zc4,zc5,zc6,zc7,zc8,zc9,zd0,zd1,zd2,zd3,zd4,zd5,zd6,zd7,zd8,zd9,ze0,ze1,ze2,ze3,ze4,ze5,ze6,ze7,ze8,ze9,zf0,zf1,zf2,zf3,zf4,zf5,zf6,zf7,zf8,zf9,zg0,zg1,zg2,zg3,zg4,zg5,zg6,zg7,zg8,zg9,zh0,zh1,zh2,zh3,zh4,zh5,zh6,zh7,zh8,zh9,zi0,zi1,zi2,zi3,zi4,zi5,zi6,wSnil,zi7,zi8,zi9,zj0,zj1,zj2,zj3,zj4,zj5,zj6,zj7,zj8,AV.flatB,AV.flatBs,zj9,zk0,zk1,zk2,zk3,zk4,zk5,zk6,act,AV.cells,AV.mk,AV.asSl,AV.asInt,AV.vslOf,wIdx,zk7,zk8,zk9,zl0,zl1,zl2,zl3,st0,env0,zl4,zl5,zl6,Nat.reduceAdd,Nat.reduceEqDiff,Nat.reduceLeDiff,↓reduceIte,AV.ofV,unV,← decide_not,zl7,zl8,zl9,zm0,zm1,zm2,zm3,zm4,zm5,zm6,zm7,zm8,zn3,zn4,zn5,zn6,zn7,reduceCtorEq,rowsOf,pureCells,AV.weak,AV.pureB,AV.pureBs,zn8,zn9,zo0,zo1,zo2,Nat.reduceBEq,zo3,zo4,zo5,zo6,zo7,zo8,zo9,zp0,zp1]
    refine ⟨hg1, wCallV_pure hcv (by rw [← hr]; rfl) rfl (AV.les2_refl _) ?_⟩
    subst hr
    simp -implicitDefEqProofs only [resC,e3,e4,e6,e7,g3,g4,hg6,h7,v3,v4,v6,v7,PatchS.row,Item.row,fills,splice,zq7,zq8,zb0,za9,za0,za1,za2,za3,za4,eff,AV.ptrOf,AV.tokOf,za5,za6,AV.weaks,AV.weak1,za7,za8,zb1,zb2,zb3,zb4,zb5,zb6,zb7,zb8,zb9,zc0,zc1,zc2,zc3,zc4,zc5,zc6,zc7,zc8,zc9,zd0,zd1,zd2,zd3,zd4,zd5,zd6,zd7,zd8,zd9,ze0,ze1,ze2,ze3,ze4,ze5,ze6,ze7,ze8,ze9,zf0,zf1,zf2,zf3,zf4,zf5,zf6,zf7,zf8,zf9,zg0,zg1,zg2,zg3,zg4,zg5,zg6,zg7,zg8,zg9,zh0,zh1,zh2,zh3,zh4,zh5,zh6,zh7,zh8,zh9,zi0,zi1,zi2,zi3,zi4,zi5,zi6,wSnil,zi7,zi8,zi9,zj0,zj1,zj2,zj3,zj4,zj5,zj6,zj7,zj8,AV.flatB,AV.flatBs,zj9,zk0,zk1,zk2,zk3,zk4,zk5,zk6,act,AV.cells,AV.mk,AV.asSl,AV.asInt,AV.vslOf,wIdx,zk7,zk8,zk9,zl0,zl1,zl2,zl3,st0,env0,zl4,zl5,zl6,Nat.reduceAdd,Nat.reduceEqDiff,Nat.reduceLeDiff,↓reduceIte,AV.ofV,unV,← decide_not,zl7,zl8,zl9,zm0,zm1,zm2,zm3,zm4,zm5,zm6,zm7,zm8,zm9,zn0,zn1,zn2,zn3,zn4,zn5,zn6,zn7,reduceCtorEq,rowsOf,pureCells,AV.weak,AV.pureB,AV.pureBs,zn8,zn9,zo0,zo1,zo2,Nat.reduceBEq,zo3,zo4,zo5,zo6,zo7,zo8,zo9,zp0,zp1]
    refine ⟨rfl, AW_code ?_⟩
    simp -implicitDefEqProofs only [c_patch_Apply,za0,za1,za2,za3,za4,eff,AV.ptrOf,AV.tokOf,za5,za6,AV.weaks,AV.weak1,za7,za8,za9,zb0,zb1,zb2,zb3,zb4,zb5,zb6,zb7,zb8,zb9,zc0,zc1,zc2,zc3,zc4,zc5,zc6,zc7,zc8,zc9,zd0,zd1,zd2,zd3,zd4,zd5,zd6,zd7,zd8,zd9,ze0,ze1,ze2,ze3,ze4,ze5,ze6,ze7,ze8,ze9,zf0,zf1,zf2,zf3,zf4,zf5,zf6,zf7,zf8,zf9,zg0,zg1,zg2,zg3,zg4,zg5,zg6,zg7,zg8,zg9,zh0,zh1,zh2,zh3,zh4,zh5,zh6,zh7,zh8,zh9,zi0,zi1,zi2,zi3,zi4,zi5,zi6,wSnil,zi7,zi8,zi9,zj0,zj1,zj2,zj3,zj4,zj5,zj6,zj7,zj8,AV.flatB,AV.flatBs,zj9,zk0,zk1,zk2,zk3,zk4,zk5,zk6,act,AV.cells,AV.mk,AV.asSl,AV.asInt,AV.vslOf,wIdx,zk7,zk8,zk9,zl0,zl1,zl2,zl3,st0,env0,zl4,zl5,zl6,Nat.reduceAdd,Nat.reduceEqDiff,Nat.reduceLeDiff,↓reduceIte,AV.ofV,unV,← decide_not,zl7,zl8,zl9,zm0,zm1,zm2,zm3,zm4,zm5,zm6,zm7,zm8,zm9,zn0,zn1,zn2,zn3,zn4,zn5,zn6,zn7,reduceCtorEq,rowsOf,pureCells,AV.weak,AV.pureB,AV.pureBs,zn8,zn9,zo0,zo1,zo2,Nat.reduceBEq,zo3,zo4,zo5,zo6,zo7,zo8,zo9,zp0,zp1]
    refine ends_ptr (d := 4) (q := 1) (off := 0) (by simp [upd, e4]) ⟨by simp [upd, g4], Nat.le_refl _, by simp [upd]⟩ (b := .agg [.sl 7 .ro ((applyL l p).map Item.row)]) (by simp [upd, AV.mk]) ?_
    exact resC_end
  · have h1 : p.kind ≠ 1 := by rw [h]; decide
    obtain ⟨n, a, b1, b2, b3, b4, b5⟩ := hne h1
    have hE' := hE h1
    rw [b3] at hE'
    have hL : applyE l p = 0 → p.kind ≠ 4 → applyL l p = l.set n (edit a p) := fun q q' => by
      rw [applyL, if_neg (by simp [q]), if_neg h1, if_neg q', b1, b3, Int.toNat_natCast]
    have hc := gone71_con L l p n a (by omega) b2
    have e1 : applyE l p = 0 := by rw [hE', if_neg (by omega), if_neg (by omega), if_neg (by omega)]
    have e2 : applyL l p = l.set n { a with gone := decide (p.kind = 5) } := by
      rw [hL e1 (by omega), edit, if_neg (by omega), if_neg (by omega)]
      simp [h]
    have hc : Con P T 71 [chg l p n] (resC (applyL l p) (applyE l p)) := by rw [e1, e2]; exact hc
    rw [← b1] at hc
    have hk : p.kind.toNat * 1 = 6 := by rw [h]; rfl
    have hcv := CV_of (O := nul) (nt := (c_patch_Apply (T.getD · 0)).nt) (k := 0) (th := []) (fz := []) L.t_patch_change_gone (by have := L.len; omega) hc
    generalize hr : resC (applyL l p) (applyE l p) = r at hc hcv ⊢
    generalize hm : findS p.id l = m at hc hcv ⊢
    refine ⟨⟨by omega, by omega⟩, ⟨hg7, by omega⟩, ?_⟩
    simp -implicitDefEqProofs only [hk,zn1,zn2,zn0,zm9,za0,za1,za2,za3,za4,eff,AV.ptrOf,AV.tokOf,za5,za6,AV.weaks,AV.weak1,za7,za8,za9,zb0,zb1,zb2,zb3,zb4,zb5,zb6,zb7,zb8,zb9,zc0,zc1,zc2,zc3,zc4,zc5,zc6,zc7,zc8,zc9,zd0,zd1,zd2,zd3,zd4,zd5,zd6,zd7,zd8,zd9,ze0,ze1,ze2,ze3,ze4,ze5,ze6,ze7,ze8,ze9,zf0,zf1,zf2,zf3,zf4,zf5,zf6,zf7,zf8,zf9,zg0,zg1,zg2,zg3,zg4,zg5,zg6,zg7,zg8,zg9,zh0,zh1,zh2,zh3,zh4,zh5,zh6,zh7,zh8,zh9,zi0,zi1,zi2,zi3,zi4,zi5,zi6,wSnil,zi7,zi8,zi9,zj0,zj1,zj2,zj3,zj4,zj5,zj6,zj7,zj8,AV.flatB,AV.flatBs,zj9,zk0,zk1,zk2,zk3,zk4,zk5,zk6,act,AV.cells,AV.mk,AV.asSl,AV.asInt,AV.vslOf,wIdx,zk7,zk8,zk9,zl0,zl1,zl2,zl3,st0,env0,zl4,zl5,zl6,Nat.reduceAdd,Nat.reduceEqDiff,Nat.reduceLeDiff,↓reduceIte,AV.ofV,unV,← decide_not,zl7,zl8,zl9,zm0,zm1,zm2,zm3,zm4,zm5,zm6,zm7,zm8,zn3,zn4,zn5,zn6,zn7,reduceCtorEq,rowsOf,pureCells,AV.weak,AV.pureB,AV.pureBs,zn8,zn9,zo0,zo1,zo2,Nat.reduceBEq,zo3,zo4,zo5,zo6,zo7,zo8,zo9,zp0,zp1]
    refine ⟨hg1, wCallV_pure hcv (by rw [← hr]; rfl) rfl (AV.les2_refl _) ?_⟩
    subst hr
    simp -implicitDefEqProofs only [resC,e3,e4,e6,e7,g3,g4,hg6,h7,v3,v4,v6,v7,PatchS.row,Item.row,fills,splice,zq7,zq8,zb0,za9,za0,za1,za2,za3,za4,eff,AV.ptrOf,AV.tokOf,za5,za6,AV.weaks,AV.weak1,za7,za8,zb1,zb2,zb3,zb4,zb5,zb6,zb7,zb8,zb9,zc0,zc1,zc2,zc3,zc4,zc5,zc6,zc7,zc8,zc9,zd0,zd1,zd2,zd3,zd4,zd5,zd6,zd7,zd8,zd9,ze0,ze1,ze2,ze3,ze4,ze5,ze6,ze7,ze8,ze9,zf0,zf1,zf2,zf3,zf4,zf5,zf6,zf7,zf8,zf9,zg0,zg1,zg2,zg3,zg4,zg5,zg6,zg7,zg8,zg9,zh0,zh1,zh2,zh3,zh4,zh5,zh6,zh7,zh8,zh9,zi0,zi1,zi2,zi3,zi4,zi5,zi6,wSnil,zi7,zi8,zi9,zj0,zj1,zj2,zj3,zj4,zj5,zj6,zj7,zj8,AV.flatB,AV.flatBs,zj9,zk0,zk1,zk2,zk3,zk4,zk5,zk6,act,AV.cells,AV.mk,AV.asSl,AV.asInt,AV.vslOf,wIdx,zk7,zk8,zk9,zl0,zl1,zl2,zl3,st0,env0,zl4,zl5,zl6,Nat.reduceAdd,Nat.reduceEqDiff,Nat.reduceLeDiff,↓reduceIte,AV.ofV,unV,← decide_not,zl7,zl8,zl9,zm0,zm1,zm2,zm3,zm4,zm5,zm6,zm7,zm8,zm9,zn0,zn1,zn2,zn3,zn4,zn5,zn6,zn7,reduceCtorEq,rowsOf,pureCells,AV.weak,AV.pureB,AV.pureBs,zn8,zn9,zo0,zo1,zo2,Nat.reduceBEq,zo3,zo4,zo5,zo6,zo7,zo8,zo9,zp0,zp1]
    refine ⟨rfl, AW_code ?_⟩
    simp -implicitDefEqProofs only [c_patch_Apply,za0,za1,za2,za3,za4,eff,AV.ptrOf,AV.tokOf,za5,za6,AV.weaks,AV.weak1,za7,za8,za9,zb0,zb1,zb2,zb3,zb4,zb5,zb6,zb7,zb8,zb9,zc0,zc1,zc2,zc3,zc4,zc5,zc6,zc7,zc8,zc9,zd0,zd1,zd2,zd3,zd4,zd5,zd6,zd7,zd8,zd9,ze0,ze1,ze2,ze3,ze4,ze5,ze6,ze7,ze8,ze9,zf0,zf1,zf2,zf3,zf4,zf5,zf6,zf7,zf8,zf9,zg0,zg1,zg2,zg3,zg4,zg5,zg6,zg7,zg8,zg9,zh0,zh1,zh2,zh3,zh4,zh5,zh6,zh7,zh8,zh9,zi0,zi1,zi2,zi3,zi4,zi5,zi6,wSnil,zi7,zi8,zi9,zj0,zj1,zj2,zj3,zj4,zj5,zj6,zj7,zj8,AV.flatB,AV.flatBs,zj9,zk0,zk1,zk2,zk3,zk4,zk5,zk6,act,AV.cells,AV.mk,AV.asSl,AV.asInt,AV.vslOf,wIdx,zk7,zk8,zk9,zl0,zl1,zl2,zl3,st0,env0,zl4,zl5,zl6,Nat.reduceAdd,Nat.reduceEqDiff,Nat.reduceLeDiff,↓reduceIte,AV.ofV,unV,← decide_not,zl7,zl8,zl9,zm0,zm1,zm2,zm3,zm4,zm5,zm6,zm7,zm8,zm9,zn0,zn1,zn2,zn3,zn4,zn5,zn6,zn7,reduceCtorEq,rowsOf,pureCells,AV.weak,AV.pureB,AV.pureBs,zn8,zn9,zo0,zo1,zo2,Nat.reduceBEq,zo3,zo4,zo5,zo6,zo7,zo8,zo9,zp0,zp1]
    refine ends_ptr (d := 4) (q := 1) (off := 0) (by simp [upd, e4]) ⟨by simp [upd, g4], Nat.le_refl _, by simp [upd]⟩ (b := .agg [.sl 7 .ro ((applyL l p).map Item.row)]) (by simp [upd, AV.mk]) ?_
    exact resC_end
  · have h1 : p.kind ≠ 1 := by rw [h]; decide
    obtain ⟨n, a, b1, b2, b3, b4, b5⟩ := hne h1
    have hE' := hE h1
    rw [b3] at hE'
    have hL : applyE l p = 0 → p.kind ≠ 4 → applyL l p = l.set n (edit a p) := fun q q' => by
      rw [applyL, if_neg (by simp [q]), if_neg h1, if_neg q', b1, b3, Int.toNat_natCast]
    have hc := replace72_con L l p n a (by omega) b2 (applyE l p) (by rw [hE', if_neg (by omega), if_neg (by omega), if_pos h])
    have e2 : applyL l p = if applyE l p = 0 then l.set n { a with north := p.item.north, south := p.item.south } else [] := by
      by_cases h0 : applyE l p = 0
      · rw [hL h0 (by omega), if_pos h0, edit, if_neg (by omega), if_neg (by omega), if_neg (by omega), if_neg (by omega)]
      · rw [applyL, if_pos h0, if_neg h0]
    rw [← e2, ← b1] at hc
    have hk : p.kind.toNat * 1 = 7 := by rw [h]; rfl
    have hcv := CV_of (O := nul) (nt := (c_patch_Apply (T.getD · 0)).nt) (k := 0) (th := []) (fz := []) L.t_patch_change_replace (by have := L.len; omega) hc
    generalize hr : resC (applyL l p) (applyE l p) = r at hc hcv ⊢
    generalize hm : findS p.id l = m at hc hcv ⊢
    refine ⟨⟨by omega, by omega⟩, ⟨hg7, by omega⟩, ?_⟩
    simp -implicitDefEqProofs only [hk,zn1,zn2,zn0,zm9,za0,za1,za2,za3,za4,eff,AV.ptrOf,AV.tokOf,za5,za6,AV.weaks,AV.weak1,za7,za8,za9,zb0,zb1,zb2,zb3,zb4,zb5,zb6,zb7,zb8,zb9,zc0,zc1,zc2,zc3,zc4,zc5,zc6,zc7,zc8,zc9,zd0,zd1,zd2,zd3,zd4,zd5,zd6,zd7,zd8,zd9,ze0,ze1,ze2,ze3,ze4,ze5,ze6,ze7,ze8,ze9,zf0,zf1,zf2,zf3,zf4,zf5,zf6,zf7,zf8,zf9,zg0,zg1,zg2,zg3,zg4,zg5,zg6,zg7,zg8,zg9,zh0,zh1,zh2,zh3,zh4,zh5,zh6,zh7,zh8,zh9,zi0,zi1,zi2,zi3,zi4,zi5,zi6,wSnil,zi7,zi8,zi9,zj0,zj1,zj2,zj3,zj4,zj5,zj6,zj7,zj8,AV.flatB,AV.flatBs,zj9,zk0,zk1,zk2,zk3,zk4,zk5,zk6,act,AV.cells,AV.mk,AV.asSl,AV.asInt,AV.vslOf,wIdx,zk7,zk8,zk9,zl0,zl1,zl2,zl3,st0,env0,zl4,zl5,zl6,Nat.reduceAdd,Nat.reduceEqDiff,Nat.reduceLeDiff,↓reduceIte,AV.ofV,unV,← decide_not,zl7,zl8,zl9,zm0,zm1,zm2,zm3,zm4,zm5,zm6,zm7,zm8,zn3,zn4,zn5,zn6,zn7,reduceCtorEq,rowsOf,pureCells,AV.weak,AV.pureB,AV.pureBs,zn8,zn9,zo0,zo1,zo2,Nat.reduceBEq,zo3,zo4,zo5,zo6,zo7,zo8,zo9,zp0,zp1]
    refine ⟨hg1, wCallV_pure hcv (by rw [← hr]; rfl) rfl (AV.les2_refl _) ?_⟩
    subst hr
    simp -implicitDefEqProofs only [resC,e3,e4,e6,e7,g3,g4,hg6,h7,v3,v4,v6,v7,PatchS.row,Item.row,fills,splice,zq7,zq8,zb0,za9,za0,za1,za2,za3,za4,eff,AV.ptrOf,AV.tokOf,za5,za6,AV.weaks,AV.weak1,za7,za8,zb1,zb2,zb3,zb4,zb5,zb6,zb7,zb8,zb9,zc0,zc1,zc2,zc3,zc4,zc5,zc6,zc7,zc8,zc9,zd0,zd1,zd2,zd3,zd4,zd5,zd6,zd7,zd8,zd9,ze0,ze1,ze2,ze3,ze4,ze5,ze6,ze7,ze8,ze9,zf0,zf1,zf2,zf3,zf4,zf5,zf6,zf7,zf8,zf9,zg0,zg1,zg2,zg3,zg4,zg5,zg6,zg7,zg8,zg9,zh0,zh1,zh2,zh3,zh4,zh5,zh6,zh7,zh8,zh9,zi0,zi1,zi2,zi3,zi4,zi5,zi6,wSnil,zi7,zi8,zi9,zj0,zj1,zj2,zj3,zj4,zj5,zj6,zj7,zj8,AV.flatB,AV.flatBs,zj9,zk0,zk1,zk2,zk3,zk4,zk5,zk6,act,AV.cells,AV.mk,AV.asSl,AV.asInt,AV.vslOf,wIdx,zk7,zk8,zk9,zl0,zl1,zl2,zl3,st0,env0,zl4,zl5,zl6,Nat.reduceAdd,Nat.reduceEqDiff,Nat.reduceLeDiff,↓reduceIte,AV.ofV,unV,← decide_not,zl7,zl8,zl9,zm0,zm1,zm2,zm3,zm4,zm5,zm6,zm7,zm8,zm9,zn0,zn1,zn2,zn3,zn4,zn5,zn6,zn7,reduceCtorEq,rowsOf,pureCells,AV.weak,AV.pureB,AV.pureBs,zn8,zn9,zo0,zo1,zo2,Nat.reduceBEq,zo3,zo4,zo5,zo6,zo7,zo8,zo9,zp0,zp1]
    refine ⟨rfl, AW_code ?_⟩
    simp -implicitDefEqProofs only [c_patch_Apply,za0,za1,za2,za3,za4,eff,AV.ptrOf,AV.tokOf,za5,za6,AV.weaks,AV.weak1,za7,za8,za9,zb0,zb1,zb2,zb3,zb4,zb5,zb6,zb7,zb8,zb9,zc0,zc1,zc2,zc3,zc4,zc5,zc6,zc7,zc8,zc9,zd0,zd1,zd2,zd3,zd4,zd5,zd6,zd7,zd8,zd9,ze0,ze1,ze2,ze3,ze4,ze5,ze6,ze7,ze8,ze9,zf0,zf1,zf2,zf3,zf4,zf5,zf6,zf7,zf8,zf9,zg0,zg1,zg2,zg3,zg4,zg5,zg6,zg7,zg8,zg9,zh0,zh1,zh2,zh3,zh4,zh5,zh6,zh7,zh8,zh9,zi0,zi1,zi2,zi3,zi4,zi5,zi6,wSnil,zi7,zi8,zi9,zj0,zj1,zj2,zj3,zj4,zj5,zj6,zj7,zj8,AV.flatB,AV.flatBs,zj9,zk0,zk1,zk2,zk3,zk4,zk5,zk6,act,AV.cells,AV.mk,AV.asSl,AV.asInt,AV.vslOf,wIdx,zk7,zk8,zk9,zl0,zl1,zl2,zl3,st0,env0,zl4,zl5,zl6,Nat.reduceAdd,Nat.reduceEqDiff,Nat.reduceLeDiff,↓reduceIte,AV.ofV,unV,← decide_not,zl7,zl8,zl9,zm0,zm1,zm2,zm3,zm4,zm5,zm6,zm7,zm8,zm9,zn0,zn1,zn2,zn3,zn4,zn5,zn6,zn7,reduceCtorEq,rowsOf,pureCells,AV.weak,AV.pureB,AV.pureBs,zn8,zn9,zo0,zo1,zo2,Nat.reduceBEq,zo3,zo4,zo5,zo6,zo7,zo8,zo9,zp0,zp1]
    refine ends_ptr (d := 4) (q := 1) (off := 0) (by simp [upd, e4]) ⟨by simp [upd, g4], Nat.le_refl _, by simp [upd]⟩ (b := .agg [.sl 7 .ro ((applyL l p).map Item.row)]) (by simp [upd, AV.mk]) ?_
    exact resC_end
end Go.Av

namespace Go.Av
variable {P : Program} {T : List Nat} {σ : Type}
/-- Sizes that a machine can hold. -/
def BigI (x : Item) : Prop := x.id.size ≤ 140737488355328 ∧ x.parent.size ≤ 140737488355328 ∧ x.number.size ≤ 140737488355328 ∧ x.north.size ≤ 140737488355328 ∧ x.south.size ≤ 140737488355328
def BigP (p : PatchS) : Prop := p.id.size ≤ 140737488355328 ∧ p.parent.size ≤ 140737488355328 ∧ p.after.size ≤ 140737488355328 ∧ p.number.size ≤ 140737488355328 ∧ BigI p.item ∧ p.old.size ≤ 140737488355328 ∧ p.new.size ≤ 140737488355328
def Few1 (p : PatchS) : Prop := p.id.size + p.parent.size + p.after.size + p.number.size ≤ 1000
def Few2 (p : PatchS) : Prop := p.old.size + p.new.size ≤ 1000
def Few3 (p : PatchS) : Prop := p.item.id.size + p.item.parent.size + p.item.number.size + p.item.north.size + p.item.south.size ≤ 2000
def FewP (p : PatchS) : Prop := Few1 p ∧ Few2 p ∧ Few3 p
instance (p : PatchS) : Decidable (Few1 p) := inferInstanceAs (Decidable (_ ≤ _))
instance (p : PatchS) : Decidable (Few2 p) := inferInstanceAs (Decidable (_ ≤ _))
instance (p : PatchS) : Decidable (Few3 p) := inferInstanceAs (Decidable (_ ≤ _))
instance (p : PatchS) : Decidable (FewP p) := inferInstanceAs (Decidable (_ ∧ _ ∧ _))
theorem few_con (L : Lay P T) (p : PatchS) (hb : BigP p) : Con P T 45 [.agg p.row] (.imm (.bool (decide (FewP p)))) := by
  obtain ⟨h1, h2, h3, h4, ⟨h5, h6, h7, h8, h9⟩, h10, h11⟩ := hb
  have a1 : IntKind.i64.wrap ((p.id.size : Int) + p.parent.size) = p.id.size + p.parent.size := IntWalk.i64_in _ (by omega)
  have a2 : IntKind.i64.wrap ((p.id.size : Int) + p.parent.size + p.after.size) = p.id.size + p.parent.size + p.after.size := IntWalk.i64_in _ (by omega)
  have a3 : IntKind.i64.wrap ((p.id.size : Int) + p.parent.size + p.after.size + p.number.size) = p.id.size + p.parent.size + p.after.size + p.number.size := IntWalk.i64_in _ (by omega)
  have a4 : IntKind.i64.wrap ((p.old.size : Int) + p.new.size) = p.old.size + p.new.size := IntWalk.i64_in _ (by omega)
  have a5 : IntKind.i64.wrap ((p.item.id.size : Int) + p.item.parent.size) = p.item.id.size + p.item.parent.size := IntWalk.i64_in _ (by omega)
  have a6 : IntKind.i64.wrap ((p.item.id.size : Int) + p.item.parent.size + p.item.number.size) = p.item.id.size + p.item.parent.size + p.item.number.size := IntWalk.i64_in _ (by omega)
  have a7 : IntKind.i64.wrap ((p.item.id.size : Int) + p.item.parent.size + p.item.number.size + p.item.north.size) = p.item.id.size + p.item.parent.size + p.item.number.size + p.item.north.size := IntWalk.i64_in _ (by omega)
  have a8 : IntKind.i64.wrap ((p.item.id.size : Int) + p.item.parent.size + p.item.number.size + p.item.north.size + p.item.south.size) = p.item.id.size + p.item.parent.size + p.item.number.size + p.item.north.size + p.item.south.size := IntWalk.i64_in _ (by omega)
  have b1 : ((p.id.size : Int) + p.parent.size + p.after.size + p.number.size ≤ 1000) = Few1 p := by unfold Few1; rw [eq_iff_iff]; omega
  have b2 : ((p.old.size : Int) + p.new.size ≤ 1000) = Few2 p := by unfold Few2; rw [eq_iff_iff]; omega
  have b3 : ((p.item.id.size : Int) + p.item.parent.size + p.item.number.size + p.item.north.size + p.item.south.size ≤ 2000) = Few3 p := by unfold Few3; rw [eq_iff_iff]; omega
  refine Con_of nul L.t_pandectref19_Few [] [] (by exact Nat.le_of_ble_eq_true rfl) ?_
  show wCode _ b_pandectref19_Few _ _ _ _
  simp -implicitDefEqProofs only [b_pandectref19_Few,c_pandectref19_Few,a1,a2,a3,a4,a5,a6,a7,a8,b1,b2,b3,PatchS.row,Item.row,splice,zq7,zq8,zb0,za9,za0,za1,za2,za3,za4,eff,AV.ptrOf,AV.tokOf,za5,za6,AV.weaks,AV.weak1,za7,za8,zb1,zb2,zb3,zb4,zb5,zb6,zb7,zb8,zb9,zc0,zc1,zc2,zc3,zc4,zc5,zc6,zc7,zc8,zc9,zd0,zd1,zd2,zd3,zd4,zd5,zd6,zd7,zd8,zd9,ze0,ze1,ze2,ze3,ze4,ze5,ze6,ze7,ze8,ze9,zf0,zf1,zf2,zf3,zf4,zf5,zf6,zf7,zf8,zf9,zg0,zg1,zg2,zg3,zg4,zg5,zg6,zg7,zg8,zg9,zh0,zh1,zh2,zh3,zh4,zh5,zh6,zh7,zh8,zh9,zi0,zi1,zi2,zi3,zi4,zi5,zi6,wSnil,zi7,zi8,zi9,zj0,zj1,zj2,zj3,zj4,zj5,zj6,zj7,zj8,AV.flatB,AV.flatBs,zj9,zk0,zk1,zk2,zk3,zk4,zk5,zk6,act,AV.cells,AV.mk,AV.asSl,AV.asInt,AV.vslOf,wIdx,zk7,zk8,zk9,zl0,zl1,zl2,zl3,st0,env0,zl4,zl5,zl6,Nat.reduceAdd,Nat.reduceEqDiff,Nat.reduceLeDiff,↓reduceIte,AV.ofV,unV,← decide_not,zl7,zl8,zl9,zm0,zm1,zm2,zm3,zm4,zm5,zm6,zm7,zm8,zm9,zn0,zn1,zn2,zn3,zn4,zn5,zn6,zn7,reduceCtorEq,rowsOf,pureCells,AV.weak,AV.pureB,AV.pureBs,zn8,zn9,zo0,zo1,zo2,Nat.reduceBEq,zo3,zo4,zo5,zo6,zo7,zo8,zo9,zp0,zp1,zp2,zp3,zp4,zp5,zp6,zp7,zp8,zp9,zq0,zq1]
  exact ⟨fun q => ⟨fun q2 => by simp [FewP, q, q2], fun q2 => by simp [FewP, q2]⟩, fun q => by simp [FewP, q]⟩
end Go.Av

namespace Go.Av
variable {P : Program} {T : List Nat} {σ : Type}
def LightA (x : Item) : Prop := x.id.size + x.parent.size + x.number.size ≤ 300
def LightI (x : Item) : Prop := LightA x ∧ x.north.size ≤ 500 ∧ x.south.size ≤ 500
instance (x : Item) : Decidable (LightA x) := inferInstanceAs (Decidable (_ ≤ _))
instance (x : Item) : Decidable (LightI x) := inferInstanceAs (Decidable (_ ∧ _ ∧ _))
def LightP (l : List Item) (ps : List PatchS) : Prop := (∀ x ∈ l, LightI x) ∧ (∀ p ∈ ps, FewP p) ∧ l.length ≤ 30 ∧ ps.length ≤ 12
instance (l : List Item) (ps : List PatchS) : Decidable (LightP l ps) := inferInstanceAs (Decidable (_ ∧ _ ∧ _ ∧ _))
theorem light_con (L : Lay P T) (l : List Item) (ps : List PatchS) (hl : l.length ≤ 140737488355328) (hps : ps.length ≤ 140737488355328) (hb : ∀ x ∈ l, BigI x) (hq : ∀ p ∈ ps, BigP p) :
    Con P T 44 [.agg [.sl 7 .ro (l.map Item.row)], .sl 15 .ro (ps.map PatchS.row)] (.imm (.bool (decide (LightP l ps)))) := by
  refine Con_of nul L.t_pandectref19_Light [] [] (by exact Nat.le_of_ble_eq_true rfl) ?_
  show wCode _ b_pandectref19_Light _ _ _ _
  simp -implicitDefEqProofs only [b_pandectref19_Light,za0,za1,za2,za3,za4,eff,AV.ptrOf,AV.tokOf,za5,za6,AV.weaks,AV.weak1,za7,za8,za9,zb0,zb1,zb2,zb3,zb4,zb5,zb6,zb7,zb8,zb9,zc0,zc1,zc2,zc3,zc4,zc5,zc6,zc7,zc8,zc9,zd0,zd1,zd2,zd3,zd4,zd5,zd6,zd7,zd8,zd9,ze0,ze1,ze2,ze3,ze4,ze5,ze6,ze7,ze8,ze9,zf0,zf1,zf2,zf3,zf4,zf5,zf6,zf7,zf8,zf9,zg0,zg1,zg2,zg3,zg4,zg5,zg6,zg7,zg8,zg9,zh0,zh1,zh2,zh3,zh4,zh5,zh6,zh7,zh8,zh9,zi0,zi1,zi2,zi3,zi4,zi5,zi6,wSnil,zi7,zi8,zi9,zj0,zj1,zj2,zj3,zj4,zj5,zj6,zj7,zj8,AV.flatB,AV.flatBs,zj9,zk0,zk1,zk2,zk3,zk4,zk5,zk6,act,AV.cells,AV.mk,AV.asSl,AV.asInt,AV.vslOf,wIdx,zk7,zk8,zk9,zl0,zl1,zl2,zl3,st0,env0,zl4,zl5,zl6,Nat.reduceAdd,Nat.reduceEqDiff,Nat.reduceLeDiff,↓reduceIte,AV.ofV,unV,← decide_not,zl7,zl8,zl9,zm0,zm1,zm2,zm3,zm4,zm5,zm6,zm7,zm8,zm9,zn0,zn1,zn2,zn3,zn4,zn5,zn6,zn7,reduceCtorEq,rowsOf,pureCells,AV.weak,AV.pureB,AV.pureBs,zn8,zn9,zo0,zo1,zo2,Nat.reduceBEq,zo3,zo4,zo5,zo6,zo7,zo8,zo9,zp0,zp1,zq9]
  refine AW.loop (fun k s => s.env 2 = .ptr 2 1 0 ∧ s.gen 2 = 1 ∧ s.var 2 = [.sl 7 .ro (l.map Item.row)] ∧ s.env 1 = .sl 15 .ro (ps.map PatchS.row) ∧ ∃ i : Nat, i + k = l.length ∧ s.env 5 = .imm (.int .i64 i) ∧ ∀ x ∈ l.take i, LightI x) l.length ?_ ?_
  · exact ⟨rfl, rfl, rfl, rfl, 0, by simp, rfl, by simp⟩
  · rintro k ⟨e, g, v, tg, tp, x⟩ ⟨h2, g2, v2, h1, i, hi, h5, hn⟩
    simp only at h2 g2 v2 h1 h5
    simp -implicitDefEqProofs only [l_pandectref19_Light_1,h2,g2,v2,h1,h5,za0,za1,za2,za3,za4,eff,AV.ptrOf,AV.tokOf,za5,za6,AV.weaks,AV.weak1,za7,za8,za9,zb0,zb1,zb2,zb3,zb4,zb5,zb6,zb7,zb8,zb9,zc0,zc1,zc2,zc3,zc4,zc5,zc6,zc7,zc8,zc9,zd0,zd1,zd2,zd3,zd4,zd5,zd6,zd7,zd8,zd9,ze0,ze1,ze2,ze3,ze4,ze5,ze6,ze7,ze8,ze9,zf0,zf1,zf2,zf3,zf4,zf5,zf6,zf7,zf8,zf9,zg0,zg1,zg2,zg3,zg4,zg5,zg6,zg7,zg8,zg9,zh0,zh1,zh2,zh3,zh4,zh5,zh6,zh7,zh8,zh9,zi0,zi1,zi2,zi3,zi4,zi5,zi6,wSnil,zi7,zi8,zi9,zj0,zj1,zj2,zj3,zj4,zj5,zj6,zj7,zj8,AV.flatB,AV.flatBs,zj9,zk0,zk1,zk2,zk3,zk4,zk5,zk6,act,AV.cells,AV.mk,AV.asSl,AV.asInt,AV.vslOf,wIdx,zk7,zk8,zk9,zl0,zl1,zl2,zl3,st0,env0,zl4,zl5,zl6,Nat.reduceAdd,Nat.reduceEqDiff,Nat.reduceLeDiff,↓reduceIte,AV.ofV,unV,← decide_not,zl7,zl8,zl9,zm0,zm1,zm2,zm3,zm4,zm5,zm6,zm7,zm8,zm9,zn0,zn1,zn2,zn3,zn4,zn5,zn6,zn7,reduceCtorEq,rowsOf,pureCells,AV.weak,AV.pureB,AV.pureBs,zn8,zn9,zo0,zo1,zo2,Nat.reduceBEq,zo3,zo4,zo5,zo6,zo7,zo8,zo9,zp0,zp1,zq9,zr1,zr2,zr3,and_imp,zr4,zr0,Item.row,splice,zq7,zq8]
    have no : ∀ a : Item, l[i]? = some a → ¬ LightI a → false = decide (LightP l ps) := fun a ha hx => (decide_eq_false fun h => hx (h.1 a (List.mem_of_getElem? ha))).symm
    have sz : ∀ a : Item, l[i]? = some a → (300 < IntKind.i64.wrap (IntKind.i64.wrap ((a.id.size : Int) + a.parent.size) + a.number.size) ↔ ¬ LightA a) := by
      intro a ha
      obtain ⟨b1, b2, b3, -, -⟩ := hb a (List.mem_of_getElem? ha)
      rw [IntWalk.i64_in ((a.id.size : Int) + a.parent.size) (by omega), IntWalk.i64_in _ (by omega)]
      unfold LightA
      omega
    refine ⟨fun hlt => ⟨⟨by omega, hlt⟩, fun a ha => ⟨fun hA => ⟨fun hN => ⟨fun hS => ?_, fun hS => ?_⟩, fun hN => ?_⟩, fun hA => ?_⟩⟩, fun hge => ?_⟩
    · simp -implicitDefEqProofs only [c_pandectref19_Light,zp2,zp3,zp4,zp5,zp6,zp7,zp8,zp9,zq0,zq1,zl4,Nat.reduceEqDiff,↓reduceIte,zm0]
      exact no a ha fun h => by have := h.2.2; omega
    · refine ⟨k - 1, by omega, i + 1, by omega, ?_, ?_⟩
      · rw [IntWalk.i64_in _ (by omega)]; rfl
      · intro x hx
        rw [List.take_add_one, ha] at hx
        rcases List.mem_append.1 hx with hx | hx
        · exact hn x hx
        · simp at hx
          subst hx
          rw [sz _ ha] at hA
          exact ⟨Classical.not_not.1 hA, by omega, by omega⟩
    · simp -implicitDefEqProofs only [c_pandectref19_Light,zp2,zp3,zp4,zp5,zp6,zp7,zp8,zp9,zq0,zq1,zl4,Nat.reduceEqDiff,↓reduceIte,zm0]
      exact no a ha fun h => by have := h.2.1; omega
    · simp -implicitDefEqProofs only [c_pandectref19_Light,zp2,zp3,zp4,zp5,zp6,zp7,zp8,zp9,zq0,zq1,zl4,Nat.reduceEqDiff,↓reduceIte,zm0]
      exact no a ha fun h => (sz a ha).1 hA h.1
    · have hall : ∀ x ∈ l, LightI x := by rw [List.take_of_length_le (by omega)] at hn; exact hn
      refine AW.loop (fun k s => s.env 2 = .ptr 2 1 0 ∧ s.gen 2 = 1 ∧ s.var 2 = [.sl 7 .ro (l.map Item.row)] ∧ s.env 1 = .sl 15 .ro (ps.map PatchS.row) ∧ ∃ i : Nat, i + k = ps.length ∧ s.env 7 = .imm (.int .i64 i) ∧ ∀ x ∈ ps.take i, FewP x) ps.length ?_ ?_
      · exact ⟨by simp [upd, h2], g2, v2, by simp [upd, h1], 0, by simp, by simp [upd], by simp⟩
      · clear h2 g2 v2 h1 h5 hn hi no sz hge
        clear i
        rintro k ⟨e, g, v, tg, tp, x⟩ ⟨h2, g2, v2, h1, i, hi, h5, hn⟩
        simp only at h2 g2 v2 h1 h5
        simp -implicitDefEqProofs only [l_pandectref19_Light_0,h2,g2,v2,h1,h5,za0,za1,za2,za3,za4,eff,AV.ptrOf,AV.tokOf,za5,za6,AV.weaks,AV.weak1,za7,za8,za9,zb0,zb1,zb2,zb3,zb4,zb5,zb6,zb7,zb8,zb9,zc0,zc1,zc2,zc3,zc4,zc5,zc6,zc7,zc8,zc9,zd0,zd1,zd2,zd3,zd4,zd5,zd6,zd7,zd8,zd9,ze0,ze1,ze2,ze3,ze4,ze5,ze6,ze7,ze8,ze9,zf0,zf1,zf2,zf3,zf4,zf5,zf6,zf7,zf8,zf9,zg0,zg1,zg2,zg3,zg4,zg5,zg6,zg7,zg8,zg9,zh0,zh1,zh2,zh3,zh4,zh5,zh6,zh7,zh8,zh9,zi0,zi1,zi2,zi3,zi4,zi5,zi6,wSnil,zi7,zi8,zi9,zj0,zj1,zj2,zj3,zj4,zj5,zj6,zj7,zj8,AV.flatB,AV.flatBs,zj9,zk0,zk1,zk2,zk3,zk4,zk5,zk6,act,AV.cells,AV.mk,AV.asSl,AV.asInt,AV.vslOf,wIdx,zk7,zk8,zk9,zl0,zl1,zl2,zl3,st0,env0,zl4,zl5,zl6,Nat.reduceAdd,Nat.reduceEqDiff,Nat.reduceLeDiff,↓reduceIte,AV.ofV,unV,← decide_not,zl7,zl8,zl9,zm0,zm1,zm2,zm3,zm4,zm5,zm6,zm7,zm8,zm9,zn0,zn1,zn2,zn3,zn4,zn5,zn6,zn7,reduceCtorEq,rowsOf,pureCells,AV.weak,AV.pureB,AV.pureBs,zn8,zn9,zo0,zo1,zo2,Nat.reduceBEq,zo3,zo4,zo5,zo6,zo7,zo8,zo9,zp0,zp1,zq9,zr1,zr2,zr3,and_imp,zr4,zr0,PatchS.row,Item.row,splice,zq7,zq8]
        refine ⟨fun hlt => ⟨⟨by omega, hlt⟩, fun a ha => ?_⟩, fun hge => ?_⟩
        · refine wCall_imm (few_con L a (hq a (List.mem_of_getElem? ha))) rfl (AV.les2_refl _) ?_
          by_cases hf : FewP a
          · have t1 := eq_true hf
            simp -implicitDefEqProofs only [t1,zq2,h2,g2,v2,h1,h5,za0,za1,za2,za3,za4,eff,AV.ptrOf,AV.tokOf,za5,za6,AV.weaks,AV.weak1,za7,za8,za9,zb0,zb1,zb2,zb3,zb4,zb5,zb6,zb7,zb8,zb9,zc0,zc1,zc2,zc3,zc4,zc5,zc6,zc7,zc8,zc9,zd0,zd1,zd2,zd3,zd4,zd5,zd6,zd7,zd8,zd9,ze0,ze1,ze2,ze3,ze4,ze5,ze6,ze7,ze8,ze9,zf0,zf1,zf2,zf3,zf4,zf5,zf6,zf7,zf8,zf9,zg0,zg1,zg2,zg3,zg4,zg5,zg6,zg7,zg8,zg9,zh0,zh1,zh2,zh3,zh4,zh5,zh6,zh7,zh8,zh9,zi0,zi1,zi2,zi3,zi4,zi5,zi6,wSnil,zi7,zi8,zi9,zj0,zj1,zj2,zj3,zj4,zj5,zj6,zj7,zj8,AV.flatB,AV.flatBs,zj9,zk0,zk1,zk2,zk3,zk4,zk5,zk6,act,AV.cells,AV.mk,AV.asSl,AV.asInt,AV.vslOf,wIdx,zk7,zk8,zk9,zl0,zl1,zl2,zl3,st0,env0,zl4,zl5,zl6,Nat.reduceAdd,Nat.reduceEqDiff,Nat.reduceLeDiff,↓reduceIte,AV.ofV,unV,← decide_not,zl7,zl8,zl9,zm0,zm1,zm2,zm3,zm4,zm5,zm6,zm7,zm8,zm9,zn0,zn1,zn2,zn3,zn4,zn5,zn6,zn7,reduceCtorEq,rowsOf,pureCells,AV.weak,AV.pureB,AV.pureBs,zn8,zn9,zo0,zo1,zo2,Nat.reduceBEq,zo3,zo4,zo5,zo6,zo7,zo8,zo9,zp0,zp1,zq9,PatchS.row,Item.row]
            refine ⟨k - 1, by omega, i + 1, by omega, ?_, ?_⟩
            · rw [IntWalk.i64_in _ (by omega)]; rfl
            · intro x hx
              rw [List.take_add_one, ha] at hx
              rcases List.mem_append.1 hx with hx | hx
              · exact hn x hx
              · simp at hx
                subst hx
                exact hf
          · have t1 := eq_false hf
            simp -implicitDefEqProofs only [t1,zq3,h2,g2,v2,h1,h5,c_pandectref19_Light,za0,za1,za2,za3,za4,eff,AV.ptrOf,AV.tokOf,za5,za6,AV.weaks,AV.weak1,za7,za8,za9,zb0,zb1,zb2,zb3,zb4,zb5,zb6,zb7,zb8,zb9,zc0,zc1,zc2,zc3,zc4,zc5,zc6,zc7,zc8,zc9,zd0,zd1,zd2,zd3,zd4,zd5,zd6,zd7,zd8,zd9,ze0,ze1,ze2,ze3,ze4,ze5,ze6,ze7,ze8,ze9,zf0,zf1,zf2,zf3,zf4,zf5,zf6,zf7,zf8,zf9,zg0,zg1,zg2,zg3,zg4,zg5,zg6,zg7,zg8,zg9,zh0,zh1,zh2,zh3,zh4,zh5,zh6,zh7,zh8,zh9,zi0,zi1,zi2,zi3,zi4,zi5,zi6,wSnil,zi7,zi8,zi9,zj0,zj1,zj2,zj3,zj4,zj5,zj6,zj7,zj8,AV.flatB,AV.flatBs,zj9,zk0,zk1,zk2,zk3,zk4,zk5,zk6,act,AV.cells,AV.mk,AV.asSl,AV.asInt,AV.vslOf,wIdx,zk7,zk8,zk9,zl0,zl1,zl2,zl3,st0,env0,zl4,zl5,zl6,Nat.reduceAdd,Nat.reduceEqDiff,Nat.reduceLeDiff,↓reduceIte,AV.ofV,unV,← decide_not,zl7,zl8,zl9,zm0,zm1,zm2,zm3,zm4,zm5,zm6,zm7,zm8,zm9,zn0,zn1,zn2,zn3,zn4,zn5,zn6,zn7,reduceCtorEq,rowsOf,pureCells,AV.weak,AV.pureB,AV.pureBs,zn8,zn9,zo0,zo1,zo2,Nat.reduceBEq,zo3,zo4,zo5,zo6,zo7,zo8,zo9,zp0,zp1,zp2,zp3,zp4,zp5,zp6,zp7,zp8,zp9,zq0,zq1,zq9,PatchS.row,Item.row]
            exact (decide_eq_false fun h => hf (h.2.1 a (List.mem_of_getElem? ha))).symm
        · have hall2 : ∀ x ∈ ps, FewP x := by rw [List.take_of_length_le (by omega)] at hn; exact hn
          refine ⟨fun h30 => ?_, fun h30 => ?_⟩
          · simp -implicitDefEqProofs only [c_pandectref19_Light,zp2,zp3,zp4,zp5,zp6,zp7,zp8,zp9,zq0,zq1,zl4,Nat.reduceEqDiff,↓reduceIte,zm0]
            have : ((ps.length : Int) ≤ 12) = LightP l ps := by
              rw [eq_iff_iff]
              exact ⟨fun h => ⟨hall, hall2, by omega, by omega⟩, fun h => by have := h.2.2.2; omega⟩
            simp only [this]
          · simp -implicitDefEqProofs only [c_pandectref19_Light,zp2,zp3,zp4,zp5,zp6,zp7,zp8,zp9,zq0,zq1,zl4,Nat.reduceEqDiff,↓reduceIte,zm0]
            exact (decide_eq_false fun h => h30 (by have := h.2.2.1; omega)).symm
end Go.Av

namespace Go.Av
variable {P : Program} {T : List Nat} {σ : Type}
theorem ids_con (L : Lay P T) (l : List Item) (hl : l.length ≤ 1048576) : Con P T 51 [.agg [.sl 7 .ro (l.map Item.row)]] (.sl 1 .ro ((ids l).map srow)) := by
  refine Con_of nul L.t_pandectlaw19_ids [] [] (by exact Nat.le_of_ble_eq_true rfl) ?_
  show wCode _ b_pandectlaw19_ids _ _ _ _
  simp -implicitDefEqProofs only [b_pandectlaw19_ids,za0,za1,za2,za3,za4,eff,AV.ptrOf,AV.tokOf,za5,za6,AV.weaks,AV.weak1,za7,za8,za9,zb0,zb1,zb2,zb3,zb4,zb5,zb6,zb7,zb8,zb9,zc0,zc1,zc2,zc3,zc4,zc5,zc6,zc7,zc8,zc9,zd0,zd1,zd2,zd3,zd4,zd5,zd6,zd7,zd8,zd9,ze0,ze1,ze2,ze3,ze4,ze5,ze6,ze7,ze8,ze9,zf0,zf1,zf2,zf3,zf4,zf5,zf6,zf7,zf8,zf9,zg0,zg1,zg2,zg3,zg4,zg5,zg6,zg7,zg8,zg9,zh0,zh1,zh2,zh3,zh4,zh5,zh6,zh7,zh8,zh9,zi0,zi1,zi2,zi3,zi4,zi5,zi6,wSnil,zi7,zi8,zi9,zj0,zj1,zj2,zj3,zj4,zj5,zj6,zj7,zj8,AV.flatB,AV.flatBs,zj9,zk0,zk1,zk2,zk3,zk4,zk5,zk6,act,AV.cells,AV.mk,AV.asSl,AV.asInt,AV.vslOf,wIdx,zk7,zk8,zk9,zl0,zl1,zl2,zl3,st0,env0,zl4,zl5,zl6,Nat.reduceAdd,Nat.reduceEqDiff,Nat.reduceLeDiff,↓reduceIte,AV.ofV,unV,← decide_not,zl7,zl8,zl9,zm0,zm1,zm2,zm3,zm4,zm5,zm6,zm7,zm8,zm9,zn0,zn1,zn2,zn3,zn4,zn5,zn6,zn7,reduceCtorEq,rowsOf,pureCells,AV.weak,AV.pureB,AV.pureBs,zn8,zn9,zo0,zo1,zo2,Nat.reduceBEq,zo3,zo4,zo5,zo6,zo7,zo8,zo9,zp0,zp1]
  refine AW.loop (fun k s => s.env 1 = .ptr 1 1 0 ∧ s.gen 1 = 1 ∧ s.var 1 = [.sl 7 .ro (l.map Item.row)] ∧ ∃ i : Nat, i + k = l.length ∧ s.env 4 = .imm (.int .i64 i) ∧ OwnSl s (s.env 3) 20 1 ((ids (l.take i)).map srow)) l.length ?_ ?_
  · exact ⟨rfl, rfl, rfl, 0, by simp, rfl, .inl ⟨rfl, rfl⟩⟩
  · rintro k ⟨e, g, v, tg, tp, x⟩ ⟨h1, g1, v1, i, hi, h4, hO⟩
    simp only at h1 g1 v1 h4
    simp -implicitDefEqProofs only [l_pandectlaw19_ids_0,h1,g1,v1,h4,za0,za1,za2,za3,za4,eff,AV.ptrOf,AV.tokOf,za5,za6,AV.weaks,AV.weak1,za7,za8,za9,zb0,zb1,zb2,zb3,zb4,zb5,zb6,zb7,zb8,zb9,zc0,zc1,zc2,zc3,zc4,zc5,zc6,zc7,zc8,zc9,zd0,zd1,zd2,zd3,zd4,zd5,zd6,zd7,zd8,zd9,ze0,ze1,ze2,ze3,ze4,ze5,ze6,ze7,ze8,ze9,zf0,zf1,zf2,zf3,zf4,zf5,zf6,zf7,zf8,zf9,zg0,zg1,zg2,zg3,zg4,zg5,zg6,zg7,zg8,zg9,zh0,zh1,zh2,zh3,zh4,zh5,zh6,zh7,zh8,zh9,zi0,zi1,zi2,zi3,zi4,zi5,zi6,wSnil,zi7,zi8,zi9,zj0,zj1,zj2,zj3,zj4,zj5,zj6,zj7,zj8,AV.flatB,AV.flatBs,zj9,zk0,zk1,zk2,zk3,zk4,zk5,zk6,act,AV.cells,AV.mk,AV.asSl,AV.asInt,AV.vslOf,wIdx,zk7,zk8,zk9,zl0,zl1,zl2,zl3,st0,env0,zl4,zl5,zl6,Nat.reduceAdd,Nat.reduceEqDiff,Nat.reduceLeDiff,↓reduceIte,AV.ofV,unV,← decide_not,zl7,zl8,zl9,zm0,zm1,zm2,zm3,zm4,zm5,zm6,zm7,zm8,zm9,zn0,zn1,zn2,zn3,zn4,zn5,zn6,zn7,reduceCtorEq,rowsOf,pureCells,AV.weak,AV.pureB,AV.pureBs,zn8,zn9,zo0,zo1,zo2,Nat.reduceBEq,zo3,zo4,zo5,zo6,zo7,zo8,zo9,zp0,zp1,zq9,zr1,zr2,zr3,and_imp,zr4,zr0,Item.row]
    refine ⟨fun hlt => ⟨⟨by omega, hlt⟩, fun a ha => ?_⟩, fun hge => ?_⟩
    · refine wApp_own hO rfl (by simp only [ids,zq9,List.length_take,zn3,zn4]; omega) ?_
      simp -implicitDefEqProofs only [h1,g1,v1,h4,za0,za1,za2,za3,za4,eff,AV.ptrOf,AV.tokOf,za5,za6,AV.weaks,AV.weak1,za7,za8,za9,zb0,zb1,zb2,zb3,zb4,zb5,zb6,zb7,zb8,zb9,zc0,zc1,zc2,zc3,zc4,zc5,zc6,zc7,zc8,zc9,zd0,zd1,zd2,zd3,zd4,zd5,zd6,zd7,zd8,zd9,ze0,ze1,ze2,ze3,ze4,ze5,ze6,ze7,ze8,ze9,zf0,zf1,zf2,zf3,zf4,zf5,zf6,zf7,zf8,zf9,zg0,zg1,zg2,zg3,zg4,zg5,zg6,zg7,zg8,zg9,zh0,zh1,zh2,zh3,zh4,zh5,zh6,zh7,zh8,zh9,zi0,zi1,zi2,zi3,zi4,zi5,zi6,wSnil,zi7,zi8,zi9,zj0,zj1,zj2,zj3,zj4,zj5,zj6,zj7,zj8,AV.flatB,AV.flatBs,zj9,zk0,zk1,zk2,zk3,zk4,zk5,zk6,act,AV.cells,AV.mk,AV.asSl,AV.asInt,AV.vslOf,wIdx,zk7,zk8,zk9,zl0,zl1,zl2,zl3,st0,env0,zl4,zl5,zl6,Nat.reduceAdd,Nat.reduceEqDiff,Nat.reduceLeDiff,↓reduceIte,AV.ofV,unV,← decide_not,zl7,zl8,zl9,zm0,zm1,zm2,zm3,zm4,zm5,zm6,zm7,zm8,zm9,zn0,zn1,zn2,zn3,zn4,zn5,zn6,zn7,reduceCtorEq,rowsOf,pureCells,AV.weak,AV.pureB,AV.pureBs,zn8,zn9,zo0,zo1,zo2,Nat.reduceBEq,zo3,zo4,zo5,zo6,zo7,zo8,zo9,zp0,zp1]
      refine ⟨k - 1, by omega, i + 1, by omega, ?_, ?_⟩
      · rw [IntWalk.i64_in _ (by omega)]; rfl
      · rw [List.take_add_one, ha]
        simp only [za5,ids_append,ids_cons,ids_nil,List.map_append,zn5,zn6]
        exact OwnSl.give (st := ⟨e, g, v, tg, tp, x⟩) (by simp)
    · simp -implicitDefEqProofs only [c_pandectlaw19_ids,zp2,zp3,zp4,zp5,zp6,zp7,zp8,zp9,zq0,zq1,zl4,Nat.reduceEqDiff,↓reduceIte,zm0]
      rw [List.take_of_length_le (by omega)] at hO
      exact OwnSl.le (st := ⟨_, g, v, tg, tp, x⟩) hO
theorem in52_con (L : Lay P T) (l : List ByteArray) (s : ByteArray) (hl : l.length ≤ 1048576) : Con P T 52 [.sl 1 .ro (l.map srow), .imm (.string s)] (.imm (.bool (decide (s ∈ l)))) := by
  refine Con_of nul L.t_pandectref07_In [] [] (by exact Nat.le_of_ble_eq_true rfl) ?_
  show wCode _ b_pandectref07_In _ _ _ _
  simp -implicitDefEqProofs only [b_pandectref07_In,za0,za1,za2,za3,za4,eff,AV.ptrOf,AV.tokOf,za5,za6,AV.weaks,AV.weak1,za7,za8,za9,zb0,zb1,zb2,zb3,zb4,zb5,zb6,zb7,zb8,zb9,zc0,zc1,zc2,zc3,zc4,zc5,zc6,zc7,zc8,zc9,zd0,zd1,zd2,zd3,zd4,zd5,zd6,zd7,zd8,zd9,ze0,ze1,ze2,ze3,ze4,ze5,ze6,ze7,ze8,ze9,zf0,zf1,zf2,zf3,zf4,zf5,zf6,zf7,zf8,zf9,zg0,zg1,zg2,zg3,zg4,zg5,zg6,zg7,zg8,zg9,zh0,zh1,zh2,zh3,zh4,zh5,zh6,zh7,zh8,zh9,zi0,zi1,zi2,zi3,zi4,zi5,zi6,wSnil,zi7,zi8,zi9,zj0,zj1,zj2,zj3,zj4,zj5,zj6,zj7,zj8,AV.flatB,AV.flatBs,zj9,zk0,zk1,zk2,zk3,zk4,zk5,zk6,act,AV.cells,AV.mk,AV.asSl,AV.asInt,AV.vslOf,wIdx,zk7,zk8,zk9,zl0,zl1,zl2,zl3,st0,env0,zl4,zl5,zl6,Nat.reduceAdd,Nat.reduceEqDiff,Nat.reduceLeDiff,↓reduceIte,AV.ofV,unV,← decide_not,zl7,zl8,zl9,zm0,zm1,zm2,zm3,zm4,zm5,zm6,zm7,zm8,zm9,zn0,zn1,zn2,zn3,zn4,zn5,zn6,zn7,reduceCtorEq,rowsOf,pureCells,AV.weak,AV.pureB,AV.pureBs,zn8,zn9,zo0,zo1,zo2,Nat.reduceBEq,zo3,zo4,zo5,zo6,zo7,zo8,zo9,zp0,zp1]
  refine AW.loop (fun k st => st.env 0 = .sl 1 .ro (l.map srow) ∧ st.env 1 = .imm (.string s) ∧ ∃ i : Nat, i + k = l.length ∧ st.env 5 = .imm (.int .i64 i) ∧ s ∉ l.take i) l.length ?_ ?_
  · exact ⟨rfl, rfl, 0, by simp, rfl, by simp⟩
  · rintro k ⟨e, g, v, tg, tp, x⟩ ⟨h0, h1, i, hi, h5, hw⟩
    simp only at h0 h1 h5
    simp -implicitDefEqProofs only [l_pandectref07_In_0,h0,h1,h5,za0,za1,za2,za3,za4,eff,AV.ptrOf,AV.tokOf,za5,za6,AV.weaks,AV.weak1,za7,za8,za9,zb0,zb1,zb2,zb3,zb4,zb5,zb6,zb7,zb8,zb9,zc0,zc1,zc2,zc3,zc4,zc5,zc6,zc7,zc8,zc9,zd0,zd1,zd2,zd3,zd4,zd5,zd6,zd7,zd8,zd9,ze0,ze1,ze2,ze3,ze4,ze5,ze6,ze7,ze8,ze9,zf0,zf1,zf2,zf3,zf4,zf5,zf6,zf7,zf8,zf9,zg0,zg1,zg2,zg3,zg4,zg5,zg6,zg7,zg8,zg9,zh0,zh1,zh2,zh3,zh4,zh5,zh6,zh7,zh8,zh9,zi0,zi1,zi2,zi3,zi4,zi5,zi6,wSnil,zi7,zi8,zi9,zj0,zj1,zj2,zj3,zj4,zj5,zj6,zj7,zj8,AV.flatB,AV.flatBs,zj9,zk0,zk1,zk2,zk3,zk4,zk5,zk6,act,AV.cells,AV.mk,AV.asSl,AV.asInt,AV.vslOf,wIdx,zk7,zk8,zk9,zl0,zl1,zl2,zl3,st0,env0,zl4,zl5,zl6,Nat.reduceAdd,Nat.reduceEqDiff,Nat.reduceLeDiff,↓reduceIte,AV.ofV,unV,← decide_not,zl7,zl8,zl9,zm0,zm1,zm2,zm3,zm4,zm5,zm6,zm7,zm8,zm9,zn0,zn1,zn2,zn3,zn4,zn5,zn6,zn7,reduceCtorEq,rowsOf,pureCells,AV.weak,AV.pureB,AV.pureBs,zn8,zn9,zo0,zo1,zo2,Nat.reduceBEq,zo3,zo4,zo5,zo6,zo7,zo8,zo9,zp0,zp1,zq9,zr1,zr2,zr3,and_imp,zr4,zr0,srow]
    refine ⟨fun hlt => ⟨⟨by omega, hlt⟩, fun a ha => ⟨fun hid => ?_, fun hid => ?_⟩⟩, fun hge => ?_⟩
    · simp -implicitDefEqProofs only [c_pandectref07_In,zp2,zp3,zp4,zp5,zp6,zp7,zp8,zp9,zq0,zq1,zl4,Nat.reduceEqDiff,↓reduceIte,zm0]
      exact (decide_eq_true (by rw [← hid]; exact List.mem_of_getElem? ha)).symm
    · refine ⟨k - 1, by omega, i + 1, by omega, ?_, ?_⟩
      · rw [IntWalk.i64_in _ (by omega)]; rfl
      · intro hm
        rw [List.take_add_one, ha] at hm
        rcases List.mem_append.1 hm with hm | hm
        · exact hw hm
        · simp at hm; exact hid hm.symm
    · simp -implicitDefEqProofs only [c_pandectref07_In,zp2,zp3,zp4,zp5,zp6,zp7,zp8,zp9,zq0,zq1,zl4,Nat.reduceEqDiff,↓reduceIte,zm0]
      rw [List.take_of_length_le (by omega)] at hw
      exact (decide_eq_false hw).symm
theorem names_con (L : Lay P T) (l m : List ByteArray) (hl : l.length ≤ 1048576) : Con P T 50 [.sl 1 .ro (l.map srow), .sl 1 .ro (m.map srow)] (.imm (.bool (decide (l = m)))) := by
  refine Con_of nul L.t_pandectref07_Names [] [] (by exact Nat.le_of_ble_eq_true rfl) ?_
  show wCode _ b_pandectref07_Names _ _ _ _
  simp -implicitDefEqProofs only [b_pandectref07_Names,za0,za1,za2,za3,za4,eff,AV.ptrOf,AV.tokOf,za5,za6,AV.weaks,AV.weak1,za7,za8,za9,zb0,zb1,zb2,zb3,zb4,zb5,zb6,zb7,zb8,zb9,zc0,zc1,zc2,zc3,zc4,zc5,zc6,zc7,zc8,zc9,zd0,zd1,zd2,zd3,zd4,zd5,zd6,zd7,zd8,zd9,ze0,ze1,ze2,ze3,ze4,ze5,ze6,ze7,ze8,ze9,zf0,zf1,zf2,zf3,zf4,zf5,zf6,zf7,zf8,zf9,zg0,zg1,zg2,zg3,zg4,zg5,zg6,zg7,zg8,zg9,zh0,zh1,zh2,zh3,zh4,zh5,zh6,zh7,zh8,zh9,zi0,zi1,zi2,zi3,zi4,zi5,zi6,wSnil,zi7,zi8,zi9,zj0,zj1,zj2,zj3,zj4,zj5,zj6,zj7,zj8,AV.flatB,AV.flatBs,zj9,zk0,zk1,zk2,zk3,zk4,zk5,zk6,act,AV.cells,AV.mk,AV.asSl,AV.asInt,AV.vslOf,wIdx,zk7,zk8,zk9,zl0,zl1,zl2,zl3,st0,env0,zl4,zl5,zl6,Nat.reduceAdd,Nat.reduceEqDiff,Nat.reduceLeDiff,↓reduceIte,AV.ofV,unV,← decide_not,zl7,zl8,zl9,zm0,zm1,zm2,zm3,zm4,zm5,zm6,zm7,zm8,zm9,zn0,zn1,zn2,zn3,zn4,zn5,zn6,zn7,reduceCtorEq,rowsOf,pureCells,AV.weak,AV.pureB,AV.pureBs,zn8,zn9,zo0,zo1,zo2,Nat.reduceBEq,zo3,zo4,zo5,zo6,zo7,zo8,zo9,zp0,zp1,zq9]
  refine ⟨fun h => ?_, fun h => ?_⟩
  · simp -implicitDefEqProofs only [c_pandectref07_Names,zp2,zp3,zp4,zp5,zp6,zp7,zp8,zp9,zq0,zq1,zl4,Nat.reduceEqDiff,↓reduceIte,zm0]
    exact (decide_eq_false fun e => h (by rw [e])).symm
  · refine AW.loop (fun k s => s.env 0 = .sl 1 .ro (l.map srow) ∧ s.env 1 = .sl 1 .ro (m.map srow) ∧ ∃ i : Nat, i + k = l.length ∧ s.env 5 = .imm (.int .i64 i) ∧ l.take i = m.take i) l.length ?_ ?_
    · exact ⟨rfl, rfl, 0, by simp, rfl, by simp⟩
    · rintro k ⟨e, g, v, tg, tp, x⟩ ⟨h0, h1, i, hi, h5, hn⟩
      simp only at h0 h1 h5
      simp -implicitDefEqProofs only [l_pandectref07_Names_0,h0,h1,h5,za0,za1,za2,za3,za4,eff,AV.ptrOf,AV.tokOf,za5,za6,AV.weaks,AV.weak1,za7,za8,za9,zb0,zb1,zb2,zb3,zb4,zb5,zb6,zb7,zb8,zb9,zc0,zc1,zc2,zc3,zc4,zc5,zc6,zc7,zc8,zc9,zd0,zd1,zd2,zd3,zd4,zd5,zd6,zd7,zd8,zd9,ze0,ze1,ze2,ze3,ze4,ze5,ze6,ze7,ze8,ze9,zf0,zf1,zf2,zf3,zf4,zf5,zf6,zf7,zf8,zf9,zg0,zg1,zg2,zg3,zg4,zg5,zg6,zg7,zg8,zg9,zh0,zh1,zh2,zh3,zh4,zh5,zh6,zh7,zh8,zh9,zi0,zi1,zi2,zi3,zi4,zi5,zi6,wSnil,zi7,zi8,zi9,zj0,zj1,zj2,zj3,zj4,zj5,zj6,zj7,zj8,AV.flatB,AV.flatBs,zj9,zk0,zk1,zk2,zk3,zk4,zk5,zk6,act,AV.cells,AV.mk,AV.asSl,AV.asInt,AV.vslOf,wIdx,zk7,zk8,zk9,zl0,zl1,zl2,zl3,st0,env0,zl4,zl5,zl6,Nat.reduceAdd,Nat.reduceEqDiff,Nat.reduceLeDiff,↓reduceIte,AV.ofV,unV,← decide_not,zl7,zl8,zl9,zm0,zm1,zm2,zm3,zm4,zm5,zm6,zm7,zm8,zm9,zn0,zn1,zn2,zn3,zn4,zn5,zn6,zn7,reduceCtorEq,rowsOf,pureCells,AV.weak,AV.pureB,AV.pureBs,zn8,zn9,zo0,zo1,zo2,Nat.reduceBEq,zo3,zo4,zo5,zo6,zo7,zo8,zo9,zp0,zp1,zq9,zr1,zr2,zr3,and_imp,zr4,zr0,srow]
      refine ⟨fun hlt => ⟨⟨by omega, hlt⟩, fun a ha => ⟨⟨by omega, by omega⟩, fun b hb => ⟨rfl, fun hne => ?_, fun heq => ?_⟩⟩⟩, fun hge => ?_⟩
      · simp -implicitDefEqProofs only [c_pandectref07_Names,zp2,zp3,zp4,zp5,zp6,zp7,zp8,zp9,zq0,zq1,zl4,Nat.reduceEqDiff,↓reduceIte,zm0]
        exact (decide_eq_false fun e => hne (by rw [e, hb] at ha; injection ha with ha; exact ha.symm)).symm
      · refine ⟨k - 1, by omega, i + 1, by omega, ?_, ?_⟩
        · rw [IntWalk.i64_in _ (by omega)]; rfl
        · rw [List.take_add_one, List.take_add_one, hn, ha, hb, heq]
      · simp -implicitDefEqProofs only [c_pandectref07_Names,zp2,zp3,zp4,zp5,zp6,zp7,zp8,zp9,zq0,zq1,zl4,Nat.reduceEqDiff,↓reduceIte,zm0]
        refine (decide_eq_true ?_).symm
        rw [List.take_of_length_le (by omega), List.take_of_length_le (by omega)] at hn
        exact hn
def exL : List Item := [⟨1, ⟨#[100, 49]⟩, nilS, nilS, nilS, nilS, false⟩, ⟨2, ⟨#[112, 49]⟩, ⟨#[100, 49]⟩, nilS, ⟨#[97, 97, 97]⟩, nilS, false⟩, ⟨2, ⟨#[112, 50]⟩, ⟨#[100, 49]⟩, nilS, nilS, nilS, false⟩, ⟨2, ⟨#[112, 51]⟩, nilS, nilS, nilS, nilS, false⟩]
theorem fullC_end {rows : List (List AV)} : endR (.agg [.sl 7 .full rows]) (.agg [.sl 7 .ro rows]) (st0 () []) := by
  have h1 : (AV.agg [.sl 7 .full rows]).weaks = .agg [.sl 7 .full rows] := rfl
  unfold endR
  rw [out_pure h1 rfl]
  simp [wOpt, AV.le, AV.les2, AV.le2, AV.les1, AV.le1]
theorem example_con (L : Lay P T) : Con P T 65 [] (.agg [.sl 7 .ro (exL.map Item.row)]) := by
  refine Con_of nul L.t_pandectlaw19_example [] [] (by exact Nat.le_of_ble_eq_true rfl) ?_
  show wCode _ b_pandectlaw19_example _ _ _ _
  simp -implicitDefEqProofs only [b_pandectlaw19_example,fills,splice,zq7,zq8,zb0,za9,za0,za1,za2,za3,za4,eff,AV.ptrOf,AV.tokOf,za5,za6,AV.weaks,AV.weak1,za7,za8,zb1,zb2,zb3,zb4,zb5,zb6,zb7,zb8,zb9,zc0,zc1,zc2,zc3,zc4,zc5,zc6,zc7,zc8,zc9,zd0,zd1,zd2,zd3,zd4,zd5,zd6,zd7,zd8,zd9,ze0,ze1,ze2,ze3,ze4,ze5,ze6,ze7,ze8,ze9,zf0,zf1,zf2,zf3,zf4,zf5,zf6,zf7,zf8,zf9,zg0,zg1,zg2,zg3,zg4,zg5,zg6,zg7,zg8,zg9,zh0,zh1,zh2,zh3,zh4,zh5,zh6,zh7,zh8,zh9,zi0,zi1,zi2,zi3,zi4,zi5,zi6,wSnil,zi7,zi8,zi9,zj0,zj1,zj2,zj3,zj4,zj5,zj6,zj7,zj8,AV.flatB,AV.flatBs,zj9,zk0,zk1,zk2,zk3,zk4,zk5,zk6,act,AV.cells,AV.mk,AV.asSl,AV.asInt,AV.vslOf,wIdx,zk7,zk8,zk9,zl0,zl1,zl2,zl3,st0,env0,zl4,zl5,zl6,Nat.reduceAdd,Nat.reduceEqDiff,Nat.reduceLeDiff,↓reduceIte,AV.ofV,unV,← decide_not,zl7,zl8,zl9,zm0,zm1,zm2,zm3,zm4,zm5,zm6,zm7,zm8,zm9,zn0,zn1,zn2,zn3,zn4,zn5,zn6,zn7,reduceCtorEq,rowsOf,pureCells,AV.weak,AV.pureB,AV.pureBs,zn8,zn9,zo0,zo1,zo2,Nat.reduceBEq,zo3,zo4,zo5,zo6,zo7,zo8,zo9,zp0,zp1]
  simp -implicitDefEqProofs only [c_pandectlaw19_example,zp5,zp2,zp3,zp4,zp6,zp7,zp8,zp9,zq0,zq1,zl4,Nat.reduceEqDiff,↓reduceIte,zm0]
  refine ⟨⟨trivial, Nat.le_refl _, Nat.le_refl _⟩, ?_⟩
  exact fullC_end
def mv (id par aft : Bs) : PatchS := { zeroP 4 id with parent := par, after := aft }
def h1 : PatchS := zeroP 4 ⟨#[112, 49]⟩
def h2 : PatchS := { zeroP 4 ⟨#[100, 49]⟩ with after := ⟨#[112, 51]⟩ }
def h3 : PatchS := { zeroP 4 ⟨#[100, 49]⟩ with parent := ⟨#[100, 49]⟩ }
def h4 : PatchS := { zeroP 1 ⟨#[112, 52]⟩ with parent := ⟨#[100, 49]⟩, after := ⟨#[112, 49]⟩, item := ⟨2, ⟨#[112, 52]⟩, ⟨#[100, 49]⟩, nilS, nilS, nilS, false⟩ }
def h5 : PatchS := { zeroP 2 ⟨#[112, 49]⟩ with lang := 1, old := ⟨#[97, 97]⟩, new := ⟨#[98]⟩ }
def h6 : PatchS := zeroP 5 ⟨#[100, 49]⟩
theorem ex1 : applyE exL h1 = 0 := by decide +kernel
theorem ex1' : ids (applyL exL h1) = [⟨#[112, 49]⟩, ⟨#[100, 49]⟩, ⟨#[112, 50]⟩, ⟨#[112, 51]⟩] := by decide +kernel
theorem ex2 : applyE exL h2 = 0 := by decide +kernel
theorem ex2' : ids (applyL exL h2) = [⟨#[112, 51]⟩, ⟨#[100, 49]⟩, ⟨#[112, 49]⟩, ⟨#[112, 50]⟩] := by decide +kernel
theorem ex3 : applyE exL h3 = 14 := by decide +kernel
theorem ex4 : applyE exL h4 = 0 := by decide +kernel
theorem ex4' : ids (applyL exL h4) = [⟨#[100, 49]⟩, ⟨#[112, 49]⟩, ⟨#[112, 52]⟩, ⟨#[112, 50]⟩, ⟨#[112, 51]⟩] := by decide +kernel
theorem ex5 : applyE exL h5 = 15 := by decide +kernel
theorem ex6 : applyE exL h6 = 11 := by decide +kernel
end Go.Av

namespace Go.Av
variable {P : Program} {T : List Nat} {σ : Type}
theorem exFit : Fit exL := by
  intro x hx
  simp only [exL,List.mem_cons,List.not_mem_nil,or_false] at hx
  rcases hx with rfl | rfl | rfl | rfl <;> exact Nat.le_of_ble_eq_true rfl
theorem exA (L : Lay P T) (V : StrLib P T) (W : Ovl7 P T) (W2 : Clr7 P T) (p : PatchS) (e : Int) (hp : FitP p) (he : applyE exL p = e) : Con P T 46 [.agg [.sl 7 .ro (exL.map Item.row)], .agg p.row] (resC (applyL exL p) e) := by
  subst he
  exact apply_con L V W W2 exL p (by decide) exFit hp
theorem head_con (L : Lay P T) (V : StrLib P T) (W : Ovl7 P T) (W2 : Clr7 P T) : Con P T 43 [] (.imm (.bool true)) := by
  refine Con_ofA nul L.t_pandectlaw19_head [] [] (by exact Nat.le_of_ble_eq_true rfl) ?_
  change AW _ b_pandectlaw19_head _ _ _ _
  refine AW_seq ?_
  simp -implicitDefEqProofs only [PatchS.row,Item.row,fills,splice,zq7,zq8,zb0,za9,za0,za1,za2,za3,za4,eff,AV.ptrOf,AV.tokOf,za5,za6,AV.weaks,AV.weak1,za7,za8,zb1,zb2,zb3,zb4,zb5,zb6,zb7,zb8,zb9,zc0,zc1,zc2,zc3,zc4,zc5,zc6,zc7,zc8,zc9,zd0,zd1,zd2,zd3,zd4,zd5,zd6,zd7,zd8,zd9,ze0,ze1,ze2,ze3,ze4,ze5,ze6,ze7,ze8,ze9,zf0,zf1,zf2,zf3,zf4,zf5,zf6,zf7,zf8,zf9,zg0,zg1,zg2,zg3,zg4,zg5,zg6,zg7,zg8,zg9,zh0,zh1,zh2,zh3,zh4,zh5,zh6,zh7,zh8,zh9,zi0,zi1,zi2,zi3,zi4,zi5,zi6,wSnil,zi7,zi8,zi9,zj0,zj1,zj2,zj3,zj4,zj5,zj6,zj7,zj8,AV.flatB,AV.flatBs,zj9,zk0,zk1,zk2,zk3,zk4,zk5,zk6,act,AV.cells,AV.mk,AV.asSl,AV.asInt,AV.vslOf,wIdx,zk7,zk8,zk9,zl0,zl1,zl2,zl3,st0,env0,zl4,zl5,zl6,Nat.reduceAdd,Nat.reduceEqDiff,Nat.reduceLeDiff,↓reduceIte,AV.ofV,unV,← decide_not,zl7,zl8,zl9,zm0,zm1,zm2,zm3,zm4,zm5,zm6,zm7,zm8,zm9,zn0,zn1,zn2,zn3,zn4,zn5,zn6,zn7,reduceCtorEq,rowsOf,pureCells,AV.weak,AV.pureB,AV.pureBs,zn8,zn9,zo0,zo1,zo2,Nat.reduceBEq,zo3,zo4,zo5,zo6,zo7,zo8,zo9,zp0,zp1]
  refine AW_seq ?_
  simp -implicitDefEqProofs only [PatchS.row,Item.row,fills,splice,zq7,zq8,zb0,za9,za0,za1,za2,za3,za4,eff,AV.ptrOf,AV.tokOf,za5,za6,AV.weaks,AV.weak1,za7,za8,zb1,zb2,zb3,zb4,zb5,zb6,zb7,zb8,zb9,zc0,zc1,zc2,zc3,zc4,zc5,zc6,zc7,zc8,zc9,zd0,zd1,zd2,zd3,zd4,zd5,zd6,zd7,zd8,zd9,ze0,ze1,ze2,ze3,ze4,ze5,ze6,ze7,ze8,ze9,zf0,zf1,zf2,zf3,zf4,zf5,zf6,zf7,zf8,zf9,zg0,zg1,zg2,zg3,zg4,zg5,zg6,zg7,zg8,zg9,zh0,zh1,zh2,zh3,zh4,zh5,zh6,zh7,zh8,zh9,zi0,zi1,zi2,zi3,zi4,zi5,zi6,wSnil,zi7,zi8,zi9,zj0,zj1,zj2,zj3,zj4,zj5,zj6,zj7,zj8,AV.flatB,AV.flatBs,zj9,zk0,zk1,zk2,zk3,zk4,zk5,zk6,act,AV.cells,AV.mk,AV.asSl,AV.asInt,AV.vslOf,wIdx,zk7,zk8,zk9,zl0,zl1,zl2,zl3,st0,env0,zl4,zl5,zl6,Nat.reduceAdd,Nat.reduceEqDiff,Nat.reduceLeDiff,↓reduceIte,AV.ofV,unV,← decide_not,zl7,zl8,zl9,zm0,zm1,zm2,zm3,zm4,zm5,zm6,zm7,zm8,zm9,zn0,zn1,zn2,zn3,zn4,zn5,zn6,zn7,reduceCtorEq,rowsOf,pureCells,AV.weak,AV.pureB,AV.pureBs,zn8,zn9,zo0,zo1,zo2,Nat.reduceBEq,zo3,zo4,zo5,zo6,zo7,zo8,zo9,zp0,zp1]
  refine wCall_pure (example_con L) rfl rfl (AV.les2_refl _) ?_
  simp -implicitDefEqProofs only [PatchS.row,Item.row,fills,splice,zq7,zq8,zb0,za9,za0,za1,za2,za3,za4,eff,AV.ptrOf,AV.tokOf,za5,za6,AV.weaks,AV.weak1,za7,za8,zb1,zb2,zb3,zb4,zb5,zb6,zb7,zb8,zb9,zc0,zc1,zc2,zc3,zc4,zc5,zc6,zc7,zc8,zc9,zd0,zd1,zd2,zd3,zd4,zd5,zd6,zd7,zd8,zd9,ze0,ze1,ze2,ze3,ze4,ze5,ze6,ze7,ze8,ze9,zf0,zf1,zf2,zf3,zf4,zf5,zf6,zf7,zf8,zf9,zg0,zg1,zg2,zg3,zg4,zg5,zg6,zg7,zg8,zg9,zh0,zh1,zh2,zh3,zh4,zh5,zh6,zh7,zh8,zh9,zi0,zi1,zi2,zi3,zi4,zi5,zi6,wSnil,zi7,zi8,zi9,zj0,zj1,zj2,zj3,zj4,zj5,zj6,zj7,zj8,AV.flatB,AV.flatBs,zj9,zk0,zk1,zk2,zk3,zk4,zk5,zk6,act,AV.cells,AV.mk,AV.asSl,AV.asInt,AV.vslOf,wIdx,zk7,zk8,zk9,zl0,zl1,zl2,zl3,st0,env0,zl4,zl5,zl6,Nat.reduceAdd,Nat.reduceEqDiff,Nat.reduceLeDiff,↓reduceIte,AV.ofV,unV,← decide_not,zl7,zl8,zl9,zm0,zm1,zm2,zm3,zm4,zm5,zm6,zm7,zm8,zm9,zn0,zn1,zn2,zn3,zn4,zn5,zn6,zn7,reduceCtorEq,rowsOf,pureCells,AV.weak,AV.pureB,AV.pureBs,zn8,zn9,zo0,zo1,zo2,Nat.reduceBEq,zo3,zo4,zo5,zo6,zo7,zo8,zo9,zp0,zp1]
  refine AW_gen [(1, .ptr 1 1 0)] [(1, 1)] [(1, [.sl 7 .ro (exL.map Item.row)])] ?_ ?_
  · simp -implicitDefEqProofs only [PatchS.row,Item.row,fills,splice,zq7,zq8,zb0,za9,undefA,zq2,zq3,zq4,zq5,zq6,Envs,Gens,Vars,za0,za1,za2,za3,za4,eff,AV.ptrOf,AV.tokOf,za5,za6,AV.weaks,AV.weak1,za7,za8,zb1,zb2,zb3,zb4,zb5,zb6,zb7,zb8,zb9,zc0,zc1,zc2,zc3,zc4,zc5,zc6,zc7,zc8,zc9,zd0,zd1,zd2,zd3,zd4,zd5,zd6,zd7,zd8,zd9,ze0,ze1,ze2,ze3,ze4,ze5,ze6,ze7,ze8,ze9,zf0,zf1,zf2,zf3,zf4,zf5,zf6,zf7,zf8,zf9,zg0,zg1,zg2,zg3,zg4,zg5,zg6,zg7,zg8,zg9,zh0,zh1,zh2,zh3,zh4,zh5,zh6,zh7,zh8,zh9,zi0,zi1,zi2,zi3,zi4,zi5,zi6,wSnil,zi7,zi8,zi9,zj0,zj1,zj2,zj3,zj4,zj5,zj6,zj7,zj8,AV.flatB,AV.flatBs,zj9,zk0,zk1,zk2,zk3,zk4,zk5,zk6,act,AV.cells,AV.mk,AV.asSl,AV.asInt,AV.vslOf,wIdx,zk7,zk8,zk9,zl0,zl1,zl2,zl3,st0,env0,zl4,zl5,zl6,Nat.reduceAdd,Nat.reduceEqDiff,Nat.reduceLeDiff,↓reduceIte,AV.ofV,unV,← decide_not,zl7,zl8,zl9,zm0,zm1,zm2,zm3,zm4,zm5,zm6,zm7,zm8,zm9,zn0,zn1,zn2,zn3,zn4,zn5,zn6,zn7,reduceCtorEq,rowsOf,pureCells,AV.weak,AV.pureB,AV.pureBs,zn8,zn9,zo0,zo1,zo2,Nat.reduceBEq,zo3,zo4,zo5,zo6,zo7,zo8,zo9,zp0,zp1]
  rintro e g v tg tp x' ⟨e1, -⟩ ⟨g1, -⟩ ⟨v1, -⟩
  refine AW_seq ?_
  simp -implicitDefEqProofs only [e1,g1,v1,PatchS.row,Item.row,fills,splice,zq7,zq8,zb0,za9,za0,za1,za2,za3,za4,eff,AV.ptrOf,AV.tokOf,za5,za6,AV.weaks,AV.weak1,za7,za8,zb1,zb2,zb3,zb4,zb5,zb6,zb7,zb8,zb9,zc0,zc1,zc2,zc3,zc4,zc5,zc6,zc7,zc8,zc9,zd0,zd1,zd2,zd3,zd4,zd5,zd6,zd7,zd8,zd9,ze0,ze1,ze2,ze3,ze4,ze5,ze6,ze7,ze8,ze9,zf0,zf1,zf2,zf3,zf4,zf5,zf6,zf7,zf8,zf9,zg0,zg1,zg2,zg3,zg4,zg5,zg6,zg7,zg8,zg9,zh0,zh1,zh2,zh3,zh4,zh5,zh6,zh7,zh8,zh9,zi0,zi1,zi2,zi3,zi4,zi5,zi6,wSnil,zi7,zi8,zi9,zj0,zj1,zj2,zj3,zj4,zj5,zj6,zj7,zj8,AV.flatB,AV.flatBs,zj9,zk0,zk1,zk2,zk3,zk4,zk5,zk6,act,AV.cells,AV.mk,AV.asSl,AV.asInt,AV.vslOf,wIdx,zk7,zk8,zk9,zl0,zl1,zl2,zl3,st0,env0,zl4,zl5,zl6,Nat.reduceAdd,Nat.reduceEqDiff,Nat.reduceLeDiff,↓reduceIte,AV.ofV,unV,← decide_not,zl7,zl8,zl9,zm0,zm1,zm2,zm3,zm4,zm5,zm6,zm7,zm8,zm9,zn0,zn1,zn2,zn3,zn4,zn5,zn6,zn7,reduceCtorEq,rowsOf,pureCells,AV.weak,AV.pureB,AV.pureBs,zn8,zn9,zo0,zo1,zo2,Nat.reduceBEq,zo3,zo4,zo5,zo6,zo7,zo8,zo9,zp0,zp1]
  refine wCall_pure (exA L V W W2 h1 0 ⟨Nat.le_of_ble_eq_true rfl, Nat.le_of_ble_eq_true rfl, Nat.le_of_ble_eq_true rfl⟩ ex1) rfl rfl (AV.les2_refl _) ?_
  simp -implicitDefEqProofs only [resC,e1,g1,v1,PatchS.row,Item.row,fills,splice,zq7,zq8,zb0,za9,za0,za1,za2,za3,za4,eff,AV.ptrOf,AV.tokOf,za5,za6,AV.weaks,AV.weak1,za7,za8,zb1,zb2,zb3,zb4,zb5,zb6,zb7,zb8,zb9,zc0,zc1,zc2,zc3,zc4,zc5,zc6,zc7,zc8,zc9,zd0,zd1,zd2,zd3,zd4,zd5,zd6,zd7,zd8,zd9,ze0,ze1,ze2,ze3,ze4,ze5,ze6,ze7,ze8,ze9,zf0,zf1,zf2,zf3,zf4,zf5,zf6,zf7,zf8,zf9,zg0,zg1,zg2,zg3,zg4,zg5,zg6,zg7,zg8,zg9,zh0,zh1,zh2,zh3,zh4,zh5,zh6,zh7,zh8,zh9,zi0,zi1,zi2,zi3,zi4,zi5,zi6,wSnil,zi7,zi8,zi9,zj0,zj1,zj2,zj3,zj4,zj5,zj6,zj7,zj8,AV.flatB,AV.flatBs,zj9,zk0,zk1,zk2,zk3,zk4,zk5,zk6,act,AV.cells,AV.mk,AV.asSl,AV.asInt,AV.vslOf,wIdx,zk7,zk8,zk9,zl0,zl1,zl2,zl3,st0,env0,zl4,zl5,zl6,Nat.reduceAdd,Nat.reduceEqDiff,Nat.reduceLeDiff,↓reduceIte,AV.ofV,unV,← decide_not,zl7,zl8,zl9,zm0,zm1,zm2,zm3,zm4,zm5,zm6,zm7,zm8,zm9,zn0,zn1,zn2,zn3,zn4,zn5,zn6,zn7,reduceCtorEq,rowsOf,pureCells,AV.weak,AV.pureB,AV.pureBs,zn8,zn9,zo0,zo1,zo2,Nat.reduceBEq,zo3,zo4,zo5,zo6,zo7,zo8,zo9,zp0,zp1]
  refine AW_gen [(1, .ptr 1 1 0), (3, .imm (.int .i64 0)), (2, .ptr 2 (g 2 + 1) 0)] [(1, 1), (2, g 2 + 1)] [(1, [.sl 7 .ro (exL.map Item.row)]), (2, [.sl 7 .ro ((applyL exL h1).map Item.row)])] ?_ ?_
  · simp -implicitDefEqProofs only [e1,g1,v1,PatchS.row,Item.row,fills,splice,zq7,zq8,zb0,za9,undefA,zq2,zq3,zq4,zq5,zq6,Envs,Gens,Vars,za0,za1,za2,za3,za4,eff,AV.ptrOf,AV.tokOf,za5,za6,AV.weaks,AV.weak1,za7,za8,zb1,zb2,zb3,zb4,zb5,zb6,zb7,zb8,zb9,zc0,zc1,zc2,zc3,zc4,zc5,zc6,zc7,zc8,zc9,zd0,zd1,zd2,zd3,zd4,zd5,zd6,zd7,zd8,zd9,ze0,ze1,ze2,ze3,ze4,ze5,ze6,ze7,ze8,ze9,zf0,zf1,zf2,zf3,zf4,zf5,zf6,zf7,zf8,zf9,zg0,zg1,zg2,zg3,zg4,zg5,zg6,zg7,zg8,zg9,zh0,zh1,zh2,zh3,zh4,zh5,zh6,zh7,zh8,zh9,zi0,zi1,zi2,zi3,zi4,zi5,zi6,wSnil,zi7,zi8,zi9,zj0,zj1,zj2,zj3,zj4,zj5,zj6,zj7,zj8,AV.flatB,AV.flatBs,zj9,zk0,zk1,zk2,zk3,zk4,zk5,zk6,act,AV.cells,AV.mk,AV.asSl,AV.asInt,AV.vslOf,wIdx,zk7,zk8,zk9,zl0,zl1,zl2,zl3,st0,env0,zl4,zl5,zl6,Nat.reduceAdd,Nat.reduceEqDiff,Nat.reduceLeDiff,↓reduceIte,AV.ofV,unV,← decide_not,zl7,zl8,zl9,zm0,zm1,zm2,zm3,zm4,zm5,zm6,zm7,zm8,zm9,zn0,zn1,zn2,zn3,zn4,zn5,zn6,zn7,reduceCtorEq,rowsOf,pureCells,AV.weak,AV.pureB,AV.pureBs,zn8,zn9,zo0,zo1,zo2,Nat.reduceBEq,zo3,zo4,zo5,zo6,zo7,zo8,zo9,zp0,zp1]
  clear e1 g1 v1
  have hg2 : 1 ≤ g 2 + 1 := by omega
  generalize g 2 + 1 = k2 at hg2 ⊢
  rintro e g v tg tp x' ⟨e1, e3, e2, -⟩ ⟨g1, g2, -⟩ ⟨v1, v2, -⟩
  refine AW_seq ?_
  simp -implicitDefEqProofs only [e1,e3,e2,g1,g2,v1,v2,PatchS.row,Item.row,fills,splice,zq7,zq8,zb0,za9,za0,za1,za2,za3,za4,eff,AV.ptrOf,AV.tokOf,za5,za6,AV.weaks,AV.weak1,za7,za8,zb1,zb2,zb3,zb4,zb5,zb6,zb7,zb8,zb9,zc0,zc1,zc2,zc3,zc4,zc5,zc6,zc7,zc8,zc9,zd0,zd1,zd2,zd3,zd4,zd5,zd6,zd7,zd8,zd9,ze0,ze1,ze2,ze3,ze4,ze5,ze6,ze7,ze8,ze9,zf0,zf1,zf2,zf3,zf4,zf5,zf6,zf7,zf8,zf9,zg0,zg1,zg2,zg3,zg4,zg5,zg6,zg7,zg8,zg9,zh0,zh1,zh2,zh3,zh4,zh5,zh6,zh7,zh8,zh9,zi0,zi1,zi2,zi3,zi4,zi5,zi6,wSnil,zi7,zi8,zi9,zj0,zj1,zj2,zj3,zj4,zj5,zj6,zj7,zj8,AV.flatB,AV.flatBs,zj9,zk0,zk1,zk2,zk3,zk4,zk5,zk6,act,AV.cells,AV.mk,AV.asSl,AV.asInt,AV.vslOf,wIdx,zk7,zk8,zk9,zl0,zl1,zl2,zl3,st0,env0,zl4,zl5,zl6,Nat.reduceAdd,Nat.reduceEqDiff,Nat.reduceLeDiff,↓reduceIte,AV.ofV,unV,← decide_not,zl7,zl8,zl9,zm0,zm1,zm2,zm3,zm4,zm5,zm6,zm7,zm8,zm9,zn0,zn1,zn2,zn3,zn4,zn5,zn6,zn7,reduceCtorEq,rowsOf,pureCells,AV.weak,AV.pureB,AV.pureBs,zn8,zn9,zo0,zo1,zo2,Nat.reduceBEq,zo3,zo4,zo5,zo6,zo7,zo8,zo9,zp0,zp1]
  try refine ⟨by omega, ?_⟩
  refine wCall_pure (exA L V W W2 h2 0 ⟨Nat.le_of_ble_eq_true rfl, Nat.le_of_ble_eq_true rfl, Nat.le_of_ble_eq_true rfl⟩ ex2) rfl rfl (AV.les2_refl _) ?_
  simp -implicitDefEqProofs only [resC,e1,e3,e2,g1,g2,v1,v2,PatchS.row,Item.row,fills,splice,zq7,zq8,zb0,za9,za0,za1,za2,za3,za4,eff,AV.ptrOf,AV.tokOf,za5,za6,AV.weaks,AV.weak1,za7,za8,zb1,zb2,zb3,zb4,zb5,zb6,zb7,zb8,zb9,zc0,zc1,zc2,zc3,zc4,zc5,zc6,zc7,zc8,zc9,zd0,zd1,zd2,zd3,zd4,zd5,zd6,zd7,zd8,zd9,ze0,ze1,ze2,ze3,ze4,ze5,ze6,ze7,ze8,ze9,zf0,zf1,zf2,zf3,zf4,zf5,zf6,zf7,zf8,zf9,zg0,zg1,zg2,zg3,zg4,zg5,zg6,zg7,zg8,zg9,zh0,zh1,zh2,zh3,zh4,zh5,zh6,zh7,zh8,zh9,zi0,zi1,zi2,zi3,zi4,zi5,zi6,wSnil,zi7,zi8,zi9,zj0,zj1,zj2,zj3,zj4,zj5,zj6,zj7,zj8,AV.flatB,AV.flatBs,zj9,zk0,zk1,zk2,zk3,zk4,zk5,zk6,act,AV.cells,AV.mk,AV.asSl,AV.asInt,AV.vslOf,wIdx,zk7,zk8,zk9,zl0,zl1,zl2,zl3,st0,env0,zl4,zl5,zl6,Nat.reduceAdd,Nat.reduceEqDiff,Nat.reduceLeDiff,↓reduceIte,AV.ofV,unV,← decide_not,zl7,zl8,zl9,zm0,zm1,zm2,zm3,zm4,zm5,zm6,zm7,zm8,zm9,zn0,zn1,zn2,zn3,zn4,zn5,zn6,zn7,reduceCtorEq,rowsOf,pureCells,AV.weak,AV.pureB,AV.pureBs,zn8,zn9,zo0,zo1,zo2,Nat.reduceBEq,zo3,zo4,zo5,zo6,zo7,zo8,zo9,zp0,zp1]
  refine AW_gen [(1, .ptr 1 1 0), (3, .imm (.int .i64 0)), (2, .ptr 2 k2 0), (5, .imm (.int .i64 0)), (4, .ptr 4 (g 4 + 1) 0)] [(1, 1), (2, k2), (4, g 4 + 1)] [(1, [.sl 7 .ro (exL.map Item.row)]), (2, [.sl 7 .ro ((applyL exL h1).map Item.row)]), (4, [.sl 7 .ro ((applyL exL h2).map Item.row)])] ?_ ?_
  · simp -implicitDefEqProofs only [e1,e3,e2,g1,g2,v1,v2,PatchS.row,Item.row,fills,splice,zq7,zq8,zb0,za9,undefA,zq2,zq3,zq4,zq5,zq6,Envs,Gens,Vars,za0,za1,za2,za3,za4,eff,AV.ptrOf,AV.tokOf,za5,za6,AV.weaks,AV.weak1,za7,za8,zb1,zb2,zb3,zb4,zb5,zb6,zb7,zb8,zb9,zc0,zc1,zc2,zc3,zc4,zc5,zc6,zc7,zc8,zc9,zd0,zd1,zd2,zd3,zd4,zd5,zd6,zd7,zd8,zd9,ze0,ze1,ze2,ze3,ze4,ze5,ze6,ze7,ze8,ze9,zf0,zf1,zf2,zf3,zf4,zf5,zf6,zf7,zf8,zf9,zg0,zg1,zg2,zg3,zg4,zg5,zg6,zg7,zg8,zg9,zh0,zh1,zh2,zh3,zh4,zh5,zh6,zh7,zh8,zh9,zi0,zi1,zi2,zi3,zi4,zi5,zi6,wSnil,zi7,zi8,zi9,zj0,zj1,zj2,zj3,zj4,zj5,zj6,zj7,zj8,AV.flatB,AV.flatBs,zj9,zk0,zk1,zk2,zk3,zk4,zk5,zk6,act,AV.cells,AV.mk,AV.asSl,AV.asInt,AV.vslOf,wIdx,zk7,zk8,zk9,zl0,zl1,zl2,zl3,st0,env0,zl4,zl5,zl6,Nat.reduceAdd,Nat.reduceEqDiff,Nat.reduceLeDiff,↓reduceIte,AV.ofV,unV,← decide_not,zl7,zl8,zl9,zm0,zm1,zm2,zm3,zm4,zm5,zm6,zm7,zm8,zm9,zn0,zn1,zn2,zn3,zn4,zn5,zn6,zn7,reduceCtorEq,rowsOf,pureCells,AV.weak,AV.pureB,AV.pureBs,zn8,zn9,zo0,zo1,zo2,Nat.reduceBEq,zo3,zo4,zo5,zo6,zo7,zo8,zo9,zp0,zp1]
  clear e1 e3 e2 g1 g2 v1 v2
  have hg4 : 1 ≤ g 4 + 1 := by omega
  generalize g 4 + 1 = k4 at hg4 ⊢
  rintro e g v tg tp x' ⟨e1, e3, e2, e5, e4, -⟩ ⟨g1, g2, g4, -⟩ ⟨v1, v2, v4, -⟩
  refine AW_seq ?_
  simp -implicitDefEqProofs only [e1,e3,e2,e5,e4,g1,g2,g4,v1,v2,v4,PatchS.row,Item.row,fills,splice,zq7,zq8,zb0,za9,za0,za1,za2,za3,za4,eff,AV.ptrOf,AV.tokOf,za5,za6,AV.weaks,AV.weak1,za7,za8,zb1,zb2,zb3,zb4,zb5,zb6,zb7,zb8,zb9,zc0,zc1,zc2,zc3,zc4,zc5,zc6,zc7,zc8,zc9,zd0,zd1,zd2,zd3,zd4,zd5,zd6,zd7,zd8,zd9,ze0,ze1,ze2,ze3,ze4,ze5,ze6,ze7,ze8,ze9,zf0,zf1,zf2,zf3,zf4,zf5,zf6,zf7,zf8,zf9,zg0,zg1,zg2,zg3,zg4,zg5,zg6,zg7,zg8,zg9,zh0,zh1,zh2,zh3,zh4,zh5,zh6,zh7,zh8,zh9,zi0,zi1,zi2,zi3,zi4,zi5,zi6,wSnil,zi7,zi8,zi9,zj0,zj1,zj2,zj3,zj4,zj5,zj6,zj7,zj8,AV.flatB,AV.flatBs,zj9,zk0,zk1,zk2,zk3,zk4,zk5,zk6,act,AV.cells,AV.mk,AV.asSl,AV.asInt,AV.vslOf,wIdx,zk7,zk8,zk9,zl0,zl1,zl2,zl3,st0,env0,zl4,zl5,zl6,Nat.reduceAdd,Nat.reduceEqDiff,Nat.reduceLeDiff,↓reduceIte,AV.ofV,unV,← decide_not,zl7,zl8,zl9,zm0,zm1,zm2,zm3,zm4,zm5,zm6,zm7,zm8,zm9,zn0,zn1,zn2,zn3,zn4,zn5,zn6,zn7,reduceCtorEq,rowsOf,pureCells,AV.weak,AV.pureB,AV.pureBs,zn8,zn9,zo0,zo1,zo2,Nat.reduceBEq,zo3,zo4,zo5,zo6,zo7,zo8,zo9,zp0,zp1]
  try refine ⟨by omega, ?_⟩
  refine wCall_pure (exA L V W W2 h3 14 ⟨Nat.le_of_ble_eq_true rfl, Nat.le_of_ble_eq_true rfl, Nat.le_of_ble_eq_true rfl⟩ ex3) rfl rfl (AV.les2_refl _) ?_
  simp -implicitDefEqProofs only [resC,e1,e3,e2,e5,e4,g1,g2,g4,v1,v2,v4,PatchS.row,Item.row,fills,splice,zq7,zq8,zb0,za9,za0,za1,za2,za3,za4,eff,AV.ptrOf,AV.tokOf,za5,za6,AV.weaks,AV.weak1,za7,za8,zb1,zb2,zb3,zb4,zb5,zb6,zb7,zb8,zb9,zc0,zc1,zc2,zc3,zc4,zc5,zc6,zc7,zc8,zc9,zd0,zd1,zd2,zd3,zd4,zd5,zd6,zd7,zd8,zd9,ze0,ze1,ze2,ze3,ze4,ze5,ze6,ze7,ze8,ze9,zf0,zf1,zf2,zf3,zf4,zf5,zf6,zf7,zf8,zf9,zg0,zg1,zg2,zg3,zg4,zg5,zg6,zg7,zg8,zg9,zh0,zh1,zh2,zh3,zh4,zh5,zh6,zh7,zh8,zh9,zi0,zi1,zi2,zi3,zi4,zi5,zi6,wSnil,zi7,zi8,zi9,zj0,zj1,zj2,zj3,zj4,zj5,zj6,zj7,zj8,AV.flatB,AV.flatBs,zj9,zk0,zk1,zk2,zk3,zk4,zk5,zk6,act,AV.cells,AV.mk,AV.asSl,AV.asInt,AV.vslOf,wIdx,zk7,zk8,zk9,zl0,zl1,zl2,zl3,st0,env0,zl4,zl5,zl6,Nat.reduceAdd,Nat.reduceEqDiff,Nat.reduceLeDiff,↓reduceIte,AV.ofV,unV,← decide_not,zl7,zl8,zl9,zm0,zm1,zm2,zm3,zm4,zm5,zm6,zm7,zm8,zm9,zn0,zn1,zn2,zn3,zn4,zn5,zn6,zn7,reduceCtorEq,rowsOf,pureCells,AV.weak,AV.pureB,AV.pureBs,zn8,zn9,zo0,zo1,zo2,Nat.reduceBEq,zo3,zo4,zo5,zo6,zo7,zo8,zo9,zp0,zp1]
  refine AW_gen [(1, .ptr 1 1 0), (3, .imm (.int .i64 0)), (2, .ptr 2 k2 0), (5, .imm (.int .i64 0)), (4, .ptr 4 k4 0), (7, .imm (.int .i64 14))] [(1, 1), (2, k2), (4, k4)] [(1, [.sl 7 .ro (exL.map Item.row)]), (2, [.sl 7 .ro ((applyL exL h1).map Item.row)]), (4, [.sl 7 .ro ((applyL exL h2).map Item.row)])] ?_ ?_
  · simp -implicitDefEqProofs only [e1,e3,e2,e5,e4,g1,g2,g4,v1,v2,v4,PatchS.row,Item.row,fills,splice,zq7,zq8,zb0,za9,undefA,zq2,zq3,zq4,zq5,zq6,Envs,Gens,Vars,za0,za1,za2,za3,za4,eff,AV.ptrOf,AV.tokOf,za5,za6,AV.weaks,AV.weak1,za7,za8,zb1,zb2,zb3,zb4,zb5,zb6,zb7,zb8,zb9,zc0,zc1,zc2,zc3,zc4,zc5,zc6,zc7,zc8,zc9,zd0,zd1,zd2,zd3,zd4,zd5,zd6,zd7,zd8,zd9,ze0,ze1,ze2,ze3,ze4,ze5,ze6,ze7,ze8,ze9,zf0,zf1,zf2,zf3,zf4,zf5,zf6,zf7,zf8,zf9,zg0,zg1,zg2,zg3,zg4,zg5,zg6,zg7,zg8,zg9,zh0,zh1,zh2,zh3,zh4,zh5,zh6,zh7,zh8,zh9,zi0,zi1,zi2,zi3,zi4,zi5,zi6,wSnil,zi7,zi8,zi9,zj0,zj1,zj2,zj3,zj4,zj5,zj6,zj7,zj8,AV.flatB,AV.flatBs,zj9,zk0,zk1,zk2,zk3,zk4,zk5,zk6,act,AV.cells,AV.mk,AV.asSl,AV.asInt,AV.vslOf,wIdx,zk7,zk8,zk9,zl0,zl1,zl2,zl3,st0,env0,zl4,zl5,zl6,Nat.reduceAdd,Nat.reduceEqDiff,Nat.reduceLeDiff,↓reduceIte,AV.ofV,unV,← decide_not,zl7,zl8,zl9,zm0,zm1,zm2,zm3,zm4,zm5,zm6,zm7,zm8,zm9,zn0,zn1,zn2,zn3,zn4,zn5,zn6,zn7,reduceCtorEq,rowsOf,pureCells,AV.weak,AV.pureB,AV.pureBs,zn8,zn9,zo0,zo1,zo2,Nat.reduceBEq,zo3,zo4,zo5,zo6,zo7,zo8,zo9,zp0,zp1]
  clear e1 e3 e2 e5 e4 g1 g2 g4 v1 v2 v4
  rintro e g v tg tp x' ⟨e1, e3, e2, e5, e4, e7, -⟩ ⟨g1, g2, g4, -⟩ ⟨v1, v2, v4, -⟩
  refine AW_seq ?_
  simp -implicitDefEqProofs only [e1,e3,e2,e5,e4,e7,g1,g2,g4,v1,v2,v4,PatchS.row,Item.row,fills,splice,zq7,zq8,zb0,za9,za0,za1,za2,za3,za4,eff,AV.ptrOf,AV.tokOf,za5,za6,AV.weaks,AV.weak1,za7,za8,zb1,zb2,zb3,zb4,zb5,zb6,zb7,zb8,zb9,zc0,zc1,zc2,zc3,zc4,zc5,zc6,zc7,zc8,zc9,zd0,zd1,zd2,zd3,zd4,zd5,zd6,zd7,zd8,zd9,ze0,ze1,ze2,ze3,ze4,ze5,ze6,ze7,ze8,ze9,zf0,zf1,zf2,zf3,zf4,zf5,zf6,zf7,zf8,zf9,zg0,zg1,zg2,zg3,zg4,zg5,zg6,zg7,zg8,zg9,zh0,zh1,zh2,zh3,zh4,zh5,zh6,zh7,zh8,zh9,zi0,zi1,zi2,zi3,zi4,zi5,zi6,wSnil,zi7,zi8,zi9,zj0,zj1,zj2,zj3,zj4,zj5,zj6,zj7,zj8,AV.flatB,AV.flatBs,zj9,zk0,zk1,zk2,zk3,zk4,zk5,zk6,act,AV.cells,AV.mk,AV.asSl,AV.asInt,AV.vslOf,wIdx,zk7,zk8,zk9,zl0,zl1,zl2,zl3,st0,env0,zl4,zl5,zl6,Nat.reduceAdd,Nat.reduceEqDiff,Nat.reduceLeDiff,↓reduceIte,AV.ofV,unV,← decide_not,zl7,zl8,zl9,zm0,zm1,zm2,zm3,zm4,zm5,zm6,zm7,zm8,zm9,zn0,zn1,zn2,zn3,zn4,zn5,zn6,zn7,reduceCtorEq,rowsOf,pureCells,AV.weak,AV.pureB,AV.pureBs,zn8,zn9,zo0,zo1,zo2,Nat.reduceBEq,zo3,zo4,zo5,zo6,zo7,zo8,zo9,zp0,zp1]
  refine AW_gen [(1, .ptr 1 1 0), (3, .imm (.int .i64 0)), (2, .ptr 2 k2 0), (5, .imm (.int .i64 0)), (4, .ptr 4 k4 0), (7, .imm (.int .i64 14)), (8, .ptr 8 (g 8 + 1) 0)] [(1, 1), (2, k2), (4, k4), (8, g 8 + 1)] [(1, [.sl 7 .ro (exL.map Item.row)]), (2, [.sl 7 .ro ((applyL exL h1).map Item.row)]), (4, [.sl 7 .ro ((applyL exL h2).map Item.row)]), (8, (⟨2, ⟨#[112, 52]⟩, ⟨#[100, 49]⟩, nilS, nilS, nilS, false⟩ : Item).row)] ?_ ?_
  · simp -implicitDefEqProofs only [e1,e3,e2,e5,e4,e7,g1,g2,g4,v1,v2,v4,PatchS.row,Item.row,fills,splice,zq7,zq8,zb0,za9,undefA,zq2,zq3,zq4,zq5,zq6,Envs,Gens,Vars,za0,za1,za2,za3,za4,eff,AV.ptrOf,AV.tokOf,za5,za6,AV.weaks,AV.weak1,za7,za8,zb1,zb2,zb3,zb4,zb5,zb6,zb7,zb8,zb9,zc0,zc1,zc2,zc3,zc4,zc5,zc6,zc7,zc8,zc9,zd0,zd1,zd2,zd3,zd4,zd5,zd6,zd7,zd8,zd9,ze0,ze1,ze2,ze3,ze4,ze5,ze6,ze7,ze8,ze9,zf0,zf1,zf2,zf3,zf4,zf5,zf6,zf7,zf8,zf9,zg0,zg1,zg2,zg3,zg4,zg5,zg6,zg7,zg8,zg9,zh0,zh1,zh2,zh3,zh4,zh5,zh6,zh7,zh8,zh9,zi0,zi1,zi2,zi3,zi4,zi5,zi6,wSnil,zi7,zi8,zi9,zj0,zj1,zj2,zj3,zj4,zj5,zj6,zj7,zj8,AV.flatB,AV.flatBs,zj9,zk0,zk1,zk2,zk3,zk4,zk5,zk6,act,AV.cells,AV.mk,AV.asSl,AV.asInt,AV.vslOf,wIdx,zk7,zk8,zk9,zl0,zl1,zl2,zl3,st0,env0,zl4,zl5,zl6,Nat.reduceAdd,Nat.reduceEqDiff,Nat.reduceLeDiff,↓reduceIte,AV.ofV,unV,← decide_not,zl7,zl8,zl9,zm0,zm1,zm2,zm3,zm4,zm5,zm6,zm7,zm8,zm9,zn0,zn1,zn2,zn3,zn4,zn5,zn6,zn7,reduceCtorEq,rowsOf,pureCells,AV.weak,AV.pureB,AV.pureBs,zn8,zn9,zo0,zo1,zo2,Nat.reduceBEq,zo3,zo4,zo5,zo6,zo7,zo8,zo9,zp0,zp1]
    rfl
  clear e1 e3 e2 e5 e4 e7 g1 g2 g4 v1 v2 v4
  have hg8 : 1 ≤ g 8 + 1 := by omega
  generalize g 8 + 1 = k8 at hg8 ⊢
  rintro e g v tg tp x' ⟨e1, e3, e2, e5, e4, e7, e8, -⟩ ⟨g1, g2, g4, g8, -⟩ ⟨v1, v2, v4, v8, -⟩
  refine AW_seq ?_
  simp -implicitDefEqProofs only [e1,e3,e2,e5,e4,e7,e8,g1,g2,g4,g8,v1,v2,v4,v8,PatchS.row,Item.row,fills,splice,zq7,zq8,zb0,za9,za0,za1,za2,za3,za4,eff,AV.ptrOf,AV.tokOf,za5,za6,AV.weaks,AV.weak1,za7,za8,zb1,zb2,zb3,zb4,zb5,zb6,zb7,zb8,zb9,zc0,zc1,zc2,zc3,zc4,zc5,zc6,zc7,zc8,zc9,zd0,zd1,zd2,zd3,zd4,zd5,zd6,zd7,zd8,zd9,ze0,ze1,ze2,ze3,ze4,ze5,ze6,ze7,ze8,ze9,zf0,zf1,zf2,zf3,zf4,zf5,zf6,zf7,zf8,zf9,zg0,zg1,zg2,zg3,zg4,zg5,zg6,zg7,zg8,zg9,zh0,zh1,zh2,zh3,zh4,zh5,zh6,zh7,zh8,zh9,zi0,zi1,zi2,zi3,zi4,zi5,zi6,wSnil,zi7,zi8,zi9,zj0,zj1,zj2,zj3,zj4,zj5,zj6,zj7,zj8,AV.flatB,AV.flatBs,zj9,zk0,zk1,zk2,zk3,zk4,zk5,zk6,act,AV.cells,AV.mk,AV.asSl,AV.asInt,AV.vslOf,wIdx,zk7,zk8,zk9,zl0,zl1,zl2,zl3,st0,env0,zl4,zl5,zl6,Nat.reduceAdd,Nat.reduceEqDiff,Nat.reduceLeDiff,↓reduceIte,AV.ofV,unV,← decide_not,zl7,zl8,zl9,zm0,zm1,zm2,zm3,zm4,zm5,zm6,zm7,zm8,zm9,zn0,zn1,zn2,zn3,zn4,zn5,zn6,zn7,reduceCtorEq,rowsOf,pureCells,AV.weak,AV.pureB,AV.pureBs,zn8,zn9,zo0,zo1,zo2,Nat.reduceBEq,zo3,zo4,zo5,zo6,zo7,zo8,zo9,zp0,zp1]
  try refine ⟨by omega, ?_⟩
  refine wCall_pure (exA L V W W2 h4 0 ⟨Nat.le_of_ble_eq_true rfl, Nat.le_of_ble_eq_true rfl, Nat.le_of_ble_eq_true rfl⟩ ex4) rfl rfl (AV.les2_refl _) ?_
  simp -implicitDefEqProofs only [resC,e1,e3,e2,e5,e4,e7,e8,g1,g2,g4,g8,v1,v2,v4,v8,PatchS.row,Item.row,fills,splice,zq7,zq8,zb0,za9,za0,za1,za2,za3,za4,eff,AV.ptrOf,AV.tokOf,za5,za6,AV.weaks,AV.weak1,za7,za8,zb1,zb2,zb3,zb4,zb5,zb6,zb7,zb8,zb9,zc0,zc1,zc2,zc3,zc4,zc5,zc6,zc7,zc8,zc9,zd0,zd1,zd2,zd3,zd4,zd5,zd6,zd7,zd8,zd9,ze0,ze1,ze2,ze3,ze4,ze5,ze6,ze7,ze8,ze9,zf0,zf1,zf2,zf3,zf4,zf5,zf6,zf7,zf8,zf9,zg0,zg1,zg2,zg3,zg4,zg5,zg6,zg7,zg8,zg9,zh0,zh1,zh2,zh3,zh4,zh5,zh6,zh7,zh8,zh9,zi0,zi1,zi2,zi3,zi4,zi5,zi6,wSnil,zi7,zi8,zi9,zj0,zj1,zj2,zj3,zj4,zj5,zj6,zj7,zj8,AV.flatB,AV.flatBs,zj9,zk0,zk1,zk2,zk3,zk4,zk5,zk6,act,AV.cells,AV.mk,AV.asSl,AV.asInt,AV.vslOf,wIdx,zk7,zk8,zk9,zl0,zl1,zl2,zl3,st0,env0,zl4,zl5,zl6,Nat.reduceAdd,Nat.reduceEqDiff,Nat.reduceLeDiff,↓reduceIte,AV.ofV,unV,← decide_not,zl7,zl8,zl9,zm0,zm1,zm2,zm3,zm4,zm5,zm6,zm7,zm8,zm9,zn0,zn1,zn2,zn3,zn4,zn5,zn6,zn7,reduceCtorEq,rowsOf,pureCells,AV.weak,AV.pureB,AV.pureBs,zn8,zn9,zo0,zo1,zo2,Nat.reduceBEq,zo3,zo4,zo5,zo6,zo7,zo8,zo9,zp0,zp1]
  refine AW_gen [(1, .ptr 1 1 0), (3, .imm (.int .i64 0)), (2, .ptr 2 k2 0), (5, .imm (.int .i64 0)), (4, .ptr 4 k4 0), (7, .imm (.int .i64 14)), (8, .ptr 8 k8 0), (10, .imm (.int .i64 0)), (9, .ptr 9 (g 9 + 1) 0)] [(1, 1), (2, k2), (4, k4), (8, k8), (9, g 9 + 1)] [(1, [.sl 7 .ro (exL.map Item.row)]), (2, [.sl 7 .ro ((applyL exL h1).map Item.row)]), (4, [.sl 7 .ro ((applyL exL h2).map Item.row)]), (8, (⟨2, ⟨#[112, 52]⟩, ⟨#[100, 49]⟩, nilS, nilS, nilS, false⟩ : Item).row), (9, [.sl 7 .ro ((applyL exL h4).map Item.row)])] ?_ ?_
  · simp -implicitDefEqProofs only [e1,e3,e2,e5,e4,e7,e8,g1,g2,g4,g8,v1,v2,v4,v8,PatchS.row,Item.row,fills,splice,zq7,zq8,zb0,za9,undefA,zq2,zq3,zq4,zq5,zq6,Envs,Gens,Vars,za0,za1,za2,za3,za4,eff,AV.ptrOf,AV.tokOf,za5,za6,AV.weaks,AV.weak1,za7,za8,zb1,zb2,zb3,zb4,zb5,zb6,zb7,zb8,zb9,zc0,zc1,zc2,zc3,zc4,zc5,zc6,zc7,zc8,zc9,zd0,zd1,zd2,zd3,zd4,zd5,zd6,zd7,zd8,zd9,ze0,ze1,ze2,ze3,ze4,ze5,ze6,ze7,ze8,ze9,zf0,zf1,zf2,zf3,zf4,zf5,zf6,zf7,zf8,zf9,zg0,zg1,zg2,zg3,zg4,zg5,zg6,zg7,zg8,zg9,zh0,zh1,zh2,zh3,zh4,zh5,zh6,zh7,zh8,zh9,zi0,zi1,zi2,zi3,zi4,zi5,zi6,wSnil,zi7,zi8,zi9,zj0,zj1,zj2,zj3,zj4,zj5,zj6,zj7,zj8,AV.flatB,AV.flatBs,zj9,zk0,zk1,zk2,zk3,zk4,zk5,zk6,act,AV.cells,AV.mk,AV.asSl,AV.asInt,AV.vslOf,wIdx,zk7,zk8,zk9,zl0,zl1,zl2,zl3,st0,env0,zl4,zl5,zl6,Nat.reduceAdd,Nat.reduceEqDiff,Nat.reduceLeDiff,↓reduceIte,AV.ofV,unV,← decide_not,zl7,zl8,zl9,zm0,zm1,zm2,zm3,zm4,zm5,zm6,zm7,zm8,zm9,zn0,zn1,zn2,zn3,zn4,zn5,zn6,zn7,reduceCtorEq,rowsOf,pureCells,AV.weak,AV.pureB,AV.pureBs,zn8,zn9,zo0,zo1,zo2,Nat.reduceBEq,zo3,zo4,zo5,zo6,zo7,zo8,zo9,zp0,zp1]
  clear e1 e3 e2 e5 e4 e7 e8 g1 g2 g4 g8 v1 v2 v4 v8
  have hg9 : 1 ≤ g 9 + 1 := by omega
  generalize g 9 + 1 = k9 at hg9 ⊢
  rintro e g v tg tp x' ⟨e1, e3, e2, e5, e4, e7, e8, e10, e9, -⟩ ⟨g1, g2, g4, g8, g9, -⟩ ⟨v1, v2, v4, v8, v9, -⟩
  refine AW_seq ?_
  simp -implicitDefEqProofs only [e1,e3,e2,e5,e4,e7,e8,e10,e9,g1,g2,g4,g8,g9,v1,v2,v4,v8,v9,PatchS.row,Item.row,fills,splice,zq7,zq8,zb0,za9,za0,za1,za2,za3,za4,eff,AV.ptrOf,AV.tokOf,za5,za6,AV.weaks,AV.weak1,za7,za8,zb1,zb2,zb3,zb4,zb5,zb6,zb7,zb8,zb9,zc0,zc1,zc2,zc3,zc4,zc5,zc6,zc7,zc8,zc9,zd0,zd1,zd2,zd3,zd4,zd5,zd6,zd7,zd8,zd9,ze0,ze1,ze2,ze3,ze4,ze5,ze6,ze7,ze8,ze9,zf0,zf1,zf2,zf3,zf4,zf5,zf6,zf7,zf8,zf9,zg0,zg1,zg2,zg3,zg4,zg5,zg6,zg7,zg8,zg9,zh0,zh1,zh2,zh3,zh4,zh5,zh6,zh7,zh8,zh9,zi0,zi1,zi2,zi3,zi4,zi5,zi6,wSnil,zi7,zi8,zi9,zj0,zj1,zj2,zj3,zj4,zj5,zj6,zj7,zj8,AV.flatB,AV.flatBs,zj9,zk0,zk1,zk2,zk3,zk4,zk5,zk6,act,AV.cells,AV.mk,AV.asSl,AV.asInt,AV.vslOf,wIdx,zk7,zk8,zk9,zl0,zl1,zl2,zl3,st0,env0,zl4,zl5,zl6,Nat.reduceAdd,Nat.reduceEqDiff,Nat.reduceLeDiff,↓reduceIte,AV.ofV,unV,← decide_not,zl7,zl8,zl9,zm0,zm1,zm2,zm3,zm4,zm5,zm6,zm7,zm8,zm9,zn0,zn1,zn2,zn3,zn4,zn5,zn6,zn7,reduceCtorEq,rowsOf,pureCells,AV.weak,AV.pureB,AV.pureBs,zn8,zn9,zo0,zo1,zo2,Nat.reduceBEq,zo3,zo4,zo5,zo6,zo7,zo8,zo9,zp0,zp1]
  try refine ⟨by omega, ?_⟩
  refine wCall_pure (exA L V W W2 h5 15 ⟨Nat.le_of_ble_eq_true rfl, Nat.le_of_ble_eq_true rfl, Nat.le_of_ble_eq_true rfl⟩ ex5) rfl rfl (AV.les2_refl _) ?_
  simp -implicitDefEqProofs only [resC,e1,e3,e2,e5,e4,e7,e8,e10,e9,g1,g2,g4,g8,g9,v1,v2,v4,v8,v9,PatchS.row,Item.row,fills,splice,zq7,zq8,zb0,za9,za0,za1,za2,za3,za4,eff,AV.ptrOf,AV.tokOf,za5,za6,AV.weaks,AV.weak1,za7,za8,zb1,zb2,zb3,zb4,zb5,zb6,zb7,zb8,zb9,zc0,zc1,zc2,zc3,zc4,zc5,zc6,zc7,zc8,zc9,zd0,zd1,zd2,zd3,zd4,zd5,zd6,zd7,zd8,zd9,ze0,ze1,ze2,ze3,ze4,ze5,ze6,ze7,ze8,ze9,zf0,zf1,zf2,zf3,zf4,zf5,zf6,zf7,zf8,zf9,zg0,zg1,zg2,zg3,zg4,zg5,zg6,zg7,zg8,zg9,zh0,zh1,zh2,zh3,zh4,zh5,zh6,zh7,zh8,zh9,zi0,zi1,zi2,zi3,zi4,zi5,zi6,wSnil,zi7,zi8,zi9,zj0,zj1,zj2,zj3,zj4,zj5,zj6,zj7,zj8,AV.flatB,AV.flatBs,zj9,zk0,zk1,zk2,zk3,zk4,zk5,zk6,act,AV.cells,AV.mk,AV.asSl,AV.asInt,AV.vslOf,wIdx,zk7,zk8,zk9,zl0,zl1,zl2,zl3,st0,env0,zl4,zl5,zl6,Nat.reduceAdd,Nat.reduceEqDiff,Nat.reduceLeDiff,↓reduceIte,AV.ofV,unV,← decide_not,zl7,zl8,zl9,zm0,zm1,zm2,zm3,zm4,zm5,zm6,zm7,zm8,zm9,zn0,zn1,zn2,zn3,zn4,zn5,zn6,zn7,reduceCtorEq,rowsOf,pureCells,AV.weak,AV.pureB,AV.pureBs,zn8,zn9,zo0,zo1,zo2,Nat.reduceBEq,zo3,zo4,zo5,zo6,zo7,zo8,zo9,zp0,zp1]
  refine AW_gen [(1, .ptr 1 1 0), (3, .imm (.int .i64 0)), (2, .ptr 2 k2 0), (5, .imm (.int .i64 0)), (4, .ptr 4 k4 0), (7, .imm (.int .i64 14)), (8, .ptr 8 k8 0), (10, .imm (.int .i64 0)), (9, .ptr 9 k9 0), (12, .imm (.int .i64 15))] [(1, 1), (2, k2), (4, k4), (8, k8), (9, k9)] [(1, [.sl 7 .ro (exL.map Item.row)]), (2, [.sl 7 .ro ((applyL exL h1).map Item.row)]), (4, [.sl 7 .ro ((applyL exL h2).map Item.row)]), (8, (⟨2, ⟨#[112, 52]⟩, ⟨#[100, 49]⟩, nilS, nilS, nilS, false⟩ : Item).row), (9, [.sl 7 .ro ((applyL exL h4).map Item.row)])] ?_ ?_
  · simp -implicitDefEqProofs only [e1,e3,e2,e5,e4,e7,e8,e10,e9,g1,g2,g4,g8,g9,v1,v2,v4,v8,v9,PatchS.row,Item.row,fills,splice,zq7,zq8,zb0,za9,undefA,zq2,zq3,zq4,zq5,zq6,Envs,Gens,Vars,za0,za1,za2,za3,za4,eff,AV.ptrOf,AV.tokOf,za5,za6,AV.weaks,AV.weak1,za7,za8,zb1,zb2,zb3,zb4,zb5,zb6,zb7,zb8,zb9,zc0,zc1,zc2,zc3,zc4,zc5,zc6,zc7,zc8,zc9,zd0,zd1,zd2,zd3,zd4,zd5,zd6,zd7,zd8,zd9,ze0,ze1,ze2,ze3,ze4,ze5,ze6,ze7,ze8,ze9,zf0,zf1,zf2,zf3,zf4,zf5,zf6,zf7,zf8,zf9,zg0,zg1,zg2,zg3,zg4,zg5,zg6,zg7,zg8,zg9,zh0,zh1,zh2,zh3,zh4,zh5,zh6,zh7,zh8,zh9,zi0,zi1,zi2,zi3,zi4,zi5,zi6,wSnil,zi7,zi8,zi9,zj0,zj1,zj2,zj3,zj4,zj5,zj6,zj7,zj8,AV.flatB,AV.flatBs,zj9,zk0,zk1,zk2,zk3,zk4,zk5,zk6,act,AV.cells,AV.mk,AV.asSl,AV.asInt,AV.vslOf,wIdx,zk7,zk8,zk9,zl0,zl1,zl2,zl3,st0,env0,zl4,zl5,zl6,Nat.reduceAdd,Nat.reduceEqDiff,Nat.reduceLeDiff,↓reduceIte,AV.ofV,unV,← decide_not,zl7,zl8,zl9,zm0,zm1,zm2,zm3,zm4,zm5,zm6,zm7,zm8,zm9,zn0,zn1,zn2,zn3,zn4,zn5,zn6,zn7,reduceCtorEq,rowsOf,pureCells,AV.weak,AV.pureB,AV.pureBs,zn8,zn9,zo0,zo1,zo2,Nat.reduceBEq,zo3,zo4,zo5,zo6,zo7,zo8,zo9,zp0,zp1]
  clear e1 e3 e2 e5 e4 e7 e8 e10 e9 g1 g2 g4 g8 g9 v1 v2 v4 v8 v9
  rintro e g v tg tp x' ⟨e1, e3, e2, e5, e4, e7, e8, e10, e9, e12, -⟩ ⟨g1, g2, g4, g8, g9, -⟩ ⟨v1, v2, v4, v8, v9, -⟩
  refine AW_seq ?_
  simp -implicitDefEqProofs only [e1,e3,e2,e5,e4,e7,e8,e10,e9,e12,g1,g2,g4,g8,g9,v1,v2,v4,v8,v9,PatchS.row,Item.row,fills,splice,zq7,zq8,zb0,za9,za0,za1,za2,za3,za4,eff,AV.ptrOf,AV.tokOf,za5,za6,AV.weaks,AV.weak1,za7,za8,zb1,zb2,zb3,zb4,zb5,zb6,zb7,zb8,zb9,zc0,zc1,zc2,zc3,zc4,zc5,zc6,zc7,zc8,zc9,zd0,zd1,zd2,zd3,zd4,zd5,zd6,zd7,zd8,zd9,ze0,ze1,ze2,ze3,ze4,ze5,ze6,ze7,ze8,ze9,zf0,zf1,zf2,zf3,zf4,zf5,zf6,zf7,zf8,zf9,zg0,zg1,zg2,zg3,zg4,zg5,zg6,zg7,zg8,zg9,zh0,zh1,zh2,zh3,zh4,zh5,zh6,zh7,zh8,zh9,zi0,zi1,zi2,zi3,zi4,zi5,zi6,wSnil,zi7,zi8,zi9,zj0,zj1,zj2,zj3,zj4,zj5,zj6,zj7,zj8,AV.flatB,AV.flatBs,zj9,zk0,zk1,zk2,zk3,zk4,zk5,zk6,act,AV.cells,AV.mk,AV.asSl,AV.asInt,AV.vslOf,wIdx,zk7,zk8,zk9,zl0,zl1,zl2,zl3,st0,env0,zl4,zl5,zl6,Nat.reduceAdd,Nat.reduceEqDiff,Nat.reduceLeDiff,↓reduceIte,AV.ofV,unV,← decide_not,zl7,zl8,zl9,zm0,zm1,zm2,zm3,zm4,zm5,zm6,zm7,zm8,zm9,zn0,zn1,zn2,zn3,zn4,zn5,zn6,zn7,reduceCtorEq,rowsOf,pureCells,AV.weak,AV.pureB,AV.pureBs,zn8,zn9,zo0,zo1,zo2,Nat.reduceBEq,zo3,zo4,zo5,zo6,zo7,zo8,zo9,zp0,zp1]
  try refine ⟨by omega, ?_⟩
  refine wCall_pure (exA L V W W2 h6 11 ⟨Nat.le_of_ble_eq_true rfl, Nat.le_of_ble_eq_true rfl, Nat.le_of_ble_eq_true rfl⟩ ex6) rfl rfl (AV.les2_refl _) ?_
  simp -implicitDefEqProofs only [resC,e1,e3,e2,e5,e4,e7,e8,e10,e9,e12,g1,g2,g4,g8,g9,v1,v2,v4,v8,v9,PatchS.row,Item.row,fills,splice,zq7,zq8,zb0,za9,za0,za1,za2,za3,za4,eff,AV.ptrOf,AV.tokOf,za5,za6,AV.weaks,AV.weak1,za7,za8,zb1,zb2,zb3,zb4,zb5,zb6,zb7,zb8,zb9,zc0,zc1,zc2,zc3,zc4,zc5,zc6,zc7,zc8,zc9,zd0,zd1,zd2,zd3,zd4,zd5,zd6,zd7,zd8,zd9,ze0,ze1,ze2,ze3,ze4,ze5,ze6,ze7,ze8,ze9,zf0,zf1,zf2,zf3,zf4,zf5,zf6,zf7,zf8,zf9,zg0,zg1,zg2,zg3,zg4,zg5,zg6,zg7,zg8,zg9,zh0,zh1,zh2,zh3,zh4,zh5,zh6,zh7,zh8,zh9,zi0,zi1,zi2,zi3,zi4,zi5,zi6,wSnil,zi7,zi8,zi9,zj0,zj1,zj2,zj3,zj4,zj5,zj6,zj7,zj8,AV.flatB,AV.flatBs,zj9,zk0,zk1,zk2,zk3,zk4,zk5,zk6,act,AV.cells,AV.mk,AV.asSl,AV.asInt,AV.vslOf,wIdx,zk7,zk8,zk9,zl0,zl1,zl2,zl3,st0,env0,zl4,zl5,zl6,Nat.reduceAdd,Nat.reduceEqDiff,Nat.reduceLeDiff,↓reduceIte,AV.ofV,unV,← decide_not,zl7,zl8,zl9,zm0,zm1,zm2,zm3,zm4,zm5,zm6,zm7,zm8,zm9,zn0,zn1,zn2,zn3,zn4,zn5,zn6,zn7,reduceCtorEq,rowsOf,pureCells,AV.weak,AV.pureB,AV.pureBs,zn8,zn9,zo0,zo1,zo2,Nat.reduceBEq,zo3,zo4,zo5,zo6,zo7,zo8,zo9,zp0,zp1]
  refine AW_gen [(1, .ptr 1 1 0), (3, .imm (.int .i64 0)), (2, .ptr 2 k2 0), (5, .imm (.int .i64 0)), (4, .ptr 4 k4 0), (7, .imm (.int .i64 14)), (8, .ptr 8 k8 0), (10, .imm (.int .i64 0)), (9, .ptr 9 k9 0), (12, .imm (.int .i64 15)), (14, .imm (.int .i64 11))] [(1, 1), (2, k2), (4, k4), (8, k8), (9, k9)] [(1, [.sl 7 .ro (exL.map Item.row)]), (2, [.sl 7 .ro ((applyL exL h1).map Item.row)]), (4, [.sl 7 .ro ((applyL exL h2).map Item.row)]), (8, (⟨2, ⟨#[112, 52]⟩, ⟨#[100, 49]⟩, nilS, nilS, nilS, false⟩ : Item).row), (9, [.sl 7 .ro ((applyL exL h4).map Item.row)])] ?_ ?_
  · simp -implicitDefEqProofs only [e1,e3,e2,e5,e4,e7,e8,e10,e9,e12,g1,g2,g4,g8,g9,v1,v2,v4,v8,v9,PatchS.row,Item.row,fills,splice,zq7,zq8,zb0,za9,undefA,zq2,zq3,zq4,zq5,zq6,Envs,Gens,Vars,za0,za1,za2,za3,za4,eff,AV.ptrOf,AV.tokOf,za5,za6,AV.weaks,AV.weak1,za7,za8,zb1,zb2,zb3,zb4,zb5,zb6,zb7,zb8,zb9,zc0,zc1,zc2,zc3,zc4,zc5,zc6,zc7,zc8,zc9,zd0,zd1,zd2,zd3,zd4,zd5,zd6,zd7,zd8,zd9,ze0,ze1,ze2,ze3,ze4,ze5,ze6,ze7,ze8,ze9,zf0,zf1,zf2,zf3,zf4,zf5,zf6,zf7,zf8,zf9,zg0,zg1,zg2,zg3,zg4,zg5,zg6,zg7,zg8,zg9,zh0,zh1,zh2,zh3,zh4,zh5,zh6,zh7,zh8,zh9,zi0,zi1,zi2,zi3,zi4,zi5,zi6,wSnil,zi7,zi8,zi9,zj0,zj1,zj2,zj3,zj4,zj5,zj6,zj7,zj8,AV.flatB,AV.flatBs,zj9,zk0,zk1,zk2,zk3,zk4,zk5,zk6,act,AV.cells,AV.mk,AV.asSl,AV.asInt,AV.vslOf,wIdx,zk7,zk8,zk9,zl0,zl1,zl2,zl3,st0,env0,zl4,zl5,zl6,Nat.reduceAdd,Nat.reduceEqDiff,Nat.reduceLeDiff,↓reduceIte,AV.ofV,unV,← decide_not,zl7,zl8,zl9,zm0,zm1,zm2,zm3,zm4,zm5,zm6,zm7,zm8,zm9,zn0,zn1,zn2,zn3,zn4,zn5,zn6,zn7,reduceCtorEq,rowsOf,pureCells,AV.weak,AV.pureB,AV.pureBs,zn8,zn9,zo0,zo1,zo2,Nat.reduceBEq,zo3,zo4,zo5,zo6,zo7,zo8,zo9,zp0,zp1]
  clear e1 e3 e2 e5 e4 e7 e8 e10 e9 e12 g1 g2 g4 g8 g9 v1 v2 v4 v8 v9
  rintro e g v tg tp x' ⟨e1, e3, e2, e5, e4, e7, e8, e10, e9, e12, e14, -⟩ ⟨g1, g2, g4, g8, g9, -⟩ ⟨v1, v2, v4, v8, v9, -⟩
  refine AW_seq ?_
  simp -implicitDefEqProofs only [e1,e3,e2,e5,e4,e7,e8,e10,e9,e12,e14,g1,g2,g4,g8,g9,v1,v2,v4,v8,v9,PatchS.row,Item.row,fills,splice,zq7,zq8,zb0,za9,za0,za1,za2,za3,za4,eff,AV.ptrOf,AV.tokOf,za5,za6,AV.weaks,AV.weak1,za7,za8,zb1,zb2,zb3,zb4,zb5,zb6,zb7,zb8,zb9,zc0,zc1,zc2,zc3,zc4,zc5,zc6,zc7,zc8,zc9,zd0,zd1,zd2,zd3,zd4,zd5,zd6,zd7,zd8,zd9,ze0,ze1,ze2,ze3,ze4,ze5,ze6,ze7,ze8,ze9,zf0,zf1,zf2,zf3,zf4,zf5,zf6,zf7,zf8,zf9,zg0,zg1,zg2,zg3,zg4,zg5,zg6,zg7,zg8,zg9,zh0,zh1,zh2,zh3,zh4,zh5,zh6,zh7,zh8,zh9,zi0,zi1,zi2,zi3,zi4,zi5,zi6,wSnil,zi7,zi8,zi9,zj0,zj1,zj2,zj3,zj4,zj5,zj6,zj7,zj8,AV.flatB,AV.flatBs,zj9,zk0,zk1,zk2,zk3,zk4,zk5,zk6,act,AV.cells,AV.mk,AV.asSl,AV.asInt,AV.vslOf,wIdx,zk7,zk8,zk9,zl0,zl1,zl2,zl3,st0,env0,zl4,zl5,zl6,Nat.reduceAdd,Nat.reduceEqDiff,Nat.reduceLeDiff,↓reduceIte,AV.ofV,unV,← decide_not,zl7,zl8,zl9,zm0,zm1,zm2,zm3,zm4,zm5,zm6,zm7,zm8,zm9,zn0,zn1,zn2,zn3,zn4,zn5,zn6,zn7,reduceCtorEq,rowsOf,pureCells,AV.weak,AV.pureB,AV.pureBs,zn8,zn9,zo0,zo1,zo2,Nat.reduceBEq,zo3,zo4,zo5,zo6,zo7,zo8,zo9,zp0,zp1]
  refine wOps_cutV 23 [(15, .imm (.bool true)), (10, .imm (.int .i64 0)), (9, .ptr 9 k9 0), (12, .imm (.int .i64 15)), (14, .imm (.int .i64 11))] [(9, k9)] [(9, [.sl 7 .ro ((applyL exL h4).map Item.row)])] ?_ ?_
  · simp -implicitDefEqProofs only [r_pandectlaw19_head_0,e1,e3,e2,e5,e4,e7,e8,e10,e9,e12,e14,g1,g2,g4,g8,g9,v1,v2,v4,v8,v9,PatchS.row,Item.row,fills,splice,zq7,zq8,zb0,za9,undefA,zq2,zq3,zq4,zq5,zq6,Envs,Gens,Vars,za0,za1,za2,za3,za4,eff,AV.ptrOf,AV.tokOf,za5,za6,AV.weaks,AV.weak1,za7,za8,zb1,zb2,zb3,zb4,zb5,zb6,zb7,zb8,zb9,zc0,zc1,zc2,zc3,zc4,zc5,zc6,zc7,zc8,zc9,zd0,zd1,zd2,zd3,zd4,zd5,zd6,zd7,zd8,zd9,ze0,ze1,ze2,ze3,ze4,ze5,ze6,ze7,ze8,ze9,zf0,zf1,zf2,zf3,zf4,zf5,zf6,zf7,zf8,zf9,zg0,zg1,zg2,zg3,zg4,zg5,zg6,zg7,zg8,zg9,zh0,zh1,zh2,zh3,zh4,zh5,zh6,zh7,zh8,zh9,zi0,zi1,zi2,zi3,zi4,zi5,zi6,wSnil,zi7,zi8,zi9,zj0,zj1,zj2,zj3,zj4,zj5,zj6,zj7,zj8,AV.flatB,AV.flatBs,zj9,zk0,zk1,zk2,zk3,zk4,zk5,zk6,act,AV.cells,AV.mk,AV.asSl,AV.asInt,AV.vslOf,wIdx,zk7,zk8,zk9,zl0,zl1,zl2,zl3,st0,env0,zl4,zl5,zl6,Nat.reduceAdd,Nat.reduceEqDiff,Nat.reduceLeDiff,↓reduceIte,AV.ofV,unV,← decide_not,zl7,zl8,zl9,zm0,zm1,zm2,zm3,zm4,zm5,zm6,zm7,zm8,zm9,zn0,zn1,zn2,zn3,zn4,zn5,zn6,zn7,reduceCtorEq,rowsOf,pureCells,AV.weak,AV.pureB,AV.pureBs,zn8,zn9,zo0,zo1,zo2,Nat.reduceBEq,zo3,zo4,zo5,zo6,zo7,zo8,zo9,zp0,zp1]
    try refine ⟨by omega, ?_⟩
    refine wCall_pure (ids_con L (applyL exL h1) (by decide +kernel)) rfl rfl (AV.les2_refl _) ?_
    simp -implicitDefEqProofs only [e1,e3,e2,e5,e4,e7,e8,e10,e9,e12,e14,g1,g2,g4,g8,g9,v1,v2,v4,v8,v9,PatchS.row,Item.row,fills,splice,zq7,zq8,zb0,za9,undefA,zq2,zq3,zq4,zq5,zq6,Envs,Gens,Vars,za0,za1,za2,za3,za4,eff,AV.ptrOf,AV.tokOf,za5,za6,AV.weaks,AV.weak1,za7,za8,zb1,zb2,zb3,zb4,zb5,zb6,zb7,zb8,zb9,zc0,zc1,zc2,zc3,zc4,zc5,zc6,zc7,zc8,zc9,zd0,zd1,zd2,zd3,zd4,zd5,zd6,zd7,zd8,zd9,ze0,ze1,ze2,ze3,ze4,ze5,ze6,ze7,ze8,ze9,zf0,zf1,zf2,zf3,zf4,zf5,zf6,zf7,zf8,zf9,zg0,zg1,zg2,zg3,zg4,zg5,zg6,zg7,zg8,zg9,zh0,zh1,zh2,zh3,zh4,zh5,zh6,zh7,zh8,zh9,zi0,zi1,zi2,zi3,zi4,zi5,zi6,wSnil,zi7,zi8,zi9,zj0,zj1,zj2,zj3,zj4,zj5,zj6,zj7,zj8,AV.flatB,AV.flatBs,zj9,zk0,zk1,zk2,zk3,zk4,zk5,zk6,act,AV.cells,AV.mk,AV.asSl,AV.asInt,AV.vslOf,wIdx,zk7,zk8,zk9,zl0,zl1,zl2,zl3,st0,env0,zl4,zl5,zl6,Nat.reduceAdd,Nat.reduceEqDiff,Nat.reduceLeDiff,↓reduceIte,AV.ofV,unV,← decide_not,zl7,zl8,zl9,zm0,zm1,zm2,zm3,zm4,zm5,zm6,zm7,zm8,zm9,zn0,zn1,zn2,zn3,zn4,zn5,zn6,zn7,reduceCtorEq,rowsOf,pureCells,AV.weak,AV.pureB,AV.pureBs,zn8,zn9,zo0,zo1,zo2,Nat.reduceBEq,zo3,zo4,zo5,zo6,zo7,zo8,zo9,zp0,zp1]
    refine wCall_imm (names_con L (ids (applyL exL h1)) [⟨#[112, 49]⟩, ⟨#[100, 49]⟩, ⟨#[112, 50]⟩, ⟨#[112, 51]⟩] (by decide +kernel)) rfl ?_ ?_
    · simp [AV.les2, AV.weaks, AV.weak1, AV.weak, AV.le2, AV.le1, AV.les1_refl, srow]
    simp -implicitDefEqProofs only [ex1',zq2,e1,e3,e2,e5,e4,e7,e8,e10,e9,e12,e14,g1,g2,g4,g8,g9,v1,v2,v4,v8,v9,PatchS.row,Item.row,fills,splice,zq7,zq8,zb0,za9,undefA,zq3,zq4,zq5,zq6,Envs,Gens,Vars,za0,za1,za2,za3,za4,eff,AV.ptrOf,AV.tokOf,za5,za6,AV.weaks,AV.weak1,za7,za8,zb1,zb2,zb3,zb4,zb5,zb6,zb7,zb8,zb9,zc0,zc1,zc2,zc3,zc4,zc5,zc6,zc7,zc8,zc9,zd0,zd1,zd2,zd3,zd4,zd5,zd6,zd7,zd8,zd9,ze0,ze1,ze2,ze3,ze4,ze5,ze6,ze7,ze8,ze9,zf0,zf1,zf2,zf3,zf4,zf5,zf6,zf7,zf8,zf9,zg0,zg1,zg2,zg3,zg4,zg5,zg6,zg7,zg8,zg9,zh0,zh1,zh2,zh3,zh4,zh5,zh6,zh7,zh8,zh9,zi0,zi1,zi2,zi3,zi4,zi5,zi6,wSnil,zi7,zi8,zi9,zj0,zj1,zj2,zj3,zj4,zj5,zj6,zj7,zj8,AV.flatB,AV.flatBs,zj9,zk0,zk1,zk2,zk3,zk4,zk5,zk6,act,AV.cells,AV.mk,AV.asSl,AV.asInt,AV.vslOf,wIdx,zk7,zk8,zk9,zl0,zl1,zl2,zl3,st0,env0,zl4,zl5,zl6,Nat.reduceAdd,Nat.reduceEqDiff,Nat.reduceLeDiff,↓reduceIte,AV.ofV,unV,← decide_not,zl7,zl8,zl9,zm0,zm1,zm2,zm3,zm4,zm5,zm6,zm7,zm8,zm9,zn0,zn1,zn2,zn3,zn4,zn5,zn6,zn7,reduceCtorEq,rowsOf,pureCells,AV.weak,AV.pureB,AV.pureBs,zn8,zn9,zo0,zo1,zo2,Nat.reduceBEq,zo3,zo4,zo5,zo6,zo7,zo8,zo9,zp0,zp1]
    try refine ⟨by omega, ?_⟩
    refine wCall_pure (ids_con L (applyL exL h2) (by decide +kernel)) rfl rfl (AV.les2_refl _) ?_
    simp -implicitDefEqProofs only [e1,e3,e2,e5,e4,e7,e8,e10,e9,e12,e14,g1,g2,g4,g8,g9,v1,v2,v4,v8,v9,PatchS.row,Item.row,fills,splice,zq7,zq8,zb0,za9,undefA,zq2,zq3,zq4,zq5,zq6,Envs,Gens,Vars,za0,za1,za2,za3,za4,eff,AV.ptrOf,AV.tokOf,za5,za6,AV.weaks,AV.weak1,za7,za8,zb1,zb2,zb3,zb4,zb5,zb6,zb7,zb8,zb9,zc0,zc1,zc2,zc3,zc4,zc5,zc6,zc7,zc8,zc9,zd0,zd1,zd2,zd3,zd4,zd5,zd6,zd7,zd8,zd9,ze0,ze1,ze2,ze3,ze4,ze5,ze6,ze7,ze8,ze9,zf0,zf1,zf2,zf3,zf4,zf5,zf6,zf7,zf8,zf9,zg0,zg1,zg2,zg3,zg4,zg5,zg6,zg7,zg8,zg9,zh0,zh1,zh2,zh3,zh4,zh5,zh6,zh7,zh8,zh9,zi0,zi1,zi2,zi3,zi4,zi5,zi6,wSnil,zi7,zi8,zi9,zj0,zj1,zj2,zj3,zj4,zj5,zj6,zj7,zj8,AV.flatB,AV.flatBs,zj9,zk0,zk1,zk2,zk3,zk4,zk5,zk6,act,AV.cells,AV.mk,AV.asSl,AV.asInt,AV.vslOf,wIdx,zk7,zk8,zk9,zl0,zl1,zl2,zl3,st0,env0,zl4,zl5,zl6,Nat.reduceAdd,Nat.reduceEqDiff,Nat.reduceLeDiff,↓reduceIte,AV.ofV,unV,← decide_not,zl7,zl8,zl9,zm0,zm1,zm2,zm3,zm4,zm5,zm6,zm7,zm8,zm9,zn0,zn1,zn2,zn3,zn4,zn5,zn6,zn7,reduceCtorEq,rowsOf,pureCells,AV.weak,AV.pureB,AV.pureBs,zn8,zn9,zo0,zo1,zo2,Nat.reduceBEq,zo3,zo4,zo5,zo6,zo7,zo8,zo9,zp0,zp1]
    refine wCall_imm (names_con L (ids (applyL exL h2)) [⟨#[112, 51]⟩, ⟨#[100, 49]⟩, ⟨#[112, 49]⟩, ⟨#[112, 50]⟩] (by decide +kernel)) rfl ?_ ?_
    · simp [AV.les2, AV.weaks, AV.weak1, AV.weak, AV.le2, AV.le1, AV.les1_refl, srow]
    simp -implicitDefEqProofs only [ex2',zq2,e1,e3,e2,e5,e4,e7,e8,e10,e9,e12,e14,g1,g2,g4,g8,g9,v1,v2,v4,v8,v9,PatchS.row,Item.row,fills,splice,zq7,zq8,zb0,za9,undefA,zq3,zq4,zq5,zq6,Envs,Gens,Vars,za0,za1,za2,za3,za4,eff,AV.ptrOf,AV.tokOf,za5,za6,AV.weaks,AV.weak1,za7,za8,zb1,zb2,zb3,zb4,zb5,zb6,zb7,zb8,zb9,zc0,zc1,zc2,zc3,zc4,zc5,zc6,zc7,zc8,zc9,zd0,zd1,zd2,zd3,zd4,zd5,zd6,zd7,zd8,zd9,ze0,ze1,ze2,ze3,ze4,ze5,ze6,ze7,ze8,ze9,zf0,zf1,zf2,zf3,zf4,zf5,zf6,zf7,zf8,zf9,zg0,zg1,zg2,zg3,zg4,zg5,zg6,zg7,zg8,zg9,zh0,zh1,zh2,zh3,zh4,zh5,zh6,zh7,zh8,zh9,zi0,zi1,zi2,zi3,zi4,zi5,zi6,wSnil,zi7,zi8,zi9,zj0,zj1,zj2,zj3,zj4,zj5,zj6,zj7,zj8,AV.flatB,AV.flatBs,zj9,zk0,zk1,zk2,zk3,zk4,zk5,zk6,act,AV.cells,AV.mk,AV.asSl,AV.asInt,AV.vslOf,wIdx,zk7,zk8,zk9,zl0,zl1,zl2,zl3,st0,env0,zl4,zl5,zl6,Nat.reduceAdd,Nat.reduceEqDiff,Nat.reduceLeDiff,↓reduceIte,AV.ofV,unV,← decide_not,zl7,zl8,zl9,zm0,zm1,zm2,zm3,zm4,zm5,zm6,zm7,zm8,zm9,zn0,zn1,zn2,zn3,zn4,zn5,zn6,zn7,reduceCtorEq,rowsOf,pureCells,AV.weak,AV.pureB,AV.pureBs,zn8,zn9,zo0,zo1,zo2,Nat.reduceBEq,zo3,zo4,zo5,zo6,zo7,zo8,zo9,zp0,zp1]
  clear e1 e3 e2 e5 e4 e7 e8 e10 e9 e12 e14 g1 g2 g4 g8 g9 v1 v2 v4 v8 v9
  rintro e g v tg tp x' ⟨e15, e10, e9, e12, e14, -⟩ ⟨g9, -⟩ ⟨v9, -⟩
  simp -implicitDefEqProofs only [r_pandectlaw19_head_0,zn0,zm9,zc3]
  refine AW_seq ?_
  simp -implicitDefEqProofs only [zq2,zq3,r_pandectlaw19_head_1,e15,e10,e9,e12,e14,g9,v9,PatchS.row,Item.row,fills,splice,zq7,zq8,zb0,za9,za0,za1,za2,za3,za4,eff,AV.ptrOf,AV.tokOf,za5,za6,AV.weaks,AV.weak1,za7,za8,zb1,zb2,zb3,zb4,zb5,zb6,zb7,zb8,zb9,zc0,zc1,zc2,zc3,zc4,zc5,zc6,zc7,zc8,zc9,zd0,zd1,zd2,zd3,zd4,zd5,zd6,zd7,zd8,zd9,ze0,ze1,ze2,ze3,ze4,ze5,ze6,ze7,ze8,ze9,zf0,zf1,zf2,zf3,zf4,zf5,zf6,zf7,zf8,zf9,zg0,zg1,zg2,zg3,zg4,zg5,zg6,zg7,zg8,zg9,zh0,zh1,zh2,zh3,zh4,zh5,zh6,zh7,zh8,zh9,zi0,zi1,zi2,zi3,zi4,zi5,zi6,wSnil,zi7,zi8,zi9,zj0,zj1,zj2,zj3,zj4,zj5,zj6,zj7,zj8,AV.flatB,AV.flatBs,zj9,zk0,zk1,zk2,zk3,zk4,zk5,zk6,act,AV.cells,AV.mk,AV.asSl,AV.asInt,AV.vslOf,wIdx,zk7,zk8,zk9,zl0,zl1,zl2,zl3,st0,env0,zl4,zl5,zl6,Nat.reduceAdd,Nat.reduceEqDiff,Nat.reduceLeDiff,↓reduceIte,AV.ofV,unV,← decide_not,zl7,zl8,zl9,zm0,zm1,zm2,zm3,zm4,zm5,zm6,zm7,zm8,zm9,zn0,zn1,zn2,zn3,zn4,zn5,zn6,zn7,reduceCtorEq,rowsOf,pureCells,AV.weak,AV.pureB,AV.pureBs,zn8,zn9,zo0,zo1,zo2,Nat.reduceBEq,zo3,zo4,zo5,zo6,zo7,zo8,zo9,zp0,zp1]
  try refine ⟨by omega, ?_⟩
  refine wCall_pure (ids_con L (applyL exL h4) (by decide +kernel)) rfl rfl (AV.les2_refl _) ?_
  simp -implicitDefEqProofs only [e15,e10,e9,e12,e14,g9,v9,PatchS.row,Item.row,fills,splice,zq7,zq8,zb0,za9,za0,za1,za2,za3,za4,eff,AV.ptrOf,AV.tokOf,za5,za6,AV.weaks,AV.weak1,za7,za8,zb1,zb2,zb3,zb4,zb5,zb6,zb7,zb8,zb9,zc0,zc1,zc2,zc3,zc4,zc5,zc6,zc7,zc8,zc9,zd0,zd1,zd2,zd3,zd4,zd5,zd6,zd7,zd8,zd9,ze0,ze1,ze2,ze3,ze4,ze5,ze6,ze7,ze8,ze9,zf0,zf1,zf2,zf3,zf4,zf5,zf6,zf7,zf8,zf9,zg0,zg1,zg2,zg3,zg4,zg5,zg6,zg7,zg8,zg9,zh0,zh1,zh2,zh3,zh4,zh5,zh6,zh7,zh8,zh9,zi0,zi1,zi2,zi3,zi4,zi5,zi6,wSnil,zi7,zi8,zi9,zj0,zj1,zj2,zj3,zj4,zj5,zj6,zj7,zj8,AV.flatB,AV.flatBs,zj9,zk0,zk1,zk2,zk3,zk4,zk5,zk6,act,AV.cells,AV.mk,AV.asSl,AV.asInt,AV.vslOf,wIdx,zk7,zk8,zk9,zl0,zl1,zl2,zl3,st0,env0,zl4,zl5,zl6,Nat.reduceAdd,Nat.reduceEqDiff,Nat.reduceLeDiff,↓reduceIte,AV.ofV,unV,← decide_not,zl7,zl8,zl9,zm0,zm1,zm2,zm3,zm4,zm5,zm6,zm7,zm8,zm9,zn0,zn1,zn2,zn3,zn4,zn5,zn6,zn7,reduceCtorEq,rowsOf,pureCells,AV.weak,AV.pureB,AV.pureBs,zn8,zn9,zo0,zo1,zo2,Nat.reduceBEq,zo3,zo4,zo5,zo6,zo7,zo8,zo9,zp0,zp1]
  refine wCall_imm (names_con L (ids (applyL exL h4)) [⟨#[100, 49]⟩, ⟨#[112, 49]⟩, ⟨#[112, 52]⟩, ⟨#[112, 50]⟩, ⟨#[112, 51]⟩] (by decide +kernel)) rfl ?_ ?_
  · simp [AV.les2, AV.weaks, AV.weak1, AV.weak, AV.le2, AV.le1, AV.les1_refl, srow]
  simp -implicitDefEqProofs only [ex4',zq2,e15,e10,e9,e12,e14,g9,v9,PatchS.row,Item.row,fills,splice,zq7,zq8,zb0,za9,za0,za1,za2,za3,za4,eff,AV.ptrOf,AV.tokOf,za5,za6,AV.weaks,AV.weak1,za7,za8,zb1,zb2,zb3,zb4,zb5,zb6,zb7,zb8,zb9,zc0,zc1,zc2,zc3,zc4,zc5,zc6,zc7,zc8,zc9,zd0,zd1,zd2,zd3,zd4,zd5,zd6,zd7,zd8,zd9,ze0,ze1,ze2,ze3,ze4,ze5,ze6,ze7,ze8,ze9,zf0,zf1,zf2,zf3,zf4,zf5,zf6,zf7,zf8,zf9,zg0,zg1,zg2,zg3,zg4,zg5,zg6,zg7,zg8,zg9,zh0,zh1,zh2,zh3,zh4,zh5,zh6,zh7,zh8,zh9,zi0,zi1,zi2,zi3,zi4,zi5,zi6,wSnil,zi7,zi8,zi9,zj0,zj1,zj2,zj3,zj4,zj5,zj6,zj7,zj8,AV.flatB,AV.flatBs,zj9,zk0,zk1,zk2,zk3,zk4,zk5,zk6,act,AV.cells,AV.mk,AV.asSl,AV.asInt,AV.vslOf,wIdx,zk7,zk8,zk9,zl0,zl1,zl2,zl3,st0,env0,zl4,zl5,zl6,Nat.reduceAdd,Nat.reduceEqDiff,Nat.reduceLeDiff,↓reduceIte,AV.ofV,unV,← decide_not,zl7,zl8,zl9,zm0,zm1,zm2,zm3,zm4,zm5,zm6,zm7,zm8,zm9,zn0,zn1,zn2,zn3,zn4,zn5,zn6,zn7,reduceCtorEq,rowsOf,pureCells,AV.weak,AV.pureB,AV.pureBs,zn8,zn9,zo0,zo1,zo2,Nat.reduceBEq,zo3,zo4,zo5,zo6,zo7,zo8,zo9,zp0,zp1]
  refine AW_code ?_
  simp -implicitDefEqProofs only [c_pandectlaw19_head,za0,za1,za2,za3,za4,eff,AV.ptrOf,AV.tokOf,za5,za6,AV.weaks,AV.weak1,za7,za8,za9,zb0,zb1,zb2,zb3,zb4,zb5,zb6,zb7,zb8,zb9,zc0,zc1,zc2,zc3,zc4,zc5,zc6,zc7,zc8,zc9,zd0,zd1,zd2,zd3,zd4,zd5,zd6,zd7,zd8,zd9,ze0,ze1,ze2,ze3,ze4,ze5,ze6,ze7,ze8,ze9,zf0,zf1,zf2,zf3,zf4,zf5,zf6,zf7,zf8,zf9,zg0,zg1,zg2,zg3,zg4,zg5,zg6,zg7,zg8,zg9,zh0,zh1,zh2,zh3,zh4,zh5,zh6,zh7,zh8,zh9,zi0,zi1,zi2,zi3,zi4,zi5,zi6,wSnil,zi7,zi8,zi9,zj0,zj1,zj2,zj3,zj4,zj5,zj6,zj7,zj8,AV.flatB,AV.flatBs,zj9,zk0,zk1,zk2,zk3,zk4,zk5,zk6,act,AV.cells,AV.mk,AV.asSl,AV.asInt,AV.vslOf,wIdx,zk7,zk8,zk9,zl0,zl1,zl2,zl3,st0,env0,zl4,zl5,zl6,Nat.reduceAdd,Nat.reduceEqDiff,Nat.reduceLeDiff,↓reduceIte,AV.ofV,unV,← decide_not,zl7,zl8,zl9,zm0,zm1,zm2,zm3,zm4,zm5,zm6,zm7,zm8,zm9,zn0,zn1,zn2,zn3,zn4,zn5,zn6,zn7,reduceCtorEq,rowsOf,pureCells,AV.weak,AV.pureB,AV.pureBs,zn8,zn9,zo0,zo1,zo2,Nat.reduceBEq,zo3,zo4,zo5,zo6,zo7,zo8,zo9,zp0,zp1,zp2,zp3,zp4,zp5,zp6,zp7,zp8,zp9,zq0,zq1]
end Go.Av

namespace Go.Av
theorem Opens.one {s : List Bs} {p : Bs} {x : Item} {B : List Item} (hx : x.parent = p) (hB : ∃ ob, Opens (s ++ [x.id]) x.id B ob) (hk : B = [] ∨ x.kind = 1) : ∃ os, Opens s p (x :: B) os := by
  obtain ⟨ob, hB⟩ := hB
  have := Opens.cons hx hB hk (.nil s p)
  simp only [zq8] at this
  exact ⟨_, this⟩
theorem edit_id (x : Item) (p : PatchS) : (edit x p).id = x.id ∧ (edit x p).kind = x.kind ∧ (edit x p).parent = x.parent := by
  unfold edit withText
  split
  · split <;> exact ⟨rfl, rfl, rfl⟩
  · split
    · exact ⟨rfl, rfl, rfl⟩
    · split
      · exact ⟨rfl, rfl, rfl⟩
      · split <;> exact ⟨rfl, rfl, rfl⟩
theorem FormedP.num {p : PatchS} (h : FormedP p) (h3 : p.kind = 3) : NumP p.number := by
  rcases h with h | h | h | h | h | h | h
  all_goals first
    | exact h.2.2
    | (have := h.1; omega)
theorem FormedP.ins {p : PatchS} (h : FormedP p) (h1 : p.kind = 1) : p.item.id = p.id ∧ p.item.parent = p.parent ∧ Proper p.item := by
  rcases h with h | h | h | h | h | h | h
  · exact ⟨h.2.2.1, h.2.2.2.1, h.2.2.2.2⟩
  all_goals (have := h.1; omega)
theorem edit_proper {x : Item} {p : PatchS} (hx : Proper x) (hf : FormedP p) (hc : CanEdit x p) : Proper (edit x p) := by
  obtain ⟨n1, n2, n3⟩ := hx
  rcases hc with ⟨h, hk, hg, -, hs⟩ | ⟨h, hg⟩ | ⟨h, hk, hg⟩ | ⟨h, hk, hg⟩ | ⟨h, hk, hg, h1, h2⟩
  · rcases n3 with ⟨q, -⟩ | ⟨-, q1, q2⟩
    · omega
    · unfold edit
      rw [if_pos h]
      unfold withText
      split
      · exact ⟨n1, n2, .inr ⟨hk, hs, q2⟩⟩
      · exact ⟨n1, n2, .inr ⟨hk, q1, hs⟩⟩
  · unfold edit
    rw [if_neg (by omega), if_pos h]
    exact ⟨hf.num h, n2, n3⟩
  · rcases n3 with ⟨q, -⟩ | ⟨-, q1, q2⟩
    · omega
    · unfold edit
      rw [if_neg (by omega), if_neg (by omega), if_pos h]
      exact ⟨n1, n2, .inr ⟨hk, q1, q2⟩⟩
  · rcases n3 with ⟨q, -⟩ | ⟨-, q1, q2⟩
    · omega
    · unfold edit
      rw [if_neg (by omega), if_neg (by omega), if_neg (by omega), if_pos h]
      exact ⟨n1, n2, .inr ⟨hk, q1, q2⟩⟩
  · unfold edit
    rw [if_neg (by omega), if_neg (by omega), if_neg (by omega), if_neg (by omega)]
    exact ⟨n1, n2, .inr ⟨hk, h1, h2⟩⟩
theorem Rel.ids {l d : List Item} {p : PatchS} (h : Rel l p d) : (ids d).Perm (if p.kind = 1 then p.id :: ids l else ids l) := by
  obtain ⟨hf, h⟩ := h
  rcases h with ⟨h1, -, -, -, A, C, sq, oa, oc, hP, rfl⟩ | ⟨h4, A, x, B, C, os, sq, oa, ob, oc, hA, hx, hg, hq, ha, hpl, A', C', sq', oa', oc', hP, rfl⟩ | ⟨h1, h4, A, x, R, rfl, hx, hc, rfl⟩
  · rw [if_pos h1, hP.eq]
    simp only [ids_append, ids_cons, (hf.ins h1).1]
    exact List.perm_middle
  · rw [if_neg (by omega), hA.eq]
    have e := congrArg Av.ids hP.eq
    simp only [ids_append,ids_cons] at e ⊢
    refine (List.perm_middle.trans ?_).trans List.perm_middle.symm
    refine List.Perm.cons _ ?_
    calc (Av.ids A' ++ (Av.ids B ++ Av.ids C')).Perm (Av.ids B ++ (Av.ids A' ++ Av.ids C')) := by
          rw [← List.append_assoc, ← List.append_assoc]; exact List.perm_append_comm.append_right _
      _ = Av.ids B ++ (Av.ids A ++ Av.ids C) := by rw [e]
      List.Perm _ (Av.ids A ++ (Av.ids B ++ Av.ids C)) := by
          rw [← List.append_assoc, ← List.append_assoc]; exact List.perm_append_comm.append_right _
  · rw [if_neg h1]
    simp [ids_append, ids_cons, (edit_id x p).1]
theorem Rel.valid {l d : List Item} {p : PatchS} (hv : ValidC l) (h : Rel l p d) : ValidC d := by
  obtain ⟨os0, hT⟩ := hv.tree
  have hl := hv.2
  have hp := h.ids
  obtain ⟨hf, h⟩ := h
  have len : p.kind ≠ 1 → d.length ≤ 2000 := fun h1 => by
    rw [if_neg h1] at hp
    have := hp.length_eq
    simp only [Av.ids,zq9] at this
    omega
  have nd : p.kind ≠ 1 → (Av.ids d).Nodup := fun h1 => by
    rw [if_neg h1] at hp
    exact hp.nodup_iff.2 hT.nodup
  rcases h with ⟨h1, hni, hlt, -, A, C, sq, oa, oc, hP, rfl⟩ | ⟨h4, A, x, B, C, os, sq, oa, ob, oc, hA, hx, hg, hq, ha, hpl, A', C', sq', oa', oc', hP, rfl⟩ | ⟨h1, h4, A, x, R, rfl, hx, hc, rfl⟩
  · obtain ⟨i1, i2, i3⟩ := hf.ins h1
    obtain ⟨oh, hO⟩ := Opens.one (s := sq) i2 ⟨_, .nil _ _⟩ (.inl rfl)
    have hpl := hP.ctx.plug hO
    simp only [zb0,za9] at hpl
    refine Tree.valid ⟨?_, ?_, hpl⟩ ?_
    · intro y hy
      rcases List.mem_append.1 hy with k | k
      · exact hT.proper y (by rw [hP.eq]; simp [k])
      · rcases List.mem_cons.1 k with rfl | k
        · exact i3
        · exact hT.proper y (by rw [hP.eq]; simp [k])
    · rw [if_pos h1] at hp
      exact hp.nodup_iff.2 (List.nodup_cons.2 ⟨hni, hT.nodup⟩)
    · have := congrArg List.length hP.eq
      simp only [List.length_append,zn3] at this ⊢
      omega
  · obtain ⟨ob', hB⟩ := hA.blk.restack (sq' ++ [x.id])
    obtain ⟨oh, hO⟩ := Opens.one (s := sq') (x := { x with parent := p.parent }) (p := p.parent) rfl ⟨ob', hB⟩ hA.leaf
    have hpl := hP.ctx.plug hO
    simp only [zb0] at hpl
    refine Tree.valid ⟨?_, nd (by omega), hpl⟩ (len (by omega))
    have hcut : ∀ y ∈ A' ++ C', y ∈ l := by
      rw [← hP.eq, hA.eq]
      intro y hy
      simp only [List.mem_append,List.mem_cons] at hy ⊢
      grind
    intro y hy
    simp only [List.mem_append,List.mem_cons] at hy
    rcases hy with k | rfl | k | k
    · exact hT.proper y (hcut y (by simp [k]))
    · exact hT.proper x (by rw [hA.eq]; simp)
    · exact hT.proper y (by rw [hA.eq]; simp [k])
    · exact hT.proper y (hcut y (by simp [k]))
  · obtain ⟨B, C, sq, oa, ob, oc, rfl, hA⟩ := hT.at rfl
    obtain ⟨e1, e2, e3⟩ := edit_id x p
    obtain ⟨oh, hO⟩ := Opens.one (s := sq) (x := edit x p) (p := x.parent) (B := B) e3 ⟨ob, by rw [e1]; exact hA.blk⟩ (by rw [e2]; exact hA.leaf)
    have hpl := hA.ctx.plug hO
    simp only [zb0] at hpl
    refine Tree.valid ⟨?_, nd h1, hpl⟩ (len h1)
    intro y hy
    rcases List.mem_append.1 hy with k | k
    · exact hT.proper y (by simp [k])
    · rcases List.mem_cons.1 k with rfl | k
      · exact edit_proper (hT.proper x (by simp)) hf hc
      · exact hT.proper y (by simp only [List.mem_append,List.mem_cons]; exact .inr (.inr (List.mem_append.1 k)))
theorem apply_ok {l : List Item} {p : PatchS} (h : applyE l p = 0) : ValidC l ∧ Rel l p (applyL l p) := by
  have hv : ValidC l := by
    by_cases hv : ValidC l
    · exact hv
    · rw [applyE, if_pos (.inl hv)] at h
      exact absurd h (by decide)
  exact ⟨hv, (apply_rel hv).2 ⟨h, rfl⟩⟩
/-- What PatchValid asks. -/
theorem apply_valid {l : List Item} {p : PatchS} (h : applyE l p = 0) : ValidC (applyL l p) ∧ (p.kind = 1 → 0 ≤ findS p.id (applyL l p) ∧ findS p.id l < 0) ∧ (∀ x ∈ l, 0 ≤ findS x.id (applyL l p)) ∧ (applyL l p).length = l.length + if p.kind = 1 then 1 else 0 := by
  obtain ⟨hv, hr⟩ := apply_ok h
  have hp := hr.ids
  refine ⟨hr.valid hv, fun h1 => ⟨?_, ?_⟩, fun x hx => ?_, ?_⟩
  · rw [findS_mem, hp.mem_iff, if_pos h1]
    simp
  · have hn : ¬ 0 ≤ findS p.id l := by
      intro h0
      obtain ⟨hf, -⟩ := hr
      rw [applyE, if_neg (by simp [hv, hf]), if_pos h1, if_pos h0] at h
      exact absurd h (by decide)
    omega
  · rw [findS_mem, hp.mem_iff]
    have := mem_ids.2 ⟨x, hx, rfl⟩
    split
    · exact .tail _ this
    · exact this
  · have := hp.length_eq
    split <;> rename_i h1
    · rw [if_pos h1] at this
      simpa [Av.ids] using this
    · rw [if_neg h1] at this
      simpa [Av.ids] using this
theorem ValidC.nodup {l : List Item} (h : ValidC l) : (ids l).Nodup := by
  obtain ⟨os, hT⟩ := h.tree
  exact hT.nodup
end Go.Av

namespace Go.Av
variable {P : Program} {T : List Nat} {σ : Type}
theorem light_fit {l : List Item} {p : PatchS} (hL : LightP l []) (hF : FewP p) : l.length ≤ 30 ∧ Fit l ∧ FitP p := by
  obtain ⟨h1, -, h3, -⟩ := hL
  obtain ⟨f1, f2, f3⟩ := hF
  unfold Few1 at f1
  unfold Few2 at f2
  unfold Few3 at f3
  refine ⟨h3, fun x hx => ?_, by omega, by omega, by omega⟩
  have := (h1 x hx).1
  unfold LightA at this
  omega
theorem after_fit {l : List Item} {p : PatchS} (hL : LightP l []) (hF : FewP p) (h0 : applyE l p = 0) : (applyL l p).length ≤ 31 ∧ Fit (applyL l p) := by
  obtain ⟨h1, h2, h3⟩ := light_fit hL hF
  obtain ⟨-, -, -, hlen⟩ := apply_valid h0
  refine ⟨by rw [hlen]; split <;> omega, fun x hx => ?_⟩
  have hm := (apply_ok h0).2.ids.mem_iff.1 (mem_ids.2 ⟨x, hx, rfl⟩)
  obtain ⟨f1, -, -⟩ := hF
  unfold Few1 at f1
  have hid : x.id ∈ ids l → x.id.size ≤ 1048576 := fun h => by
    obtain ⟨y, hy, e⟩ := mem_ids.1 h
    rw [← e]
    exact h2 y hy
  split at hm
  · rcases List.mem_cons.1 hm with k | k
    · rw [k]; omega
    · exact hid k
  · exact hid hm
end Go.Av

namespace Go.Av
theorem itemAt_mem {l : List Item} (hv : ValidC l) {x : Item} {id : Bs} (hx : x ∈ l) (h : x.id = id) : itemAt l id = x := by
  obtain ⟨os, hT⟩ := hv.tree
  rw [← h]
  exact hT.item hx
theorem Rel.again {l d : List Item} {p : PatchS} (hv : ValidC l) (h : Rel l p d) (hk : p.kind = 3 ∨ p.kind = 4 ∨ p.kind = 7) : Rel d p d := by
  have hd := h.valid hv
  obtain ⟨os0, hT⟩ := hv.tree
  obtain ⟨hf, h⟩ := h
  refine ⟨hf, ?_⟩
  rcases h with ⟨h1, -⟩ | ⟨h4, A, x, B, C, os, sq, oa, ob, oc, hA, hx, hg, hq, ha, hpl, A', C', sq', oa', oc', hP, rfl⟩ | ⟨h1, h4, A, x, R, rfl, hx, hc, rfl⟩
  · omega
  · obtain ⟨ob', hB⟩ := hA.blk.restack (sq' ++ [x.id])
    refine .inr (.inl ⟨h4, A', { x with parent := p.parent }, B, C', oa' ++ sq' :: (ob' ++ oc'), sq', oa', ob', oc', ⟨rfl, rfl, hP.ctx, hB, hA.leaf⟩, hx, hg, hq, ha, ?_, A', C', sq', oa', oc', ?_, rfl⟩)
    · rw [← hP.eq]; exact hpl
    · rw [← hP.eq]; exact hP
  · refine .inr (.inr ⟨h1, h4, A, edit x p, R, rfl, (edit_id x p).1.trans hx, ?_, ?_⟩)
    · rcases hk with h3 | h3 | h7
      · rcases hc with q | q | q | q | q
        · omega
        · refine .inr (.inl ⟨h3, ?_⟩)
          unfold edit
          rw [if_neg (by omega), if_pos h3]
          exact q.2
        · omega
        · omega
        · omega
      · omega
      · rcases hc with q | q | q | q | q
        · omega
        · omega
        · omega
        · omega
        · refine .inr (.inr (.inr (.inr ⟨h7, (edit_id x p).2.1.trans q.2.1, ?_, q.2.2.2⟩)))
          unfold edit
          rw [if_neg (by omega), if_neg (by omega), if_neg (by omega), if_neg (by omega)]
          exact q.2.2.1
    · have : edit (edit x p) p = edit x p := by
        rcases hk with h3 | h3 | h7
        · unfold edit
          rw [if_neg (by omega), if_pos h3, if_neg (by omega), if_pos h3]
        · omega
        · unfold edit
          rw [if_neg (by omega), if_neg (by omega), if_neg (by omega), if_neg (by omega), if_neg (by omega), if_neg (by omega), if_neg (by omega), if_neg (by omega)]
      rw [this]
/-- What PatchAgain asks. -/
theorem apply_again {l : List Item} {p : PatchS} (h : applyE l p = 0) : (p.kind = 1 → applyE (applyL l p) p = 9) ∧ (p.kind = 5 → applyE (applyL l p) p = 16) ∧ (p.kind = 6 → applyE (applyL l p) p = 12) ∧ (p.kind = 3 ∨ p.kind = 4 ∨ p.kind = 7 → applyE (applyL l p) p = 0 ∧ applyL (applyL l p) p = applyL l p) := by
  obtain ⟨hv, hr⟩ := apply_ok h
  have hd := hr.valid hv
  obtain ⟨q1, q2, q3, q4⟩ := apply_valid h
  generalize applyL l p = d at hr hd q1 q2 q3 q4 ⊢
  have hf := hr.1
  have ed : p.kind = 5 ∨ p.kind = 6 → ∃ x, x.kind = 2 ∧ itemAt d p.id = edit x p := by
    intro hk
    obtain ⟨-, h⟩ := hr
    rcases h with ⟨h1, -⟩ | ⟨h4, -⟩ | ⟨h1, h4, A, x, R, rfl, hx, hc, rfl⟩
    · omega
    · omega
    · refine ⟨x, ?_, itemAt_mem hd (by simp) ((edit_id x p).1.trans hx)⟩
      rcases hc with q | q | q | q | q
      · omega
      · omega
      · exact q.2.1
      · exact q.2.1
      · omega
  refine ⟨fun h1 => ?_, fun h5 => ?_, fun h6 => ?_, fun hk => (apply_rel hd).1 (hr.again hv hk)⟩
  · rw [applyE, if_neg (by simp [hd, hf]), if_pos h1, if_pos (q2 h1).1]
  · obtain ⟨x, k2, e⟩ := ed (.inl h5)
    have g : (edit x p).gone = true := by
      unfold edit
      rw [if_neg (by omega), if_neg (by omega), if_pos h5]
    have k := (edit_id x p).2.1
    rw [applyE, if_neg (by simp [hd, hf]), if_neg (by omega), e, if_neg (by omega), if_neg (by omega), if_pos ⟨by omega, g⟩]
  · obtain ⟨x, k2, e⟩ := ed (.inr h6)
    have g : (edit x p).gone = false := by
      unfold edit
      rw [if_neg (by omega), if_neg (by omega), if_neg (by omega), if_pos h6]
    have k := (edit_id x p).2.1
    rw [applyE, if_neg (by simp [hd, hf]), if_neg (by omega), e, if_neg (by omega), if_pos ⟨h6, g⟩]
end Go.Av

namespace Go.Av
variable {P : Program} {T : List Nat} {σ : Type}
theorem wIdx_at {st : St σ} {sz : Nat} {tok : Tok} {rows : List (List AV)} {i : Nat} {r : List AV} {K : AV → St σ → Prop} (h : rows[i]? = some r) : wIdx st sz (.sl sz tok rows) (.imm (.int .i64 i)) K = K (.eptr r 0) st := by
  have hi := (List.getElem?_eq_some_iff.1 h).1
  simp only [wIdx,AV.vslOf,AV.asSl,AV.asInt,zr0,zo3]
  rw [eq_iff_iff]
  constructor
  · rintro ⟨-, hq⟩
    exact hq r h
  · intro hq
    refine ⟨⟨by omega, by omega⟩, fun row hr => ?_⟩
    rw [h] at hr
    injection hr with hr
    rw [← hr]
    exact hq
theorem clone_con (L : Lay P T) (l : List Item) (hl : l.length ≤ 1048576) : Con P T 80 [.sl 7 .ro (l.map Item.row)] (.sl 7 .ro (l.map Item.row)) := by
  refine Con_of nul L.t_slices_Clone [] [] (by exact Nat.le_of_ble_eq_true rfl) ?_
  show wCode _ b_slices_Clone _ _ _ _
  simp -implicitDefEqProofs only [b_slices_Clone,za0,za1,za2,za3,za4,eff,AV.ptrOf,AV.tokOf,za5,za6,AV.weaks,AV.weak1,za7,za8,za9,zb0,zb1,zb2,zb3,zb4,zb5,zb6,zb7,zb8,zb9,zc0,zc1,zc2,zc3,zc4,zc5,zc6,zc7,zc8,zc9,zd0,zd1,zd2,zd3,zd4,zd5,zd6,zd7,zd8,zd9,ze0,ze1,ze2,ze3,ze4,ze5,ze6,ze7,ze8,ze9,zf0,zf1,zf2,zf3,zf4,zf5,zf6,zf7,zf8,zf9,zg0,zg1,zg2,zg3,zg4,zg5,zg6,zg7,zg8,zg9,zh0,zh1,zh2,zh3,zh4,zh5,zh6,zh7,zh8,zh9,zi0,zi1,zi2,zi3,zi4,zi5,zi6,wSnil,zi7,zi8,zi9,zj0,zj1,zj2,zj3,zj4,zj5,zj6,zj7,zj8,AV.flatB,AV.flatBs,zj9,zk0,zk1,zk2,zk3,zk4,zk5,zk6,act,AV.cells,AV.mk,AV.asSl,AV.asInt,AV.vslOf,wIdx,zk7,zk8,zk9,zl0,zl1,zl2,zl3,st0,env0,zl4,zl5,zl6,Nat.reduceAdd,Nat.reduceEqDiff,Nat.reduceLeDiff,↓reduceIte,AV.ofV,unV,← decide_not,zl7,zl8,zl9,zm0,zm1,zm2,zm3,zm4,zm5,zm6,zm7,zm8,zm9,zn0,zn1,zn2,zn3,zn4,zn5,zn6,zn7,reduceCtorEq,rowsOf,pureCells,AV.weak,AV.pureB,AV.pureBs,zn8,zn9,zo0,zo1,zo2,Nat.reduceBEq,zo3,zo4,zo5,zo6,zo7,zo8,zo9,zp0,zp1]
  refine ⟨fun hne => ?_, fun he => ?_⟩
  · refine wApp_own (.inr (.inl ⟨rfl, rfl⟩)) rfl (by simp only [zq9,zn4]; omega) ?_
    simp -implicitDefEqProofs only [c_slices_Clone,za0,za1,za2,za3,za4,eff,AV.ptrOf,AV.tokOf,za5,za6,AV.weaks,AV.weak1,za7,za8,za9,zb0,zb1,zb2,zb3,zb4,zb5,zb6,zb7,zb8,zb9,zc0,zc1,zc2,zc3,zc4,zc5,zc6,zc7,zc8,zc9,zd0,zd1,zd2,zd3,zd4,zd5,zd6,zd7,zd8,zd9,ze0,ze1,ze2,ze3,ze4,ze5,ze6,ze7,ze8,ze9,zf0,zf1,zf2,zf3,zf4,zf5,zf6,zf7,zf8,zf9,zg0,zg1,zg2,zg3,zg4,zg5,zg6,zg7,zg8,zg9,zh0,zh1,zh2,zh3,zh4,zh5,zh6,zh7,zh8,zh9,zi0,zi1,zi2,zi3,zi4,zi5,zi6,wSnil,zi7,zi8,zi9,zj0,zj1,zj2,zj3,zj4,zj5,zj6,zj7,zj8,AV.flatB,AV.flatBs,zj9,zk0,zk1,zk2,zk3,zk4,zk5,zk6,act,AV.cells,AV.mk,AV.asSl,AV.asInt,AV.vslOf,wIdx,zk7,zk8,zk9,zl0,zl1,zl2,zl3,st0,env0,zl4,zl5,zl6,Nat.reduceAdd,Nat.reduceEqDiff,Nat.reduceLeDiff,↓reduceIte,AV.ofV,unV,← decide_not,zl7,zl8,zl9,zm0,zm1,zm2,zm3,zm4,zm5,zm6,zm7,zm8,zm9,zn0,zn1,zn2,zn3,zn4,zn5,zn6,zn7,reduceCtorEq,rowsOf,pureCells,AV.weak,AV.pureB,AV.pureBs,zn8,zn9,zo0,zo1,zo2,Nat.reduceBEq,zo3,zo4,zo5,zo6,zo7,zo8,zo9,zp0,zp1,zp2,zp3,zp4,zp5,zp6,zp7,zp8,zp9,zq0,zq1,zq9]
    refine OwnSl.le (st := _) (d := 7) (.inr (.inr ⟨?_, ?_⟩))
    · simp [upd]
    · simp [upd]
  · refine ⟨?_, ?_⟩
    · simp -implicitDefEqProofs only [c_slices_Clone,zp2,zp3,zp4,zp5,zp6,zp7,zp8,zp9,zq0,zq1,zl4,Nat.reduceEqDiff,↓reduceIte,zm0]
      exact OwnSl.le (d := 7) (.inl ⟨rfl, he⟩)
    · refine wApp_own (.inr (.inl ⟨rfl, rfl⟩)) rfl (by simp only [zq9,zn4]; omega) ?_
      simp -implicitDefEqProofs only [c_slices_Clone,za0,za1,za2,za3,za4,eff,AV.ptrOf,AV.tokOf,za5,za6,AV.weaks,AV.weak1,za7,za8,za9,zb0,zb1,zb2,zb3,zb4,zb5,zb6,zb7,zb8,zb9,zc0,zc1,zc2,zc3,zc4,zc5,zc6,zc7,zc8,zc9,zd0,zd1,zd2,zd3,zd4,zd5,zd6,zd7,zd8,zd9,ze0,ze1,ze2,ze3,ze4,ze5,ze6,ze7,ze8,ze9,zf0,zf1,zf2,zf3,zf4,zf5,zf6,zf7,zf8,zf9,zg0,zg1,zg2,zg3,zg4,zg5,zg6,zg7,zg8,zg9,zh0,zh1,zh2,zh3,zh4,zh5,zh6,zh7,zh8,zh9,zi0,zi1,zi2,zi3,zi4,zi5,zi6,wSnil,zi7,zi8,zi9,zj0,zj1,zj2,zj3,zj4,zj5,zj6,zj7,zj8,AV.flatB,AV.flatBs,zj9,zk0,zk1,zk2,zk3,zk4,zk5,zk6,act,AV.cells,AV.mk,AV.asSl,AV.asInt,AV.vslOf,wIdx,zk7,zk8,zk9,zl0,zl1,zl2,zl3,st0,env0,zl4,zl5,zl6,Nat.reduceAdd,Nat.reduceEqDiff,Nat.reduceLeDiff,↓reduceIte,AV.ofV,unV,← decide_not,zl7,zl8,zl9,zm0,zm1,zm2,zm3,zm4,zm5,zm6,zm7,zm8,zm9,zn0,zn1,zn2,zn3,zn4,zn5,zn6,zn7,reduceCtorEq,rowsOf,pureCells,AV.weak,AV.pureB,AV.pureBs,zn8,zn9,zo0,zo1,zo2,Nat.reduceBEq,zo3,zo4,zo5,zo6,zo7,zo8,zo9,zp0,zp1,zp2,zp3,zp4,zp5,zp6,zp7,zp8,zp9,zq0,zq1,zq9]
      refine OwnSl.le (st := _) (d := 7) (.inr (.inr ⟨?_, ?_⟩))
      · simp [upd]
      · simp [upd]
theorem ends_ptr3 {n : Nat} {c : ACode} {s s' s2 d q off m : Nat} {ag : Bool} {r b : AV} {e : Nat → AV} {g : Nat → Nat} {v : Nat → List AV} {tg : Nat → Nat} {tp : Nat → Option Nat} {x : σ} (h : e s = .ptr d q off) (hq : q = g d ∧ 1 ≤ q ∧ off + m ≤ (v d).length) (hb : AV.mk ag (((v d).drop off).take m) = some b) (hr : endR (.tup [b, e s', e s2]) r (⟨e, g, v, tg, tp, x⟩ : St σ)) : ends ⟨n, c, [(s, some (ag, m)), (s', none), (s2, none)]⟩ r (⟨e, g, v, tg, tp, x⟩ : St σ) := by
  simp only [ends, resL, resA, h, if_pos hq, hb, Option.map_some, wOpt_some, resV]
  exact hr
theorem nilC3_end {σ : Type} {st : St σ} {i e : Int} : endR (.tup [.agg [.imm (.slice none 0 0)], .imm (.int .i64 i), .imm (.int .i64 e)]) (.tup [.agg [.sl 7 .ro []], .imm (.int .i64 i), .imm (.int .i64 e)]) st := by
  have h1 : (AV.tup [.agg [.imm (.slice none 0 0)], .imm (.int .i64 i), .imm (.int .i64 e)]).weaks = .tup [.agg [.imm (.slice none 0 0)], .imm (.int .i64 i), .imm (.int .i64 e)] := rfl
  unfold endR
  rw [out_pure h1 rfl]
  simp [wOpt, AV.le, AV.les2, AV.le2, AV.les1, AV.le1]
def goS : Nat → List Item → List PatchS → List Item × Int × Int
  | _, l, [] => (l, -1, 0)
  | i, l, p :: ps => if applyE l p = 0 then goS (i + 1) (applyL l p) ps else ([], i, applyE l p)
def allS (l : List Item) (ps : List PatchS) : List Item × Int × Int := if ValidC l then goS 0 l ps else ([], -1, 1)
def resW (r : List Item × Int × Int) : AV := .tup [.agg [.sl 7 .ro (r.1.map Item.row)], .imm (.int .i64 r.2.1), .imm (.int .i64 r.2.2)]
theorem fit_apply {l : List Item} {p : PatchS} (hf : Fit l) (hp : p.id.size ≤ 1048576) (h0 : applyE l p = 0) : (applyL l p).length ≤ l.length + 1 ∧ Fit (applyL l p) := by
  obtain ⟨-, -, -, hlen⟩ := apply_valid h0
  refine ⟨by rw [hlen]; split <;> omega, fun x hx => ?_⟩
  have hm := (apply_ok h0).2.ids.mem_iff.1 (mem_ids.2 ⟨x, hx, rfl⟩)
  have hid : x.id ∈ ids l → x.id.size ≤ 1048576 := fun h => by
    obtain ⟨y, hy, e⟩ := mem_ids.1 h
    rw [← e]
    exact hf y hy
  split at hm
  · rcases List.mem_cons.1 hm with k | k
    · rw [k]; exact hp
    · exact hid k
  · exact hid hm
theorem all_con (L : Lay P T) (V : StrLib P T) (W : Ovl7 P T) (W2 : Clr7 P T) (l : List Item) (ps : List PatchS) (hl : l.length ≤ 1000) (hps : ps.length ≤ 1000) (hf : Fit l) (hp : ∀ p ∈ ps, FitP p ∧ p.id.size ≤ 1048576) :
    Con P T 54 [.agg [.sl 7 .ro (l.map Item.row)], .sl 15 .ro (ps.map PatchS.row)] (resW (allS l ps)) := by
  refine Con_ofA nul L.t_patch_All [] [] (by exact Nat.le_of_ble_eq_true rfl) ?_
  change AW _ b_patch_All _ _ _ _
  refine AW_seq ?_
  simp -implicitDefEqProofs only [za0,za1,za2,za3,za4,eff,AV.ptrOf,AV.tokOf,za5,za6,AV.weaks,AV.weak1,za7,za8,za9,zb0,zb1,zb2,zb3,zb4,zb5,zb6,zb7,zb8,zb9,zc0,zc1,zc2,zc3,zc4,zc5,zc6,zc7,zc8,zc9,zd0,zd1,zd2,zd3,zd4,zd5,zd6,zd7,zd8,zd9,ze0,ze1,ze2,ze3,ze4,ze5,ze6,ze7,ze8,ze9,zf0,zf1,zf2,zf3,zf4,zf5,zf6,zf7,zf8,zf9,zg0,zg1,zg2,zg3,zg4,zg5,zg6,zg7,zg8,zg9,zh0,zh1,zh2,zh3,zh4,zh5,zh6,zh7,zh8,zh9,zi0,zi1,zi2,zi3,zi4,zi5,zi6,wSnil,zi7,zi8,zi9,zj0,zj1,zj2,zj3,zj4,zj5,zj6,zj7,zj8,AV.flatB,AV.flatBs,zj9,zk0,zk1,zk2,zk3,zk4,zk5,zk6,act,AV.cells,AV.mk,AV.asSl,AV.asInt,AV.vslOf,wIdx,zk7,zk8,zk9,zl0,zl1,zl2,zl3,st0,env0,zl4,zl5,zl6,Nat.reduceAdd,Nat.reduceEqDiff,Nat.reduceLeDiff,↓reduceIte,AV.ofV,unV,← decide_not,zl7,zl8,zl9,zm0,zm1,zm2,zm3,zm4,zm5,zm6,zm7,zm8,zm9,zn0,zn1,zn2,zn3,zn4,zn5,zn6,zn7,reduceCtorEq,rowsOf,pureCells,AV.weak,AV.pureB,AV.pureBs,zn8,zn9,zo0,zo1,zo2,Nat.reduceBEq,zo3,zo4,zo5,zo6,zo7,zo8,zo9,zp0,zp1]
  refine AW_gen [(1, .sl 15 .ro (ps.map PatchS.row)), (2, .ptr 2 1 0), (4, .ptr 4 1 0)] [(2, 1), (4, 1)] [(2, [.sl 7 .ro (l.map Item.row)]), (4, [.imm (.slice none 0 0)])] ?_ ?_
  · simp -implicitDefEqProofs only [env0,undefA,zb0,za9,zq2,zq3,zq4,zq5,zq6,Envs,Gens,Vars,za0,za1,za2,za3,za4,eff,AV.ptrOf,AV.tokOf,za5,za6,AV.weaks,AV.weak1,za7,za8,zb1,zb2,zb3,zb4,zb5,zb6,zb7,zb8,zb9,zc0,zc1,zc2,zc3,zc4,zc5,zc6,zc7,zc8,zc9,zd0,zd1,zd2,zd3,zd4,zd5,zd6,zd7,zd8,zd9,ze0,ze1,ze2,ze3,ze4,ze5,ze6,ze7,ze8,ze9,zf0,zf1,zf2,zf3,zf4,zf5,zf6,zf7,zf8,zf9,zg0,zg1,zg2,zg3,zg4,zg5,zg6,zg7,zg8,zg9,zh0,zh1,zh2,zh3,zh4,zh5,zh6,zh7,zh8,zh9,zi0,zi1,zi2,zi3,zi4,zi5,zi6,wSnil,zi7,zi8,zi9,zj0,zj1,zj2,zj3,zj4,zj5,zj6,zj7,zj8,AV.flatB,AV.flatBs,zj9,zk0,zk1,zk2,zk3,zk4,zk5,zk6,act,AV.cells,AV.mk,AV.asSl,AV.asInt,AV.vslOf,wIdx,zk7,zk8,zk9,zl0,zl1,zl2,zl3,st0,zl4,zl5,zl6,Nat.reduceAdd,Nat.reduceEqDiff,Nat.reduceLeDiff,↓reduceIte,AV.ofV,unV,← decide_not,zl7,zl8,zl9,zm0,zm1,zm2,zm3,zm4,zm5,zm6,zm7,zm8,zm9,zn0,zn1,zn2,zn3,zn4,zn5,zn6,zn7,reduceCtorEq,rowsOf,pureCells,AV.weak,AV.pureB,AV.pureBs,zn8,zn9,zo0,zo1,zo2,Nat.reduceBEq,zo3,zo4,zo5,zo6,zo7,zo8,zo9,zp0,zp1]
  rintro e g v tg tp x' ⟨e1, e2, e4, -⟩ ⟨g2, g4, -⟩ ⟨v2, v4, -⟩
  refine AW_seq ?_
  simp -implicitDefEqProofs only [e1,e2,e4,g2,g4,v2,v4,za0,za1,za2,za3,za4,eff,AV.ptrOf,AV.tokOf,za5,za6,AV.weaks,AV.weak1,za7,za8,za9,zb0,zb1,zb2,zb3,zb4,zb5,zb6,zb7,zb8,zb9,zc0,zc1,zc2,zc3,zc4,zc5,zc6,zc7,zc8,zc9,zd0,zd1,zd2,zd3,zd4,zd5,zd6,zd7,zd8,zd9,ze0,ze1,ze2,ze3,ze4,ze5,ze6,ze7,ze8,ze9,zf0,zf1,zf2,zf3,zf4,zf5,zf6,zf7,zf8,zf9,zg0,zg1,zg2,zg3,zg4,zg5,zg6,zg7,zg8,zg9,zh0,zh1,zh2,zh3,zh4,zh5,zh6,zh7,zh8,zh9,zi0,zi1,zi2,zi3,zi4,zi5,zi6,wSnil,zi7,zi8,zi9,zj0,zj1,zj2,zj3,zj4,zj5,zj6,zj7,zj8,AV.flatB,AV.flatBs,zj9,zk0,zk1,zk2,zk3,zk4,zk5,zk6,act,AV.cells,AV.mk,AV.asSl,AV.asInt,AV.vslOf,wIdx,zk7,zk8,zk9,zl0,zl1,zl2,zl3,st0,env0,zl4,zl5,zl6,Nat.reduceAdd,Nat.reduceEqDiff,Nat.reduceLeDiff,↓reduceIte,AV.ofV,unV,← decide_not,zl7,zl8,zl9,zm0,zm1,zm2,zm3,zm4,zm5,zm6,zm7,zm8,zm9,zn0,zn1,zn2,zn3,zn4,zn5,zn6,zn7,reduceCtorEq,rowsOf,pureCells,AV.weak,AV.pureB,AV.pureBs,zn8,zn9,zo0,zo1,zo2,Nat.reduceBEq,zo3,zo4,zo5,zo6,zo7,zo8,zo9,zp0,zp1]
  refine wCall_imm (valid_con L V l (by omega) hf) rfl (AV.les2_refl _) ?_
  by_cases hv : ValidC l
  case neg =>
    have t1 := eq_false hv
    simp -implicitDefEqProofs only [t1,zq3,e1,e2,e4,g2,g4,v2,v4,fills,splice,zq7,zq8,c_patch_All,za0,za1,za2,za3,za4,eff,AV.ptrOf,AV.tokOf,za5,za6,AV.weaks,AV.weak1,za7,za8,za9,zb0,zb1,zb2,zb3,zb4,zb5,zb6,zb7,zb8,zb9,zc0,zc1,zc2,zc3,zc4,zc5,zc6,zc7,zc8,zc9,zd0,zd1,zd2,zd3,zd4,zd5,zd6,zd7,zd8,zd9,ze0,ze1,ze2,ze3,ze4,ze5,ze6,ze7,ze8,ze9,zf0,zf1,zf2,zf3,zf4,zf5,zf6,zf7,zf8,zf9,zg0,zg1,zg2,zg3,zg4,zg5,zg6,zg7,zg8,zg9,zh0,zh1,zh2,zh3,zh4,zh5,zh6,zh7,zh8,zh9,zi0,zi1,zi2,zi3,zi4,zi5,zi6,wSnil,zi7,zi8,zi9,zj0,zj1,zj2,zj3,zj4,zj5,zj6,zj7,zj8,AV.flatB,AV.flatBs,zj9,zk0,zk1,zk2,zk3,zk4,zk5,zk6,act,AV.cells,AV.mk,AV.asSl,AV.asInt,AV.vslOf,wIdx,zk7,zk8,zk9,zl0,zl1,zl2,zl3,st0,env0,zl4,zl5,zl6,Nat.reduceAdd,Nat.reduceEqDiff,Nat.reduceLeDiff,↓reduceIte,AV.ofV,unV,← decide_not,zl7,zl8,zl9,zm0,zm1,zm2,zm3,zm4,zm5,zm6,zm7,zm8,zm9,zn0,zn1,zn2,zn3,zn4,zn5,zn6,zn7,reduceCtorEq,rowsOf,pureCells,AV.weak,AV.pureB,AV.pureBs,zn8,zn9,zo0,zo1,zo2,Nat.reduceBEq,zo3,zo4,zo5,zo6,zo7,zo8,zo9,zp0,zp1]
    rw [show allS l ps = ([], -1, 1) from if_neg hv]
    refine ends_ptr3 (d := 4) (q := 1) (off := 0) (by simp [upd, e4]) ⟨by simp [upd, g4], Nat.le_refl _, by simp [upd]⟩ (b := .agg [.imm (.slice none 0 0)]) (by simp [upd, AV.mk]) ?_
    exact nilC3_end
  have t1 := eq_true hv
  simp -implicitDefEqProofs only [t1,zq2,e1,e2,e4,g2,g4,v2,v4,za0,za1,za2,za3,za4,eff,AV.ptrOf,AV.tokOf,za5,za6,AV.weaks,AV.weak1,za7,za8,za9,zb0,zb1,zb2,zb3,zb4,zb5,zb6,zb7,zb8,zb9,zc0,zc1,zc2,zc3,zc4,zc5,zc6,zc7,zc8,zc9,zd0,zd1,zd2,zd3,zd4,zd5,zd6,zd7,zd8,zd9,ze0,ze1,ze2,ze3,ze4,ze5,ze6,ze7,ze8,ze9,zf0,zf1,zf2,zf3,zf4,zf5,zf6,zf7,zf8,zf9,zg0,zg1,zg2,zg3,zg4,zg5,zg6,zg7,zg8,zg9,zh0,zh1,zh2,zh3,zh4,zh5,zh6,zh7,zh8,zh9,zi0,zi1,zi2,zi3,zi4,zi5,zi6,wSnil,zi7,zi8,zi9,zj0,zj1,zj2,zj3,zj4,zj5,zj6,zj7,zj8,AV.flatB,AV.flatBs,zj9,zk0,zk1,zk2,zk3,zk4,zk5,zk6,act,AV.cells,AV.mk,AV.asSl,AV.asInt,AV.vslOf,wIdx,zk7,zk8,zk9,zl0,zl1,zl2,zl3,st0,env0,zl4,zl5,zl6,Nat.reduceAdd,Nat.reduceEqDiff,Nat.reduceLeDiff,↓reduceIte,AV.ofV,unV,← decide_not,zl7,zl8,zl9,zm0,zm1,zm2,zm3,zm4,zm5,zm6,zm7,zm8,zm9,zn0,zn1,zn2,zn3,zn4,zn5,zn6,zn7,reduceCtorEq,rowsOf,pureCells,AV.weak,AV.pureB,AV.pureBs,zn8,zn9,zo0,zo1,zo2,Nat.reduceBEq,zo3,zo4,zo5,zo6,zo7,zo8,zo9,zp0,zp1]
  refine AW_seq ?_
  simp -implicitDefEqProofs only [e1,e2,e4,g2,g4,v2,v4,zq9,za0,za1,za2,za3,za4,eff,AV.ptrOf,AV.tokOf,za5,za6,AV.weaks,AV.weak1,za7,za8,za9,zb0,zb1,zb2,zb3,zb4,zb5,zb6,zb7,zb8,zb9,zc0,zc1,zc2,zc3,zc4,zc5,zc6,zc7,zc8,zc9,zd0,zd1,zd2,zd3,zd4,zd5,zd6,zd7,zd8,zd9,ze0,ze1,ze2,ze3,ze4,ze5,ze6,ze7,ze8,ze9,zf0,zf1,zf2,zf3,zf4,zf5,zf6,zf7,zf8,zf9,zg0,zg1,zg2,zg3,zg4,zg5,zg6,zg7,zg8,zg9,zh0,zh1,zh2,zh3,zh4,zh5,zh6,zh7,zh8,zh9,zi0,zi1,zi2,zi3,zi4,zi5,zi6,wSnil,zi7,zi8,zi9,zj0,zj1,zj2,zj3,zj4,zj5,zj6,zj7,zj8,AV.flatB,AV.flatBs,zj9,zk0,zk1,zk2,zk3,zk4,zk5,zk6,act,AV.cells,AV.mk,AV.asSl,AV.asInt,AV.vslOf,wIdx,zk7,zk8,zk9,zl0,zl1,zl2,zl3,st0,env0,zl4,zl5,zl6,Nat.reduceAdd,Nat.reduceEqDiff,Nat.reduceLeDiff,↓reduceIte,AV.ofV,unV,← decide_not,zl7,zl8,zl9,zm0,zm1,zm2,zm3,zm4,zm5,zm6,zm7,zm8,zm9,zn0,zn1,zn2,zn3,zn4,zn5,zn6,zn7,reduceCtorEq,rowsOf,pureCells,AV.weak,AV.pureB,AV.pureBs,zn8,zn9,zo0,zo1,zo2,Nat.reduceBEq,zo3,zo4,zo5,zo6,zo7,zo8,zo9,zp0,zp1]
  rw [show allS l ps = goS 0 l ps from if_pos hv]
  refine AW_loop (fun k s => (Envs s.env [(2, .ptr 2 1 0), (4, .ptr 4 1 0), (15, .sl 15 .ro (ps.map PatchS.row)), (16, .imm (.int .i64 ps.length))] ∧ Gens s.gen [(2, 1), (4, 1)] ∧ s.var 4 = [.imm (.slice none 0 0)]) ∧ ∃ (i : Nat) (c : List Item), i + k = ps.length ∧ s.env 17 = .imm (.int .i64 i) ∧ s.var 2 = [.sl 7 .ro (c.map Item.row)] ∧ Fit c ∧ c.length ≤ l.length + i ∧ goS 0 l ps = goS i c (ps.drop i)) ps.length ?_ ?_
  · refine ⟨⟨?_, ?_, v4⟩, 0, l, by simp, by simp [upd], v2, hf, by omega, rfl⟩
    · simp -implicitDefEqProofs only [e1,e2,e4,g2,g4,v2,v4,zq9,undefA,zb0,za9,zq2,zq3,zq4,zq5,zq6,Envs,Gens,Vars,za0,za1,za2,za3,za4,eff,AV.ptrOf,AV.tokOf,za5,za6,AV.weaks,AV.weak1,za7,za8,zb1,zb2,zb3,zb4,zb5,zb6,zb7,zb8,zb9,zc0,zc1,zc2,zc3,zc4,zc5,zc6,zc7,zc8,zc9,zd0,zd1,zd2,zd3,zd4,zd5,zd6,zd7,zd8,zd9,ze0,ze1,ze2,ze3,ze4,ze5,ze6,ze7,ze8,ze9,zf0,zf1,zf2,zf3,zf4,zf5,zf6,zf7,zf8,zf9,zg0,zg1,zg2,zg3,zg4,zg5,zg6,zg7,zg8,zg9,zh0,zh1,zh2,zh3,zh4,zh5,zh6,zh7,zh8,zh9,zi0,zi1,zi2,zi3,zi4,zi5,zi6,wSnil,zi7,zi8,zi9,zj0,zj1,zj2,zj3,zj4,zj5,zj6,zj7,zj8,AV.flatB,AV.flatBs,zj9,zk0,zk1,zk2,zk3,zk4,zk5,zk6,act,AV.cells,AV.mk,AV.asSl,AV.asInt,AV.vslOf,wIdx,zk7,zk8,zk9,zl0,zl1,zl2,zl3,st0,env0,zl4,zl5,zl6,Nat.reduceAdd,Nat.reduceEqDiff,Nat.reduceLeDiff,↓reduceIte,AV.ofV,unV,← decide_not,zl7,zl8,zl9,zm0,zm1,zm2,zm3,zm4,zm5,zm6,zm7,zm8,zm9,zn0,zn1,zn2,zn3,zn4,zn5,zn6,zn7,reduceCtorEq,rowsOf,pureCells,AV.weak,AV.pureB,AV.pureBs,zn8,zn9,zo0,zo1,zo2,Nat.reduceBEq,zo3,zo4,zo5,zo6,zo7,zo8,zo9,zp0,zp1]
    · simp -implicitDefEqProofs only [e1,e2,e4,g2,g4,v2,v4,zq9,undefA,zb0,za9,zq2,zq3,zq4,zq5,zq6,Envs,Gens,Vars,za0,za1,za2,za3,za4,eff,AV.ptrOf,AV.tokOf,za5,za6,AV.weaks,AV.weak1,za7,za8,zb1,zb2,zb3,zb4,zb5,zb6,zb7,zb8,zb9,zc0,zc1,zc2,zc3,zc4,zc5,zc6,zc7,zc8,zc9,zd0,zd1,zd2,zd3,zd4,zd5,zd6,zd7,zd8,zd9,ze0,ze1,ze2,ze3,ze4,ze5,ze6,ze7,ze8,ze9,zf0,zf1,zf2,zf3,zf4,zf5,zf6,zf7,zf8,zf9,zg0,zg1,zg2,zg3,zg4,zg5,zg6,zg7,zg8,zg9,zh0,zh1,zh2,zh3,zh4,zh5,zh6,zh7,zh8,zh9,zi0,zi1,zi2,zi3,zi4,zi5,zi6,wSnil,zi7,zi8,zi9,zj0,zj1,zj2,zj3,zj4,zj5,zj6,zj7,zj8,AV.flatB,AV.flatBs,zj9,zk0,zk1,zk2,zk3,zk4,zk5,zk6,act,AV.cells,AV.mk,AV.asSl,AV.asInt,AV.vslOf,wIdx,zk7,zk8,zk9,zl0,zl1,zl2,zl3,st0,env0,zl4,zl5,zl6,Nat.reduceAdd,Nat.reduceEqDiff,Nat.reduceLeDiff,↓reduceIte,AV.ofV,unV,← decide_not,zl7,zl8,zl9,zm0,zm1,zm2,zm3,zm4,zm5,zm6,zm7,zm8,zm9,zn0,zn1,zn2,zn3,zn4,zn5,zn6,zn7,reduceCtorEq,rowsOf,pureCells,AV.weak,AV.pureB,AV.pureBs,zn8,zn9,zo0,zo1,zo2,Nat.reduceBEq,zo3,zo4,zo5,zo6,zo7,zo8,zo9,zp0,zp1]
  clear e1 e2 e4 g2 g4 v2 v4
  rintro k ⟨e, g, v, tg, tp, x'⟩ ⟨⟨⟨e2, e4, e15, e16, -⟩, ⟨g2, g4, -⟩, v4⟩, i, c, hi, e17, v2, hc, hcl, hgo⟩
  simp only at e2 e4 e15 e16 e17 g2 g4 v2 v4
  by_cases hlt : i < ps.length
  · have w1 : ((i : Int) < (ps.length : Nat)) = True := eq_true (by omega)
    obtain ⟨p, hpi⟩ : ∃ p, ps[i]? = some p := ⟨_, List.getElem?_eq_getElem hlt⟩
    obtain ⟨fp, fid⟩ := hp p (List.mem_of_getElem? hpi)
    have hdr : ps.drop i = p :: ps.drop (i + 1) := by
      obtain ⟨h1, h2⟩ := List.getElem?_eq_some_iff.1 hpi
      rw [← h2, List.getElem_cons_drop]
    rw [hdr, goS] at hgo
    refine AW_code ?_
    have rb : ∀ (st : St Unit) (K : AV → St Unit → Prop), wIdx st 15 (.sl 15 .ro (ps.map PatchS.row)) (.imm (.int .i64 i)) K = K (.eptr p.row 0) st := fun st K => wIdx_at (by rw [List.getElem?_map, hpi]; rfl)
    simp -implicitDefEqProofs only [l_patch_All_0,w1,rb,zq2,e2,e4,e15,e16,e17,g2,g4,v2,v4,zq9,PatchS.row,Item.row,fills,splice,zq7,zq8,zb0,za9,za0,za1,za2,za3,za4,eff,AV.ptrOf,AV.tokOf,za5,za6,AV.weaks,AV.weak1,za7,za8,zb1,zb2,zb3,zb4,zb5,zb6,zb7,zb8,zb9,zc0,zc1,zc2,zc3,zc4,zc5,zc6,zc7,zc8,zc9,zd0,zd1,zd2,zd3,zd4,zd5,zd6,zd7,zd8,zd9,ze0,ze1,ze2,ze3,ze4,ze5,ze6,ze7,ze8,ze9,zf0,zf1,zf2,zf3,zf4,zf5,zf6,zf7,zf8,zf9,zg0,zg1,zg2,zg3,zg4,zg5,zg6,zg7,zg8,zg9,zh0,zh1,zh2,zh3,zh4,zh5,zh6,zh7,zh8,zh9,zi0,zi1,zi2,zi3,zi4,zi5,zi6,wSnil,zi7,zi8,zi9,zj0,zj1,zj2,zj3,zj4,zj5,zj6,zj7,zj8,AV.flatB,AV.flatBs,zj9,zk0,zk1,zk2,zk3,zk4,zk5,zk6,act,AV.cells,AV.mk,AV.asSl,AV.asInt,AV.vslOf,zk7,zk8,zk9,zl0,zl1,zl2,zl3,st0,env0,zl4,zl5,zl6,Nat.reduceAdd,Nat.reduceEqDiff,Nat.reduceLeDiff,↓reduceIte,AV.ofV,unV,← decide_not,zl7,zl8,zl9,zm0,zm1,zm2,zm3,zm4,zm5,zm6,zm7,zm8,zm9,zn0,zn1,zn2,zn3,zn4,zn5,zn6,zn7,reduceCtorEq,rowsOf,pureCells,AV.weak,AV.pureB,AV.pureBs,zn8,zn9,zo0,zo1,zo2,Nat.reduceBEq,zo3,zo4,zo5,zo6,zo7,zo8,zo9,zp0,zp1]
    refine wCall_pure (apply_con L V W W2 c p (by omega) hc fp) rfl rfl (AV.les2_refl _) ?_
    by_cases h0 : applyE c p = 0
    · have t3 := eq_true h0
      rw [if_pos h0] at hgo
      obtain ⟨f1, f2⟩ := fit_apply hc fid h0
      simp -implicitDefEqProofs only [resC,t3,zq6,zq4,zq3,e2,e4,e15,e16,e17,g2,g4,v2,v4,zq9,PatchS.row,Item.row,fills,splice,zq7,zq8,zb0,za9,za0,za1,za2,za3,za4,eff,AV.ptrOf,AV.tokOf,za5,za6,AV.weaks,AV.weak1,za7,za8,zb1,zb2,zb3,zb4,zb5,zb6,zb7,zb8,zb9,zc0,zc1,zc2,zc3,zc4,zc5,zc6,zc7,zc8,zc9,zd0,zd1,zd2,zd3,zd4,zd5,zd6,zd7,zd8,zd9,ze0,ze1,ze2,ze3,ze4,ze5,ze6,ze7,ze8,ze9,zf0,zf1,zf2,zf3,zf4,zf5,zf6,zf7,zf8,zf9,zg0,zg1,zg2,zg3,zg4,zg5,zg6,zg7,zg8,zg9,zh0,zh1,zh2,zh3,zh4,zh5,zh6,zh7,zh8,zh9,zi0,zi1,zi2,zi3,zi4,zi5,zi6,wSnil,zi7,zi8,zi9,zj0,zj1,zj2,zj3,zj4,zj5,zj6,zj7,zj8,AV.flatB,AV.flatBs,zj9,zk0,zk1,zk2,zk3,zk4,zk5,zk6,act,AV.cells,AV.mk,AV.asSl,AV.asInt,AV.vslOf,zk7,zk8,zk9,zl0,zl1,zl2,zl3,st0,env0,zl4,zl5,zl6,Nat.reduceAdd,Nat.reduceEqDiff,Nat.reduceLeDiff,↓reduceIte,AV.ofV,unV,← decide_not,zl7,zl8,zl9,zm0,zm1,zm2,zm3,zm4,zm5,zm6,zm7,zm8,zm9,zn0,zn1,zn2,zn3,zn4,zn5,zn6,zn7,reduceCtorEq,rowsOf,pureCells,AV.weak,AV.pureB,AV.pureBs,zn8,zn9,zo0,zo1,zo2,Nat.reduceBEq,zo3,zo4,zo5,zo6,zo7,zo8,zo9,zp0,zp1]
      refine ⟨_, k - 1, Weak.refl _, by omega, ⟨?_, ?_, by simp [upd, v4]⟩, i + 1, applyL c p, by omega, ?_, by simp [upd], f2, by omega, hgo⟩
      · simp -implicitDefEqProofs only [e2,e4,e15,e16,e17,g2,g4,zq9,undefA,zb0,za9,zq2,zq3,zq4,zq5,zq6,Envs,Gens,Vars,za0,za1,za2,za3,za4,eff,AV.ptrOf,AV.tokOf,za5,za6,AV.weaks,AV.weak1,za7,za8,zb1,zb2,zb3,zb4,zb5,zb6,zb7,zb8,zb9,zc0,zc1,zc2,zc3,zc4,zc5,zc6,zc7,zc8,zc9,zd0,zd1,zd2,zd3,zd4,zd5,zd6,zd7,zd8,zd9,ze0,ze1,ze2,ze3,ze4,ze5,ze6,ze7,ze8,ze9,zf0,zf1,zf2,zf3,zf4,zf5,zf6,zf7,zf8,zf9,zg0,zg1,zg2,zg3,zg4,zg5,zg6,zg7,zg8,zg9,zh0,zh1,zh2,zh3,zh4,zh5,zh6,zh7,zh8,zh9,zi0,zi1,zi2,zi3,zi4,zi5,zi6,wSnil,zi7,zi8,zi9,zj0,zj1,zj2,zj3,zj4,zj5,zj6,zj7,zj8,AV.flatB,AV.flatBs,zj9,zk0,zk1,zk2,zk3,zk4,zk5,zk6,act,AV.cells,AV.mk,AV.asSl,AV.asInt,AV.vslOf,wIdx,zk7,zk8,zk9,zl0,zl1,zl2,zl3,st0,env0,zl4,zl5,zl6,Nat.reduceAdd,Nat.reduceEqDiff,Nat.reduceLeDiff,↓reduceIte,AV.ofV,unV,← decide_not,zl7,zl8,zl9,zm0,zm1,zm2,zm3,zm4,zm5,zm6,zm7,zm8,zm9,zn0,zn1,zn2,zn3,zn4,zn5,zn6,zn7,reduceCtorEq,rowsOf,pureCells,AV.weak,AV.pureB,AV.pureBs,zn8,zn9,zo0,zo1,zo2,Nat.reduceBEq,zo3,zo4,zo5,zo6,zo7,zo8,zo9,zp0,zp1]
      · simp -implicitDefEqProofs only [e2,e4,e15,e16,e17,g2,g4,zq9,undefA,zb0,za9,zq2,zq3,zq4,zq5,zq6,Envs,Gens,Vars,za0,za1,za2,za3,za4,eff,AV.ptrOf,AV.tokOf,za5,za6,AV.weaks,AV.weak1,za7,za8,zb1,zb2,zb3,zb4,zb5,zb6,zb7,zb8,zb9,zc0,zc1,zc2,zc3,zc4,zc5,zc6,zc7,zc8,zc9,zd0,zd1,zd2,zd3,zd4,zd5,zd6,zd7,zd8,zd9,ze0,ze1,ze2,ze3,ze4,ze5,ze6,ze7,ze8,ze9,zf0,zf1,zf2,zf3,zf4,zf5,zf6,zf7,zf8,zf9,zg0,zg1,zg2,zg3,zg4,zg5,zg6,zg7,zg8,zg9,zh0,zh1,zh2,zh3,zh4,zh5,zh6,zh7,zh8,zh9,zi0,zi1,zi2,zi3,zi4,zi5,zi6,wSnil,zi7,zi8,zi9,zj0,zj1,zj2,zj3,zj4,zj5,zj6,zj7,zj8,AV.flatB,AV.flatBs,zj9,zk0,zk1,zk2,zk3,zk4,zk5,zk6,act,AV.cells,AV.mk,AV.asSl,AV.asInt,AV.vslOf,wIdx,zk7,zk8,zk9,zl0,zl1,zl2,zl3,st0,env0,zl4,zl5,zl6,Nat.reduceAdd,Nat.reduceEqDiff,Nat.reduceLeDiff,↓reduceIte,AV.ofV,unV,← decide_not,zl7,zl8,zl9,zm0,zm1,zm2,zm3,zm4,zm5,zm6,zm7,zm8,zm9,zn0,zn1,zn2,zn3,zn4,zn5,zn6,zn7,reduceCtorEq,rowsOf,pureCells,AV.weak,AV.pureB,AV.pureBs,zn8,zn9,zo0,zo1,zo2,Nat.reduceBEq,zo3,zo4,zo5,zo6,zo7,zo8,zo9,zp0,zp1]
      · simp only [zl4,Nat.reduceEqDiff,zo3,zo4]
        rw [IntWalk.i64_in _ (by omega)]
        rfl
    · have t3 := eq_false h0
      rw [if_neg h0] at hgo
      simp -implicitDefEqProofs only [resC,t3,zq6,zq5,zq2,e2,e4,e15,e16,e17,g2,g4,v2,v4,zq9,PatchS.row,Item.row,fills,splice,zq7,zq8,zb0,za9,c_patch_All,za0,za1,za2,za3,za4,eff,AV.ptrOf,AV.tokOf,za5,za6,AV.weaks,AV.weak1,za7,za8,zb1,zb2,zb3,zb4,zb5,zb6,zb7,zb8,zb9,zc0,zc1,zc2,zc3,zc4,zc5,zc6,zc7,zc8,zc9,zd0,zd1,zd2,zd3,zd4,zd5,zd6,zd7,zd8,zd9,ze0,ze1,ze2,ze3,ze4,ze5,ze6,ze7,ze8,ze9,zf0,zf1,zf2,zf3,zf4,zf5,zf6,zf7,zf8,zf9,zg0,zg1,zg2,zg3,zg4,zg5,zg6,zg7,zg8,zg9,zh0,zh1,zh2,zh3,zh4,zh5,zh6,zh7,zh8,zh9,zi0,zi1,zi2,zi3,zi4,zi5,zi6,wSnil,zi7,zi8,zi9,zj0,zj1,zj2,zj3,zj4,zj5,zj6,zj7,zj8,AV.flatB,AV.flatBs,zj9,zk0,zk1,zk2,zk3,zk4,zk5,zk6,act,AV.cells,AV.mk,AV.asSl,AV.asInt,AV.vslOf,zk7,zk8,zk9,zl0,zl1,zl2,zl3,st0,env0,zl4,zl5,zl6,Nat.reduceAdd,Nat.reduceEqDiff,Nat.reduceLeDiff,↓reduceIte,AV.ofV,unV,← decide_not,zl7,zl8,zl9,zm0,zm1,zm2,zm3,zm4,zm5,zm6,zm7,zm8,zm9,zn0,zn1,zn2,zn3,zn4,zn5,zn6,zn7,reduceCtorEq,rowsOf,pureCells,AV.weak,AV.pureB,AV.pureBs,zn8,zn9,zo0,zo1,zo2,Nat.reduceBEq,zo3,zo4,zo5,zo6,zo7,zo8,zo9,zp0,zp1]
      rw [hgo]
      refine ends_ptr3 (d := 4) (q := 1) (off := 0) (by simp [upd, e4]) ⟨by simp [upd, g4], Nat.le_refl _, by simp [upd]⟩ (b := .agg [.imm (.slice none 0 0)]) (by simp [upd, AV.mk]) ?_
      exact nilC3_end
  · have w1 : ((i : Int) < (ps.length : Nat)) = False := eq_false (by omega)
    rw [List.drop_of_length_le (by omega), goS] at hgo
    refine AW_code ?_
    simp -implicitDefEqProofs only [l_patch_All_0,w1,zq3,e2,e4,e15,e16,e17,g2,g4,v2,v4,zq9,za0,za1,za2,za3,za4,eff,AV.ptrOf,AV.tokOf,za5,za6,AV.weaks,AV.weak1,za7,za8,za9,zb0,zb1,zb2,zb3,zb4,zb5,zb6,zb7,zb8,zb9,zc0,zc1,zc2,zc3,zc4,zc5,zc6,zc7,zc8,zc9,zd0,zd1,zd2,zd3,zd4,zd5,zd6,zd7,zd8,zd9,ze0,ze1,ze2,ze3,ze4,ze5,ze6,ze7,ze8,ze9,zf0,zf1,zf2,zf3,zf4,zf5,zf6,zf7,zf8,zf9,zg0,zg1,zg2,zg3,zg4,zg5,zg6,zg7,zg8,zg9,zh0,zh1,zh2,zh3,zh4,zh5,zh6,zh7,zh8,zh9,zi0,zi1,zi2,zi3,zi4,zi5,zi6,wSnil,zi7,zi8,zi9,zj0,zj1,zj2,zj3,zj4,zj5,zj6,zj7,zj8,AV.flatB,AV.flatBs,zj9,zk0,zk1,zk2,zk3,zk4,zk5,zk6,act,AV.cells,AV.mk,AV.asSl,AV.asInt,AV.vslOf,wIdx,zk7,zk8,zk9,zl0,zl1,zl2,zl3,st0,env0,zl4,zl5,zl6,Nat.reduceAdd,Nat.reduceEqDiff,Nat.reduceLeDiff,↓reduceIte,AV.ofV,unV,← decide_not,zl7,zl8,zl9,zm0,zm1,zm2,zm3,zm4,zm5,zm6,zm7,zm8,zm9,zn0,zn1,zn2,zn3,zn4,zn5,zn6,zn7,reduceCtorEq,rowsOf,pureCells,AV.weak,AV.pureB,AV.pureBs,zn8,zn9,zo0,zo1,zo2,Nat.reduceBEq,zo3,zo4,zo5,zo6,zo7,zo8,zo9,zp0,zp1]
    refine AW_gen [(2, .ptr 2 1 0), (4, .ptr 4 1 0)] [(2, 1), (4, 1)] [(2, [.sl 7 .ro (c.map Item.row)]), (4, [.imm (.slice none 0 0)])] ?_ ?_
    · simp -implicitDefEqProofs only [e2,e4,g2,g4,v2,v4,undefA,zb0,za9,zq2,zq3,zq4,zq5,zq6,Envs,Gens,Vars,za0,za1,za2,za3,za4,eff,AV.ptrOf,AV.tokOf,za5,za6,AV.weaks,AV.weak1,za7,za8,zb1,zb2,zb3,zb4,zb5,zb6,zb7,zb8,zb9,zc0,zc1,zc2,zc3,zc4,zc5,zc6,zc7,zc8,zc9,zd0,zd1,zd2,zd3,zd4,zd5,zd6,zd7,zd8,zd9,ze0,ze1,ze2,ze3,ze4,ze5,ze6,ze7,ze8,ze9,zf0,zf1,zf2,zf3,zf4,zf5,zf6,zf7,zf8,zf9,zg0,zg1,zg2,zg3,zg4,zg5,zg6,zg7,zg8,zg9,zh0,zh1,zh2,zh3,zh4,zh5,zh6,zh7,zh8,zh9,zi0,zi1,zi2,zi3,zi4,zi5,zi6,wSnil,zi7,zi8,zi9,zj0,zj1,zj2,zj3,zj4,zj5,zj6,zj7,zj8,AV.flatB,AV.flatBs,zj9,zk0,zk1,zk2,zk3,zk4,zk5,zk6,act,AV.cells,AV.mk,AV.asSl,AV.asInt,AV.vslOf,wIdx,zk7,zk8,zk9,zl0,zl1,zl2,zl3,st0,env0,zl4,zl5,zl6,Nat.reduceAdd,Nat.reduceEqDiff,Nat.reduceLeDiff,↓reduceIte,AV.ofV,unV,← decide_not,zl7,zl8,zl9,zm0,zm1,zm2,zm3,zm4,zm5,zm6,zm7,zm8,zm9,zn0,zn1,zn2,zn3,zn4,zn5,zn6,zn7,reduceCtorEq,rowsOf,pureCells,AV.weak,AV.pureB,AV.pureBs,zn8,zn9,zo0,zo1,zo2,Nat.reduceBEq,zo3,zo4,zo5,zo6,zo7,zo8,zo9,zp0,zp1]
    clear e2 e4 e15 e16 e17 g2 g4 v2 v4
    rintro e g v tg tp x' ⟨e2, e4, -⟩ ⟨g2, g4, -⟩ ⟨v2, v4, -⟩
    refine AW_seq ?_
    simp -implicitDefEqProofs only [e2,e4,g2,g4,v2,v4,za0,za1,za2,za3,za4,eff,AV.ptrOf,AV.tokOf,za5,za6,AV.weaks,AV.weak1,za7,za8,za9,zb0,zb1,zb2,zb3,zb4,zb5,zb6,zb7,zb8,zb9,zc0,zc1,zc2,zc3,zc4,zc5,zc6,zc7,zc8,zc9,zd0,zd1,zd2,zd3,zd4,zd5,zd6,zd7,zd8,zd9,ze0,ze1,ze2,ze3,ze4,ze5,ze6,ze7,ze8,ze9,zf0,zf1,zf2,zf3,zf4,zf5,zf6,zf7,zf8,zf9,zg0,zg1,zg2,zg3,zg4,zg5,zg6,zg7,zg8,zg9,zh0,zh1,zh2,zh3,zh4,zh5,zh6,zh7,zh8,zh9,zi0,zi1,zi2,zi3,zi4,zi5,zi6,wSnil,zi7,zi8,zi9,zj0,zj1,zj2,zj3,zj4,zj5,zj6,zj7,zj8,AV.flatB,AV.flatBs,zj9,zk0,zk1,zk2,zk3,zk4,zk5,zk6,act,AV.cells,AV.mk,AV.asSl,AV.asInt,AV.vslOf,wIdx,zk7,zk8,zk9,zl0,zl1,zl2,zl3,st0,env0,zl4,zl5,zl6,Nat.reduceAdd,Nat.reduceEqDiff,Nat.reduceLeDiff,↓reduceIte,AV.ofV,unV,← decide_not,zl7,zl8,zl9,zm0,zm1,zm2,zm3,zm4,zm5,zm6,zm7,zm8,zm9,zn0,zn1,zn2,zn3,zn4,zn5,zn6,zn7,reduceCtorEq,rowsOf,pureCells,AV.weak,AV.pureB,AV.pureBs,zn8,zn9,zo0,zo1,zo2,Nat.reduceBEq,zo3,zo4,zo5,zo6,zo7,zo8,zo9,zp0,zp1]
    refine wCall_pure (clone_con L c (by omega)) rfl rfl (AV.les2_refl _) ?_
    simp -implicitDefEqProofs only [e2,e4,g2,g4,v2,v4,PatchS.row,Item.row,fills,splice,zq7,zq8,zb0,za9,za0,za1,za2,za3,za4,eff,AV.ptrOf,AV.tokOf,za5,za6,AV.weaks,AV.weak1,za7,za8,zb1,zb2,zb3,zb4,zb5,zb6,zb7,zb8,zb9,zc0,zc1,zc2,zc3,zc4,zc5,zc6,zc7,zc8,zc9,zd0,zd1,zd2,zd3,zd4,zd5,zd6,zd7,zd8,zd9,ze0,ze1,ze2,ze3,ze4,ze5,ze6,ze7,ze8,ze9,zf0,zf1,zf2,zf3,zf4,zf5,zf6,zf7,zf8,zf9,zg0,zg1,zg2,zg3,zg4,zg5,zg6,zg7,zg8,zg9,zh0,zh1,zh2,zh3,zh4,zh5,zh6,zh7,zh8,zh9,zi0,zi1,zi2,zi3,zi4,zi5,zi6,wSnil,zi7,zi8,zi9,zj0,zj1,zj2,zj3,zj4,zj5,zj6,zj7,zj8,AV.flatB,AV.flatBs,zj9,zk0,zk1,zk2,zk3,zk4,zk5,zk6,act,AV.cells,AV.mk,AV.asSl,AV.asInt,AV.vslOf,wIdx,zk7,zk8,zk9,zl0,zl1,zl2,zl3,st0,env0,zl4,zl5,zl6,Nat.reduceAdd,Nat.reduceEqDiff,Nat.reduceLeDiff,↓reduceIte,AV.ofV,unV,← decide_not,zl7,zl8,zl9,zm0,zm1,zm2,zm3,zm4,zm5,zm6,zm7,zm8,zm9,zn0,zn1,zn2,zn3,zn4,zn5,zn6,zn7,reduceCtorEq,rowsOf,pureCells,AV.weak,AV.pureB,AV.pureBs,zn8,zn9,zo0,zo1,zo2,Nat.reduceBEq,zo3,zo4,zo5,zo6,zo7,zo8,zo9,zp0,zp1]
    refine AW_code ?_
    simp -implicitDefEqProofs only [c_patch_All,za0,za1,za2,za3,za4,eff,AV.ptrOf,AV.tokOf,za5,za6,AV.weaks,AV.weak1,za7,za8,za9,zb0,zb1,zb2,zb3,zb4,zb5,zb6,zb7,zb8,zb9,zc0,zc1,zc2,zc3,zc4,zc5,zc6,zc7,zc8,zc9,zd0,zd1,zd2,zd3,zd4,zd5,zd6,zd7,zd8,zd9,ze0,ze1,ze2,ze3,ze4,ze5,ze6,ze7,ze8,ze9,zf0,zf1,zf2,zf3,zf4,zf5,zf6,zf7,zf8,zf9,zg0,zg1,zg2,zg3,zg4,zg5,zg6,zg7,zg8,zg9,zh0,zh1,zh2,zh3,zh4,zh5,zh6,zh7,zh8,zh9,zi0,zi1,zi2,zi3,zi4,zi5,zi6,wSnil,zi7,zi8,zi9,zj0,zj1,zj2,zj3,zj4,zj5,zj6,zj7,zj8,AV.flatB,AV.flatBs,zj9,zk0,zk1,zk2,zk3,zk4,zk5,zk6,act,AV.cells,AV.mk,AV.asSl,AV.asInt,AV.vslOf,wIdx,zk7,zk8,zk9,zl0,zl1,zl2,zl3,st0,env0,zl4,zl5,zl6,Nat.reduceAdd,Nat.reduceEqDiff,Nat.reduceLeDiff,↓reduceIte,AV.ofV,unV,← decide_not,zl7,zl8,zl9,zm0,zm1,zm2,zm3,zm4,zm5,zm6,zm7,zm8,zm9,zn0,zn1,zn2,zn3,zn4,zn5,zn6,zn7,reduceCtorEq,rowsOf,pureCells,AV.weak,AV.pureB,AV.pureBs,zn8,zn9,zo0,zo1,zo2,Nat.reduceBEq,zo3,zo4,zo5,zo6,zo7,zo8,zo9,zp0,zp1]
    rw [hgo]
    refine ends_ptr3 (d := 4) (q := 1) (off := 0) (by simp [upd, e4]) ⟨by simp [upd, g4], Nat.le_refl _, by simp [upd]⟩ (b := .agg [.sl 7 .ro (c.map Item.row)]) (by simp [upd, AV.mk]) ?_
    exact endR_pure (σ := Unit) (st := _) (a := resW (c, -1, 0)) rfl rfl
end Go.Av
