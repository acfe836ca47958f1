/- OWN TEXT: see NOTES.md. -/
import Derived.Test.YtmeppjgkmbdmfaaA5
import Derived.SizedLaws
import Derived.Deep.Slices
import Derived.Test.YtmeppjgkmbdmfaaRows
import Derived.WalkKit
import Derived.ProofKit
import Derived.OpenShut
import Derived.ShutString
import Derived.ChangeOld
import Derived.Below
import Derived.HandedShaped
import Derived.Shelf.LaysM
import Derived.Shelf.GgClosureLib.Lays
import Derived.Test.YtmeppjgkmbdmfaaChecked
import Derived.KernelRfl
set_option linter.all false
namespace Go.Av
theorem goS_fit : ∀ (ps : List PatchS) (i : Nat) (l : List Item), Fit l → (∀ p ∈ ps, p.id.size ≤ 1048576) → Fit (goS i l ps).1 ∧ (goS i l ps).1.length ≤ l.length + ps.length
  | [], i, l, hf, hp => ⟨hf, Nat.le_add_right _ _⟩
  | p :: ps, i, l, hf, hp => by
    rw [goS]
    split
    · rename_i h0
      obtain ⟨f1, f2⟩ := fit_apply hf (hp p (.head _)) h0
      obtain ⟨g1, g2⟩ := goS_fit ps (i + 1) (applyL l p) f2 fun q hq => hp q (.tail _ hq)
      exact ⟨g1, by simp only [zn3]; omega⟩
    · exact ⟨fun x hx => (by cases hx), Nat.zero_le _⟩
theorem goS_ok : ∀ (ps : List PatchS) (i j : Nat) (l : List Item), (goS i l ps).2.2 = 0 → (goS i l ps).2.1 = -1 ∧ goS j l ps = goS i l ps ∧ (ValidC l → ValidC (goS i l ps).1)
  | [], i, j, l, h => ⟨rfl, rfl, fun h => h⟩
  | p :: ps, i, j, l, h => by
    rw [goS] at h ⊢
    rw [goS]
    by_cases h0 : applyE l p = 0
    · rw [if_pos h0] at h ⊢
      rw [if_pos h0]
      obtain ⟨a, b, c⟩ := goS_ok ps (i + 1) (j + 1) (applyL l p) h
      exact ⟨a, b, fun _ => c (apply_valid h0).1⟩
    · rw [if_neg h0] at h
      exact absurd h h0
theorem goS_app : ∀ (ps qs : List PatchS) (i : Nat) (l : List Item), (goS i l ps).2.2 = 0 → goS i l (ps ++ qs) = goS (i + ps.length) (goS i l ps).1 qs
  | [], qs, i, l, h => rfl
  | p :: ps, qs, i, l, h => by
    rw [goS] at h ⊢
    rw [List.cons_append, goS]
    by_cases h0 : applyE l p = 0
    · rw [if_pos h0] at h ⊢
      rw [if_pos h0, goS_app ps qs (i + 1) _ h]
      congr 1
      simp only [zn3]
      omega
    · rw [if_neg h0] at h
      exact absurd h h0
theorem goS_app0 : ∀ (ps qs : List PatchS) (i : Nat) (l : List Item), (goS i l ps).2.2 ≠ 0 → goS i l (ps ++ qs) = goS i l ps
  | [], qs, i, l, h => absurd rfl h
  | p :: ps, qs, i, l, h => by
    rw [goS] at h ⊢
    rw [List.cons_append, goS]
    by_cases h0 : applyE l p = 0
    · rw [if_pos h0] at h ⊢
      rw [if_pos h0, goS_app0 ps qs (i + 1) _ h]
    · rw [if_neg h0, if_neg h0]
theorem goS_bad : ∀ (ps : List PatchS) (i : Nat) (l : List Item), (goS i l ps).2.2 ≠ 0 → ∃ (n : Nat) (p : PatchS), ps[n]? = some p ∧ (goS i l ps).1 = [] ∧ (goS i l ps).2.1 = (i + n : Nat) ∧ (goS i l (ps.take n)).2.2 = 0 ∧ applyE (goS i l (ps.take n)).1 p = (goS i l ps).2.2 ∧ goS i l (ps.take (n + 1)) = goS i l ps
  | [], i, l, h => absurd rfl h
  | p :: ps, i, l, h => by
    rw [goS] at h
    by_cases h0 : applyE l p = 0
    · rw [if_pos h0] at h
      obtain ⟨n, q, h1, h2, h3, h4, h5, h6⟩ := goS_bad ps (i + 1) (applyL l p) h
      have e : goS i l (p :: ps) = goS (i + 1) (applyL l p) ps := by rw [goS, if_pos h0]
      have e' : ∀ k, goS i l ((p :: ps).take (k + 1)) = goS (i + 1) (applyL l p) (ps.take k) := fun k => by rw [List.take_succ_cons, goS, if_pos h0]
      refine ⟨n + 1, q, by simpa using h1, by rw [e]; exact h2, by rw [e, h3]; congr 1; omega, by rw [e']; exact h4, by rw [e', e]; exact h5, by rw [e', e]; exact h6⟩
    · refine ⟨0, p, rfl, ?_, ?_, rfl, ?_, ?_⟩
      · rw [goS, if_neg h0]
      · rw [goS, if_neg h0]; rfl
      · rw [goS, if_neg h0]; rfl
      · rw [List.take_succ_cons, List.take_zero, goS, if_neg h0, goS, if_neg h0]
/-- What PatchLists asks. -/
theorem all_bad {l : List Item} {ps : List PatchS} (h : (allS l ps).2.2 ≠ 0) : (¬ ValidC l ∧ allS l ps = ([], -1, 1)) ∨ ∃ (n : Nat) (p : PatchS) (m : List Item) (e : Int), ps[n]? = some p ∧ e ≠ 0 ∧ allS l ps = ([], (n : Int), e) ∧ allS l (ps.take n) = (m, -1, 0) ∧ applyE m p = e ∧ allS l (ps.take (n + 1)) = ([], (n : Int), e) := by
  by_cases hv : ValidC l
  · right
    have e0 : ∀ qs, allS l qs = goS 0 l qs := fun qs => if_pos hv
    rw [e0] at h
    obtain ⟨n, p, h1, h2, h3, h4, h5, h6⟩ := goS_bad ps 0 l h
    have hr : goS 0 l ps = ([], ((n : Nat) : Int), (goS 0 l ps).2.2) := by
      rw [show goS 0 l ps = ((goS 0 l ps).1, (goS 0 l ps).2.1, (goS 0 l ps).2.2) from rfl, h2, h3, Nat.zero_add]
    refine ⟨n, p, (goS 0 l (ps.take n)).1, (goS 0 l ps).2.2, h1, h, by rw [e0]; exact hr, ?_, h5, by rw [e0, h6]; exact hr⟩
    rw [e0]
    have := (goS_ok _ 0 0 _ h4).1
    rw [show goS 0 l (ps.take n) = ((goS 0 l (ps.take n)).1, (goS 0 l (ps.take n)).2.1, (goS 0 l (ps.take n)).2.2) from rfl, this, h4]
  · exact .inl ⟨hv, if_neg hv⟩
theorem all_ok {l : List Item} {ps : List PatchS} (h : (allS l ps).2.2 = 0) (n : Nat) : ∃ d m, allS l ps = (d, -1, 0) ∧ allS l (ps.take n) = (m, -1, 0) ∧ allS m (ps.drop n) = (d, -1, 0) := by
  have hv : ValidC l := by
    by_cases hv : ValidC l
    · exact hv
    · rw [allS, if_neg hv] at h
      exact absurd h (by decide)
  have e0 : ∀ qs, allS l qs = goS 0 l qs := fun qs => if_pos hv
  rw [e0] at h
  have hs : ps = ps.take n ++ ps.drop n := (List.take_append_drop n ps).symm
  have ht : (goS 0 l (ps.take n)).2.2 = 0 := by
    by_cases hb : (goS 0 l (ps.take n)).2.2 = 0
    · exact hb
    · have := goS_app0 (ps.take n) (ps.drop n) 0 l hb
      rw [← hs] at this
      rw [this] at h
      exact h
  have happ := goS_app (ps.take n) (ps.drop n) 0 l ht
  rw [← hs] at happ
  obtain ⟨a1, -, a3⟩ := goS_ok _ 0 0 _ ht
  obtain ⟨b1, -, -⟩ := goS_ok _ 0 0 _ h
  have hm := a3 hv
  generalize hmm : goS 0 l (ps.take n) = r at *
  obtain ⟨m, x, y⟩ := r
  simp only at ht a1 hm happ
  subst ht a1
  rw [happ] at h
  obtain ⟨c1, c2, -⟩ := goS_ok _ _ 0 _ h
  refine ⟨(goS 0 l ps).1, m, ?_, ?_, ?_⟩
  · rw [e0, show goS 0 l ps = ((goS 0 l ps).1, (goS 0 l ps).2.1, (goS 0 l ps).2.2) from rfl, b1, happ, h]
  · rw [e0, hmm]
  · rw [allS, if_pos hm, c2, ← happ, show goS 0 l ps = ((goS 0 l ps).1, (goS 0 l ps).2.1, (goS 0 l ps).2.2) from rfl, b1, happ, h]
end Go.Av

namespace Go.Av
variable {P : Program} {T : List Nat} {σ : Type}
theorem light_fits {l : List Item} {ps : List PatchS} (hL : LightP l ps) : l.length ≤ 30 ∧ ps.length ≤ 12 ∧ Fit l ∧ (∀ p ∈ ps, FitP p ∧ p.id.size ≤ 1048576) := by
  obtain ⟨h1, h2, h3, h4⟩ := hL
  refine ⟨h3, h4, fun x hx => ?_, fun p hp => ?_⟩
  · have := (h1 x hx).1
    unfold LightA at this
    omega
  · obtain ⟨f1, f2, f3⟩ := h2 p hp
    unfold Few1 at f1
    unfold Few2 at f2
    unfold Few3 at f3
    exact ⟨⟨by omega, by omega, by omega⟩, by omega⟩
theorem allS_fit {l m : List Item} {ps : List PatchS} {x y : Int} (hf : Fit l) (hp : ∀ p ∈ ps, p.id.size ≤ 1048576) (h : allS l ps = (m, x, y)) : Fit m ∧ m.length ≤ l.length + ps.length := by
  unfold allS at h
  split at h
  · obtain ⟨a, b⟩ := goS_fit ps 0 l hf hp
    rw [h] at a b
    exact ⟨a, b⟩
  · injection h with h _
    subst h
    exact ⟨fun x hx => (by cases hx), Nat.zero_le _⟩
theorem law35_con (L : Lay P T) (V : StrLib P T) (W : Ovl7 P T) (W2 : Clr7 P T) (l : List Item) (ps : List PatchS) (a : Int) (ha : 0 ≤ a ∧ a < 256) (hl : l.length ≤ 140737488355328) (hps : ps.length ≤ 140737488355328) (hb : ∀ x ∈ l, BigI x) (hq : ∀ p ∈ ps, BigP p) : Con P T 35 [.agg [.sl 7 .ro (l.map Item.row)], .sl 15 .ro (ps.map PatchS.row), .imm (.int .u8 a)] (.imm (.bool true)) := by
  refine Con_ofA nul L.t_pandectlaw19_PatchLists [] [] (by exact Nat.le_of_ble_eq_true rfl) ?_
  change AW _ b_pandectlaw19_PatchLists _ _ _ _
  refine AW_seq ?_
  simp -implicitDefEqProofs only [PatchS.row,Item.row,fills,splice,zq7,zq8,zb0,za9,za0,za1,za2,za3,za4,eff,AV.ptrOf,AV.tokOf,za5,za6,AV.weaks,AV.weak1,za7,za8,zb1,zb2,zb3,zb4,zb5,zb6,zb7,zb8,zb9,zc0,zc1,zc2,zc3,zc4,zc5,zc6,zc7,zc8,zc9,zd0,zd1,zd2,zd3,zd4,zd5,zd6,zd7,zd8,zd9,ze0,ze1,ze2,ze3,ze4,ze5,ze6,ze7,ze8,ze9,zf0,zf1,zf2,zf3,zf4,zf5,zf6,zf7,zf8,zf9,zg0,zg1,zg2,zg3,zg4,zg5,zg6,zg7,zg8,zg9,zh0,zh1,zh2,zh3,zh4,zh5,zh6,zh7,zh8,zh9,zi0,zi1,zi2,zi3,zi4,zi5,zi6,wSnil,zi7,zi8,zi9,zj0,zj1,zj2,zj3,zj4,zj5,zj6,zj7,zj8,AV.flatB,AV.flatBs,zj9,zk0,zk1,zk2,zk3,zk4,zk5,zk6,act,AV.cells,AV.mk,AV.asSl,AV.asInt,AV.vslOf,wIdx,zk7,zk8,zk9,zl0,zl1,zl2,zl3,st0,env0,zl4,zl5,zl6,Nat.reduceAdd,Nat.reduceEqDiff,Nat.reduceLeDiff,↓reduceIte,AV.ofV,unV,← decide_not,zl7,zl8,zl9,zm0,zm1,zm2,zm3,zm4,zm5,zm6,zm7,zm8,zm9,zn0,zn1,zn2,zn3,zn4,zn5,zn6,zn7,reduceCtorEq,rowsOf,pureCells,AV.weak,AV.pureB,AV.pureBs,zn8,zn9,zo0,zo1,zo2,Nat.reduceBEq,zo3,zo4,zo5,zo6,zo7,zo8,zo9,zp0,zp1]
  refine AW_gen [(1, .sl 15 .ro (ps.map PatchS.row)), (2, .imm (.int .u8 a)), (3, .ptr 3 1 0)] [(3, 1)] [(3, [.sl 7 .ro (l.map Item.row)])] ?_ ?_
  · simp -implicitDefEqProofs only [PatchS.row,Item.row,fills,splice,zq7,zq8,zb0,za9,zq9,undefA,zq2,zq3,zq4,zq5,zq6,Envs,Gens,Vars,za0,za1,za2,za3,za4,eff,AV.ptrOf,AV.tokOf,za5,za6,AV.weaks,AV.weak1,za7,za8,zb1,zb2,zb3,zb4,zb5,zb6,zb7,zb8,zb9,zc0,zc1,zc2,zc3,zc4,zc5,zc6,zc7,zc8,zc9,zd0,zd1,zd2,zd3,zd4,zd5,zd6,zd7,zd8,zd9,ze0,ze1,ze2,ze3,ze4,ze5,ze6,ze7,ze8,ze9,zf0,zf1,zf2,zf3,zf4,zf5,zf6,zf7,zf8,zf9,zg0,zg1,zg2,zg3,zg4,zg5,zg6,zg7,zg8,zg9,zh0,zh1,zh2,zh3,zh4,zh5,zh6,zh7,zh8,zh9,zi0,zi1,zi2,zi3,zi4,zi5,zi6,wSnil,zi7,zi8,zi9,zj0,zj1,zj2,zj3,zj4,zj5,zj6,zj7,zj8,AV.flatB,AV.flatBs,zj9,zk0,zk1,zk2,zk3,zk4,zk5,zk6,act,AV.cells,AV.mk,AV.asSl,AV.asInt,AV.vslOf,wIdx,zk7,zk8,zk9,zl0,zl1,zl2,zl3,st0,env0,zl4,zl5,zl6,Nat.reduceAdd,Nat.reduceEqDiff,Nat.reduceLeDiff,↓reduceIte,AV.ofV,unV,← decide_not,zl7,zl8,zl9,zm0,zm1,zm2,zm3,zm4,zm5,zm6,zm7,zm8,zm9,zn0,zn1,zn2,zn3,zn4,zn5,zn6,zn7,reduceCtorEq,rowsOf,pureCells,AV.weak,AV.pureB,AV.pureBs,zn8,zn9,zo0,zo1,zo2,Nat.reduceBEq,zo3,zo4,zo5,zo6,zo7,zo8,zo9,zp0,zp1]
  rintro e g v tg tp x' ⟨e1, e2, e3, -⟩ ⟨g3, -⟩ ⟨v3, -⟩
  refine AW_seq ?_
  simp -implicitDefEqProofs only [e1,e2,e3,g3,v3,PatchS.row,Item.row,fills,splice,zq7,zq8,zb0,za9,za0,za1,za2,za3,za4,eff,AV.ptrOf,AV.tokOf,za5,za6,AV.weaks,AV.weak1,za7,za8,zb1,zb2,zb3,zb4,zb5,zb6,zb7,zb8,zb9,zc0,zc1,zc2,zc3,zc4,zc5,zc6,zc7,zc8,zc9,zd0,zd1,zd2,zd3,zd4,zd5,zd6,zd7,zd8,zd9,ze0,ze1,ze2,ze3,ze4,ze5,ze6,ze7,ze8,ze9,zf0,zf1,zf2,zf3,zf4,zf5,zf6,zf7,zf8,zf9,zg0,zg1,zg2,zg3,zg4,zg5,zg6,zg7,zg8,zg9,zh0,zh1,zh2,zh3,zh4,zh5,zh6,zh7,zh8,zh9,zi0,zi1,zi2,zi3,zi4,zi5,zi6,wSnil,zi7,zi8,zi9,zj0,zj1,zj2,zj3,zj4,zj5,zj6,zj7,zj8,AV.flatB,AV.flatBs,zj9,zk0,zk1,zk2,zk3,zk4,zk5,zk6,act,AV.cells,AV.mk,AV.asSl,AV.asInt,AV.vslOf,wIdx,zk7,zk8,zk9,zl0,zl1,zl2,zl3,st0,env0,zl4,zl5,zl6,Nat.reduceAdd,Nat.reduceEqDiff,Nat.reduceLeDiff,↓reduceIte,AV.ofV,unV,← decide_not,zl7,zl8,zl9,zm0,zm1,zm2,zm3,zm4,zm5,zm6,zm7,zm8,zm9,zn0,zn1,zn2,zn3,zn4,zn5,zn6,zn7,reduceCtorEq,rowsOf,pureCells,AV.weak,AV.pureB,AV.pureBs,zn8,zn9,zo0,zo1,zo2,Nat.reduceBEq,zo3,zo4,zo5,zo6,zo7,zo8,zo9,zp0,zp1]
  refine wCall_imm (head_con L V W W2) rfl (AV.les2_refl _) ?_
  simp -implicitDefEqProofs only [e1,e2,e3,g3,v3,PatchS.row,Item.row,fills,splice,zq7,zq8,zb0,za9,za0,za1,za2,za3,za4,eff,AV.ptrOf,AV.tokOf,za5,za6,AV.weaks,AV.weak1,za7,za8,zb1,zb2,zb3,zb4,zb5,zb6,zb7,zb8,zb9,zc0,zc1,zc2,zc3,zc4,zc5,zc6,zc7,zc8,zc9,zd0,zd1,zd2,zd3,zd4,zd5,zd6,zd7,zd8,zd9,ze0,ze1,ze2,ze3,ze4,ze5,ze6,ze7,ze8,ze9,zf0,zf1,zf2,zf3,zf4,zf5,zf6,zf7,zf8,zf9,zg0,zg1,zg2,zg3,zg4,zg5,zg6,zg7,zg8,zg9,zh0,zh1,zh2,zh3,zh4,zh5,zh6,zh7,zh8,zh9,zi0,zi1,zi2,zi3,zi4,zi5,zi6,wSnil,zi7,zi8,zi9,zj0,zj1,zj2,zj3,zj4,zj5,zj6,zj7,zj8,AV.flatB,AV.flatBs,zj9,zk0,zk1,zk2,zk3,zk4,zk5,zk6,act,AV.cells,AV.mk,AV.asSl,AV.asInt,AV.vslOf,wIdx,zk7,zk8,zk9,zl0,zl1,zl2,zl3,st0,env0,zl4,zl5,zl6,Nat.reduceAdd,Nat.reduceEqDiff,Nat.reduceLeDiff,↓reduceIte,AV.ofV,unV,← decide_not,zl7,zl8,zl9,zm0,zm1,zm2,zm3,zm4,zm5,zm6,zm7,zm8,zm9,zn0,zn1,zn2,zn3,zn4,zn5,zn6,zn7,reduceCtorEq,rowsOf,pureCells,AV.weak,AV.pureB,AV.pureBs,zn8,zn9,zo0,zo1,zo2,Nat.reduceBEq,zo3,zo4,zo5,zo6,zo7,zo8,zo9,zp0,zp1]
  refine AW_gen [(1, .sl 15 .ro (ps.map PatchS.row)), (2, .imm (.int .u8 a)), (3, .ptr 3 1 0), (7, .imm (.bool true))] [(3, 1)] [(3, [.sl 7 .ro (l.map Item.row)])] ?_ ?_
  · simp -implicitDefEqProofs only [e1,e2,e3,g3,v3,PatchS.row,Item.row,fills,splice,zq7,zq8,zb0,za9,zq9,undefA,zq2,zq3,zq4,zq5,zq6,Envs,Gens,Vars,za0,za1,za2,za3,za4,eff,AV.ptrOf,AV.tokOf,za5,za6,AV.weaks,AV.weak1,za7,za8,zb1,zb2,zb3,zb4,zb5,zb6,zb7,zb8,zb9,zc0,zc1,zc2,zc3,zc4,zc5,zc6,zc7,zc8,zc9,zd0,zd1,zd2,zd3,zd4,zd5,zd6,zd7,zd8,zd9,ze0,ze1,ze2,ze3,ze4,ze5,ze6,ze7,ze8,ze9,zf0,zf1,zf2,zf3,zf4,zf5,zf6,zf7,zf8,zf9,zg0,zg1,zg2,zg3,zg4,zg5,zg6,zg7,zg8,zg9,zh0,zh1,zh2,zh3,zh4,zh5,zh6,zh7,zh8,zh9,zi0,zi1,zi2,zi3,zi4,zi5,zi6,wSnil,zi7,zi8,zi9,zj0,zj1,zj2,zj3,zj4,zj5,zj6,zj7,zj8,AV.flatB,AV.flatBs,zj9,zk0,zk1,zk2,zk3,zk4,zk5,zk6,act,AV.cells,AV.mk,AV.asSl,AV.asInt,AV.vslOf,wIdx,zk7,zk8,zk9,zl0,zl1,zl2,zl3,st0,env0,zl4,zl5,zl6,Nat.reduceAdd,Nat.reduceEqDiff,Nat.reduceLeDiff,↓reduceIte,AV.ofV,unV,← decide_not,zl7,zl8,zl9,zm0,zm1,zm2,zm3,zm4,zm5,zm6,zm7,zm8,zm9,zn0,zn1,zn2,zn3,zn4,zn5,zn6,zn7,reduceCtorEq,rowsOf,pureCells,AV.weak,AV.pureB,AV.pureBs,zn8,zn9,zo0,zo1,zo2,Nat.reduceBEq,zo3,zo4,zo5,zo6,zo7,zo8,zo9,zp0,zp1]
  clear e1 e2 e3 g3 v3
  rintro e g v tg tp x' ⟨e1, e2, e3, e7, -⟩ ⟨g3, -⟩ ⟨v3, -⟩
  refine AW_seq ?_
  simp -implicitDefEqProofs only [e1,e2,e3,e7,g3,v3,PatchS.row,Item.row,fills,splice,zq7,zq8,zb0,za9,za0,za1,za2,za3,za4,eff,AV.ptrOf,AV.tokOf,za5,za6,AV.weaks,AV.weak1,za7,za8,zb1,zb2,zb3,zb4,zb5,zb6,zb7,zb8,zb9,zc0,zc1,zc2,zc3,zc4,zc5,zc6,zc7,zc8,zc9,zd0,zd1,zd2,zd3,zd4,zd5,zd6,zd7,zd8,zd9,ze0,ze1,ze2,ze3,ze4,ze5,ze6,ze7,ze8,ze9,zf0,zf1,zf2,zf3,zf4,zf5,zf6,zf7,zf8,zf9,zg0,zg1,zg2,zg3,zg4,zg5,zg6,zg7,zg8,zg9,zh0,zh1,zh2,zh3,zh4,zh5,zh6,zh7,zh8,zh9,zi0,zi1,zi2,zi3,zi4,zi5,zi6,wSnil,zi7,zi8,zi9,zj0,zj1,zj2,zj3,zj4,zj5,zj6,zj7,zj8,AV.flatB,AV.flatBs,zj9,zk0,zk1,zk2,zk3,zk4,zk5,zk6,act,AV.cells,AV.mk,AV.asSl,AV.asInt,AV.vslOf,wIdx,zk7,zk8,zk9,zl0,zl1,zl2,zl3,st0,env0,zl4,zl5,zl6,Nat.reduceAdd,Nat.reduceEqDiff,Nat.reduceLeDiff,↓reduceIte,AV.ofV,unV,← decide_not,zl7,zl8,zl9,zm0,zm1,zm2,zm3,zm4,zm5,zm6,zm7,zm8,zm9,zn0,zn1,zn2,zn3,zn4,zn5,zn6,zn7,reduceCtorEq,rowsOf,pureCells,AV.weak,AV.pureB,AV.pureBs,zn8,zn9,zo0,zo1,zo2,Nat.reduceBEq,zo3,zo4,zo5,zo6,zo7,zo8,zo9,zp0,zp1]
  refine wCall_imm (light_con L l ps hl hps hb hq) rfl (AV.les2_refl _) ?_
  by_cases hL : LightP l ps
  case neg =>
    have t1 := eq_false hL
    simp -implicitDefEqProofs only [t1,zq3,zq2,c_pandectlaw19_PatchLists,e1,e2,e3,e7,g3,v3,PatchS.row,Item.row,fills,splice,zq7,zq8,zb0,za9,za0,za1,za2,za3,za4,eff,AV.ptrOf,AV.tokOf,za5,za6,AV.weaks,AV.weak1,za7,za8,zb1,zb2,zb3,zb4,zb5,zb6,zb7,zb8,zb9,zc0,zc1,zc2,zc3,zc4,zc5,zc6,zc7,zc8,zc9,zd0,zd1,zd2,zd3,zd4,zd5,zd6,zd7,zd8,zd9,ze0,ze1,ze2,ze3,ze4,ze5,ze6,ze7,ze8,ze9,zf0,zf1,zf2,zf3,zf4,zf5,zf6,zf7,zf8,zf9,zg0,zg1,zg2,zg3,zg4,zg5,zg6,zg7,zg8,zg9,zh0,zh1,zh2,zh3,zh4,zh5,zh6,zh7,zh8,zh9,zi0,zi1,zi2,zi3,zi4,zi5,zi6,wSnil,zi7,zi8,zi9,zj0,zj1,zj2,zj3,zj4,zj5,zj6,zj7,zj8,AV.flatB,AV.flatBs,zj9,zk0,zk1,zk2,zk3,zk4,zk5,zk6,act,AV.cells,AV.mk,AV.asSl,AV.asInt,AV.vslOf,wIdx,zk7,zk8,zk9,zl0,zl1,zl2,zl3,st0,env0,zl4,zl5,zl6,Nat.reduceAdd,Nat.reduceEqDiff,Nat.reduceLeDiff,↓reduceIte,AV.ofV,unV,← decide_not,zl7,zl8,zl9,zm0,zm1,zm2,zm3,zm4,zm5,zm6,zm7,zm8,zm9,zn0,zn1,zn2,zn3,zn4,zn5,zn6,zn7,reduceCtorEq,rowsOf,pureCells,AV.weak,AV.pureB,AV.pureBs,zn8,zn9,zo0,zo1,zo2,Nat.reduceBEq,zo3,zo4,zo5,zo6,zo7,zo8,zo9,zp0,zp1,zp2,zp3,zp4,zp5,zp6,zp7,zp8,zp9,zq0,zq1]
  have t1 := eq_true hL
  obtain ⟨fl, fq, fi, fp⟩ := light_fits hL
  have fid : ∀ p ∈ ps, p.id.size ≤ 1048576 := fun p hp => (fp p hp).2
  simp -implicitDefEqProofs only [t1,zq2,e1,e2,e3,e7,g3,v3,PatchS.row,Item.row,fills,splice,zq7,zq8,zb0,za9,za0,za1,za2,za3,za4,eff,AV.ptrOf,AV.tokOf,za5,za6,AV.weaks,AV.weak1,za7,za8,zb1,zb2,zb3,zb4,zb5,zb6,zb7,zb8,zb9,zc0,zc1,zc2,zc3,zc4,zc5,zc6,zc7,zc8,zc9,zd0,zd1,zd2,zd3,zd4,zd5,zd6,zd7,zd8,zd9,ze0,ze1,ze2,ze3,ze4,ze5,ze6,ze7,ze8,ze9,zf0,zf1,zf2,zf3,zf4,zf5,zf6,zf7,zf8,zf9,zg0,zg1,zg2,zg3,zg4,zg5,zg6,zg7,zg8,zg9,zh0,zh1,zh2,zh3,zh4,zh5,zh6,zh7,zh8,zh9,zi0,zi1,zi2,zi3,zi4,zi5,zi6,wSnil,zi7,zi8,zi9,zj0,zj1,zj2,zj3,zj4,zj5,zj6,zj7,zj8,AV.flatB,AV.flatBs,zj9,zk0,zk1,zk2,zk3,zk4,zk5,zk6,act,AV.cells,AV.mk,AV.asSl,AV.asInt,AV.vslOf,wIdx,zk7,zk8,zk9,zl0,zl1,zl2,zl3,st0,env0,zl4,zl5,zl6,Nat.reduceAdd,Nat.reduceEqDiff,Nat.reduceLeDiff,↓reduceIte,AV.ofV,unV,← decide_not,zl7,zl8,zl9,zm0,zm1,zm2,zm3,zm4,zm5,zm6,zm7,zm8,zm9,zn0,zn1,zn2,zn3,zn4,zn5,zn6,zn7,reduceCtorEq,rowsOf,pureCells,AV.weak,AV.pureB,AV.pureBs,zn8,zn9,zo0,zo1,zo2,Nat.reduceBEq,zo3,zo4,zo5,zo6,zo7,zo8,zo9,zp0,zp1]
  refine AW_seq ?_
  simp -implicitDefEqProofs only [e1,e2,e3,e7,g3,v3,PatchS.row,Item.row,fills,splice,zq7,zq8,zb0,za9,za0,za1,za2,za3,za4,eff,AV.ptrOf,AV.tokOf,za5,za6,AV.weaks,AV.weak1,za7,za8,zb1,zb2,zb3,zb4,zb5,zb6,zb7,zb8,zb9,zc0,zc1,zc2,zc3,zc4,zc5,zc6,zc7,zc8,zc9,zd0,zd1,zd2,zd3,zd4,zd5,zd6,zd7,zd8,zd9,ze0,ze1,ze2,ze3,ze4,ze5,ze6,ze7,ze8,ze9,zf0,zf1,zf2,zf3,zf4,zf5,zf6,zf7,zf8,zf9,zg0,zg1,zg2,zg3,zg4,zg5,zg6,zg7,zg8,zg9,zh0,zh1,zh2,zh3,zh4,zh5,zh6,zh7,zh8,zh9,zi0,zi1,zi2,zi3,zi4,zi5,zi6,wSnil,zi7,zi8,zi9,zj0,zj1,zj2,zj3,zj4,zj5,zj6,zj7,zj8,AV.flatB,AV.flatBs,zj9,zk0,zk1,zk2,zk3,zk4,zk5,zk6,act,AV.cells,AV.mk,AV.asSl,AV.asInt,AV.vslOf,wIdx,zk7,zk8,zk9,zl0,zl1,zl2,zl3,st0,env0,zl4,zl5,zl6,Nat.reduceAdd,Nat.reduceEqDiff,Nat.reduceLeDiff,↓reduceIte,AV.ofV,unV,← decide_not,zl7,zl8,zl9,zm0,zm1,zm2,zm3,zm4,zm5,zm6,zm7,zm8,zm9,zn0,zn1,zn2,zn3,zn4,zn5,zn6,zn7,reduceCtorEq,rowsOf,pureCells,AV.weak,AV.pureB,AV.pureBs,zn8,zn9,zo0,zo1,zo2,Nat.reduceBEq,zo3,zo4,zo5,zo6,zo7,zo8,zo9,zp0,zp1]
  refine wCall_pure (all_con L V W W2 l ps (by omega) (by omega) fi fp) rfl rfl (AV.les2_refl _) ?_
  simp -implicitDefEqProofs only [resW,e1,e2,e3,e7,g3,v3,PatchS.row,Item.row,fills,splice,zq7,zq8,zb0,za9,za0,za1,za2,za3,za4,eff,AV.ptrOf,AV.tokOf,za5,za6,AV.weaks,AV.weak1,za7,za8,zb1,zb2,zb3,zb4,zb5,zb6,zb7,zb8,zb9,zc0,zc1,zc2,zc3,zc4,zc5,zc6,zc7,zc8,zc9,zd0,zd1,zd2,zd3,zd4,zd5,zd6,zd7,zd8,zd9,ze0,ze1,ze2,ze3,ze4,ze5,ze6,ze7,ze8,ze9,zf0,zf1,zf2,zf3,zf4,zf5,zf6,zf7,zf8,zf9,zg0,zg1,zg2,zg3,zg4,zg5,zg6,zg7,zg8,zg9,zh0,zh1,zh2,zh3,zh4,zh5,zh6,zh7,zh8,zh9,zi0,zi1,zi2,zi3,zi4,zi5,zi6,wSnil,zi7,zi8,zi9,zj0,zj1,zj2,zj3,zj4,zj5,zj6,zj7,zj8,AV.flatB,AV.flatBs,zj9,zk0,zk1,zk2,zk3,zk4,zk5,zk6,act,AV.cells,AV.mk,AV.asSl,AV.asInt,AV.vslOf,wIdx,zk7,zk8,zk9,zl0,zl1,zl2,zl3,st0,env0,zl4,zl5,zl6,Nat.reduceAdd,Nat.reduceEqDiff,Nat.reduceLeDiff,↓reduceIte,AV.ofV,unV,← decide_not,zl7,zl8,zl9,zm0,zm1,zm2,zm3,zm4,zm5,zm6,zm7,zm8,zm9,zn0,zn1,zn2,zn3,zn4,zn5,zn6,zn7,reduceCtorEq,rowsOf,pureCells,AV.weak,AV.pureB,AV.pureBs,zn8,zn9,zo0,zo1,zo2,Nat.reduceBEq,zo3,zo4,zo5,zo6,zo7,zo8,zo9,zp0,zp1]
  refine AW_gen [(1, .sl 15 .ro (ps.map PatchS.row)), (2, .imm (.int .u8 a)), (3, .ptr 3 1 0), (7, .imm (.bool true)), (8, .ptr 8 (g 8 + 1) 0), (9, .imm (.int .i64 (allS l ps).2.1)), (10, .imm (.int .i64 (allS l ps).2.2))] [(3, 1), (8, g 8 + 1)] [(3, [.sl 7 .ro (l.map Item.row)]), (8, [.sl 7 .ro ((allS l ps).1.map Item.row)])] ?_ ?_
  · simp -implicitDefEqProofs only [e1,e2,e3,e7,g3,v3,PatchS.row,Item.row,fills,splice,zq7,zq8,zb0,za9,zq9,undefA,zq2,zq3,zq4,zq5,zq6,Envs,Gens,Vars,za0,za1,za2,za3,za4,eff,AV.ptrOf,AV.tokOf,za5,za6,AV.weaks,AV.weak1,za7,za8,zb1,zb2,zb3,zb4,zb5,zb6,zb7,zb8,zb9,zc0,zc1,zc2,zc3,zc4,zc5,zc6,zc7,zc8,zc9,zd0,zd1,zd2,zd3,zd4,zd5,zd6,zd7,zd8,zd9,ze0,ze1,ze2,ze3,ze4,ze5,ze6,ze7,ze8,ze9,zf0,zf1,zf2,zf3,zf4,zf5,zf6,zf7,zf8,zf9,zg0,zg1,zg2,zg3,zg4,zg5,zg6,zg7,zg8,zg9,zh0,zh1,zh2,zh3,zh4,zh5,zh6,zh7,zh8,zh9,zi0,zi1,zi2,zi3,zi4,zi5,zi6,wSnil,zi7,zi8,zi9,zj0,zj1,zj2,zj3,zj4,zj5,zj6,zj7,zj8,AV.flatB,AV.flatBs,zj9,zk0,zk1,zk2,zk3,zk4,zk5,zk6,act,AV.cells,AV.mk,AV.asSl,AV.asInt,AV.vslOf,wIdx,zk7,zk8,zk9,zl0,zl1,zl2,zl3,st0,env0,zl4,zl5,zl6,Nat.reduceAdd,Nat.reduceEqDiff,Nat.reduceLeDiff,↓reduceIte,AV.ofV,unV,← decide_not,zl7,zl8,zl9,zm0,zm1,zm2,zm3,zm4,zm5,zm6,zm7,zm8,zm9,zn0,zn1,zn2,zn3,zn4,zn5,zn6,zn7,reduceCtorEq,rowsOf,pureCells,AV.weak,AV.pureB,AV.pureBs,zn8,zn9,zo0,zo1,zo2,Nat.reduceBEq,zo3,zo4,zo5,zo6,zo7,zo8,zo9,zp0,zp1]
  have hg8 : 1 ≤ g 8 + 1 := by omega
  generalize g 8 + 1 = k8 at hg8 ⊢
  clear e1 e2 e3 e7 g3 v3
  rintro e g v tg tp x' ⟨e1, e2, e3, e7, e8, e9, e10, -⟩ ⟨g3, g8, -⟩ ⟨v3, v8, -⟩
  refine AW_seq ?_
  by_cases h0 : (allS l ps).2.2 = 0
  case neg =>
    rcases all_bad h0 with ⟨hv, hr⟩ | ⟨n, p, m, er, hpn, he, hr, h1, h2, h3⟩
    · rw [hr] at e9 e10 v8
      simp only [zn6] at e9 e10 v8
      have w1 : ((ps.length : Int) ≤ -1) = False := eq_false (by omega)
      have w2 : ((1 : Int) = 0) = False := eq_false (by decide)
      have w3 : ((-1 : Int) < -1) = False := eq_false (by decide)
      have w4 : ((0 : Int) < ((0 : Nat) : Int)) = False := eq_false (by decide)
      have w5 : ((0 : Int) < 0) = False := eq_false (by decide)
      have t3 := eq_false hv
      simp -implicitDefEqProofs only [w1,w2,w3,w4,w5,r_pandectlaw19_PatchLists_0,Int.natCast_zero,gt_iff_lt,ge_iff_le,zq6,zq5,zq2,zq3,zq9,zn4,e1,e2,e3,e7,e8,e9,e10,g3,g8,v3,v8,PatchS.row,Item.row,fills,splice,zq7,zq8,zb0,za9,za0,za1,za2,za3,za4,eff,AV.ptrOf,AV.tokOf,za5,za6,AV.weaks,AV.weak1,za7,za8,zb1,zb2,zb3,zb4,zb5,zb6,zb7,zb8,zb9,zc0,zc1,zc2,zc3,zc4,zc5,zc6,zc7,zc8,zc9,zd0,zd1,zd2,zd3,zd4,zd5,zd6,zd7,zd8,zd9,ze0,ze1,ze2,ze3,ze4,ze5,ze6,ze7,ze8,ze9,zf0,zf1,zf2,zf3,zf4,zf5,zf6,zf7,zf8,zf9,zg0,zg1,zg2,zg3,zg4,zg5,zg6,zg7,zg8,zg9,zh0,zh1,zh2,zh3,zh4,zh5,zh6,zh7,zh8,zh9,zi0,zi1,zi2,zi3,zi4,zi5,zi6,wSnil,zi7,zi8,zi9,zj0,zj1,zj2,zj3,zj4,zj5,zj6,zj7,zj8,AV.flatB,AV.flatBs,zj9,zk0,zk1,zk2,zk3,zk4,zk5,zk6,act,AV.cells,AV.mk,AV.asSl,AV.asInt,AV.vslOf,wIdx,zk7,zk8,zk9,zl0,zl1,zl2,zl3,st0,env0,zl4,zl5,zl6,Nat.reduceAdd,Nat.reduceEqDiff,Nat.reduceLeDiff,↓reduceIte,AV.ofV,unV,← decide_not,zl7,zl8,zl9,zm0,zm1,zm2,zm3,zm4,zm5,zm6,zm7,zm8,zm9,zn0,zn1,zn2,zn3,zn5,zn6,zn7,reduceCtorEq,rowsOf,pureCells,AV.weak,AV.pureB,AV.pureBs,zn8,zn9,zo0,zo1,zo2,Nat.reduceBEq,zo3,zo4,zo5,zo6,zo7,zo8,zo9,zp0,zp1]
      refine ⟨hg8, wCall_imm (valid_con L V l (by omega) fi) rfl (AV.les2_refl _) ?_⟩
      simp -implicitDefEqProofs only [t3,zq2,zq3,c_pandectlaw19_PatchLists,e1,e2,e3,e7,e8,e9,e10,g3,g8,v3,v8,PatchS.row,Item.row,fills,splice,zq7,zq8,zb0,za9,za0,za1,za2,za3,za4,eff,AV.ptrOf,AV.tokOf,za5,za6,AV.weaks,AV.weak1,za7,za8,zb1,zb2,zb3,zb4,zb5,zb6,zb7,zb8,zb9,zc0,zc1,zc2,zc3,zc4,zc5,zc6,zc7,zc8,zc9,zd0,zd1,zd2,zd3,zd4,zd5,zd6,zd7,zd8,zd9,ze0,ze1,ze2,ze3,ze4,ze5,ze6,ze7,ze8,ze9,zf0,zf1,zf2,zf3,zf4,zf5,zf6,zf7,zf8,zf9,zg0,zg1,zg2,zg3,zg4,zg5,zg6,zg7,zg8,zg9,zh0,zh1,zh2,zh3,zh4,zh5,zh6,zh7,zh8,zh9,zi0,zi1,zi2,zi3,zi4,zi5,zi6,wSnil,zi7,zi8,zi9,zj0,zj1,zj2,zj3,zj4,zj5,zj6,zj7,zj8,AV.flatB,AV.flatBs,zj9,zk0,zk1,zk2,zk3,zk4,zk5,zk6,act,AV.cells,AV.mk,AV.asSl,AV.asInt,AV.vslOf,wIdx,zk7,zk8,zk9,zl0,zl1,zl2,zl3,st0,env0,zl4,zl5,zl6,Nat.reduceAdd,Nat.reduceEqDiff,Nat.reduceLeDiff,↓reduceIte,AV.ofV,unV,← decide_not,zl7,zl8,zl9,zm0,zm1,zm2,zm3,zm4,zm5,zm6,zm7,zm8,zm9,zn0,zn1,zn2,zn3,zn4,zn5,zn6,zn7,reduceCtorEq,rowsOf,pureCells,AV.weak,AV.pureB,AV.pureBs,zn8,zn9,zo0,zo1,zo2,Nat.reduceBEq,zo3,zo4,zo5,zo6,zo7,zo8,zo9,zp0,zp1,zp2,zp3,zp4,zp5,zp6,zp7,zp8,zp9,zq0,zq1]
    · rw [hr] at e9 e10 v8
      simp only [zn6] at e9 e10 v8
      have hnl := (List.getElem?_eq_some_iff.1 hpn).1
      have w1 : ((ps.length : Int) ≤ n) = False := eq_false (by omega)
      have w2 : (er = 0) = False := eq_false he
      have w3 : ((n : Int) < -1) = False := eq_false (by omega)
      have w4 : ((n : Int) = -1) = False := eq_false (by omega)
      have w5 : ((0 : Int) < 0) = False := eq_false (by decide)
      have hok : (∀ p ∈ ps.take n, FitP p ∧ p.id.size ≤ 1048576) ∧ (∀ p ∈ ps.take (n + 1), FitP p ∧ p.id.size ≤ 1048576) := ⟨fun p hp => fp p (List.mem_of_mem_take hp), fun p hp => fp p (List.mem_of_mem_take hp)⟩
      obtain ⟨mf, ml⟩ := allS_fit fi (fun p hp => fid p (List.mem_of_mem_take hp)) h1
      rw [List.length_take] at ml
      have c1 := all_con L V W W2 l (ps.take n) (by omega) (by rw [List.length_take]; omega) fi hok.1
      have c3 := all_con L V W W2 l (ps.take (n + 1)) (by omega) (by rw [List.length_take]; omega) fi hok.2
      have c2 := apply_con L V W W2 m p (by omega) mf (fp p (List.mem_of_getElem? hpn)).1
      rw [h1] at c1
      rw [h3] at c3
      rw [h2] at c2
      have o5 : ((0 : Int) ≤ 0 ∧ (0 : Int) ≤ n ∧ (n : Int) ≤ (ps.length : Nat)) = True := eq_true ⟨by omega, by omega, by omega⟩
      have o6 : ((0 : Int) ≤ 0 ∧ (0 : Int) ≤ ((n + 1 : Nat) : Int) ∧ ((n + 1 : Nat) : Int) ≤ (ps.length : Nat)) = True := eq_true ⟨by omega, by omega, by omega⟩
      have s1 : List.take n (ps.map PatchS.row) = (ps.take n).map PatchS.row := List.map_take.symm
      have s2 : List.take (n + 1) (ps.map PatchS.row) = (ps.take (n + 1)).map PatchS.row := List.map_take.symm
      have rb : ∀ (st : St Unit) (K : AV → St Unit → Prop), wIdx st 15 (.sl 15 .ro (ps.map PatchS.row)) (.imm (.int .i64 n)) K = K (.eptr p.row 0) st := fun st K => wIdx_at (by rw [List.getElem?_map, hpn]; rfl)
      have hw : IntKind.i64.wrap ((n : Int) + 1) = ((n + 1 : Nat) : Int) := by rw [IntWalk.i64_in _ (by omega)]; omega
      simp -implicitDefEqProofs only [boundOf,Option.map_none,slcTok,o5,s1,Int.toNat_zero,zr0,w1,w2,w3,w4,w5,Int.natCast_zero,gt_iff_lt,ge_iff_le,zq6,zq5,zq2,zq3,zq9,zn4,e1,e2,e3,e7,e8,e9,e10,g3,g8,v3,v8,PatchS.row,Item.row,fills,splice,zq7,zq8,zb0,za9,za0,za1,za2,za3,za4,eff,AV.ptrOf,AV.tokOf,za5,za6,AV.weaks,AV.weak1,za7,za8,zb1,zb2,zb3,zb4,zb5,zb6,zb7,zb8,zb9,zc0,zc1,zc2,zc3,zc4,zc5,zc6,zc7,zc8,zc9,zd0,zd1,zd2,zd3,zd4,zd5,zd6,zd7,zd8,zd9,ze0,ze1,ze2,ze3,ze4,ze5,ze6,ze7,ze8,ze9,zf0,zf1,zf2,zf3,zf4,zf5,zf6,zf7,zf8,zf9,zg0,zg1,zg2,zg3,zg4,zg5,zg6,zg7,zg8,zg9,zh0,zh1,zh2,zh3,zh4,zh5,zh6,zh7,zh8,zh9,zi0,zi1,zi2,zi3,zi4,zi5,zi6,wSnil,zi7,zi8,zi9,zj0,zj1,zj2,zj3,zj4,zj5,zj6,zj7,zj8,AV.flatB,AV.flatBs,zj9,zk0,zk1,zk2,zk3,zk4,zk5,zk6,act,AV.cells,AV.mk,AV.asSl,AV.asInt,AV.vslOf,zk7,zk8,zk9,zl0,zl1,zl2,zl3,st0,env0,zl4,zl5,zl6,Nat.reduceAdd,Nat.reduceEqDiff,Nat.reduceLeDiff,↓reduceIte,AV.ofV,unV,← decide_not,zl7,zl8,zl9,zm0,zm1,zm2,zm3,zm4,zm5,zm6,zm7,zm8,zm9,zn0,zn1,zn2,zn3,zn5,zn6,zn7,reduceCtorEq,rowsOf,pureCells,AV.weak,AV.pureB,AV.pureBs,zn8,zn9,zo0,zo1,zo2,Nat.reduceBEq,zo3,zo4,zo5,zo6,zo7,zo8,zo9,zp0,zp1]
      refine ⟨hg8, ?_⟩
      refine wCall_pure c1 rfl rfl (AV.les2_refl _) ?_
      simp -implicitDefEqProofs only [resW,rb,e1,e2,e3,e7,e8,e9,e10,g3,g8,v3,v8,PatchS.row,Item.row,fills,splice,zq7,zq8,zb0,za9,za0,za1,za2,za3,za4,eff,AV.ptrOf,AV.tokOf,za5,za6,AV.weaks,AV.weak1,za7,za8,zb1,zb2,zb3,zb4,zb5,zb6,zb7,zb8,zb9,zc0,zc1,zc2,zc3,zc4,zc5,zc6,zc7,zc8,zc9,zd0,zd1,zd2,zd3,zd4,zd5,zd6,zd7,zd8,zd9,ze0,ze1,ze2,ze3,ze4,ze5,ze6,ze7,ze8,ze9,zf0,zf1,zf2,zf3,zf4,zf5,zf6,zf7,zf8,zf9,zg0,zg1,zg2,zg3,zg4,zg5,zg6,zg7,zg8,zg9,zh0,zh1,zh2,zh3,zh4,zh5,zh6,zh7,zh8,zh9,zi0,zi1,zi2,zi3,zi4,zi5,zi6,wSnil,zi7,zi8,zi9,zj0,zj1,zj2,zj3,zj4,zj5,zj6,zj7,zj8,AV.flatB,AV.flatBs,zj9,zk0,zk1,zk2,zk3,zk4,zk5,zk6,act,AV.cells,AV.mk,AV.asSl,AV.asInt,AV.vslOf,zk7,zk8,zk9,zl0,zl1,zl2,zl3,st0,env0,zl4,zl5,zl6,Nat.reduceAdd,Nat.reduceEqDiff,Nat.reduceLeDiff,↓reduceIte,AV.ofV,unV,← decide_not,zl7,zl8,zl9,zm0,zm1,zm2,zm3,zm4,zm5,zm6,zm7,zm8,zm9,zn0,zn1,zn2,zn3,zn4,zn5,zn6,zn7,reduceCtorEq,rowsOf,pureCells,AV.weak,AV.pureB,AV.pureBs,zn8,zn9,zo0,zo1,zo2,Nat.reduceBEq,zo3,zo4,zo5,zo6,zo7,zo8,zo9,zp0,zp1]
      refine ⟨rfl, ?_⟩
      refine wCall_pure c2 rfl rfl (AV.les2_refl _) ?_
      simp -implicitDefEqProofs only [resC,boundOf,Option.map_none,slcTok,hw,o6,s2,Int.toNat_zero,zr0,zq9,e1,e2,e3,e7,e8,e9,e10,g3,g8,v3,v8,PatchS.row,Item.row,fills,splice,zq7,zq8,zb0,za9,za0,za1,za2,za3,za4,eff,AV.ptrOf,AV.tokOf,za5,za6,AV.weaks,AV.weak1,za7,za8,zb1,zb2,zb3,zb4,zb5,zb6,zb7,zb8,zb9,zc0,zc1,zc2,zc3,zc4,zc5,zc6,zc7,zc8,zc9,zd0,zd1,zd2,zd3,zd4,zd5,zd6,zd7,zd8,zd9,ze0,ze1,ze2,ze3,ze4,ze5,ze6,ze7,ze8,ze9,zf0,zf1,zf2,zf3,zf4,zf5,zf6,zf7,zf8,zf9,zg0,zg1,zg2,zg3,zg4,zg5,zg6,zg7,zg8,zg9,zh0,zh1,zh2,zh3,zh4,zh5,zh6,zh7,zh8,zh9,zi0,zi1,zi2,zi3,zi4,zi5,zi6,wSnil,zi7,zi8,zi9,zj0,zj1,zj2,zj3,zj4,zj5,zj6,zj7,zj8,AV.flatB,AV.flatBs,zj9,zk0,zk1,zk2,zk3,zk4,zk5,zk6,act,AV.cells,AV.mk,AV.asSl,AV.asInt,AV.vslOf,zk7,zk8,zk9,zl0,zl1,zl2,zl3,st0,env0,zl4,zl5,zl6,Nat.reduceAdd,Nat.reduceEqDiff,Nat.reduceLeDiff,↓reduceIte,AV.ofV,unV,← decide_not,zl7,zl8,zl9,zm0,zm1,zm2,zm3,zm4,zm5,zm6,zm7,zm8,zm9,zn0,zn1,zn2,zn3,zn4,zn5,zn6,zn7,reduceCtorEq,rowsOf,pureCells,AV.weak,AV.pureB,AV.pureBs,zn8,zn9,zo0,zo1,zo2,Nat.reduceBEq,zo3,zo4,zo5,zo6,zo7,zo8,zo9,zp0,zp1]
      refine ⟨rfl, ?_⟩
      refine wCall_pure c3 rfl rfl (AV.les2_refl _) ?_
      simp -implicitDefEqProofs only [resW,r_pandectlaw19_PatchLists_1,zq2,e1,e2,e3,e7,e8,e9,e10,g3,g8,v3,v8,PatchS.row,Item.row,fills,splice,zq7,zq8,zb0,za9,za0,za1,za2,za3,za4,eff,AV.ptrOf,AV.tokOf,za5,za6,AV.weaks,AV.weak1,za7,za8,zb1,zb2,zb3,zb4,zb5,zb6,zb7,zb8,zb9,zc0,zc1,zc2,zc3,zc4,zc5,zc6,zc7,zc8,zc9,zd0,zd1,zd2,zd3,zd4,zd5,zd6,zd7,zd8,zd9,ze0,ze1,ze2,ze3,ze4,ze5,ze6,ze7,ze8,ze9,zf0,zf1,zf2,zf3,zf4,zf5,zf6,zf7,zf8,zf9,zg0,zg1,zg2,zg3,zg4,zg5,zg6,zg7,zg8,zg9,zh0,zh1,zh2,zh3,zh4,zh5,zh6,zh7,zh8,zh9,zi0,zi1,zi2,zi3,zi4,zi5,zi6,wSnil,zi7,zi8,zi9,zj0,zj1,zj2,zj3,zj4,zj5,zj6,zj7,zj8,AV.flatB,AV.flatBs,zj9,zk0,zk1,zk2,zk3,zk4,zk5,zk6,act,AV.cells,AV.mk,AV.asSl,AV.asInt,AV.vslOf,zk7,zk8,zk9,zl0,zl1,zl2,zl3,st0,env0,zl4,zl5,zl6,Nat.reduceAdd,Nat.reduceEqDiff,Nat.reduceLeDiff,↓reduceIte,AV.ofV,unV,← decide_not,zl7,zl8,zl9,zm0,zm1,zm2,zm3,zm4,zm5,zm6,zm7,zm8,zm9,zn0,zn1,zn2,zn3,zn4,zn5,zn6,zn7,reduceCtorEq,rowsOf,pureCells,AV.weak,AV.pureB,AV.pureBs,zn8,zn9,zo0,zo1,zo2,Nat.reduceBEq,zo3,zo4,zo5,zo6,zo7,zo8,zo9,zp0,zp1]
      refine ⟨rfl, ?_⟩
      simp -implicitDefEqProofs only [c_pandectlaw19_PatchLists,zp2,zp3,zp4,zp5,zp6,zp7,zp8,zp9,zq0,zq1,zl4,Nat.reduceEqDiff,↓reduceIte,zm0]
  have t3 := eq_true h0
  obtain ⟨d, m, hr, h1, h2⟩ := all_ok h0 (a.toNat % (ps.length + 1))
  have hn : a.toNat % (ps.length + 1) ≤ ps.length := by have := Nat.mod_lt a.toNat (show 0 < ps.length + 1 by omega); omega
  rw [hr] at e9 e10 v8
  simp only at e9 e10 v8
  have hrem : a.tmod ((ps.length : Int) + 1) = ((a.toNat % (ps.length + 1) : Nat) : Int) := by
    rw [Int.tmod_eq_emod_of_nonneg ha.1]
    have hq : ((a.toNat % (ps.length + 1) : Nat) : Int) = (a.toNat : Int) % ((ps.length + 1 : Nat) : Int) := by first | exact Int.natCast_emod _ _ | exact Int.ofNat_emod _ _ | rfl
    rw [Int.toNat_of_nonneg ha.1] at hq
    rw [hq]
    rfl
  generalize a.toNat % (ps.length + 1) = n at h1 h2 hn hrem
  have w0 : ((0 : Int) = 0) = True := eq_self 0
  simp -implicitDefEqProofs only [w0,zq6,zq4,zq3,e1,e2,e3,e7,e8,e9,e10,g3,g8,v3,v8,PatchS.row,Item.row,fills,splice,zq7,zq8,zb0,za9,za0,za1,za2,za3,za4,eff,AV.ptrOf,AV.tokOf,za5,za6,AV.weaks,AV.weak1,za7,za8,zb1,zb2,zb3,zb4,zb5,zb6,zb7,zb8,zb9,zc0,zc1,zc2,zc3,zc4,zc5,zc6,zc7,zc8,zc9,zd0,zd1,zd2,zd3,zd4,zd5,zd6,zd7,zd8,zd9,ze0,ze1,ze2,ze3,ze4,ze5,ze6,ze7,ze8,ze9,zf0,zf1,zf2,zf3,zf4,zf5,zf6,zf7,zf8,zf9,zg0,zg1,zg2,zg3,zg4,zg5,zg6,zg7,zg8,zg9,zh0,zh1,zh2,zh3,zh4,zh5,zh6,zh7,zh8,zh9,zi0,zi1,zi2,zi3,zi4,zi5,zi6,wSnil,zi7,zi8,zi9,zj0,zj1,zj2,zj3,zj4,zj5,zj6,zj7,zj8,AV.flatB,AV.flatBs,zj9,zk0,zk1,zk2,zk3,zk4,zk5,zk6,act,AV.cells,AV.mk,AV.asSl,AV.asInt,AV.vslOf,wIdx,zk7,zk8,zk9,zl0,zl1,zl2,zl3,st0,env0,zl4,zl5,zl6,Nat.reduceAdd,Nat.reduceEqDiff,Nat.reduceLeDiff,↓reduceIte,AV.ofV,unV,← decide_not,zl7,zl8,zl9,zm0,zm1,zm2,zm3,zm4,zm5,zm6,zm7,zm8,zm9,zn0,zn1,zn2,zn3,zn4,zn5,zn6,zn7,reduceCtorEq,rowsOf,pureCells,AV.weak,AV.pureB,AV.pureBs,zn8,zn9,zo0,zo1,zo2,Nat.reduceBEq,zo3,zo4,zo5,zo6,zo7,zo8,zo9,zp0,zp1]
  refine AW_seq ?_
  have hwa : IntKind.i64.wrap a = a := IntWalk.i64_in _ (by omega)
  have hwl : IntKind.i64.wrap ((ps.length : Int) + 1) = (ps.length : Int) + 1 := IntWalk.i64_in _ (by omega)
  have hwn : ((ps.length : Int) + 1 = 0) = False := eq_false (by omega)
  simp -implicitDefEqProofs only [hwa,hwl,hwn,hrem,zq9,e1,e2,e3,e7,e8,e9,e10,g3,g8,v3,v8,PatchS.row,Item.row,fills,splice,zq7,zq8,zb0,za9,za0,za1,za2,za3,za4,eff,AV.ptrOf,AV.tokOf,za5,za6,AV.weaks,AV.weak1,za7,za8,zb1,zb2,zb3,zb4,zb5,zb6,zb7,zb8,zb9,zc0,zc1,zc2,zc3,zc4,zc5,zc6,zc7,zc8,zc9,zd0,zd1,zd2,zd3,zd4,zd5,zd6,zd7,zd8,zd9,ze0,ze1,ze2,ze3,ze4,ze5,ze6,ze7,ze8,ze9,zf0,zf1,zf2,zf3,zf4,zf5,zf6,zf7,zf8,zf9,zg0,zg1,zg2,zg3,zg4,zg5,zg6,zg7,zg8,zg9,zh0,zh1,zh2,zh3,zh4,zh5,zh6,zh7,zh8,zh9,zi0,zi1,zi2,zi3,zi4,zi5,zi6,wSnil,zi7,zi8,zi9,zj0,zj1,zj2,zj3,zj4,zj5,zj6,zj7,zj8,AV.flatB,AV.flatBs,zj9,zk0,zk1,zk2,zk3,zk4,zk5,zk6,act,AV.cells,AV.mk,AV.asSl,AV.asInt,AV.vslOf,wIdx,zk7,zk8,zk9,zl0,zl1,zl2,zl3,st0,env0,zl4,zl5,zl6,Nat.reduceAdd,Nat.reduceEqDiff,Nat.reduceLeDiff,↓reduceIte,AV.ofV,unV,← decide_not,zl7,zl8,zl9,zm0,zm1,zm2,zm3,zm4,zm5,zm6,zm7,zm8,zm9,zn0,zn1,zn2,zn3,zn4,zn5,zn6,zn7,reduceCtorEq,rowsOf,pureCells,AV.weak,AV.pureB,AV.pureBs,zn8,zn9,zo0,zo1,zo2,Nat.reduceBEq,zo3,zo4,zo5,zo6,zo7,zo8,zo9,zp0,zp1]
  refine ⟨by omega, ?_⟩
  refine AW_gen [(1, .sl 15 .ro (ps.map PatchS.row)), (3, .ptr 3 1 0), (7, .imm (.bool true)), (8, .ptr 8 k8 0), (9, .imm (.int .i64 (-1))), (19, .imm (.int .i64 n))] [(3, 1), (8, k8)] [(3, [.sl 7 .ro (l.map Item.row)]), (8, [.sl 7 .ro (d.map Item.row)])] ?_ ?_
  · simp -implicitDefEqProofs only [e1,e2,e3,e7,e8,e9,e10,g3,g8,v3,v8,PatchS.row,Item.row,fills,splice,zq7,zq8,zb0,za9,zq9,undefA,zq2,zq3,zq4,zq5,zq6,Envs,Gens,Vars,za0,za1,za2,za3,za4,eff,AV.ptrOf,AV.tokOf,za5,za6,AV.weaks,AV.weak1,za7,za8,zb1,zb2,zb3,zb4,zb5,zb6,zb7,zb8,zb9,zc0,zc1,zc2,zc3,zc4,zc5,zc6,zc7,zc8,zc9,zd0,zd1,zd2,zd3,zd4,zd5,zd6,zd7,zd8,zd9,ze0,ze1,ze2,ze3,ze4,ze5,ze6,ze7,ze8,ze9,zf0,zf1,zf2,zf3,zf4,zf5,zf6,zf7,zf8,zf9,zg0,zg1,zg2,zg3,zg4,zg5,zg6,zg7,zg8,zg9,zh0,zh1,zh2,zh3,zh4,zh5,zh6,zh7,zh8,zh9,zi0,zi1,zi2,zi3,zi4,zi5,zi6,wSnil,zi7,zi8,zi9,zj0,zj1,zj2,zj3,zj4,zj5,zj6,zj7,zj8,AV.flatB,AV.flatBs,zj9,zk0,zk1,zk2,zk3,zk4,zk5,zk6,act,AV.cells,AV.mk,AV.asSl,AV.asInt,AV.vslOf,wIdx,zk7,zk8,zk9,zl0,zl1,zl2,zl3,st0,env0,zl4,zl5,zl6,Nat.reduceAdd,Nat.reduceEqDiff,Nat.reduceLeDiff,↓reduceIte,AV.ofV,unV,← decide_not,zl7,zl8,zl9,zm0,zm1,zm2,zm3,zm4,zm5,zm6,zm7,zm8,zm9,zn0,zn1,zn2,zn3,zn4,zn5,zn6,zn7,reduceCtorEq,rowsOf,pureCells,AV.weak,AV.pureB,AV.pureBs,zn8,zn9,zo0,zo1,zo2,Nat.reduceBEq,zo3,zo4,zo5,zo6,zo7,zo8,zo9,zp0,zp1]
  clear e1 e2 e3 e7 e8 e9 e10 g3 g8 v3 v8
  rintro e g v tg tp x' ⟨e1, e3, e7, e8, e9, e19, -⟩ ⟨g3, g8, -⟩ ⟨v3, v8, -⟩
  refine AW_seq ?_
  have hok : (∀ p ∈ ps.take n, FitP p ∧ p.id.size ≤ 1048576) ∧ (∀ p ∈ ps.drop n, FitP p ∧ p.id.size ≤ 1048576) := ⟨fun p hp => fp p (List.mem_of_mem_take hp), fun p hp => fp p (List.mem_of_mem_drop hp)⟩
  obtain ⟨mf, ml⟩ := allS_fit fi (fun p hp => fid p (List.mem_of_mem_take hp)) h1
  rw [List.length_take] at ml
  obtain ⟨df, dl⟩ := allS_fit fi fid hr
  have c1 := all_con L V W W2 l (ps.take n) (by omega) (by rw [List.length_take]; omega) fi hok.1
  have c2 := all_con L V W W2 m (ps.drop n) (by omega) (by rw [List.length_drop]; omega) mf hok.2
  rw [h1] at c1
  rw [h2] at c2
  have o5 : ((0 : Int) ≤ 0 ∧ (0 : Int) ≤ n ∧ (n : Int) ≤ (ps.length : Nat)) = True := eq_true ⟨by omega, by omega, by omega⟩
  have o6 : ((0 : Int) ≤ n ∧ (n : Int) ≤ (ps.length : Nat) ∧ ((ps.length : Nat) : Int) ≤ (ps.length : Nat)) = True := eq_true ⟨by omega, by omega, by omega⟩
  have s1 : List.take n (ps.map PatchS.row) = (ps.take n).map PatchS.row := List.map_take.symm
  have s2 : List.drop n (List.take ps.length (ps.map PatchS.row)) = (ps.drop n).map PatchS.row := by rw [List.take_of_length_le (by simp), List.map_drop]
  simp -implicitDefEqProofs only [boundOf,Option.map_none,slcTok,o5,s1,Int.toNat_zero,zr0,zq9,e1,e3,e7,e8,e9,e19,g3,g8,v3,v8,PatchS.row,Item.row,fills,splice,zq7,zq8,zb0,za9,za0,za1,za2,za3,za4,eff,AV.ptrOf,AV.tokOf,za5,za6,AV.weaks,AV.weak1,za7,za8,zb1,zb2,zb3,zb4,zb5,zb6,zb7,zb8,zb9,zc0,zc1,zc2,zc3,zc4,zc5,zc6,zc7,zc8,zc9,zd0,zd1,zd2,zd3,zd4,zd5,zd6,zd7,zd8,zd9,ze0,ze1,ze2,ze3,ze4,ze5,ze6,ze7,ze8,ze9,zf0,zf1,zf2,zf3,zf4,zf5,zf6,zf7,zf8,zf9,zg0,zg1,zg2,zg3,zg4,zg5,zg6,zg7,zg8,zg9,zh0,zh1,zh2,zh3,zh4,zh5,zh6,zh7,zh8,zh9,zi0,zi1,zi2,zi3,zi4,zi5,zi6,wSnil,zi7,zi8,zi9,zj0,zj1,zj2,zj3,zj4,zj5,zj6,zj7,zj8,AV.flatB,AV.flatBs,zj9,zk0,zk1,zk2,zk3,zk4,zk5,zk6,act,AV.cells,AV.mk,AV.asSl,AV.asInt,AV.vslOf,wIdx,zk7,zk8,zk9,zl0,zl1,zl2,zl3,st0,env0,zl4,zl5,zl6,Nat.reduceAdd,Nat.reduceEqDiff,Nat.reduceLeDiff,↓reduceIte,AV.ofV,unV,← decide_not,zl7,zl8,zl9,zm0,zm1,zm2,zm3,zm4,zm5,zm6,zm7,zm8,zm9,zn0,zn1,zn2,zn3,zn4,zn5,zn6,zn7,reduceCtorEq,rowsOf,pureCells,AV.weak,AV.pureB,AV.pureBs,zn8,zn9,zo0,zo1,zo2,Nat.reduceBEq,zo3,zo4,zo5,zo6,zo7,zo8,zo9,zp0,zp1]
  refine wCall_pure c1 rfl rfl (AV.les2_refl _) ?_
  simp -implicitDefEqProofs only [resW,e1,e3,e7,e8,e9,e19,g3,g8,v3,v8,PatchS.row,Item.row,fills,splice,zq7,zq8,zb0,za9,za0,za1,za2,za3,za4,eff,AV.ptrOf,AV.tokOf,za5,za6,AV.weaks,AV.weak1,za7,za8,zb1,zb2,zb3,zb4,zb5,zb6,zb7,zb8,zb9,zc0,zc1,zc2,zc3,zc4,zc5,zc6,zc7,zc8,zc9,zd0,zd1,zd2,zd3,zd4,zd5,zd6,zd7,zd8,zd9,ze0,ze1,ze2,ze3,ze4,ze5,ze6,ze7,ze8,ze9,zf0,zf1,zf2,zf3,zf4,zf5,zf6,zf7,zf8,zf9,zg0,zg1,zg2,zg3,zg4,zg5,zg6,zg7,zg8,zg9,zh0,zh1,zh2,zh3,zh4,zh5,zh6,zh7,zh8,zh9,zi0,zi1,zi2,zi3,zi4,zi5,zi6,wSnil,zi7,zi8,zi9,zj0,zj1,zj2,zj3,zj4,zj5,zj6,zj7,zj8,AV.flatB,AV.flatBs,zj9,zk0,zk1,zk2,zk3,zk4,zk5,zk6,act,AV.cells,AV.mk,AV.asSl,AV.asInt,AV.vslOf,wIdx,zk7,zk8,zk9,zl0,zl1,zl2,zl3,st0,env0,zl4,zl5,zl6,Nat.reduceAdd,Nat.reduceEqDiff,Nat.reduceLeDiff,↓reduceIte,AV.ofV,unV,← decide_not,zl7,zl8,zl9,zm0,zm1,zm2,zm3,zm4,zm5,zm6,zm7,zm8,zm9,zn0,zn1,zn2,zn3,zn4,zn5,zn6,zn7,reduceCtorEq,rowsOf,pureCells,AV.weak,AV.pureB,AV.pureBs,zn8,zn9,zo0,zo1,zo2,Nat.reduceBEq,zo3,zo4,zo5,zo6,zo7,zo8,zo9,zp0,zp1]
  refine ⟨rfl, ?_⟩
  refine AW_gen [(1, .sl 15 .ro (ps.map PatchS.row)), (3, .ptr 3 1 0), (7, .imm (.bool true)), (8, .ptr 8 k8 0), (9, .imm (.int .i64 (-1))), (19, .imm (.int .i64 n)), (20, .ptr 20 (g 20 + 1) 0), (22, .imm (.int .i64 0))] [(3, 1), (8, k8), (20, g 20 + 1)] [(3, [.sl 7 .ro (l.map Item.row)]), (8, [.sl 7 .ro (d.map Item.row)]), (20, [.sl 7 .ro (m.map Item.row)])] ?_ ?_
  · simp -implicitDefEqProofs only [e1,e3,e7,e8,e9,e19,g3,g8,v3,v8,PatchS.row,Item.row,fills,splice,zq7,zq8,zb0,za9,zq9,undefA,zq2,zq3,zq4,zq5,zq6,Envs,Gens,Vars,za0,za1,za2,za3,za4,eff,AV.ptrOf,AV.tokOf,za5,za6,AV.weaks,AV.weak1,za7,za8,zb1,zb2,zb3,zb4,zb5,zb6,zb7,zb8,zb9,zc0,zc1,zc2,zc3,zc4,zc5,zc6,zc7,zc8,zc9,zd0,zd1,zd2,zd3,zd4,zd5,zd6,zd7,zd8,zd9,ze0,ze1,ze2,ze3,ze4,ze5,ze6,ze7,ze8,ze9,zf0,zf1,zf2,zf3,zf4,zf5,zf6,zf7,zf8,zf9,zg0,zg1,zg2,zg3,zg4,zg5,zg6,zg7,zg8,zg9,zh0,zh1,zh2,zh3,zh4,zh5,zh6,zh7,zh8,zh9,zi0,zi1,zi2,zi3,zi4,zi5,zi6,wSnil,zi7,zi8,zi9,zj0,zj1,zj2,zj3,zj4,zj5,zj6,zj7,zj8,AV.flatB,AV.flatBs,zj9,zk0,zk1,zk2,zk3,zk4,zk5,zk6,act,AV.cells,AV.mk,AV.asSl,AV.asInt,AV.vslOf,wIdx,zk7,zk8,zk9,zl0,zl1,zl2,zl3,st0,env0,zl4,zl5,zl6,Nat.reduceAdd,Nat.reduceEqDiff,Nat.reduceLeDiff,↓reduceIte,AV.ofV,unV,← decide_not,zl7,zl8,zl9,zm0,zm1,zm2,zm3,zm4,zm5,zm6,zm7,zm8,zm9,zn0,zn1,zn2,zn3,zn4,zn5,zn6,zn7,reduceCtorEq,rowsOf,pureCells,AV.weak,AV.pureB,AV.pureBs,zn8,zn9,zo0,zo1,zo2,Nat.reduceBEq,zo3,zo4,zo5,zo6,zo7,zo8,zo9,zp0,zp1]
  have hg20 : 1 ≤ g 20 + 1 := by omega
  generalize g 20 + 1 = k20 at hg20 ⊢
  clear e1 e3 e7 e8 e9 e19 g3 g8 v3 v8
  rintro e g v tg tp x' ⟨e1, e3, e7, e8, e9, e19, e20, e22, -⟩ ⟨g3, g8, g20, -⟩ ⟨v3, v8, v20, -⟩
  refine AW_seq ?_
  simp -implicitDefEqProofs only [boundOf,Option.map_none,slcTok,o6,s2,Int.toNat_zero,zr0,zq9,e1,e3,e7,e8,e9,e19,e20,e22,g3,g8,g20,v3,v8,v20,PatchS.row,Item.row,fills,splice,zq7,zq8,zb0,za9,za0,za1,za2,za3,za4,eff,AV.ptrOf,AV.tokOf,za5,za6,AV.weaks,AV.weak1,za7,za8,zb1,zb2,zb3,zb4,zb5,zb6,zb7,zb8,zb9,zc0,zc1,zc2,zc3,zc4,zc5,zc6,zc7,zc8,zc9,zd0,zd1,zd2,zd3,zd4,zd5,zd6,zd7,zd8,zd9,ze0,ze1,ze2,ze3,ze4,ze5,ze6,ze7,ze8,ze9,zf0,zf1,zf2,zf3,zf4,zf5,zf6,zf7,zf8,zf9,zg0,zg1,zg2,zg3,zg4,zg5,zg6,zg7,zg8,zg9,zh0,zh1,zh2,zh3,zh4,zh5,zh6,zh7,zh8,zh9,zi0,zi1,zi2,zi3,zi4,zi5,zi6,wSnil,zi7,zi8,zi9,zj0,zj1,zj2,zj3,zj4,zj5,zj6,zj7,zj8,AV.flatB,AV.flatBs,zj9,zk0,zk1,zk2,zk3,zk4,zk5,zk6,act,AV.cells,AV.mk,AV.asSl,AV.asInt,AV.vslOf,wIdx,zk7,zk8,zk9,zl0,zl1,zl2,zl3,st0,env0,zl4,zl5,zl6,Nat.reduceAdd,Nat.reduceEqDiff,Nat.reduceLeDiff,↓reduceIte,AV.ofV,unV,← decide_not,zl7,zl8,zl9,zm0,zm1,zm2,zm3,zm4,zm5,zm6,zm7,zm8,zm9,zn0,zn1,zn2,zn3,zn4,zn5,zn6,zn7,reduceCtorEq,rowsOf,pureCells,AV.weak,AV.pureB,AV.pureBs,zn8,zn9,zo0,zo1,zo2,Nat.reduceBEq,zo3,zo4,zo5,zo6,zo7,zo8,zo9,zp0,zp1]
  refine ⟨hg20, wCall_pure c2 rfl rfl (AV.les2_refl _) ?_⟩
  simp -implicitDefEqProofs only [resW,e1,e3,e7,e8,e9,e19,e20,e22,g3,g8,g20,v3,v8,v20,PatchS.row,Item.row,fills,splice,zq7,zq8,zb0,za9,za0,za1,za2,za3,za4,eff,AV.ptrOf,AV.tokOf,za5,za6,AV.weaks,AV.weak1,za7,za8,zb1,zb2,zb3,zb4,zb5,zb6,zb7,zb8,zb9,zc0,zc1,zc2,zc3,zc4,zc5,zc6,zc7,zc8,zc9,zd0,zd1,zd2,zd3,zd4,zd5,zd6,zd7,zd8,zd9,ze0,ze1,ze2,ze3,ze4,ze5,ze6,ze7,ze8,ze9,zf0,zf1,zf2,zf3,zf4,zf5,zf6,zf7,zf8,zf9,zg0,zg1,zg2,zg3,zg4,zg5,zg6,zg7,zg8,zg9,zh0,zh1,zh2,zh3,zh4,zh5,zh6,zh7,zh8,zh9,zi0,zi1,zi2,zi3,zi4,zi5,zi6,wSnil,zi7,zi8,zi9,zj0,zj1,zj2,zj3,zj4,zj5,zj6,zj7,zj8,AV.flatB,AV.flatBs,zj9,zk0,zk1,zk2,zk3,zk4,zk5,zk6,act,AV.cells,AV.mk,AV.asSl,AV.asInt,AV.vslOf,wIdx,zk7,zk8,zk9,zl0,zl1,zl2,zl3,st0,env0,zl4,zl5,zl6,Nat.reduceAdd,Nat.reduceEqDiff,Nat.reduceLeDiff,↓reduceIte,AV.ofV,unV,← decide_not,zl7,zl8,zl9,zm0,zm1,zm2,zm3,zm4,zm5,zm6,zm7,zm8,zm9,zn0,zn1,zn2,zn3,zn4,zn5,zn6,zn7,reduceCtorEq,rowsOf,pureCells,AV.weak,AV.pureB,AV.pureBs,zn8,zn9,zo0,zo1,zo2,Nat.reduceBEq,zo3,zo4,zo5,zo6,zo7,zo8,zo9,zp0,zp1]
  refine ⟨rfl, ?_⟩
  refine AW_gen [(7, .imm (.bool true)), (8, .ptr 8 k8 0), (9, .imm (.int .i64 (-1))), (22, .imm (.int .i64 0)), (23, .ptr 23 (g 23 + 1) 0), (24, .imm (.int .i64 (-1))), (25, .imm (.int .i64 0))] [(8, k8), (23, g 23 + 1)] [(8, [.sl 7 .ro (d.map Item.row)]), (23, [.sl 7 .ro (d.map Item.row)])] ?_ ?_
  · simp -implicitDefEqProofs only [e1,e3,e7,e8,e9,e19,e20,e22,g3,g8,g20,v3,v8,v20,PatchS.row,Item.row,fills,splice,zq7,zq8,zb0,za9,zq9,undefA,zq2,zq3,zq4,zq5,zq6,Envs,Gens,Vars,za0,za1,za2,za3,za4,eff,AV.ptrOf,AV.tokOf,za5,za6,AV.weaks,AV.weak1,za7,za8,zb1,zb2,zb3,zb4,zb5,zb6,zb7,zb8,zb9,zc0,zc1,zc2,zc3,zc4,zc5,zc6,zc7,zc8,zc9,zd0,zd1,zd2,zd3,zd4,zd5,zd6,zd7,zd8,zd9,ze0,ze1,ze2,ze3,ze4,ze5,ze6,ze7,ze8,ze9,zf0,zf1,zf2,zf3,zf4,zf5,zf6,zf7,zf8,zf9,zg0,zg1,zg2,zg3,zg4,zg5,zg6,zg7,zg8,zg9,zh0,zh1,zh2,zh3,zh4,zh5,zh6,zh7,zh8,zh9,zi0,zi1,zi2,zi3,zi4,zi5,zi6,wSnil,zi7,zi8,zi9,zj0,zj1,zj2,zj3,zj4,zj5,zj6,zj7,zj8,AV.flatB,AV.flatBs,zj9,zk0,zk1,zk2,zk3,zk4,zk5,zk6,act,AV.cells,AV.mk,AV.asSl,AV.asInt,AV.vslOf,wIdx,zk7,zk8,zk9,zl0,zl1,zl2,zl3,st0,env0,zl4,zl5,zl6,Nat.reduceAdd,Nat.reduceEqDiff,Nat.reduceLeDiff,↓reduceIte,AV.ofV,unV,← decide_not,zl7,zl8,zl9,zm0,zm1,zm2,zm3,zm4,zm5,zm6,zm7,zm8,zm9,zn0,zn1,zn2,zn3,zn4,zn5,zn6,zn7,reduceCtorEq,rowsOf,pureCells,AV.weak,AV.pureB,AV.pureBs,zn8,zn9,zo0,zo1,zo2,Nat.reduceBEq,zo3,zo4,zo5,zo6,zo7,zo8,zo9,zp0,zp1]
  have hg23 : 1 ≤ g 23 + 1 := by omega
  generalize g 23 + 1 = k23 at hg23 ⊢
  clear e1 e3 e7 e8 e9 e19 e20 e22 g3 g8 g20 v3 v8 v20
  rintro e g v tg tp x' ⟨e7, e8, e9, e22, e23, e24, e25, -⟩ ⟨g8, g23, -⟩ ⟨v8, v23, -⟩
  refine AW_seq ?_
  simp -implicitDefEqProofs only [r_pandectlaw19_PatchLists_2,zq2,e7,e8,e9,e22,e23,e24,e25,g8,g23,v8,v23,PatchS.row,Item.row,fills,splice,zq7,zq8,zb0,za9,za0,za1,za2,za3,za4,eff,AV.ptrOf,AV.tokOf,za5,za6,AV.weaks,AV.weak1,za7,za8,zb1,zb2,zb3,zb4,zb5,zb6,zb7,zb8,zb9,zc0,zc1,zc2,zc3,zc4,zc5,zc6,zc7,zc8,zc9,zd0,zd1,zd2,zd3,zd4,zd5,zd6,zd7,zd8,zd9,ze0,ze1,ze2,ze3,ze4,ze5,ze6,ze7,ze8,ze9,zf0,zf1,zf2,zf3,zf4,zf5,zf6,zf7,zf8,zf9,zg0,zg1,zg2,zg3,zg4,zg5,zg6,zg7,zg8,zg9,zh0,zh1,zh2,zh3,zh4,zh5,zh6,zh7,zh8,zh9,zi0,zi1,zi2,zi3,zi4,zi5,zi6,wSnil,zi7,zi8,zi9,zj0,zj1,zj2,zj3,zj4,zj5,zj6,zj7,zj8,AV.flatB,AV.flatBs,zj9,zk0,zk1,zk2,zk3,zk4,zk5,zk6,act,AV.cells,AV.mk,AV.asSl,AV.asInt,AV.vslOf,wIdx,zk7,zk8,zk9,zl0,zl1,zl2,zl3,st0,env0,zl4,zl5,zl6,Nat.reduceAdd,Nat.reduceEqDiff,Nat.reduceLeDiff,↓reduceIte,AV.ofV,unV,← decide_not,zl7,zl8,zl9,zm0,zm1,zm2,zm3,zm4,zm5,zm6,zm7,zm8,zm9,zn0,zn1,zn2,zn3,zn4,zn5,zn6,zn7,reduceCtorEq,rowsOf,pureCells,AV.weak,AV.pureB,AV.pureBs,zn8,zn9,zo0,zo1,zo2,Nat.reduceBEq,zo3,zo4,zo5,zo6,zo7,zo8,zo9,zp0,zp1]
  refine ⟨hg23, hg8, ?_⟩
  refine wCall_imm (same_con L d d (by omega)) rfl (AV.les2_refl _) ?_
  have o9 : (d = d) = True := eq_self d
  simp -implicitDefEqProofs only [o9,zq2,e7,e8,e9,e22,e23,e24,e25,g8,g23,v8,v23,PatchS.row,Item.row,fills,splice,zq7,zq8,zb0,za9,za0,za1,za2,za3,za4,eff,AV.ptrOf,AV.tokOf,za5,za6,AV.weaks,AV.weak1,za7,za8,zb1,zb2,zb3,zb4,zb5,zb6,zb7,zb8,zb9,zc0,zc1,zc2,zc3,zc4,zc5,zc6,zc7,zc8,zc9,zd0,zd1,zd2,zd3,zd4,zd5,zd6,zd7,zd8,zd9,ze0,ze1,ze2,ze3,ze4,ze5,ze6,ze7,ze8,ze9,zf0,zf1,zf2,zf3,zf4,zf5,zf6,zf7,zf8,zf9,zg0,zg1,zg2,zg3,zg4,zg5,zg6,zg7,zg8,zg9,zh0,zh1,zh2,zh3,zh4,zh5,zh6,zh7,zh8,zh9,zi0,zi1,zi2,zi3,zi4,zi5,zi6,wSnil,zi7,zi8,zi9,zj0,zj1,zj2,zj3,zj4,zj5,zj6,zj7,zj8,AV.flatB,AV.flatBs,zj9,zk0,zk1,zk2,zk3,zk4,zk5,zk6,act,AV.cells,AV.mk,AV.asSl,AV.asInt,AV.vslOf,wIdx,zk7,zk8,zk9,zl0,zl1,zl2,zl3,st0,env0,zl4,zl5,zl6,Nat.reduceAdd,Nat.reduceEqDiff,Nat.reduceLeDiff,↓reduceIte,AV.ofV,unV,← decide_not,zl7,zl8,zl9,zm0,zm1,zm2,zm3,zm4,zm5,zm6,zm7,zm8,zm9,zn0,zn1,zn2,zn3,zn4,zn5,zn6,zn7,reduceCtorEq,rowsOf,pureCells,AV.weak,AV.pureB,AV.pureBs,zn8,zn9,zo0,zo1,zo2,Nat.reduceBEq,zo3,zo4,zo5,zo6,zo7,zo8,zo9,zp0,zp1]
  refine AW_code ?_
  simp -implicitDefEqProofs only [c_pandectlaw19_PatchLists,PatchS.row,Item.row,fills,splice,zq7,zq8,zb0,za9,za0,za1,za2,za3,za4,eff,AV.ptrOf,AV.tokOf,za5,za6,AV.weaks,AV.weak1,za7,za8,zb1,zb2,zb3,zb4,zb5,zb6,zb7,zb8,zb9,zc0,zc1,zc2,zc3,zc4,zc5,zc6,zc7,zc8,zc9,zd0,zd1,zd2,zd3,zd4,zd5,zd6,zd7,zd8,zd9,ze0,ze1,ze2,ze3,ze4,ze5,ze6,ze7,ze8,ze9,zf0,zf1,zf2,zf3,zf4,zf5,zf6,zf7,zf8,zf9,zg0,zg1,zg2,zg3,zg4,zg5,zg6,zg7,zg8,zg9,zh0,zh1,zh2,zh3,zh4,zh5,zh6,zh7,zh8,zh9,zi0,zi1,zi2,zi3,zi4,zi5,zi6,wSnil,zi7,zi8,zi9,zj0,zj1,zj2,zj3,zj4,zj5,zj6,zj7,zj8,AV.flatB,AV.flatBs,zj9,zk0,zk1,zk2,zk3,zk4,zk5,zk6,act,AV.cells,AV.mk,AV.asSl,AV.asInt,AV.vslOf,wIdx,zk7,zk8,zk9,zl0,zl1,zl2,zl3,st0,env0,zl4,zl5,zl6,Nat.reduceAdd,Nat.reduceEqDiff,Nat.reduceLeDiff,↓reduceIte,AV.ofV,unV,← decide_not,zl7,zl8,zl9,zm0,zm1,zm2,zm3,zm4,zm5,zm6,zm7,zm8,zm9,zn0,zn1,zn2,zn3,zn4,zn5,zn6,zn7,reduceCtorEq,rowsOf,pureCells,AV.weak,AV.pureB,AV.pureBs,zn8,zn9,zo0,zo1,zo2,Nat.reduceBEq,zo3,zo4,zo5,zo6,zo7,zo8,zo9,zp0,zp1,zp2,zp3,zp4,zp5,zp6,zp7,zp8,zp9,zq0,zq1]
end Go.Av

namespace Go.Av
open Go.ChangeShapes Go.WideShapes
/-- The types of a type's cells; none where its parts do not lie one behind the other. -/
def leaves (P : Program) : Nat → TypeId → Option (List TypeId)
  | 0, _ => none
  | n + 1, t =>
    match P.underlying t with
    | some (.struct fs) => (fs.toList.foldl (fun acc f => match acc, leaves P n f.type with | some a, some l => if f.offset = a.length ∧ l.length = P.cellsOf f.type then some (a ++ l) else none | _, _ => none) (some [])).bind fun a => if a.length = P.cellsOf t then some a else none
    | some (.array _ _) => none
    | _ => some [t]
section
variable {H : Type} {enc : TypeId × Value → H} {P : Program} {w : World} {base : Nat} {spare : Nat → Bool} {held : Bool}
theorem trod_leaf {n fuel : Nat} {t : TypeId} {cs : List Value} {x : DataW H × List MemPlace} (hns : ∀ fs, P.underlying t ≠ some (.struct fs)) (hna : ∀ k e, P.underlying t ≠ some (.array k e)) (h : DataW.trod enc P w base spare held fuel t cs = some x) : ∃ v, cs = [v] ∧ v.oneCell' = true := by
  cases fuel with
  | zero => simp [DataW.trod] at h
  | succ fuel =>
    unfold DataW.trod at h
    split at h
    all_goals first
      | exact ⟨_, rfl, rfl⟩
      | (exfalso; exact hns _ ‹_›)
      | (exfalso; exact hna _ _ ‹_›)
      | (cases h; done)
theorem trod_leaves : ∀ {n fuel : Nat} {t : TypeId} {ts : List TypeId} {cs : List Value} {x : DataW H × List MemPlace}, leaves P n t = some ts → DataW.trod enc P w base spare held fuel t cs = some x → cs.length = ts.length ∧ ∀ (j : Nat) (u : TypeId) (v : Value), ts[j]? = some u → cs[j]? = some v → v.oneCell' = true ∧ ∃ (m : Nat) (y : DataW H × List MemPlace), DataW.trod enc P w base spare held m u [v] = some y ∧ ∀ z ∈ y.1.weights P u, z ∈ x.1.weights P t := by
  intro n
  induction n with
  | zero => intro fuel t ts cs x h; simp [leaves] at h
  | succ n ih =>
    intro fuel t ts cs x h ht
    unfold leaves at h
    split at h
    · rename_i fs hu
      obtain ⟨xs, k, rfl, rfl, hl, hxl, hf⟩ := DataW.trod_struct hu ht
      obtain ⟨a, ha, hb⟩ := Option.bind_eq_some_iff.1 h
      split at hb
      · rename_i hal
        injection hb with hb
        subst hb
        refine ⟨hl.trans hal.symm, ?_⟩
        have key : ∀ (l : List Field), (∀ f ∈ l, f ∈ fs.toList) → ∀ (acc r : List TypeId), (∀ (j : Nat) (u : TypeId) (v : Value), acc[j]? = some u → cs[j]? = some v → v.oneCell' = true ∧ ∃ (m : Nat) (y : DataW H × List MemPlace), DataW.trod enc P w base spare held m u [v] = some y ∧ ∀ z ∈ y.1.weights P u, z ∈ (DataW.agg (xs.map (·.1))).weights P t) →
            l.foldl (fun acc f => match acc, leaves P n f.type with | some a, some l => if f.offset = a.length ∧ l.length = P.cellsOf f.type then some (a ++ l) else none | _, _ => none) (some acc) = some r →
            (∀ (j : Nat) (u : TypeId) (v : Value), r[j]? = some u → cs[j]? = some v → v.oneCell' = true ∧ ∃ (m : Nat) (y : DataW H × List MemPlace), DataW.trod enc P w base spare held m u [v] = some y ∧ ∀ z ∈ y.1.weights P u, z ∈ (DataW.agg (xs.map (·.1))).weights P t) := by
          intro l
          induction l with
          | nil =>
            intro _ acc r hacc hr
            simp only [List.foldl_nil,Option.some.injEq] at hr
            subst hr
            exact hacc
          | cons f l ihl =>
            intro hm acc r hacc hr
            rw [List.foldl_cons] at hr
            have hnone : ∀ l : List Field, l.foldl (fun acc f => match acc, leaves P n f.type with | some a, some l => if f.offset = a.length ∧ l.length = P.cellsOf f.type then some (a ++ l) else none | _, _ => none) none = none := by
              intro l
              induction l with
              | nil => rfl
              | cons f l ih => rw [List.foldl_cons]; exact ih
            cases hlv : leaves P n f.type with
            | none =>
              rw [hlv] at hr
              simp only [hnone] at hr
              cases hr
            | some lf =>
              rw [hlv] at hr
              simp only at hr
              split at hr
              · rename_i hoff
                refine ihl (fun g hg => hm g (.tail _ hg)) _ _ ?_ hr
                intro j u v hj hv
                rcases Nat.lt_or_ge j acc.length with hlt | hge
                · rw [List.getElem?_append_left hlt] at hj
                  exact hacc j u v hj hv
                · rw [List.getElem?_append_right hge] at hj
                  obtain ⟨i, hi⟩ := List.mem_iff_getElem?.1 (hm f (.head _))
                  have hfi := hf i f (by rw [← Array.getElem?_toList]; exact hi)
                  have hix : i < xs.length := by
                    rw [hxl]
                    have := (List.getElem?_eq_some_iff.1 hi).1
                    simpa using this
                  rw [List.getElem?_eq_getElem hix] at hfi
                  obtain ⟨_, hq⟩ := ih hlv hfi
                  have hsub : ∀ z ∈ (xs[i]).1.weights P f.type, z ∈ (DataW.agg (xs.map (·.1))).weights P t := by
                    intro z hz
                    unfold DataW.weights
                    rw [hu]
                    simp only
                    refine DataW.weights_mem_each (j := i) (t := f.type) (d := (xs[i]).1) ?_ ?_ z hz
                    · rw [List.getElem?_map, hi]; rfl
                    · rw [List.getElem?_map, List.getElem?_eq_getElem hix]; rfl
                  have hq2 : ∀ (v : Value), lf[j - acc.length]? = some u → ((cs.drop f.offset).take (P.cellsOf f.type))[j - acc.length]? = some v → v.oneCell' = true ∧ ∃ (m : Nat) (y : DataW H × List MemPlace), DataW.trod enc P w base spare held m u [v] = some y ∧ ∀ z ∈ y.1.weights P u, z ∈ (DataW.agg (xs.map (·.1))).weights P t := fun v h1 h2 => by
                    obtain ⟨o1, m, y, o2, o3⟩ := hq (j - acc.length) u v h1 h2
                    exact ⟨o1, m, y, o2, fun z hz => hsub z (o3 z hz)⟩
                  refine hq2 v hj ?_
                  have hjl := (List.getElem?_eq_some_iff.1 hj).1
                  rw [List.getElem?_take, if_pos (by omega), List.getElem?_drop, hoff.1]
                  rw [show acc.length + (j - acc.length) = j by omega]
                  exact hv
              · rw [hnone] at hr
                cases hr
        exact key fs.toList (fun _ h => h) [] a (fun j u v hj => by simp at hj) ha
      · cases hb
    · cases h
    · rename_i hns hna
      injection h with h
      subst h
      obtain ⟨v, rfl, ho⟩ := trod_leaf (n := 0) (fun fs hq => hns fs hq) (fun k e hq => hna k e hq) ht
      refine ⟨rfl, fun j u v' hj hv => ?_⟩
      cases j with
      | zero =>
        simp at hj hv
        subst hj; subst hv
        exact ⟨ho, fuel, x, ht, fun z hz => hz⟩
      | succ j => simp at hj
end
end Go.Av

namespace Go.Av
open Go.ChangeShapes Go.WideShapes
section
variable {H : Type} {enc : TypeId × Value → H} {P : Program} {w : World} {base : Nat} {spare : Nat → Bool} {held : Bool}
def allG (w : World) : Addr → Prop := fun a => a.block < w.heap.size
theorem cell_below {w : World} {a : Addr} {v : Value} (h : w.cell? a = some v) : a.block < w.heap.size := by
  unfold World.cell? at h
  split at h
  · rename_i hq
    exact (Array.getElem?_eq_some_iff.1 hq).1
  · cases h
theorem rowAt_imm {k : K} {b : Nat} : ∀ (vs : List Value) (o : Nat), (∀ (j : Nat) v, vs[j]? = some v → k.ic ⟨b, o + j, none⟩ v ∧ v.oneCell' = true) → rowAt k (vs.map .imm) b o
  | [], _, _ => by simp [rowAt]
  | v :: vs, o, h => by
    simp only [zn5,rowAt]
    have h0 := h 0 v rfl
    refine ⟨⟨v, h0.1, by simp only [R]; exact ⟨trivial, h0.2⟩, h0.2⟩, rowAt_imm vs (o + 1) fun j u hu => ?_⟩
    have := h (j + 1) u hu
    rw [show o + 1 + j = o + (j + 1) by omega]
    exact this
theorem rowsAt_rows {k : K} {b sz : Nat} : ∀ (rows : List (List AV)) (o : Nat), (∀ (i : Nat) r, rows[i]? = some r → rowAt k r b (o + i * sz) ∧ r.length = sz) → rowsAt k sz rows b o
  | [], _, _ => by simp [rowsAt]
  | r :: rows, o, h => by
    simp only [rowsAt]
    have h0 := h 0 r rfl
    rw [Nat.zero_mul, Nat.add_zero] at h0
    refine ⟨h0.1, h0.2, rowsAt_rows rows (o + sz) fun i r' hr => ?_⟩
    have := h (i + 1) r' hr
    rw [show o + sz + i * sz = o + (i + 1) * sz by rw [Nat.add_mul]; omega]
    exact this
theorem weights_all {e : TypeId} {d : DataW H} {z : Nat} : ∀ {l : List (DataW H)}, d ∈ l → z ∈ d.weights P e → z ∈ DataW.weightsAll P e l
  | a :: l, hd, hz => by
    simp only [DataW.weightsAll,List.mem_append]
    rcases List.mem_cons.1 hd with rfl | hd
    · exact .inl hz
    · exact .inr (weights_all hd hz)
/-- A slice of structs: its elements' cells, one-celled, each of its leaf's type. -/
theorem slice_rows {t e : TypeId} {ts : List TypeId} {n fuel : Nat} {v : Value} {x : DataW H × List MemPlace} (ht : P.underlying t = some (.slice e)) (hl : leaves P n e = some ts) (hc : P.cellsOf e = ts.length) (hpos : 0 < ts.length)
    (h : DataW.trod enc P w base spare held fuel t [v] = some x) :
    ∃ css : List (List Value), R (KG (allG w) w) (.sl ts.length .ro (css.map fun cs => cs.map .imm)) v ∧ (∀ cs ∈ css, cs.length = ts.length ∧ ∀ (j : Nat) (u : TypeId) (c : Value), ts[j]? = some u → cs[j]? = some c → c.oneCell' = true ∧ ∃ (m : Nat) (y : DataW H × List MemPlace), DataW.trod enc P w base spare held m u [c] = some y ∧ (∀ z ∈ y.1.weights P u, z ∈ x.1.weights P t)) ∧ (css.length = 0 ∨ ∃ q, css.length ≤ q ∧ q * P.bytesOf e ∈ x.1.weights P t) := by
  rcases Go.Deep.open_slice ht h with ⟨hcs, _⟩ | ⟨a, len, cap, m, n', D, Pl, hcs, _, hle, hcap, hm, hxe, hx⟩
  · injection hcs with hcs _
    subst hcs
    refine ⟨[], ?_, fun _ h => (by cases h), .inl rfl⟩
    simp only [R,zn6]
    exact ⟨none, 0, rfl, Nat.le_refl _, Nat.zero_le _, fun h => absurd rfl h, trivial⟩
  · injection hcs with hcs _
    subst hcs
    have hlm : len ≤ m := by rw [hm]; split <;> omega
    obtain ⟨C, hC⟩ := Go.Deep.choose_lt (α := List Value) (n := len) (p := fun i cs => w.cells? base (a.add (i * P.cellsOf e)) (P.cellsOf e) = some cs ∧ DataW.trod enc P w base spare held n' e cs = some (D i, Pl i)) fun i hi => hx i (by omega)
    refine ⟨(List.range len).map C, ?_, ?_, .inr ⟨m, by simp; exact hlm, ?_⟩⟩
    · simp only [R]
      refine ⟨some a, cap, by simp, by simpa using hle, hcap, fun hne => ?_, trivial⟩
      have hlen : 0 < len := by
        rcases Nat.eq_zero_or_pos len with h0 | h0
        · subst h0; exact absurd rfl hne
        · exact h0
      obtain ⟨gb, go, gs⟩ := a
      obtain ⟨h1, h2⟩ := hC 0 hlen
      obtain ⟨_, hl0, hcell⟩ := World.cells?_some h1
      have hgs : gs = none := by
        have hq := hcell 0 (by rw [hc]; omega)
        rw [List.getElem?_eq_getElem (by omega)] at hq
        have := World.cell?_spot hq
        simpa [Addr.add] using this
      subst hgs
      refine ⟨gb, go, rfl, rowsAt_rows _ _ fun i r hr => ?_⟩
      rw [List.map_map, List.getElem?_map] at hr
      obtain ⟨i', hi', rfl⟩ := Option.map_eq_some_iff.1 hr
      have hii : i' = i ∧ i < len := by
        rw [List.getElem?_eq_some_iff] at hi'
        obtain ⟨p1, p2⟩ := hi'
        simp at p1 p2
        exact ⟨p2.symm, p1⟩
      obtain ⟨rfl, hi⟩ := hii
      obtain ⟨g1, g2⟩ := hC i' hi
      obtain ⟨_, hl1, hcell'⟩ := World.cells?_some g1
      obtain ⟨q1, q2⟩ := trod_leaves hl g2
      refine ⟨?_, by simp [q1]⟩
      refine rowAt_imm _ _ fun j c hj => ?_
      have hjl : j < (C i').length := (List.getElem?_eq_some_iff.1 hj).1
      have hce := hcell' j (by rw [hc]; omega)
      rw [hj] at hce
      have hat : ((⟨gb, go, none⟩ : Addr).add (i' * P.cellsOf e)).add j = ⟨gb, go + i' * ts.length + j, none⟩ := by
        have plain : ∀ i, (⟨gb, go, none⟩ : Addr).add i = ⟨gb, go + i, none⟩ := fun i => by
          unfold Addr.add
          split
          · rename_i h0; rw [h0]; rfl
          · rfl
        rw [Go.Deep.add_add, hc, plain, Nat.add_assoc]
      rw [hat] at hce
      obtain ⟨u, hu⟩ : ∃ u, ts[j]? = some u := ⟨_, List.getElem?_eq_getElem (by omega)⟩
      exact ⟨⟨rfl, hce, cell_below hce⟩, (q2 j u c hu hj).1⟩
    · intro cs hcs
      obtain ⟨i, hi, rfl⟩ := List.mem_map.1 hcs
      have hi := List.mem_range.1 hi
      obtain ⟨l1, l2⟩ := trod_leaves hl (hC i hi).2
      refine ⟨l1, fun j u c h1 h2 => ?_⟩
      obtain ⟨o1, m, y, o2, o3⟩ := l2 j u c h1 h2
      refine ⟨o1, m, y, o2, fun z hz => ?_⟩
      have := o3 z hz
      rw [hxe]
      unfold DataW.weights
      rw [ht]
      simp only
      refine List.mem_cons_of_mem _ (List.mem_append_left _ ?_)
      exact weights_all (List.mem_map.2 ⟨i, List.mem_range.2 hi, rfl⟩) this
    · rw [hxe]
      unfold DataW.weights
      rw [ht]
      simp only [zq9,List.length_range]
      rw [show len + (m - len) = m by omega]
      exact List.mem_cons_self
end
end Go.Av

namespace Go.Av
open Go.ChangeShapes Go.WideShapes
def tsItem : List TypeId := [3, 9, 9, 9, 9, 9, 4]
def tsPatch : List TypeId := [3, 9, 9, 9, 9, 3, 9, 9, 9, 9, 9, 4, 3, 9, 9]
theorem leavesItem : leaves Go.Proofs.Try.prog 20 26 = some tsItem := by kernel_rfl
theorem leavesPatch : leaves Go.Proofs.Try.prog 20 28 = some tsPatch := by kernel_rfl
section
variable {H : Type} {enc : TypeId × Value → H} {w : World} {base : Nat} {spare : Nat → Bool} {held : Bool} {Ws : List Nat}
/-- A leaf: one cell, read, its weights among the given ones. -/
def Leaf (enc : TypeId × Value → H) (w : World) (base : Nat) (spare : Nat → Bool) (held : Bool) (Ws : List Nat) (u : TypeId) (v : Value) : Prop :=
  v.oneCell' = true ∧ ∃ (m : Nat) (y : DataW H × List MemPlace), DataW.trod enc Go.Proofs.Try.prog w base spare held m u [v] = some y ∧ ∀ z ∈ y.1.weights Go.Proofs.Try.prog u, z ∈ Ws
theorem leaf_int {c : Value} (h : Leaf enc w base spare held Ws 3 c) : ∃ n, c = .int .i64 n := by
  obtain ⟨_, m, y, h, _⟩ := h
  obtain ⟨n, h1, _⟩ := DataW.trod_int Go.Proofs.Try.underlying3 h
  injection h1 with h1
  exact ⟨n, h1⟩
theorem leaf_bool {c : Value} (h : Leaf enc w base spare held Ws 4 c) : ∃ n, c = .bool n := by
  obtain ⟨_, m, y, h, _⟩ := h
  obtain ⟨n, h1, _⟩ := DataW.trod_bool Go.Proofs.Try.underlying4 h
  injection h1 with h1
  exact ⟨n, h1⟩
theorem leaf_str {c : Value} (hW : ∀ z ∈ Ws, z ≤ reachBytes) (h : Leaf enc w base spare held Ws 9 c) : ∃ n : ByteArray, c = .string n ∧ n.size ≤ 140737488355328 := by
  obtain ⟨_, m, y, h, hy⟩ := h
  obtain ⟨n, h1, h2, _⟩ := DataW.trod_string Go.Proofs.Try.underlying9 h
  injection h1 with h1
  subst h2
  have := hW _ (hy n.data.toList.length (show n.data.toList.length ∈ [n.data.toList.length] from List.mem_singleton.2 rfl))
  have e : n.data.toList.length = n.size := by rw [Array.length_toList]; rfl
  have hr : reachBytes < 2 ^ 47 := reachBytes_lt
  exact ⟨n, h1, by omega⟩
theorem item_of {cs : List Value} (hW : ∀ z ∈ Ws, z ≤ reachBytes) (hl : cs.length = tsItem.length) (h : ∀ (j : Nat) (u : TypeId) (c : Value), tsItem[j]? = some u → cs[j]? = some c → Leaf enc w base spare held Ws u c) : ∃ x : Item, cs.map AV.imm = x.row ∧ BigI x := by
  match cs, hl with
  | [c0, c1, c2, c3, c4, c5, c6], hl =>
    obtain ⟨n0, rfl⟩ := leaf_int (h 0 3 c0 rfl rfl)
    obtain ⟨n1, rfl, s1⟩ := leaf_str hW (h 1 9 c1 rfl rfl)
    obtain ⟨n2, rfl, s2⟩ := leaf_str hW (h 2 9 c2 rfl rfl)
    obtain ⟨n3, rfl, s3⟩ := leaf_str hW (h 3 9 c3 rfl rfl)
    obtain ⟨n4, rfl, s4⟩ := leaf_str hW (h 4 9 c4 rfl rfl)
    obtain ⟨n5, rfl, s5⟩ := leaf_str hW (h 5 9 c5 rfl rfl)
    obtain ⟨n6, rfl⟩ := leaf_bool (h 6 4 c6 rfl rfl)
    exact ⟨⟨n0, n1, n2, n3, n4, n5, n6⟩, rfl, s1, s2, s3, s4, s5⟩
theorem patch_of {cs : List Value} (hW : ∀ z ∈ Ws, z ≤ reachBytes) (hl : cs.length = tsPatch.length) (h : ∀ (j : Nat) (u : TypeId) (c : Value), tsPatch[j]? = some u → cs[j]? = some c → Leaf enc w base spare held Ws u c) : ∃ x : PatchS, cs.map AV.imm = x.row ∧ BigP x := by
  match cs, hl with
  | [c0, c1, c2, c3, c4, c5, c6, c7, c8, c9, c10, c11, c12, c13, c14], hl =>
    obtain ⟨n0, rfl⟩ := leaf_int (h 0 3 c0 rfl rfl)
    obtain ⟨n1, rfl, s1⟩ := leaf_str hW (h 1 9 c1 rfl rfl)
    obtain ⟨n2, rfl, s2⟩ := leaf_str hW (h 2 9 c2 rfl rfl)
    obtain ⟨n3, rfl, s3⟩ := leaf_str hW (h 3 9 c3 rfl rfl)
    obtain ⟨n4, rfl, s4⟩ := leaf_str hW (h 4 9 c4 rfl rfl)
    obtain ⟨n5, rfl⟩ := leaf_int (h 5 3 c5 rfl rfl)
    obtain ⟨n6, rfl, s6⟩ := leaf_str hW (h 6 9 c6 rfl rfl)
    obtain ⟨n7, rfl, s7⟩ := leaf_str hW (h 7 9 c7 rfl rfl)
    obtain ⟨n8, rfl, s8⟩ := leaf_str hW (h 8 9 c8 rfl rfl)
    obtain ⟨n9, rfl, s9⟩ := leaf_str hW (h 9 9 c9 rfl rfl)
    obtain ⟨n10, rfl, s10⟩ := leaf_str hW (h 10 9 c10 rfl rfl)
    obtain ⟨n11, rfl⟩ := leaf_bool (h 11 4 c11 rfl rfl)
    obtain ⟨n12, rfl⟩ := leaf_int (h 12 3 c12 rfl rfl)
    obtain ⟨n13, rfl, s13⟩ := leaf_str hW (h 13 9 c13 rfl rfl)
    obtain ⟨n14, rfl, s14⟩ := leaf_str hW (h 14 9 c14 rfl rfl)
    exact ⟨⟨n0, n1, n2, n3, n4, ⟨n5, n6, n7, n8, n9, n10, n11⟩, n12, n13, n14⟩, rfl, s1, s2, s3, s4, ⟨s6, s7, s8, s9, s10⟩, s13, s14⟩
theorem map_choose {α β : Type} {p : α → β → Prop} : ∀ l : List α, (∀ a ∈ l, ∃ b, p a b) → ∃ m : List β, l.length = m.length ∧ ∀ (i : Nat) a b, l[i]? = some a → m[i]? = some b → p a b
  | [], _ => ⟨[], rfl, fun i a b h => by simp at h⟩
  | a :: l, h => by
    obtain ⟨b, hb⟩ := h a (.head _)
    obtain ⟨m, hm, hp⟩ := map_choose l fun x hx => h x (.tail _ hx)
    refine ⟨b :: m, by simp [hm], fun i x y hx hy => ?_⟩
    cases i with
    | zero => simp at hx hy; subst hx; subst hy; exact hb
    | succ i => exact hp i x y (by simpa using hx) (by simpa using hy)
theorem items_of {fuel : Nat} {v : Value} {x : DataW H × List MemPlace} (hW : ∀ z ∈ x.1.weights Go.Proofs.Try.prog 22, z ≤ reachBytes) (h : DataW.trod enc Go.Proofs.Try.prog w base spare held fuel 22 [v] = some x) :
    ∃ l : List Item, R (KG (allG w) w) (.sl 7 .ro (l.map Item.row)) v ∧ (∀ y ∈ l, BigI y) ∧ l.length ≤ 140737488355328 := by
  obtain ⟨css, hR, hc, hq⟩ := slice_rows Go.Proofs.Try.underlying22 leavesItem (by kernel_rfl) (by decide) h
  obtain ⟨l, hlen, ha⟩ := map_choose (p := fun (cs : List Value) (k : Item) => cs.map AV.imm = k.row ∧ BigI k) css fun cs hcs => item_of hW (hc cs hcs).1 (hc cs hcs).2
  refine ⟨l, ?_, ?_, ?_⟩
  · rw [show (7 : Nat) = tsItem.length from rfl, show l.map Item.row = css.map fun cs => cs.map .imm from ?_]
    · exact hR
    · refine List.ext_getElem (by simp [hlen]) fun i h1 h2 => ?_
      simp only [List.getElem_map]
      simp at h1 h2
      exact (ha i _ _ (List.getElem?_eq_getElem h2) (List.getElem?_eq_getElem h1)).1.symm
  · intro y hy
    obtain ⟨i, hi, rfl⟩ := List.mem_iff_getElem.1 hy
    exact (ha i _ _ (List.getElem?_eq_getElem (by omega)) (List.getElem?_eq_getElem hi)).2
  · rw [← hlen]
    rcases hq with hq | ⟨q, q1, q2⟩
    · omega
    · have e : Go.Proofs.Try.prog.bytesOf 26 = 96 := by kernel_rfl
      rw [e] at q2
      have := hW _ q2
      have hr : reachBytes < 2 ^ 47 := reachBytes_lt
      omega
theorem Rs_imms {k : K} : ∀ (vs : List Value), (∀ v ∈ vs, v.oneCell' = true) → Rs k (vs.map .imm) vs
  | [], _ => by simp [Rs]
  | v :: vs, h => by
    simp only [zn5,Rs,R]
    exact ⟨v, vs, rfl, ⟨rfl, h v (.head _)⟩, h v (.head _), Rs_imms vs fun u hu => h u (.tail _ hu)⟩
theorem patch_val {fuel : Nat} {cs : Array Value} {x : DataW H × List MemPlace} (hW : ∀ z ∈ x.1.weights Go.Proofs.Try.prog 28, z ≤ reachBytes) (h : DataW.trod enc Go.Proofs.Try.prog w base spare held fuel 28 (Value.agg cs).cells.toList = some x) :
    ∃ p : PatchS, R (KG (allG w) w) (.agg p.row) (.agg cs) ∧ BigP p := by
  have e : (Value.agg cs).cells.toList = cs.toList := rfl
  rw [e] at h
  obtain ⟨h1, h2⟩ := trod_leaves leavesPatch h
  obtain ⟨p, hp, hb⟩ := patch_of hW h1 h2
  refine ⟨p, ?_, hb⟩
  simp only [R]
  refine ⟨cs, rfl, ?_⟩
  rw [← hp]
  refine Rs_imms _ fun v hv => ?_
  obtain ⟨j, hj, rfl⟩ := List.mem_iff_getElem.1 hv
  exact (h2 j _ _ (List.getElem?_eq_getElem (by omega)) (List.getElem?_eq_getElem hj)).1
theorem code_val {fuel : Nat} {cs : Array Value} {x : DataW H × List MemPlace} (hW : ∀ z ∈ x.1.weights Go.Proofs.Try.prog 24, z ≤ reachBytes) (h : DataW.trod enc Go.Proofs.Try.prog w base spare held fuel 24 (Value.agg cs).cells.toList = some x) :
    ∃ l : List Item, R (KG (allG w) w) (.agg [.sl 7 .ro (l.map Item.row)]) (.agg cs) ∧ (∀ y ∈ l, BigI y) ∧ l.length ≤ 140737488355328 := by
  have e : (Value.agg cs).cells.toList = cs.toList := rfl
  rw [e] at h
  obtain ⟨fs, hu, hfs, hcell⟩ : ∃ fs : Array Field, Go.Proofs.Try.prog.underlying 24 = some (.struct fs) ∧ (∃ f, fs[0]? = some f ∧ f.type = 22 ∧ f.offset = 0) ∧ Go.Proofs.Try.prog.cellsOf 24 = 1 := ⟨_, Go.Proofs.Try.underlying24, ⟨_, rfl, rfl, rfl⟩, by kernel_rfl⟩
  obtain ⟨f, f1, f2, f3⟩ := hfs
  obtain ⟨xs, k, rfl, rfl, hl, hxl, hf⟩ := DataW.trod_struct hu h
  rw [hcell] at hl
  have hf0 := hf 0 f f1
  rw [f2, f3] at hf0
  have hc22 : Go.Proofs.Try.prog.cellsOf 22 = 1 := by kernel_rfl
  rw [hc22] at hf0
  obtain ⟨c, hc⟩ : ∃ c, cs.toList = [c] := List.length_eq_one_iff.1 hl
  rw [hc] at hf0
  have hx0 : 0 < xs.length := by
    rw [hxl]
    exact (Array.getElem?_eq_some_iff.1 f1).1
  rw [List.getElem?_eq_getElem hx0] at hf0
  obtain ⟨l, l1, l2, l3⟩ := items_of (x := xs[0]) (fun z hz => hW z (by
    unfold DataW.weights
    rw [hu]
    simp only
    refine DataW.weights_mem_each (j := 0) (t := 22) (d := (xs[0]).1) ?_ ?_ z hz
    · rw [List.getElem?_map, show fs.toList[0]? = some f from by rw [Array.getElem?_toList]; exact f1]; simp [f2]
    · rw [List.getElem?_map, List.getElem?_eq_getElem hx0]; rfl)) hf0
  refine ⟨l, ?_, l2, l3⟩
  simp only [R]
  refine ⟨cs, rfl, ?_⟩
  rw [hc]
  simp only [Rs]
  refine ⟨c, [], rfl, l1, ?_, rfl⟩
  simp only [R] at l1
  obtain ⟨A, cc, rfl, -⟩ := l1
  rfl
/-- A call that answers true, as the row's frame wants it. -/
theorem frame_of {P : Program} {f : FuncId} {args : List AV} {vs : List Value} (hc : PCall P f args (.imm (.bool true))) (hg : Ground P w) (hr : Rt (KG (allG w) w) args vs) : Calls P f vs.toArray w fun e w' => e = .returned (.bool true) ∧ Go.RowKit.Below w.heap.size w w' := by
  refine (hc (allG w) w vs (fun a h => h) hg hr).mono ?_
  rintro e w' ⟨v, o, τ, rfl, hb, _, hR⟩
  simp only [R] at hR
  exact ⟨by rw [hR.1], hb⟩
end
end Go.Av

namespace Go.Av
open Go.ChangeShapes Go.WideShapes
section
variable {H : Type} {enc : TypeId × Value → H} {w : World} {base : Nat} {spare : Nat → Bool} {held : Bool}
theorem patches_of {fuel : Nat} {v : Value} {x : DataW H × List MemPlace} (hW : ∀ z ∈ x.1.weights Go.Proofs.Try.prog 44, z ≤ reachBytes) (h : DataW.trod enc Go.Proofs.Try.prog w base spare held fuel 44 [v] = some x) :
    ∃ l : List PatchS, R (KG (allG w) w) (.sl 15 .ro (l.map PatchS.row)) v ∧ (∀ y ∈ l, BigP y) ∧ l.length ≤ 140737488355328 := by
  obtain ⟨css, hR, hc, hq⟩ := slice_rows Go.Proofs.Try.underlying44 leavesPatch (by kernel_rfl) (by decide) h
  obtain ⟨l, hlen, ha⟩ := map_choose (p := fun (cs : List Value) (k : PatchS) => cs.map AV.imm = k.row ∧ BigP k) css fun cs hcs => patch_of hW (hc cs hcs).1 (hc cs hcs).2
  refine ⟨l, ?_, ?_, ?_⟩
  · rw [show (15 : Nat) = tsPatch.length from rfl, show l.map PatchS.row = css.map fun cs => cs.map .imm from ?_]
    · exact hR
    · refine List.ext_getElem (by simp [hlen]) fun i h1 h2 => ?_
      simp only [List.getElem_map]
      simp at h1 h2
      exact (ha i _ _ (List.getElem?_eq_getElem h2) (List.getElem?_eq_getElem h1)).1.symm
  · intro y hy
    obtain ⟨i, hi, rfl⟩ := List.mem_iff_getElem.1 hy
    exact (ha i _ _ (List.getElem?_eq_getElem (by omega)) (List.getElem?_eq_getElem hi)).2
  · rw [← hlen]
    rcases hq with hq | ⟨q, q1, q2⟩
    · omega
    · have e : 1 ≤ Go.Proofs.Try.prog.bytesOf 28 := of_decide_eq_true (by kernel_rfl)
      have := hW _ q2
      have hr : reachBytes < 2 ^ 47 := reachBytes_lt
      have := Nat.le_mul_of_pos_right q e
      omega
end
end Go.Av

namespace Go.Proofs
open Go.Shelf
def Try.laysM143_ren : Go.Shelf.Ren := ⟨fun | 143 => 82 | 219 => 99 | 217 => 121 | 225 => 122 | 224 => 123 | 267 => 124 | 266 => 135 | 314 => 136 | n => n, fun | 9 => 9 | 3 => 3 | 4 => 4 | 5 => 5 | 46 => 112 | 146 => 135 | 51 => 128 | n => n, fun | 1 => 0 | n => n⟩
theorem Try.laysM143 : Go.Proofs.LaysM.n143 Try.prog Try.laysM143_ren := {
  mixed := by kernel_rfl
  f143 := Try.func82.trans (congrArg some (by kernel_rfl))
  f217 := Try.func121.trans (congrArg some (by kernel_rfl))
  f219 := Try.func99.trans (congrArg some (by kernel_rfl))
  f224 := Try.func123.trans (congrArg some (by kernel_rfl))
  f225 := Try.func122.trans (congrArg some (by kernel_rfl))
  f266 := Try.func135.trans (congrArg some (by kernel_rfl))
  f267 := Try.func124.trans (congrArg some (by kernel_rfl))
  f314 := Try.func136.trans (congrArg some (by kernel_rfl))
  t3 := Try.underlying3
  a3 := Try.isAgg3
  z3 := Try.sizeOf3
  v3 := Try.zeroValue3
  t4 := Try.underlying4
  a4 := Try.isAgg4
  z4 := Try.sizeOf4
  v4 := Try.zeroValue4
  t5 := Try.underlying5
  a5 := Try.isAgg5
  z5 := Try.sizeOf5
  v5 := Try.zeroValue5
  t9 := Try.underlying9
  a9 := Try.isAgg9
  z9 := Try.sizeOf9
  v9 := Try.zeroValue9
  t46 := Try.underlying112
  a46 := Try.isAgg112
  z46 := Try.sizeOf112
  v46 := Try.zeroValue112
  t51 := Try.underlying128
  a51 := Try.isAgg128
  z51 := Try.sizeOf128
  v51 := Try.zeroValue128
  t146 := Try.underlying135
  a146 := Try.isAgg135
  z146 := Try.sizeOf135
  v146 := Try.zeroValue135
  g1 := by kernel_rfl
  i3 := by kernel_rfl
  i4 := by kernel_rfl
  i5 := by kernel_rfl
  i9 := by kernel_rfl
  i46 := by kernel_rfl
  i51 := by kernel_rfl
  i146 := by kernel_rfl
  m1 := by kernel_rfl
  s1_3 := fun w h => Go.Proofs.cell_of_shapedOpen_int (zero := #[.int .i64 0]) (t := 3) h (of_decide_eq_true (by kernel_rfl)) (by kernel_rfl) rfl (by kernel_rfl) (by kernel_rfl) Try.underlying3 }
def Try.lays148_ren : Go.Shelf.Ren := ⟨fun | 148 => 83 | 222 => 100 | 223 => 101 | 269 => 125 | n => n, fun | 9 => 9 | 3 => 3 | 4 => 4 | 5 => 5 | 146 => 135 | 51 => 128 | 46 => 112 | n => n, fun | n => n⟩
theorem Try.lays148 : Go.Proofs.Lays.n148 Try.prog Try.lays148_ren := {
  mixed := by kernel_rfl
  f148 := Try.func83.trans (congrArg some (by kernel_rfl))
  f222 := Try.func100.trans (congrArg some (by kernel_rfl))
  f223 := Try.func101.trans (congrArg some (by kernel_rfl))
  f269 := Try.func125.trans (congrArg some (by kernel_rfl))
  t3 := Try.underlying3
  a3 := Try.isAgg3
  z3 := Try.sizeOf3
  v3 := Try.zeroValue3
  t4 := Try.underlying4
  a4 := Try.isAgg4
  z4 := Try.sizeOf4
  v4 := Try.zeroValue4
  t5 := Try.underlying5
  a5 := Try.isAgg5
  z5 := Try.sizeOf5
  v5 := Try.zeroValue5
  t9 := Try.underlying9
  a9 := Try.isAgg9
  z9 := Try.sizeOf9
  v9 := Try.zeroValue9
  t46 := Try.underlying112
  a46 := Try.isAgg112
  z46 := Try.sizeOf112
  v46 := Try.zeroValue112
  t51 := Try.underlying128
  a51 := Try.isAgg128
  z51 := Try.sizeOf128
  v51 := Try.zeroValue128
  t146 := Try.underlying135
  a146 := Try.isAgg135
  z146 := Try.sizeOf135
  v146 := Try.zeroValue135 }
def Try.lays17_ren : Go.Shelf.Ren := ⟨fun | 17 => 96 | 15 => 120 | 20 => 134 | n => n, fun | 9 => 9 | 23 => 115 | 4 => 4 | 3 => 3 | 0 => 0 | 21 => 21 | n => n, fun | n => n⟩
theorem Try.lays17 : Go.Proofs.LaysGw.n17 Try.prog Try.lays17_ren := {
  mixed := by kernel_rfl
  f15 := Try.func120.trans (congrArg some (by kernel_rfl))
  f17 := Try.func96.trans (congrArg some (by kernel_rfl))
  f20 := Try.func134.trans (congrArg some (by kernel_rfl))
  t0 := Try.underlying0
  a0 := Try.isAgg0
  z0 := Try.sizeOf0
  v0 := Try.zeroValue0
  i0 := by kernel_rfl
  t3 := Try.underlying3
  a3 := Try.isAgg3
  z3 := Try.sizeOf3
  v3 := Try.zeroValue3
  i3 := by kernel_rfl
  t4 := Try.underlying4
  a4 := Try.isAgg4
  z4 := Try.sizeOf4
  v4 := Try.zeroValue4
  i4 := by kernel_rfl
  t9 := Try.underlying9
  a9 := Try.isAgg9
  z9 := Try.sizeOf9
  v9 := Try.zeroValue9
  i9 := by kernel_rfl
  t21 := Try.underlying21
  a21 := Try.isAgg21
  z21 := Try.sizeOf21
  v21 := Try.zeroValue21
  i21 := by kernel_rfl
  t23 := Try.underlying115
  a23 := Try.isAgg115
  z23 := Try.sizeOf115
  v23 := Try.zeroValue115
  i23 := by kernel_rfl }
end Go.Proofs

namespace Go.Av
theorem tied_of {P : Program} {T : List Nat} {k n : Nat} {fn : Func} {F : AFun} (hT : T[k]? = some n) (hf : P.funcs[n]? = some fn) (hc : compF P T fn = some F) (hm : (fn.name == "runtime.NumGoroutine") = false) : Tied P T k F := by
  intro m hq
  rw [hT] at hq
  injection hq with hq
  subst hq
  exact ⟨fn, hf, hc, hm⟩
def TP : List Nat := [999999, 999999, 999999, 999999, 999999, 999999, 999999, 999999, 999999, 999999, 999999, 999999, 999999, 999999, 999999, 999999, 999999, 999999, 999999, 999999, 999999, 999999, 999999, 999999, 999999, 999999, 999999, 999999, 999999, 132, 999999, 3, 4, 5, 6, 7, 8, 9, 10, 11, 12, 13, 14, 15, 16, 17, 18, 19, 20, 21, 22, 23, 24, 25, 26, 27, 28, 29, 30, 31, 32, 33, 34, 35, 36, 37, 38, 39, 40, 41, 42, 43, 44, 45, 46, 47, 48, 49, 50, 51, 52, 53, 54, 55, 56, 57, 58, 59, 60, 61, 62, 63, 64, 65, 66, 67, 68, 69, 70, 71, 72, 73, 74, 75, 76, 77, 78, 79, 80, 81, 82, 83, 84, 85, 86, 87, 88, 89, 90, 91, 92, 93, 94, 95, 96, 97, 98, 99, 100, 101, 102, 103, 104, 105, 106, 107, 108, 109, 110, 111, 112, 113, 114, 115, 116, 117, 118, 119, 120, 121, 122, 123, 124, 125, 126, 127, 128, 129, 130, 131, 133, 134, 135, 136, 137, 138]
theorem wt_pandectlaw19_PatchLists : Tied Go.Proofs.Try.prog TP 35 (c_pandectlaw19_PatchLists) := tied_of (n := 7) (fn := Go.Proofs.Try.f7) (by kernel_rfl) Go.Proofs.Try.func7 (by kernel_rfl) (by kernel_rfl)
theorem wt_pandectlaw19_head : Tied Go.Proofs.Try.prog TP 43 (c_pandectlaw19_head) := tied_of (n := 15) (fn := Go.Proofs.Try.f15) (by kernel_rfl) Go.Proofs.Try.func15 (by kernel_rfl) (by kernel_rfl)
theorem wt_pandectref19_Light : Tied Go.Proofs.Try.prog TP 44 (c_pandectref19_Light) := tied_of (n := 16) (fn := Go.Proofs.Try.f16) (by kernel_rfl) Go.Proofs.Try.func16 (by kernel_rfl) (by kernel_rfl)
theorem wt_pandectref19_Few : Tied Go.Proofs.Try.prog TP 45 (c_pandectref19_Few) := tied_of (n := 17) (fn := Go.Proofs.Try.f17) (by kernel_rfl) Go.Proofs.Try.func17 (by kernel_rfl) (by kernel_rfl)
theorem wt_patch_Apply : Tied Go.Proofs.Try.prog TP 46 (c_patch_Apply (TP.getD · 0)) := tied_of (n := 18) (fn := Go.Proofs.Try.f18) (by kernel_rfl) Go.Proofs.Try.func18 (by kernel_rfl) (by kernel_rfl)
theorem wt_code_Valid : Tied Go.Proofs.Try.prog TP 47 (c_code_Valid (TP.getD · 0)) := tied_of (n := 19) (fn := Go.Proofs.Try.f19) (by kernel_rfl) Go.Proofs.Try.func19 (by kernel_rfl) (by kernel_rfl)
theorem wt_code_Find : Tied Go.Proofs.Try.prog TP 48 (c_code_Find (TP.getD · 0)) := tied_of (n := 20) (fn := Go.Proofs.Try.f20) (by kernel_rfl) Go.Proofs.Try.func20 (by kernel_rfl) (by kernel_rfl)
theorem wt_code_Below : Tied Go.Proofs.Try.prog TP 49 (c_code_Below (TP.getD · 0)) := tied_of (n := 21) (fn := Go.Proofs.Try.f21) (by kernel_rfl) Go.Proofs.Try.func21 (by kernel_rfl) (by kernel_rfl)
theorem wt_pandectref07_Names : Tied Go.Proofs.Try.prog TP 50 (c_pandectref07_Names) := tied_of (n := 22) (fn := Go.Proofs.Try.f22) (by kernel_rfl) Go.Proofs.Try.func22 (by kernel_rfl) (by kernel_rfl)
theorem wt_pandectlaw19_ids : Tied Go.Proofs.Try.prog TP 51 (c_pandectlaw19_ids) := tied_of (n := 23) (fn := Go.Proofs.Try.f23) (by kernel_rfl) Go.Proofs.Try.func23 (by kernel_rfl) (by kernel_rfl)
theorem wt_pandectref07_In : Tied Go.Proofs.Try.prog TP 52 (c_pandectref07_In) := tied_of (n := 24) (fn := Go.Proofs.Try.f24) (by kernel_rfl) Go.Proofs.Try.func24 (by kernel_rfl) (by kernel_rfl)
theorem wt_pandectref18_Same : Tied Go.Proofs.Try.prog TP 53 (c_pandectref18_Same) := tied_of (n := 25) (fn := Go.Proofs.Try.f25) (by kernel_rfl) Go.Proofs.Try.func25 (by kernel_rfl) (by kernel_rfl)
theorem wt_patch_All : Tied Go.Proofs.Try.prog TP 54 (c_patch_All) := tied_of (n := 26) (fn := Go.Proofs.Try.f26) (by kernel_rfl) Go.Proofs.Try.func26 (by kernel_rfl) (by kernel_rfl)
theorem wt_pandectlaw19_example : Tied Go.Proofs.Try.prog TP 65 (c_pandectlaw19_example) := tied_of (n := 37) (fn := Go.Proofs.Try.f37) (by kernel_rfl) Go.Proofs.Try.func37 (by kernel_rfl) (by kernel_rfl)
theorem wt_patch_formed : Tied Go.Proofs.Try.prog TP 66 (c_patch_formed (TP.getD · 0)) := tied_of (n := 38) (fn := Go.Proofs.Try.f38) (by kernel_rfl) Go.Proofs.Try.func38 (by kernel_rfl) (by kernel_rfl)
theorem wt_patch_change_insert : Tied Go.Proofs.Try.prog TP 67 (c_patch_change_insert) := tied_of (n := 39) (fn := Go.Proofs.Try.f39) (by kernel_rfl) Go.Proofs.Try.func39 (by kernel_rfl) (by kernel_rfl)
theorem wt_patch_change_words : Tied Go.Proofs.Try.prog TP 68 (c_patch_change_words) := tied_of (n := 40) (fn := Go.Proofs.Try.f40) (by kernel_rfl) Go.Proofs.Try.func40 (by kernel_rfl) (by kernel_rfl)
theorem wt_patch_change_number : Tied Go.Proofs.Try.prog TP 69 (c_patch_change_number) := tied_of (n := 41) (fn := Go.Proofs.Try.f41) (by kernel_rfl) Go.Proofs.Try.func41 (by kernel_rfl) (by kernel_rfl)
theorem wt_patch_change_move : Tied Go.Proofs.Try.prog TP 70 (c_patch_change_move) := tied_of (n := 42) (fn := Go.Proofs.Try.f42) (by kernel_rfl) Go.Proofs.Try.func42 (by kernel_rfl) (by kernel_rfl)
theorem wt_patch_change_gone : Tied Go.Proofs.Try.prog TP 71 (c_patch_change_gone) := tied_of (n := 43) (fn := Go.Proofs.Try.f43) (by kernel_rfl) Go.Proofs.Try.func43 (by kernel_rfl) (by kernel_rfl)
theorem wt_patch_change_replace : Tied Go.Proofs.Try.prog TP 72 (c_patch_change_replace) := tied_of (n := 44) (fn := Go.Proofs.Try.f44) (by kernel_rfl) Go.Proofs.Try.func44 (by kernel_rfl) (by kernel_rfl)
theorem wt_patch_change_item : Tied Go.Proofs.Try.prog TP 73 (c_patch_change_item) := tied_of (n := 45) (fn := Go.Proofs.Try.f45) (by kernel_rfl) Go.Proofs.Try.func45 (by kernel_rfl) (by kernel_rfl)
theorem wt_code_walk : Tied Go.Proofs.Try.prog TP 74 (c_code_walk) := tied_of (n := 46) (fn := Go.Proofs.Try.f46) (by kernel_rfl) Go.Proofs.Try.func46 (by kernel_rfl) (by kernel_rfl)
theorem wt_code_Valid_d1 : Tied Go.Proofs.Try.prog TP 75 (c_code_Valid_d1) := tied_of (n := 47) (fn := Go.Proofs.Try.f47) (by kernel_rfl) Go.Proofs.Try.func47 (by kernel_rfl) (by kernel_rfl)
theorem wt_slices_IndexFunc : Tied Go.Proofs.Try.prog TP 76 (c_slices_IndexFunc) := tied_of (n := 48) (fn := Go.Proofs.Try.f48) (by kernel_rfl) Go.Proofs.Try.func48 (by kernel_rfl) (by kernel_rfl)
theorem wt_code_Find_d1 : Tied Go.Proofs.Try.prog TP 77 (c_code_Find_d1) := tied_of (n := 49) (fn := Go.Proofs.Try.f49) (by kernel_rfl) Go.Proofs.Try.func49 (by kernel_rfl) (by kernel_rfl)
theorem wt_code_Below_d1 : Tied Go.Proofs.Try.prog TP 78 (c_code_Below_d1) := tied_of (n := 50) (fn := Go.Proofs.Try.f50) (by kernel_rfl) Go.Proofs.Try.func50 (by kernel_rfl) (by kernel_rfl)
theorem wt_slices_Contains : Tied Go.Proofs.Try.prog TP 79 (c_slices_Contains) := tied_of (n := 51) (fn := Go.Proofs.Try.f51) (by kernel_rfl) Go.Proofs.Try.func51 (by kernel_rfl) (by kernel_rfl)
theorem wt_slices_Clone : Tied Go.Proofs.Try.prog TP 80 (c_slices_Clone) := tied_of (n := 52) (fn := Go.Proofs.Try.f52) (by kernel_rfl) Go.Proofs.Try.func52 (by kernel_rfl) (by kernel_rfl)
theorem wt_patch_once : Tied Go.Proofs.Try.prog TP 81 (c_patch_once) := tied_of (n := 53) (fn := Go.Proofs.Try.f53) (by kernel_rfl) Go.Proofs.Try.func53 (by kernel_rfl) (by kernel_rfl)
theorem wt_pandectref18_Find : Tied Go.Proofs.Try.prog TP 85 (c_pandectref18_Find) := tied_of (n := 57) (fn := Go.Proofs.Try.f57) (by kernel_rfl) Go.Proofs.Try.func57 (by kernel_rfl) (by kernel_rfl)
theorem wt_patch_formed_d1 : Tied Go.Proofs.Try.prog TP 101 (c_patch_formed_d1) := tied_of (n := 73) (fn := Go.Proofs.Try.f73) (by kernel_rfl) Go.Proofs.Try.func73 (by kernel_rfl) (by kernel_rfl)
theorem wt_patch_change_exists : Tied Go.Proofs.Try.prog TP 102 (c_patch_change_exists) := tied_of (n := 74) (fn := Go.Proofs.Try.f74) (by kernel_rfl) Go.Proofs.Try.func74 (by kernel_rfl) (by kernel_rfl)
theorem wt_patch_change_put : Tied Go.Proofs.Try.prog TP 103 (c_patch_change_put) := tied_of (n := 75) (fn := Go.Proofs.Try.f75) (by kernel_rfl) Go.Proofs.Try.func75 (by kernel_rfl) (by kernel_rfl)
theorem wt_patch_change_with : Tied Go.Proofs.Try.prog TP 104 (c_patch_change_with) := tied_of (n := 76) (fn := Go.Proofs.Try.f76) (by kernel_rfl) Go.Proofs.Try.func76 (by kernel_rfl) (by kernel_rfl)
theorem wt_code_Under : Tied Go.Proofs.Try.prog TP 105 (c_code_Under (TP.getD · 0)) := tied_of (n := 77) (fn := Go.Proofs.Try.f77) (by kernel_rfl) Go.Proofs.Try.func77 (by kernel_rfl) (by kernel_rfl)
theorem wt_patch_change_size : Tied Go.Proofs.Try.prog TP 106 (c_patch_change_size) := tied_of (n := 78) (fn := Go.Proofs.Try.f78) (by kernel_rfl) Go.Proofs.Try.func78 (by kernel_rfl) (by kernel_rfl)
theorem wt_slices_Delete : Tied Go.Proofs.Try.prog TP 107 (c_slices_Delete (opsOf Go.Proofs.Try.prog TP 107)) := tied_of (n := 79) (fn := Go.Proofs.Try.f79) (by kernel_rfl) Go.Proofs.Try.func79 (by kernel_rfl) (by kernel_rfl)
theorem wt_code_proper : Tied Go.Proofs.Try.prog TP 108 (c_code_proper (TP.getD · 0)) := tied_of (n := 80) (fn := Go.Proofs.Try.f80) (by kernel_rfl) Go.Proofs.Try.func80 (by kernel_rfl) (by kernel_rfl)
theorem wt_slices_Index : Tied Go.Proofs.Try.prog TP 109 (c_slices_Index) := tied_of (n := 81) (fn := Go.Proofs.Try.f81) (by kernel_rfl) Go.Proofs.Try.func81 (by kernel_rfl) (by kernel_rfl)
theorem wt_pandectref05_Name : Tied Go.Proofs.Try.prog TP 117 (c_pandectref05_Name) := tied_of (n := 89) (fn := Go.Proofs.Try.f89) (by kernel_rfl) Go.Proofs.Try.func89 (by kernel_rfl) (by kernel_rfl)
theorem wt_pandectref18_number : Tied Go.Proofs.Try.prog TP 118 (c_pandectref18_number) := tied_of (n := 90) (fn := Go.Proofs.Try.f90) (by kernel_rfl) Go.Proofs.Try.func90 (by kernel_rfl) (by kernel_rfl)
theorem wt_slices_Insert : Tied Go.Proofs.Try.prog TP 122 (c_slices_Insert (opsOf Go.Proofs.Try.prog TP 122)) := tied_of (n := 94) (fn := Go.Proofs.Try.f94) (by kernel_rfl) Go.Proofs.Try.func94 (by kernel_rfl) (by kernel_rfl)
theorem wt_code_Under_d1 : Tied Go.Proofs.Try.prog TP 123 (c_code_Under_d1) := tied_of (n := 95) (fn := Go.Proofs.Try.f95) (by kernel_rfl) Go.Proofs.Try.func95 (by kernel_rfl) (by kernel_rfl)
theorem wt_code_isName : Tied Go.Proofs.Try.prog TP 126 (c_code_isName) := tied_of (n := 98) (fn := Go.Proofs.Try.f98) (by kernel_rfl) Go.Proofs.Try.func98 (by kernel_rfl) (by kernel_rfl)
theorem wt_pandectref18_In : Tied Go.Proofs.Try.prog TP 131 (c_pandectref18_In) := tied_of (n := 103) (fn := Go.Proofs.Try.f103) (by kernel_rfl) Go.Proofs.Try.func103 (by kernel_rfl) (by kernel_rfl)
theorem wt_pandectref05_word : Tied Go.Proofs.Try.prog TP 133 (c_pandectref05_word) := tied_of (n := 105) (fn := Go.Proofs.Try.f105) (by kernel_rfl) Go.Proofs.Try.func105 (by kernel_rfl) (by kernel_rfl)
theorem wt_pandectref05_letter : Tied Go.Proofs.Try.prog TP 134 (c_pandectref05_letter) := tied_of (n := 106) (fn := Go.Proofs.Try.f106) (by kernel_rfl) Go.Proofs.Try.func106 (by kernel_rfl) (by kernel_rfl)
theorem wt_pandectref05_digit : Tied Go.Proofs.Try.prog TP 154 (c_pandectref05_digit) := tied_of (n := 126) (fn := Go.Proofs.Try.f126) (by kernel_rfl) Go.Proofs.Try.func126 (by kernel_rfl) (by kernel_rfl)
set_option maxRecDepth 100000 in
theorem layP : Lay Go.Proofs.Try.prog TP := ⟨Nat.le_of_ble_eq_true (by kernel_rfl), wt_pandectlaw19_PatchLists, wt_pandectlaw19_head, wt_pandectref19_Light, wt_pandectref19_Few, wt_patch_Apply, wt_code_Valid, wt_code_Find, wt_code_Below, wt_pandectref07_Names, wt_pandectlaw19_ids, wt_pandectref07_In, wt_pandectref18_Same, wt_patch_All, wt_pandectlaw19_example, wt_patch_formed, wt_patch_change_insert, wt_patch_change_words, wt_patch_change_number, wt_patch_change_move, wt_patch_change_gone, wt_patch_change_replace, wt_patch_change_item, wt_code_walk, wt_code_Valid_d1, wt_slices_IndexFunc, wt_code_Find_d1, wt_code_Below_d1, wt_slices_Contains, wt_slices_Clone, wt_patch_once, wt_pandectref18_Find, wt_patch_formed_d1, wt_patch_change_exists, wt_patch_change_put, wt_patch_change_with, wt_code_Under, wt_patch_change_size, wt_slices_Delete, wt_code_proper, wt_slices_Index, wt_pandectref05_Name, wt_pandectref18_number, wt_slices_Insert, wt_code_Under_d1, wt_code_isName, wt_pandectref18_In, wt_pandectref05_word, wt_pandectref05_letter, wt_pandectref05_digit⟩
theorem ovlP : Ovl7 Go.Proofs.Try.prog TP :=
  ⟨118, Go.Proofs.Try.f118, ((match opsOf Go.Proofs.Try.prog TP 122 14 6 with | .call c => c.argTypes | _ => #[])), 22, 26, ((Go.Proofs.Try.prog.info? 26).getD default), by kernel_rfl, Go.Proofs.Try.func118, by kernel_rfl, by kernel_rfl, by kernel_rfl, by kernel_rfl, by kernel_rfl, by kernel_rfl, by kernel_rfl⟩
theorem clrP : Clr7 Go.Proofs.Try.prog TP :=
  ⟨22, 26, ((Go.Proofs.Try.prog.info? 26).getD default), (((Go.Proofs.Try.prog.info? 26).getD default).zero.getD default), by kernel_rfl, by kernel_rfl, by kernel_rfl, by kernel_rfl, by kernel_rfl, by kernel_rfl, by kernel_rfl⟩
open Go.Shelf Go.RowKit Go.Proofs
theorem pred125 (w : World) : PredAt Go.Proofs.Try.prog (TP.getD 125 0) #[] encR (fun r => !runeOk r) w := fun W r _ => by
  have e : TP.getD 125 0 = 97 := rfl
  rw [e]
  unfold FnGives
  by_cases h1 : 48 ≤ r <;> by_cases h2 : r ≤ 57 <;> by_cases h3 : 97 ≤ r <;> by_cases h4 : r ≤ 122
  all_goals
    have z1 : (48 : Int) ≤ (r : Int) ↔ 48 ≤ r := by omega
    have z2 : (r : Int) ≤ 57 ↔ r ≤ 57 := by omega
    have z3 : (97 : Int) ≤ (r : Int) ↔ 97 ≤ r := by omega
    have z4 : (r : Int) ≤ 122 ↔ r ≤ 122 := by omega
    first
      | (exfalso; omega)
      | (go_enter Go.Proofs.Try.func97, Go.Proofs.Try.ntmps97
         go_wp2
         all_goals first | (exfalso; omega) | (go_ret; exact ⟨by simp [runeOk, h1, h2, h3, h4], 0, rfl⟩))
theorem strP : StrLib Go.Proofs.Try.prog TP where
  index := ⟨_, Go.Proofs.Try.laysM143.ton143, fun n h => by injection h with h; exact h.symm, by kernel_rfl⟩
  last := ⟨_, Go.Proofs.Try.lays148, fun n h => by injection h with h; exact h.symm⟩
  cont := ⟨_, Go.Proofs.Try.lays17, fun n h => by injection h with h; exact h.symm, enters_of Go.Proofs.Try.func97 (by kernel_rfl) rfl, pred125⟩
theorem groundP (w : World) (h : w.ShapedOpen Go.Proofs.Try.prog) : Ground Go.Proofs.Try.prog w := by
  intro g hg
  have e : Go.Proofs.Try.prog.globals.findIdx? (·.name == "internal/bytealg.MaxLen") = some 0 := by kernel_rfl
  rw [e] at hg
  injection hg with hg
  subst hg
  exact Go.Proofs.Try.laysM143.s1_3 w h
end Go.Av

namespace Go.Proofs.Ytmeppjgkmbdmfaa
open Go Go.ChangeShapes Go.WideShapes Go.ChangeAt Go.RowKit
open Go.ChangeMaps (open_string shut_string)
theorem own : ownKnob Try.prog.godebug = none := by kernel_rfl
theorem laidOut : laidOutB Try.prog = true := by kernel_rfl
set_option maxRecDepth 100000 in
theorem patchLists_lifted (os : Os) (started : os.Started) (H : Type) (enc : TypeId × Value → H) :
    ReturnsInHanded {} Try.checked os 7 .any (Rows.patchListsSpec.pre6 enc Try.prog Try.f7 Rows.patchListsRow.domain false) (Rows.patchListsSpec.post enc Try.prog Try.f7 false true false false) := by
  refine returnsInHanded_of_change_shaped (C := Try.checked) own started (by kernel_rfl) Try.func7
    (ChangeSpec.witness6 (enc := enc) (C := Try.checked) false ⟨#[], #[.agg #[.slice none 0 0], .slice none 0 0, .int .u8 0], []⟩ 8 (by kernel_rfl) (by kernel_rfl) (by kernel_rfl) (by kernel_rfl)) ?_
  intro W base args ds gs before hval0 hW hcnd hsz hsh _
  have hgr : Go.Av.Ground Try.prog W := Go.Av.groundP W hsh
  have hval : ∀ (j : Nat) t v, Try.f7.params[j]? = some t → args[j]? = some v → Value.okWide Try.prog W .any base t v := hval0
  have hW' := hW
  obtain ⟨p, q, hA0, hV, rfl, hfz, hnd⟩ := hW
  have hA : DataW.TrodAll enc Try.prog W 0 (fun _ => true) true Try.f7.params.toList args.toList ds p := hA0
  have hsz' : (DataW.weightsEach Try.prog (Try.f7.params.toList ++ Rows.patchListsSpec.plain.varTypes Try.prog) (ds ++ gs)).all (· ≤ reachBytes) = true := hsz
  rw [Try.params7] at hA hval hsz'
  have hws : ∀ (j : Nat) (t : TypeId) (d : DataW H), ([24, 44, 5] : List TypeId)[j]? = some t → ds[j]? = some d → ∀ z ∈ d.weights Try.prog t, z ≤ reachBytes := by
    intro j t d ht hd z hz
    have hm := DataW.weights_mem_each (P := Try.prog) (ts := [24, 44, 5] ++ Rows.patchListsSpec.plain.varTypes Try.prog) (ds := ds ++ gs) (j := j) (by rw [List.getElem?_append_left (List.getElem?_eq_some_iff.1 ht).1]; exact ht) (by rw [List.getElem?_append_left (List.getElem?_eq_some_iff.1 hd).1]; exact hd) z hz
    exact of_decide_eq_true (List.all_eq_true.1 hsz' z hm)
  obtain ⟨v0, vs0, d0, ds0, p0, q0, hargs, rfl, rfl, h0, r0⟩ := trodAll_cons hA
  obtain ⟨v1, vs1, d1, ds1, p1, q1, rfl, rfl, rfl, h1, r1⟩ := trodAll_cons r0
  obtain ⟨v2, vs2, d2, ds2, p2, q2, rfl, rfl, rfl, h2, r2⟩ := trodAll_cons r1
  obtain ⟨rfl, rfl, rfl⟩ := trodAll_nil r2
  obtain rfl : args = #[v0, v1, v2] := by cases args; simp_all
  obtain ⟨rfl, rfl⟩ := trodVars_none hV
  obtain ⟨cs0, rfl, _⟩ := okWide_struct Try.underlying24 (hval 0 24 v0 rfl rfl)
  have k0 := h0
  have lt0 : ∀ x ∈ p0, x.block < W.heap.size := by obtain ⟨m, hm⟩ := k0; exact DataW.trod_lt m _ _ _ hm
  obtain ⟨fuel0, hf0⟩ := h0
  obtain ⟨l, hl, hlb, hll⟩ := Go.Av.code_val (w := W) (x := (d0, p0)) (hws 0 24 d0 rfl rfl) hf0
  obtain ⟨a1, len1, cap1, rfl⟩ := okWide_slice Try.underlying44 (hval 1 44 v1 rfl rfl)
  have k1 := h1
  have lt1 : ∀ x ∈ p1, x.block < W.heap.size := by obtain ⟨m, hm⟩ := k1; exact DataW.trod_lt m _ _ _ hm
  obtain ⟨fuel1, hf1⟩ := h1
  obtain ⟨ps, hp, hpb, hpl⟩ := Go.Av.patches_of (w := W) (x := (d1, p1)) (hws 1 44 d1 rfl rfl) hf1
  obtain ⟨a2, rfl, rfl, rfl, w2⟩ := open_int Try.underlying5 (hval 2 5 v2 rfl rfl) h2
  have ha2 : 0 ≤ a2 ∧ a2 < 256 := by
    have w3 : (decide ((0 : Int) ≤ a2) && decide (a2 ≤ 255)) = true := w2
    rw [Bool.and_eq_true, decide_eq_true_eq, decide_eq_true_eq] at w3
    omega
  clear hA0 hval0
  have hc : Go.Av.PCall Try.prog 7 [.agg [.sl 7 .ro (l.map Go.Av.Item.row)], .sl 15 .ro (ps.map Go.Av.PatchS.row), .imm (.int .u8 a2)] (.imm (.bool true)) := Go.Av.law35_con Go.Av.layP Go.Av.strP Go.Av.ovlP Go.Av.clrP l ps a2 ha2 hll hpl hlb hpb 7 (by kernel_rfl)
  refine (Go.Av.frame_of (w := W) (vs := [.agg cs0, .slice a1 len1 cap1, .int .u8 a2]) hc hgr ?_).mono fun e W' ⟨he, bel⟩ => ?_
  · simp only [Go.Av.Rt]
    exact ⟨_, _, rfl, hl, _, _, rfl, hp, _, _, rfl, by simp only [Go.Av.R]; exact ⟨trivial, rfl⟩, rfl⟩
  subst he
  exact ⟨_, rfl, _, _, _, [], _, [], hW', trodAll_mk1 (shut_bool Try.underlying4 _), (trodAll_cons_mk (Below.trod laidOut (by kernel_rfl) (of_decide_eq_true (by kernel_rfl)) k0 bel lt0) (trodAll_cons_mk (Below.trod laidOut (by kernel_rfl) (of_decide_eq_true (by kernel_rfl)) k1 bel lt1) (trodAll_cons_mk (shut_int Try.underlying5 w2) trodAll_mk0))), rfl, bel.frame _, fun h => by cases h⟩
theorem patchLists_holds : Rows.PatchListsSaid :=
  OpenClaim.holds_of_wide 7 Try.f7 rfl rfl rfl rfl rfl rfl rfl ⟨rfl, rfl, rfl, rfl, rfl⟩ rfl rfl rfl rfl rfl (by kernel_rfl) Try.func7 (by kernel_rfl)
    (of_decide_eq_true (by kernel_rfl)) (by unfold Func.isWrapper; first | (rw [if_pos (by decide +kernel)]; kernel_rfl) | (rw [if_neg (by decide +kernel)]; exact ⟨rfl, rfl⟩))
    (fun os started H enc _ => patchLists_lifted os started H enc)
#print axioms patchLists_holds
end Go.Proofs.Ytmeppjgkmbdmfaa
