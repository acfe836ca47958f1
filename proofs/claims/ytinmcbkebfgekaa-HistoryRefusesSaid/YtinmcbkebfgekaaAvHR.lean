/- OWN TEXT. Histories: which acts are added. -/
import Derived.Test.YtinmcbkebfgekaaAvHQ
set_option linter.all false
set_option linter.unusedVariables false
set_option linter.unusedSimpArgs false
namespace Go.Av
def vB (k : Known) : Bool := decide (ValidK k.day k.office k.number k.index)
theorem addE_cases {l : List Known} {k : Known} (hl : l.length < 4000) : addE l k = if vB k then (if Taken l k then 9 else 0) else 1 := by
  unfold addE vB
  by_cases hv : ValidK k.day k.office k.number k.index
  · by_cases ht : Taken l k
    · simp [hv, ht]
    · simp [hv, ht, show l.length ≠ 4000 by omega]
  · simp [hv]
theorem mem_run {am : List Known} {a : Known} : a ∈ (runA am).1 ↔ a ∈ kept am := (kept_perm am).mem_iff
theorem fresh_run (am : List Known) (hl : am.length < 4000) (hp : (am.filter vB).Pairwise fun a b => ¬ SamePl a b) : kept am = am.filter vB := by
  induction am using snoc_ind with
  | h0 => rfl
  | h1 am k ih =>
    rw [List.filter_append, List.pairwise_append] at hp
    have hl' : am.length < 4000 := by simp at hl; omega
    have ih := ih hl' hp.1
    rw [kept_snoc, List.filter_append, ih]
    congr 1
    rw [addE_cases (Nat.lt_of_le_of_lt (runA_le am) hl')]
    by_cases hv : vB k = true
    · have ht : ¬ Taken (runA am).1 k := by
        rintro ⟨u, hu, hs⟩
        rw [mem_run, ih] at hu
        exact hp.2.2 u hu k (by simp [hv]) hs.symm
      simp [hv, ht]
    · simp [hv]
theorem no_twice (am : List Known) (hl : am.length < 4000) (h9 : ∀ (i : Nat) a, am[i]? = some a → addE (runA (am.take i)).1 a ≠ 9) : (am.filter vB).Pairwise (fun a b => ¬ SamePl a b) := by
  suffices (am.filter vB).Pairwise (fun a b => ¬ SamePl a b) ∧ kept am = am.filter vB from this.1
  induction am using snoc_ind with
  | h0 => exact ⟨.nil, rfl⟩
  | h1 am k ih =>
    have hl' : am.length < 4000 := by simp at hl; omega
    obtain ⟨ih1, ih2⟩ := ih hl' fun i a ha => by
      have hi := (List.getElem?_eq_some_iff.1 ha).1
      have := h9 i a (by rw [List.getElem?_append_left hi]; exact ha)
      rwa [List.take_append_of_le_length (by omega)] at this
    have hk := h9 am.length k (by simp)
    rw [List.take_append_of_le_length (Nat.le_refl _), List.take_of_length_le (Nat.le_refl _), addE_cases (Nat.lt_of_le_of_lt (runA_le am) hl')] at hk
    have hp : ((am ++ [k]).filter vB).Pairwise fun a b => ¬ SamePl a b := by
      rw [List.filter_append, List.pairwise_append]
      by_cases hv : vB k = true
      · rw [if_pos hv] at hk
        have ht : ¬ Taken (runA am).1 k := fun ht => hk (by rw [if_pos ht])
        refine ⟨ih1, by simp [hv], fun a ha b hb hs => ?_⟩
        simp [hv] at hb
        subst hb
        refine ht ⟨a, ?_, hs.symm⟩
        rw [mem_run, ih2]
        exact ha
      · refine ⟨ih1, by simp [hv], fun a ha b hb hs => ?_⟩
        simp [hv] at hb
    exact ⟨hp, fresh_run _ hl hp⟩
theorem sorted_eq {l m : List Known} (h : l.Pairwise fun a b => ordK a b < 0) (k : m.Pairwise fun a b => ordK a b < 0) (hp : l.Perm m) : l = m := by
  refine List.Perm.eq_of_pairwise (le := fun a b => ordK a b < 0) ?_ h k hp
  intro a b _ _ h1 h2
  have := ordK_trans h1 h2
  rw [ordK_refl] at this
  omega
/-- In the opposite order the same is known. -/
theorem arrives_eq {am : List Known} (hl : am.length < 4000) (h9 : ∀ (i : Nat) a, am[i]? = some a → addE (runA (am.take i)).1 a ≠ 9) : (runA am.reverse).1 = (runA am).1 := by
  have hp := no_twice am hl h9
  have hr : (am.reverse.filter vB).Pairwise fun a b => ¬ SamePl a b := by
    rw [List.filter_reverse, List.pairwise_reverse]
    exact hp.imp fun h hs => h hs.symm
  refine sorted_eq (runA_good _).ord (runA_good _).ord ?_
  refine (kept_perm _).trans (List.Perm.trans ?_ (kept_perm am).symm)
  rw [fresh_run _ (by simpa using hl) hr, fresh_run am hl hp, List.filter_reverse]
  exact List.reverse_perm _
theorem kept_dif (am : List Known) : (kept am).Pairwise fun a b => ¬ SamePl a b := by
  have hg := runA_good am
  refine ((kept_perm am).pairwise_iff fun h hs => h hs.symm).1 ?_
  refine List.Pairwise.imp_of_mem ?_ hg.ord
  intro a b ha hb h hs
  have := hg.dif a ha b hb hs
  subst this
  rw [ordK_refl] at h
  omega
theorem kept_val {am : List Known} {a : Known} (h : a ∈ kept am) : vB a = true := by
  rw [← mem_run] at h
  exact decide_eq_true ((runA_good am).val a h)
theorem kept_len (am : List Known) : (kept am).length ≤ am.length := by
  rw [← (kept_perm am).length_eq]
  exact runA_le am
/-- Without the acts of later days the same is known. -/
theorem later_eq {am : List Known} (hl : am.length < 4000) (d : Int) : (runA ((kept am).filter fun k => decide (k.day ≤ d))).1 = upTo (runA am).1 d := by
  have hg := runA_good am
  have hf : ((kept am).filter fun k => decide (k.day ≤ d)).filter vB = (kept am).filter fun k => decide (k.day ≤ d) := by
    rw [List.filter_eq_self]
    intro a ha
    exact kept_val (List.mem_filter.1 ha).1
  have hk : kept ((kept am).filter fun k => decide (k.day ≤ d)) = (kept am).filter fun k => decide (k.day ≤ d) := by
    rw [fresh_run, hf]
    · have h1 := (List.filter_sublist (p := fun k : Known => decide (k.day ≤ d)) (l := kept am)).length_le
      have h2 := kept_len am
      omega
    · rw [hf]
      exact (kept_dif am).sublist List.filter_sublist
  refine sorted_eq (runA_good _).ord (hg.ord.sublist (List.takeWhile_sublist _)) ?_
  show (runA _).1.Perm (upTo _ d)
  rw [upTo_filter hg.ord]
  refine (kept_perm _).trans ?_
  rw [hk]
  exact ((kept_perm am).filter _).symm
theorem upTo_prefix {l : List Known} {c d : Int} (h : c ≤ d) : upTo l c = (upTo l d).take (upTo l c).length := by
  unfold upTo
  induction l with
  | nil => rfl
  | cons a l ih =>
    by_cases h1 : a.day ≤ c
    · have h2 : a.day ≤ d := by omega
      simp only [List.takeWhile_cons, h1, h2, decide_true, if_true, List.length_cons, List.take_succ_cons]
      rw [← ih]
    · simp [List.takeWhile_cons, h1]
theorem I_args {σ : Type} {S : Sys σ} {f : Nat} {xs ys : List AV} {st : St σ} {F : AV → St σ → Prop} (hl : AV.les2 xs ys) (h : S.I f ys st F) : S.I f xs st F := by
  intro c hc n hn a w ow τ ob vs hFR hvs
  exact h c hc n hn a w ow τ ob vs hFR (Rt_les2 hl hvs)
theorem OwnSl.le2 {σ : Type} {st : St σ} {a : AV} {d sz : Nat} {rows : List (List AV)} (h : OwnSl st a d sz rows) : a.le2 (.sl sz .ro rows) := by
  rcases h with ⟨rfl, rfl⟩ | ⟨rfl, rfl⟩ | ⟨rfl, ht⟩ <;> simp [AV.le2, AV.le1]
end Go.Av
