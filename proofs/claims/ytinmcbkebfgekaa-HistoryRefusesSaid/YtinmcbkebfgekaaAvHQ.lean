/- OWN TEXT. Histories: plain facts of lists of acts. -/
import Derived.Test.YtinmcbkebfgekaaAvHP
set_option linter.all false
set_option linter.unusedVariables false
set_option linter.unusedSimpArgs false
namespace Go.Av
/-- The errors, act by act. -/
theorem runA_err {am : List Known} {i : Nat} {k : Known} (h : am[i]? = some k) : (runA am).2[i]? = some (addE (runA (am.take i)).1 k) := by
  have hi := (List.getElem?_eq_some_iff.1 h).1
  suffices ∀ n, i < n → n ≤ am.length → (runA (am.take n)).2[i]? = some (addE (runA (am.take i)).1 k) by
    have := this am.length hi (Nat.le_refl _)
    rwa [List.take_of_length_le (Nat.le_refl _)] at this
  intro n
  induction n with
  | zero => intro h; omega
  | succ n ih =>
    intro h1 h2
    obtain ⟨b, hb⟩ : ∃ b, am[n]? = some b := ⟨_, List.getElem?_eq_getElem (by omega)⟩
    rw [runA_take hb]
    rcases Nat.lt_or_ge i n with hlt | hge
    · have := ih hlt (by omega)
      simp only [addS]
      rw [List.getElem?_append_left (List.getElem?_eq_some_iff.1 this).1]
      exact this
    · have : i = n := by omega
      subst this
      rw [hb] at h
      injection h with h
      subst h
      simp only [addS]
      have hl : (runA (am.take i)).2.length = i := by rw [runA_len, List.length_take]; omega
      rw [List.getElem?_append_right (by omega), hl, Nat.sub_self]
      rfl
/-- The acts that were added without an error. -/
def kept (am : List Known) : List Known := (List.zip am (runA am).2).filterMap fun p => if p.2 = 0 then some p.1 else none
theorem kept_snoc (am : List Known) (k : Known) : kept (am ++ [k]) = kept am ++ if addE (runA am).1 k = 0 then [k] else [] := by
  unfold kept
  rw [runA_snoc]
  simp only [addS]
  rw [List.zip_append (by rw [runA_len]), List.filterMap_append]
  congr 1
  by_cases h : addE (runA am).1 k = 0 <;> simp [h]
theorem snoc_ind {α : Type} {p : List α → Prop} (h0 : p []) (h1 : ∀ l a, p l → p (l ++ [a])) (l : List α) : p l := by
  have : ∀ n, p (l.take n) := fun n => by
    induction n with
    | zero => rw [List.take_zero]; exact h0
    | succ n ih =>
      rw [List.take_add_one]
      cases l[n]? with
      | none => simpa using ih
      | some a => exact h1 _ a ih
  simpa using this l.length
theorem kept_perm (am : List Known) : (runA am).1.Perm (kept am) := by
  induction am using snoc_ind with
  | h0 => exact List.Perm.refl _
  | h1 am k ih =>
    rw [runA_snoc, kept_snoc]
    simp only [addS]
    by_cases h : addE (runA am).1 k = 0
    · rw [if_pos h]
      exact (addTo_perm h).trans ((ih.cons k).trans (List.perm_append_singleton k _).symm)
    · rw [if_neg h, addTo, if_neg h, List.append_nil]
      exact ih
end Go.Av
