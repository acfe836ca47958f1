/- What came in: cells of a struct by their leaves; a slice of structs stands for its rows. -/
import Derived.Test.YtinmcbkebfgekaaAv24
import Derived.Deep.Slices
set_option linter.all false
set_option linter.unusedVariables false
set_option linter.unusedSimpArgs false
namespace Go.Av
open Go.ChangeShapes Go.WideShapes
/-- The types of a type's cells; none where its parts do not lie one behind the other. -/
def leaves (P : Program) : Nat → TypeId → Option (List TypeId)
  | 0, _ => none
  | n + 1, t =>
    match P.underlying t with
    | some (.struct fs) => (fs.toList.foldl (fun acc f => match acc, leaves P n f.type with | some a, some l => if f.offset = a.length ∧ l.length = P.cellsOf f.type then some (a ++ l) else none | _, _ => none) (some [])).bind fun a => if a.length = P.cellsOf t then some a else none
    | some (.array _ _) => none
    | _ => some [t]
section
variable {H : Type} {enc : TypeId × Value → H} {P : Program} {w : World} {base : Nat} {spare : Nat → Bool} {held : Bool}
theorem trod_leaf {n fuel : Nat} {t : TypeId} {cs : List Value} {x : DataW H × List MemPlace} (hns : ∀ fs, P.underlying t ≠ some (.struct fs)) (hna : ∀ k e, P.underlying t ≠ some (.array k e)) (h : DataW.trod enc P w base spare held fuel t cs = some x) : ∃ v, cs = [v] ∧ v.oneCell' = true := by
  cases fuel with
  | zero => simp [DataW.trod] at h
  | succ fuel =>
    unfold DataW.trod at h
    split at h
    all_goals first
      | exact ⟨_, rfl, rfl⟩
      | (exfalso; exact hns _ ‹_›)
      | (exfalso; exact hna _ _ ‹_›)
      | (cases h; done)
theorem trod_leaves : ∀ {n fuel : Nat} {t : TypeId} {ts : List TypeId} {cs : List Value} {x : DataW H × List MemPlace}, leaves P n t = some ts → DataW.trod enc P w base spare held fuel t cs = some x → cs.length = ts.length ∧ ∀ (j : Nat) (u : TypeId) (v : Value), ts[j]? = some u → cs[j]? = some v → v.oneCell' = true ∧ ∃ (m : Nat) (y : DataW H × List MemPlace), DataW.trod enc P w base spare held m u [v] = some y := by
  intro n
  induction n with
  | zero => intro fuel t ts cs x h; simp [leaves] at h
  | succ n ih =>
    intro fuel t ts cs x h ht
    unfold leaves at h
    split at h
    · rename_i fs hu
      obtain ⟨xs, k, rfl, rfl, hl, hxl, hf⟩ := DataW.trod_struct hu ht
      obtain ⟨a, ha, hb⟩ := Option.bind_eq_some_iff.1 h
      split at hb
      · rename_i hal
        injection hb with hb
        subst hb
        refine ⟨hl.trans hal.symm, ?_⟩
        have key : ∀ (l : List Field), (∀ f ∈ l, f ∈ fs.toList) → ∀ (acc r : List TypeId), (∀ (j : Nat) (u : TypeId) (v : Value), acc[j]? = some u → cs[j]? = some v → v.oneCell' = true ∧ ∃ (m : Nat) (y : DataW H × List MemPlace), DataW.trod enc P w base spare held m u [v] = some y) →
            l.foldl (fun acc f => match acc, leaves P n f.type with | some a, some l => if f.offset = a.length ∧ l.length = P.cellsOf f.type then some (a ++ l) else none | _, _ => none) (some acc) = some r →
            (∀ (j : Nat) (u : TypeId) (v : Value), r[j]? = some u → cs[j]? = some v → v.oneCell' = true ∧ ∃ (m : Nat) (y : DataW H × List MemPlace), DataW.trod enc P w base spare held m u [v] = some y) := by
          intro l
          induction l with
          | nil =>
            intro _ acc r hacc hr
            simp only [List.foldl_nil, Option.some.injEq] at hr
            subst hr
            exact hacc
          | cons f l ihl =>
            intro hm acc r hacc hr
            rw [List.foldl_cons] at hr
            have hnone : ∀ l : List Field, l.foldl (fun acc f => match acc, leaves P n f.type with | some a, some l => if f.offset = a.length ∧ l.length = P.cellsOf f.type then some (a ++ l) else none | _, _ => none) none = none := by
              intro l
              induction l with
              | nil => rfl
              | cons f l ih => rw [List.foldl_cons]; exact ih
            cases hlv : leaves P n f.type with
            | none =>
              rw [hlv] at hr
              simp only [hnone] at hr
              cases hr
            | some lf =>
              rw [hlv] at hr
              simp only at hr
              split at hr
              · rename_i hoff
                refine ihl (fun g hg => hm g (.tail _ hg)) _ _ ?_ hr
                intro j u v hj hv
                rcases Nat.lt_or_ge j acc.length with hlt | hge
                · rw [List.getElem?_append_left hlt] at hj
                  exact hacc j u v hj hv
                · rw [List.getElem?_append_right hge] at hj
                  obtain ⟨i, hi⟩ := List.mem_iff_getElem?.1 (hm f (.head _))
                  have hfi := hf i f (by rw [← Array.getElem?_toList]; exact hi)
                  have hix : i < xs.length := by
                    rw [hxl]
                    have := (List.getElem?_eq_some_iff.1 hi).1
                    simpa using this
                  rw [List.getElem?_eq_getElem hix] at hfi
                  obtain ⟨_, hq⟩ := ih hlv hfi
                  refine hq (j - acc.length) u v hj ?_
                  have hjl := (List.getElem?_eq_some_iff.1 hj).1
                  rw [List.getElem?_take, if_pos (by omega), List.getElem?_drop, hoff.1]
                  rw [show acc.length + (j - acc.length) = j by omega]
                  exact hv
              · rw [hnone] at hr
                cases hr
        exact key fs.toList (fun _ h => h) [] a (fun j u v hj => by simp at hj) ha
      · cases hb
    · cases h
    · rename_i hns hna
      injection h with h
      subst h
      obtain ⟨v, rfl, ho⟩ := trod_leaf (n := 0) (fun fs hq => hns fs hq) (fun k e hq => hna k e hq) ht
      refine ⟨rfl, fun j u v' hj hv => ?_⟩
      cases j with
      | zero =>
        simp at hj hv
        subst hj; subst hv
        exact ⟨ho, fuel, x, ht⟩
      | succ j => simp at hj
end
end Go.Av
