/- An act that came in, as an act. -/
import Derived.Test.YtinmcbkebfgekaaAvHE
set_option linter.all false
set_option linter.unusedVariables false
set_option linter.unusedSimpArgs false
namespace Go.Av
open Go.ChangeShapes Go.WideShapes
section
variable {H : Type} {enc : TypeId × Value → H} {w : World} {base : Nat} {spare : Nat → Bool} {held : Bool}
theorem Rs_imms {k : K} : ∀ (vs : List Value), (∀ v ∈ vs, v.oneCell' = true) → Rs k (vs.map .imm) vs
  | [], _ => by simp [Rs]
  | v :: vs, h => by
    simp only [List.map_cons, Rs]
    exact ⟨v, vs, rfl, by simp only [R]; exact ⟨trivial, h v (.head _)⟩, h v (.head _), Rs_imms vs fun u hu => h u (.tail _ hu)⟩
theorem known_val {fuel : Nat} {cs : Array Value} {x : DataW H × List MemPlace} (h : DataW.trod enc Go.Proofs.Try.prog w base spare held fuel 56 (Value.agg cs).cells.toList = some x) : ∃ kk : Known, ∃ arr, Value.agg cs = Value.agg arr ∧ Rs (KG (allG w) w) kk.row arr.toList := by
  have e : (Value.agg cs).cells.toList = cs.toList := rfl
  rw [e] at h
  obtain ⟨h1, h2⟩ := trod_leaves leavesKnown h
  obtain ⟨k, hk⟩ := known_of h1 h2
  refine ⟨k, cs, rfl, ?_⟩
  rw [← hk]
  refine Rs_imms _ fun v hv => ?_
  obtain ⟨j, hj, rfl⟩ := List.mem_iff_getElem.1 hv
  exact (h2 j _ _ (List.getElem?_eq_getElem (by omega)) (List.getElem?_eq_getElem hj)).1
end
end Go.Av
