/- What came in: a slice of structs stands for its rows. -/
import Derived.Test.YtinmcbkebfgekaaAvE1
set_option linter.all false
set_option linter.unusedVariables false
set_option linter.unusedSimpArgs false
namespace Go.Av
open Go.ChangeShapes Go.WideShapes
section
variable {H : Type} {enc : TypeId × Value → H} {P : Program} {w : World} {base : Nat} {spare : Nat → Bool} {held : Bool}
def allG (w : World) : Addr → Prop := fun a => a.block < w.heap.size
theorem cell_below {w : World} {a : Addr} {v : Value} (h : w.cell? a = some v) : a.block < w.heap.size := by
  unfold World.cell? at h
  split at h
  · rename_i hq
    exact (Array.getElem?_eq_some_iff.1 hq).1
  · cases h
theorem rowAt_imm {k : K} {b : Nat} : ∀ (vs : List Value) (o : Nat), (∀ (j : Nat) v, vs[j]? = some v → k.ic ⟨b, o + j, none⟩ v ∧ v.oneCell' = true) → rowAt k (vs.map .imm) b o
  | [], _, _ => by simp [rowAt]
  | v :: vs, o, h => by
    simp only [List.map_cons, rowAt]
    have h0 := h 0 v rfl
    refine ⟨⟨v, h0.1, by simp only [R]; exact ⟨trivial, h0.2⟩, h0.2⟩, rowAt_imm vs (o + 1) fun j u hu => ?_⟩
    have := h (j + 1) u hu
    rw [show o + 1 + j = o + (j + 1) by omega]
    exact this
theorem rowsAt_rows {k : K} {b sz : Nat} : ∀ (rows : List (List AV)) (o : Nat), (∀ (i : Nat) r, rows[i]? = some r → rowAt k r b (o + i * sz) ∧ r.length = sz) → rowsAt k sz rows b o
  | [], _, _ => by simp [rowsAt]
  | r :: rows, o, h => by
    simp only [rowsAt]
    have h0 := h 0 r rfl
    rw [Nat.zero_mul, Nat.add_zero] at h0
    refine ⟨h0.1, h0.2, rowsAt_rows rows (o + sz) fun i r' hr => ?_⟩
    have := h (i + 1) r' hr
    rw [show o + sz + i * sz = o + (i + 1) * sz by rw [Nat.add_mul]; omega]
    exact this
/-- A slice of structs: its elements' cells, one-celled, each of its leaf's type. -/
theorem slice_rows {t e : TypeId} {ts : List TypeId} {n fuel : Nat} {v : Value} {x : DataW H × List MemPlace} (ht : P.underlying t = some (.slice e)) (hl : leaves P n e = some ts) (hc : P.cellsOf e = ts.length) (hpos : 0 < ts.length)
    (h : DataW.trod enc P w base spare held fuel t [v] = some x) :
    ∃ css : List (List Value), R (KG (allG w) w) (.sl ts.length .ro (css.map fun cs => cs.map .imm)) v ∧ ∀ cs ∈ css, cs.length = ts.length ∧ ∀ (j : Nat) (u : TypeId) (c : Value), ts[j]? = some u → cs[j]? = some c → c.oneCell' = true ∧ ∃ (m : Nat) (y : DataW H × List MemPlace), DataW.trod enc P w base spare held m u [c] = some y := by
  rcases Go.Deep.open_slice ht h with ⟨hcs, _⟩ | ⟨a, len, cap, m, n', D, Pl, hcs, _, hle, hcap, hm, _, hx⟩
  · injection hcs with hcs _
    subst hcs
    refine ⟨[], ?_, fun _ h => (by cases h)⟩
    simp only [R, List.map_nil]
    exact ⟨none, 0, rfl, Nat.le_refl _, Nat.zero_le _, fun h => absurd rfl h, trivial⟩
  · injection hcs with hcs _
    subst hcs
    have hlm : len ≤ m := by rw [hm]; split <;> omega
    obtain ⟨C, hC⟩ := Go.Deep.choose_lt (α := List Value) (n := len) (p := fun i cs => w.cells? base (a.add (i * P.cellsOf e)) (P.cellsOf e) = some cs ∧ DataW.trod enc P w base spare held n' e cs = some (D i, Pl i)) fun i hi => hx i (by omega)
    refine ⟨(List.range len).map C, ?_, ?_⟩
    · simp only [R]
      refine ⟨some a, cap, by simp, by simpa using hle, hcap, fun hne => ?_, trivial⟩
      have hlen : 0 < len := by
        rcases Nat.eq_zero_or_pos len with h0 | h0
        · subst h0; exact absurd rfl hne
        · exact h0
      obtain ⟨gb, go, gs⟩ := a
      obtain ⟨h1, h2⟩ := hC 0 hlen
      obtain ⟨_, hl0, hcell⟩ := World.cells?_some h1
      have hgs : gs = none := by
        have hq := hcell 0 (by rw [hc]; omega)
        rw [List.getElem?_eq_getElem (by omega)] at hq
        have := World.cell?_spot hq
        simpa [Addr.add] using this
      subst hgs
      refine ⟨gb, go, rfl, rowsAt_rows _ _ fun i r hr => ?_⟩
      rw [List.map_map, List.getElem?_map] at hr
      obtain ⟨i', hi', rfl⟩ := Option.map_eq_some_iff.1 hr
      have hii : i' = i ∧ i < len := by
        rw [List.getElem?_eq_some_iff] at hi'
        obtain ⟨p1, p2⟩ := hi'
        simp at p1 p2
        exact ⟨p2.symm, p1⟩
      obtain ⟨rfl, hi⟩ := hii
      obtain ⟨g1, g2⟩ := hC i' hi
      obtain ⟨_, hl1, hcell'⟩ := World.cells?_some g1
      obtain ⟨q1, q2⟩ := trod_leaves hl g2
      refine ⟨?_, by simp [q1]⟩
      refine rowAt_imm _ _ fun j c hj => ?_
      have hjl : j < (C i').length := (List.getElem?_eq_some_iff.1 hj).1
      have hce := hcell' j (by rw [hc]; omega)
      rw [hj] at hce
      have hat : ((⟨gb, go, none⟩ : Addr).add (i' * P.cellsOf e)).add j = ⟨gb, go + i' * ts.length + j, none⟩ := by
        have plain : ∀ i, (⟨gb, go, none⟩ : Addr).add i = ⟨gb, go + i, none⟩ := fun i => by
          unfold Addr.add
          split
          · rename_i h0; rw [h0]; rfl
          · rfl
        rw [Go.Deep.add_add, hc, plain, Nat.add_assoc]
      rw [hat] at hce
      obtain ⟨u, hu⟩ : ∃ u, ts[j]? = some u := ⟨_, List.getElem?_eq_getElem (by omega)⟩
      exact ⟨⟨rfl, hce, cell_below hce⟩, (q2 j u c hu hj).1⟩
    · intro cs hcs
      obtain ⟨i, hi, rfl⟩ := List.mem_map.1 hcs
      have hi := List.mem_range.1 hi
      exact trod_leaves hl (hC i hi).2
end
end Go.Av
