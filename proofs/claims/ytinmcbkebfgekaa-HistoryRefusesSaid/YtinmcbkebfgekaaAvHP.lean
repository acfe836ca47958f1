/- OWN TEXT. Histories: plain facts. -/
import Derived.Test.YtinmcbkebfgekaaAvH9
set_option linter.all false
set_option linter.unusedVariables false
set_option linter.unusedSimpArgs false
namespace Go.Av
theorem ordK_day {a b : Known} (h : ordK a b < 0) : a.day ≤ b.day := by rw [ordK_lt] at h; omega
theorem upTo_filter {l : List Known} (h : l.Pairwise fun a b => ordK a b < 0) (d : Int) : upTo l d = l.filter fun k => decide (k.day ≤ d) := by
  induction l with
  | nil => rfl
  | cons a l ih =>
    rw [List.pairwise_cons] at h
    unfold upTo at ih ⊢
    by_cases ha : a.day ≤ d
    · simp only [List.takeWhile_cons, List.filter_cons, ha, decide_true, if_true]
      rw [ih h.2]
    · simp only [List.takeWhile_cons, List.filter_cons, ha, decide_false, Bool.false_eq_true, if_false]
      symm
      rw [List.filter_eq_nil_iff]
      intro b hb
      have := ordK_day (h.1 b hb)
      simp only [decide_eq_true_eq]
      omega
theorem mem_upTo {l : List Known} (h : Good l) {a : Known} {d : Int} : a ∈ upTo l d ↔ a ∈ l ∧ a.day ≤ d := by
  rw [upTo_filter h.ord, List.mem_filter, decide_eq_true_eq]
theorem upTo_all {l : List Known} (h : Good l) : upTo l 1000000 = l := by
  rw [upTo_filter h.ord, List.filter_eq_self]
  intro a ha
  have := (h.val a ha).2.1
  simpa using this
theorem since_none {l : List Known} (h : Good l) {id : ByteArray} (hn : ¬ HasK (upTo l 1000000) id) : sinceDay l id = 0 := by
  unfold sinceDay sinceK
  rw [List.find?_eq_none.2 fun x hx he => hn ⟨x, hx, of_decide_eq_true he⟩]
theorem since_some {l : List Known} (h : Good l) {id : ByteArray} (hn : HasK (upTo l 1000000) id) : 0 ≤ sinceDay l id ∧ sinceDay l id ≤ 1000000 ∧ HasK (upTo l (sinceDay l id)) id ∧ ¬ HasK (upTo l (sinceDay l id - 1)) id := by
  obtain ⟨x, hx, hxi⟩ := hn
  cases hf : (upTo l 1000000).find? fun k => decide (k.id = id) with
  | none => exact absurd (List.find?_eq_none.1 hf x hx) (by simp [hxi])
  | some k =>
    have hd : sinceDay l id = k.day := by unfold sinceDay sinceK; rw [hf]
    rw [upTo_all h] at hf
    obtain ⟨hp, as, bs, hl, has⟩ := List.find?_eq_some_iff_append.1 hf
    have hk : k ∈ l := by rw [hl]; simp
    have hki : k.id = id := of_decide_eq_true hp
    have hv := h.val k hk
    rw [hd]
    refine ⟨hv.1, hv.2.1, ⟨k, (mem_upTo h).2 ⟨hk, Int.le_refl _⟩, hki⟩, ?_⟩
    rintro ⟨a, ha, hai⟩
    obtain ⟨ha, had⟩ := (mem_upTo h).1 ha
    rw [hl] at ha
    rcases List.mem_append.1 ha with ha | ha
    · have := has a ha
      simp [hai] at this
    · rcases List.mem_cons.1 ha with rfl | ha
      · omega
      · have ho := h.ord
        rw [hl, List.pairwise_append] at ho
        have := ordK_day ((List.pairwise_cons.1 ho.2.1).1 a ha)
        omega
theorem upTo_le (l : List Known) (d : Int) : (upTo l d).length ≤ l.length := (List.takeWhile_sublist _).length_le
end Go.Av
