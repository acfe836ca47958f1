/-
  OWN TEXT. Regions whose operations are carried out in an order that is drawn.
-/
import Derived.Test.YtinmcbkebfgekaaAv18
import Derived.Orders
set_option linter.all false
set_option linter.unusedVariables false
set_option linter.unusedSimpArgs false
namespace Go.Av
variable {σ : Type}

/-- A step that must meet what it is said to meet. -/
def stepE (Φ : Orc) (k : Nat) (e : Eff) (o : AOper) (s : St σ) : Option (St σ) := if eff (k + o.dst.getD 0) s o.op = e then stepA Φ k s o else none

theorem wantedA_congr {s s' : St σ} {o : AOper} (h : ∀ i, i ∈ o.slots → s'.env i = s.env i) : wantedA s' o.guard = wantedA s o.guard := by
  unfold wantedA
  cases e : o.guard with
  | none => rfl
  | some g =>
    obtain ⟨g, b⟩ := g
    simp only [h g (by simp [AOper.slots, e])]
theorem eff_congr {d : Nat} {s s' : St σ} {o : AOper} (h : ∀ i, i ∈ o.slots → s'.env i = s.env i) : eff d s' o.op = eff d s o.op := by
  have he : ∀ x, x ∈ o.op.opnds → s'.ev x = s.ev x := fun x hx => ev_congr h hx
  cases e : o.op <;> rw [e] at he <;> simp only [AOp.opnds, List.mem_cons, List.not_mem_nil, or_false, forall_eq_or_imp, forall_eq] at he <;> simp only [eff] <;> first
    | rfl
    | (simp only [he]; done)
    | skip
  case call f args =>
    rw [show (args.map fun x => (s'.ev x).weaks) = args.map fun x => (s.ev x).weaks from List.map_congr_left fun x hx => by rw [he x hx]]
  case callv y args =>
    rw [he.1, show (args.map fun x => (s'.ev x).weaks) = args.map fun x => (s.ev x).weaks from List.map_congr_left fun x hx => by rw [he.2 x hx]]

theorem frame_step (Φ : Orc) (k : Nat) (e : Eff) (o : AOper) : Frame (stepE (σ := σ) Φ k e o) (Rd o e) (Wr o e) := by
  intro s r h
  unfold stepE at h
  split at h
  · rename_i hp
    unfold stepA at h
    split at h
    · rename_i hw
      obtain ⟨q, hq, hr⟩ := Option.map_eq_some_iff.1 h
      obtain ⟨v, s1⟩ := q
      simp only at hr
      subst hr
      have key := fun (s' : St σ) (hR : ∀ l, Rd o e l → eqAt s s' l) => act_frame (s' := s') hp (fun x hx => ev_congr (fun i hi => hR (.env i) hi) hx) (fun i hi => hR (.var i) hi) (fun i hi => hR (.tok i) hi) hq
      refine ⟨?_, fun s' hx hR => ?_⟩
      · obtain ⟨⟨k1, k2, k3, k4⟩, _⟩ := key s (fun l _ => eqAt.refl _ _)
        refine ⟨put_x.trans k1, fun l hl => ?_⟩
        refine eqAt.trans ?_ (put_loc fun i hi hd => hl (by rw [hi]; exact hd))
        cases l with
        | env i => exact congrFun k2 i
        | var i => exact k3 i hl
        | tok i => exact k4 i hl
      · obtain ⟨⟨k1, k2, k3, k4⟩, s1', m1, m2, m3, m4, m5, m6, m7⟩ := key s' hR
        have hs : ∀ i, i ∈ o.slots → s'.env i = s.env i := fun i hi => hR (.env i) hi
        refine ⟨s1'.put o.dst v, ?_, put_x.trans m2, fun l hl => ?_, fun l hl => ?_⟩
        · unfold stepE
          rw [if_pos ((eff_congr hs).trans hp)]
          unfold stepA
          rw [wantedA_congr hs, hw]
          simp [m1]
        · cases l with
          | env i => exact put_env hl
          | var i => exact ((put_loc (fun _ h => by cases h)).symm.trans (m4 i hl)).trans (put_loc fun _ h => by cases h)
          | tok i => exact ((put_loc (fun _ h => by cases h)).symm.trans (m5 i hl)).trans (put_loc fun _ h => by cases h)
        · refine eqAt.trans ?_ (put_loc fun i hi hd => hl (by rw [hi]; exact hd))
          cases l with
          | env i => exact congrFun m3 i
          | var i => exact m6 i hl
          | tok i => exact m7 i hl
    · rename_i hw
      cases h
      refine ⟨⟨put_x, fun l hl => put_loc fun i hi hd => hl (by rw [hi]; exact hd)⟩, fun s' hx hR => ?_⟩
      have hs : ∀ i, i ∈ o.slots → s'.env i = s.env i := fun i hi => hR (.env i) hi
      refine ⟨s'.put o.dst undefA, ?_, put_x, fun l hl => ?_, fun l hl => put_loc fun i hi hd => hl (by rw [hi]; exact hd)⟩
      · unfold stepE
        rw [if_pos ((eff_congr hs).trans hp)]
        unfold stepA
        rw [wantedA_congr hs, hw]
      · cases l with
        | env i => exact put_env hl
        | var i =>
          refine ((put_loc (fun _ h => by cases h)).symm.trans (hR (.var i) (.inl ?_))).trans (put_loc fun _ h => by cases h)
          have hl' : i ∈ e.wr := hl
          rw [← hp] at hl' ⊢
          exact eff_sub _ _ _ i hl'
        | tok i => exact ((put_loc (fun _ h => by cases h)).symm.trans (hR (.tok i) hl)).trans (put_loc fun _ h => by cases h)
    · cases h
  · cases h

/-! ### which operations do not meet -/
def meets (l : List Nat) : Option Nat → Bool
  | some d => l.contains d
  | none => false
/-- x (first in the text) and y may be exchanged. -/
def apart (x : AOper) (ex : Eff) (y : AOper) (ey : Eff) : Bool :=
  !meets y.slots x.dst && !meets x.slots y.dst && !(x.dst.isSome && x.dst == y.dst) &&
  (ex.wr.all (fun i => !ey.rd.contains i && !ey.wr.contains i && !ey.all) && ey.wr.all (fun i => !ex.rd.contains i && !ex.all) && ex.tk.all (fun i => !ey.tk.contains i))
theorem apart_spec {x y : AOper} {ex ey : Eff} (h : apart x ex y ey = true) : (∀ l, Wr x ex l → ¬ Rd y ey l ∧ ¬ Wr y ey l) ∧ ∀ l, Wr y ey l → ¬ Rd x ex l := by
  simp only [apart, Bool.and_eq_true, Bool.not_eq_true'] at h
  obtain ⟨⟨⟨h1, h2⟩, h3⟩, ⟨h4, h5⟩, h6⟩ := h
  simp only [List.all_eq_true, Bool.and_eq_true, Bool.not_eq_true', List.contains_eq_mem, decide_eq_false_iff_not] at h4 h5 h6
  refine ⟨fun l hl => ?_, fun l hl => ?_⟩
  · cases l with
    | env i =>
      simp only [Wr] at hl
      simp only [meets, hl] at h1
      simp only [hl] at h3
      refine ⟨fun hr => ?_, fun hw => ?_⟩
      · simp only [Rd] at hr; simp [hr] at h1
      · simp only [Wr] at hw; simp [hw] at h3
    | var i =>
      obtain ⟨⟨a1, a2⟩, a3⟩ := h4 i hl
      refine ⟨fun hr => ?_, a2⟩
      rcases hr with hr | hr
      · exact a1 hr
      · rw [a3] at hr; cases hr
    | tok i => exact ⟨h6 i hl, h6 i hl⟩
  · cases l with
    | env i =>
      simp only [Wr] at hl
      simp only [meets, hl] at h2
      intro hr
      simp only [Rd] at hr
      simp [hr] at h2
    | var i =>
      obtain ⟨a1, a2⟩ := h5 i hl
      rintro (hr | hr)
      · exact a1 hr
      · rw [a2] at hr; cases hr
    | tok i => exact fun hr => h6 i hr hl

/-! ### orders -/
def runG (G : Nat → St σ → Option (St σ)) : List Nat → St σ → Option (St σ)
  | [], s => some s
  | i :: r, s => match G i s with | some s1 => runG G r s1 | none => none
theorem runG_move {G : Nat → St σ → Option (St σ)} {i : Nat} {post : List Nat} {t : St σ} : ∀ (pre : List Nat) (s : St σ), (∀ j, j ∈ pre → ∀ s s1 s2, G j s = some s1 → G i s1 = some s2 → ∃ s1', G i s = some s1' ∧ G j s1' = some s2) → runG G (pre ++ i :: post) s = some t → runG G (i :: (pre ++ post)) s = some t
  | [], s, _, h => h
  | j :: pre, s, hp, h => by
    simp only [List.cons_append, runG] at h
    split at h
    · rename_i s1 e1
      have h' := runG_move pre s1 (fun k hk => hp k (by simp [hk])) h
      simp only [runG] at h'
      split at h'
      · rename_i s2 e2
        obtain ⟨s1', f1, f2⟩ := hp j (by simp) s s1 s2 e1 e2
        simp only [List.cons_append, runG, f1, f2]
        exact h'
      · cases h'
    · cases h

def dirs (ops : Array Oper) (i : Nat) : List Nat :=
  match ops[i]? with
  | some o => (o.after.toList.filter (Region.binds .any)).map (·.on)
  | none => []
def addAll (l : List Nat) : List Nat → List Nat
  | [] => l
  | x :: xs => if l.contains x then addAll l xs else addAll (x :: l) xs
/-- What comes before each operation, by one way or more. -/
def befs (ops : Array Oper) : List (List Nat) :=
  (List.range ops.size).foldl (fun acc i => acc ++ [addAll [] (dirs ops i ++ (dirs ops i).flatMap fun k => acc.getD k [])]) []
def befOk (ops : Array Oper) (bef : List (List Nat)) : Bool :=
  (List.range ops.size).all fun i => (dirs ops i).all (fun k => decide (k < i)) && (bef.getD i []).all fun j => (dirs ops i).contains j || (dirs ops i).any fun k => (bef.getD k []).contains j
def noEff : Eff := ⟨[], [], [], false⟩
def pairsOk (al : List AOper) (lg : List Eff) (bef : List (List Nat)) : Bool :=
  (List.range al.length).all fun i => (List.range i).all fun j => (bef.getD i []).contains j || (match al[j]?, al[i]? with | some x, some y => apart x (lg.getD j noEff) y (lg.getD i noEff) | _, _ => false)

theorem befOk_spec {ops : Array Oper} {bef : List (List Nat)} (h : befOk ops bef = true) {i : Nat} (hi : i < ops.size) : (∀ k, k ∈ dirs ops i → k < i) ∧ ∀ j, j ∈ bef.getD i [] → j ∈ dirs ops i ∨ ∃ k, k ∈ dirs ops i ∧ j ∈ bef.getD k [] := by
  unfold befOk at h
  rw [List.all_eq_true] at h
  have := h i (List.mem_range.2 hi)
  simp only [Bool.and_eq_true, List.all_eq_true, decide_eq_true_eq, Bool.or_eq_true, List.contains_eq_mem, List.any_eq_true] at this
  exact this
theorem pairsOk_spec {al : List AOper} {lg : List Eff} {bef : List (List Nat)} (h : pairsOk al lg bef = true) {i j : Nat} {x y : AOper} (hj : j < i) (hx : al[j]? = some x) (hy : al[i]? = some y) :
    j ∈ bef.getD i [] ∨ apart x (lg.getD j noEff) y (lg.getD i noEff) = true := by
  unfold pairsOk at h
  rw [List.all_eq_true] at h
  have := h i (List.mem_range.2 (List.getElem?_eq_some_iff.1 hy).1)
  rw [List.all_eq_true] at this
  have := this j (List.mem_range.2 hj)
  rw [hx, hy] at this
  simp only [Bool.or_eq_true, List.contains_eq_mem, decide_eq_true_eq] at this
  exact this

/-- What is listed, and what is left. -/
structure Left (ops : Array Oper) (listed : Array Bool) (rem : List Nat) : Prop where
  size : listed.size = ops.size
  sorted : rem.Pairwise (· < ·)
  mem : ∀ i, i ∈ rem ↔ i < ops.size ∧ listed.getD i true = false
  closed : ∀ i, i < ops.size → listed.getD i false = true → ∀ k, k ∈ dirs ops i → listed.getD k false = true

theorem getD_tf {l : Array Bool} {i : Nat} (h : i < l.size) : l.getD i true = l.getD i false := by simp [Array.getD_eq_getD_getElem?, h]
theorem Left.bef {ops : Array Oper} {bef : List (List Nat)} {listed : Array Bool} {rem : List Nat} (hb : befOk ops bef = true) (h : Left ops listed rem) : ∀ (n i : Nat), i < n → i < ops.size → (∀ k, k ∈ dirs ops i → listed.getD k false = true) → ∀ j, j ∈ bef.getD i [] → listed.getD j false = true
  | 0, i, hn, hi, hd, j, hj => absurd hn (Nat.not_lt_zero _)
  | n + 1, i, hn, hi, hd, j, hj => by
    obtain ⟨h1, h2⟩ := befOk_spec hb hi
    rcases h2 j hj with hk | ⟨k, hk, hjk⟩
    · exact hd j hk
    · have hki := h1 k hk
      exact Left.bef hb h n k (by omega) (by omega) (h.closed k (by omega) (hd k hk)) j hjk
theorem ready_dirs {ops : Array Oper} {listed : Array Bool} {i : Nat} (h : i ∈ Region.ready .any ops listed) : listed.getD i true = false ∧ i < ops.size ∧ ∀ k, k ∈ dirs ops i → listed.getD k false = true := by
  obtain ⟨h1, o, ho, h2⟩ := mem_ready.1 h
  refine ⟨h1, (Array.getElem?_eq_some_iff.1 ho).1, fun k hk => ?_⟩
  unfold dirs at hk
  rw [ho] at hk
  simp only [List.mem_map, List.mem_filter] at hk
  obtain ⟨e, ⟨he, hb⟩, rfl⟩ := hk
  exact h2 e (by simpa using he) hb
theorem Left.first {ops : Array Oper} {bef : List (List Nat)} {listed : Array Bool} {i : Nat} {rem : List Nat} (hb : befOk ops bef = true) (h : Left ops listed (i :: rem)) : i ∈ Region.ready .any ops listed := by
  obtain ⟨hi, hl⟩ := (h.mem i).1 (by simp)
  refine mem_ready.2 ⟨hl, ops[i], Array.getElem?_eq_getElem hi, fun e he hbd => ?_⟩
  have hk : e.on ∈ dirs ops i := by
    unfold dirs
    rw [Array.getElem?_eq_getElem hi]
    simp only [List.mem_map, List.mem_filter]
    exact ⟨e, ⟨by simpa using he, hbd⟩, rfl⟩
  have hlt := (befOk_spec hb hi).1 _ hk
  cases e' : listed.getD e.on false with
  | true => rfl
  | false =>
    have hm : e.on ∈ i :: rem := (h.mem e.on).2 ⟨by omega, by rw [getD_tf (by rw [h.size]; omega)]; exact e'⟩
    rcases List.mem_cons.1 hm with he | he
    · omega
    · have := (List.pairwise_cons.1 h.sorted).1 _ he
      omega
theorem Left.next {ops : Array Oper} {bef : List (List Nat)} {listed : Array Bool} {i : Nat} {pre post : List Nat} (h : Left ops listed (pre ++ i :: post)) (hd : ∀ k, k ∈ dirs ops i → listed.getD k false = true) : Left ops (listed.setIfInBounds i true) (pre ++ post) := by
  obtain ⟨hi, hl⟩ := (h.mem i).1 (by simp)
  have hs := h.sorted
  have hnot : i ∉ pre ++ post := by
    intro hm
    rcases List.mem_append.1 hm with hm | hm
    · have := (List.pairwise_append.1 hs).2.2 i hm i (by simp)
      omega
    · have := (List.pairwise_cons.1 (List.pairwise_append.1 hs).2.1).1 i hm
      omega
  refine ⟨by simp [h.size], ?_, fun j => ?_, fun j hj hlj k hk => ?_⟩
  · exact hs.sublist (List.Sublist.append (List.Sublist.refl _) (List.sublist_cons_self _ _))
  · have hm := h.mem j
    have hmem : j ∈ pre ++ i :: post ↔ j = i ∨ j ∈ pre ++ post := by simp only [List.mem_append, List.mem_cons]; exact ⟨fun q => by rcases q with q | q | q <;> simp [q], fun q => by rcases q with q | q | q <;> simp [q]⟩
    by_cases hji : j = i
    · subst hji
      have : (listed.setIfInBounds j true).getD j true = true := by simp [Array.getD_eq_getD_getElem?, h.size, hi]
      rw [this]
      simp [hnot]
    · rw [getD_set_ne _ (Ne.symm hji)]
      rw [← hm, hmem]
      simp [hji]
  · by_cases hji : j = i
    · subst hji
      exact getD_set_true (hd k hk)
    · rw [getD_set_ne _ (Ne.symm hji)] at hlj
      exact getD_set_true (h.closed j hj hlj k hk)

section
variable {P : Program} {T : List Nat} {c : Cx σ}
theorem compL_get {ops : Array Oper} : ∀ {l : List Oper} {al : List AOper}, compL P T c.nt ops l = some al → al.length = l.length ∧ ∀ (i : Nat) (o : Oper), l[i]? = some o → ∃ ao, al[i]? = some ao ∧ compO P T c.nt ops o = some ao
  | [], al, h => by simp only [compL, Option.some.injEq] at h; subst h; simp
  | o :: l, al, h => by
    simp only [compL] at h
    split at h
    · rename_i ao al' h1 h2
      injection h with h
      subst h
      obtain ⟨k1, k2⟩ := compL_get h2
      refine ⟨by simp [k1], fun i o' hi => ?_⟩
      cases i with
      | zero => simp at hi; subst hi; exact ⟨ao, by simp, h1⟩
      | succ i => simpa using k2 i o' (by simpa using hi)
    · cases h

/-- All orders lead to the state to which the order of the text leads. -/
theorem any_sim {ops : Array Oper} {al : List AOper} {bef : List (List Nat)} {Q : Exit → Act → World → Prop} (hcl : compL P T c.nt ops ops.toList = some al) (hb : befOk ops bef = true)
    {Φs : Nat → Orc} {k : Nat} {lg : List Eff} (hΦ : ∀ i, Specs σ P T (Φs i)) (hp : pairsOk al lg bef = true) {t : St σ} {ob : Nat → Value → Prop} (hQ : ∀ a w ow τ, FR c t a w ow τ ob → Q .normal a w) :
    ∀ (fuel : Nat) (listed : Array Bool) (rem : List Nat) (s : St σ) (a : Act) (w : World) (ow : Nat → Own) (τ : Nat → Nat), rem.length ≤ fuel → Left ops listed rem →
      runG (fun i s => match al[i]? with | some o => stepE (Φs i) k (lg.getD i noEff) o s | none => none) rem s = some t → FR c s a w ow τ ob → wpAny P .any ops Q fuel listed a w
  | 0, listed, rem, s, a, w, ow, τ, hf, hl, hr, hF => by
    have : rem = [] := List.length_eq_zero_iff.1 (by omega)
    subst this
    simp only [runG, Option.some.injEq] at hr
    subst hr
    refine ⟨?_, hQ a w ow τ hF⟩
    rw [List.eq_nil_iff_forall_not_mem]
    intro i hi
    obtain ⟨h1, h2, _⟩ := ready_dirs hi
    have := (hl.mem i).2 ⟨h2, h1⟩
    simp at this
  | fuel + 1, listed, rem, s, a, w, ow, τ, hf, hl, hr, hF => by
    refine ⟨fun hnil => ?_, fun i hi => ?_⟩
    · cases rem with
      | nil =>
        simp only [runG, Option.some.injEq] at hr
        subst hr
        exact hQ a w ow τ hF
      | cons i rem =>
        have := hl.first hb
        rw [hnil] at this
        simp at this
    · obtain ⟨h1, h2, h3⟩ := ready_dirs hi
      have hm := (hl.mem i).2 ⟨h2, h1⟩
      obtain ⟨pre, post, rfl⟩ := List.append_of_mem hm
      have ho : ops[i]? = some ops[i] := Array.getElem?_eq_getElem h2
      obtain ⟨hlen, hget⟩ := compL_get hcl
      obtain ⟨ao, hao, hco⟩ := hget i ops[i] (by simpa using ho)
      have hr' := runG_move pre s (fun j hj s s1 s2 e1 e2 => by
        have hji : j < i := (List.pairwise_append.1 hl.sorted).2.2 j hj i (by simp)
        obtain ⟨hjs, hjl⟩ := (hl.mem j).1 (by simp [hj])
        obtain ⟨aj, haj, _⟩ := hget j ops[j] (by simp [hjs])
        simp only [haj] at e1
        simp only [hao] at e2
        simp only [haj, hao]
        rcases pairsOk_spec hp hji haj hao with hbf | hap
        · have := hl.bef hb (i + 1) i (by omega) h2 h3 j hbf
          rw [getD_tf (by rw [hl.size]; exact hjs)] at hjl
          rw [hjl] at this
          cases this
        · obtain ⟨w1, w2⟩ := apart_spec hap
          exact swap (frame_step _ _ _ _) (frame_step _ _ _ _) w1 w2 e1 e2) hr
      simp only [runG, hao] at hr'
      split at hr'
      · rename_i s1 e1
        unfold stepE at e1
        split at e1
        · unfold wpOp
          rw [ho]
          simp only []
          refine step_sim (hΦ i) hco e1 hF fun a' w' ow' τ' hF' => ?_
          exact any_sim hcl hb hΦ hp hQ fuel _ (pre ++ post) s1 a' w' ow' τ' (by simp at hf ⊢; omega) (hl.next (bef := bef) h3) hr' hF'
        · cases e1
      · cases hr'
end
end Go.Av
