/-
  OWN TEXT. Slices over variables: a variable given up, a block taken over; the operations on such slices.
-/
import Derived.Test.YtinmcbkebfgekaaAv13
import Derived.Laws.MakeOwn
set_option linter.all false
set_option linter.unusedVariables false
set_option linter.unusedSimpArgs false
namespace Go.Av
variable {σ : Type}
section
variable {P : Program} {T : List Nat} {Φ : Orc} {d : Nat} {c : Cx σ} {st st' : St σ} {x : AV} {a : Act} {w : World} {ow : Nat → Own} {τ : Nat → Nat} {ob : Nat → Value → Prop}
  {dst : Option Nat} {type : TypeId} {pos : String} {after : Array Edge} {guard : Option (Nat × Bool)}

/-! ### a variable is given up -/
def killOwn (o : Nat → Own) (d : Nat) : Nat → Own := fun b => match o b with | .var d' => if d' = d then .junk else .var d' | x => x
theorem killOwn_var {o : Nat → Own} {d d' b : Nat} (h : killOwn o d b = .var d') : o b = .var d' ∧ d' ≠ d := by
  unfold killOwn at h
  split at h
  · split at h
    · cases h
    · rename_i e h2; injection h with h; subst h; exact ⟨e, h2⟩
  · rename_i hn; exact absurd h (hn d')
theorem killOwn_at {o : Nat → Own} {d b : Nat} (h : o b = .var d) : killOwn o d b = .junk := by simp [killOwn, h]
theorem killOwn_ne {o : Nat → Own} {d b d' : Nat} (h : o b = .var d') (hd : d' ≠ d) : killOwn o d b = .var d' := by simp [killOwn, h, hd]
theorem killOwn_other {o : Nat → Own} {d b : Nat} (h : ∀ d', o b ≠ .var d') : killOwn o d b = o b := by
  unfold killOwn
  split
  · rename_i d' e; exact absurd e (h d')
  · rfl
theorem FR.kill (h : FR c st a w ow τ ob) (d : Nat) : FR c (st.kill d) a w (killOwn ow d) τ ob ∧ KLe (Kof c st w ow τ ob) (Kof c (st.kill d) w (killOwn ow d) τ ob) := by
  have hk : KLe (Kof c st w ow τ ob) (Kof c (st.kill d) w (killOwn ow d) τ ob) := by
    refine KLe_of (fun _ _ => rfl) ?_ ?_ ?_ ?_ (fun _ => Nat.le_refl _) (fun _ _ _ h => h) ?_ (fun _ _ h => h)
    · intro p hb hi
      exact ⟨rfl, (killOwn_other (by rw [hi]; simp)).trans hi⟩
    · intro p t hb hi hlt
      exact ⟨rfl, .inr ⟨t, (killOwn_other (by rw [hi]; simp)).trans hi, hlt⟩⟩
    · intro d'
      simp only [St.kill, upd]
      split
      · rename_i e; subst e; omega
      · exact Nat.le_refl _
    · intro d' b hg hb hv
      refine ⟨killOwn_ne hv ?_, fun _ hq => hq⟩
      rintro rfl
      simp [St.kill, upd] at hg
    · intro t n b cur T _ _ hb ht hc
      exact ⟨(killOwn_other (by rw [ht]; simp)).trans ht, rfl, cur, T, hc, rfl⟩
  refine ⟨h.turn rfl hk (Keeps.refl _ _ _) ?_ ?_ ?_ ?_, hk⟩
  · intro b hb ho
    refine h.lt b hb fun e => ho ?_
    rw [killOwn_other (by rw [e]; simp)]; exact e
  · intro d' b hb hv
    obtain ⟨hv', hd⟩ := killOwn_var hv
    obtain ⟨obj, hc, hr⟩ := h.vars d' b hb hv'
    refine ⟨obj, hc, ?_⟩
    show VR _ (upd st.var d [] d') _
    rw [upd_ne _ _ _ hd]
    exact VR_mono hk hr
  · intro d' b b' hb hb' hv hv'
    exact h.uniq d' b b' hb hb' (killOwn_var hv).1 (killOwn_var hv').1
  · have : (fun b => (b < c.base ∧ c.E0 b) ∨ (c.base ≤ b ∧ killOwn ow d b = .ext)) = (fun b => (b < c.base ∧ c.E0 b) ∨ (c.base ≤ b ∧ ow b = .ext)) := by
      funext b
      apply propext
      refine or_congr Iff.rfl (and_congr_right fun hb => ⟨fun hx => ?_, fun hx => ?_⟩)
      · unfold killOwn at hx
        split at hx
        · split at hx <;> cases hx
        · exact hx
      · exact (killOwn_other (by rw [hx]; simp)).trans hx
    rw [this]
    exact h.ext

/-! ### a block that is nobody's becomes a variable -/
def adoptOwn (o : Nat → Own) (n d : Nat) : Nat → Own := fun b => if b = n then .var d else killOwn o d b
theorem adoptOwn_new (o : Nat → Own) (n d : Nat) : adoptOwn o n d n = .var d := by simp [adoptOwn]
theorem adoptOwn_ne {o : Nat → Own} {n d b : Nat} (h : b ≠ n) : adoptOwn o n d b = killOwn o d b := by simp [adoptOwn, h]
theorem FR.adopt (h : FR c st a w ow τ ob) {b : Nat} (d : Nat) (hb : c.base ≤ b) (hj : ow b = .junk) {cs0 : Array Value} {T0 : TypeId} (hc0 : w.heap[b]? = some (.cells cs0 T0 (0, 0))) {xs : List AV} {cs : List Value}
    (h1 : ∀ v ∈ cs, v.oneCell' = true) (hr : Rs (Kof c st w ow τ ob) xs (cs.take xs.length)) :
    FR c (st.newVar d xs) a (w.setRow b cs.toArray) (adoptOwn ow b d) τ ob ∧ KLe (Kof c st w ow τ ob) (Kof c (st.newVar d xs) (w.setRow b cs.toArray) (adoptOwn ow b d) τ ob) ∧
    (Kof c (st.newVar d xs) (w.setRow b cs.toArray) (adoptOwn ow b d) τ ob).pg d (st.gen d + 1) ∧ ∀ z, z ≤ cs.length → (Kof c (st.newVar d xs) (w.setRow b cs.toArray) (adoptOwn ow b d) τ ob).vb d b (some z) := by
  have hcell : ∀ p : Addr, p.block ≠ b → (w.setRow b cs.toArray).cell? p = w.cell? p := fun p hp => cell_setRow_other w b _ p hp
  have hheap : (w.setRow b cs.toArray).heap[b]? = some (.cells cs.toArray T0 (0, 0)) := setRow_heap w b cs0 _ T0 _ hc0
  have hk : KLe (Kof c st w ow τ ob) (Kof c (st.newVar d xs) (w.setRow b cs.toArray) (adoptOwn ow b d) τ ob) := by
    refine KLe_of ?_ ?_ ?_ ?_ ?_ (fun _ => Nat.le_refl _) (fun _ _ _ h => h) ?_ (fun _ _ h => h)
    · intro p hp
      have := (c.g0 p hp).1
      exact hcell p (by omega)
    · intro p hb' hi
      have e : p.block ≠ b := by rintro e; rw [e, hj] at hi; cases hi
      exact ⟨hcell p e, (adoptOwn_ne e).trans ((killOwn_other (by rw [hi]; simp)).trans hi)⟩
    · intro p t hb' hi hlt
      have e : p.block ≠ b := by rintro e; rw [e, hj] at hi; cases hi
      exact ⟨hcell p e, .inr ⟨t, (adoptOwn_ne e).trans ((killOwn_other (by rw [hi]; simp)).trans hi), hlt⟩⟩
    · intro d'
      show st.gen d' ≤ upd st.gen d (st.gen d + 1) d'
      unfold upd; split
      · rename_i e; subst e; omega
      · omega
    · intro d' b' hg hb' hv
      have hd : d' ≠ d := by
        rintro rfl
        simp [St.newVar, upd] at hg
      have e : b' ≠ b := by rintro e; rw [e, hj] at hv; cases hv
      exact ⟨(adoptOwn_ne e).trans (killOwn_ne hv hd), fun q hq => by rw [setRow_other w b b' _ e]; exact hq⟩
    · intro t n b' cur T' _ _ hb' ht hc
      have e : b' ≠ b := by rintro e; rw [e, hj] at ht; cases ht
      exact ⟨(adoptOwn_ne e).trans ((killOwn_other (by rw [ht]; simp)).trans ht), rfl, cur, T', by rw [setRow_other w b b' _ e]; exact hc, rfl⟩
  have hinv : ∀ d' b', b' ≠ b → adoptOwn ow b d b' = .var d' → ow b' = .var d' ∧ d' ≠ d := fun d' b' e hv => killOwn_var ((adoptOwn_ne e).symm.trans hv)
  refine ⟨h.turn rfl hk (h.setRow_keeps hb _) ?_ ?_ ?_ ?_, hk, ?_, ?_⟩
  · intro b' hb' ho
    rw [size_setRow]
    by_cases e : b' = b
    · subst e; exact h.lt b' hb' (by rw [hj]; simp)
    · refine h.lt b' hb' fun e' => ho ?_
      rw [adoptOwn_ne e, killOwn_other (by rw [e']; simp)]; exact e'
  · intro d' b' hb' hv
    by_cases e : b' = b
    · subst e
      rw [adoptOwn_new] at hv
      injection hv with hv
      subst hv
      refine ⟨_, hheap, ?_⟩
      show VR _ (upd st.var d xs d) _
      rw [upd_same]
      exact ⟨rfl, by simpa using h1, by simpa using Rs_mono hk _ _ hr⟩
    · obtain ⟨hv', hd⟩ := hinv d' b' e hv
      obtain ⟨obj', hc, hr'⟩ := h.vars d' b' hb' hv'
      refine ⟨obj', by rw [setRow_other w b b' _ e]; exact hc, ?_⟩
      show VR _ (upd st.var d xs d') _
      rw [upd_ne _ _ _ hd]
      exact VR_mono hk hr'
  · intro d' b1 b2 hb1 hb2 hv hv'
    by_cases e : b1 = b
    · by_cases e' : b2 = b
      · omega
      · subst e
        rw [adoptOwn_new] at hv
        injection hv with hv
        exact absurd hv.symm (hinv _ _ e' hv').2
    · by_cases e' : b2 = b
      · subst e'
        rw [adoptOwn_new] at hv'
        injection hv' with hv'
        exact absurd hv'.symm (hinv _ _ e hv).2
      · exact h.uniq d' b1 b2 hb1 hb2 (hinv _ _ e hv).1 (hinv _ _ e' hv').1
  · have : (fun b' => (b' < c.base ∧ c.E0 b') ∨ (c.base ≤ b' ∧ adoptOwn ow b d b' = .ext)) = (fun b' => (b' < c.base ∧ c.E0 b') ∨ (c.base ≤ b' ∧ ow b' = .ext)) := by
      funext b'
      apply propext
      refine or_congr Iff.rfl (and_congr_right fun hb' => ⟨fun hx => ?_, fun hx => ?_⟩)
      · by_cases e : b' = b
        · subst e; rw [adoptOwn_new] at hx; cases hx
        · rw [adoptOwn_ne e] at hx
          unfold killOwn at hx
          split at hx
          · split at hx <;> cases hx
          · exact hx
      · have e : b' ≠ b := by rintro e; rw [e, hj] at hx; cases hx
        rw [adoptOwn_ne e, killOwn_other (by rw [hx]; simp)]; exact hx
    rw [this]
    refine c.stable _ _ _ _ _ h.ext fun b' hb' => setRow_other w b b' _ ?_
    rcases hb' with ⟨hb', _⟩ | ⟨hb', hx⟩
    · omega
    · rintro e; rw [e, hj] at hx; cases hx
  · refine ⟨by omega, ?_⟩
    simp [St.newVar, upd]
  · intro z hz
    exact ⟨hb, adoptOwn_new _ _ _, by rw [hheap]; exact ⟨rfl, by simpa using hz⟩⟩

/-! ### cells -/
theorem Rs_deads {k : K} : ∀ (vs : List Value), (∀ v ∈ vs, v.oneCell' = true) → Rs k (List.replicate vs.length .dead) vs
  | [], _ => by simp [Rs]
  | v :: vs, h => by
    simp only [List.length_cons, List.replicate_succ, Rs]
    exact ⟨v, vs, rfl, by simp only [R], h v (by simp), Rs_deads vs fun u hu => h u (by simp [hu])⟩
theorem Rs_pad {k : K} {l : List AV} {cs : List Value} {m : Nat} (h1 : ∀ v ∈ cs, v.oneCell' = true) (hm : m ≤ cs.length) (h : Rs k l (cs.take l.length)) : Rs k (padTo l m) (cs.take (padTo l m).length) := by
  unfold padTo
  have hl : l.length ≤ cs.length := by have := Rs_length h; simp at this; omega
  have e : (l ++ List.replicate (m - l.length) AV.dead).length = l.length + (m - l.length) := by simp
  rw [e, List.take_add]
  refine Rs_append h ?_
  have := Rs_deads (k := k) ((cs.drop l.length).take (m - l.length)) fun v hv => h1 v (List.mem_of_mem_drop (List.mem_of_mem_take hv))
  rwa [show ((cs.drop l.length).take (m - l.length)).length = m - l.length by simp; omega] at this
theorem padTo_length (l : List AV) (m : Nat) : (padTo l m).length = max l.length m := by
  unfold padTo
  simp
  omega
theorem flat_rep_get {α : Type} (l : List α) : ∀ (k j : Nat), ((List.replicate k l).flatten)[j]? = if j < k * l.length then l[j % l.length]? else none
  | 0, j => by simp
  | k + 1, j => by
    rw [List.replicate_succ, List.flatten_cons]
    by_cases h : j < l.length
    · have : j < (k + 1) * l.length := by rw [Nat.add_mul]; omega
      rw [List.getElem?_append_left h, if_pos this, Nat.mod_eq_of_lt h]
    · rw [List.getElem?_append_right (by omega), flat_rep_get l k]
      have e : j % l.length = (j - l.length) % l.length := (Nat.mod_eq_sub_mod (by omega)).trans rfl
      rw [e]
      have : j - l.length < k * l.length ↔ j < (k + 1) * l.length := by rw [Nat.add_mul]; omega
      simp [this]
theorem zeros_list {z : Array Value} (k : Nat) (h0 : 0 < z.size) : (Builtin.zeroCells z k).toList = (List.replicate k z.toList).flatten := by
  apply List.ext_getElem?
  intro j
  rw [flat_rep_get]
  unfold Builtin.zeroCells
  have hlt : j % z.size < z.size := Nat.mod_lt _ h0
  by_cases h : j < k * z.size
  · simp [h, hlt]
  · simp [h]
theorem Rs_zeros {k : K} {z : List Value} (h : ∀ v ∈ z, v.oneCell' = true) : ∀ (n : Nat), Rs k (List.replicate n (z.map AV.imm)).flatten (List.replicate n z).flatten
  | 0 => by simp [Rs]
  | n + 1 => by
    rw [List.replicate_succ, List.replicate_succ, List.flatten_cons, List.flatten_cons]
    exact Rs_append (Rs_imm h) (Rs_zeros h n)
theorem zeros_one {z : List Value} (h : ∀ v ∈ z, v.oneCell' = true) (n : Nat) : ∀ v ∈ (List.replicate n z).flatten, v.oneCell' = true := by
  intro v hv
  rw [List.mem_flatten] at hv
  obtain ⟨l, hl, hv⟩ := hv
  rw [List.mem_replicate] at hl
  rw [hl.2] at hv
  exact h v hv
theorem splice_one {l xs : List Value} {off : Nat} (h1 : ∀ v ∈ l, v.oneCell' = true) (h2 : ∀ v ∈ xs, v.oneCell' = true) : ∀ v ∈ splice l off xs, v.oneCell' = true := by
  intro v hv
  unfold splice at hv
  simp only [List.mem_append] at hv
  rcases hv with (hv | hv) | hv
  · exact h1 v (List.mem_of_mem_take hv)
  · exact h2 v hv
  · exact h1 v (List.mem_of_mem_drop hv)

/-- What a slice that is read holds. -/
theorem src_vals (h : FR c st a w ow τ ob) {sz : Nat} {lim : Option Nat} {y : AV} {v : Value} {m : Nat} {news : List AV} (hs : st.src sz lim y = some (m, news)) (hR : R (Kof c st w ow τ ob) y v) :
    ∃ A n z us, v = .slice A n z ∧ n ≤ z ∧ z ≤ maxLen ∧ m = limTo lim n ∧ Rs (Kof c st w ow τ ob) news us ∧ us.length = m * sz ∧ (m ≠ 0 → ∃ ad, A = some ad ∧ ∀ j u, us[j]? = some u → w.cell? (ad.add j) = some u) := by
  unfold St.src at hs
  have hlim : ∀ n, limTo lim n ≤ n := by
    intro n
    cases lim with
    | none => exact Nat.le_refl _
    | some q => exact Nat.min_le_left _ _
  split at hs
  · rename_i d' g sz' off n cp e1
    split at hs
    · rename_i hc
      obtain ⟨rfl, hg, hl⟩ := hc
      simp only [Option.some.injEq, Prod.mk.injEq] at hs
      obtain ⟨rfl, rfl⟩ := hs
      rw [vslOf_eq e1] at hR
      simp only [R] at hR
      obtain ⟨_, A, z, rfl, hnz, hz, _, hb⟩ := hR
      obtain ⟨b, o, hvb, rfl, ho⟩ := hb hg
      obtain ⟨cs, T', hheap, hsz, h1, hr⟩ := var_block h hvb
      have hr' := Rs_take (limTo lim n * sz') (Rs_drop off hr)
      refine ⟨_, n, z, _, rfl, hnz, hz, rfl, hr', ?_, fun hm => ⟨_, rfl, fun j u hj => ?_⟩⟩
      · have := Rs_length hr'
        rw [this]
        simp
        omega
      · have := ho (by have := hlim n; omega)
        subst this
        rw [addr_add]
        exact var_cells hheap j u hj
    · cases hs
  · rename_i tok rows _ e2
    simp only [Option.some.injEq, Prod.mk.injEq] at hs
    obtain ⟨rfl, rfl⟩ := hs
    have hy := R_asSl hR e2
    have hy' := hy
    simp only [R] at hy'
    obtain ⟨A, z, rfl, hnz, hz, hrows, _⟩ := hy'
    by_cases hne : rows = []
    · subst hne
      have h0 : limTo lim 0 = 0 := Nat.le_zero.1 (hlim 0)
      refine ⟨A, 0, z, [], rfl, hnz, hz, rfl, ?_, ?_, fun hm => absurd h0 hm⟩
      · simp [Rs]
      · simp [h0]
    · obtain ⟨b, o, rfl, hr⟩ := hrows hne
      obtain ⟨us, h1, h2, h3⟩ := rowsAt_vals (rowsAt_take (limTo lim rows.length) hr)
      refine ⟨_, rows.length, z, us, rfl, hnz, hz, rfl, Rs_mono (KLe.of_pure (KLe.refl _)) _ _ h1, ?_, fun hm => ⟨_, rfl, fun j u hj => ?_⟩⟩
      · rw [h2, List.length_take, Nat.min_eq_left (hlim _)]
      · rw [addr_add]; exact (h3 j u hj).2.1
  · cases hs

/-! ### the operations -/
theorem sim_mm (h : FR c st a w ow τ ob) {mx : Bool} {y z : Operand} {args : Array Operand} {argTypes : Array TypeId} (hargs : args.toList = [y, z]) (ha : act Φ d st (.mm mx y z) = some (x, st')) :
    Sim P c st' x ⟨dst, .call { callee := .builtin (if mx then .max else .min), args := args, argTypes := argTypes }, type, pos, after, guard⟩ a w ob := by
  have e1 : args = #[y, z] := by rw [← Array.toArray_toList (xs := args), hargs]
  subst e1
  simp only [act] at ha
  have hy := R_ev h y
  have hz := R_ev h z
  split at ha
  · rename_i k m k' n e1 e2
    rw [e1] at hy
    rw [e2] at hz
    simp only [R] at hy hz
    split at ha
    · rename_i hk
      subst hk
      simp only [Option.some.injEq, Prod.mk.injEq] at ha
      obtain ⟨rfl, rfl⟩ := ha
      refine sim_same h (v := .int k (if mx then (if n > m then n else m) else (if n < m then n else m))) ?_ (by unfold R; exact ⟨rfl, rfl⟩)
      cases mx
      · simp [execOp, resolve, invoke, builtin, Builtin.min_, Builtin.min2, hy.1, hz.1]
      · simp [execOp, resolve, invoke, builtin, Builtin.max_, Builtin.max2, hy.1, hz.1]
    · cases ha
  · cases ha
theorem run_equalIn_ptr {t e : TypeId} (ht : P.underlying t = some (.pointer e)) (p q : Option Addr) (hq : p = none ∨ q = none) (n : Nat) (w : World) : (Op.equalIn (n + 1) t (.pointer p) (.pointer q)).run P w = .ok (p.isNone && q.isNone) w := by
  rcases hq with rfl | rfl
  · cases q <;> simp [Op.equalIn, run_underlying' ht]
  · cases p <;> simp [Op.equalIn, run_underlying' ht]
theorem run_equal_ptr {t e : TypeId} (ht : P.underlying t = some (.pointer e)) (p q : Option Addr) (hq : p = none ∨ q = none) (w : World) : (Op.equal t (.pointer p) (.pointer q)).run P w = .ok (p.isNone && q.isNone) w := run_equalIn_ptr ht p q hq 9999 w
theorem run_ptr_nil {t e : TypeId} (ht : P.underlying t = some (.pointer e)) (ng : Bool) (p q : Option Addr) (hq : p = none ∨ q = none) (w : World) : (binOp (if ng then .neq else .eql) t (.pointer p) (.pointer q)).run P w = .ok (.bool (if ng then !(p.isNone && q.isNone) else p.isNone && q.isNone)) w := by
  cases ng
  · show (do pure (Value.bool (← Op.equal t (.pointer p) (.pointer q))) : Sem Value).run P w = _
    rw [Sem.run_bind, run_equal_ptr ht p q hq]
    rfl
  · show (do pure (Value.bool (!(← Op.equal t (.pointer p) (.pointer q)))) : Sem Value).run P w = _
    rw [Sem.run_bind, run_equal_ptr ht p q hq]
    rfl
theorem run_guard_ptr {op : BinOp} {t : TypeId} {y z : Operand} {p q : Option Addr} (w : World) : (eqGuard op t y z (.pointer p) (.pointer q)).run P w = .ok () w :=
  run_eqGuard_imm (by rintro ⟨h, _⟩; cases h) (by rintro ⟨_, _, h, _⟩; cases h) w
theorem isNilP_eq {y : Operand} (h : isNilP y = true) : a.eval y = .pointer none := by
  unfold isNilP at h
  split at h
  · rfl
  · cases h
theorem isNilS_eq {y : Operand} (h : isNilS y = true) : a.eval y = .slice none 0 0 := by
  unfold isNilS at h
  split at h
  · rfl
  · cases h
theorem sim_peq (h : FR c st a w ow τ ob) {ng : Bool} {t e ty : TypeId} {y z : Operand} {op : BinOp} (hop : op = if ng then .neq else .eql) (ht : P.underlying t = some (.pointer e)) {u : Operand} (hyz : (u = y ∧ isNilP z = true) ∨ (u = z ∧ isNilP y = true)) (ha : act Φ d st (.peq ng u) = some (x, st')) :
    Sim P c st' x ⟨dst, .binOp op t y z ty, type, pos, after, guard⟩ a w ob := by
  subst hop
  simp only [act] at ha
  have hu := R_ev h u
  have key : ∀ p : Option Addr, a.eval u = .pointer p → Sim P c st (.imm (.bool (if ng then !p.isNone else p.isNone))) ⟨dst, .binOp (if ng then .neq else .eql) t y z ty, type, pos, after, guard⟩ a w ob := by
    intro p hp
    refine sim_same h (v := .bool (if ng then !p.isNone else p.isNone)) ?_ (by unfold R; exact ⟨rfl, rfl⟩)
    rcases hyz with ⟨rfl, hn⟩ | ⟨rfl, hn⟩
    · have hz := isNilP_eq (a := a) hn
      simp only [execOp, hp, hz, Sem.run_bind, run_guard_ptr, Result.andThen_ok, run_ptr_nil ht ng p none (.inr rfl), Sem.run_pure]
      simp
    · have hz := isNilP_eq (a := a) hn
      simp only [execOp, hp, hz, Sem.run_bind, run_guard_ptr, Result.andThen_ok, run_ptr_nil ht ng none p (.inl rfl), Sem.run_pure]
      simp
  split at ha
  · rename_i e1
    rw [e1] at hu
    simp only [R] at hu
    simp only [Option.some.injEq, Prod.mk.injEq] at ha
    obtain ⟨rfl, rfl⟩ := ha
    have := key none hu.1
    cases ng <;> exact this
  · rename_i d' g q e1
    rw [e1] at hu
    split at ha
    · rename_i hg
      simp only [Option.some.injEq, Prod.mk.injEq] at ha
      obtain ⟨rfl, rfl⟩ := ha
      simp only [R] at hu
      obtain ⟨b, _, hv⟩ := hu.2.2 hg
      have := key _ hv
      cases ng <;> exact this
    · cases ha
  · rename_i cs q e1
    rw [e1] at hu
    simp only [Option.some.injEq, Prod.mk.injEq] at ha
    obtain ⟨rfl, rfl⟩ := ha
    simp only [R] at hu
    obtain ⟨b, o, hv, _⟩ := hu
    have := key _ hv
    cases ng <;> exact this
  · cases ha
theorem run_slice_nil {t e : TypeId} (ht : P.underlying t = some (.slice e)) (ng : Bool) (A : Option Addr) (n z : Nat) (w : World) : (binOp (if ng then .neq else .eql) t (.slice A n z) (.slice none 0 0)).run P w = .ok (.bool (if ng then !A.isNone else A.isNone)) w := by
  have hq' : ∀ m, (Op.equalIn (m + 1) t (.slice A n z) (.slice none 0 0)).run P w = .ok A.isNone w := by
    intro m
    cases A <;> simp [Op.equalIn, run_underlying' ht]
  have hq : (Op.equal t (.slice A n z) (.slice none 0 0)).run P w = .ok A.isNone w := hq' 9999
  cases ng
  · show (do pure (Value.bool (← Op.equal t (.slice A n z) (.slice none 0 0))) : Sem Value).run P w = _
    rw [Sem.run_bind, hq]
    rfl
  · show (do pure (Value.bool (!(← Op.equal t (.slice A n z) (.slice none 0 0)))) : Sem Value).run P w = _
    rw [Sem.run_bind, hq]
    rfl
theorem exec_snil {ng : Bool} {t e ty : TypeId} {y z : Operand} {A : Option Addr} {n q : Nat} (ht : P.underlying t = some (.slice e)) (hz : isNilS z = true) (hy : a.eval y = .slice A n q) :
    (execOp a.eval (⟨dst, .binOp (if ng then .neq else .eql) t y z ty, type, pos, after, guard⟩ : Oper)).run P w = .ok (.value (.bool (if ng then !A.isNone else A.isNone))) w := by
  have hg := run_eqGuard_imm (P := P) (op := if ng then .neq else .eql) (t := t) (y := y) (z := z) (u := .slice A n q) (v := .slice none 0 0) (by rintro ⟨h, _⟩; cases h) (by rintro ⟨_, _, h, _⟩; cases h) w
  simp only [execOp, hy, isNilS_eq (a := a) hz, Sem.run_bind, hg, Result.andThen_ok, run_slice_nil ht ng, Sem.run_pure]
theorem sim_snil (h : FR c st a w ow τ ob) {ng : Bool} {t e ty : TypeId} {y z : Operand} {op : BinOp} (hop : op = if ng then .neq else .eql) (ht : P.underlying t = some (.slice e)) (hz : isNilS z = true) (ha : act Φ d st (.snil ng y) = some (x, st')) :
    Sim P c st' x ⟨dst, .binOp op t y z ty, type, pos, after, guard⟩ a w ob := by
  subst hop
  simp only [act] at ha
  have hy := R_ev h y
  have key : ∀ (A : Option Addr) (n q : Nat), a.eval y = .slice A n q → Sim P c st (.imm (.bool (if ng then !A.isNone else A.isNone))) ⟨dst, .binOp (if ng then .neq else .eql) t y z ty, type, pos, after, guard⟩ a w ob := fun A n q hv =>
    sim_same h (exec_snil ht hz hv) (by unfold R; exact ⟨rfl, rfl⟩)
  split at ha
  · rename_i e1
    rw [e1] at hy
    simp only [R] at hy
    simp only [Option.some.injEq, Prod.mk.injEq] at ha
    obtain ⟨rfl, rfl⟩ := ha
    have := key none 0 0 hy.1
    cases ng <;> exact this
  · rename_i sz tok rows e1
    rw [e1] at hy
    split at ha
    · rename_i hne
      simp only [Option.some.injEq, Prod.mk.injEq] at ha
      obtain ⟨rfl, rfl⟩ := ha
      simp only [R] at hy
      obtain ⟨A, q, hv, _, _, hr, _⟩ := hy
      obtain ⟨b, o, rfl, _⟩ := hr hne
      have := key _ _ _ hv
      cases ng <;> exact this
    · cases ha
  · rename_i d' g sz off n cp e1
    rw [e1] at hy
    split at ha
    · rename_i hg
      simp only [Option.some.injEq, Prod.mk.injEq] at ha
      obtain ⟨rfl, rfl⟩ := ha
      simp only [R] at hy
      obtain ⟨_, A, q, hv, _, _, _, hb⟩ := hy
      obtain ⟨b, o, _, rfl, _⟩ := hb hg
      have := key _ _ _ hv
      cases ng <;> exact this
    · cases ha
  · cases ha
theorem sim_asl (h : FR c st a w ow τ ob) {t e : TypeId} {y : Operand} {n : Nat} {ie : TypeInfo} (ht : P.underlying t = some (.array n e)) (hi : P.info? e = some ie) (ha : act Φ d st (.asl ie.size n y) = some (x, st')) :
    Sim P c st' x ⟨dst, .slice t y none none none, type, pos, after, guard⟩ a w ob := by
  simp only [act] at ha
  have hy := R_ev h y
  split at ha
  · rename_i d' g q e1
    rw [e1] at hy
    split at ha
    · rename_i hc
      obtain ⟨hg, hl, hm⟩ := hc
      simp only [Option.some.injEq, Prod.mk.injEq] at ha
      obtain ⟨rfl, rfl⟩ := ha
      simp only [R] at hy
      obtain ⟨hpg, _, hb⟩ := hy
      obtain ⟨b, hvb, hv⟩ := hb hg
      obtain ⟨cs, T', hheap, _, _, hr⟩ := var_block h hvb
      have hlen := Rs_length hr
      refine sim_same h (v := .slice (some ⟨b, q, none⟩) n n) ?_ ?_
      · by_cases hn : n = 0
        · simp [execOp, Instr.sliceAt, run_underlying' ht, hv, Instr.sureAddr, Instr.sliceBounds, run_sizeOf' hi, hn]
        · simp [execOp, Instr.sliceAt, run_underlying' ht, hv, Instr.sureAddr, Instr.sliceBounds, run_sizeOf' hi, hn, addr_add]
      · simp only [R]
        refine ⟨hpg, _, _, rfl, Nat.le_refl _, by unfold maxLen; omega, fun c' hc' => by injection hc' with hc'; exact hc'.symm, fun _ => ⟨b, q, ⟨hvb.1, hvb.2.1, ?_⟩, rfl, fun _ => rfl⟩⟩
        rw [hheap]
        exact ⟨rfl, by simp at hlen; omega⟩
    · cases ha
  · cases ha
theorem sim_capv (h : FR c st a w ow τ ob) {t e : TypeId} {y : Operand} {args : Array Operand} {argTypes : Array TypeId} (hargs : args.toList = [y]) (htys : argTypes.toList = [t]) (ht : P.underlying t = some (.slice e))
    (ha : act Φ d st (.capv y) = some (x, st')) : Sim P c st' x ⟨dst, .call { callee := .builtin .cap, args := args, argTypes := argTypes }, type, pos, after, guard⟩ a w ob := by
  have e1 : args = #[y] := by rw [← Array.toArray_toList (xs := args), hargs]
  have e2 : argTypes = #[t] := by rw [← Array.toArray_toList (xs := argTypes), htys]
  subst e1
  subst e2
  simp only [act] at ha
  have hy := R_ev h y
  split at ha
  · rename_i e
    rw [e] at hy
    simp only [R] at hy
    simp only [Option.some.injEq, Prod.mk.injEq] at ha
    obtain ⟨rfl, rfl⟩ := ha
    exact sim_same h (v := .int .i64 0) (by simp [execOp, resolve, invoke, builtin, Builtin.cap_, run_underlying' ht, hy.1, goInt]) (by unfold R; exact ⟨rfl, rfl⟩)
  · rename_i sz rows e
    rw [e] at hy
    simp only [R] at hy
    obtain ⟨A, z, hv, _, _, _, rfl⟩ := hy
    simp only [Option.some.injEq, Prod.mk.injEq] at ha
    obtain ⟨rfl, rfl⟩ := ha
    exact sim_same h (v := .int .i64 rows.length) (by simp [execOp, resolve, invoke, builtin, Builtin.cap_, run_underlying' ht, hv, goInt]) (by unfold R; exact ⟨rfl, rfl⟩)
  · rename_i d' g sz off n cc e
    rw [e] at hy
    simp only [R] at hy
    obtain ⟨_, A, z, hv, _, _, hcp, _⟩ := hy
    have := hcp cc rfl
    subst this
    simp only [Option.some.injEq, Prod.mk.injEq] at ha
    obtain ⟨rfl, rfl⟩ := ha
    exact sim_same h (v := .int .i64 cc) (by simp [execOp, resolve, invoke, builtin, Builtin.cap_, run_underlying' ht, hv, goInt]) (by unfold R; exact ⟨rfl, rfl⟩)
  · cases ha
theorem sim_cpy (h : FR c st a w ow τ ob) {t u e : TypeId} {y z : Operand} {args : Array Operand} {argTypes : Array TypeId} {i : TypeInfo} (hargs : args.toList = [y, z]) (htys : argTypes.toList = [t, u]) (ht : P.underlying t = some (.slice e)) (hi : P.info? e = some i)
    (ha : act Φ d st (.cpy i.size y z) = some (x, st')) : Sim P c st' x ⟨dst, .call { callee := .builtin .copy, args := args, argTypes := argTypes }, type, pos, after, guard⟩ a w ob := by
  have e1 : args = #[y, z] := by rw [← Array.toArray_toList (xs := args), hargs]
  have e2 : argTypes = #[t, u] := by rw [← Array.toArray_toList (xs := argTypes), htys]
  subst e1
  subst e2
  simp only [act] at ha
  split at ha
  · rename_i d' g sz' off n cp ev
    have hy := R_ev h y
    rw [vslOf_eq ev] at hy
    split at ha
    · rename_i m news es
      split at ha
      · rename_i hc
        obtain ⟨rfl, hg, hn⟩ := hc
        simp only [Option.some.injEq, Prod.mk.injEq] at ha
        obtain ⟨rfl, rfl⟩ := ha
        obtain ⟨A2, n2, z2, us, hv2, hnz2, hz2, hm, hrn, hlu, hcell⟩ := src_vals h es (R_ev h z)
        simp only [R] at hy
        obtain ⟨_, A, zc, hv, hnz, _, _, hb⟩ := hy
        obtain ⟨b, o, hvb, rfl, ho⟩ := hb hg
        have := ho (by omega)
        subst this
        obtain ⟨cs, T', hheap, hsz, h1, hr⟩ := var_block h hvb
        have hmn : m ≤ n := by rw [hm]; exact Nat.min_le_right _ _
        have hmz : m * i.size ≤ zc * i.size := Nat.mul_le_mul_right _ (by omega)
        have hfit : o + us.length ≤ cs.size := by rw [hlu]; omega
        have hln : news.length = us.length := (Rs_length hrn).symm
        have hpad := Rs_pad (m := o + news.length) h1 (by simp; omega) hr
        have hpl := padTo_length (st.var d') (o + news.length)
        have hml : (padTo (st.var d') (o + news.length)).length ≤ cs.toList.length := by
          have := Rs_length hr
          simp at this ⊢
          omega
        have hsp := Rs_splice o hpad hrn
        rw [← splice_take (by omega) hml, ← splice_length (padTo (st.var d') (o + news.length)) news o (by omega)] at hsp
        obtain ⟨k1, k2⟩ := h.setVar hvb.1 hvb.2.1 hheap (by rw [splice_length _ _ _ (by simpa using hfit)]; simp) (splice_one h1 (Rs_one hrn)) hsp
        intro K Q hK
        have hst := run_storeCells_at P b o T' us 0 cs w hheap (by simpa using hfit) (Rs_one hrn)
        simp only [Nat.add_zero] at hst
        have hfc : (Builtin.firstCells i.size m (.slice A2 n2 z2)).run P w = .ok us.toArray w := by
          by_cases h0 : m = 0
          · have hu : us = [] := List.eq_nil_of_length_eq_zero (by rw [hlu, h0, Nat.zero_mul])
            subst hu
            subst h0
            cases A2 <;> simp [Builtin.firstCells, loadCells, loadCellsFrom]
          · obtain ⟨ad, rfl, hcc⟩ := hcell h0
            exact run_firstCells_some w i.size m ad n2 z2 us hlu hcc
        refine wp_value (v := .int .i64 m) (w' := w.setRow b (splice cs.toList o us).toArray) ?_ (hK _ _ _ _ k1 (by unfold R; exact ⟨rfl, rfl⟩))
        have hmin : Nat.min n2 n = m := by rw [hm]; rfl
        simp only [execOp, resolve, invoke, builtin, Sem.run_bind, Sem.run_pure, Result.andThen_ok, List.map_toArray, List.map_cons, List.map_nil, hv, hv2, Builtin.copy_, List.getElem?_toArray, List.getElem?_cons_zero, List.getElem?_cons_succ, run_underlying' ht, Builtin.lenOf, run_sizeOf' hi, hmin, hfc, hst, goInt, splice]
      · cases ha
    · cases ha
  · cases ha
theorem R_vslNew {d g n z : Nat} {cp : Option Nat} {sz b : Nat} {k : K} (hpg : k.pg d g) (hvb : k.vb d b (some (z * sz))) (h1 : n ≤ z) (h2 : z ≤ maxLen) (hcp : ∀ c', cp = some c' → c' = z) : R k (.vsl d g sz 0 n cp) (.slice (some ⟨b, 0, none⟩) n z) := by
  simp only [R]
  exact ⟨hpg, _, _, rfl, h1, h2, hcp, fun _ => ⟨b, 0, by rw [Nat.zero_add]; exact hvb, rfl, fun _ => rfl⟩⟩
theorem zeros_length {z : List Value} (n : Nat) : (List.replicate n z).flatten.length = n * z.length := by simp
theorem size_zeroCells' {z : Array Value} (n : Nat) : (Builtin.zeroCells z n).toList.length = n * z.size := by simp [Builtin.zeroCells]
theorem sim_appz (h : FR c st a w ow τ ob) {t u e : TypeId} {y q : Operand} {args : Array Operand} {argTypes : Array TypeId} {i : TypeInfo} {zv : Value} {kk : IntKind} (hargs : args.toList = [y, q]) (htys : argTypes.toList = [t, u]) (ht : P.underlying t = some (.slice e)) (hu : P.underlying u = some (.int kk)) (hi : P.info? e = some i) (hzv : i.zero = some zv)
    (hsz : 0 < i.size) (hby : 0 < i.bytes) (hzs : zv.cells.size = i.size) (hz1 : zv.cells.toList.all (·.oneCell') = true) (ha : act Φ d st (.appz i.size i.bytes zv.cells.toList y q) = some (x, st')) :
    Sim P c st' x ⟨dst, .call { callee := .builtin .append, args := args, argTypes := argTypes }, type, pos, after, guard⟩ a w ob := by
  have e1 : args = #[y, q] := by rw [← Array.toArray_toList (xs := args), hargs]
  have e2 : argTypes = #[t, u] := by rw [← Array.toArray_toList (xs := argTypes), htys]
  subst e1
  subst e2
  have hz1' := List.all_eq_true.1 hz1
  simp only [act] at ha
  split at ha
  · rename_i d' g sz' off k cc m ev em
    have hy := R_ev h y
    rw [vslOf_eq ev] at hy
    obtain ⟨kq, hq⟩ := R_asInt (R_ev h q) em
    split at ha
    · rename_i hc
      obtain ⟨rfl, hg, hl, h0, hgrow, hbound⟩ := hc
      simp only [Option.some.injEq, Prod.mk.injEq] at ha
      obtain ⟨rfl, rfl⟩ := ha
      obtain ⟨mm, rfl⟩ : ∃ mm : Nat, m = mm := ⟨m.toNat, by omega⟩
      simp only [Int.toNat_natCast] at hgrow hbound ⊢
      simp only [R] at hy
      obtain ⟨_, A, zc, hv, hkz, hzm, hcp, hb⟩ := hy
      have := hcp cc rfl
      subst this
      obtain ⟨b, o, hvb, rfl, ho⟩ := hb hg
      obtain ⟨cs, T', hheap, hcs, h1, hr⟩ := var_block h hvb
      have hro := Rs_take (k * i.size) (Rs_drop off hr)
      have hlo : (((cs.toList.take (st.var d').length).drop off).take (k * i.size)).length = k * i.size := by
        rw [Rs_length hro]; simp; omega
      have holds : ∀ j u, (((cs.toList.take (st.var d').length).drop off).take (k * i.size))[j]? = some u → w.cell? ((⟨b, o, none⟩ : Addr).add j) = some u := by
        intro j u hj
        have hjl := (List.getElem?_eq_some_iff.1 hj).1
        rw [hlo] at hjl
        have hk0 : 0 < k := by rcases Nat.eq_zero_or_pos k with h | h; · subst h; omega
                               · exact h
        have := ho (by omega)
        subst this
        rw [addr_add]
        exact var_cells hheap j u hj
      have htot : k + mm ≤ 140737488355328 := Nat.le_trans (Nat.le_mul_of_pos_right _ hby) hbound
      have hn : ¬ (k + mm ≤ cc) := by omega
      have hm0 : mm ≠ 0 := by omega
      have hw : IntKind.i64.wrap (mm : Int) = mm := by rw [IntKind.wrap_i64]; omega
      have h63' : ¬ (9223372036854775807 < ((k : Int) + (mm : Int))) := by omega
      have h48 := growslice_fits (old := cc) (need := k + mm) (bytes := i.bytes) (by omega) hbound
      have h48' : ¬ (281474976710656 < Builtin.nextslicecap (k + mm) cc * i.bytes) := by omega
      have hmb : mm * i.bytes ≤ (k + mm) * i.bytes := Nat.mul_le_mul_right _ (by omega)
      have h48i : ¬ (281474976710656 < (mm : Int) * (i.bytes : Int)) := by
        rw [← Int.natCast_mul]; omega
      have hneg : ¬ ((mm : Int) < 0) := by omega
      have hns : ¬ (mm * i.size = 0) := Nat.mul_ne_zero hm0 (by omega)
      have hfo := run_firstCells_some (P := P) w.drew i.size k ⟨b, o, none⟩ k cc _ hlo (by simpa using holds)
      have hrun : (Builtin.append_ #[t, u] type #[.slice (some ⟨b, o, none⟩) k cc, .int kq mm]).run P w =
          .ok (.slice (some ⟨w.heap.size, 0, none⟩) (k + mm) (grownCap w (k + mm) cc e)) (w.drew.alloc (.cells ((((cs.toList.take (st.var d').length).drop off).take (k * i.size)).toArray ++ Builtin.zeroCells zv.cells mm ++ Builtin.zeroCells zv.cells (grownCap w (k + mm) cc e - (k + mm))) e)) := by
        simp [Builtin.append_, run_underlying ht, run_underlying hu, sizeOf, typeInfo, zeroValue, hi, hzv, asInt, asIntOf, hw, hn, hneg, hns, h63', h48', h48i, Question.forced, hfo, newRow, grownCap]
      have hge := grownCap_ge w (k + mm) cc e
      have hle := grownCap_le_maxLen w (k + mm) cc e (by unfold maxLen; omega)
      have hRs : Rs (Kof c st w ow τ ob) (((st.var d').drop off).take (k * i.size) ++ (List.replicate mm (zv.cells.toList.map AV.imm)).flatten) ((((cs.toList.take (st.var d').length).drop off).take (k * i.size)) ++ (Builtin.zeroCells zv.cells mm).toList) := by
        refine Rs_append hro ?_
        rw [zeros_list mm (by omega)]
        exact Rs_zeros hz1' mm
      have hlR := Rs_length hRs
      have hone : ∀ v ∈ ((((cs.toList.take (st.var d').length).drop off).take (k * i.size)).toArray ++ Builtin.zeroCells zv.cells mm ++ Builtin.zeroCells zv.cells (grownCap w (k + mm) cc e - (k + mm))).toList, v.oneCell' = true := by
        intro v hv
        simp only [Array.toList_append, List.mem_append] at hv
        rcases hv with (hv | hv) | hv
        · exact h1 v (List.mem_of_mem_take (List.mem_of_mem_drop (List.mem_of_mem_take hv)))
        · rw [zeros_list _ (by omega)] at hv; exact zeros_one hz1' _ v hv
        · rw [zeros_list _ (by omega)] at hv; exact zeros_one hz1' _ v hv
      obtain ⟨k1, _, k3, k4⟩ := h.drew.newVarO d (xs := ((st.var d').drop off).take (k * i.size) ++ (List.replicate mm (zv.cells.toList.map AV.imm)).flatten) (.cells ((((cs.toList.take (st.var d').length).drop off).take (k * i.size)).toArray ++ Builtin.zeroCells zv.cells mm ++ Builtin.zeroCells zv.cells (grownCap w (k + mm) cc e - (k + mm))) e) ⟨rfl, hone, by
        simp only [Array.toList_append]
        rw [← hlR]
        rw [List.take_left]
        exact hRs⟩
      intro K Q hK
      refine wp_value ?_ (hK (.slice (some ⟨w.heap.size, 0, none⟩) (k + mm) (grownCap w (k + mm) cc e)) _ _ _ k1 (R_vslNew k3 (k4 _ ⟨rfl, ?_⟩) hge hle (fun c' hc' => by cases hc')))
      · simp only [execOp, resolve, invoke, builtin, Sem.run_bind, Sem.run_pure, Result.andThen_ok, List.map_toArray, List.map_cons, List.map_nil, hv, hq, hrun]
      · rw [← Array.length_toList, Array.toList_append, Array.toList_append, List.length_append, List.length_append, size_zeroCells', size_zeroCells', hzs]
        have e3 : ((((cs.toList.take (st.var d').length).drop off).take (k * i.size)).toArray.toList).length = k * i.size := hlo
        rw [e3, ← Nat.add_mul, ← Nat.add_mul]
        exact Nat.mul_le_mul_right _ (by omega)
    · cases ha
  · cases ha
theorem sim_mksl (h : FR c st a w ow τ ob) {t e : TypeId} {q : Nat} {i : TypeInfo} {zv : Value} (ht : P.underlying t = some (.slice e)) (hi : P.info? e = some i) (hzv : i.zero = some zv) (hzs : zv.cells.size = i.size) (hsz : 0 < i.size) (hby : 0 < i.bytes) (hz1 : zv.cells.toList.all (·.oneCell') = true)
    (ha : act Φ d st (.mksl i.size i.bytes zv.cells.toList (.tmp q)) = some (x, st')) : Sim P c st' x ⟨dst, .makeSlice t (.tmp q) (.tmp q), type, pos, after, guard⟩ a w ob := by
  have hz1' := List.all_eq_true.1 hz1
  simp only [act] at ha
  split at ha
  · rename_i m em
    obtain ⟨kq, hq⟩ := R_asInt (R_ev h (.tmp q)) em
    split at ha
    · rename_i hc
      obtain ⟨h0, hbound⟩ := hc
      simp only [Option.some.injEq, Prod.mk.injEq] at ha
      obtain ⟨rfl, rfl⟩ := ha
      obtain ⟨mm, rfl⟩ : ∃ mm : Nat, m = mm := ⟨m.toNat, by omega⟩
      simp only [Int.toNat_natCast] at hbound ⊢
      have hml : mm ≤ 140737488355328 := Nat.le_trans (Nat.le_mul_of_pos_right _ hby) hbound
      have hbi : (i.bytes : Int) * (mm : Int) ≤ 281474976710656 := by
        rw [← Int.natCast_mul, Nat.mul_comm]; omega
      have hrun := run_make (P := P) w t e i zv ht hi hzv kq kq (mm : Int) (mm : Int) h0 (Int.le_refl _) hbi (by omega)
      simp only [Int.toNat_natCast] at hrun
      have hmade : (madeCells zv.cells (mm * i.size)).toList = (List.replicate mm zv.cells.toList).flatten := by
        rw [← zeros_list mm (by omega)]
        unfold madeCells Builtin.zeroCells
        rw [hzs]
      obtain ⟨k1, _, k3, k4⟩ := h.newVarO d (xs := (List.replicate mm (zv.cells.toList.map AV.imm)).flatten) (.cells (madeCells zv.cells (mm * i.size)) e) ⟨rfl, by rw [hmade]; exact zeros_one hz1' _, by
        rw [hmade]
        have := Rs_zeros (k := Kof c st w ow τ ob) hz1' mm
        rw [← Rs_length this, List.take_length]
        exact this⟩
      intro K Q hK
      refine wp_value ?_ (hK (.slice (some ⟨w.heap.size, 0, none⟩) mm mm) _ _ _ k1 (R_vslNew k3 (k4 _ ⟨rfl, ?_⟩) (Nat.le_refl _) (by unfold maxLen; omega) (fun c' hc' => by injection hc' with hc'; exact hc'.symm)))
      · simp only [execOp, hq, Sem.run_bind, hrun, Result.andThen_ok, Sem.run_pure]
      · rw [← Array.length_toList, hmade, zeros_length]
        simp [hzs]
    · cases ha
  · cases ha
end
end Go.Av
