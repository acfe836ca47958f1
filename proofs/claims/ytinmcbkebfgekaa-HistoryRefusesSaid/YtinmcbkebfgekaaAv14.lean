/-
  OWN TEXT. Each operation of the program does what 'act' says: append; then all operations in one.
-/
import Derived.Test.YtinmcbkebfgekaaAv13c
set_option linter.all false
set_option linter.unusedVariables false
set_option linter.unusedSimpArgs false
namespace Go.Av
variable {σ : Type}
section
variable {P : Program} {T : List Nat} {Φ : Orc} {d : Nat} {c : Cx σ} {st st' : St σ} {x : AV} {a : Act} {w : World} {ow : Nat → Own} {τ : Nat → Nat} {ob : Nat → Value → Prop}
  {dst : Option Nat} {type : TypeId} {pos : String} {after : Array Edge} {guard : Option (Nat × Bool)}

theorem flatten_length {sz : Nat} : ∀ {rows : List (List AV)}, (∀ r ∈ rows, r.length = sz) → rows.flatten.length = rows.length * sz
  | [], _ => by simp
  | r :: rows, h => by
    simp only [List.flatten_cons, List.length_append, h r (by simp), flatten_length (rows := rows) (fun q hq => h q (by simp [hq])), List.length_cons, Nat.add_mul]
    omega
theorem rowsAt_sizes {k : K} {sz : Nat} : ∀ {rows : List (List AV)} {b o : Nat}, rowsAt k sz rows b o → ∀ r ∈ rows, r.length = sz
  | [], b, o, _, r, hr => by simp at hr
  | x :: rows, b, o, h, r, hr => by
    simp only [rowsAt] at h
    rcases List.mem_cons.1 hr with rfl | hr
    · exact h.2.1
    · exact rowsAt_sizes h.2.2 r hr
/-- What a slice's rows hold, as values. -/
theorem sl_vals {k : K} {sz : Nat} {tok : Tok} {rows : List (List AV)} {A : Option Addr} {n z : Nat} (h : R k (.sl sz tok rows) (.slice A n z)) :
    n = rows.length ∧ n ≤ z ∧ z ≤ maxLen ∧ ∃ vs, Rs k.pure rows.flatten vs ∧ vs.length = n * sz ∧ (∀ r ∈ rows, r.length = sz) ∧ (n ≠ 0 → ∃ b o, A = some ⟨b, o, none⟩ ∧ ∀ j v, vs[j]? = some v → k.ic ⟨b, o + j, none⟩ v) := by
  simp only [R] at h
  obtain ⟨A', z', e, hl, hm, hr, _⟩ := h
  injection e with e1 e2 e3
  subst e1; subst e2; subst e3
  refine ⟨rfl, hl, hm, ?_⟩
  cases rows with
  | nil => exact ⟨[], by simp [Rs], by simp, by simp, fun h => absurd rfl h⟩
  | cons r rows =>
    obtain ⟨b, o, rfl, hrows⟩ := hr (by simp)
    obtain ⟨vs, h1, h2, h3⟩ := rowsAt_vals hrows
    exact ⟨vs, h1, h2, rowsAt_sizes hrows, fun _ => ⟨b, o, rfl, h3⟩⟩

theorem appTok_same {n n' : Nat} {tok : Tok} (h : appTok st d n n' tok = some st') : st'.env = st.env ∧ st'.gen = st.gen ∧ st'.var = st.var ∧ st'.x = st.x ∧ st'.tgen d = st.tgen d + 1 ∧ st'.top d = some n' ∧ (∀ t, st.tgen t ≤ st'.tgen t) ∧
    (∀ t m, st'.tgen t = st.tgen t → st'.top t = some m → st.top t = some m) ∧ (tok = .full ∧ st' = st.give d n' ∨ ∃ t g, tok = .own t g ∧ st.tgen t = g ∧ st.top t = some n ∧ st' = (st.spend t).give d n') := by
  unfold appTok at h
  split at h
  · cases h
  · injection h with h
    subst h
    exact ⟨rfl, rfl, rfl, rfl, by simp [St.give, upd], by simp [St.give, upd], give_le _ _ _, fun t m h1 h2 => (give_top _ _ _ t m h1 h2).2, .inl ⟨rfl, rfl⟩⟩
  · rename_i t g
    split at h
    · rename_i hc
      injection h with h
      subst h
      refine ⟨rfl, rfl, rfl, rfl, by simp [St.give, St.spend, upd], by simp [St.give, upd], give_le (st.spend t) _ _, fun t' m h1 h2 => ?_, .inr ⟨t, g, rfl, hc.1, hc.2, rfl⟩⟩
      have := (give_top (st.spend t) _ _ t' m h1 h2).2
      by_cases e : t' = t
      · subst e; simp [St.spend, upd] at this
      · simpa [St.spend, upd, e] using this
    · cases h

theorem splice_end {α : Type} {l xs : List α} {off : Nat} (h : off ≤ l.length) : (splice l off xs).take (off + xs.length) = l.take off ++ xs := by
  unfold splice
  rw [List.take_append_of_le_length (by simp; omega)]
  rw [List.take_of_length_le (by simp; omega)]
theorem sim_appv (h : FR c st a w ow τ ob) {t e : TypeId} {y z : Operand} {i : TypeInfo} {zv : Value} (ht : P.underlying t = some (.slice e)) (hi : P.info? e = some i) (hzv : i.zero = some zv)
    (hzs : zv.cells.size = i.size) (hz1 : zv.cells.toList.all (·.oneCell') = true) (hsz : 0 < i.size) (hby : 0 < i.bytes) {d' g n m : Nat} {cp : Option Nat} {news : List AV} (ev : (st.ev y).vslOf = some (d', g, i.size, 0, n, cp)) (es : st.src i.size none (st.ev z) = some (m, news)) (hg : g = st.gen d') (hl : n * i.size ≤ (st.var d').length) (hbound : (n + m) * i.bytes ≤ 140737488355328) :
    Sim P c ((st.kill d').newVar d ((st.var d').take (n * i.size) ++ news)) (.vsl d ((st.kill d').gen d + 1) i.size 0 (n + m) none) ⟨dst, .call { callee := .builtin .append, args := #[y, z], argTypes := #[t, t] }, type, pos, after, guard⟩ a w ob := by
  have hz1' := List.all_eq_true.1 hz1
  have hy := R_ev h y
  rw [vslOf_eq ev] at hy
  simp only [R] at hy
  obtain ⟨_, A, zc, hv, hnz, hzm, _, hb⟩ := hy
  obtain ⟨b, o, hvb, rfl, ho⟩ := hb hg
  obtain ⟨cs, T', hheap, hcsz, h1, hr⟩ := var_block h hvb
  obtain ⟨A2, n2, z2, us, hv2, hnz2, hz2, hm, hrn, hlu, hcell⟩ := src_vals h es (R_ev h z)
  have hm' : m = n2 := hm
  subst hm'
  rw [Nat.zero_add] at hcsz
  have htot : n + m ≤ 140737488355328 := Nat.le_trans (Nat.le_mul_of_pos_right _ hby) hbound
  have hnl : n * i.size ≤ cs.size := Nat.le_trans (Nat.mul_le_mul_right _ hnz) hcsz
  have hro : Rs (Kof c st w ow τ ob) ((st.var d').take (n * i.size)) (cs.toList.take (n * i.size)) := by
    have := Rs_take (n * i.size) hr
    rwa [List.take_take, Nat.min_eq_left hl] at this
  have hlo : (cs.toList.take (n * i.size)).length = n * i.size := by simp; omega
  have hln : news.length = us.length := (Rs_length hrn).symm
  have hlt : ((st.var d').take (n * i.size)).length = n * i.size := by simp; omega
  obtain ⟨kF, kK⟩ := h.kill d'
  have exec : ∀ {v : Value} {w' : World}, (Builtin.append_ #[t, t] type #[.slice (some ⟨b, o, none⟩) n zc, .slice A2 m z2]).run P w = .ok v w' →
      (execOp a.eval (⟨dst, .call { callee := .builtin .append, args := #[y, z], argTypes := #[t, t] }, type, pos, after, guard⟩ : Oper)).run P w = .ok (.value v) w' := by
    intro v w' hr
    simp [execOp, resolve, invoke, builtin, hv, hv2, hr]
  intro K Q hK
  by_cases hroom : n + m ≤ zc
  · have hfit : n * i.size + us.length ≤ cs.size := by
      rw [hlu, ← Nat.add_mul]
      exact Nat.le_trans (Nat.mul_le_mul_right _ hroom) hcsz
    have hcl : (splice cs.toList (n * i.size) us).length = cs.size := by rw [splice_length _ _ _ (by simpa using hfit)]; simp
    obtain ⟨k1, _, k3, k4⟩ := kF.adopt (b := b) d hvb.1 (killOwn_at hvb.2.1) hheap (xs := (st.var d').take (n * i.size) ++ news) (cs := splice cs.toList (n * i.size) us) (splice_one h1 (Rs_one hrn)) (by
      rw [List.length_append, hlt, hln, splice_end (by simpa using hnl)]
      exact Rs_append (Rs_mono kK _ _ hro) (Rs_mono kK _ _ hrn))
    have hrun : (Builtin.append_ #[t, t] type #[.slice (some ⟨b, o, none⟩) n zc, .slice A2 m z2]).run P w = .ok (.slice (some ⟨b, o, none⟩) (n + m) zc) (w.setRow b (splice cs.toList (n * i.size) us).toArray) := by
      by_cases hm0 : m = 0
      · have hnil : us = [] := List.eq_nil_of_length_eq_zero (by rw [hlu, hm0, Nat.zero_mul])
        subst hnil
        have e1 : splice cs.toList (n * i.size) ([] : List Value) = cs.toList := by simp [splice]
        rw [hm0, e1, Array.toArray_toList, setRow_self w b cs T' (0, 0) hheap]
        exact run_app_none ht hi hnz w
      · obtain ⟨ad, rfl, hcc⟩ := hcell hm0
        have := ho (by omega)
        subst this
        exact run_app_room ht hi hheap hlu hcc (Rs_one hrn) hroom hfit
    refine wp_value (exec hrun) (hK _ _ _ _ k1 ?_)
    simp only [R]
    refine ⟨k3, _, _, rfl, hroom, hzm, ?_, fun _ => ⟨b, o, k4 _ (by rw [hcl, Nat.zero_add]; exact hcsz), rfl, ho⟩⟩
    intro c' hc'
    cases hc'
  · have hm0 : m ≠ 0 := by omega
    obtain ⟨ad, rfl, hcc⟩ := hcell hm0
    have hA : ((some ⟨b, o, none⟩ : Option Addr) = none ∧ n = 0 ∧ zc = 0) ∨ ∃ b' : Addr, (some ⟨b, o, none⟩ : Option Addr) = some b' ∧ ∀ j u, (cs.toList.take (n * i.size))[j]? = some u → w.cell? (b'.add j) = some u := by
      refine .inr ⟨_, rfl, fun j u hj => ?_⟩
      have hjl := (List.getElem?_eq_some_iff.1 hj).1
      rw [hlo] at hjl
      have hn0 : 0 < n := by rcases Nat.eq_zero_or_pos n with h | h; · subst h; omega
                             · exact h
      have := ho (by omega)
      subst this
      rw [addr_add, Nat.zero_add]
      rw [List.getElem?_take, if_pos hjl] at hj
      simp [World.cell?, hheap]
      simpa using hj
    have hrun := run_app_grow (P := P) (ty := type) ht hi hzv (A := some ⟨b, o, none⟩) (z := zc) (z2 := z2) (ad := ad) (w := w) hlo hA hlu hcc (by omega) (by omega) (by omega) hbound
    have hge := grownCap_ge w (n + m) zc e
    have hle := grownCap_le_maxLen w (n + m) zc e (by unfold maxLen; omega)
    have hRs : Rs (Kof c (st.kill d') w (killOwn ow d') τ ob) ((st.var d').take (n * i.size) ++ news) (cs.toList.take (n * i.size) ++ us) := Rs_append (Rs_mono kK _ _ hro) (Rs_mono kK _ _ hrn)
    have hlR := Rs_length hRs
    obtain ⟨k1, _, k3, k4⟩ := kF.drew.newVarO d (xs := (st.var d').take (n * i.size) ++ news) (.cells ((cs.toList.take (n * i.size)).toArray ++ us.toArray ++ Builtin.zeroCells zv.cells (grownCap w (n + m) zc e - (n + m))) e) ⟨rfl, by
      intro v hv
      simp only [Array.toList_append, List.mem_append] at hv
      rcases hv with (hv | hv) | hv
      · exact h1 v (List.mem_of_mem_take hv)
      · exact Rs_one hrn v hv
      · rw [zeros_list _ (by omega)] at hv; exact zeros_one hz1' _ v hv, by
      simp only [Array.toList_append]
      rw [← hlR, List.take_left]
      exact hRs⟩
    refine wp_value (exec hrun) (hK _ _ _ _ k1 (R_vslNew k3 (k4 _ ⟨rfl, ?_⟩) hge hle (fun c' hc' => by cases hc')))
    rw [← Array.length_toList, Array.toList_append, Array.toList_append, List.length_append, List.length_append, size_zeroCells', hzs]
    have e3 : ((cs.toList.take (n * i.size)).toArray.toList).length = n * i.size := hlo
    have e4 : (us.toArray.toList).length = m * i.size := hlu
    rw [e3, e4, ← Nat.add_mul, ← Nat.add_mul]
    exact Nat.mul_le_mul_right _ (by omega)

theorem sim_app (h : FR c st a w ow τ ob) {t e : TypeId} {y z : Operand} {args : Array Operand} {argTypes : Array TypeId} {i : TypeInfo} {zv : Value} (hargs : args.toList = [y, z]) (htys : argTypes.toList = [t, t]) (ht : P.underlying t = some (.slice e)) (hi : P.info? e = some i) (hzv : i.zero = some zv)
    (hzs : zv.cells.size = i.size) (hz1 : zv.cells.toList.all (·.oneCell') = true) (hsz : 0 < i.size) (hby : 0 < i.bytes) (ha : act Φ d st (.app i.size i.bytes y z) = some (x, st')) :
    Sim P c st' x ⟨dst, .call { callee := .builtin .append, args := args, argTypes := argTypes }, type, pos, after, guard⟩ a w ob := by
  have e1 : args = #[y, z] := by rw [← Array.toArray_toList (xs := args), hargs]
  have e2 : argTypes = #[t, t] := by rw [← Array.toArray_toList (xs := argTypes), htys]
  subst e1
  subst e2
  simp only [act] at ha
  split at ha
  · rename_i d' g sz' off n cp ev
    split at ha
    · rename_i m news es
      split at ha
      · rename_i hc
        obtain ⟨rfl, rfl, hg, hl, hbound⟩ := hc
        simp only [Option.some.injEq, Prod.mk.injEq] at ha
        obtain ⟨rfl, rfl⟩ := ha
        exact sim_appv h ht hi hzv hzs hz1 hsz hby ev es hg hl hbound
      · cases ha
    · cases ha
  · rename_i tok rows tok2 news _ q1 q2
    have hy := R_asSl (R_ev h y) q1
    have hz := R_asSl (R_ev h z) q2
    split at ha
    · rename_i hbound
      obtain ⟨st1, hst, hx⟩ := Option.map_eq_some_iff.1 ha
      simp only [Prod.mk.injEq] at hx
      obtain ⟨rfl, rfl⟩ := hx
      obtain ⟨f1, f2, f3, f4, f5, f6, f7, f8, hcase⟩ := appTok_same hst
      obtain ⟨A, zc, hv, _, _⟩ := sl_value hy
      obtain ⟨A2, zc2, hv2, _, _⟩ := sl_value hz
      rw [hv] at hy
      rw [hv2] at hz
      obtain ⟨_, hnz, hzm, olds, ho1, ho2, ho3, ho4⟩ := sl_vals hy
      obtain ⟨_, _, _, nvs, hn1, hn2, hn3, hn4⟩ := sl_vals hz
      have hlen1 : rows.length ≤ rows.length * i.bytes := Nat.le_mul_of_pos_right _ hby
      have htot : rows.length + news.length ≤ 140737488355328 := Nat.le_trans (Nat.le_mul_of_pos_right _ hby) hbound
      have exec : ∀ {v : Value} {w' : World}, (Builtin.append_ #[t, t] type #[.slice A rows.length zc, .slice A2 news.length zc2]).run P w = .ok v w' →
          (execOp a.eval (⟨dst, .call { callee := .builtin .append, args := #[y, z], argTypes := #[t, t] }, type, pos, after, guard⟩ : Oper)).run P w = .ok (.value v) w' := by
        intro v w' hr
        simp [execOp, resolve, invoke, builtin, hv, hv2, hr]
      intro K Q hK
      have hsizes : ∀ r ∈ rows ++ news, r.length = i.size := fun r hr => (List.mem_append.1 hr).elim (ho3 r) (hn3 r)
      have hlenrn : (rows ++ news).length = rows.length + news.length := List.length_append
      -- either no spare cells, or the token's block
      have hkind : zc = rows.length ∨ ∃ t' g b cur Tb, tok = .own t' g ∧ st1 = (st.spend t').give d (rows.length + news.length) ∧ A = some ⟨b, 0, none⟩ ∧ c.base ≤ b ∧ ow b = .tok t' ∧ τ b = rows.length * i.size ∧ w.heap[b]? = some (.cells cur Tb (0, 0)) ∧ cur.size = zc * i.size := by
        rcases hcase with ⟨rfl, _⟩ | ⟨t', g, rfl, hg, htop, hst1⟩
        · simp only [R] at hy
          obtain ⟨A', z', e, _, _, _, hf⟩ := hy
          injection e with _ _ e3
          exact .inl (e3.trans hf)
        · simp only [R] at hy
          obtain ⟨A', z', e, _, _, _, _, htok⟩ := hy
          injection e with e1 e2 e3
          rcases htok ⟨hg.symm, htop⟩ with hf | ⟨b, hA, hb, hob, hτ, cur, Tb, hcur, hcs⟩
          · exact .inl (e3.trans hf)
          · exact .inr ⟨t', g, b, cur, Tb, rfl, hst1, e1.trans hA, hb, hob, hτ, hcur, by rw [e3]; exact hcs⟩
      have hnr : ∀ {k' : Go.Av.K}, KLe (Kof c st w ow τ ob) k' → Rs k'.pure (rows ++ news).flatten (olds ++ nvs) := fun hk => by
        rw [List.flatten_append]
        exact Rs_append (Rs_mono hk.pure _ _ ho1) (Rs_mono hk.pure _ _ hn1)
      by_cases hroom : rows.length + news.length ≤ zc
      · rcases hkind with hfull | ⟨t', g, b, cur, Tb, rfl, hst1, rfl, hb, hob, hτ, hcur, hcs⟩
        · have hm : news.length = 0 := by omega
          have hnil : news = [] := List.eq_nil_of_length_eq_zero hm
          subst hnil
          have hrun := run_app_none (P := P) (ty := type) ht hi (A := A) (A2 := A2) (z2 := zc2) hnz w
          obtain ⟨hF, hk⟩ := h.give' 0 d f1 f2 f3 f4 f7 f8
          refine wp_value (exec (by simpa using hrun)) (hK _ _ _ _ hF ?_)
          have hy' := R_mono hk _ _ (R_weak hy)
          have hy2 : R (Kof c st1 w ow τ ob) (.sl i.size .ro rows) (.slice A rows.length zc) := by
            cases tok with
            | ro => exact hy'
            | full =>
              simp only [AV.weak, R] at hy' ⊢
              obtain ⟨A', z', e, hl, hmx, hr, hf⟩ := hy'
              exact ⟨A', z', e, hl, hmx, hr, trivial⟩
            | own _ _ => exact hy'
          simp only [R, List.append_nil] at hy2 ⊢
          obtain ⟨A', z', e, hl, hmx, hr, _⟩ := hy2
          refine ⟨A', z', e, hl, hmx, hr, ⟨⟨by omega, by rw [f5]; omega⟩, fun _ => .inl ?_⟩⟩
          injection e with _ _ e3
          omega
        · have hfit : rows.length * i.size + nvs.length ≤ cur.size := by rw [hn2, hcs, ← Nat.add_mul]; exact Nat.mul_le_mul_right _ hroom
          have hcl : (splice cur.toList (rows.length * i.size) nvs).length = cur.size := by rw [splice_length _ _ _ (by simpa using hfit)]; simp
          have hpre : ∀ j, j < τ b → (splice cur.toList (rows.length * i.size) nvs)[j]? = cur[j]? := by
            intro j hj
            rw [hτ] at hj
            unfold splice
            rw [List.append_assoc, List.getElem?_append_left (by simp; omega), List.getElem?_take, if_pos hj]
            simp
          obtain ⟨hF, hk⟩ := h.setTok (d := d) (n := rows.length + news.length) (f := (rows.length + news.length) * i.size) hb hob hcur hpre (by rw [hτ]; exact Nat.mul_le_mul_right _ (Nat.le_add_right _ _)) hcl
          rw [← hst1] at hF hk
          have hrun : (Builtin.append_ #[t, t] type #[.slice (some ⟨b, 0, none⟩) rows.length zc, .slice A2 news.length zc2]).run P w = .ok (.slice (some ⟨b, 0, none⟩) (rows.length + news.length) zc) (w.setRow b (splice cur.toList (rows.length * i.size) nvs).toArray) := by
            by_cases hm : news.length = 0
            · have hnil : nvs = [] := List.eq_nil_of_length_eq_zero (by rw [hn2, hm, Nat.zero_mul])
              subst hnil
              have e1 : splice cur.toList (rows.length * i.size) ([] : List Value) = cur.toList := by simp [splice]
              rw [hm, e1, Array.toArray_toList, setRow_self w b cur Tb (0, 0) hcur]
              exact run_app_none ht hi hnz w
            · obtain ⟨b2, o2, rfl, hc2⟩ := hn4 hm
              exact run_app_room ht hi hcur hn2 (fun j u hj => by rw [addr_add]; exact (hc2 j u hj).2.1) (Rs_one hn1) hroom hfit
          refine wp_value (exec hrun) (hK _ _ _ _ hF ?_)
          have hcellb : ∀ j, (w.setRow b (splice cur.toList (rows.length * i.size) nvs).toArray).cell? ⟨b, j, none⟩ = (splice cur.toList (rows.length * i.size) nvs)[j]? := by
            intro j
            rw [cell_of_heap (setRow_heap w b cur _ Tb _ hcur)]
            simp
          simp only [R]
          refine ⟨_, zc, by rw [hlenrn], by rw [hlenrn]; exact hroom, hzm, fun _ => ⟨b, 0, rfl, ?_⟩, ⟨⟨by omega, by rw [f5]; omega⟩, fun _ => .inr ⟨b, rfl, hb, upd_same _ _ _, by rw [upd_same, hlenrn], _, Tb, setRow_heap w b cur _ Tb _ hcur, by simp [hcl, hcs]⟩⟩⟩
          refine rowsAt_of (hnr hk) hsizes fun j v hj => ?_
          rw [Nat.zero_add]
          have hjl : j < (olds ++ nvs).length := (List.getElem?_eq_some_iff.1 hj).1
          rw [List.length_append, ho2, hn2, ← Nat.add_mul] at hjl
          refine ⟨rfl, ?_, .inr ⟨hb, .inr ⟨d, upd_same _ _ _, by rw [upd_same]; exact hjl⟩⟩⟩
          rw [hcellb]
          by_cases hj1 : j < rows.length * i.size
          · rw [List.getElem?_append_left (by omega)] at hj
            rw [hpre j (by rw [hτ]; exact hj1)]
            have hne : rows.length ≠ 0 := by rintro e; rw [e] at hj1; omega
            obtain ⟨b3, o3, e3, hc3⟩ := ho4 hne
            injection e3 with e3
            injection e3 with e4 e5
            subst e4; subst e5
            have := (hc3 j v hj).2.1
            rw [Nat.zero_add, cell_of_heap hcur] at this
            exact this
          · rw [List.getElem?_append_right (by omega), ho2] at hj
            unfold splice
            rw [List.append_assoc, List.getElem?_append_right (by simp; omega)]
            rw [List.getElem?_append_left (by
              have := (List.getElem?_eq_some_iff.1 hj).1
              simp
              omega)]
            have e1 : min (rows.length * i.size) cur.size = rows.length * i.size := by omega
            simp only [List.length_take, Array.length_toList, e1]
            exact hj
      · have hm : news.length ≠ 0 := by omega
        obtain ⟨b2, o2, rfl, hc2⟩ := hn4 hm
        have hA : (A = none ∧ rows.length = 0 ∧ zc = 0) ∨ ∃ b : Addr, A = some b ∧ ∀ j u, olds[j]? = some u → w.cell? (b.add j) = some u := by
          by_cases h0 : rows.length = 0
          · have hol : olds = [] := List.eq_nil_of_length_eq_zero (by rw [ho2, h0, Nat.zero_mul])
            cases A with
            | none =>
              refine .inl ⟨rfl, h0, ?_⟩
              rcases hkind with hk | ⟨_, _, _, _, _, _, _, hA, _⟩
              · omega
              · cases hA
            | some ad => exact .inr ⟨ad, rfl, fun j u hj => by rw [hol] at hj; simp at hj⟩
          · obtain ⟨b3, o3, rfl, hc3⟩ := ho4 h0
            exact .inr ⟨_, rfl, fun j u hj => by rw [addr_add]; exact (hc3 j u hj).2.1⟩
        have hrun := run_app_grow (P := P) (ty := type) ht hi hzv (A := A) (z := zc) (z2 := zc2) (ad := ⟨b2, o2, none⟩) (w := w) ho2 hA hn2 (fun j u hj => by rw [addr_add]; exact (hc2 j u hj).2.1) (by omega) (by omega) (by omega) hbound
        have hge := grownCap_ge w (rows.length + news.length) zc e
        have hle := grownCap_le_maxLen w (rows.length + news.length) zc e (by unfold maxLen; omega)
        obtain ⟨hF, hk⟩ := h.drew.newBlk (.tok d) (by simp) (by simp) (.cells (olds.toArray ++ nvs.toArray ++ Builtin.zeroCells zv.cells (grownCap w (rows.length + news.length) zc e - (rows.length + news.length))) e) ((rows.length + news.length) * i.size) f1 f2 f3 f4 f7 f8
        refine wp_value (exec hrun) (hK _ _ _ _ hF ?_)
        have hsize : (olds.toArray ++ nvs.toArray ++ Builtin.zeroCells zv.cells (grownCap w (rows.length + news.length) zc e - (rows.length + news.length))).size = grownCap w (rows.length + news.length) zc e * i.size := by
          simp only [Array.size_append, List.size_toArray, size_zeroCells, hzs, ho2, hn2, ← Nat.add_mul]
          congr 1
          omega
        simp only [R]
        refine ⟨_, _, by rw [hlenrn], by rw [hlenrn]; exact hge, hle, fun _ => ⟨w.heap.size, 0, rfl, ?_⟩, ⟨⟨by omega, by rw [f5]; omega⟩, fun _ => .inr ⟨w.heap.size, rfl, h.base, upd_same _ _ _, by rw [hlenrn]; exact upd_same _ _ _, _, e, heap_alloc_self, hsize⟩⟩⟩
        refine rowsAt_of (hnr hk) hsizes fun j v hj => ?_
        rw [Nat.zero_add]
        have hjl : j < (olds ++ nvs).length := (List.getElem?_eq_some_iff.1 hj).1
        have hjl' := hjl
        rw [List.length_append, ho2, hn2, ← Nat.add_mul] at hjl'
        refine ⟨rfl, ?_, .inr ⟨h.base, .inr ⟨d, upd_same _ _ _, by rw [show (⟨w.heap.size, j, none⟩ : Addr).block = w.drew.heap.size from rfl, upd_same]; exact hjl'⟩⟩⟩
        rw [cell_of_heap (b := w.heap.size) (heap_alloc_self (w := w.drew))]
        rw [← Array.getElem?_toList]
        simp only [Array.toList_append, List.append_assoc]
        rw [← List.append_assoc, List.getElem?_append_left (by simpa using hjl)]
        exact hj
    · cases ha
  · cases ha
end
end Go.Av
