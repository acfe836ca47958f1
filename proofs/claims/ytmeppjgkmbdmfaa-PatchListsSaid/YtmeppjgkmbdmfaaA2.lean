/- OWN TEXT: see NOTES.md. -/
import Derived.Test.YtmeppjgkmbdmfaaA1
import Derived.Deep.LoopGhost
import Derived.Orders
import Derived.Laws.Externs
set_option linter.all false
namespace Go.Av
variable {σ : Type}
section
variable {P : Program} {T : List Nat} {Φ : Orc} {d : Nat} {c : Cx σ} {st st' : St σ} {x : AV} {a : Act} {w : World} {ow : Nat → Own} {τ : Nat → Nat} {ob : Nat → Value → Prop}
  {dst : Option Nat} {type : TypeId} {pos : String} {after : Array Edge} {guard : Option (Nat × Bool)}

theorem flatten_length {sz : Nat} : ∀ {rows : List (List AV)}, (∀ r ∈ rows, r.length = sz) → rows.flatten.length = rows.length * sz
  | [], _ => by simp
  | r :: rows, h => by
    simp only [List.flatten_cons, List.length_append, h r (by simp), flatten_length (rows := rows) (fun q hq => h q (by simp [hq])), List.length_cons, Nat.add_mul]
    omega
theorem rowsAt_sizes {k : K} {sz : Nat} : ∀ {rows : List (List AV)} {b o : Nat}, rowsAt k sz rows b o → ∀ r ∈ rows, r.length = sz
  | [], b, o, _, r, hr => by simp at hr
  | x :: rows, b, o, h, r, hr => by
    simp only [rowsAt] at h
    rcases List.mem_cons.1 hr with rfl | hr
    · exact h.2.1
    · exact rowsAt_sizes h.2.2 r hr
/-- What a slice's rows hold, as values. -/
theorem sl_vals {k : K} {sz : Nat} {tok : Tok} {rows : List (List AV)} {A : Option Addr} {n z : Nat} (h : R k (.sl sz tok rows) (.slice A n z)) :
    n = rows.length ∧ n ≤ z ∧ z ≤ maxLen ∧ ∃ vs, Rs k.pure rows.flatten vs ∧ vs.length = n * sz ∧ (∀ r ∈ rows, r.length = sz) ∧ (n ≠ 0 → ∃ b o, A = some ⟨b, o, none⟩ ∧ ∀ j v, vs[j]? = some v → k.ic ⟨b, o + j, none⟩ v) := by
  simp only [R] at h
  obtain ⟨A', z', e, hl, hm, hr, _⟩ := h
  injection e with e1 e2 e3
  subst e1; subst e2; subst e3
  refine ⟨rfl, hl, hm, ?_⟩
  cases rows with
  | nil => exact ⟨[], by simp [Rs], by simp, by simp, fun h => absurd rfl h⟩
  | cons r rows =>
    obtain ⟨b, o, rfl, hrows⟩ := hr (by simp)
    obtain ⟨vs, h1, h2, h3⟩ := rowsAt_vals hrows
    exact ⟨vs, h1, h2, rowsAt_sizes hrows, fun _ => ⟨b, o, rfl, h3⟩⟩

theorem appTok_same {n n' : Nat} {tok : Tok} (h : appTok st d n n' tok = some st') : st'.env = st.env ∧ st'.gen = st.gen ∧ st'.var = st.var ∧ st'.x = st.x ∧ st'.tgen d = st.tgen d + 1 ∧ st'.top d = some n' ∧ (∀ t, st.tgen t ≤ st'.tgen t) ∧
    (∀ t m, st'.tgen t = st.tgen t → st'.top t = some m → st.top t = some m) ∧ (tok = .full ∧ st' = st.give d n' ∨ ∃ t g, tok = .own t g ∧ st.tgen t = g ∧ st.top t = some n ∧ st' = (st.spend t).give d n') := by
  unfold appTok at h
  split at h
  · cases h
  · injection h with h
    subst h
    exact ⟨rfl, rfl, rfl, rfl, by simp [St.give, upd], by simp [St.give, upd], give_le _ _ _, fun t m h1 h2 => (give_top _ _ _ t m h1 h2).2, .inl ⟨rfl, rfl⟩⟩
  · rename_i t g
    split at h
    · rename_i hc
      injection h with h
      subst h
      refine ⟨rfl, rfl, rfl, rfl, by simp [St.give, St.spend, upd], by simp [St.give, upd], give_le (st.spend t) _ _, fun t' m h1 h2 => ?_, .inr ⟨t, g, rfl, hc.1, hc.2, rfl⟩⟩
      have := (give_top (st.spend t) _ _ t' m h1 h2).2
      by_cases e : t' = t
      · subst e; simp [St.spend, upd] at this
      · simpa [St.spend, upd, e] using this
    · cases h

theorem splice_end {α : Type} {l xs : List α} {off : Nat} (h : off ≤ l.length) : (splice l off xs).take (off + xs.length) = l.take off ++ xs := by
  unfold splice
  rw [List.take_append_of_le_length (by simp; omega)]
  rw [List.take_of_length_le (by simp; omega)]
theorem sim_appv (h : FR c st a w ow τ ob) {t e : TypeId} {y z : Operand} {i : TypeInfo} {zv : Value} (ht : P.underlying t = some (.slice e)) (hi : P.info? e = some i) (hzv : i.zero = some zv)
    (hzs : zv.cells.size = i.size) (hz1 : zv.cells.toList.all (·.oneCell') = true) (hsz : 0 < i.size) (hby : 0 < i.bytes) {d' g n m : Nat} {cp : Option Nat} {news : List AV} (ev : (st.ev y).vslOf = some (d', g, i.size, 0, n, cp)) (es : st.src i.size none (st.ev z) = some (m, news)) (hg : g = st.gen d') (hl : n * i.size ≤ (st.var d').length) (hbound : (n + m) * i.bytes ≤ 140737488355328) :
    Sim P c ((st.kill d').newVar d ((st.var d').take (n * i.size) ++ news)) (.vsl d ((st.kill d').gen d + 1) i.size 0 (n + m) (keepCap cp (n + m))) ⟨dst, .call { callee := .builtin .append, args := #[y, z], argTypes := #[t, t] }, type, pos, after, guard⟩ a w ob := by
  have hz1' := List.all_eq_true.1 hz1
  have hy := R_ev h y
  rw [vslOf_eq ev] at hy
  simp only [R] at hy
  obtain ⟨_, A, zc, hv, hnz, hzm, hcap, hb⟩ := hy
  have hkeep : ∀ c', keepCap cp (n + m) = some c' → c' = zc ∧ n + m ≤ zc := by
    intro c' hc'
    unfold keepCap at hc'
    split at hc'
    · rename_i c0
      split at hc'
      · injection hc' with hc'
        have := hcap _ rfl
        omega
      · cases hc'
    · cases hc'
  obtain ⟨b, o, hvb, rfl, ho⟩ := hb hg
  obtain ⟨cs, T', hheap, hcsz, h1, hr⟩ := var_block h hvb
  obtain ⟨A2, n2, z2, us, hv2, hnz2, hz2, hm, hrn, hlu, hcell⟩ := src_vals h es (R_ev h z)
  have hm' : m = n2 := hm
  subst hm'
  rw [Nat.zero_add] at hcsz
  have htot : n + m ≤ 140737488355328 := Nat.le_trans (Nat.le_mul_of_pos_right _ hby) hbound
  have hnl : n * i.size ≤ cs.size := Nat.le_trans (Nat.mul_le_mul_right _ hnz) hcsz
  have hro : Rs (Kof c st w ow τ ob) ((st.var d').take (n * i.size)) (cs.toList.take (n * i.size)) := by
    have := Rs_take (n * i.size) hr
    rwa [List.take_take, Nat.min_eq_left hl] at this
  have hlo : (cs.toList.take (n * i.size)).length = n * i.size := by simp; omega
  have hln : news.length = us.length := (Rs_length hrn).symm
  have hlt : ((st.var d').take (n * i.size)).length = n * i.size := by simp; omega
  obtain ⟨kF, kK⟩ := h.kill d'
  have exec : ∀ {v : Value} {w' : World}, (Builtin.append_ #[t, t] type #[.slice (some ⟨b, o, none⟩) n zc, .slice A2 m z2]).run P w = .ok v w' →
      (execOp a.eval (⟨dst, .call { callee := .builtin .append, args := #[y, z], argTypes := #[t, t] }, type, pos, after, guard⟩ : Oper)).run P w = .ok (.value v) w' := by
    intro v w' hr
    simp [execOp, resolve, invoke, builtin, hv, hv2, hr]
  intro K Q hK
  by_cases hroom : n + m ≤ zc
  · have hfit : n * i.size + us.length ≤ cs.size := by
      rw [hlu, ← Nat.add_mul]
      exact Nat.le_trans (Nat.mul_le_mul_right _ hroom) hcsz
    have hcl : (splice cs.toList (n * i.size) us).length = cs.size := by rw [splice_length _ _ _ (by simpa using hfit)]; simp
    obtain ⟨k1, _, k3, k4⟩ := kF.adopt (b := b) d hvb.1 (killOwn_at hvb.2.1) hheap (xs := (st.var d').take (n * i.size) ++ news) (cs := splice cs.toList (n * i.size) us) (splice_one h1 (Rs_one hrn)) (by
      rw [List.length_append, hlt, hln, splice_end (by simpa using hnl)]
      exact Rs_append (Rs_mono kK _ _ hro) (Rs_mono kK _ _ hrn))
    have hrun : (Builtin.append_ #[t, t] type #[.slice (some ⟨b, o, none⟩) n zc, .slice A2 m z2]).run P w = .ok (.slice (some ⟨b, o, none⟩) (n + m) zc) (w.setRow b (splice cs.toList (n * i.size) us).toArray) := by
      by_cases hm0 : m = 0
      · have hnil : us = [] := List.eq_nil_of_length_eq_zero (by rw [hlu, hm0, Nat.zero_mul])
        subst hnil
        have e1 : splice cs.toList (n * i.size) ([] : List Value) = cs.toList := by simp [splice]
        rw [hm0, e1, Array.toArray_toList, setRow_self w b cs T' (0, 0) hheap]
        exact run_app_none ht hi hnz w
      · obtain ⟨ad, rfl, hcc⟩ := hcell hm0
        have := ho (by omega)
        subst this
        exact run_app_room ht hi hheap hlu hcc (Rs_one hrn) hroom hfit
    refine wp_value (exec hrun) (hK _ _ _ _ k1 ?_)
    simp only [R]
    refine ⟨k3, _, _, rfl, hroom, hzm, ?_, fun _ => ⟨b, o, k4 _ (by rw [hcl, Nat.zero_add]; exact hcsz), rfl, ho⟩⟩
    intro c' hc'
    exact (hkeep c' hc').1
  · have hm0 : m ≠ 0 := by omega
    obtain ⟨ad, rfl, hcc⟩ := hcell hm0
    have hA : ((some ⟨b, o, none⟩ : Option Addr) = none ∧ n = 0 ∧ zc = 0) ∨ ∃ b' : Addr, (some ⟨b, o, none⟩ : Option Addr) = some b' ∧ ∀ j u, (cs.toList.take (n * i.size))[j]? = some u → w.cell? (b'.add j) = some u := by
      refine .inr ⟨_, rfl, fun j u hj => ?_⟩
      have hjl := (List.getElem?_eq_some_iff.1 hj).1
      rw [hlo] at hjl
      have hn0 : 0 < n := by rcases Nat.eq_zero_or_pos n with h | h; · subst h; omega
                             · exact h
      have := ho (by omega)
      subst this
      rw [addr_add, Nat.zero_add]
      rw [List.getElem?_take, if_pos hjl] at hj
      simp [World.cell?, hheap]
      simpa using hj
    have hrun := run_app_grow (P := P) (ty := type) ht hi hzv (A := some ⟨b, o, none⟩) (z := zc) (z2 := z2) (ad := ad) (w := w) hlo hA hlu hcc (by omega) (by omega) (by omega) hbound
    have hge := grownCap_ge w (n + m) zc e
    have hle := grownCap_le_maxLen w (n + m) zc e (by unfold maxLen; omega)
    have hRs : Rs (Kof c (st.kill d') w (killOwn ow d') τ ob) ((st.var d').take (n * i.size) ++ news) (cs.toList.take (n * i.size) ++ us) := Rs_append (Rs_mono kK _ _ hro) (Rs_mono kK _ _ hrn)
    have hlR := Rs_length hRs
    obtain ⟨k1, _, k3, k4⟩ := kF.drew.newVarO d (xs := (st.var d').take (n * i.size) ++ news) (.cells ((cs.toList.take (n * i.size)).toArray ++ us.toArray ++ Builtin.zeroCells zv.cells (grownCap w (n + m) zc e - (n + m))) e) ⟨rfl, by
      intro v hv
      simp only [Array.toList_append, List.mem_append] at hv
      rcases hv with (hv | hv) | hv
      · exact h1 v (List.mem_of_mem_take hv)
      · exact Rs_one hrn v hv
      · rw [zeros_list _ (by omega)] at hv; exact zeros_one hz1' _ v hv, by
      simp only [Array.toList_append]
      rw [← hlR, List.take_left]
      exact hRs⟩
    refine wp_value (exec hrun) (hK _ _ _ _ k1 (R_vslNew k3 (k4 _ ⟨rfl, ?_⟩) hge hle (fun c' hc' => absurd (hkeep c' hc').2 hroom)))
    rw [← Array.length_toList, Array.toList_append, Array.toList_append, List.length_append, List.length_append, size_zeroCells', hzs]
    have e3 : ((cs.toList.take (n * i.size)).toArray.toList).length = n * i.size := hlo
    have e4 : (us.toArray.toList).length = m * i.size := hlu
    rw [e3, e4, ← Nat.add_mul, ← Nat.add_mul]
    exact Nat.mul_le_mul_right _ (by omega)

theorem sim_app (h : FR c st a w ow τ ob) {t e : TypeId} {y z : Operand} {args : Array Operand} {argTypes : Array TypeId} {i : TypeInfo} {zv : Value} (hargs : args.toList = [y, z]) (htys : argTypes.toList = [t, t]) (ht : P.underlying t = some (.slice e)) (hi : P.info? e = some i) (hzv : i.zero = some zv)
    (hzs : zv.cells.size = i.size) (hz1 : zv.cells.toList.all (·.oneCell') = true) (hsz : 0 < i.size) (hby : 0 < i.bytes) (ha : act Φ d st (.app i.size i.bytes y z) = some (x, st')) :
    Sim P c st' x ⟨dst, .call { callee := .builtin .append, args := args, argTypes := argTypes }, type, pos, after, guard⟩ a w ob := by
  have e1 : args = #[y, z] := by rw [← Array.toArray_toList (xs := args), hargs]
  have e2 : argTypes = #[t, t] := by rw [← Array.toArray_toList (xs := argTypes), htys]
  subst e1
  subst e2
  simp only [act] at ha
  split at ha
  · rename_i d' g sz' off n cp ev
    split at ha
    · rename_i m news es
      split at ha
      · rename_i hc
        obtain ⟨rfl, rfl, hg, hl, hbound⟩ := hc
        simp only [Option.some.injEq, Prod.mk.injEq] at ha
        obtain ⟨rfl, rfl⟩ := ha
        exact sim_appv h ht hi hzv hzs hz1 hsz hby ev es hg hl hbound
      · cases ha
    · cases ha
  · rename_i tok rows tok2 news _ q1 q2
    have hy := R_asSl (R_ev h y) q1
    have hz := R_asSl (R_ev h z) q2
    split at ha
    · rename_i hbound
      obtain ⟨st1, hst, hx⟩ := Option.map_eq_some_iff.1 ha
      simp only [Prod.mk.injEq] at hx
      obtain ⟨rfl, rfl⟩ := hx
      obtain ⟨f1, f2, f3, f4, f5, f6, f7, f8, hcase⟩ := appTok_same hst
      obtain ⟨A, zc, hv, _, _⟩ := sl_value hy
      obtain ⟨A2, zc2, hv2, _, _⟩ := sl_value hz
      rw [hv] at hy
      rw [hv2] at hz
      obtain ⟨_, hnz, hzm, olds, ho1, ho2, ho3, ho4⟩ := sl_vals hy
      obtain ⟨_, _, _, nvs, hn1, hn2, hn3, hn4⟩ := sl_vals hz
      have hlen1 : rows.length ≤ rows.length * i.bytes := Nat.le_mul_of_pos_right _ hby
      have htot : rows.length + news.length ≤ 140737488355328 := Nat.le_trans (Nat.le_mul_of_pos_right _ hby) hbound
      have exec : ∀ {v : Value} {w' : World}, (Builtin.append_ #[t, t] type #[.slice A rows.length zc, .slice A2 news.length zc2]).run P w = .ok v w' →
          (execOp a.eval (⟨dst, .call { callee := .builtin .append, args := #[y, z], argTypes := #[t, t] }, type, pos, after, guard⟩ : Oper)).run P w = .ok (.value v) w' := by
        intro v w' hr
        simp [execOp, resolve, invoke, builtin, hv, hv2, hr]
      intro K Q hK
      have hsizes : ∀ r ∈ rows ++ news, r.length = i.size := fun r hr => (List.mem_append.1 hr).elim (ho3 r) (hn3 r)
      have hlenrn : (rows ++ news).length = rows.length + news.length := List.length_append
      -- either no spare cells, or the token's block
      have hkind : zc = rows.length ∨ ∃ t' g b cur Tb, tok = .own t' g ∧ st1 = (st.spend t').give d (rows.length + news.length) ∧ A = some ⟨b, 0, none⟩ ∧ c.base ≤ b ∧ ow b = .tok t' ∧ τ b = rows.length * i.size ∧ w.heap[b]? = some (.cells cur Tb (0, 0)) ∧ cur.size = zc * i.size := by
        rcases hcase with ⟨rfl, _⟩ | ⟨t', g, rfl, hg, htop, hst1⟩
        · simp only [R] at hy
          obtain ⟨A', z', e, _, _, _, hf⟩ := hy
          injection e with _ _ e3
          exact .inl (e3.trans hf)
        · simp only [R] at hy
          obtain ⟨A', z', e, _, _, _, _, htok⟩ := hy
          injection e with e1 e2 e3
          rcases htok ⟨hg.symm, htop⟩ with hf | ⟨b, hA, hb, hob, hτ, cur, Tb, hcur, hcs⟩
          · exact .inl (e3.trans hf)
          · exact .inr ⟨t', g, b, cur, Tb, rfl, hst1, e1.trans hA, hb, hob, hτ, hcur, by rw [e3]; exact hcs⟩
      have hnr : ∀ {k' : Go.Av.K}, KLe (Kof c st w ow τ ob) k' → Rs k'.pure (rows ++ news).flatten (olds ++ nvs) := fun hk => by
        rw [List.flatten_append]
        exact Rs_append (Rs_mono hk.pure _ _ ho1) (Rs_mono hk.pure _ _ hn1)
      by_cases hroom : rows.length + news.length ≤ zc
      · rcases hkind with hfull | ⟨t', g, b, cur, Tb, rfl, hst1, rfl, hb, hob, hτ, hcur, hcs⟩
        · have hm : news.length = 0 := by omega
          have hnil : news = [] := List.eq_nil_of_length_eq_zero hm
          subst hnil
          have hrun := run_app_none (P := P) (ty := type) ht hi (A := A) (A2 := A2) (z2 := zc2) hnz w
          obtain ⟨hF, hk⟩ := h.give' 0 d f1 f2 f3 f4 f7 f8
          refine wp_value (exec (by simpa using hrun)) (hK _ _ _ _ hF ?_)
          have hy' := R_mono hk _ _ (R_weak hy)
          have hy2 : R (Kof c st1 w ow τ ob) (.sl i.size .ro rows) (.slice A rows.length zc) := by
            cases tok with
            | ro => exact hy'
            | full =>
              simp only [AV.weak, R] at hy' ⊢
              obtain ⟨A', z', e, hl, hmx, hr, hf⟩ := hy'
              exact ⟨A', z', e, hl, hmx, hr, trivial⟩
            | own _ _ => exact hy'
          simp only [R, List.append_nil] at hy2 ⊢
          obtain ⟨A', z', e, hl, hmx, hr, _⟩ := hy2
          refine ⟨A', z', e, hl, hmx, hr, ⟨⟨by omega, by rw [f5]; omega⟩, fun _ => .inl ?_⟩⟩
          injection e with _ _ e3
          omega
        · have hfit : rows.length * i.size + nvs.length ≤ cur.size := by rw [hn2, hcs, ← Nat.add_mul]; exact Nat.mul_le_mul_right _ hroom
          have hcl : (splice cur.toList (rows.length * i.size) nvs).length = cur.size := by rw [splice_length _ _ _ (by simpa using hfit)]; simp
          have hpre : ∀ j, j < τ b → (splice cur.toList (rows.length * i.size) nvs)[j]? = cur[j]? := by
            intro j hj
            rw [hτ] at hj
            unfold splice
            rw [List.append_assoc, List.getElem?_append_left (by simp; omega), List.getElem?_take, if_pos hj]
            simp
          obtain ⟨hF, hk⟩ := h.setTok (d := d) (n := rows.length + news.length) (f := (rows.length + news.length) * i.size) hb hob hcur hpre (by rw [hτ]; exact Nat.mul_le_mul_right _ (Nat.le_add_right _ _)) hcl
          rw [← hst1] at hF hk
          have hrun : (Builtin.append_ #[t, t] type #[.slice (some ⟨b, 0, none⟩) rows.length zc, .slice A2 news.length zc2]).run P w = .ok (.slice (some ⟨b, 0, none⟩) (rows.length + news.length) zc) (w.setRow b (splice cur.toList (rows.length * i.size) nvs).toArray) := by
            by_cases hm : news.length = 0
            · have hnil : nvs = [] := List.eq_nil_of_length_eq_zero (by rw [hn2, hm, Nat.zero_mul])
              subst hnil
              have e1 : splice cur.toList (rows.length * i.size) ([] : List Value) = cur.toList := by simp [splice]
              rw [hm, e1, Array.toArray_toList, setRow_self w b cur Tb (0, 0) hcur]
              exact run_app_none ht hi hnz w
            · obtain ⟨b2, o2, rfl, hc2⟩ := hn4 hm
              exact run_app_room ht hi hcur hn2 (fun j u hj => by rw [addr_add]; exact (hc2 j u hj).2.1) (Rs_one hn1) hroom hfit
          refine wp_value (exec hrun) (hK _ _ _ _ hF ?_)
          have hcellb : ∀ j, (w.setRow b (splice cur.toList (rows.length * i.size) nvs).toArray).cell? ⟨b, j, none⟩ = (splice cur.toList (rows.length * i.size) nvs)[j]? := by
            intro j
            rw [cell_of_heap (setRow_heap w b cur _ Tb _ hcur)]
            simp
          simp only [R]
          refine ⟨_, zc, by rw [hlenrn], by rw [hlenrn]; exact hroom, hzm, fun _ => ⟨b, 0, rfl, ?_⟩, ⟨⟨by omega, by rw [f5]; omega⟩, fun _ => .inr ⟨b, rfl, hb, upd_same _ _ _, by rw [upd_same, hlenrn], _, Tb, setRow_heap w b cur _ Tb _ hcur, by simp [hcl, hcs]⟩⟩⟩
          refine rowsAt_of (hnr hk) hsizes fun j v hj => ?_
          rw [Nat.zero_add]
          have hjl : j < (olds ++ nvs).length := (List.getElem?_eq_some_iff.1 hj).1
          rw [List.length_append, ho2, hn2, ← Nat.add_mul] at hjl
          refine ⟨rfl, ?_, .inr ⟨hb, .inr ⟨d, upd_same _ _ _, by rw [upd_same]; exact hjl⟩⟩⟩
          rw [hcellb]
          by_cases hj1 : j < rows.length * i.size
          · rw [List.getElem?_append_left (by omega)] at hj
            rw [hpre j (by rw [hτ]; exact hj1)]
            have hne : rows.length ≠ 0 := by rintro e; rw [e] at hj1; omega
            obtain ⟨b3, o3, e3, hc3⟩ := ho4 hne
            injection e3 with e3
            injection e3 with e4 e5
            subst e4; subst e5
            have := (hc3 j v hj).2.1
            rw [Nat.zero_add, cell_of_heap hcur] at this
            exact this
          · rw [List.getElem?_append_right (by omega), ho2] at hj
            unfold splice
            rw [List.append_assoc, List.getElem?_append_right (by simp; omega)]
            rw [List.getElem?_append_left (by
              have := (List.getElem?_eq_some_iff.1 hj).1
              simp
              omega)]
            have e1 : min (rows.length * i.size) cur.size = rows.length * i.size := by omega
            simp only [List.length_take, Array.length_toList, e1]
            exact hj
      · have hm : news.length ≠ 0 := by omega
        obtain ⟨b2, o2, rfl, hc2⟩ := hn4 hm
        have hA : (A = none ∧ rows.length = 0 ∧ zc = 0) ∨ ∃ b : Addr, A = some b ∧ ∀ j u, olds[j]? = some u → w.cell? (b.add j) = some u := by
          by_cases h0 : rows.length = 0
          · have hol : olds = [] := List.eq_nil_of_length_eq_zero (by rw [ho2, h0, Nat.zero_mul])
            cases A with
            | none =>
              refine .inl ⟨rfl, h0, ?_⟩
              rcases hkind with hk | ⟨_, _, _, _, _, _, _, hA, _⟩
              · omega
              · cases hA
            | some ad => exact .inr ⟨ad, rfl, fun j u hj => by rw [hol] at hj; simp at hj⟩
          · obtain ⟨b3, o3, rfl, hc3⟩ := ho4 h0
            exact .inr ⟨_, rfl, fun j u hj => by rw [addr_add]; exact (hc3 j u hj).2.1⟩
        have hrun := run_app_grow (P := P) (ty := type) ht hi hzv (A := A) (z := zc) (z2 := zc2) (ad := ⟨b2, o2, none⟩) (w := w) ho2 hA hn2 (fun j u hj => by rw [addr_add]; exact (hc2 j u hj).2.1) (by omega) (by omega) (by omega) hbound
        have hge := grownCap_ge w (rows.length + news.length) zc e
        have hle := grownCap_le_maxLen w (rows.length + news.length) zc e (by unfold maxLen; omega)
        obtain ⟨hF, hk⟩ := h.drew.newBlk (.tok d) (by simp) (by simp) (.cells (olds.toArray ++ nvs.toArray ++ Builtin.zeroCells zv.cells (grownCap w (rows.length + news.length) zc e - (rows.length + news.length))) e) ((rows.length + news.length) * i.size) f1 f2 f3 f4 f7 f8
        refine wp_value (exec hrun) (hK _ _ _ _ hF ?_)
        have hsize : (olds.toArray ++ nvs.toArray ++ Builtin.zeroCells zv.cells (grownCap w (rows.length + news.length) zc e - (rows.length + news.length))).size = grownCap w (rows.length + news.length) zc e * i.size := by
          simp only [Array.size_append, List.size_toArray, size_zeroCells, hzs, ho2, hn2, ← Nat.add_mul]
          congr 1
          omega
        simp only [R]
        refine ⟨_, _, by rw [hlenrn], by rw [hlenrn]; exact hge, hle, fun _ => ⟨w.heap.size, 0, rfl, ?_⟩, ⟨⟨by omega, by rw [f5]; omega⟩, fun _ => .inr ⟨w.heap.size, rfl, h.base, upd_same _ _ _, by rw [hlenrn]; exact upd_same _ _ _, _, e, heap_alloc_self, hsize⟩⟩⟩
        refine rowsAt_of (hnr hk) hsizes fun j v hj => ?_
        rw [Nat.zero_add]
        have hjl : j < (olds ++ nvs).length := (List.getElem?_eq_some_iff.1 hj).1
        have hjl' := hjl
        rw [List.length_append, ho2, hn2, ← Nat.add_mul] at hjl'
        refine ⟨rfl, ?_, .inr ⟨h.base, .inr ⟨d, upd_same _ _ _, by rw [show (⟨w.heap.size, j, none⟩ : Addr).block = w.drew.heap.size from rfl, upd_same]; exact hjl'⟩⟩⟩
        rw [cell_of_heap (b := w.heap.size) (heap_alloc_self (w := w.drew))]
        rw [← Array.getElem?_toList]
        simp only [Array.toList_append, List.append_assoc]
        rw [← List.append_assoc, List.getElem?_append_left (by simpa using hjl)]
        exact hj
    · cases ha
  · cases ha
end
end Go.Av

namespace Go.Av
variable {σ : Type}
section
variable {P : Program} {T : List Nat} {Φ : Orc} {d : Nat} {c : Cx σ} {st st' : St σ} {x : AV} {a : Act} {w : World} {ow : Nat → Own} {τ : Nat → Nat} {ob : Nat → Value → Prop}
  {dst : Option Nat} {type : TypeId} {pos : String} {after : Array Edge} {guard : Option (Nat × Bool)}

theorem isNeq_eq {op : BinOp} {ng : Bool} (h : isNeq op = some ng) : op = if ng then .neq else .eql := by
  cases op <;> simp [isNeq] at h <;> subst h <;> rfl
theorem act_sim (hΦ : Specs σ P T Φ) (hgr : c.ground P) {op : Op} {ao : AOp} (hc : comp P T op = some ao) (ha : act Φ d st ao = some (x, st')) (h : FR c st a w ow τ ob) :
    Sim P c st' x ⟨dst, op, type, pos, after, guard⟩ a w ob := by
  cases op <;> simp only [comp] at hc <;> try (simp only [reduceCtorEq] at hc; done)
  case move y => injection hc with hc; subst hc; exact sim_mov h (.inl rfl) ha
  case assign y => injection hc with hc; subst hc; exact sim_mov h (.inr rfl) ha
  case pick y z u => injection hc with hc; subst hc; exact sim_pick h ha
  case box t y => injection hc with hc; subst hc; exact sim_box h ha
  case alloc t =>
    split at hc
    · split at hc
      · split at hc
        · injection hc with hc; subst hc; exact sim_alloc h ‹_› ‹_› ‹_› ha
        · cases hc
      · cases hc
    · cases hc
  case build t parts =>
    split at hc
    · split at hc
      · split at hc
        · rename_i hq
          obtain ⟨qs, hp, hx⟩ := Option.map_eq_some_iff.1 hc
          subst hx
          exact sim_build h ‹_› ‹_› ‹_› hq.1 hq.2 hp ha
        · cases hc
      · cases hc
    · split at hc
      · split at hc
        · injection hc with hc; subst hc; exact sim_builda h ‹_› ‹_› ‹_› ‹_› ‹_› ha
        · cases hc
      · cases hc
    · cases hc
  case buildSlice t len parts =>
    split at hc
    · split at hc
      · split at hc
        · rename_i hq
          obtain ⟨q1, q2, q3, q4⟩ := hq
          obtain ⟨z, hz, hzs⟩ := Option.map_eq_some_iff.1 q4
          injection hc with hc; subst hc
          exact sim_bsl h ‹_› ‹_› q1 q2 q3 hz hzs ha
        · cases hc
      · cases hc
    · cases hc
  case load t y =>
    split at hc
    · split at hc
      · injection hc with hc; subst hc; exact sim_load h ‹_› ‹_› ‹_› ha
      · cases hc
    · cases hc
  case store t y z =>
    split at hc
    · injection hc with hc; subst hc; exact sim_store h ‹_› ha
    · cases hc
  case fieldAddr s y f =>
    split at hc
    · split at hc
      · split at hc
        · split at hc
          · cases hc
          · injection hc with hc; subst hc; exact sim_faddr h ‹_› ‹_› ‹_› ‹_› ha
        · cases hc
      · cases hc
    · cases hc
  case indexAddr t y z =>
    split at hc
    · split at hc
      · injection hc with hc; subst hc; exact sim_iaddr h ‹_› ‹_› ha
      · cases hc
    · split at hc
      · injection hc with hc; subst hc; exact sim_aaddr h ‹_› ‹_› ha
      · cases hc
    · cases hc
  case index t y z =>
    split at hc
    · injection hc with hc; subst hc; exact sim_sidx h ‹_› ha
    · split at hc
      · split at hc
        · injection hc with hc; subst hc; exact sim_aidx h ‹_› ‹_› ‹_› ‹_› ha
        · cases hc
      · cases hc
    · cases hc
  case makeFunc fn first caps =>
    split at hc
    · injection hc with hc; subst hc; exact sim_mkf h ha
    · cases hc
  case makeMap t r =>
    split at hc
    · injection hc with hc; subst hc; exact sim_mkmap h ha
    · cases hc
  case makeSlice t l cc =>
    split at hc
    · split at hc
      · split at hc
        · split at hc
          · rename_i hq
            obtain ⟨rfl, q1, q2, q3, q4⟩ := hq
            injection hc with hc; subst hc
            exact sim_mksl h ‹_› ‹_› ‹_› q1 q2 q3 q4 ha
          · cases hc
        · cases hc
      · cases hc
    · cases hc
  case lookup t m k comma =>
    split at hc
    · split at hc
      · split at hc
        · injection hc with hc; subst hc; exact sim_mget h ‹_› ‹_› ‹_› ‹_› ha
        · cases hc
      · cases hc
    · cases hc
  case mapUpdate t m k v =>
    split at hc
    · split at hc
      · injection hc with hc; subst hc; exact sim_mset h ‹_› ‹_› ha
      · cases hc
    · cases hc
  case insert t m k v =>
    split at hc
    · split at hc
      · injection hc with hc; subst hc; exact sim_insert h ‹_› ‹_› ha
      · cases hc
    · cases hc
  case field t y f =>
    split at hc
    · split at hc
      · split at hc
        · split at hc
          · injection hc with hc; subst hc; exact sim_field h ‹_› ‹_› ‹_› ‹_› ‹_› ha
          · cases hc
        · cases hc
      · cases hc
    · cases hc
  case binOp op t y z ty =>
    split at hc
    · injection hc with hc; subst hc; exact sim_bin h ha
    · injection hc with hc; subst hc; exact sim_bin h ha
    · cases op <;> simp only [reduceCtorEq, Option.some.injEq] at hc
      · subst hc; exact sim_beq (neg := false) h ‹_› ha
      · subst hc; exact sim_beq (neg := true) h ‹_› ha
    · split at hc
      · split at hc
        · rename_i hq
          cases op <;> simp only [reduceCtorEq, Option.some.injEq] at hc
          · subst hc; exact sim_seq (neg := false) h ‹_› ‹_› hq.1 ha
          · subst hc; exact sim_seq (neg := true) h ‹_› ‹_› hq.1 ha
        · cases hc
      · cases hc
    · split at hc
      · rename_i hn
        split at hc
        · injection hc with hc; subst hc; exact sim_peq h (isNeq_eq hn) ‹_› (.inl ⟨rfl, ‹_›⟩) ha
        · split at hc
          · injection hc with hc; subst hc; exact sim_peq h (isNeq_eq hn) ‹_› (.inr ⟨rfl, ‹_›⟩) ha
          · cases hc
      · cases hc
    · split at hc
      · rename_i hn
        split at hc
        · injection hc with hc; subst hc; exact sim_snil h (isNeq_eq hn) ‹_› ‹_› ha
        · cases hc
      · cases hc
    · cases hc
  case unOp op t y => injection hc with hc; subst hc; exact sim_un h ha
  case convert s t y =>
    split at hc
    · injection hc with hc; subst hc; exact sim_convi h ‹_› ‹_› ha
    · injection hc with hc; subst hc; exact sim_convs h ‹_› ‹_› ha
    · cases hc
  case slice t y lo hi mx =>
    split at hc
    · split at hc
      · injection hc with hc; subst hc; exact sim_slc h ‹_› ‹_› ha
      · cases hc
    · split at hc
      · injection hc with hc; subst hc; exact sim_sslc h ‹_› ha
      · cases hc
    · split at hc
      · injection hc with hc; subst hc; exact sim_asl h ‹_› ‹_› ha
      · cases hc
    · cases hc
  case extract y i => injection hc with hc; subst hc; exact sim_ext h ha
  case nilCheck y => injection hc with hc; subst hc; exact sim_nilc h ha
  case call cl =>
    obtain ⟨callee, args, argTypes⟩ := cl
    simp only at hc
    split at hc
    · split at hc
      · split at hc
        · rename_i hq
          injection hc with hc; subst hc
          exact sim_call hΦ hgr h ‹_› hq.1 hq.2.1 hq.2.2 ha
        · cases hc
      · cases hc
    · injection hc with hc; subst hc; exact sim_callv hΦ hgr h ha
    · split at hc
      · split at hc
        · injection hc with hc; subst hc; exact sim_slen h ‹_› ‹_› ‹_› ha
        · injection hc with hc; subst hc; exact sim_len h ‹_› ‹_› ‹_› ha
        · injection hc with hc; subst hc; exact sim_mlen h ‹_› ‹_› ‹_› ha
        · cases hc
      · cases hc
    · split at hc
      · split at hc
        · injection hc with hc; subst hc; exact sim_capv h ‹_› ‹_› ‹_› ha
        · cases hc
      · cases hc
    · split at hc
      · injection hc with hc; subst hc; exact sim_mm (mx := true) h ‹_› ha
      · cases hc
    · split at hc
      · injection hc with hc; subst hc; exact sim_mm (mx := false) h ‹_› ha
      · cases hc
    · split at hc
      · split at hc
        · split at hc
          · injection hc with hc; subst hc; exact sim_cpy h ‹_› ‹_› ‹_› ‹_› ha
          · cases hc
        · cases hc
      · cases hc
    · split at hc
      · rename_i e1 e2
        split at hc
        · rename_i u1 u2
          split at hc
          · rename_i i1
            split at hc
            · rename_i hq
              obtain ⟨q1, q2, q3, q4⟩ := hq
              obtain ⟨z, hz, hzs⟩ := Option.map_eq_some_iff.1 q4
              simp only [Prod.mk.injEq] at hzs
              rw [← q3] at e2
              injection hc with hc; subst hc
              exact sim_app h e1 e2 u1 i1 hz hzs.1 hzs.2 q1 q2 ha
            · cases hc
          · cases hc
        · rename_i u1 u2
          split at hc
          · rename_i i1
            split at hc
            · rename_i hz
              split at hc
              · rename_i hq
                obtain ⟨q1, q2, q3, q4⟩ := hq
                injection hc with hc; subst hc
                exact sim_appz h e1 e2 u1 u2 i1 hz q1 q2 q3 q4 ha
              · cases hc
            · cases hc
          · cases hc
        · cases hc
      · cases hc
    · cases hc
end
end Go.Av

namespace Go.Av
open Go.RowKit (Below)
variable {σ : Type}

section
variable {P : Program} {T : List Nat} {Φ : Orc} {c : Cx σ} {st st' : St σ} {a : Act} {w : World} {ow : Nat → Own} {τ : Nat → Nat} {ob : Nat → Value → Prop}

theorem yielded_of (h : FR c st a w ow τ ob) {ops : Array Oper} {j dg : Nat} (hj : (ops[j]?).bind (·.dst) = some dg) :
    (∀ b, st.env dg = .imm (.bool b) → yielded ops a.tmps j = some b) ∧ (st.env dg = .tup [] → yielded ops a.tmps j = none) := by
  have hR := h.tmps dg
  constructor
  · intro b e
    rw [e] at hR
    simp only [R] at hR
    have : a.tmps[dg]? = some (.bool b) := by
      rw [Array.getD_eq_getD_getElem?] at hR
      cases e : a.tmps[dg]? with
      | none => rw [e] at hR; simp [undef] at hR
      | some v => rw [e] at hR; simp at hR; rw [hR.1]
    simp [yielded, hj, this]
  · intro e
    rw [e] at hR
    simp only [R] at hR
    obtain ⟨arr, hv, _⟩ := hR
    unfold yielded
    rw [hj]
    simp only [Option.bind_some]
    rw [Array.getD_eq_getD_getElem?] at hv
    cases e : a.tmps[dg]? with
    | none => rfl
    | some v => rw [e] at hv; simp at hv; rw [hv]

theorem wanted_of (h : FR c st a w ow τ ob) {ops : Array Oper} {o : Oper} {g : Option (Nat × Bool)} (hg : compGuard ops o.guard = some g) {b : Bool} (hw : wantedA st g = some b) : Region.wanted o (yielded ops a.tmps) = b := by
  unfold Region.wanted
  unfold compGuard at hg
  split at hg
  · rename_i e
    injection hg with hg
    subst hg
    simp only [wantedA, Option.some.injEq] at hw
    rw [e, ← hw]
  · rename_i j want e
    rw [e]
    split at hg
    · rename_i dg hd
      injection hg with hg
      subst hg
      obtain ⟨h1, h2⟩ := yielded_of h hd
      simp only [wantedA] at hw
      split at hw
      · rename_i x ex
        injection hw with hw
        simp only [h1 x ex]
        rw [← hw]
        cases x <;> cases want <;> rfl
      · rename_i ex
        injection hw with hw
        simp only [h2 ex]
        rw [← hw]
        rfl
      · cases hw
    · cases hg

theorem FR.put_undef (h : FR c st a w ow τ ob) {dst : Option Nat} (hd : ∀ s, dst = some s → s < c.nt) : FR c (st.put dst undefA) (a.put dst undef) w ow τ ob := by
  cases dst with
  | none => exact h
  | some s => exact h.put (hd s rfl) (R_undef _)

theorem step_sim (hΦ : Specs σ P T Φ) (hgr : c.ground P) {ops : Array Oper} {o : Oper} {ao : AOper} (hc : compO P T c.nt ops o = some ao) {k : Nat} (hs : stepA Φ k st ao = some st') (h : FR c st a w ow τ ob) {K : Act → World → Prop} {Q : Exit → Act → World → Prop}
    (hK : ∀ a' w' ow' τ', FR c st' a' w' ow' τ' ob → K a' w') : if Region.wanted o (yielded ops a.tmps) then o.wp P a w K Q ∨ (o.asks P a w ∧ LetsOut Q) else K (a.put o.dst undef) w := by
  unfold compO at hc
  split at hc
  · rename_i ap g hcomp hguard
    split at hc
    · rename_i hnt
      injection hc with hc
      subst hc
      have hlt : ∀ s, o.dst = some s → s < c.nt := by
        intro s e
        rw [e] at hnt
        simpa [dstOk] using hnt
      unfold stepA at hs
      simp only at hs
      split at hs
      · rename_i hw
        rw [wanted_of h hguard hw]
        simp only [if_true]
        obtain ⟨r, hr, hx⟩ := Option.map_eq_some_iff.1 hs
        subst hx
        obtain ⟨dst, op, type, pos, after, guard⟩ := o
        refine .inl (act_sim (c := c) hΦ hgr hcomp (dst := dst) hr h K Q ?_)
        intro v w' ow' τ' hF hR
        refine hK _ _ ow' τ' ?_
        cases dst with
        | none => exact hF
        | some s => exact hF.put (hlt s rfl) hR
      · rename_i hw
        rw [wanted_of h hguard hw]
        simp only [Bool.false_eq_true, if_false]
        injection hs with hs
        subst hs
        exact hK _ _ ow τ (h.put_undef hlt)
      · cases hs
    · cases hc
  · cases hc

end

/-- As an operation without types, or as it stands. -/
def compOH (P : Program) (T : List Nat) (nt : Nat) (ops : Array Oper) (o : Oper) : Option AOper :=
  match compGuard ops o.guard with
  | some g => if dstOk nt o.dst = true then some ⟨o.dst, (comp P T o.op).getD (.hard o.op), g⟩ else none
  | none => none
def compLH (P : Program) (T : List Nat) (nt : Nat) (ops : Array Oper) : List Oper → Option (List AOper)
  | [] => some []
  | o :: rest => match compOH P T nt ops o, compLH P T nt ops rest with | some a, some r => some (a :: r) | _, _ => none

/-- What a hard operation does to the abstract state: a hypothesis of the walks. -/
def HStep (P : Program) (c : Cx σ) (o : Op) (st : St σ) (F : AV → St σ → Prop) : Prop :=
  ∀ dst type pos after guard a w ow τ ob, FR c st a w ow τ ob → ∀ K Q, (∀ x st' v w' ow' τ' ob', F x st' → FR c st' a w' ow' τ' ob' → R (Kof c st' w' ow' τ' ob') x v → K (a.put dst v) w') → (⟨dst, o, type, pos, after, guard⟩ : Oper).wp P a w K Q
/-- What a call does to the abstract state. -/
def ICallC (P : Program) (c : Cx σ) (n : Nat) (xs : List AV) (st : St σ) (F : AV → St σ → Prop) : Prop :=
  ∀ a w ow τ ob vs, FR c st a w ow τ ob → Rt (Kof c st w ow τ ob) xs vs →
    Calls P n vs.toArray w fun e w' => ∃ v x st' ow' τ' ob', e = .returned v ∧ F x st' ∧ st'.env = st.env ∧ FR c st' a w' ow' τ' ob' ∧ R (Kof c st' w' ow' τ' ob') x v

/-- The program, the numbers of its functions, what is known of the call; what is added to slots for names; appends that make a variable; what is made immutable ahead of which slot's operation. -/
structure Sys (σ : Type) where
  P : Program
  T : List Nat
  Γ : Cx σ → Prop
  off : Nat
  th : List Nat
  fz : List (Nat × Nat × Nat)
  gr : ∀ c, Γ c → c.ground P
/-- A contract in the system; of a function value. -/
def Sys.C {σ : Type} (S : Sys σ) (f : Nat) (xs : List AV) (r : AV) : Prop := ∀ n, S.T[f]? = some n → PCall S.P n xs r
def Sys.CV {σ : Type} (S : Sys σ) (n : Nat) (xs : List AV) (r : AV) : Prop := PCall S.P n xs r ∧ Enters S.P n
/-- .. of a call that reads variables. -/
def Sys.V {σ : Type} (S : Sys σ) (f : Nat) (ys : List AV) (r : AV) : Prop := ∀ n, S.T[f]? = some n → PCall S.P n ys r
def Sys.I {σ : Type} (S : Sys σ) (f : Nat) (xs : List AV) (st : St σ) (F : AV → St σ → Prop) : Prop := ∀ c, S.Γ c → ∀ n, S.T[f]? = some n → ICallC S.P c n xs st F
def Sys.IV {σ : Type} (S : Sys σ) (n : Nat) (xs : List AV) (st : St σ) (F : AV → St σ → Prop) : Prop := (∀ c, S.Γ c → ICallC S.P c n xs st F) ∧ Enters S.P n

/-! ### one value stands for what another stands for -/
def AV.le1 : AV → AV → Prop
  | .imm (.slice none 0 0), .sl _ tok rows => rows = [] ∧ (tok = .ro ∨ tok = .full)
  | .sl s t r, .sl s' t' r' => s = s' ∧ r = r' ∧ (t' = .ro ∨ t = t')
  | x, y => x = y
def AV.les1 : List AV → List AV → Prop
  | [], ys => ys = []
  | x :: xs, y :: ys => x.le1 y ∧ AV.les1 xs ys
  | _ :: _, [] => False
def AV.le2 : AV → AV → Prop
  | .agg xs, .agg ys => AV.les1 xs ys
  | x, y => x.le1 y
def AV.les2 : List AV → List AV → Prop
  | [], ys => ys = []
  | x :: xs, y :: ys => x.le2 y ∧ AV.les2 xs ys
  | _ :: _, [] => False
def AV.le : AV → AV → Prop
  | .tup xs, .tup ys => AV.les2 xs ys
  | x, y => x.le2 y
theorem R_le1 {k : K} {x y : AV} {v : Value} (h : x.le1 y) (hr : R k x v) : R k y v := by
  unfold AV.le1 at h
  split at h
  · obtain ⟨rfl, ht⟩ := h
    simp only [R] at hr ⊢
    refine ⟨none, 0, hr.1, Nat.le_refl _, Nat.zero_le _, fun h => absurd rfl h, ?_⟩
    rcases ht with rfl | rfl <;> simp
  · obtain ⟨rfl, rfl, rfl | rfl⟩ := h
    · simp only [R] at hr ⊢
      obtain ⟨A, c, e, hl, hm, hrr, _⟩ := hr
      exact ⟨A, c, e, hl, hm, hrr, trivial⟩
    · exact hr
  · subst h; exact hr
theorem Rs_les1 {k : K} : ∀ {xs ys : List AV} {vs : List Value}, AV.les1 xs ys → Rs k xs vs → Rs k ys vs
  | [], ys, vs, h, hr => by simp only [AV.les1] at h; subst h; exact hr
  | x :: xs, [], vs, h, hr => by simp [AV.les1] at h
  | x :: xs, y :: ys, vs, h, hr => by
    simp only [AV.les1] at h
    simp only [Rs] at hr ⊢
    obtain ⟨v, r, e, hx, ho, hrr⟩ := hr
    exact ⟨v, r, e, R_le1 h.1 hx, ho, Rs_les1 h.2 hrr⟩
theorem R_le2 {k : K} {x y : AV} {v : Value} (h : x.le2 y) (hr : R k x v) : R k y v := by
  unfold AV.le2 at h
  split at h
  · simp only [R] at hr ⊢
    obtain ⟨arr, e, h'⟩ := hr
    exact ⟨arr, e, Rs_les1 h h'⟩
  · exact R_le1 h hr
theorem Rt_les2 {k : K} : ∀ {xs ys : List AV} {vs : List Value}, AV.les2 xs ys → Rt k xs vs → Rt k ys vs
  | [], ys, vs, h, hr => by simp only [AV.les2] at h; subst h; exact hr
  | x :: xs, [], vs, h, hr => by simp [AV.les2] at h
  | x :: xs, y :: ys, vs, h, hr => by
    simp only [AV.les2] at h
    simp only [Rt] at hr ⊢
    obtain ⟨v, r, e, hx, hrr⟩ := hr
    exact ⟨v, r, e, R_le2 h.1 hx, Rt_les2 h.2 hrr⟩
theorem R_le {k : K} {x y : AV} {v : Value} (h : x.le y) (hr : R k x v) : R k y v := by
  unfold AV.le at h
  split at h
  · simp only [R] at hr ⊢
    obtain ⟨arr, e, h'⟩ := hr
    exact ⟨arr, e, Rt_les2 h h'⟩
  · exact R_le2 h hr


/-! ### a variable's block becomes immutable -/
def chunk (sz n : Nat) (cells : List AV) : List (List AV) := (List.range n).map fun i => (cells.drop (i * sz)).take sz
theorem chunk_flatten (sz : Nat) : ∀ (n : Nat) (cells : List AV), n * sz ≤ cells.length → (chunk sz n cells).flatten = cells.take (n * sz)
  | 0, cells, h => by simp [chunk]
  | n + 1, cells, h => by
    have ih := chunk_flatten sz n cells (by rw [Nat.add_mul] at h; omega)
    unfold chunk at ih ⊢
    rw [List.range_succ, List.map_append, List.flatten_append, ih]
    simp only [List.map_cons, List.map_nil, List.flatten_cons, List.flatten_nil, List.append_nil]
    rw [Nat.add_mul, Nat.one_mul, List.take_add]
theorem chunk_length (sz n : Nat) (cells : List AV) (h : n * sz ≤ cells.length) : ∀ r ∈ chunk sz n cells, r.length = sz := by
  intro r hr
  unfold chunk at hr
  obtain ⟨i, hi, rfl⟩ := List.mem_map.1 hr
  have hi := List.mem_range.1 hi
  have : (i + 1) * sz ≤ n * sz := Nat.mul_le_mul_right _ hi
  rw [Nat.add_mul] at this
  simp
  omega
/-- What goes into immutable memory; what cannot is forgotten. -/
def AV.weakp (x : AV) : AV := if x.weak.pureB then x.weak else .dead
theorem weakp_pure (x : AV) : x.weakp.pureB = true := by
  unfold AV.weakp
  split
  · assumption
  · rfl
theorem weakps_pure : ∀ xs : List AV, AV.pureBs (xs.map AV.weakp) = true
  | [] => rfl
  | x :: xs => by simp only [List.map_cons, AV.pureBs, weakp_pure, weakps_pure xs, Bool.and_self]
theorem R_weakp {k : K} {x : AV} {v : Value} (h : R k x v) : R k x.weakp v := by
  unfold AV.weakp
  split
  · exact R_weak h
  · simp only [R]
theorem Rs_weakp {k : K} : ∀ {xs : List AV} {us : List Value}, Rs k xs us → Rs k (xs.map AV.weakp) us
  | [], us, h => by simpa [Rs] using h
  | y :: ys, us, h => by
    simp only [Rs, List.map_cons] at h ⊢
    obtain ⟨u, r, e, hy, ho, hrr⟩ := h
    exact ⟨u, r, e, R_weakp hy, ho, Rs_weakp hrr⟩
def AV.frz1 (d g sz : Nat) (cells : List AV) : AV → AV
  | .vsl d' g' sz' off n cp => if d' = d ∧ g' = g ∧ sz' = sz ∧ off + n * sz ≤ cells.length then .sl sz .ro (chunk sz n (cells.drop off)) else .vsl d' g' sz' off n cp
  | .ptr d' g' off => if d' = d ∧ g' = g then .eptr cells off else .ptr d' g' off
  | x => x
def AV.frz (d g sz : Nat) (cells : List AV) : AV → AV
  | .agg cs => .agg (cs.map (AV.frz1 d g sz cells))
  | x => x.frz1 d g sz cells
def St.frz (st : St σ) (d sz : Nat) : St σ :=
  let cells := (st.var d).map AV.weakp
  { st with env := fun s => (st.env s).frz d (st.gen d) sz cells, gen := upd st.gen d (st.gen d + 1), var := upd (fun i => (st.var i).map (AV.frz1 d (st.gen d) sz cells)) d [] }

section
variable {c : Cx σ} {st : St σ} {a : Act} {w : World} {o : Nat → Own} {τ : Nat → Nat} {ob : Nat → Value → Prop}
def frzOwn (o : Nat → Own) (d : Nat) : Nat → Own := fun b => match o b with | .var d' => if d' = d then .imm else .var d' | x => x
theorem frzOwn_var {d d' b : Nat} (h : frzOwn o d b = .var d') : o b = .var d' ∧ d' ≠ d := by
  unfold frzOwn at h
  split at h
  · split at h
    · cases h
    · rename_i e h2; injection h with h; subst h; exact ⟨e, h2⟩
  · rename_i hn; exact absurd h (hn d')
theorem frzOwn_at {d b : Nat} (h : o b = .var d) : frzOwn o d b = .imm := by simp [frzOwn, h]
theorem frzOwn_ne {d b d' : Nat} (h : o b = .var d') (hd : d' ≠ d) : frzOwn o d b = .var d' := by simp [frzOwn, h, hd]
theorem frzOwn_other {d b : Nat} (h : ∀ d', o b ≠ .var d') : frzOwn o d b = o b := by
  unfold frzOwn
  split
  · rename_i d' e; exact absurd e (h d')
  · rfl
theorem FR.freeze (h : FR c st a w o τ ob) (d sz : Nat) : FR c (st.frz d sz) a w (frzOwn o d) τ ob := by
  have hk : KLe (Kof c st w o τ ob) (Kof c (st.frz d sz) w (frzOwn o d) τ ob) := by
    refine KLe_of (fun _ _ => rfl) ?_ ?_ ?_ ?_ (fun _ => Nat.le_refl _) (fun _ _ _ h => h) ?_ (fun _ _ h => h)
    · intro p hb hi
      exact ⟨rfl, (frzOwn_other (by rw [hi]; simp)).trans hi⟩
    · intro p t hb hi hlt
      exact ⟨rfl, .inr ⟨t, (frzOwn_other (by rw [hi]; simp)).trans hi, hlt⟩⟩
    · intro d'
      simp only [St.frz, upd]
      split
      · rename_i e; subst e; omega
      · exact Nat.le_refl _
    · intro d' b hg hb hv
      refine ⟨frzOwn_ne hv ?_, fun _ hq => hq⟩
      rintro rfl
      simp [St.frz, upd] at hg
    · intro t n b cur T _ _ hb ht hc
      exact ⟨(frzOwn_other (by rw [ht]; simp)).trans ht, rfl, cur, T, hc, rfl⟩
  have hcells : ∀ b z, (Kof c st w o τ ob).vb d b (some z) → ∃ vs, Rs (Kof c (st.frz d sz) w (frzOwn o d) τ ob).pure ((st.var d).map AV.weakp) vs ∧ ∀ j v, vs[j]? = some v → (Kof c (st.frz d sz) w (frzOwn o d) τ ob).pure.ic ⟨b, j, none⟩ v := by
    intro b z hvb
    obtain ⟨cs, T, hc, _, _, hr⟩ := var_block h hvb
    refine ⟨_, Rs_mono hk.pure _ _ (Rs_pure _ _ (weakps_pure _) (Rs_weakp hr)), fun j v hj => ?_⟩
    rw [List.getElem?_take] at hj
    split at hj
    · refine ⟨rfl, ?_, .inr ⟨hvb.1, .inl (frzOwn_at hvb.2.1)⟩⟩
      have hj' : cs[j]? = some v := by simpa using hj
      show w.cell? _ = _
      simp [World.cell?, hc, hj']
    · cases hj
  have h1 : ∀ x v, R (Kof c st w o τ ob) x v → R (Kof c (st.frz d sz) w (frzOwn o d) τ ob) (x.frz1 d (st.gen d) sz ((st.var d).map AV.weakp)) v := by
    intro x v hx
    unfold AV.frz1
    split
    · rename_i d' g' sz' off n cp
      split
      · rename_i hc
        obtain ⟨rfl, rfl, rfl, hn⟩ := hc
        simp only [R] at hx ⊢
        obtain ⟨_, A, cc, rfl, h1, h2, _, hb⟩ := hx
        obtain ⟨b, q, hvb, rfl, hq⟩ := hb rfl
        have hl : (chunk sz' n (((st.var d').map AV.weakp).drop off)).length = n := by simp [chunk]
        refine ⟨_, cc, by rw [hl], by rw [hl]; exact h1, h2, fun hne => ⟨b, q, rfl, ?_⟩, trivial⟩
        have hpos : 0 < n := by rw [← hl]; exact List.length_pos_iff.2 hne
        have := hq (by omega)
        subst this
        obtain ⟨vs, hvs, hcl⟩ := hcells b _ hvb
        have hlen : n * sz' ≤ (((st.var d').map AV.weakp).drop q).length := by simp at hn ⊢; omega
        refine rowsAt_of (vs := (vs.drop q).take (n * sz')) ?_ (chunk_length _ _ _ hlen) fun j v hj => ?_
        · rw [chunk_flatten _ _ _ hlen]
          exact Rs_take _ (Rs_drop _ hvs)
        · rw [List.getElem?_take] at hj
          split at hj
          · rw [List.getElem?_drop] at hj; exact hcl _ _ hj
          · cases hj
      · exact R_mono hk _ _ hx
    · rename_i d' g' off
      split
      · rename_i hc
        obtain ⟨rfl, rfl⟩ := hc
        simp only [R] at hx ⊢
        obtain ⟨_, _, hb⟩ := hx
        obtain ⟨b, hvb, rfl⟩ := hb rfl
        obtain ⟨vs, hvs, hcl⟩ := hcells b _ hvb
        exact ⟨b, 0, by rw [Nat.zero_add], rowAt_of hvs fun j v hj => by rw [Nat.zero_add]; exact hcl j v hj⟩
      · exact R_mono hk _ _ hx
    · exact R_mono hk _ _ hx
  have hs : ∀ xs vs, Rs (Kof c st w o τ ob) xs vs → Rs (Kof c (st.frz d sz) w (frzOwn o d) τ ob) (xs.map (AV.frz1 d (st.gen d) sz ((st.var d).map AV.weakp))) vs := by
    intro xs
    induction xs with
    | nil => intro vs hx; simpa [Rs] using hx
    | cons x xs ih =>
      intro vs hx
      simp only [Rs, List.map_cons] at hx ⊢
      obtain ⟨v, r, rfl, hx, ho, hr⟩ := hx
      exact ⟨v, r, rfl, h1 x v hx, ho, ih r hr⟩
  have hm : ∀ xs es, Rm (Kof c st w o τ ob) xs es → Rm (Kof c (st.frz d sz) w (frzOwn o d) τ ob) (xs.map (AV.frz1 d (st.gen d) sz ((st.var d).map AV.weakp))) es := by
    intro xs
    induction xs with
    | nil => intro es hx; simpa [Rm] using hx
    | cons x xs ih =>
      intro es hx
      simp only [Rm, List.map_cons] at hx ⊢
      obtain ⟨kx, vx, e, r, rfl, rfl, hk1, hv1, hr⟩ := hx
      exact ⟨kx, vx, e, r, rfl, rfl, R_mono hk _ _ hk1, R_mono hk _ _ hv1, ih r hr⟩
  refine ⟨h.defers, h.size, h.keeps, h.base, ?_, ?_, ?_, ?_, ?_, ?_⟩
  · intro b hb ho
    refine h.lt b hb fun e => ho ?_
    rw [frzOwn_other (by rw [e]; simp)]; exact e
  · intro s
    show R _ ((st.env s).frz d (st.gen d) sz ((st.var d).map AV.weakp)) _
    have := h.tmps s
    unfold AV.frz
    split
    · rename_i cs e
      rw [e] at this
      simp only [R] at this ⊢
      obtain ⟨arr, hv, hr⟩ := this
      exact ⟨arr, hv, hs _ _ hr⟩
    · exact h1 _ _ this
  · intro d' b hb hv
    obtain ⟨hv', hd⟩ := frzOwn_var hv
    obtain ⟨obj, hc, hr⟩ := h.vars d' b hb hv'
    refine ⟨obj, hc, ?_⟩
    show VR _ (upd (fun i => (st.var i).map (AV.frz1 d (st.gen d) sz ((st.var d).map AV.weakp))) d [] d') _
    rw [upd_ne _ _ _ hd]
    cases obj with
    | cells cs T fr =>
      refine ⟨hr.1, hr.2.1, ?_⟩
      simp only [List.length_map]
      exact hs _ _ hr.2.2
    | map es clk => exact hm _ _ hr
    | _ => exact hr.elim
  · intro d' b b' hb hb' hv hv'
    exact h.uniq d' b b' hb hb' (frzOwn_var hv).1 (frzOwn_var hv').1
  · intro x v hx
    exact R_mono hk _ _ (h.saved x v hx)
  · have : (fun b => (b < c.base ∧ c.E0 b) ∨ (c.base ≤ b ∧ frzOwn o d b = .ext)) = (fun b => (b < c.base ∧ c.E0 b) ∨ (c.base ≤ b ∧ o b = .ext)) := by
      funext b
      apply propext
      refine or_congr Iff.rfl (and_congr_right fun hb => ⟨fun hx => ?_, fun hx => ?_⟩)
      · unfold frzOwn at hx
        split at hx
        · split at hx <;> cases hx
        · exact hx
      · exact (frzOwn_other (by rw [hx]; simp)).trans hx
    rw [this]
    exact h.ext
end
end Go.Av

namespace Go.Av
open Go.RowKit (Below)
variable {σ : Type}

def wOpt {α : Type} (o : Option α) (K : α → Prop) : Prop := match o with | some x => K x | none => False
theorem wOpt_some {α : Type} (x : α) (K : α → Prop) : wOpt (some x) K = K x := rfl
theorem wOpt_none {α : Type} (K : α → Prop) : wOpt (none : Option α) K = False := rfl
theorem wOpt_if {α : Type} (p : Prop) [Decidable p] (x : Option α) (K : α → Prop) : wOpt (if p then x else none) K = (p ∧ wOpt x K) := by
  by_cases h : p <;> simp [wOpt, h]
theorem wOpt_map {α β : Type} (f : α → β) (x : Option α) (K : β → Prop) : wOpt (x.map f) K = wOpt x fun a => K (f a) := by cases x <;> rfl
theorem wOpt_exists {α : Type} {x : Option α} {K : α → Prop} (h : wOpt x K) : ∃ a, x = some a ∧ K a := by
  cases x with
  | none => exact h.elim
  | some a => exact ⟨a, rfl, h⟩

def noCalls : Orc := ⟨fun _ _ _ => none, fun _ _ _ _ _ => none⟩
/-- A call of a function by its number; of a function value: by a contract of what it computes, or (where the order of operations is fixed) by what it does to the state. -/
def wCall (S : Sys σ) (b : Bool) (d : Nat) (st : St σ) (f : Nat) (xs : List AV) (K : AV → St σ → Prop) : Prop :=
  (AV.pureBs (xs.map AV.weaks) = true ∧ ∃ ys r, AV.les2 (xs.map AV.weaks) ys ∧ S.C f ys r ∧ wOpt (r.ret d (st.tgen d + 1)) fun v => K v (st.given d r)) ∨
  (AV.pureBs (xs.map AV.weaks) = false ∧ ∃ zs ys r, Views st xs zs ∧ AV.les2 zs ys ∧ S.C f ys r ∧ r.flatB = true ∧ K r st) ∨
  (b = true ∧ ∃ F, S.I f xs st F ∧ ∀ x st', F x st' → st'.env = st.env → K x st')
def wCallV (S : Sys σ) (b : Bool) (d : Nat) (st : St σ) (g : Nat) (fs caps xs : List AV) (K : AV → St σ → Prop) : Prop :=
  (AV.pureBs (fs ++ xs.map AV.weaks ++ caps) = true ∧ ∃ ys r, AV.les2 (fs ++ xs.map AV.weaks ++ caps) ys ∧ S.CV g ys r ∧ wOpt (r.ret d (st.tgen d + 1)) fun v => K v (st.given d r)) ∨
  (AV.pureBs (fs ++ xs.map AV.weaks ++ caps) = false ∧ ∃ zs ys r, Views st (fs ++ xs ++ caps) zs ∧ AV.les2 zs ys ∧ S.CV g ys r ∧ r.flatB = true ∧ K r st) ∨
  (b = true ∧ ∃ F, S.IV g (fs ++ xs ++ caps) st F ∧ ∀ x st', F x st' → st'.env = st.env → K x st')
/-- An append that makes a variable. -/
def wThaw (d : Nat) (st : St σ) (sz bytes : Nat) (x y : AV) (K : AV → St σ → Prop) : Prop :=
  match x.asSl sz, y.asSl sz with
  | some (.full, rows), some (_, news) =>
    (0 < news.length ∧ (rows.length + news.length) * bytes ≤ 140737488355328) ∧ K (.vsl d (st.gen d + 1) sz 0 (rows.length + news.length) none) (st.newVar d (rows.flatten ++ news.flatten))
  | _, _ => False
def wIdx (st : St σ) (sz : Nat) (x i : AV) (K : AV → St σ → Prop) : Prop :=
  match x.vslOf, x.asSl sz, i.asInt with
  | some (d, g, sz', off, m, _), _, some n => (sz' = sz ∧ g = st.gen d ∧ 0 ≤ n ∧ n < m) ∧ K (.ptr d g (off + n.toNat * sz)) st
  | none, some r, some n => (0 ≤ n ∧ n < r.2.length) ∧ ∀ row, r.2[n.toNat]? = some row → K (.eptr row 0) st
  | _, _, _ => False
/-- Is a slice nil. -/
def wSnil (b ng : Bool) (a : AV) (st : St σ) (K : AV → St σ → Prop) : Prop :=
  match a with
  | .imm (.slice none 0 0) => K (.imm (.bool (!ng))) st
  | .sl _ _ rows => (rows ≠ [] → K (.imm (.bool ng)) st) ∧ (rows = [] → b = true ∧ K (.imm (.bool true)) st ∧ K (.imm (.bool false)) st)
  | .vsl d g _ _ _ _ => g = st.gen d ∧ K (.imm (.bool ng)) st
  | _ => False
def wPick (t x y : AV) (st : St σ) (K : AV → St σ → Prop) : Prop := match t with | .imm (.bool t) => (t = true → K x st) ∧ (t = false → K y st) | _ => False
/-- The condition of one operation; b: is the order fixed. -/
def wAct (S : Sys σ) (b : Bool) (d : Nat) (st : St σ) (op : AOp) (K : AV → St σ → Prop) : Prop :=
  match op with
  | .pick c x y => wPick (st.ev c) (st.ev x) (st.ev y) st K
  | .iaddr sz x i => wIdx st sz (st.ev x) (st.ev i) K
  | .call f args => wCall S b d st f (args.map st.ev) K
  | .callv x args => match st.ev x with | .fv g fs caps => wCallV S b d st g fs caps (args.map st.ev) K | _ => False
  | .snil ng x => wSnil b ng (st.ev x) st K
  | .app sz bytes x y => if b = true ∧ S.th.contains d = true then wThaw d st sz bytes (st.ev x) (st.ev y) K else wOpt (act noCalls d st (.app sz bytes x y)) fun r => K r.1 r.2
  | .hard o => b = true ∧ ∃ F, (∀ c, S.Γ c → HStep S.P c o st F) ∧ ∀ x st', F x st' → K x st'
  | op => wOpt (act noCalls d st op) fun r => K r.1 r.2
def wGuard (x : AV) (b : Bool) (A B C : Prop) : Prop :=
  match x with
  | .imm (.bool x) => (x = b → A) ∧ (x = !b → B)
  | .tup [] => C
  | _ => False
/-- .. with its guard; which way the guard goes is written down. -/
def wStep (S : Sys σ) (b : Bool) (st : St σ) (o : AOper) (K : St σ → Prop) : Prop :=
  match o.guard with
  | none => wAct S b (S.off + o.dst.getD 0) st o.op fun v s => K (s.put o.dst v)
  | some (g, t) =>
    wGuard (st.env g) t (wAct S b (S.off + o.dst.getD 0) { st with env := upd st.env g (.imm (.bool t)) } o.op fun v s => K (s.put o.dst v))
      (K (St.put { st with env := upd st.env g (.imm (.bool !t)) } o.dst undefA)) (K (st.put o.dst undefA))
/-- .. what is made immutable ahead of it. -/
def wFrz (S : Sys σ) (st : St σ) (o : AOper) (K : St σ → Prop) : Prop :=
  match S.fz.lookup (o.dst.getD 0) with
  | some (d, sz) => K (st.frz d sz)
  | none => K st
def wOps (S : Sys σ) (st : St σ) : List AOper → (St σ → Prop) → Prop
  | [], K => K st
  | o :: rest, K => wFrz S st o fun st => wStep S true st o fun s => wOps S s rest K

def isHard : AOp → Bool
  | .hard _ => true
  | _ => false
theorem PCall_les {P : Program} {n : Nat} {xs ys : List AV} {r : AV} (hl : AV.les2 xs ys) (h : PCall P n ys r) : PCall P n xs r :=
  fun G w vs hG hgr hvs => h G w vs hG hgr (Rt_les2 hl hvs)
theorem specs_no (P : Program) (T : List Nat) : Specs σ P T noCalls := ⟨fun _ _ _ _ h => (by cases h), fun _ _ _ h => (by cases h), fun _ _ _ _ _ _ h => (by cases h), fun _ _ _ _ _ h => (by cases h)⟩
open Classical in
theorem specs_f (S : Sys σ) {f : Nat} {xs ys : List AV} {r : AV} (hl : AV.les2 xs ys) (hc : S.C f ys r) : Specs σ S.P S.T ⟨fun b f' xs' => if b = true ∧ f' = f ∧ xs' = xs then some r else none, fun _ _ _ _ _ => none⟩ := by
  refine ⟨fun f' xs' r' n h hn => ?_, fun n xs' r' h => ?_, fun _ _ _ _ _ _ h => (by cases h), fun _ _ _ _ _ h => (by cases h)⟩
  · simp only at h
    split at h
    · rename_i hq
      injection h with h
      obtain ⟨_, rfl, rfl⟩ := hq
      subst h
      exact PCall_les hl (hc n hn)
    · cases h
  · simp at h
open Classical in
theorem specs_fv (S : Sys σ) {f : Nat} {xs ys : List AV} {r : AV} (hl : AV.les2 xs ys) (hc : S.CV f ys r) : Specs σ S.P S.T ⟨fun b f' xs' => if b = false ∧ f' = f ∧ xs' = xs then some r else none, fun _ _ _ _ _ => none⟩ := by
  refine ⟨fun f' xs' r' n h hn => ?_, fun n xs' r' h => ?_, fun _ _ _ _ _ _ h => (by cases h), fun _ _ _ _ _ h => (by cases h)⟩
  · simp at h
  · simp only at h
    split at h
    · rename_i hq
      injection h with h
      obtain ⟨_, rfl, rfl⟩ := hq
      subst h
      exact ⟨PCall_les hl hc.1, hc.2⟩
    · cases h
theorem Views_congr {st st' : St σ} (hg : st'.gen = st.gen) (hv : st'.var = st.var) : ∀ {xs ys : List AV}, Views st xs ys → Views st' xs ys := by
  intro xs ys h
  refine Views.rec (motive_1 := fun x y _ => View st' x y) (motive_2 := fun xs ys _ => Views st' xs ys) ?_ ?_ ?_ ?_ ?_ ?_ ?_ ?_ h
  · intro x hp; exact .weak hp
  · intro x; exact .dead
  · intro d g off cs hgg _ ih; exact .ptr (by rw [hg]; exact hgg) (by rw [hv]; exact ih)
  · intro d g sz off n cp rows hgg hl _ hs hn ih; exact .vsl (by rw [hg]; exact hgg) (by rw [hv]; exact hl) (by rw [hv]; exact ih) hs hn
  · intro f fs fs' cs cs' _ _ i1 i2; exact .fv i1 i2
  · intro cs cs' _ i1; exact .agg i1
  · exact .nil
  · intro x y xs ys _ _ i1 i2; exact .cons i1 i2
open Classical in
theorem specs_v (S : Sys σ) {f : Nat} {st : St σ} {xs zs ys : List AV} {r : AV} (hv : Views st xs zs) (hl : AV.les2 zs ys) (hc : S.C f ys r) (hr : r.flatB = true) : Specs σ S.P S.T ⟨fun _ _ _ => none, fun b f' xs' g v => if b = true ∧ f' = f ∧ xs' = xs ∧ g = st.gen ∧ v = st.var then some r else none⟩ := by
  refine ⟨fun _ _ _ _ h => (by cases h), fun _ _ _ h => (by cases h), fun f' xs' g v r' n h hn => ?_, fun n xs' g v r' h => ?_⟩
  · simp only at h
    split at h
    · rename_i hq
      injection h with h
      obtain ⟨_, rfl, rfl, rfl, rfl⟩ := hq
      subst h
      exact ⟨hr, zs, fun st' e1 e2 => Views_congr e1 e2 hv, PCall_les hl (hc n hn)⟩
    · cases h
  · simp at h
open Classical in
theorem specs_vv (S : Sys σ) {f : Nat} {st : St σ} {xs zs ys : List AV} {r : AV} (hv : Views st xs zs) (hl : AV.les2 zs ys) (hc : S.CV f ys r) (hr : r.flatB = true) : Specs σ S.P S.T ⟨fun _ _ _ => none, fun b f' xs' g v => if b = false ∧ f' = f ∧ xs' = xs ∧ g = st.gen ∧ v = st.var then some r else none⟩ := by
  refine ⟨fun _ _ _ _ h => (by cases h), fun _ _ _ h => (by cases h), fun f' xs' g v r' n h hn => ?_, fun n xs' g v r' h => ?_⟩
  · simp at h
  · simp only at h
    split at h
    · rename_i hq
      injection h with h
      obtain ⟨_, rfl, rfl, rfl, rfl⟩ := hq
      subst h
      exact ⟨⟨hr, zs, fun st' e1 e2 => Views_congr e1 e2 hv, PCall_les hl hc.1⟩, hc.2⟩
    · cases h
/-- Is the operation to make a variable out of an append. -/
def isThaw (S : Sys σ) (d : Nat) : AOp → Bool
  | .app .. => S.th.contains d
  | _ => false
/-- Does it take the address of an element of a variable. -/
def isVsl : AV → Bool
  | .vsl .. => true
  | _ => false
/-- The condition of an operation whose order is not fixed leads to what it does. -/
theorem wAct_act {S : Sys σ} {d : Nat} {st : St σ} {op : AOp} {K : AV → St σ → Prop} (h : wAct S false d st op K) : ∃ Φ, Specs σ S.P S.T Φ ∧ ∃ r, act Φ d st op = some r ∧ K r.1 r.2 := by
  cases op
  case pick c a b =>
    refine ⟨noCalls, specs_no _ _, ?_⟩
    simp only [wAct, wPick] at h
    split at h
    · rename_i t e
      simp only [act, e]
      cases t
      · exact ⟨_, rfl, by simpa using h.2 rfl⟩
      · exact ⟨_, rfl, by simpa using h.1 rfl⟩
    · exact h.elim
  case iaddr sz x i =>
    refine ⟨noCalls, specs_no _ _, ?_⟩
    simp only [wAct, wIdx] at h
    split at h
    · rename_i d' g sz' off m cp n e1 e2
      obtain ⟨hc, hK⟩ := h
      refine ⟨(.ptr d' g (off + n.toNat * sz), st), ?_, hK⟩
      simp only [act, e1, e2]
      rw [if_pos hc]
    · rename_i r n e0 e1 e2
      obtain ⟨tok, rows⟩ := r
      obtain ⟨⟨h0, h1⟩, h2⟩ := h
      refine ⟨(.eptr (rows.getD n.toNat []) 0, st), ?_, ?_⟩
      · simp only [act, e0, e1, e2]
        rw [if_pos ⟨h0, h1⟩]
      · apply h2
        have : n.toNat < rows.length := by simp only at h1; omega
        simp [List.getD_eq_getElem?_getD, List.getElem?_eq_getElem this]
    · exact h.elim
  case call f args =>
    simp only [wAct, wCall] at h
    have e0 : (args.map fun x => (st.ev x).weaks) = (args.map st.ev).map AV.weaks := by simp
    rcases h with ⟨hp, ys, r, hl, hc, hr⟩ | ⟨hp, zs, ys, r, hv, hl, hc, hf, hK⟩ | ⟨hb, _⟩
    · obtain ⟨v, hv, hK⟩ := wOpt_exists hr
      refine ⟨_, specs_f S hl hc, (v, st.given d r), ?_, hK⟩
      simp only [act, e0]
      rw [if_pos hp]
      simp [hv]
    · refine ⟨_, specs_v S hv hl hc hf, (r, st), ?_, hK⟩
      simp only [act, e0]
      rw [if_neg (by rw [hp]; simp)]
      simp
    · cases hb
  case callv x args =>
    simp only [wAct] at h
    have e0 : (args.map fun x => (st.ev x).weaks) = (args.map st.ev).map AV.weaks := by simp
    split at h
    · rename_i g fs caps ex
      simp only [wCallV] at h
      rcases h with ⟨hp, ys, r, hl, hc, hr⟩ | ⟨hp, zs, ys, r, hv, hl, hc, hf, hK⟩ | ⟨hb, _⟩
      · obtain ⟨v, hv, hK⟩ := wOpt_exists hr
        refine ⟨_, specs_fv S hl hc, (v, st.given d r), ?_, hK⟩
        simp only [act, ex, e0]
        rw [if_pos hp]
        simp [hv]
      · refine ⟨_, specs_vv S hv hl hc hf, (r, st), ?_, hK⟩
        simp only [act, ex, e0]
        rw [if_neg (by rw [hp]; simp)]
        simp
      · cases hb
    · exact h.elim
  case snil ng x =>
    refine ⟨noCalls, specs_no _ _, ?_⟩
    simp only [wAct, wSnil] at h
    split at h
    · rename_i e
      exact ⟨_, by simp only [act, e]; rfl, h⟩
    · rename_i sz tok rows e
      by_cases hr : rows = []
      · exact absurd (h.2 hr).1 (by simp)
      · exact ⟨_, by simp only [act, e]; rw [if_pos hr], h.1 hr⟩
    · rename_i d' g sz off n cp e
      exact ⟨_, by simp only [act, e]; rw [if_pos h.1], h.2⟩
    · exact h.elim
  case app sz bytes x y =>
    refine ⟨noCalls, specs_no _ _, ?_⟩
    simp only [wAct, Bool.false_eq_true, false_and, if_false] at h
    exact wOpt_exists h
  case hard o => simp only [wAct] at h; exact absurd h.1 (by simp)
  all_goals
    refine ⟨noCalls, specs_no _ _, ?_⟩
    simp only [wAct] at h
    exact wOpt_exists h

theorem upd_id {α : Type} {f : Nat → α} {i : Nat} {v : α} (h : f i = v) : upd f i v = f := by
  funext j
  unfold upd
  split
  · rename_i e; rw [e, h]
  · rfl
theorem env_id {st : St σ} {g : Nat} {v : AV} (h : st.env g = v) : ({ st with env := upd st.env g v } : St σ) = st := by
  rw [upd_id h]

section
variable {S : Sys σ} {c : Cx σ} {st st' : St σ} {a : Act} {w : World} {ow : Nat → Own} {τ : Nat → Nat} {ob : Nat → Value → Prop}

/-- One step under its guard: what it does. -/
theorem wStep_step {ao : AOper} {K : St σ → Prop} (h : wStep S false st ao K) : ∃ Φ, Specs σ S.P S.T Φ ∧ ∃ st', stepA Φ S.off st ao = some st' ∧ K st' := by
  unfold wStep at h
  split at h
  · rename_i e
    obtain ⟨Φ, hΦ, r, hr, hK⟩ := wAct_act h
    exact ⟨Φ, hΦ, _, by simp only [stepA, wantedA, e, hr, Option.map_some], hK⟩
  · rename_i g b e
    unfold wGuard at h
    split at h
    · rename_i x ex
      by_cases hx : x = b
      · subst hx
        have h1 := h.1 rfl
        rw [env_id ex] at h1
        obtain ⟨Φ, hΦ, r, hr, hK⟩ := wAct_act h1
        exact ⟨Φ, hΦ, _, by simp only [stepA, wantedA, e, ex, hr, Option.map_some, BEq.rfl], hK⟩
      · have hx' : x = !b := by cases x <;> cases b <;> simp_all
        have h2 := h.2 hx'
        subst hx'
        rw [env_id ex] at h2
        exact ⟨noCalls, specs_no _ _, _, by simp only [stepA, wantedA, e, ex]; cases b <;> rfl, h2⟩
    · rename_i ex
      exact ⟨noCalls, specs_no _ _, _, by simp only [stepA, wantedA, e, ex], h⟩
    · exact h.elim

theorem comp_not_hard {P : Program} {T : List Nat} {op : Op} {ao : AOp} (h : comp P T op = some ao) : isHard ao = false := by
  cases e : isHard ao with
  | false => rfl
  | true =>
    cases ao <;> simp [isHard] at e
    exfalso
    unfold comp at h
    repeat' (split at h)
    all_goals first
      | (simp only [reduceCtorEq, Option.some.injEq] at h; done)
      | (obtain ⟨q, _, hq⟩ := Option.map_eq_some_iff.1 h; cases hq; done)
      | skip
theorem comp_call {P : Program} {T : List Nat} {op : Op} {j : Nat} {l : List Operand} (h : comp P T op = some (.call j l)) : ∃ args tys f fn, op = .call { callee := .value (.func f), args := args, argTypes := tys } ∧ l = args.toList ∧ T[j]? = some f ∧ P.funcs[f]? = some fn ∧ fn.body.isSome = true ∧ (fn.name == "runtime.NumGoroutine") = false := by
  unfold comp at h
  repeat' (split at h)
  all_goals first
    | (simp only [reduceCtorEq, Option.some.injEq] at h; done)
    | (obtain ⟨q, _, hq⟩ := Option.map_eq_some_iff.1 h; cases hq; done)
    | skip
  rename_i cl _ f hcal _ fn hfn hcond
  obtain ⟨callee, args, tys⟩ := cl
  simp only at hcal h
  subst hcal
  simp only [Option.some.injEq, AOp.call.injEq] at h
  obtain ⟨rfl, rfl⟩ := h
  exact ⟨args, tys, f, fn, rfl, rfl, hcond.2.2, hfn, hcond.1, hcond.2.1⟩
theorem comp_callv {P : Program} {T : List Nat} {op : Op} {x : Operand} {l : List Operand} (h : comp P T op = some (.callv x l)) : ∃ args tys, op = .call { callee := .value x, args := args, argTypes := tys } ∧ l = args.toList := by
  unfold comp at h
  repeat' (split at h)
  all_goals first
    | (simp only [reduceCtorEq, Option.some.injEq] at h; done)
    | (obtain ⟨q, _, hq⟩ := Option.map_eq_some_iff.1 h; cases hq; done)
    | skip
  rename_i cl _ t hcal
  obtain ⟨callee, args, tys⟩ := cl
  simp only at hcal h
  subst hcal
  simp only [Option.some.injEq, AOp.callv.injEq] at h
  obtain ⟨rfl, rfl⟩ := h
  exact ⟨args, tys, rfl, rfl⟩
theorem comp_snil {P : Program} {T : List Nat} {op : Op} {ng : Bool} {x : Operand} (h : comp P T op = some (.snil ng x)) : ∃ t e y ty, op = .binOp (if ng then .neq else .eql) t x y ty ∧ P.underlying t = some (.slice e) ∧ isNilS y = true := by
  unfold comp at h
  repeat' (split at h)
  all_goals first
    | (simp only [reduceCtorEq, Option.some.injEq] at h; done)
    | (obtain ⟨q, _, hq⟩ := Option.map_eq_some_iff.1 h; cases hq; done)
    | skip
  rename_i hu _ ng' hn hz
  simp only [Option.some.injEq, AOp.snil.injEq] at h
  obtain ⟨rfl, rfl⟩ := h
  exact ⟨_, _, _, _, by rw [isNeq_eq hn], hu, hz⟩
theorem comp_app {P : Program} {T : List Nat} {op : Op} {sz bytes : Nat} {x y : Operand} (h : comp P T op = some (.app sz bytes x y)) : ∃ args tys t e i, op = .call { callee := .builtin .append, args := args, argTypes := tys } ∧ args.toList = [x, y] ∧ tys.toList = [t, t] ∧ P.underlying t = some (.slice e) ∧ P.info? e = some i ∧ sz = i.size ∧ bytes = i.bytes ∧ 0 < i.size ∧ 0 < i.bytes ∧ (i.zero.map fun z => (z.cells.size, z.cells.toList.all (·.oneCell'))) = some (i.size, true) := by
  unfold comp at h
  repeat' (split at h)
  all_goals first
    | (simp only [reduceCtorEq, Option.some.injEq] at h; done)
    | (obtain ⟨q, _, hq⟩ := Option.map_eq_some_iff.1 h; cases hq; done)
    | skip
  rename_i cl _ hcal _ _ x' y' t u ha ht _ _ e _ hu hu' _ i hi hc
  obtain ⟨callee, args, tys⟩ := cl
  simp only at hcal h ha ht
  subst hcal
  simp only [Option.some.injEq, AOp.app.injEq] at h
  obtain ⟨rfl, rfl, rfl, rfl⟩ := h
  obtain ⟨h1, h2, h3, h4⟩ := hc
  subst h3
  exact ⟨args, tys, t, e, i, rfl, ha, ht, hu, hi, rfl, rfl, h1, h2, h4⟩

theorem sim_thaw (h : FR c st a w ow τ ob) {P : Program} {d : Nat} {dst : Option Nat} {type : TypeId} {pos : String} {after : Array Edge} {guard : Option (Nat × Bool)} {t e : TypeId} {y z : Operand} {args : Array Operand} {argTypes : Array TypeId} {i : TypeInfo} {zv : Value} (hargs : args.toList = [y, z]) (htys : argTypes.toList = [t, t]) (ht : P.underlying t = some (.slice e)) (hi : P.info? e = some i) (hzv : i.zero = some zv) (hzs : zv.cells.size = i.size) (hz1 : zv.cells.toList.all (·.oneCell') = true) (hsz : 0 < i.size)
    (hby : 0 < i.bytes) {KA : AV → St σ → Prop} (hw : wThaw d st i.size i.bytes (st.ev y) (st.ev z) KA) :
    ∃ x st', KA x st' ∧ Sim P c st' x ⟨dst, .call { callee := .builtin .append, args := args, argTypes := argTypes }, type, pos, after, guard⟩ a w ob := by
  have e1 : args = #[y, z] := by rw [← Array.toArray_toList (xs := args), hargs]
  have e2 : argTypes = #[t, t] := by rw [← Array.toArray_toList (xs := argTypes), htys]
  subst e1
  subst e2
  unfold wThaw at hw
  split at hw
  · rename_i rows tok2 news q1 q2
    obtain ⟨⟨hm, hbound⟩, hK⟩ := hw
    refine ⟨_, _, hK, ?_⟩
    have hy := R_asSl (R_ev h y) q1
    have hz := R_asSl (R_ev h z) q2
    obtain ⟨A, zc, hv, _, _⟩ := sl_value hy
    obtain ⟨A2, zc2, hv2, _, _⟩ := sl_value hz
    rw [hv] at hy
    rw [hv2] at hz
    obtain ⟨_, hnz, hzm, olds, ho1, ho2, ho3, ho4⟩ := sl_vals hy
    obtain ⟨_, _, _, nvs, hn1, hn2, hn3, hn4⟩ := sl_vals hz
    have hlen1 : rows.length ≤ rows.length * i.bytes := Nat.le_mul_of_pos_right _ hby
    have htot : rows.length + news.length ≤ 140737488355328 := Nat.le_trans (Nat.le_mul_of_pos_right _ hby) hbound
    have hfull : zc = rows.length := by
      simp only [R] at hy
      obtain ⟨A', z', e, _, _, _, hf⟩ := hy
      injection e with _ _ e3
      exact e3.trans hf
    obtain ⟨b2, o2, rfl, hc2⟩ := hn4 (by omega)
    have hA : (A = none ∧ rows.length = 0 ∧ zc = 0) ∨ ∃ b : Addr, A = some b ∧ ∀ j u, olds[j]? = some u → w.cell? (b.add j) = some u := by
      by_cases h0 : rows.length = 0
      · have hol : olds = [] := List.eq_nil_of_length_eq_zero (by rw [ho2, h0, Nat.zero_mul])
        cases A with
        | none => exact .inl ⟨rfl, h0, by omega⟩
        | some ad => exact .inr ⟨ad, rfl, fun j u hj => by rw [hol] at hj; simp at hj⟩
      · obtain ⟨b3, o3, rfl, hc3⟩ := ho4 h0
        exact .inr ⟨_, rfl, fun j u hj => by rw [addr_add]; exact (hc3 j u hj).2.1⟩
    have hrun := run_app_grow (P := P) (ty := type) ht hi hzv (A := A) (z := zc) (z2 := zc2) (ad := ⟨b2, o2, none⟩) (w := w) ho2 hA hn2 (fun j u hj => by rw [addr_add]; exact (hc2 j u hj).2.1) hm (by omega) (by omega) hbound
    have hge := grownCap_ge w (rows.length + news.length) zc e
    have hle := grownCap_le_maxLen w (rows.length + news.length) zc e (by unfold maxLen; omega)
    intro K Q hK
    have hRs : Rs (Kof c st w ow τ ob) (rows.flatten ++ news.flatten) (olds ++ nvs) :=
      Rs_append (Rs_mono (KLe.of_pure (KLe.refl _)) _ _ ho1) (Rs_mono (KLe.of_pure (KLe.refl _)) _ _ hn1)
    have hl := Rs_length hRs
    have hz1' := List.all_eq_true.1 hz1
    obtain ⟨k1, _, k3, k4⟩ := h.drew.newVarO d (xs := rows.flatten ++ news.flatten) (.cells (olds.toArray ++ nvs.toArray ++ Builtin.zeroCells zv.cells (grownCap w (rows.length + news.length) zc e - (rows.length + news.length))) e) ⟨rfl, by
      intro v hv
      simp only [Array.toList_append, List.mem_append] at hv
      rcases hv with (hv | hv) | hv
      · exact Rs_one ho1 v (by simpa using hv)
      · exact Rs_one hn1 v (by simpa using hv)
      · rw [zeros_list _ (by omega)] at hv; exact zeros_one hz1' _ v hv, by
      have e1 : (olds.toArray ++ nvs.toArray ++ Builtin.zeroCells zv.cells (grownCap w (rows.length + news.length) zc e - (rows.length + news.length))).toList = (olds ++ nvs) ++ (Builtin.zeroCells zv.cells (grownCap w (rows.length + news.length) zc e - (rows.length + news.length))).toList := by simp
      rw [← hl, e1, List.take_left]
      exact hRs⟩
    refine wp_value (v := .slice (some ⟨w.heap.size, 0, none⟩) (rows.length + news.length) (grownCap w (rows.length + news.length) zc e)) ?_ (hK _ _ _ _ k1 (R_vslNew k3 (k4 _ ⟨rfl, ?_⟩) hge hle (fun c' hc' => by cases hc')))
    · simp only [execOp, resolve, invoke, builtin, Sem.run_bind, Sem.run_pure, Result.andThen_ok, List.map_toArray, List.map_cons, List.map_nil, hv, hv2, hrun, Array.toArray_toList]
    · rw [← Array.length_toList, Array.toList_append, Array.toList_append, List.length_append, List.length_append, size_zeroCells', hzs]
      have e3 : (olds.toArray.toList).length = rows.length * i.size := ho2
      have e4 : (nvs.toArray.toList).length = news.length * i.size := hn2
      rw [e3, e4, ← Nat.add_mul, ← Nat.add_mul]
      exact Nat.mul_le_mul_right _ (by omega)
  · exact hw.elim

/-- An operation whose order is fixed: it does what its condition says. -/
theorem wAct_sim {P : Program} {T : List Nat} {Γ off th fz gr} {d : Nat} {dst : Option Nat} {op : Op} {type : TypeId} {pos : String} {after : Array Edge} {guard : Option (Nat × Bool)} {KA : AV → St σ → Prop} (hΓ : Γ c)
    (hw : wAct (⟨P, T, Γ, off, th, fz, gr⟩ : Sys σ) true d st ((comp P T op).getD (.hard op)) KA) (h : FR c st a w ow τ ob) {K : Act → World → Prop} {Q : Exit → Act → World → Prop}
    (hK : ∀ x st' v w' ow' τ' ob', KA x st' → FR c st' a w' ow' τ' ob' → R (Kof c st' w' ow' τ' ob') x v → K (a.put dst v) w') : (⟨dst, op, type, pos, after, guard⟩ : Oper).wp P a w K Q := by
  cases hcomp : comp P T op with
  | none =>
    rw [hcomp] at hw
    simp only [Option.getD_none, wAct] at hw
    obtain ⟨_, F, hst, hx⟩ := hw
    exact hst c hΓ dst type pos after guard a w ow τ ob h K Q fun x st' v w' ow' τ' ob' hF hR => hK x st' v w' ow' τ' ob' (hx x st' hF) hR
  | some ao =>
    rw [hcomp] at hw
    simp only [Option.getD_some] at hw
    have plain : wAct (⟨P, T, Γ, off, th, fz, gr⟩ : Sys σ) false d st ao KA → (⟨dst, op, type, pos, after, guard⟩ : Oper).wp P a w K Q := by
      intro hw
      obtain ⟨Φ, hΦ, r, hr, hK'⟩ := wAct_act hw
      exact act_sim (c := c) hΦ (gr c hΓ) hcomp hr h K Q fun v w' ow' τ' hF hR => hK r.1 r.2 v w' ow' τ' ob hK' hF hR
    cases ao
    case call j l =>
      simp only [wAct, wCall] at hw
      rcases hw with hw | hw | ⟨_, F, hI, hF⟩
      · exact plain (by simp only [wAct, wCall]; exact .inl hw)
      · exact plain (by simp only [wAct, wCall]; exact .inr (.inl hw))
      · obtain ⟨args, tys, f, fn, rfl, rfl, hT, hf, hb, hn⟩ := comp_call hcomp
        have hcall := hI c hΓ f hT a w ow τ ob _ h (Rt_evs h args.toList)
        unfold Oper.wp
        rw [exec_call hf hb hn, Oper.upon_enter]
        refine hcall.mono ?_
        rintro e w' ⟨v, x, st', ow', τ', ob', rfl, hFx, he, hFR, hR⟩
        exact hK x st' v w' ow' τ' ob' (hF x st' hFx he) hFR hR
    case callv y l =>
      simp only [wAct] at hw
      split at hw
      · rename_i g fs caps ey
        simp only [wCallV] at hw
        rcases hw with hw | hw | ⟨_, F, ⟨hI, fn, hf, hb, hn⟩, hF⟩
        · exact plain (by simp only [wAct, ey, wCallV]; exact .inl hw)
        · exact plain (by simp only [wAct, ey, wCallV]; exact .inr (.inl hw))
        · obtain ⟨args, tys, rfl, rfl⟩ := comp_callv hcomp
          have hy := R_ev h y
          rw [ey] at hy
          simp only [R] at hy
          obtain ⟨us, vs, hv, hfirst, hcaps⟩ := hy
          have hcall := hI c hΓ a w ow τ ob _ h (Rt_append (Rt_append hfirst (Rt_evs h args.toList)) hcaps)
          unfold Oper.wp
          rw [exec_callv hv hf hb hn, Oper.upon_enter]
          refine hcall.mono ?_
          rintro e w' ⟨v, x, st', ow', τ', ob', rfl, hFx, he, hFR, hR⟩
          exact hK x st' v w' ow' τ' ob' (hF x st' hFx he) hFR hR
      · exact hw.elim
    case snil ng y =>
      simp only [wAct, wSnil] at hw
      obtain ⟨t, e, z, ty, rfl, ht, hz⟩ := comp_snil hcomp
      split at hw
      · rename_i ey
        exact plain (by simp only [wAct, wSnil, ey]; exact hw)
      · rename_i sz tok rows ey
        by_cases hr : rows = []
        · obtain ⟨_, k1, k2⟩ := hw.2 hr
          have hy := R_ev h y
          rw [ey] at hy
          obtain ⟨A, q, hv, _, _⟩ := sl_value hy
          have hall : ∀ b : Bool, KA (.imm (.bool b)) st := fun b => by cases b; exact k2; exact k1
          exact wp_value (exec_snil ht hz hv) (hK _ _ _ _ _ _ _ (hall _) h (by unfold R; exact ⟨rfl, rfl⟩))
        · exact plain (by simp only [wAct, wSnil, ey]; exact ⟨hw.1, fun h => absurd h hr⟩)
      · rename_i d' g sz off n cp ey
        exact plain (by simp only [wAct, wSnil, ey]; exact hw)
      · exact hw.elim
    case app sz bytes y z =>
      simp only [wAct] at hw
      split at hw
      · obtain ⟨args, tys, t, e, i, rfl, hargs, htys, ht, hi, rfl, rfl, h1, h2, h4⟩ := comp_app hcomp
        obtain ⟨zv, hz, hzs⟩ := Option.map_eq_some_iff.1 h4
        simp only [Prod.mk.injEq] at hzs
        obtain ⟨x, st', hKA, hsim⟩ := sim_thaw (dst := dst) (type := type) (pos := pos) (after := after) (guard := guard) h hargs htys ht hi hz hzs.1 hzs.2 h1 h2 hw
        exact hsim K Q fun v w' ow' τ' hF hR => hK x st' v w' ow' τ' ob hKA hF hR
      · exact plain (by simp only [wAct, Bool.false_eq_true, false_and, if_false]; exact hw)
    case hard o => exact absurd (comp_not_hard hcomp) (by simp [isHard])
    all_goals exact plain hw

theorem wStep_sim {ops : Array Oper} {o : Oper} {ao : AOper} (hΓ : S.Γ c) (hc : compOH S.P S.T c.nt ops o = some ao) {KA : St σ → Prop} (hs : wStep S true st ao KA) (h : FR c st a w ow τ ob) {K : Act → World → Prop} {Q : Exit → Act → World → Prop}
    (hK : ∀ st' a' w' ow' τ' ob', KA st' → FR c st' a' w' ow' τ' ob' → K a' w') : if Region.wanted o (yielded ops a.tmps) then o.wp S.P a w K Q ∨ (o.asks S.P a w ∧ LetsOut Q) else K (a.put o.dst undef) w := by
  unfold compOH at hc
  split at hc
  · rename_i g hg
    split at hc
    · rename_i hnt
      injection hc with hc
      have hlt : ∀ s, o.dst = some s → s < c.nt := by
        intro s e
        rw [e] at hnt
        simpa [dstOk] using hnt
      subst hc
      have key : wAct S true (S.off + o.dst.getD 0) st ((comp S.P S.T o.op).getD (.hard o.op)) (fun v s => KA (s.put o.dst v)) → o.wp S.P a w K Q := by
        intro hw
        obtain ⟨dst, op, type, pos, after, guard⟩ := o
        refine wAct_sim (Γ := S.Γ) hΓ hw h fun x st' v w' ow' τ' ob' hKA hF hR => hK (st'.put dst x) _ _ ow' τ' ob' hKA ?_
        cases dst with
        | none => exact hF
        | some s => exact hF.put (hlt s rfl) hR
      unfold wStep at hs
      simp only at hs
      split at hs
      · have hw : Region.wanted o (yielded ops a.tmps) = true := wanted_of h hg rfl
        rw [hw]
        exact .inl (key hs)
      · rename_i g' b
        unfold wGuard at hs
        split at hs
        · rename_i x ex
          by_cases hx : x = b
          · subst hx
            have h1 := hs.1 rfl
            rw [env_id ex] at h1
            have hw : Region.wanted o (yielded ops a.tmps) = true := wanted_of h hg (by simp [wantedA, ex])
            rw [hw]
            exact .inl (key h1)
          · have hx' : x = !b := by cases x <;> cases b <;> simp_all
            have h2 := hs.2 hx'
            subst hx'
            rw [env_id ex] at h2
            have hw : Region.wanted o (yielded ops a.tmps) = false := wanted_of h hg (by simp only [wantedA, ex]; cases b <;> rfl)
            rw [hw]
            exact hK _ _ _ ow τ ob h2 (h.put_undef hlt)
        · rename_i ex
          have hw : Region.wanted o (yielded ops a.tmps) = false := wanted_of h hg (by simp [wantedA, ex])
          rw [hw]
          exact hK _ _ _ ow τ ob hs (h.put_undef hlt)
        · exact hs.elim
    · cases hc
  · cases hc

theorem wOps_sim {ops : Array Oper} {Q : Exit → Act → World → Prop} {KA : St σ → Prop} (hΓ : S.Γ c) : ∀ (l : List Oper) (k : Nat) (al : List AOper) (st : St σ) (a : Act) (w : World) (ow : Nat → Own) (τ : Nat → Nat) (ob : Nat → Value → Prop), ops.toList.drop k = l → compLH S.P S.T c.nt ops l = some al → wOps S st al KA → FR c st a w ow τ ob →
    (∀ st' a' w' ow' τ' ob', KA st' → FR c st' a' w' ow' τ' ob' → Q .normal a' w') → wpOps S.P ops Q (List.range' k l.length) a w
  | [], k, al, st, a, w, ow, τ, ob, hl, hc, hs, h, hQ => by
    simp only [compLH, Option.some.injEq] at hc
    subst hc
    exact hQ st a w ow τ ob hs h
  | o :: l, k, al, st, a, w, ow, τ, ob, hl, hc, hs, h, hQ => by
    simp only [compLH] at hc
    split at hc
    · rename_i ao al' h1 h2
      injection hc with hc
      subst hc
      simp only [wOps] at hs
      have hk : ops[k]? = some o := by
        have := congrArg (fun l => l[0]?) hl
        simpa using this
      have hl' : ops.toList.drop (k + 1) = l := by
        have := congrArg List.tail hl
        simpa using this
      simp only [List.length_cons, List.range'_succ, wpOps, hk]
      unfold wFrz at hs
      split at hs
      · rename_i d sz _
        exact wStep_sim hΓ h1 hs (h.freeze d sz) fun st' a' w' ow' τ' ob' hKA hF => wOps_sim hΓ l (k + 1) al' st' a' w' ow' τ' ob' hl' h2 hKA hF hQ
      · exact wStep_sim hΓ h1 hs h fun st' a' w' ow' τ' ob' hKA hF => wOps_sim hΓ l (k + 1) al' st' a' w' ow' τ' ob' hl' h2 hKA hF hQ
    · cases hc
end
end Go.Av

namespace Go.Av
variable {σ : Type}

def AOp.opnds : AOp → List Operand
  | .mov x => [x]
  | .pick c a b => [c, a, b]
  | .box x => [x]
  | .alloc _ => []
  | .build _ parts => parts.map (·.2.2)
  | .bsl _ parts => parts
  | .load _ _ p => [p]
  | .store _ p x => [p, x]
  | .faddr _ p => [p]
  | .iaddr _ x i => [x, i]
  | .aaddr _ _ x i => [x, i]
  | .sidx x i => [x, i]
  | .field _ _ _ x => [x]
  | .bin _ x y => [x, y]
  | .beq _ x y => [x, y]
  | .seq _ _ x y => [x, y]
  | .un _ x => [x]
  | .convi _ x => [x]
  | .convs x => [x]
  | .slc _ x lo hi mx => x :: (lo.toList ++ hi.toList ++ mx.toList)
  | .sslc x lo hi => x :: (lo.toList ++ hi.toList)
  | .ext _ x => [x]
  | .call _ args => args
  | .slen x => [x]
  | .len x => [x]
  | .app _ _ x y => [x, y]
  | .nilc x => [x]
  | .mkf _ first caps => first ++ caps
  | .callv x args => x :: args
  | .aidx _ _ _ x i => [x, i]
  | .mm _ x y => [x, y]
  | .peq _ x => [x]
  | .snil _ x => [x]
  | .asl _ _ x => [x]
  | .capv x => [x]
  | .cpy _ x y => [x, y]
  | .appz _ _ _ x n => [x, n]
  | .mksl _ _ _ n => [n]
  | .mkmap => []
  | .mget _ _ _ _ m k => [m, k]
  | .mset _ _ m k x => [m, k, x]
  | .mlen m => [m]
  | .hard _ => []
def AV.ptrOf : AV → Option Nat
  | .ptr d _ _ => some d
  | .vsl d _ _ _ _ _ => some d
  | .mp d _ => some d
  | _ => none
def AV.tokOf : AV → Option Nat
  | .sl _ (.own t _) _ => some t
  | _ => none
/-- The variables that are read, and written; the tokens that are met; are all variables read. -/
structure Eff where
  rd : List Nat
  wr : List Nat
  tk : List Nat
  all : Bool
  deriving DecidableEq
def eff (d : Nat) (st : St σ) : AOp → Eff
  | .load _ _ p => ⟨(st.ev p).ptrOf.toList, [], [], false⟩
  | .store _ p _ => ⟨(st.ev p).ptrOf.toList, (st.ev p).ptrOf.toList, [], false⟩
  | .faddr _ p => ⟨(st.ev p).ptrOf.toList, [], [], false⟩
  | .nilc p => ⟨(st.ev p).ptrOf.toList, [], [], false⟩
  | .peq _ p => ⟨(st.ev p).ptrOf.toList, [], [], false⟩
  | .snil _ p => ⟨(st.ev p).ptrOf.toList, [], [], false⟩
  | .aaddr _ _ p _ => ⟨(st.ev p).ptrOf.toList, [], [], false⟩
  | .iaddr _ p _ => ⟨(st.ev p).ptrOf.toList, [], [], false⟩
  | .asl _ _ p => ⟨(st.ev p).ptrOf.toList, [], [], false⟩
  | .mget _ _ _ _ p _ => ⟨(st.ev p).ptrOf.toList, [], [], false⟩
  | .mlen p => ⟨(st.ev p).ptrOf.toList, [], [], false⟩
  | .mset _ _ p _ _ => ⟨(st.ev p).ptrOf.toList, (st.ev p).ptrOf.toList, [], false⟩
  | .box _ => ⟨[d], [d], [], false⟩
  | .alloc _ => ⟨[d], [d], [], false⟩
  | .mkmap => ⟨[d], [d], [], false⟩
  | .mksl _ _ _ _ => ⟨[d], [d], [], false⟩
  | .appz _ _ _ x _ => ⟨d :: (st.ev x).ptrOf.toList, [d], [], false⟩
  | .cpy _ x y => ⟨(st.ev x).ptrOf.toList ++ (st.ev y).ptrOf.toList, (st.ev x).ptrOf.toList, [], false⟩
  | .app _ _ x y => match (st.ev x).ptrOf with | some d' => ⟨d :: d' :: (st.ev y).ptrOf.toList, [d, d'], [], false⟩ | none => ⟨[], [], d :: (st.ev x).tokOf.toList, false⟩
  | .call _ args => ⟨[], [], [d], !AV.pureBs (args.map fun x => (st.ev x).weaks)⟩
  | .callv x args => match st.ev x with | .fv _ first caps => ⟨[], [], [d], !AV.pureBs (first ++ (args.map fun x => (st.ev x).weaks) ++ caps)⟩ | _ => ⟨[], [], [d], false⟩
  | _ => ⟨[], [], [], false⟩
theorem eff_sub (d : Nat) (st : St σ) (op : AOp) : ∀ i, i ∈ (eff d st op).wr → i ∈ (eff d st op).rd := by
  intro i hi
  cases op <;> simp only [eff, List.not_mem_nil] at hi ⊢ <;> first | exact hi | skip
  case app sz bytes x y =>
    split at hi
    · simp only [List.mem_cons, List.not_mem_nil, or_false] at hi
      simp only [List.mem_cons]
      rcases hi with h | h <;> simp [h]
    · simp at hi
  case cpy sz x y => simp [hi]
  case appz sz bytes z x n => simp at hi; simp [hi]
  case callv x args => split at hi <;> simp at hi

inductive Loc where
  | env (i : Nat)
  | var (i : Nat)
  | tok (i : Nat)
def eqAt (s s' : St σ) : Loc → Prop
  | .env i => s'.env i = s.env i
  | .var i => s'.gen i = s.gen i ∧ s'.var i = s.var i
  | .tok i => s'.tgen i = s.tgen i ∧ s'.top i = s.top i
theorem eqAt.refl (s : St σ) (l : Loc) : eqAt s s l := by cases l <;> simp [eqAt]
theorem eqAt.symm {s s' : St σ} {l : Loc} (h : eqAt s s' l) : eqAt s' s l := by cases l <;> simp_all [eqAt]
theorem eqAt.trans {s s' s'' : St σ} {l : Loc} (h : eqAt s s' l) (k : eqAt s' s'' l) : eqAt s s'' l := by cases l <;> simp_all [eqAt]
theorem St.ext_loc {s s' : St σ} (h : ∀ l, eqAt s s' l) (hx : s'.x = s.x) : s' = s := by
  cases s; cases s'
  simp only [St.mk.injEq]
  refine ⟨funext fun i => h (.env i), funext fun i => (h (.var i)).1, funext fun i => (h (.var i)).2, funext fun i => (h (.tok i)).1, funext fun i => (h (.tok i)).2, hx⟩

/-- A step reads Rd and writes Wr. -/
def Frame (f : St σ → Option (St σ)) (Rd Wr : Loc → Prop) : Prop :=
  ∀ s r, f s = some r → (r.x = s.x ∧ ∀ l, ¬ Wr l → eqAt s r l) ∧ ∀ s', s'.x = s.x → (∀ l, Rd l → eqAt s s' l) → ∃ r', f s' = some r' ∧ r'.x = s'.x ∧ (∀ l, Wr l → eqAt r r' l) ∧ ∀ l, ¬ Wr l → eqAt s' r' l
theorem swap {f g : St σ → Option (St σ)} {Rf Wf Rg Wg : Loc → Prop} (hf : Frame f Rf Wf) (hg : Frame g Rg Wg) (h1 : ∀ l, Wf l → ¬ Rg l ∧ ¬ Wg l) (h2 : ∀ l, Wg l → ¬ Rf l)
    {s s1 s2 : St σ} (e1 : f s = some s1) (e2 : g s1 = some s2) : ∃ s1', g s = some s1' ∧ f s1' = some s2 := by
  obtain ⟨⟨fx, fo⟩, ff⟩ := hf s s1 e1
  obtain ⟨⟨gx, go⟩, gg⟩ := hg s1 s2 e2
  obtain ⟨r, hr, rx, rw', ro⟩ := gg s fx.symm fun l hl => (fo l fun hw => (h1 l hw).1 hl).symm
  obtain ⟨q, hq, qx, qw, qo⟩ := ff r rx fun l hl => ro l fun hw => h2 l hw hl
  refine ⟨r, hr, ?_⟩
  rw [hq]
  congr 1
  refine St.ext_loc (fun l => ?_) (by rw [qx, rx, gx, fx])
  by_cases hwf : Wf l
  · exact (go l (h1 l hwf).2).symm.trans (qw l hwf)
  · by_cases hwg : Wg l
    · exact (rw' l hwg).trans (qo l hwf)
    · exact ((go l hwg).symm.trans ((fo l hwf).symm.trans (ro l hwg))).trans (qo l hwf)

def Operand.slot? : Operand → Option Nat
  | .tmp t => some t
  | _ => none
def AOper.slots (o : AOper) : List Nat := o.op.opnds.filterMap Operand.slot? ++ (o.guard.map (·.1)).toList
def Rd (o : AOper) (e : Eff) : Loc → Prop
  | .env i => i ∈ o.slots
  | .var i => i ∈ e.rd ∨ e.all = true
  | .tok i => i ∈ e.tk
def Wr (o : AOper) (e : Eff) : Loc → Prop
  | .env i => o.dst = some i
  | .var i => i ∈ e.wr
  | .tok i => i ∈ e.tk

theorem ev_congr {s s' : St σ} {o : AOper} (h : ∀ i, i ∈ o.slots → s'.env i = s.env i) {x : Operand} (hx : x ∈ o.op.opnds) : s'.ev x = s.ev x := by
  cases x with
  | tmp t =>
    exact h t (by simp only [AOper.slots, List.mem_append, List.mem_filterMap]; exact .inl ⟨_, hx, rfl⟩)
  | _ => rfl

/-- What an operation's act alone owes. -/
def ActF (d : Nat) (Φ : Orc) (op : AOp) (e : Eff) (s s' : St σ) (v : AV) (s1 : St σ) : Prop :=
  (s1.x = s.x ∧ s1.env = s.env ∧ (∀ i, i ∉ e.wr → eqAt s s1 (.var i)) ∧ (∀ i, i ∉ e.tk → eqAt s s1 (.tok i))) ∧
  ∃ s1', act Φ d s' op = some (v, s1') ∧ s1'.x = s'.x ∧ s1'.env = s'.env ∧ (∀ i, i ∈ e.wr → eqAt s1 s1' (.var i)) ∧ (∀ i, i ∈ e.tk → eqAt s1 s1' (.tok i)) ∧ (∀ i, i ∉ e.wr → eqAt s' s1' (.var i)) ∧ (∀ i, i ∉ e.tk → eqAt s' s1' (.tok i))
section
variable {d : Nat} {Φ : Orc} {op : AOp} {e : Eff} {s s' s1 : St σ} {v : AV}
theorem ActF.quiet (h1 : e.wr = []) (h2 : e.tk = []) (hs : s1 = s) (h' : act Φ d s' op = some (v, s')) : ActF d Φ op e s s' v s1 := by
  subst hs
  exact ⟨⟨rfl, rfl, fun i _ => eqAt.refl _ _, fun i _ => eqAt.refl _ _⟩, s', h', rfl, rfl, fun i hi => by rw [h1] at hi; simp at hi, fun i hi => by rw [h2] at hi; simp at hi, fun i _ => eqAt.refl _ _, fun i _ => eqAt.refl _ _⟩
/-- One variable is written. -/
theorem ActF.setv {q : Nat} {xs : List AV} (h1 : e.wr = [q]) (h2 : e.tk = []) (hg : s'.gen q = s.gen q) (hs : s1 = { s with var := upd s.var q xs }) (h' : act Φ d s' op = some (v, { s' with var := upd s'.var q xs })) : ActF d Φ op e s s' v s1 := by
  subst hs
  refine ⟨⟨rfl, rfl, fun i hi => ⟨rfl, ?_⟩, fun i _ => ⟨rfl, rfl⟩⟩, _, h', rfl, rfl, fun i hi => ?_, fun i hi => by rw [h2] at hi; simp at hi, fun i hi => ⟨rfl, ?_⟩, fun i _ => ⟨rfl, rfl⟩⟩
  · exact upd_ne _ _ _ fun hh => hi (by rw [h1, hh]; simp)
  · rw [h1, List.mem_singleton] at hi
    subst hi
    exact ⟨hg, by simp [upd]⟩
  · exact upd_ne _ _ _ fun hh => hi (by rw [h1, hh]; simp)
theorem ActF.newv {q : Nat} {xs : List AV} (h1 : e.wr = [q]) (h2 : e.tk = []) (hg : s'.gen q = s.gen q) (hs : s1 = s.newVar q xs) (h' : act Φ d s' op = some (v, s'.newVar q xs)) : ActF d Φ op e s s' v s1 := by
  subst hs
  refine ⟨⟨rfl, rfl, fun i hi => ?_, fun i _ => ⟨rfl, rfl⟩⟩, _, h', rfl, rfl, fun i hi => ?_, fun i hi => by rw [h2] at hi; simp at hi, fun i hi => ?_, fun i _ => ⟨rfl, rfl⟩⟩
  · have : i ≠ q := fun hh => hi (by rw [h1, hh]; simp)
    exact ⟨upd_ne _ _ _ this, upd_ne _ _ _ this⟩
  · rw [h1, List.mem_singleton] at hi
    subst hi
    simp [eqAt, St.newVar, upd, hg]
  · have : i ≠ q := fun hh => hi (by rw [h1, hh]; simp)
    exact ⟨upd_ne _ _ _ this, upd_ne _ _ _ this⟩
theorem ActF.given {r : AV} (h1 : e.wr = []) (h2 : e.tk = [d]) (ht : s'.tgen d = s.tgen d ∧ s'.top d = s.top d) (hs : s1 = s.given d r) (h' : act Φ d s' op = some (v, s'.given d r)) : ActF d Φ op e s s' v s1 := by
  subst hs
  obtain ⟨e1, e2, e3, e4⟩ := given_env s d r
  obtain ⟨f1, f2, f3, f4⟩ := given_env s' d r
  have tk : ∀ (t : St σ) i, i ≠ d → eqAt t (t.given d r) (.tok i) := by
    intro t i hi
    unfold St.given
    split
    · simp [eqAt, St.give, upd, hi]
    · exact eqAt.refl _ _
  refine ⟨⟨e4, e1, fun i _ => ⟨by rw [e2], by rw [e3]⟩, fun i hi => tk s i fun h => hi (by rw [h2, h]; simp)⟩, _, h', f4, f1, fun i hi => by rw [h1] at hi; simp at hi, fun i hi => ?_, fun i _ => ⟨by rw [f2], by rw [f3]⟩, fun i hi => tk s' i fun h => hi (by rw [h2, h]; simp)⟩
  rw [h2, List.mem_singleton] at hi
  subst hi
  unfold St.given
  split
  · simp [eqAt, St.give, upd, ht.1]
  · exact ht
theorem vslOf_ptr {y : AV} {p : Nat × Nat × Nat × Nat × Nat × Option Nat} (h : y.vslOf = some p) : y.ptrOf = some p.1 := by rw [vslOf_eq h]; rfl
theorem src_congr {sz : Nat} {lim : Option Nat} {y : AV} (h : ∀ i, y.ptrOf = some i → s'.gen i = s.gen i ∧ s'.var i = s.var i) : s'.src sz lim y = s.src sz lim y := by
  unfold St.src
  split
  · rename_i d' g sz' off n cp ev
    obtain ⟨a1, a2⟩ := h d' (vslOf_ptr ev)
    rw [a1, a2]
  · rfl
  · rfl

theorem act_frame (hp : eff d s op = e) (he : ∀ x, x ∈ op.opnds → s'.ev x = s.ev x) (hV : ∀ i, i ∈ e.rd ∨ e.all = true → s'.gen i = s.gen i ∧ s'.var i = s.var i) (hT : ∀ i, i ∈ e.tk → s'.tgen i = s.tgen i ∧ s'.top i = s.top i) (h : act Φ d s op = some (v, s1)) : ActF d Φ op e s s' v s1 := by
  subst hp
  cases op
  case load agg n p =>
    simp only [AOp.opnds, List.mem_cons, List.not_mem_nil, or_false, forall_eq] at he
    simp only [act] at h
    split at h
    · rename_i d' g off ep
      split at h
      · rename_i hc
        obtain ⟨v', hv', hq⟩ := Option.map_eq_some_iff.1 h
        cases hq
        obtain ⟨a1, a2⟩ := hV d' (.inl (by simp [eff, ep, AV.ptrOf]))
        refine .quiet rfl rfl rfl ?_
        simp only [act, he, ep, a1, a2]
        rw [if_pos hc, hv']; rfl
      · cases h
    · rename_i cs off ep
      split at h
      · rename_i hc
        obtain ⟨v', hv', hq⟩ := Option.map_eq_some_iff.1 h
        cases hq
        refine .quiet rfl rfl rfl ?_
        simp only [act, he, ep]
        rw [if_pos hc, hv']; rfl
      · cases h
    · cases h
  case faddr off p =>
    simp only [AOp.opnds, List.mem_cons, List.not_mem_nil, or_false, forall_eq] at he
    simp only [act] at h
    split at h
    · rename_i d' g q ep
      split at h
      · rename_i hc
        cases h
        obtain ⟨a1, a2⟩ := hV d' (.inl (by simp [eff, ep, AV.ptrOf]))
        refine .quiet rfl rfl rfl ?_
        simp only [act, he, ep, a1]
        rw [if_pos hc]
      · cases h
    · rename_i ep
      cases h
      exact .quiet rfl rfl rfl (by simp only [act, he, ep])
    · cases h
  case nilc p =>
    simp only [AOp.opnds, List.mem_cons, List.not_mem_nil, or_false, forall_eq] at he
    simp only [act] at h
    split at h
    · rename_i d' g q ep
      split at h
      · rename_i hc
        cases h
        obtain ⟨a1, a2⟩ := hV d' (.inl (by simp [eff, ep, AV.ptrOf]))
        refine .quiet rfl rfl rfl ?_
        simp only [act, he, ep, a1]
        rw [if_pos hc]
      · cases h
    · rename_i ep
      cases h
      exact .quiet rfl rfl rfl (by simp only [act, he, ep])
    · cases h
  case peq ng p =>
    simp only [AOp.opnds, List.mem_cons, List.not_mem_nil, or_false, forall_eq] at he
    simp only [act] at h
    split at h
    · rename_i ep
      cases h
      exact .quiet rfl rfl rfl (by simp only [act, he, ep])
    · rename_i d' g q ep
      split at h
      · rename_i hc
        cases h
        obtain ⟨a1, a2⟩ := hV d' (.inl (by simp [eff, ep, AV.ptrOf]))
        refine .quiet rfl rfl rfl ?_
        simp only [act, he, ep, a1]
        rw [if_pos hc]
      · cases h
    · rename_i ep
      cases h
      exact .quiet rfl rfl rfl (by simp only [act, he, ep])
    · cases h
  case snil ng p =>
    simp only [AOp.opnds, List.mem_cons, List.not_mem_nil, or_false, forall_eq] at he
    simp only [act] at h
    split at h
    · rename_i ep
      cases h
      exact .quiet rfl rfl rfl (by simp only [act, he, ep])
    · rename_i ep
      split at h
      · rename_i hc
        cases h
        exact .quiet rfl rfl rfl (by simp only [act, he, ep]; rw [if_pos hc])
      · cases h
    · rename_i d' g sz off n cp ep
      split at h
      · rename_i hc
        cases h
        obtain ⟨a1, a2⟩ := hV d' (.inl (by simp [eff, ep, AV.ptrOf]))
        refine .quiet rfl rfl rfl ?_
        simp only [act, he, ep, a1]
        rw [if_pos hc]
      · cases h
    · cases h
  case asl sz n p =>
    simp only [AOp.opnds, List.mem_cons, List.not_mem_nil, or_false, forall_eq] at he
    simp only [act] at h
    split at h
    · rename_i d' g q ep
      split at h
      · rename_i hc
        cases h
        obtain ⟨a1, a2⟩ := hV d' (.inl (by simp [eff, ep, AV.ptrOf]))
        refine .quiet rfl rfl rfl ?_
        simp only [act, he, ep, a1, a2]
        rw [if_pos hc]
      · cases h
    · cases h
  case iaddr sz x i =>
    simp only [AOp.opnds, List.mem_cons, List.not_mem_nil, or_false, forall_eq_or_imp, forall_eq] at he
    simp only [act] at h
    split at h
    · rename_i d' g sz' off m cp n e1 e2
      split at h
      · rename_i hc
        cases h
        obtain ⟨a1, a2⟩ := hV d' (.inl (by simp [eff, vslOf_ptr e1]))
        refine .quiet rfl rfl rfl ?_
        simp only [act, he, e1, e2, a1]
        rw [if_pos hc]
      · cases h
    · rename_i e0 e1 e2
      split at h
      · rename_i hc
        cases h
        refine .quiet rfl rfl rfl ?_
        simp only [act, he, e0, e1, e2]
        rw [if_pos hc]
      · cases h
    · cases h
  case aaddr len sz x i =>
    simp only [AOp.opnds, List.mem_cons, List.not_mem_nil, or_false, forall_eq_or_imp, forall_eq] at he
    simp only [act] at h
    split at h
    · rename_i d' g q n ep ei
      split at h
      · rename_i hc
        cases h
        obtain ⟨a1, a2⟩ := hV d' (.inl (by simp [eff, ep, AV.ptrOf]))
        refine .quiet rfl rfl rfl ?_
        simp only [act, he, ep, ei, a1]
        rw [if_pos hc]
      · cases h
    · cases h
  case mget ag ks z comma m k =>
    simp only [AOp.opnds, List.mem_cons, List.not_mem_nil, or_false, forall_eq_or_imp, forall_eq] at he
    simp only [act] at h
    split at h
    · rename_i d' g kc em ek
      split at h
      · rename_i hc
        obtain ⟨v', hv', hq⟩ := Option.map_eq_some_iff.1 h
        cases hq
        obtain ⟨a1, a2⟩ := hV d' (.inl (by simp [eff, em, AV.ptrOf]))
        refine .quiet rfl rfl rfl ?_
        simp only [act, he, em, ek, a1, a2]
        rw [if_pos hc, hv']; rfl
      · cases h
    · rename_i kc em ek
      split at h
      · rename_i hc
        cases h
        refine .quiet rfl rfl rfl ?_
        simp only [act, he, em, ek]
        rw [if_pos hc]
      · cases h
    · cases h
  case mlen m =>
    simp only [AOp.opnds, List.mem_cons, List.not_mem_nil, or_false, forall_eq_or_imp, forall_eq] at he
    simp only [act] at h
    split at h
    · rename_i d' g em
      split at h
      · rename_i hc
        cases h
        obtain ⟨a1, a2⟩ := hV d' (.inl (by simp [eff, em, AV.ptrOf]))
        refine .quiet rfl rfl rfl ?_
        simp only [act, he, em, a1, a2]
        rw [if_pos hc]
      · cases h
    · rename_i em
      cases h
      exact .quiet rfl rfl rfl (by simp only [act, he, em])
    · cases h
  case store n p x =>
    simp only [AOp.opnds, List.mem_cons, List.not_mem_nil, or_false, forall_eq_or_imp, forall_eq] at he
    simp only [act] at h
    split at h
    · rename_i d' g off xs ep ex
      split at h
      · rename_i hc
        cases h
        obtain ⟨a1, a2⟩ := hV d' (.inl (by simp [eff, ep, AV.ptrOf]))
        refine .setv (q := d') (by simp [eff, ep, AV.ptrOf]) rfl a1 rfl ?_
        simp only [act, he, ep, ex, a1, a2]
        rw [if_pos hc]
      · cases h
    · cases h
  case mset ag ks m k x =>
    simp only [AOp.opnds, List.mem_cons, List.not_mem_nil, or_false, forall_eq_or_imp, forall_eq] at he
    simp only [act] at h
    split at h
    · rename_i d' g kc em ek
      split at h
      · rename_i hc
        obtain ⟨v', hv', hq⟩ := Option.map_eq_some_iff.1 h
        cases hq
        obtain ⟨a1, a2⟩ := hV d' (.inl (by simp [eff, em, AV.ptrOf]))
        refine .setv (q := d') (by simp [eff, em, AV.ptrOf]) rfl a1 rfl ?_
        simp only [act, he, em, ek, a1, a2]
        rw [if_pos hc, hv']; rfl
      · cases h
    · cases h
  case cpy sz x y =>
    simp only [AOp.opnds, List.mem_cons, List.not_mem_nil, or_false, forall_eq_or_imp, forall_eq] at he
    simp only [act] at h
    split at h
    · rename_i d' g sz' off n cp ex
      split at h
      · rename_i m news es
        split at h
        · rename_i hc
          cases h
          obtain ⟨a1, a2⟩ := hV d' (.inl (by simp [eff, vslOf_ptr ex]))
          have hsrc := src_congr (s := s) (s' := s') (sz := sz) (lim := some n) (y := s.ev y) fun i hi => hV i (.inl (by simp [eff, hi]))
          refine .setv (q := d') (by simp [eff, vslOf_ptr ex]) rfl a1 rfl ?_
          simp only [act, he, ex, hsrc, es, a1, a2]
          rw [if_pos hc]
        · cases h
      · cases h
    · cases h
  case alloc z =>
    simp only [act, Option.some.injEq, Prod.mk.injEq] at h
    obtain ⟨rfl, rfl⟩ := h
    obtain ⟨a1, a2⟩ := hV d (.inl (by simp [eff]))
    exact .newv rfl rfl a1 rfl (by simp only [act, a1])
  case mkmap =>
    simp only [act, Option.some.injEq, Prod.mk.injEq] at h
    obtain ⟨rfl, rfl⟩ := h
    obtain ⟨a1, a2⟩ := hV d (.inl (by simp [eff]))
    exact .newv rfl rfl a1 rfl (by simp only [act, a1])
  case box x =>
    simp only [AOp.opnds, List.mem_cons, List.not_mem_nil, or_false, forall_eq] at he
    simp only [act] at h
    split at h
    · rename_i cs ex
      simp only [Option.some.injEq, Prod.mk.injEq] at h
      obtain ⟨rfl, rfl⟩ := h
      obtain ⟨a1, a2⟩ := hV d (.inl (by simp [eff]))
      exact .newv rfl rfl a1 rfl (by simp only [act, he, ex, a1])
    · cases h
  case mksl sz bytes z n =>
    simp only [AOp.opnds, List.mem_cons, List.not_mem_nil, or_false, forall_eq] at he
    simp only [act] at h
    split at h
    · rename_i m em
      split at h
      · rename_i hc
        cases h
        obtain ⟨a1, a2⟩ := hV d (.inl (by simp [eff]))
        refine .newv rfl rfl a1 rfl ?_
        simp only [act, he, em, a1]
        rw [if_pos hc]
      · cases h
    · cases h
  case appz sz bytes z x n =>
    simp only [AOp.opnds, List.mem_cons, List.not_mem_nil, or_false, forall_eq_or_imp, forall_eq] at he
    simp only [act] at h
    split at h
    · rename_i d' g sz' off k cc m ex em
      split at h
      · rename_i hc
        cases h
        obtain ⟨a1, a2⟩ := hV d (.inl (by simp [eff]))
        obtain ⟨b1, b2⟩ := hV d' (.inl (by simp [eff, vslOf_ptr ex]))
        refine .newv rfl rfl a1 rfl ?_
        simp only [act, he, ex, em, a1, b1, b2]
        rw [if_pos hc]
      · cases h
    · cases h
  case call f args =>
    simp only [AOp.opnds] at he
    have ea : (args.map fun x => (s'.ev x).weaks) = args.map fun x => (s.ev x).weaks := List.map_congr_left fun x hx => by rw [he x hx]
    have eb : args.map s'.ev = args.map s.ev := List.map_congr_left he
    have ht := hT d (by simp [eff])
    simp only [act] at h
    split at h
    · rename_i hp
      split at h
      · rename_i r hr
        obtain ⟨v', hv', hq⟩ := Option.map_eq_some_iff.1 h
        cases hq
        refine .given rfl rfl ht rfl ?_
        simp only [act, ea, ht.1]
        rw [if_pos hp, hr]
        simp [hv']
      · cases h
    · rename_i hp
      obtain ⟨r, hr, hq⟩ := Option.map_eq_some_iff.1 h
      cases hq
      have hg : s'.gen = s.gen := funext fun i => (hV i (.inr (by simp [eff, hp]))).1
      have hv : s'.var = s.var := funext fun i => (hV i (.inr (by simp [eff, hp]))).2
      refine ⟨⟨rfl, rfl, fun i _ => eqAt.refl _ _, fun i _ => eqAt.refl _ _⟩, s', ?_, rfl, rfl, fun i hi => by simp [eff] at hi, fun i hi => hT i hi, fun i _ => eqAt.refl _ _, fun i _ => eqAt.refl _ _⟩
      simp only [act, ea, eb, hg, hv]
      rw [if_neg hp, hr]; rfl
  case callv y args =>
    simp only [AOp.opnds, List.mem_cons, forall_eq_or_imp] at he
    obtain ⟨hy, he⟩ := he
    have ea : (args.map fun x => (s'.ev x).weaks) = args.map fun x => (s.ev x).weaks := List.map_congr_left fun x hx => by rw [he x hx]
    have eb : args.map s'.ev = args.map s.ev := List.map_congr_left he
    simp only [act] at h
    split at h
    rotate_left
    · cases h
    rename_i g first caps ey
    have ht := hT d (by simp [eff, ey])
    split at h
    · rename_i hp
      split at h
      · rename_i r hr
        obtain ⟨v', hv', hq⟩ := Option.map_eq_some_iff.1 h
        cases hq
        refine .given (by simp [eff, ey]) (by simp [eff, ey]) ht rfl ?_
        simp only [act, hy, ey, ea, ht.1]
        rw [if_pos hp, hr]
        simp [hv']
      · cases h
    · rename_i hp
      obtain ⟨r, hr, hq⟩ := Option.map_eq_some_iff.1 h
      cases hq
      have hall : (eff d s (.callv y args)).all = true := by
        simp only [eff, ey]
        simpa using hp
      have hg : s'.gen = s.gen := funext fun i => (hV i (.inr hall)).1
      have hv : s'.var = s.var := funext fun i => (hV i (.inr hall)).2
      refine ⟨⟨rfl, rfl, fun i _ => eqAt.refl _ _, fun i _ => eqAt.refl _ _⟩, s', ?_, rfl, rfl, fun i hi => by simp [eff, ey] at hi, fun i hi => hT i hi, fun i _ => eqAt.refl _ _, fun i _ => eqAt.refl _ _⟩
      simp only [act, hy, ey, ea, eb, hg, hv]
      rw [if_neg hp, hr]; rfl
  case app sz bytes x y =>
    simp only [AOp.opnds, List.mem_cons, List.not_mem_nil, or_false, forall_eq_or_imp, forall_eq] at he
    simp only [act] at h
    split at h
    · rename_i d' g sz' off n cp ex
      have hpx := vslOf_ptr ex
      split at h
      · rename_i m news es
        split at h
        · rename_i hc
          cases h
          have heff : eff d s (.app sz bytes x y) = ⟨d :: d' :: (s.ev y).ptrOf.toList, [d, d'], [], false⟩ := by simp only [eff, hpx]
          rw [heff] at hV ⊢
          obtain ⟨a1, a2⟩ := hV d (.inl (by simp))
          obtain ⟨b1, b2⟩ := hV d' (.inl (by simp))
          have hsrc := src_congr (s := s) (s' := s') (sz := sz) (lim := none) (y := s.ev y) fun i hi => hV i (.inl (by simp [hi]))
          have out : ∀ (t : St σ) xs i, i ∉ [d, d'] → eqAt t ((t.kill d').newVar d xs) (.var i) := by
            intro t xs i hi
            simp only [List.mem_cons, List.not_mem_nil, or_false, not_or] at hi
            simp [eqAt, St.newVar, St.kill, upd, hi.1, hi.2]
          refine ⟨⟨rfl, rfl, out s _, fun i _ => ⟨rfl, rfl⟩⟩, (s'.kill d').newVar d ((s.var d').take (n * sz) ++ news), ?_, rfl, rfl, fun i hi => ?_, fun i hi => by simp at hi, out s' _, fun i _ => ⟨rfl, rfl⟩⟩
          · simp only [act, he, ex, hsrc, es, b1, b2]
            rw [if_pos hc]
            simp only [Option.some.injEq, Prod.mk.injEq, and_true, AV.vsl.injEq, true_and]
            simp [St.kill, upd, a1, b1]
          · simp only [List.mem_cons, List.not_mem_nil, or_false] at hi
            have hgg : ∀ q, (q = d ∨ q = d') → s'.gen q = s.gen q := by rintro q (rfl | rfl); exact a1; exact b1
            simp only [eqAt, St.newVar, St.kill, upd]
            rcases hi with rfl | rfl
            · simp [a1, b1]
            · simp [a1, b1]
        · cases h
      · cases h
    · rename_i tok rows tk2 news ev0 etok ey
      split at h
      · rename_i hb
        obtain ⟨st2, hst2, hq⟩ := Option.map_eq_some_iff.1 h
        cases hq
        have hpn : (s.ev x).ptrOf = none := by
          unfold AV.asSl at etok
          split at etok
          · rename_i ex; rw [ex]; rfl
          · rename_i ex; rw [ex]; rfl
          · cases etok
        have heff : eff d s (.app sz bytes x y) = ⟨[], [], d :: (s.ev x).tokOf.toList, false⟩ := by simp only [eff, hpn]
        rw [heff] at hT ⊢
        have ht := hT d (by simp)
        have hsp : ∀ t g, tok = .own t g → (s.ev x).tokOf = some t := by
          intro t g h1
          subst h1
          unfold AV.asSl at etok
          split at etok
          · rename_i ex
            split at etok
            · cases etok; rw [ex]; rfl
            · cases etok
          · cases etok
          · cases etok
        have gv : ∀ (t t' : St σ) m, (∀ i, i ∉ (d :: (s.ev x).tokOf.toList : List Nat) → eqAt t (t.give d m) (.tok i)) := by
          intro t t' m i hi
          simp only [List.mem_cons, not_or] at hi
          simp [eqAt, St.give, upd, hi.1]
        cases tok with
        | ro => simp [appTok] at hst2
        | full =>
          simp only [appTok, Option.some.injEq] at hst2
          subst hst2
          refine ⟨⟨rfl, rfl, fun i _ => ⟨rfl, rfl⟩, gv s s _⟩, s'.give d (rows.length + news.length), ?_, rfl, rfl, fun i hi => by simp at hi, fun i hi => ?_, fun i _ => ⟨rfl, rfl⟩, gv s' s' _⟩
          · simp only [act, he, ev0, etok, ey, appTok, ht.1]
            rw [if_pos hb]; rfl
          · have hi' := hT i hi
            by_cases hid : i = d
            · subst hid; simp [eqAt, St.give, upd, ht.1]
            · simp [eqAt, St.give, upd, hid, hi'.1, hi'.2]
        | own t g =>
          simp only [appTok] at hst2
          split at hst2
          · rename_i hc
            injection hst2 with hst2
            subst hst2
            have htk := hsp t g rfl
            have htt := hT t (by simp [htk])
            have gs : ∀ (t0 : St σ), (∀ i, i ∉ (d :: (s.ev x).tokOf.toList : List Nat) → eqAt t0 ((t0.spend t).give d (rows.length + news.length)) (.tok i)) := by
              intro t0 i hi
              simp only [List.mem_cons, not_or, htk, Option.toList_some, List.not_mem_nil, not_false_eq_true, and_true] at hi
              simp [eqAt, St.give, St.spend, upd, hi.1, hi.2]
            refine ⟨⟨rfl, rfl, fun i _ => ⟨rfl, rfl⟩, gs s⟩, (s'.spend t).give d (rows.length + news.length), ?_, rfl, rfl, fun i hi => by simp at hi, fun i hi => ?_, fun i _ => ⟨rfl, rfl⟩, gs s'⟩
            · simp only [act, he, ev0, etok, ey, appTok, ht.1, htt.1, htt.2]
              rw [if_pos hb, if_pos hc]; rfl
            · have hi' := hT i hi
              by_cases hid : i = d
              · subst hid; simp [eqAt, St.give, St.spend, upd, ht.1]
              · by_cases hit : i = t
                · subst hit; simp [eqAt, St.give, St.spend, upd, hid, htt.1]
                · simp [eqAt, St.give, St.spend, upd, hid, hit, hi'.1, hi'.2]
          · cases hst2
      · cases h
    · cases h
  case mov x => simp only [AOp.opnds, List.mem_cons, List.not_mem_nil, or_false, forall_eq] at he; simp only [act] at h; cases h; exact .quiet rfl rfl rfl (by simp only [act, he])
  case pick c a b =>
    simp only [AOp.opnds, List.mem_cons, List.not_mem_nil, or_false, forall_eq_or_imp, forall_eq] at he
    simp only [act] at h
    split at h
    · rename_i t ec
      cases h
      exact .quiet rfl rfl rfl (by simp only [act, he.1, he.2.1, he.2.2, ec])
    · cases h
  case build z parts =>
    simp only [AOp.opnds, List.mem_map] at he
    have e : (parts.map fun p => (p.1, p.2.1, s'.ev p.2.2)) = parts.map fun p => (p.1, p.2.1, s.ev p.2.2) := List.map_congr_left fun p hp => by rw [he _ ⟨p, hp, rfl⟩]
    simp only [act] at h
    split at h
    · rename_i cs ec
      cases h
      exact .quiet rfl rfl rfl (by simp only [act, e, ec])
    · cases h
  case bsl sz parts =>
    simp only [AOp.opnds] at he
    have e : parts.map s'.ev = parts.map s.ev := List.map_congr_left he
    simp only [act] at h
    split at h
    · rename_i rows er
      split at h
      · rename_i hc
        cases h
        exact .quiet rfl rfl rfl (by simp only [act, e, er]; rw [if_pos hc])
      · cases h
    · cases h
  case mkf f first caps =>
    simp only [AOp.opnds, List.mem_append] at he
    have e1 : first.map s'.ev = first.map s.ev := List.map_congr_left fun x hx => he x (.inl hx)
    have e2 : caps.map s'.ev = caps.map s.ev := List.map_congr_left fun x hx => he x (.inr hx)
    simp only [act] at h
    cases h
    exact .quiet rfl rfl rfl (by simp only [act, e1, e2])
  case slc sz x lo hi mx =>
    simp only [AOp.opnds, List.mem_cons, List.mem_append, Option.mem_toList] at he
    have e1 : lo.map s'.ev = lo.map s.ev := by cases lo with | none => rfl | some y => simp [he y (by simp)]
    have e2 : hi.map s'.ev = hi.map s.ev := by cases hi with | none => rfl | some y => simp [he y (by simp)]
    have e3 : mx.map s'.ev = mx.map s.ev := by cases mx with | none => rfl | some y => simp [he y (by simp)]
    have e0 := he x (by simp)
    have hs : s1 = s := by
      simp only [act] at h
      (repeat' split at h) <;> first | (cases h; rfl) | cases h
    refine .quiet rfl rfl hs ?_
    subst hs
    simp only [act, e0, e1, e2, e3]
    simp only [act] at h
    (repeat' split at h) <;> first | (simp_all; done) | (cases h; simp_all)
  case sslc x lo hi =>
    simp only [AOp.opnds, List.mem_cons, List.mem_append, Option.mem_toList] at he
    have e1 : lo.map s'.ev = lo.map s.ev := by cases lo with | none => rfl | some y => simp [he y (by simp)]
    have e2 : hi.map s'.ev = hi.map s.ev := by cases hi with | none => rfl | some y => simp [he y (by simp)]
    have e0 := he x (by simp)
    have hs : s1 = s := by
      simp only [act] at h
      (repeat' split at h) <;> first | (cases h; rfl) | cases h
    refine .quiet rfl rfl hs ?_
    subst hs
    simp only [act, e0, e1, e2]
    simp only [act] at h
    (repeat' split at h) <;> first | (simp_all; done) | (cases h; simp_all)
  case hard o => simp [act] at h
  all_goals
    simp only [AOp.opnds, List.mem_cons, List.not_mem_nil, or_false, forall_eq_or_imp, forall_eq] at he
    refine .quiet rfl rfl ?_ ?_
    · simp only [act] at h
      (repeat' split at h) <;> first | (cases h; rfl) | cases h | (obtain ⟨q, _, hq⟩ := Option.map_eq_some_iff.1 h; cases hq; rfl)
    · simp only [act, he] at h ⊢
      (repeat' split at h) <;> first | (simp_all; done) | (simp_all; grind)
end
theorem put_loc {s : St σ} {d : Option Nat} {v : AV} {l : Loc} (h : ∀ i, l = .env i → d ≠ some i) : eqAt s (s.put d v) l := by
  cases d with
  | none => exact eqAt.refl _ _
  | some k =>
    cases l with
    | env i => have := h i rfl; simp only [eqAt, St.put]; exact upd_ne _ _ _ (fun e => this (by rw [e]))
    | var i => simp [eqAt, St.put]
    | tok i => simp [eqAt, St.put]
theorem put_x {s : St σ} {d : Option Nat} {v : AV} : (s.put d v).x = s.x := by cases d <;> rfl
theorem put_env {s s' : St σ} {d : Option Nat} {v : AV} {i : Nat} (h : d = some i) : eqAt (s.put d v) (s'.put d v) (.env i) := by
  subst h
  simp [eqAt, St.put, upd]
end Go.Av

namespace Go.Av
variable {σ : Type}

/-- A step that must meet what it is said to meet. -/
def stepE (Φ : Orc) (k : Nat) (e : Eff) (o : AOper) (s : St σ) : Option (St σ) := if eff (k + o.dst.getD 0) s o.op = e then stepA Φ k s o else none

theorem wantedA_congr {s s' : St σ} {o : AOper} (h : ∀ i, i ∈ o.slots → s'.env i = s.env i) : wantedA s' o.guard = wantedA s o.guard := by
  unfold wantedA
  cases e : o.guard with
  | none => rfl
  | some g =>
    obtain ⟨g, b⟩ := g
    simp only [h g (by simp [AOper.slots, e])]
theorem eff_congr {d : Nat} {s s' : St σ} {o : AOper} (h : ∀ i, i ∈ o.slots → s'.env i = s.env i) : eff d s' o.op = eff d s o.op := by
  have he : ∀ x, x ∈ o.op.opnds → s'.ev x = s.ev x := fun x hx => ev_congr h hx
  cases e : o.op <;> rw [e] at he <;> simp only [AOp.opnds, List.mem_cons, List.not_mem_nil, or_false, forall_eq_or_imp, forall_eq] at he <;> simp only [eff] <;> first
    | rfl
    | (simp only [he]; done)
    | skip
  case call f args =>
    rw [show (args.map fun x => (s'.ev x).weaks) = args.map fun x => (s.ev x).weaks from List.map_congr_left fun x hx => by rw [he x hx]]
  case callv y args =>
    rw [he.1, show (args.map fun x => (s'.ev x).weaks) = args.map fun x => (s.ev x).weaks from List.map_congr_left fun x hx => by rw [he.2 x hx]]

theorem frame_step (Φ : Orc) (k : Nat) (e : Eff) (o : AOper) : Frame (stepE (σ := σ) Φ k e o) (Rd o e) (Wr o e) := by
  intro s r h
  unfold stepE at h
  split at h
  · rename_i hp
    unfold stepA at h
    split at h
    · rename_i hw
      obtain ⟨q, hq, hr⟩ := Option.map_eq_some_iff.1 h
      obtain ⟨v, s1⟩ := q
      simp only at hr
      subst hr
      have key := fun (s' : St σ) (hR : ∀ l, Rd o e l → eqAt s s' l) => act_frame (s' := s') hp (fun x hx => ev_congr (fun i hi => hR (.env i) hi) hx) (fun i hi => hR (.var i) hi) (fun i hi => hR (.tok i) hi) hq
      refine ⟨?_, fun s' hx hR => ?_⟩
      · obtain ⟨⟨k1, k2, k3, k4⟩, _⟩ := key s (fun l _ => eqAt.refl _ _)
        refine ⟨put_x.trans k1, fun l hl => ?_⟩
        refine eqAt.trans ?_ (put_loc fun i hi hd => hl (by rw [hi]; exact hd))
        cases l with
        | env i => exact congrFun k2 i
        | var i => exact k3 i hl
        | tok i => exact k4 i hl
      · obtain ⟨⟨k1, k2, k3, k4⟩, s1', m1, m2, m3, m4, m5, m6, m7⟩ := key s' hR
        have hs : ∀ i, i ∈ o.slots → s'.env i = s.env i := fun i hi => hR (.env i) hi
        refine ⟨s1'.put o.dst v, ?_, put_x.trans m2, fun l hl => ?_, fun l hl => ?_⟩
        · unfold stepE
          rw [if_pos ((eff_congr hs).trans hp)]
          unfold stepA
          rw [wantedA_congr hs, hw]
          simp [m1]
        · cases l with
          | env i => exact put_env hl
          | var i => exact ((put_loc (fun _ h => by cases h)).symm.trans (m4 i hl)).trans (put_loc fun _ h => by cases h)
          | tok i => exact ((put_loc (fun _ h => by cases h)).symm.trans (m5 i hl)).trans (put_loc fun _ h => by cases h)
        · refine eqAt.trans ?_ (put_loc fun i hi hd => hl (by rw [hi]; exact hd))
          cases l with
          | env i => exact congrFun m3 i
          | var i => exact m6 i hl
          | tok i => exact m7 i hl
    · rename_i hw
      cases h
      refine ⟨⟨put_x, fun l hl => put_loc fun i hi hd => hl (by rw [hi]; exact hd)⟩, fun s' hx hR => ?_⟩
      have hs : ∀ i, i ∈ o.slots → s'.env i = s.env i := fun i hi => hR (.env i) hi
      refine ⟨s'.put o.dst undefA, ?_, put_x, fun l hl => ?_, fun l hl => put_loc fun i hi hd => hl (by rw [hi]; exact hd)⟩
      · unfold stepE
        rw [if_pos ((eff_congr hs).trans hp)]
        unfold stepA
        rw [wantedA_congr hs, hw]
      · cases l with
        | env i => exact put_env hl
        | var i =>
          refine ((put_loc (fun _ h => by cases h)).symm.trans (hR (.var i) (.inl ?_))).trans (put_loc fun _ h => by cases h)
          have hl' : i ∈ e.wr := hl
          rw [← hp] at hl' ⊢
          exact eff_sub _ _ _ i hl'
        | tok i => exact ((put_loc (fun _ h => by cases h)).symm.trans (hR (.tok i) hl)).trans (put_loc fun _ h => by cases h)
    · cases h
  · cases h

/-! ### which operations do not meet -/
def meets (l : List Nat) : Option Nat → Bool
  | some d => l.contains d
  | none => false
/-- x (first in the text) and y may be exchanged. -/
def apart (x : AOper) (ex : Eff) (y : AOper) (ey : Eff) : Bool :=
  !meets y.slots x.dst && !meets x.slots y.dst && !(x.dst.isSome && x.dst == y.dst) &&
  (ex.wr.all (fun i => !ey.rd.contains i && !ey.wr.contains i && !ey.all) && ey.wr.all (fun i => !ex.rd.contains i && !ex.all) && ex.tk.all (fun i => !ey.tk.contains i))
theorem apart_spec {x y : AOper} {ex ey : Eff} (h : apart x ex y ey = true) : (∀ l, Wr x ex l → ¬ Rd y ey l ∧ ¬ Wr y ey l) ∧ ∀ l, Wr y ey l → ¬ Rd x ex l := by
  simp only [apart, Bool.and_eq_true, Bool.not_eq_true'] at h
  obtain ⟨⟨⟨h1, h2⟩, h3⟩, ⟨h4, h5⟩, h6⟩ := h
  simp only [List.all_eq_true, Bool.and_eq_true, Bool.not_eq_true', List.contains_eq_mem, decide_eq_false_iff_not] at h4 h5 h6
  refine ⟨fun l hl => ?_, fun l hl => ?_⟩
  · cases l with
    | env i =>
      simp only [Wr] at hl
      simp only [meets, hl] at h1
      simp only [hl] at h3
      refine ⟨fun hr => ?_, fun hw => ?_⟩
      · simp only [Rd] at hr; simp [hr] at h1
      · simp only [Wr] at hw; simp [hw] at h3
    | var i =>
      obtain ⟨⟨a1, a2⟩, a3⟩ := h4 i hl
      refine ⟨fun hr => ?_, a2⟩
      rcases hr with hr | hr
      · exact a1 hr
      · rw [a3] at hr; cases hr
    | tok i => exact ⟨h6 i hl, h6 i hl⟩
  · cases l with
    | env i =>
      simp only [Wr] at hl
      simp only [meets, hl] at h2
      intro hr
      simp only [Rd] at hr
      simp [hr] at h2
    | var i =>
      obtain ⟨a1, a2⟩ := h5 i hl
      rintro (hr | hr)
      · exact a1 hr
      · rw [a2] at hr; cases hr
    | tok i => exact fun hr => h6 i hr hl

/-! ### orders -/
def runG (G : Nat → St σ → Option (St σ)) : List Nat → St σ → Option (St σ)
  | [], s => some s
  | i :: r, s => match G i s with | some s1 => runG G r s1 | none => none
theorem runG_move {G : Nat → St σ → Option (St σ)} {i : Nat} {post : List Nat} {t : St σ} : ∀ (pre : List Nat) (s : St σ), (∀ j, j ∈ pre → ∀ s s1 s2, G j s = some s1 → G i s1 = some s2 → ∃ s1', G i s = some s1' ∧ G j s1' = some s2) → runG G (pre ++ i :: post) s = some t → runG G (i :: (pre ++ post)) s = some t
  | [], s, _, h => h
  | j :: pre, s, hp, h => by
    simp only [List.cons_append, runG] at h
    split at h
    · rename_i s1 e1
      have h' := runG_move pre s1 (fun k hk => hp k (by simp [hk])) h
      simp only [runG] at h'
      split at h'
      · rename_i s2 e2
        obtain ⟨s1', f1, f2⟩ := hp j (by simp) s s1 s2 e1 e2
        simp only [List.cons_append, runG, f1, f2]
        exact h'
      · cases h'
    · cases h

def dirs (ops : Array Oper) (i : Nat) : List Nat :=
  match ops[i]? with
  | some o => (o.after.toList.filter (Region.binds .any)).map (·.on)
  | none => []
def addAll (l : List Nat) : List Nat → List Nat
  | [] => l
  | x :: xs => if l.contains x then addAll l xs else addAll (x :: l) xs
/-- What comes before each operation, by one way or more. -/
def befs (ops : Array Oper) : List (List Nat) :=
  (List.range ops.size).foldl (fun acc i => acc ++ [addAll [] (dirs ops i ++ (dirs ops i).flatMap fun k => acc.getD k [])]) []
def befOk (ops : Array Oper) (bef : List (List Nat)) : Bool :=
  (List.range ops.size).all fun i => (dirs ops i).all (fun k => decide (k < i)) && (bef.getD i []).all fun j => (dirs ops i).contains j || (dirs ops i).any fun k => (bef.getD k []).contains j
def noEff : Eff := ⟨[], [], [], false⟩
def pairsOk (al : List AOper) (lg : List Eff) (bef : List (List Nat)) : Bool :=
  (List.range al.length).all fun i => (List.range i).all fun j => (bef.getD i []).contains j || (match al[j]?, al[i]? with | some x, some y => apart x (lg.getD j noEff) y (lg.getD i noEff) | _, _ => false)

theorem befOk_spec {ops : Array Oper} {bef : List (List Nat)} (h : befOk ops bef = true) {i : Nat} (hi : i < ops.size) : (∀ k, k ∈ dirs ops i → k < i) ∧ ∀ j, j ∈ bef.getD i [] → j ∈ dirs ops i ∨ ∃ k, k ∈ dirs ops i ∧ j ∈ bef.getD k [] := by
  unfold befOk at h
  rw [List.all_eq_true] at h
  have := h i (List.mem_range.2 hi)
  simp only [Bool.and_eq_true, List.all_eq_true, decide_eq_true_eq, Bool.or_eq_true, List.contains_eq_mem, List.any_eq_true] at this
  exact this
theorem pairsOk_spec {al : List AOper} {lg : List Eff} {bef : List (List Nat)} (h : pairsOk al lg bef = true) {i j : Nat} {x y : AOper} (hj : j < i) (hx : al[j]? = some x) (hy : al[i]? = some y) :
    j ∈ bef.getD i [] ∨ apart x (lg.getD j noEff) y (lg.getD i noEff) = true := by
  unfold pairsOk at h
  rw [List.all_eq_true] at h
  have := h i (List.mem_range.2 (List.getElem?_eq_some_iff.1 hy).1)
  rw [List.all_eq_true] at this
  have := this j (List.mem_range.2 hj)
  rw [hx, hy] at this
  simp only [Bool.or_eq_true, List.contains_eq_mem, decide_eq_true_eq] at this
  exact this

/-- What is listed, and what is left. -/
structure Left (ops : Array Oper) (listed : Array Bool) (rem : List Nat) : Prop where
  size : listed.size = ops.size
  sorted : rem.Pairwise (· < ·)
  mem : ∀ i, i ∈ rem ↔ i < ops.size ∧ listed.getD i true = false
  closed : ∀ i, i < ops.size → listed.getD i false = true → ∀ k, k ∈ dirs ops i → listed.getD k false = true

theorem getD_tf {l : Array Bool} {i : Nat} (h : i < l.size) : l.getD i true = l.getD i false := by simp [Array.getD_eq_getD_getElem?, h]
theorem Left.bef {ops : Array Oper} {bef : List (List Nat)} {listed : Array Bool} {rem : List Nat} (hb : befOk ops bef = true) (h : Left ops listed rem) : ∀ (n i : Nat), i < n → i < ops.size → (∀ k, k ∈ dirs ops i → listed.getD k false = true) → ∀ j, j ∈ bef.getD i [] → listed.getD j false = true
  | 0, i, hn, hi, hd, j, hj => absurd hn (Nat.not_lt_zero _)
  | n + 1, i, hn, hi, hd, j, hj => by
    obtain ⟨h1, h2⟩ := befOk_spec hb hi
    rcases h2 j hj with hk | ⟨k, hk, hjk⟩
    · exact hd j hk
    · have hki := h1 k hk
      exact Left.bef hb h n k (by omega) (by omega) (h.closed k (by omega) (hd k hk)) j hjk
theorem ready_dirs {ops : Array Oper} {listed : Array Bool} {i : Nat} (h : i ∈ Region.ready .any ops listed) : listed.getD i true = false ∧ i < ops.size ∧ ∀ k, k ∈ dirs ops i → listed.getD k false = true := by
  obtain ⟨h1, o, ho, h2⟩ := mem_ready.1 h
  refine ⟨h1, (Array.getElem?_eq_some_iff.1 ho).1, fun k hk => ?_⟩
  unfold dirs at hk
  rw [ho] at hk
  simp only [List.mem_map, List.mem_filter] at hk
  obtain ⟨e, ⟨he, hb⟩, rfl⟩ := hk
  exact h2 e (by simpa using he) hb
theorem Left.first {ops : Array Oper} {bef : List (List Nat)} {listed : Array Bool} {i : Nat} {rem : List Nat} (hb : befOk ops bef = true) (h : Left ops listed (i :: rem)) : i ∈ Region.ready .any ops listed := by
  obtain ⟨hi, hl⟩ := (h.mem i).1 (by simp)
  refine mem_ready.2 ⟨hl, ops[i], Array.getElem?_eq_getElem hi, fun e he hbd => ?_⟩
  have hk : e.on ∈ dirs ops i := by
    unfold dirs
    rw [Array.getElem?_eq_getElem hi]
    simp only [List.mem_map, List.mem_filter]
    exact ⟨e, ⟨by simpa using he, hbd⟩, rfl⟩
  have hlt := (befOk_spec hb hi).1 _ hk
  cases e' : listed.getD e.on false with
  | true => rfl
  | false =>
    have hm : e.on ∈ i :: rem := (h.mem e.on).2 ⟨by omega, by rw [getD_tf (by rw [h.size]; omega)]; exact e'⟩
    rcases List.mem_cons.1 hm with he | he
    · omega
    · have := (List.pairwise_cons.1 h.sorted).1 _ he
      omega
theorem Left.next {ops : Array Oper} {bef : List (List Nat)} {listed : Array Bool} {i : Nat} {pre post : List Nat} (h : Left ops listed (pre ++ i :: post)) (hd : ∀ k, k ∈ dirs ops i → listed.getD k false = true) : Left ops (listed.setIfInBounds i true) (pre ++ post) := by
  obtain ⟨hi, hl⟩ := (h.mem i).1 (by simp)
  have hs := h.sorted
  have hnot : i ∉ pre ++ post := by
    intro hm
    rcases List.mem_append.1 hm with hm | hm
    · have := (List.pairwise_append.1 hs).2.2 i hm i (by simp)
      omega
    · have := (List.pairwise_cons.1 (List.pairwise_append.1 hs).2.1).1 i hm
      omega
  refine ⟨by simp [h.size], ?_, fun j => ?_, fun j hj hlj k hk => ?_⟩
  · exact hs.sublist (List.Sublist.append (List.Sublist.refl _) (List.sublist_cons_self _ _))
  · have hm := h.mem j
    have hmem : j ∈ pre ++ i :: post ↔ j = i ∨ j ∈ pre ++ post := by simp only [List.mem_append, List.mem_cons]; exact ⟨fun q => by rcases q with q | q | q <;> simp [q], fun q => by rcases q with q | q | q <;> simp [q]⟩
    by_cases hji : j = i
    · subst hji
      have : (listed.setIfInBounds j true).getD j true = true := by simp [Array.getD_eq_getD_getElem?, h.size, hi]
      rw [this]
      simp [hnot]
    · rw [getD_set_ne _ (Ne.symm hji)]
      rw [← hm, hmem]
      simp [hji]
  · by_cases hji : j = i
    · subst hji
      exact getD_set_true (hd k hk)
    · rw [getD_set_ne _ (Ne.symm hji)] at hlj
      exact getD_set_true (h.closed j hj hlj k hk)

section
variable {P : Program} {T : List Nat} {c : Cx σ}
theorem compL_get {ops : Array Oper} : ∀ {l : List Oper} {al : List AOper}, compL P T c.nt ops l = some al → al.length = l.length ∧ ∀ (i : Nat) (o : Oper), l[i]? = some o → ∃ ao, al[i]? = some ao ∧ compO P T c.nt ops o = some ao
  | [], al, h => by simp only [compL, Option.some.injEq] at h; subst h; simp
  | o :: l, al, h => by
    simp only [compL] at h
    split at h
    · rename_i ao al' h1 h2
      injection h with h
      subst h
      obtain ⟨k1, k2⟩ := compL_get h2
      refine ⟨by simp [k1], fun i o' hi => ?_⟩
      cases i with
      | zero => simp at hi; subst hi; exact ⟨ao, by simp, h1⟩
      | succ i => simpa using k2 i o' (by simpa using hi)
    · cases h

/-- All orders lead to the state to which the order of the text leads. -/
theorem any_sim {ops : Array Oper} {al : List AOper} {bef : List (List Nat)} {Q : Exit → Act → World → Prop} (hcl : compL P T c.nt ops ops.toList = some al) (hb : befOk ops bef = true)
    {Φs : Nat → Orc} {k : Nat} {lg : List Eff} (hΦ : ∀ i, Specs σ P T (Φs i)) (hgr : c.ground P) (hp : pairsOk al lg bef = true) {t : St σ} {ob : Nat → Value → Prop} (hQ : ∀ a w ow τ, FR c t a w ow τ ob → Q .normal a w) :
    ∀ (fuel : Nat) (listed : Array Bool) (rem : List Nat) (s : St σ) (a : Act) (w : World) (ow : Nat → Own) (τ : Nat → Nat), rem.length ≤ fuel → Left ops listed rem →
      runG (fun i s => match al[i]? with | some o => stepE (Φs i) k (lg.getD i noEff) o s | none => none) rem s = some t → FR c s a w ow τ ob → wpAny P .any ops Q fuel listed a w
  | 0, listed, rem, s, a, w, ow, τ, hf, hl, hr, hF => by
    have : rem = [] := List.length_eq_zero_iff.1 (by omega)
    subst this
    simp only [runG, Option.some.injEq] at hr
    subst hr
    refine ⟨?_, hQ a w ow τ hF⟩
    rw [List.eq_nil_iff_forall_not_mem]
    intro i hi
    obtain ⟨h1, h2, _⟩ := ready_dirs hi
    have := (hl.mem i).2 ⟨h2, h1⟩
    simp at this
  | fuel + 1, listed, rem, s, a, w, ow, τ, hf, hl, hr, hF => by
    refine ⟨fun hnil => ?_, fun i hi => ?_⟩
    · cases rem with
      | nil =>
        simp only [runG, Option.some.injEq] at hr
        subst hr
        exact hQ a w ow τ hF
      | cons i rem =>
        have := hl.first hb
        rw [hnil] at this
        simp at this
    · obtain ⟨h1, h2, h3⟩ := ready_dirs hi
      have hm := (hl.mem i).2 ⟨h2, h1⟩
      obtain ⟨pre, post, rfl⟩ := List.append_of_mem hm
      have ho : ops[i]? = some ops[i] := Array.getElem?_eq_getElem h2
      obtain ⟨hlen, hget⟩ := compL_get hcl
      obtain ⟨ao, hao, hco⟩ := hget i ops[i] (by simpa using ho)
      have hr' := runG_move pre s (fun j hj s s1 s2 e1 e2 => by
        have hji : j < i := (List.pairwise_append.1 hl.sorted).2.2 j hj i (by simp)
        obtain ⟨hjs, hjl⟩ := (hl.mem j).1 (by simp [hj])
        obtain ⟨aj, haj, _⟩ := hget j ops[j] (by simp [hjs])
        simp only [haj] at e1
        simp only [hao] at e2
        simp only [haj, hao]
        rcases pairsOk_spec hp hji haj hao with hbf | hap
        · have := hl.bef hb (i + 1) i (by omega) h2 h3 j hbf
          rw [getD_tf (by rw [hl.size]; exact hjs)] at hjl
          rw [hjl] at this
          cases this
        · obtain ⟨w1, w2⟩ := apart_spec hap
          exact swap (frame_step _ _ _ _) (frame_step _ _ _ _) w1 w2 e1 e2) hr
      simp only [runG, hao] at hr'
      split at hr'
      · rename_i s1 e1
        unfold stepE at e1
        split at e1
        · unfold wpOp
          rw [ho]
          simp only []
          refine step_sim (hΦ i) hgr hco e1 hF fun a' w' ow' τ' hF' => ?_
          exact any_sim hcl hb hΦ hgr hp hQ fuel _ (pre ++ post) s1 a' w' ow' τ' (by simp at hf ⊢; omega) (hl.next (bef := bef) h3) hr' hF'
        · cases e1
      · cases hr'
end
end Go.Av

namespace Go.Av
open Go.RowKit (Below)
variable {σ : Type}

def wDraw (S : Sys σ) (st : St σ) : List AOper → List Eff → (St σ → List Eff → Prop) → Prop
  | [], lg, K => K st lg.reverse
  | o :: rest, lg, K => wStep S false st o fun s => wDraw S s rest (eff (S.off + o.dst.getD 0) st o.op :: lg) K

/-- The code read without types. -/
def compC (P : Program) (T : List Nat) (nt : Nat) : Code → Option ACode
  | .skip => some .skip
  | .region _ ops false => (compLH P T nt ops ops.toList).map .region
  | .region _ ops true => if (P.follows .mixedOrders || !Region.departs ops) && befOk ops (befs ops) then (compL P T nt ops ops.toList).map (.draw · (befs ops)) else none
  | .seq a b => match compC P T nt a, compC P T nt b with | some x, some y => some (.seq x y) | _, _ => none
  | .cond c x y => match compC P T nt x, compC P T nt y with | some x, some y => some (.cond c x y) | _, _ => none
  | .block id x => (compC P T nt x).map (.block id)
  | .loop x => (compC P T nt x).map .loop
  | .exit id => some (.exit id)
  | .ret => some .ret
  | _ => none

/-- Where code may end. -/
def Post (c : Cx σ) (N Rr : St σ → Prop) (E : Nat → St σ → Prop) : Exit → Act → World → Prop := fun e a' w' =>
  match e with
  | .normal => ∃ st' ow' τ' ob', N st' ∧ FR c st' a' w' ow' τ' ob'
  | .ret => ∃ st' ow' τ' ob', Rr st' ∧ FR c st' a' w' ow' τ' ob'
  | .exit id => ∃ st' ow' τ' ob', E id st' ∧ FR c st' a' w' ow' τ' ob'
  | _ => False
/-- From an abstract state the code comes to its end (N), to a return (Rr), out of a block (E). -/
def AW (S : Sys σ) (ac : ACode) (st : St σ) (N Rr : St σ → Prop) (E : Nat → St σ → Prop) : Prop :=
  ∀ (c : Cx σ), S.Γ c → ∀ code, compC S.P S.T c.nt code = some ac → ∀ a w ow τ ob, FR c st a w ow τ ob → code.wp S.P (Post c N Rr E) a w

/-- The condition of code; of a loop it is left standing. -/
def wCode (S : Sys σ) : ACode → St σ → (St σ → Prop) → (St σ → Prop) → (Nat → St σ → Prop) → Prop
  | .skip, st, N, _, _ => N st
  | .region ops, st, N, _, _ => wOps S st ops N
  | .draw ops bef, st, N, _, _ => wDraw S st ops [] fun s lg => pairsOk ops lg bef = true ∧ N s
  | .seq a b, st, N, Rr, E => wCode S a st (fun s => wCode S b s N Rr E) Rr E
  | .cond cd x y, st, N, Rr, E => match st.ev cd with | .imm (.bool t) => (t = true → wCode S x st N Rr E) ∧ (t = false → wCode S y st N Rr E) | _ => False
  | .block id x, st, N, Rr, E => wCode S x st N Rr fun i s => if i = id then N s else E i s
  | .loop x, st, N, Rr, E => AW S (.loop x) st N Rr E
  | .exit id, st, _, _, E => E id st
  | .ret, st, _, Rr, _ => Rr st

section
variable {S : Sys σ} {N Rr : St σ → Prop} {E : Nat → St σ → Prop} {P : Program} {T : List Nat} {nt : Nat}
theorem compC_skip {code : Code} (h : compC P T nt code = some .skip) : code = .skip := by
  cases code with
  | region id ops draw => cases draw <;> simp [compC] at h
  | seq x y => simp only [compC] at h; split at h <;> cases h
  | cond x y z => simp only [compC] at h; split at h <;> cases h
  | _ => first | rfl | (simp [compC] at h)
theorem compC_region {code : Code} {al : List AOper} (h : compC P T nt code = some (.region al)) : ∃ id ops, code = .region id ops false ∧ compLH P T nt ops ops.toList = some al := by
  cases code with
  | region id ops draw =>
    cases draw with
    | false => simp only [compC, Option.map_eq_some_iff] at h; obtain ⟨x, hx, hy⟩ := h; injection hy with hy; subst hy; exact ⟨_, _, rfl, hx⟩
    | true => simp [compC] at h
  | seq x y => simp only [compC] at h; split at h <;> cases h
  | cond x y z => simp only [compC] at h; split at h <;> cases h
  | _ => simp [compC] at h
theorem compC_draw {code : Code} {al : List AOper} {bef : List (List Nat)} (h : compC P T nt code = some (.draw al bef)) : ∃ id ops, code = .region id ops true ∧ bef = befs ops ∧ (P.follows .mixedOrders || !Region.departs ops) = true ∧ befOk ops bef = true ∧ compL P T nt ops ops.toList = some al := by
  cases code with
  | region id ops draw =>
    cases draw with
    | false => simp [compC] at h
    | true =>
      simp only [compC] at h
      split at h
      · rename_i hc
        simp only [Bool.and_eq_true] at hc
        obtain ⟨x, hx, hy⟩ := Option.map_eq_some_iff.1 h
        injection hy with h1 h2
        subst h1; subst h2
        exact ⟨_, _, rfl, rfl, hc.1, hc.2, hx⟩
      · cases h
  | seq x y => simp only [compC] at h; split at h <;> cases h
  | cond x y z => simp only [compC] at h; split at h <;> cases h
  | _ => simp [compC] at h
theorem compC_seq {code : Code} {x y : ACode} (h : compC P T nt code = some (.seq x y)) : ∃ cx cy, code = .seq cx cy ∧ compC P T nt cx = some x ∧ compC P T nt cy = some y := by
  cases code with
  | region id ops draw => cases draw <;> simp [compC] at h
  | seq a b =>
    simp only [compC] at h
    split at h
    · rename_i p q h1 h2; injection h with h; injection h with e1 e2; subst e1; subst e2; exact ⟨_, _, rfl, h1, h2⟩
    · cases h
  | cond x y z => simp only [compC] at h; split at h <;> cases h
  | _ => simp [compC] at h
theorem compC_cond {code : Code} {cd : Operand} {x y : ACode} (h : compC P T nt code = some (.cond cd x y)) : ∃ cx cy, code = .cond cd cx cy ∧ compC P T nt cx = some x ∧ compC P T nt cy = some y := by
  cases code with
  | region id ops draw => cases draw <;> simp [compC] at h
  | seq a b => simp only [compC] at h; split at h <;> cases h
  | cond z a b =>
    simp only [compC] at h
    split at h
    · rename_i p q h1 h2; injection h with h; injection h with e0 e1 e2; subst e0; subst e1; subst e2; exact ⟨_, _, rfl, h1, h2⟩
    · cases h
  | _ => simp [compC] at h
theorem compC_block {code : Code} {id : Nat} {x : ACode} (h : compC P T nt code = some (.block id x)) : ∃ cx, code = .block id cx ∧ compC P T nt cx = some x := by
  cases code with
  | region id ops draw => cases draw <;> simp [compC] at h
  | seq a b => simp only [compC] at h; split at h <;> cases h
  | cond z a b => simp only [compC] at h; split at h <;> cases h
  | block i a => simp only [compC, Option.map_eq_some_iff] at h; obtain ⟨q, hq, hy⟩ := h; injection hy with e1 e2; subst e1; subst e2; exact ⟨_, rfl, hq⟩
  | _ => simp [compC] at h
theorem compC_loop {code : Code} {x : ACode} (h : compC P T nt code = some (.loop x)) : ∃ cx, code = .loop cx ∧ compC P T nt cx = some x := by
  cases code with
  | region id ops draw => cases draw <;> simp [compC] at h
  | seq a b => simp only [compC] at h; split at h <;> cases h
  | cond z a b => simp only [compC] at h; split at h <;> cases h
  | loop a => simp only [compC, Option.map_eq_some_iff] at h; obtain ⟨q, hq, hy⟩ := h; injection hy with e1; subst e1; exact ⟨_, rfl, hq⟩
  | _ => simp [compC] at h
theorem compC_exit {code : Code} {id : Nat} (h : compC P T nt code = some (.exit id)) : code = .exit id := by
  cases code with
  | region id ops draw => cases draw <;> simp [compC] at h
  | seq a b => simp only [compC] at h; split at h <;> cases h
  | cond z a b => simp only [compC] at h; split at h <;> cases h
  | exit i => simp only [compC, Option.some.injEq, ACode.exit.injEq] at h; rw [h]
  | _ => simp [compC] at h
theorem compC_ret {code : Code} (h : compC P T nt code = some .ret) : code = .ret := by
  cases code with
  | region id ops draw => cases draw <;> simp [compC] at h
  | seq a b => simp only [compC] at h; split at h <;> cases h
  | cond z a b => simp only [compC] at h; split at h <;> cases h
  | ret => rfl
  | _ => simp [compC] at h

/-- The steps that the text's order makes. -/
theorem wDraw_run {K : St σ → List Eff → Prop} : ∀ (ops : List AOper) (lg : List Eff) (st : St σ), wDraw S st ops lg K →
    ∃ (Φs : Nat → Orc) (es : List Eff) (t : St σ), (∀ i, Specs σ S.P S.T (Φs i)) ∧ es.length = ops.length ∧ K t (lg.reverse ++ es) ∧ ∀ k, runG (fun i s => match ops[i - k]? with | some o => stepE (Φs (i - k)) S.off (es.getD (i - k) noEff) o s | none => none) (List.range' k ops.length) st = some t
  | [], lg, st, h => ⟨fun _ => noCalls, [], st, fun _ => specs_no _ _, rfl, by simpa [wDraw] using h, fun k => rfl⟩
  | o :: ops, lg, st, h => by
    simp only [wDraw] at h
    obtain ⟨Φ, hΦ, st1, h1, h2⟩ := wStep_step h
    obtain ⟨Φs, es, t, k1, k2, k3, k4⟩ := wDraw_run ops _ st1 h2
    refine ⟨fun i => if i = 0 then Φ else Φs (i - 1), eff (S.off + o.dst.getD 0) st o.op :: es, t, fun i => ?_, by simp [k2], by simpa using k3, fun k => ?_⟩
    · cases i with
      | zero => exact hΦ
      | succ i => exact k1 i
    · simp only [List.length_cons, List.range'_succ, runG]
      have e0 : (match (o :: ops)[k - k]? with | some o' => stepE ((fun i => if i = 0 then Φ else Φs (i - 1)) (k - k)) S.off ((eff (S.off + o.dst.getD 0) st o.op :: es).getD (k - k) noEff) o' st | none => none) = some st1 := by
        simp [stepE, h1]
      rw [e0]
      simp only []
      rw [← k4 (k + 1)]
      have : ∀ (l : List Nat) (s : St σ), (∀ i, i ∈ l → k + 1 ≤ i) → runG (fun i s => match (o :: ops)[i - k]? with | some o' => stepE ((fun i => if i = 0 then Φ else Φs (i - 1)) (i - k)) S.off ((eff (S.off + o.dst.getD 0) st o.op :: es).getD (i - k) noEff) o' s | none => none) l s = runG (fun i s => match ops[i - (k + 1)]? with | some o => stepE (Φs (i - (k + 1))) S.off (es.getD (i - (k + 1)) noEff) o s | none => none) l s := by
        intro l
        induction l with
        | nil => intro s _; rfl
        | cons i l ih =>
          intro s hl
          have hi := hl i (by simp)
          obtain ⟨m, rfl⟩ : ∃ m, i = m + (k + 1) := ⟨i - (k + 1), by omega⟩
          have e1 : m + (k + 1) - k = m + 1 := by omega
          have e2 : m + (k + 1) - (k + 1) = m := by omega
          simp only [runG, e1, e2, List.getElem?_cons_succ, List.getD_cons_succ, Nat.add_one_ne_zero, if_false, Nat.add_sub_cancel]
          split
          · exact ih _ fun j hj => hl j (by simp [hj])
          · rfl
      exact this _ _ fun i hi => by have := List.mem_range'.1 hi; obtain ⟨j, hj, e⟩ := this; omega

theorem FR.drew' {c : Cx σ} {st : St σ} {a : Act} {w : World} {ow : Nat → Own} {τ : Nat → Nat} {ob : Nat → Value → Prop} (h : FR c st a w ow τ ob) : FR c st a { w with drawn := w.drawn + 1 } ow τ ob := h.drew

theorem AW_of_wCode : ∀ (ac : ACode) (st : St σ) (N Rr : St σ → Prop) (E : Nat → St σ → Prop), wCode S ac st N Rr E → AW S ac st N Rr E
  | .skip, st, N, Rr, E, h, c, hΓ, code, hco, a, w, ow, τ, ob, hF => by
    rw [compC_skip hco]
    exact wp_skip ⟨st, ow, τ, ob, h, hF⟩
  | .region al, st, N, Rr, E, h, c, hΓ, code, hco, a, w, ow, τ, ob, hF => by
    obtain ⟨id, ops, rfl, hcl⟩ := compC_region hco
    refine wp_region ?_
    rw [List.range_eq_range']
    simpa using wOps_sim hΓ ops.toList 0 al st a w ow τ ob rfl hcl h hF fun st' a' w' ow' τ' ob' hN hF' => ⟨st', ow', τ', ob', hN, hF'⟩
  | .draw al bef, st, N, Rr, E, h, c, hΓ, code, hco, a, w, ow, τ, ob, hF => by
    obtain ⟨id, ops, rfl, hb, hmx, hbo, hcl⟩ := compC_draw hco
    obtain ⟨Φs, es, t, hΦ, hes, ⟨hpr, hN⟩, hrun⟩ := wDraw_run al [] st h
    refine wp_region_draw fun tt => ?_
    unfold Region.schedule
    rw [if_pos hmx]
    unfold Region.linearise
    refine wpAny_sound ops.size tt _ a _ ?_
    have hlen : al.length = ops.size := by simpa using (compL_get (c := { base := 0, w0 := default, G0 := fun _ => False, E0 := fun _ => False, nt := c.nt, sv := c.sv, rep := c.rep, stable := c.stable, g0 := fun _ h => h.elim }) hcl).1
    have hrun0 := hrun 0
    simp only [Nat.sub_zero] at hrun0
    refine any_sim (c := c) hcl hbo hΦ (S.gr c hΓ) hpr (fun a' w' ow' τ' hF' => ⟨t, ow', τ', ob, hN, hF'⟩) ops.size _ (List.range' 0 al.length) st a _ ow τ (by simp [hlen]) ?_ hrun0 hF.drew'
    refine ⟨by simp, List.pairwise_lt_range', fun i => ?_, fun i hi hl => ?_⟩
    · rw [List.mem_range']
      constructor
      · rintro ⟨j, hj, rfl⟩
        refine ⟨by omega, ?_⟩
        simp [Array.getD_eq_getD_getElem?, Array.getElem?_replicate, show j < ops.size by omega]
      · rintro ⟨hi, _⟩
        exact ⟨i, by omega, by omega⟩
    · simp [Array.getD_eq_getD_getElem?, Array.getElem?_replicate, hi] at hl
  | .seq x y, st, N, Rr, E, h, c, hΓ, code, hco, a, w, ow, τ, ob, hF => by
    obtain ⟨cx, cy, rfl, hx, hy⟩ := compC_seq hco
    refine wp_seq (wp_mono (AW_of_wCode x st _ _ _ h c hΓ cx hx a w ow τ ob hF) ?_)
    intro e a' w' q
    cases e with
    | normal => obtain ⟨s, o', t', ob', hs, hf⟩ := q; exact AW_of_wCode y s _ _ _ hs c hΓ cy hy a' w' o' t' ob' hf
    | _ => exact q
  | .cond cd x y, st, N, Rr, E, h, c, hΓ, code, hco, a, w, ow, τ, ob, hF => by
    obtain ⟨cx, cy, rfl, hx, hy⟩ := compC_cond hco
    simp only [wCode] at h
    split at h
    · rename_i t e
      have hR := R_ev hF cd
      rw [e] at hR
      simp only [R] at hR
      refine wp_cond hR.1 ?_
      cases t
      · exact AW_of_wCode y st _ _ _ (h.2 rfl) c hΓ cy hy a w ow τ ob hF
      · exact AW_of_wCode x st _ _ _ (h.1 rfl) c hΓ cx hx a w ow τ ob hF
    · exact h.elim
  | .block id x, st, N, Rr, E, h, c, hΓ, code, hco, a, w, ow, τ, ob, hF => by
    obtain ⟨cx, rfl, hx⟩ := compC_block hco
    refine wp_block (wp_mono (AW_of_wCode x st _ _ _ h c hΓ cx hx a w ow τ ob hF) ?_)
    intro e a' w' q
    cases e with
    | normal => exact q
    | ret => exact q
    | exit i =>
      obtain ⟨s, o', t', ob', hs, hf⟩ := q
      by_cases hi : i = id
      · rw [if_pos hi] at hs
        simp only [Exit.inBlock, hi, if_true]
        exact ⟨s, o', t', ob', hs, hf⟩
      · rw [if_neg hi] at hs
        simp only [Exit.inBlock, hi, if_false]
        exact ⟨s, o', t', ob', hs, hf⟩
    | _ => exact q
  | .loop x, st, N, Rr, E, h, c, hΓ, code, hco, a, w, ow, τ, ob, hF => h c hΓ code hco a w ow τ ob hF
  | .exit id, st, N, Rr, E, h, c, hΓ, code, hco, a, w, ow, τ, ob, hF => by
    rw [compC_exit hco]
    exact wp_exit ⟨st, ow, τ, ob, h, hF⟩
  | .ret, st, N, Rr, E, h, c, hΓ, code, hco, a, w, ow, τ, ob, hF => by
    rw [compC_ret hco]
    exact wp_ret ⟨st, ow, τ, ob, h, hF⟩

/-- A loop: I n holds at the head of each round, n goes down. -/
theorem AW.loop {x : ACode} {st : St σ} (I : Nat → St σ → Prop) (n : Nat) (h0 : I n st) (h : ∀ n s, I n s → wCode S x s (fun s' => ∃ n', n' < n ∧ I n' s') Rr E) : AW S (.loop x) st N Rr E := by
  intro c hΓ code hco a w ow τ ob hF
  obtain ⟨cx, rfl, h1⟩ := compC_loop hco
  refine wp_loop_ghost (fun n a w => ∃ s ow τ ob, I n s ∧ FR c s a w ow τ ob) n ⟨st, ow, τ, ob, h0, hF⟩ ?_
  rintro m a' w' ⟨s, ow', τ', ob', hI, hF'⟩
  refine wp_mono (AW_of_wCode x s _ _ _ (h m s hI) c hΓ cx h1 a' w' ow' τ' ob' hF') ?_
  intro e a'' w'' q
  cases e with
  | normal => obtain ⟨s', o', t', ob'', ⟨n', hn, hs⟩, hf⟩ := q; exact ⟨n', hn, s', o', t', ob'', hs, hf⟩
  | _ => exact q
end

/-- A function without types: its slots, its code, where its results lie. -/
structure AFun where
  nt : Nat
  code : ACode
  res : List (Nat × Option (Bool × Nat))

def compRes (P : Program) : List ResultVar → Option (List (Nat × Option (Bool × Nat)))
  | [] => some []
  | .tmp t :: rest => (compRes P rest).map ((t, none) :: ·)
  | .cell a t :: rest =>
    match P.info? t, P.underlying t with
    | some i, some _ => if isAggB P t || i.size == 1 then (compRes P rest).map ((a, some (isAggB P t, i.size)) :: ·) else none
    | _, _ => none
def compF (P : Program) (T : List Nat) (fn : Func) : Option AFun :=
  match fn.body with
  | some code => match compC P T fn.ntmps code, compRes P fn.results.toList with | some ac, some r => some ⟨fn.ntmps, ac, r⟩ | _, _ => none
  | none => none

def env0 (args : List AV) : Nat → AV := fun i => (args[i]?).getD (.tup [])
def st0 {σ : Type} (x : σ) (args : List AV) : St σ := ⟨env0 args, fun _ => 0, fun _ => [], fun _ => 0, fun _ => none, x⟩
/-- What lies outside: at the start nothing. -/
structure Outs (σ : Type) where
  rep : σ → (Nat → Value → Prop) → (Nat → Prop) → World → Prop
  stable : ∀ x ob E w w', rep x ob E w → (∀ b, E b → w'.heap[b]? = w.heap[b]?) → rep x ob E w'
  x0 : σ
  init : ∀ w, rep x0 (fun _ _ => False) (fun _ => False) w
def Outs.Γ {σ : Type} (O : Outs σ) (nt : Nat) : Cx σ → Prop := fun c => c.nt = nt ∧ c.rep = O.rep
def resA {σ : Type} (st : St σ) : Nat × Option (Bool × Nat) → Option AV
  | (s, none) => some (st.env s)
  | (s, some (agg, n)) =>
    match st.env s with
    | .ptr d g off => if g = st.gen d ∧ 1 ≤ g ∧ off + n ≤ (st.var d).length then AV.mk agg (((st.var d).drop off).take n) else none
    | _ => none
def resL {σ : Type} (st : St σ) : List (Nat × Option (Bool × Nat)) → Option (List AV)
  | [] => some []
  | x :: xs => match resA st x, resL st xs with | some r, some rs => some (r :: rs) | _, _ => none
def resV : List AV → AV
  | [x] => x
  | xs => .tup xs
def out {σ : Type} (st : St σ) : AV → Option AV
  | .sl sz (.own t g) rows => some (if st.tgen t = g ∧ st.top t = some rows.length then .sl sz (.own 0 0) rows else .sl sz .ro rows)
  | r => if r.weaks.pureB then some r.weaks else none
/-- The state hands back r. -/
def ends {σ : Type} (F : AFun) (r : AV) (st : St σ) : Prop := wOpt (resL st F.res) fun l => wOpt (out st (resV l)) fun r0 => r0.le r

section
variable {σ : Type} {P : Program} {T : List Nat} {Φ : Orc} {c : Cx σ} {st st' : St σ} {a : Act} {w : World} {ow : Nat → Own} {τ : Nat → Nat} {ob : Nat → Value → Prop}
theorem Rt_get {k : K} : ∀ {xs : List AV} {vs : List Value} (h : Rt k xs vs) (i : Nat) (x : AV), xs[i]? = some x → ∃ v, vs[i]? = some v ∧ R k x v
  | [], vs, h, i, x, hx => by simp at hx
  | y :: xs, vs, h, i, x, hx => by
    simp only [Rt] at h
    obtain ⟨v, r, rfl, hy, hr⟩ := h
    cases i with
    | zero => simp at hx; subst hx; exact ⟨v, by simp, hy⟩
    | succ i => simpa using Rt_get hr i x (by simpa using hx)
theorem Rt_length {k : K} : ∀ {xs : List AV} {vs : List Value}, Rt k xs vs → vs.length = xs.length
  | [], vs, h => by simp only [Rt] at h; simp [h]
  | x :: xs, vs, h => by
    simp only [Rt] at h
    obtain ⟨v, r, rfl, _, hr⟩ := h
    simp [Rt_length hr]

def resStep (tmps : Array Value) : ResultVar → Sem Value
  | .tmp t => pure (tmps.getD t undef)
  | .cell a t => do loadVar t (← asAddr (tmps.getD a undef))
theorem results_eq (fn : Func) (tmps : Array Value) : results fn tmps = (do let vs ← fn.results.mapM (resStep tmps); pure (if h : vs.size = 1 then vs[0] else .tuple vs)) := by
  unfold results
  congr 2

theorem res_run (h : FR c st a w ow τ ob) : ∀ (rs : List ResultVar) (l : List (Nat × Option (Bool × Nat))) (xs : List AV), compRes P rs = some l → resL st l = some xs → ∃ vs, (rs.mapM (resStep a.tmps)).run P w = .ok vs w ∧ Rt (Kof c st w ow τ ob) xs vs
  | [], l, xs, hc, hr => by
    simp only [compRes, Option.some.injEq] at hc
    subst hc
    simp only [resL, Option.some.injEq] at hr
    subst hr
    exact ⟨[], by simp, by simp [Rt]⟩
  | .tmp t :: rs, l, xs, hc, hr => by
    simp only [compRes] at hc
    obtain ⟨l', h1, rfl⟩ := Option.map_eq_some_iff.1 hc
    simp only [resL, resA] at hr
    split at hr
    · rename_i r xs' e1 e2
      injection hr with hr
      subst hr
      injection e1 with e1
      subst e1
      obtain ⟨vs, hv, hR⟩ := res_run h rs l' xs' h1 e2
      refine ⟨a.tmps.getD t undef :: vs, by simp [resStep, hv], ?_⟩
      simp only [Rt]
      exact ⟨_, _, rfl, h.tmps t, hR⟩
    · cases hr
  | .cell s t :: rs, l, xs, hc, hr => by
    simp only [compRes] at hc
    split at hc
    · rename_i i d hi hu
      split at hc
      · rename_i hag
        obtain ⟨l', h1, rfl⟩ := Option.map_eq_some_iff.1 hc
        simp only [resL] at hr
        split at hr
        · rename_i r xs' e1 e2
          injection hr with hr
          subst hr
          obtain ⟨vs, hv, hR⟩ := res_run h rs l' xs' h1 e2
          simp only [resA] at e1
          split at e1
          · rename_i d' g off e
            split at e1
            · rename_i hcond
              obtain ⟨hg, _, hl⟩ := hcond
              have hp := h.tmps s
              rw [e] at hp
              obtain ⟨b, cs, T', hv', hb, hvar, hheap, _, hr'⟩ := ptr_cells h hp hg
              have hlen := Rs_length hr'
              have hr2 := Rs_take i.size (Rs_drop off hr')
              have hrun := run_loadVar' (w := w) hi hu hag (b := b) (o := off) (vs := ((cs.toList.take (st.var d').length).drop off).take i.size) (by simp at hlen ⊢; omega) (var_cells hheap)
              refine ⟨ofCells (isAggB P t) (((cs.toList.take (st.var d').length).drop off).take i.size) :: vs, by simp only [List.mapM_cons, resStep, hv', asAddr, Sem.run_bind, Sem.run_pure, Result.andThen_ok, hrun, hv], ?_⟩
              simp only [Rt]
              exact ⟨_, _, rfl, R_mk e1 hr2, hR⟩
            · cases e1
          · cases e1
        · cases hr
      · cases hc
    · cases hc
theorem results_run (h : FR c st a w ow τ ob) {fn : Func} {l : List (Nat × Option (Bool × Nat))} {xs : List AV} (hc : compRes P fn.results.toList = some l) (hr : resL st l = some xs) : ∃ v, (results fn a.tmps).run P w = .ok v w ∧ R (Kof c st w ow τ ob) (resV xs) v := by
  obtain ⟨vs, hv, hR⟩ := res_run h _ l xs hc hr
  rw [results_eq]
  refine ⟨if h : vs.length = 1 then vs.toArray[0]'(by simpa using (by omega : 0 < vs.length)) else .tuple vs.toArray, ?_, ?_⟩
  · rw [Sem.run_bind, Array.mapM_eq_mapM_toList, Sem.run_map, hv]
    simp only [Result.andThen_ok, Sem.run_pure]
    congr 1
  · have hlen := Rt_length hR
    unfold resV
    split
    · rename_i x
      simp only [Rt] at hR
      obtain ⟨v, r, rfl, hx, rfl⟩ := hR
      simpa using hx
    · rename_i hne
      have : ¬ vs.length = 1 := by
        intro e
        rw [e] at hlen
        match xs, hlen with
        | [x], _ => exact hne x rfl
      rw [dif_neg this]
      unfold R
      exact ⟨_, rfl, by simpa using hR⟩
end

/-- A function that computes: its contract. -/
def sys {σ : Type} (O : Outs σ) (P : Program) (T : List Nat) (nt : Nat) (off : Nat) (th : List Nat) (fz : List (Nat × Nat × Nat)) : Sys σ := ⟨P, T, fun c => O.Γ nt c ∧ c.ground P, off, th, fz, fun _ h => h.2⟩
theorem PCall_ofA {σ : Type} {O : Outs σ} {th : List Nat} {fz : List (Nat × Nat × Nat)} {P : Program} {T : List Nat} {F : AFun} {f : FuncId} {fn : Func} {args : List AV} {r : AV} (hf : P.funcs[f]? = some fn) (hF : compF P T fn = some F) (hargs : args.length ≤ F.nt)
    (h : AW (sys O P T F.nt 0 th fz) F.code (st0 O.x0 args) (ends F r) (ends F r) (fun _ _ => False)) : PCall P f args r := by
  intro G w vs hG hgr hvs
  unfold compF at hF
  split at hF
  · rename_i code hbody
    split at hF
    · rename_i ac l hcode hres
      injection hF with hF
      subst hF
      let c : Cx σ := { base := w.heap.size, w0 := w, G0 := G, E0 := fun _ => False, nt := fn.ntmps, sv := fun _ _ => False, rep := O.rep, stable := O.stable, g0 := fun a ha => ⟨hG a ha, fun h => h⟩ }
      have hcg : c.ground P := fun g e => by
        obtain ⟨m, hm⟩ := hgr g e
        refine ⟨?_, fun h => h, m, hm⟩
        show g < w.heap.size
        simp only [World.cell?] at hm
        rcases Nat.lt_or_ge g w.heap.size with h | h
        · exact h
        · rw [Array.getElem?_eq_none h] at hm; cases hm
      have hvl := Rt_length hvs
      have hle : KLe (KG G w) (Kof c (st0 O.x0 args) w (fun _ => .free) (fun _ => 0) (fun _ _ => False)) :=
        ⟨fun p v hv => ⟨hv.1, hv.2.1, .inl hv.2.2⟩, fun _ _ h => h.elim, fun _ _ h => h.elim, fun _ _ _ _ h => h.elim, fun _ _ h => h.elim, fun _ _ _ h => h.elim, fun _ _ _ _ _ _ h => h.elim, fun _ _ h => h.elim⟩
      have hFR : FR c (st0 O.x0 args) { tmps := vs.toArray ++ Array.replicate (fn.ntmps - vs.toArray.size) undef, defers := [] } w (fun _ => .free) (fun _ => 0) (fun _ _ => False) := by
        refine ⟨rfl, ?_, Keeps.refl _ _ _, Nat.le_refl _, fun b _ hb => absurd rfl hb, ?_, (fun d b _ h => by cases h), (fun d b b' _ _ h => by cases h), (fun _ _ h => h.elim), ?_⟩
        · simp only [Array.size_append, List.size_toArray, Array.size_replicate]
          have : vs.length ≤ fn.ntmps := by rw [hvl]; exact hargs
          show _ = fn.ntmps
          omega
        · intro s
          show R _ ((args[s]?).getD (.tup [])) _
          cases e : args[s]? with
          | some x =>
            obtain ⟨v, hv, hR⟩ := Rt_get hvs s x e
            have hlt : s < vs.length := (List.getElem?_eq_some_iff.1 hv).1
            have : (vs.toArray ++ Array.replicate (fn.ntmps - vs.toArray.size) undef).getD s undef = v := by
              rw [Array.getD_eq_getD_getElem?, Array.getElem?_append_left (by simpa using hlt)]
              simp [hv]
            rw [this]
            exact R_mono hle _ _ hR
          | none =>
            have hge : args.length ≤ s := by
              rcases Nat.lt_or_ge s args.length with h | h
              · simp [h] at e
              · exact h
            have : (vs.toArray ++ Array.replicate (fn.ntmps - vs.toArray.size) undef).getD s undef = undef := by
              rw [Array.getD_eq_getD_getElem?, Array.getElem?_append_right (by simp; omega), Array.getElem?_replicate]
              split <;> rfl
            rw [this]
            exact R_undef _
        · have e : (fun b => (b < c.base ∧ c.E0 b) ∨ (c.base ≤ b ∧ Own.free = Own.ext)) = fun _ => False := by funext b; simp [c]
          show c.rep O.x0 _ _ w
          rw [e]; exact O.init w
      refine calls_of_wp hf hbody (wp_mono (h c ⟨⟨rfl, rfl⟩, hcg⟩ code hcode _ w _ _ _ hFR) ?_)
      have fin : ∀ (a' : Act) (w' : World), (∃ st' ow' τ' ob', ends ⟨fn.ntmps, ac, l⟩ r st' ∧ FR c st' a' w' ow' τ' ob') → a'.defers = [] ∧ ∃ v, (results fn a'.tmps).run P w' = .ok v w' ∧ ∃ v_1 o τ, Ending.returned v = .returned v_1 ∧ Below w.heap.size w w' ∧ (∀ b, w.heap.size ≤ b → o b ≠ .free → b < w'.heap.size) ∧ R (KR w.heap.size G w' o τ) r v_1 := by
        rintro a' w' ⟨st', ow', τ', ob', he, hf'⟩
        obtain ⟨xs, hx, he⟩ := wOpt_exists he
        obtain ⟨r0, ho, hle⟩ := wOpt_exists he
        obtain ⟨v, hv, hR⟩ := results_run (P := P) hf' hres hx
        have key : ∃ o', (∀ b, c.base ≤ b → o' b ≠ .free → ow' b ≠ .free) ∧ R (KR c.base c.G0 w' o' τ') r0 v := by
          cases hrv : resV xs with
          | sl sz tok rows =>
            rw [hrv] at hR ho
            cases tok with
            | own t g =>
              simp only [out, Option.some.injEq] at ho
              subst ho
              refine R_out (c := c) trivial hR ?_
              by_cases hc : st'.tgen t = g ∧ st'.top t = some rows.length
              · rw [if_pos hc]; exact .inl ⟨hc.1, hc.2, rfl⟩
              · rw [if_neg hc]; exact .inr rfl
            | ro =>
              simp only [out] at ho
              split at ho
              · injection ho with ho; subst ho; exact R_out (c := c) trivial (R_weaks hR) ⟨by assumption, rfl⟩
              · cases ho
            | full =>
              simp only [out] at ho
              split at ho
              · injection ho with ho; subst ho; exact R_out (c := c) trivial (R_weaks hR) ⟨by assumption, rfl⟩
              · cases ho
          | _ =>
            rw [hrv] at hR ho
            simp only [out] at ho
            split at ho
            · injection ho with ho; subst ho; exact R_out (c := c) trivial (R_weaks hR) ⟨by assumption, rfl⟩
            · cases ho
        obtain ⟨o', h1, h2⟩ := key
        exact ⟨hf'.defers, v, hv, v, o', τ', rfl, hf'.keeps.below, fun b hb ho => hf'.lt b hb (h1 b hb ho), R_le hle h2⟩
      intro e a' w' q
      cases e with
      | normal => exact fin a' w' q
      | ret => exact fin a' w' q
      | exit id => obtain ⟨_, _, _, _, h, _⟩ := q; exact h.elim
      | _ => exact q.elim
    · cases hF
  · cases hF

/-- The state hands back a value of which Q holds, for a caller with these slots. -/
def endsI {σ : Type} (F : AFun) (env : Nat → AV) (Q : AV → St σ → Prop) (st : St σ) : Prop := wOpt (resL st F.res) fun l => Q (resV l) { st with env := env }
/-- What a call does to the caller's state. -/
theorem ICall_ofA {σ : Type} {O : Outs σ} {k : Nat} {th : List Nat} {fz : List (Nat × Nat × Nat)} {P : Program} {T : List Nat} {F : AFun} {f : FuncId} {fn : Func} {xs : List AV} {st : St σ} {Q : AV → St σ → Prop} {c : Cx σ} (hc : c.rep = O.rep) (hgr : c.ground P) (hf : P.funcs[f]? = some fn) (hF : compF P T fn = some F) (hxs : xs.length ≤ F.nt)
    (h : AW (sys O P T F.nt k th fz) F.code { st with env := env0 xs } (endsI F st.env Q) (endsI F st.env Q) (fun _ _ => False)) : ICallC P c f xs st Q := by
  intro a w ow τ ob vs hFR hvs
  unfold compF at hF
  split at hF
  · rename_i code hbody
    split at hF
    · rename_i ac l hcode hres
      injection hF with hF
      subst hF
      let c' : Cx σ := { c with nt := fn.ntmps, sv := fun x v => (∃ s, x = st.env s ∧ v = a.tmps.getD s undef) ∨ c.sv x v }
      have hvl := Rt_length hvs
      have hFR' : FR c' { st with env := env0 xs } { tmps := vs.toArray ++ Array.replicate (fn.ntmps - vs.toArray.size) undef, defers := [] } w ow τ ob := by
        refine ⟨rfl, ?_, hFR.keeps, hFR.base, hFR.lt, ?_, hFR.vars, hFR.uniq, ?_, hFR.ext⟩
        · simp only [Array.size_append, List.size_toArray, Array.size_replicate]
          have : vs.length ≤ fn.ntmps := by rw [hvl]; exact hxs
          show _ = fn.ntmps
          omega
        · intro s
          show R _ ((xs[s]?).getD (.tup [])) _
          cases e : xs[s]? with
          | some x =>
            obtain ⟨v, hv, hR⟩ := Rt_get hvs s x e
            have hlt : s < vs.length := (List.getElem?_eq_some_iff.1 hv).1
            have : (vs.toArray ++ Array.replicate (fn.ntmps - vs.toArray.size) undef).getD s undef = v := by
              rw [Array.getD_eq_getD_getElem?, Array.getElem?_append_left (by simpa using hlt)]
              simp [hv]
            rw [this]
            exact hR
          | none =>
            have hge : xs.length ≤ s := by
              rcases Nat.lt_or_ge s xs.length with h | h
              · simp [h] at e
              · exact h
            have : (vs.toArray ++ Array.replicate (fn.ntmps - vs.toArray.size) undef).getD s undef = undef := by
              rw [Array.getD_eq_getD_getElem?, Array.getElem?_append_right (by simp; omega), Array.getElem?_replicate]
              split <;> rfl
            rw [this]
            exact R_undef _
        · rintro x v (⟨s, rfl, rfl⟩ | hx)
          · exact hFR.tmps s
          · exact hFR.saved x v hx
      refine calls_of_wp hf hbody (wp_mono (h c' ⟨⟨rfl, hc⟩, hgr⟩ code hcode _ w _ _ _ hFR') ?_)
      have fin : ∀ (a' : Act) (w' : World), (∃ st' ow' τ' ob', endsI ⟨fn.ntmps, ac, l⟩ st.env Q st' ∧ FR c' st' a' w' ow' τ' ob') → a'.defers = [] ∧ ∃ v, (results fn a'.tmps).run P w' = .ok v w' ∧ ∃ v_1 x st' ow' τ' ob', Ending.returned v = .returned v_1 ∧ Q x st' ∧ st'.env = st.env ∧ FR c st' a w' ow' τ' ob' ∧ R (Kof c st' w' ow' τ' ob') x v_1 := by
        rintro a' w' ⟨st', ow', τ', ob', he, hf'⟩
        obtain ⟨xs', hx, he⟩ := wOpt_exists he
        obtain ⟨v, hv, hR⟩ := results_run (P := P) hf' hres hx
        refine ⟨hf'.defers, v, hv, v, resV xs', { st' with env := st.env }, ow', τ', ob', rfl, he, rfl, ?_, hR⟩
        refine ⟨hFR.defers, hFR.size, hf'.keeps, hf'.base, hf'.lt, fun s => hf'.saved _ _ (.inl ⟨s, rfl, rfl⟩), hf'.vars, hf'.uniq, fun x v hx => hf'.saved x v (.inr hx), hf'.ext⟩
      intro e a' w' q
      cases e with
      | normal => exact fin a' w' q
      | ret => exact fin a' w' q
      | exit id => obtain ⟨_, _, _, _, h, _⟩ := q; exact h.elim
      | _ => exact q.elim
    · cases hF
  · cases hF
theorem PCall_of {σ : Type} {O : Outs σ} {th : List Nat} {fz : List (Nat × Nat × Nat)} {P : Program} {T : List Nat} {F : AFun} {f : FuncId} {fn : Func} {args : List AV} {r : AV} (hf : P.funcs[f]? = some fn) (hF : compF P T fn = some F) (hargs : args.length ≤ F.nt)
    (h : wCode (sys O P T F.nt 0 th fz) F.code (st0 O.x0 args) (ends F r) (ends F r) (fun _ _ => False)) : PCall P f args r := PCall_ofA hf hF hargs (AW_of_wCode _ _ _ _ _ h)
theorem ICall_of {σ : Type} {O : Outs σ} {k : Nat} {th : List Nat} {fz : List (Nat × Nat × Nat)} {P : Program} {T : List Nat} {F : AFun} {f : FuncId} {fn : Func} {xs : List AV} {st : St σ} {Q : AV → St σ → Prop} {c : Cx σ} (hc : c.rep = O.rep) (hgr : c.ground P) (hf : P.funcs[f]? = some fn) (hF : compF P T fn = some F) (hxs : xs.length ≤ F.nt)
    (h : wCode (sys O P T F.nt k th fz) F.code { st with env := env0 xs } (endsI F st.env Q) (endsI F st.env Q) (fun _ _ => False)) : ICallC P c f xs st Q := ICall_ofA hc hgr hf hF hxs (AW_of_wCode _ _ _ _ _ h)
end Go.Av

namespace Go.Av
variable {σ : Type}

theorem toList_inj' {s t : ByteArray} (h : s.toList = t.toList) : s = t := by
  rw [ByteArray.toList_eq, ByteArray.toList_eq] at h
  cases s; cases t
  simp at h
  rw [h]
/-! ### where simp goes in -/
@[congr] theorem wOpt_congr {α : Type} {x x' : Option α} {K : α → Prop} (h : x = x') : wOpt x K = wOpt x' K := by rw [h]
@[congr] theorem wCode_congr {S : Sys σ} {ac : ACode} {st st' : St σ} {N Rr : St σ → Prop} {E : Nat → St σ → Prop} (h : st = st') : wCode S ac st N Rr E = wCode S ac st' N Rr E := by rw [h]
@[congr] theorem wOps_congr {S : Sys σ} {l : List AOper} {st st' : St σ} {K : St σ → Prop} (h : st = st') : wOps S st l K = wOps S st' l K := by rw [h]
@[congr] theorem wDraw_congr {S : Sys σ} {l : List AOper} {lg lg' : List Eff} {st st' : St σ} {K : St σ → List Eff → Prop} (h : st = st') (h2 : lg = lg') : wDraw S st l lg K = wDraw S st' l lg' K := by rw [h, h2]
@[congr] theorem wGuard_congr {x x' : AV} {b : Bool} {A B C : Prop} (h : x = x') : wGuard x b A B C = wGuard x' b A B C := by rw [h]
@[congr] theorem wPick_congr {t t' x x' y y' : AV} {st : St σ} {K : AV → St σ → Prop} (h : t = t') (h1 : x = x') (h2 : y = y') : wPick t x y st K = wPick t' x' y' st K := by rw [h, h1, h2]
@[congr] theorem wIdx_congr {st : St σ} {sz : Nat} {x x' i i' : AV} {K : AV → St σ → Prop} (h : x = x') (h1 : i = i') : wIdx st sz x i K = wIdx st sz x' i' K := by rw [h, h1]
@[congr] theorem wThaw_congr {d : Nat} {st : St σ} {sz bytes : Nat} {x x' y y' : AV} {K : AV → St σ → Prop} (h : x = x') (h1 : y = y') : wThaw d st sz bytes x y K = wThaw d st sz bytes x' y' K := by rw [h, h1]
@[congr] theorem wCall_congr {S : Sys σ} {b : Bool} {d : Nat} {st : St σ} {f : Nat} {xs xs' : List AV} {K : AV → St σ → Prop} (h : xs = xs') : wCall S b d st f xs K = wCall S b d st f xs' K := by rw [h]
@[congr] theorem wCallV_congr {S : Sys σ} {b : Bool} {d : Nat} {st : St σ} {g : Nat} {fs fs' caps caps' xs xs' : List AV} {K : AV → St σ → Prop} (h : xs = xs') (h1 : fs = fs') (h2 : caps = caps') : wCallV S b d st g fs caps xs K = wCallV S b d st g fs' caps' xs' K := by rw [h, h1, h2]
@[congr] theorem wSnil_congr {b ng : Bool} {a a' : AV} {st : St σ} {K : AV → St σ → Prop} (h : a = a') : wSnil b ng a st K = wSnil b ng a' st K := by rw [h]

@[congr] theorem wStep_congr {S : Sys σ} {b : Bool} {o : AOper} {st st' : St σ} {K : St σ → Prop} (h : st = st') : wStep S b st o K = wStep S b st' o K := by rw [h]
@[congr] theorem wAct_congr {S : Sys σ} {b : Bool} {d : Nat} {op : AOp} {st st' : St σ} {K : AV → St σ → Prop} (h : st = st') : wAct S b d st op K = wAct S b d st' op K := by rw [h]
@[congr] theorem wFrz_congr {S : Sys σ} {o : AOper} {st st' : St σ} {K : St σ → Prop} (h : st = st') : wFrz S st o K = wFrz S st' o K := by rw [h]

/-! ### steps -/
section
variable {S : Sys σ} {e : Nat → AV} {g : Nat → Nat} {v : Nat → List AV} {tg : Nat → Nat} {tp : Nat → Option Nat} {x : σ}
theorem wOps_nil {st : St σ} {K : St σ → Prop} : wOps S st [] K = K st := rfl
theorem put_some {d : Nat} {a : AV} : St.put (⟨e, g, v, tg, tp, x⟩ : St σ) (some d) a = ⟨upd e d a, g, v, tg, tp, x⟩ := rfl
theorem put_none {st : St σ} {a : AV} : St.put st none a = st := rfl
theorem ev_tmp {t : Nat} : St.ev (⟨e, g, v, tg, tp, x⟩ : St σ) (.tmp t) = e t := rfl
theorem ev_const {st : St σ} {u : Value} : st.ev (.const u) = .ofV u := rfl
theorem ev_func {st : St σ} {f : Nat} : st.ev (.func f) = .fv f [] [] := rfl
theorem kill_lit {d : Nat} : St.kill (⟨e, g, v, tg, tp, x⟩ : St σ) d = ⟨e, upd g d (g d + 1), upd v d [], tg, tp, x⟩ := rfl
theorem newVar_lit {d : Nat} {xs : List AV} : St.newVar (⟨e, g, v, tg, tp, x⟩ : St σ) d xs = ⟨e, upd g d (g d + 1), upd v d xs, tg, tp, x⟩ := rfl
theorem give_lit {d n : Nat} : St.give (⟨e, g, v, tg, tp, x⟩ : St σ) d n = ⟨e, g, v, upd tg d (tg d + 1), upd tp d (some n), x⟩ := rfl
theorem spend_lit {t : Nat} : St.spend (⟨e, g, v, tg, tp, x⟩ : St σ) t = ⟨e, g, v, tg, upd tp t none, x⟩ := rfl
theorem upd_eq {α : Type} (f : Nat → α) (i : Nat) (a : α) (j : Nat) : upd f i a j = if j = i then a else f j := rfl

theorem wOps_cons {r : List AOper} {o : AOper} {K : St σ → Prop} : wOps S ⟨e, g, v, tg, tp, x⟩ (o :: r) K = wFrz S ⟨e, g, v, tg, tp, x⟩ o fun st => wStep S true st o fun s => wOps S s r K := rfl
/-- Where nothing is made immutable on the way. -/
theorem wOps_cons' (hf : S.fz = []) {r : List AOper} {o : AOper} {K : St σ → Prop} : wOps S ⟨e, g, v, tg, tp, x⟩ (o :: r) K = wStep S true ⟨e, g, v, tg, tp, x⟩ o fun s => wOps S s r K := by
  simp only [wOps, wFrz, hf, List.lookup]
theorem wOps_cons0 {O : Outs σ} {P : Program} {T : List Nat} {nt k : Nat} {th : List Nat} {r : List AOper} {o : AOper} {K : St σ → Prop} : wOps (sys O P T nt k th []) ⟨e, g, v, tg, tp, x⟩ (o :: r) K = wStep (sys O P T nt k th []) true ⟨e, g, v, tg, tp, x⟩ o fun s => wOps (sys O P T nt k th []) s r K := wOps_cons' rfl
theorem wDraw_nil {st : St σ} {lg : List Eff} {K : St σ → List Eff → Prop} : wDraw S st [] lg K = K st lg.reverse := rfl
theorem wDraw_cons {r : List AOper} {o : AOper} {lg : List Eff} {K : St σ → List Eff → Prop} : wDraw S ⟨e, g, v, tg, tp, x⟩ (o :: r) lg K = wStep S false ⟨e, g, v, tg, tp, x⟩ o fun s => wDraw S s r (eff (S.off + o.dst.getD 0) ⟨e, g, v, tg, tp, x⟩ o.op :: lg) K := rfl
theorem wStep_none {b : Bool} {d : Option Nat} {op : AOp} {K : St σ → Prop} : wStep S b ⟨e, g, v, tg, tp, x⟩ ⟨d, op, none⟩ K = wAct S b (S.off + d.getD 0) ⟨e, g, v, tg, tp, x⟩ op fun u s => K (s.put d u) := rfl
theorem wStep_some {b : Bool} {d : Option Nat} {op : AOp} {i : Nat} {t : Bool} {K : St σ → Prop} : wStep S b ⟨e, g, v, tg, tp, x⟩ ⟨d, op, some (i, t)⟩ K =
    wGuard (e i) t (wAct S b (S.off + d.getD 0) ⟨upd e i (.imm (.bool t)), g, v, tg, tp, x⟩ op fun u s => K (s.put d u)) (K (St.put ⟨upd e i (.imm (.bool !t)), g, v, tg, tp, x⟩ d undefA)) (K (St.put ⟨e, g, v, tg, tp, x⟩ d undefA)) := rfl
theorem wGuard_tt {A B C : Prop} : wGuard (.imm (.bool true)) true A B C = A := by simp [wGuard]
theorem wGuard_ff {A B C : Prop} : wGuard (.imm (.bool false)) false A B C = A := by simp [wGuard]
theorem wGuard_tf {A B C : Prop} : wGuard (.imm (.bool true)) false A B C = B := by simp [wGuard]
theorem wGuard_ft {A B C : Prop} : wGuard (.imm (.bool false)) true A B C = B := by simp [wGuard]
theorem wGuard_tup {b : Bool} {A B C : Prop} : wGuard (.tup []) b A B C = C := rfl
theorem wGuard_undef {b : Bool} {A B C : Prop} : wGuard undefA b A B C = C := rfl
theorem wGuard_t {y : Bool} {A B C : Prop} : wGuard (.imm (.bool y)) true A B C = ((y = true → A) ∧ (y = false → B)) := rfl
theorem wGuard_f {y : Bool} {A B C : Prop} : wGuard (.imm (.bool y)) false A B C = ((y = false → A) ∧ (y = true → B)) := rfl
/-- A truth value that is not known: a mark that keeps simp from taking it for a literal. -/
def tb (y : Bool) : Bool := y
theorem wGuard_dt {p : Prop} [Decidable p] {A B C : Prop} : wGuard (.imm (.bool (decide p))) true A B C = ((p → A) ∧ (¬ p → B)) := by
  by_cases h : p <;> simp [wGuard, h]
theorem wGuard_df {p : Prop} [Decidable p] {A B C : Prop} : wGuard (.imm (.bool (decide p))) false A B C = ((¬ p → A) ∧ (p → B)) := by
  by_cases h : p <;> simp [wGuard, h]
theorem wGuard_bt {y : Bool} {A B C : Prop} : wGuard (.imm (.bool (tb y))) true A B C = ((y = true → A) ∧ (y = false → B)) := rfl
theorem wGuard_bf {y : Bool} {A B C : Prop} : wGuard (.imm (.bool (tb y))) false A B C = ((y = false → A) ∧ (y = true → B)) := rfl
theorem wPick_d {p : Prop} [Decidable p] {a b : AV} {st : St σ} {K : AV → St σ → Prop} : wPick (.imm (.bool (decide p))) a b st K = ((p → K a st) ∧ (¬ p → K b st)) := by
  by_cases h : p <;> simp [wPick, h]
theorem wPick_tb {y : Bool} {a b : AV} {st : St σ} {K : AV → St σ → Prop} : wPick (.imm (.bool (tb y))) a b st K = ((y = true → K a st) ∧ (y = false → K b st)) := rfl
theorem wPick_t {a b : AV} {st : St σ} {K : AV → St σ → Prop} : wPick (.imm (.bool true)) a b st K = K a st := by simp [wPick]
theorem wPick_f {a b : AV} {st : St σ} {K : AV → St σ → Prop} : wPick (.imm (.bool false)) a b st K = K b st := by simp [wPick]
theorem wPick_b {y : Bool} {a b : AV} {st : St σ} {K : AV → St σ → Prop} : wPick (.imm (.bool y)) a b st K = ((y = true → K a st) ∧ (y = false → K b st)) := rfl

/-! ### operations -/
variable {b : Bool} {d : Nat} {K : AV → St σ → Prop}
theorem wAct_mov {y : Operand} : wAct S b d ⟨e, g, v, tg, tp, x⟩ (.mov y) K = K (St.ev ⟨e, g, v, tg, tp, x⟩ y) ⟨e, g, v, tg, tp, x⟩ := rfl
theorem wAct_pick {c y z : Operand} : wAct S b d ⟨e, g, v, tg, tp, x⟩ (.pick c y z) K = wPick (St.ev ⟨e, g, v, tg, tp, x⟩ c) (St.ev ⟨e, g, v, tg, tp, x⟩ y) (St.ev ⟨e, g, v, tg, tp, x⟩ z) ⟨e, g, v, tg, tp, x⟩ K := rfl
theorem wAct_iaddr {sz : Nat} {y z : Operand} : wAct S b d ⟨e, g, v, tg, tp, x⟩ (.iaddr sz y z) K = wIdx ⟨e, g, v, tg, tp, x⟩ sz (St.ev ⟨e, g, v, tg, tp, x⟩ y) (St.ev ⟨e, g, v, tg, tp, x⟩ z) K := rfl
theorem wAct_call {f : Nat} {l : List Operand} : wAct S b d ⟨e, g, v, tg, tp, x⟩ (.call f l) K = wCall S b d ⟨e, g, v, tg, tp, x⟩ f (l.map (St.ev ⟨e, g, v, tg, tp, x⟩)) K := rfl
/-- The others: a value out of the state, by what 'act' says. -/
def wVal (o : Option (AV × St σ)) (K : AV → St σ → Prop) : Prop := wOpt o fun r => K r.1 r.2
@[congr] theorem wVal_congr {o o' : Option (AV × St σ)} {K : AV → St σ → Prop} (h : o = o') : wVal o K = wVal o' K := by rw [h]
theorem wVal_some {a : AV} {st : St σ} {K : AV → St σ → Prop} : wVal (some (a, st)) K = K a st := rfl
theorem wVal_none {K : AV → St σ → Prop} : wVal (none : Option (AV × St σ)) K = False := rfl
theorem wVal_if {p : Prop} [Decidable p] {o : Option (AV × St σ)} {K : AV → St σ → Prop} : wVal (if p then o else none) K = (p ∧ wVal o K) := wOpt_if p o _
theorem wVal_if' {p : Prop} [Decidable p] {o o' : Option (AV × St σ)} {K : AV → St σ → Prop} : wVal (if p then o else o') K = ((p → wVal o K) ∧ (¬ p → wVal o' K)) := by
  by_cases h : p <;> simp [h]
theorem wVal_map {α : Type} {f : α → AV × St σ} {o : Option α} {K : AV → St σ → Prop} : wVal (o.map f) K = wOpt o fun a => K (f a).1 (f a).2 := by cases o <;> rfl
theorem wAct_box {y : Operand} : wAct S b d ⟨e, g, v, tg, tp, x⟩ (.box y) K = wVal (act noCalls d ⟨e, g, v, tg, tp, x⟩ (.box y)) K := rfl
theorem wAct_alloc {z : List Value} : wAct S b d ⟨e, g, v, tg, tp, x⟩ (.alloc z) K = wVal (act noCalls d ⟨e, g, v, tg, tp, x⟩ (.alloc z)) K := rfl
theorem wAct_build {z : List Value} {p : List (Nat × Nat × Operand)} : wAct S b d ⟨e, g, v, tg, tp, x⟩ (.build z p) K = wVal (act noCalls d ⟨e, g, v, tg, tp, x⟩ (.build z p)) K := rfl
theorem wAct_bsl {sz : Nat} {p : List Operand} : wAct S b d ⟨e, g, v, tg, tp, x⟩ (.bsl sz p) K = wVal (act noCalls d ⟨e, g, v, tg, tp, x⟩ (.bsl sz p)) K := rfl
theorem wAct_load {ag : Bool} {n : Nat} {p : Operand} : wAct S b d ⟨e, g, v, tg, tp, x⟩ (.load ag n p) K = wVal (act noCalls d ⟨e, g, v, tg, tp, x⟩ (.load ag n p)) K := rfl
theorem wAct_store {n : Nat} {p y : Operand} : wAct S b d ⟨e, g, v, tg, tp, x⟩ (.store n p y) K = wVal (act noCalls d ⟨e, g, v, tg, tp, x⟩ (.store n p y)) K := rfl
theorem wAct_faddr {o : Nat} {p : Operand} : wAct S b d ⟨e, g, v, tg, tp, x⟩ (.faddr o p) K = wVal (act noCalls d ⟨e, g, v, tg, tp, x⟩ (.faddr o p)) K := rfl
theorem wAct_aaddr {l sz : Nat} {y z : Operand} : wAct S b d ⟨e, g, v, tg, tp, x⟩ (.aaddr l sz y z) K = wVal (act noCalls d ⟨e, g, v, tg, tp, x⟩ (.aaddr l sz y z)) K := rfl
theorem wAct_sidx {y z : Operand} : wAct S b d ⟨e, g, v, tg, tp, x⟩ (.sidx y z) K = wVal (act noCalls d ⟨e, g, v, tg, tp, x⟩ (.sidx y z)) K := rfl
theorem wAct_field {ag : Bool} {o n : Nat} {y : Operand} : wAct S b d ⟨e, g, v, tg, tp, x⟩ (.field ag o n y) K = wVal (act noCalls d ⟨e, g, v, tg, tp, x⟩ (.field ag o n y)) K := rfl
/-- Operators. -/
def wBin (op : BinOp) (y z : AV) (K : AV → Prop) : Prop := match y, z with | .imm u, .imm w => wOpt (binV op u w) fun r => K (.imm r) | _, _ => False
@[congr] theorem wBin_congr {op : BinOp} {y y' z z' : AV} {K : AV → Prop} (h : y = y') (h2 : z = z') : wBin op y z K = wBin op y' z' K := by rw [h, h2]
theorem wAct_bin {op : BinOp} {y z : Operand} : wAct S b d ⟨e, g, v, tg, tp, x⟩ (.bin op y z) K = wBin op (St.ev ⟨e, g, v, tg, tp, x⟩ y) (St.ev ⟨e, g, v, tg, tp, x⟩ z) fun a => K a ⟨e, g, v, tg, tp, x⟩ := by
  simp only [wAct, act, wBin]
  generalize St.ev ⟨e, g, v, tg, tp, x⟩ y = p
  generalize St.ev ⟨e, g, v, tg, tp, x⟩ z = q
  cases p <;> cases q <;> simp only [wOpt_none, wOpt_map]
section
variable {k : IntKind} {m n : Int} {KA : AV → Prop} {s t : ByteArray}
theorem wBin_add : wBin .add (.imm (.int k m)) (.imm (.int k n)) KA = KA (.imm (.int k (k.wrap (m + n)))) := by simp [wBin, binV, wOpt]
theorem wBin_sub : wBin .sub (.imm (.int k m)) (.imm (.int k n)) KA = KA (.imm (.int k (k.wrap (m - n)))) := by simp [wBin, binV, wOpt]
theorem wBin_mul : wBin .mul (.imm (.int k m)) (.imm (.int k n)) KA = KA (.imm (.int k (k.wrap (m * n)))) := by simp [wBin, binV, wOpt]
theorem wBin_rem : wBin .rem (.imm (.int k m)) (.imm (.int k n)) KA = (n ≠ 0 ∧ KA (.imm (.int k (m.tmod n)))) := by
  by_cases h : n = 0 <;> simp [wBin, binV, wOpt, h]
theorem wBin_eql : wBin .eql (.imm (.int k m)) (.imm (.int k n)) KA = KA (.imm (.bool (decide (m = n)))) := by
  have : (m == n) = decide (m = n) := by by_cases h : m = n <;> simp [h]
  simp only [wBin, binV, wOpt, if_true, this]
theorem wBin_neq : wBin .neq (.imm (.int k m)) (.imm (.int k n)) KA = KA (.imm (.bool (decide (m ≠ n)))) := by
  have : (m != n) = decide (m ≠ n) := by by_cases h : m = n <;> simp [h]
  simp only [wBin, binV, wOpt, if_true, this]
theorem wBin_lss : wBin .lss (.imm (.int k m)) (.imm (.int k n)) KA = KA (.imm (.bool (decide (m < n)))) := by simp [wBin, binV, wOpt]
theorem wBin_leq : wBin .leq (.imm (.int k m)) (.imm (.int k n)) KA = KA (.imm (.bool (decide (m ≤ n)))) := by simp [wBin, binV, wOpt]
theorem wBin_gtr : wBin .gtr (.imm (.int k m)) (.imm (.int k n)) KA = KA (.imm (.bool (decide (n < m)))) := by simp [wBin, binV, wOpt]
theorem wBin_geq : wBin .geq (.imm (.int k m)) (.imm (.int k n)) KA = KA (.imm (.bool (decide (n ≤ m)))) := by simp [wBin, binV, wOpt]
theorem bytes_beq (s t : ByteArray) : (s.toList == t.toList) = decide (s = t) := by
  by_cases h : s = t
  · simp [h]
  · have : s.toList ≠ t.toList := fun e => h (toList_inj' e)
    simp [h, this]
theorem wBin_seql : wBin .eql (.imm (.string s)) (.imm (.string t)) KA = KA (.imm (.bool (decide (s = t)))) := by simp only [wBin, binV, wOpt, bytes_beq]
theorem wBin_sneq : wBin .neq (.imm (.string s)) (.imm (.string t)) KA = KA (.imm (.bool (decide (s ≠ t)))) := by
  simp only [wBin, binV, wOpt, bytes_beq, decide_not]
theorem wBin_sadd : wBin .add (.imm (.string s)) (.imm (.string t)) KA = (s.size + t.size ≤ 9223372036854775807 ∧ KA (.imm (.string (s ++ t)))) := by
  by_cases h : s.size + t.size ≤ 9223372036854775807 <;> simp [wBin, binV, wOpt, h]
end
theorem wAct_beq {ng : Bool} {y z : Operand} : wAct S b d ⟨e, g, v, tg, tp, x⟩ (.beq ng y z) K = wVal (act noCalls d ⟨e, g, v, tg, tp, x⟩ (.beq ng y z)) K := rfl
theorem wAct_seq {ng : Bool} {ks : List Nat} {y z : Operand} : wAct S b d ⟨e, g, v, tg, tp, x⟩ (.seq ng ks y z) K = wVal (act noCalls d ⟨e, g, v, tg, tp, x⟩ (.seq ng ks y z)) K := rfl
theorem wAct_un {op : UnOp} {y : Operand} : wAct S b d ⟨e, g, v, tg, tp, x⟩ (.un op y) K = wVal (act noCalls d ⟨e, g, v, tg, tp, x⟩ (.un op y)) K := rfl
theorem wAct_convi {k : IntKind} {y : Operand} : wAct S b d ⟨e, g, v, tg, tp, x⟩ (.convi k y) K = wVal (act noCalls d ⟨e, g, v, tg, tp, x⟩ (.convi k y)) K := rfl
theorem wAct_convs {y : Operand} : wAct S b d ⟨e, g, v, tg, tp, x⟩ (.convs y) K = wVal (act noCalls d ⟨e, g, v, tg, tp, x⟩ (.convs y)) K := rfl
theorem wAct_slc {sz : Nat} {y : Operand} {lo hi mx : Option Operand} : wAct S b d ⟨e, g, v, tg, tp, x⟩ (.slc sz y lo hi mx) K = wVal (act noCalls d ⟨e, g, v, tg, tp, x⟩ (.slc sz y lo hi mx)) K := rfl
theorem wAct_sslc {y : Operand} {lo hi : Option Operand} : wAct S b d ⟨e, g, v, tg, tp, x⟩ (.sslc y lo hi) K = wVal (act noCalls d ⟨e, g, v, tg, tp, x⟩ (.sslc y lo hi)) K := rfl
theorem wAct_ext {i : Nat} {y : Operand} : wAct S b d ⟨e, g, v, tg, tp, x⟩ (.ext i y) K = wVal (act noCalls d ⟨e, g, v, tg, tp, x⟩ (.ext i y)) K := rfl
theorem wAct_slen {y : Operand} : wAct S b d ⟨e, g, v, tg, tp, x⟩ (.slen y) K = wVal (act noCalls d ⟨e, g, v, tg, tp, x⟩ (.slen y)) K := rfl
theorem wAct_len {y : Operand} : wAct S b d ⟨e, g, v, tg, tp, x⟩ (.len y) K = wVal (act noCalls d ⟨e, g, v, tg, tp, x⟩ (.len y)) K := rfl
theorem wAct_nilc {y : Operand} : wAct S b d ⟨e, g, v, tg, tp, x⟩ (.nilc y) K = wVal (act noCalls d ⟨e, g, v, tg, tp, x⟩ (.nilc y)) K := rfl
theorem wAct_mkf {f : Nat} {l l' : List Operand} : wAct S b d ⟨e, g, v, tg, tp, x⟩ (.mkf f l l') K = wVal (act noCalls d ⟨e, g, v, tg, tp, x⟩ (.mkf f l l')) K := rfl
theorem wAct_aidx {ag : Bool} {n sz : Nat} {y z : Operand} : wAct S b d ⟨e, g, v, tg, tp, x⟩ (.aidx ag n sz y z) K = wVal (act noCalls d ⟨e, g, v, tg, tp, x⟩ (.aidx ag n sz y z)) K := rfl
theorem wAct_app (h : S.th = []) {sz by' : Nat} {y z : Operand} : wAct S b d ⟨e, g, v, tg, tp, x⟩ (.app sz by' y z) K = wVal (act noCalls d ⟨e, g, v, tg, tp, x⟩ (.app sz by' y z)) K := by
  simp [wAct, h, wVal]
theorem wAct_app0 {O : Outs σ} {P : Program} {T : List Nat} {nt k : Nat} {fz : List (Nat × Nat × Nat)} {sz by' : Nat} {y z : Operand} : wAct (sys O P T nt k [] fz) b d ⟨e, g, v, tg, tp, x⟩ (.app sz by' y z) K = wVal (act noCalls d ⟨e, g, v, tg, tp, x⟩ (.app sz by' y z)) K := wAct_app rfl
/-- A function value. -/
def wFv (a : AV) (K : Nat → List AV → List AV → Prop) : Prop := match a with | .fv f fs caps => K f fs caps | _ => False
@[congr] theorem wFv_congr {a a' : AV} {K : Nat → List AV → List AV → Prop} (h : a = a') : wFv a K = wFv a' K := by rw [h]
theorem wFv_fv {f : Nat} {fs caps : List AV} {K : Nat → List AV → List AV → Prop} : wFv (.fv f fs caps) K = K f fs caps := rfl
theorem wAct_mm {mx : Bool} {y z : Operand} : wAct S b d ⟨e, g, v, tg, tp, x⟩ (.mm mx y z) K = wVal (act noCalls d ⟨e, g, v, tg, tp, x⟩ (.mm mx y z)) K := rfl
theorem wAct_peq {ng : Bool} {y : Operand} : wAct S b d ⟨e, g, v, tg, tp, x⟩ (.peq ng y) K = wVal (act noCalls d ⟨e, g, v, tg, tp, x⟩ (.peq ng y)) K := rfl
theorem wAct_snil {ng : Bool} {y : Operand} : wAct S b d ⟨e, g, v, tg, tp, x⟩ (.snil ng y) K = wSnil b ng (St.ev ⟨e, g, v, tg, tp, x⟩ y) ⟨e, g, v, tg, tp, x⟩ K := rfl
theorem wAct_asl {sz n : Nat} {y : Operand} : wAct S b d ⟨e, g, v, tg, tp, x⟩ (.asl sz n y) K = wVal (act noCalls d ⟨e, g, v, tg, tp, x⟩ (.asl sz n y)) K := rfl
theorem wAct_capv {y : Operand} : wAct S b d ⟨e, g, v, tg, tp, x⟩ (.capv y) K = wVal (act noCalls d ⟨e, g, v, tg, tp, x⟩ (.capv y)) K := rfl
theorem wAct_mkmap : wAct S b d ⟨e, g, v, tg, tp, x⟩ .mkmap K = K (.mp d (g d + 1)) ⟨e, upd g d (g d + 1), upd v d [], tg, tp, x⟩ := rfl
theorem wAct_mlen {y : Operand} : wAct S b d ⟨e, g, v, tg, tp, x⟩ (.mlen y) K = wVal (act noCalls d ⟨e, g, v, tg, tp, x⟩ (.mlen y)) K := rfl
/-- A copy; it is left standing. -/
def wCpy (st : St σ) (sz : Nat) (y z : AV) (K : AV → St σ → Prop) : Prop :=
  match y.vslOf with
  | some (d', g, sz', off, n, _) =>
    match st.src sz (some n) z with
    | some (m, news) => (sz' = sz ∧ g = st.gen d' ∧ 0 < n) ∧ K (.imm (.int .i64 m)) { st with var := upd st.var d' (splice (padTo (st.var d') (off + news.length)) off news) }
    | none => False
  | none => False
@[congr] theorem wCpy_congr {st : St σ} {sz : Nat} {y y' z z' : AV} {K : AV → St σ → Prop} (h : y = y') (h2 : z = z') : wCpy st sz y z K = wCpy st sz y' z' K := by rw [h, h2]
theorem wAct_cpy {sz : Nat} {y z : Operand} : wAct S b d ⟨e, g, v, tg, tp, x⟩ (.cpy sz y z) K = wCpy ⟨e, g, v, tg, tp, x⟩ sz (St.ev ⟨e, g, v, tg, tp, x⟩ y) (St.ev ⟨e, g, v, tg, tp, x⟩ z) K := by
  simp only [wAct, act, wCpy]
  generalize (St.ev ⟨e, g, v, tg, tp, x⟩ y).vslOf = p
  rcases p with _ | ⟨d', g', sz', off, n, cp⟩
  · rfl
  · simp only
    generalize St.src ⟨e, g, v, tg, tp, x⟩ sz (some n) (St.ev ⟨e, g, v, tg, tp, x⟩ z) = q
    rcases q with _ | ⟨m, news⟩
    · rfl
    · simp only [wOpt_if, wOpt_some]
/-- An append of zeros; it is left standing. -/
def wAppz (d : Nat) (st : St σ) (sz bytes : Nat) (z : List Value) (y n : AV) (K : AV → St σ → Prop) : Prop :=
  match y.vslOf, n.asInt with
  | some (d', g, sz', off, k, some c), some m => (sz' = sz ∧ g = st.gen d' ∧ off + k * sz ≤ (st.var d').length ∧ 0 ≤ m ∧ c < k + m.toNat ∧ (k + m.toNat) * bytes ≤ 140737488355328) ∧
      K (.vsl d (st.gen d + 1) sz 0 (k + m.toNat) none) (st.newVar d (((st.var d').drop off).take (k * sz) ++ (List.replicate m.toNat (z.map AV.imm)).flatten))
  | _, _ => False
@[congr] theorem wAppz_congr {d : Nat} {st : St σ} {sz bytes : Nat} {z : List Value} {y y' n n' : AV} {K : AV → St σ → Prop} (h : y = y') (h2 : n = n') : wAppz d st sz bytes z y n K = wAppz d st sz bytes z y' n' K := by rw [h, h2]
theorem wAct_appz {sz by' : Nat} {zz : List Value} {y z : Operand} : wAct S b d ⟨e, g, v, tg, tp, x⟩ (.appz sz by' zz y z) K = wAppz d ⟨e, g, v, tg, tp, x⟩ sz by' zz (St.ev ⟨e, g, v, tg, tp, x⟩ y) (St.ev ⟨e, g, v, tg, tp, x⟩ z) K := by
  simp only [wAct, act, wAppz]
  generalize (St.ev ⟨e, g, v, tg, tp, x⟩ y).vslOf = p
  generalize (St.ev ⟨e, g, v, tg, tp, x⟩ z).asInt = q
  rcases p with _ | ⟨d', g', sz', off, n, _ | c⟩ <;> rcases q with _ | m <;> simp only [wOpt_none, wOpt_if, wOpt_some]
/-- make; it is left standing. -/
def wMksl (d : Nat) (st : St σ) (sz bytes : Nat) (z : List Value) (n : AV) (K : AV → St σ → Prop) : Prop :=
  match n.asInt with
  | some m => (0 ≤ m ∧ m.toNat * bytes ≤ 140737488355328) ∧ K (.vsl d (st.gen d + 1) sz 0 m.toNat (some m.toNat)) (st.newVar d (List.replicate m.toNat (z.map AV.imm)).flatten)
  | none => False
@[congr] theorem wMksl_congr {d : Nat} {st : St σ} {sz bytes : Nat} {z : List Value} {n n' : AV} {K : AV → St σ → Prop} (h2 : n = n') : wMksl d st sz bytes z n K = wMksl d st sz bytes z n' K := by rw [h2]
theorem wAct_mksl {sz by' : Nat} {zz : List Value} {z : Operand} : wAct S b d ⟨e, g, v, tg, tp, x⟩ (.mksl sz by' zz z) K = wMksl d ⟨e, g, v, tg, tp, x⟩ sz by' zz (St.ev ⟨e, g, v, tg, tp, x⟩ z) K := by
  simp only [wAct, act, wMksl]
  generalize (St.ev ⟨e, g, v, tg, tp, x⟩ z).asInt = q
  rcases q with _ | m <;> simp only [wOpt_none, wOpt_if, wOpt_some]
/-- A map is read, or written; left standing. -/
def wMget (st : St σ) (ag : Bool) (ks : List Nat) (z : Value) (comma : Bool) (m k : AV) (K : AV → Prop) : Prop :=
  match m, k.keyc ag with
  | .mp d' g, some kc => (g = st.gen d' ∧ kc.length = ks.length) ∧ wOpt (findM ag ks kc (st.var d')) fun r => K (if comma then .tup [r.getD (.ofV z), .imm (.bool r.isSome)] else r.getD (.ofV z))
  | .imm (.map none), some kc => kc.length = ks.length ∧ K (if comma then .tup [.ofV z, .imm (.bool false)] else .ofV z)
  | _, _ => False
@[congr] theorem wMget_congr {st : St σ} {ag : Bool} {ks : List Nat} {z : Value} {comma : Bool} {m m' k k' : AV} {K : AV → Prop} (h : m = m') (h2 : k = k') : wMget st ag ks z comma m k K = wMget st ag ks z comma m' k' K := by rw [h, h2]
theorem wAct_mget {ag : Bool} {ks : List Nat} {zz : Value} {comma : Bool} {y z : Operand} : wAct S b d ⟨e, g, v, tg, tp, x⟩ (.mget ag ks zz comma y z) K = wMget ⟨e, g, v, tg, tp, x⟩ ag ks zz comma (St.ev ⟨e, g, v, tg, tp, x⟩ y) (St.ev ⟨e, g, v, tg, tp, x⟩ z) fun a => K a ⟨e, g, v, tg, tp, x⟩ := by
  simp only [wAct, act, wMget]
  generalize St.ev ⟨e, g, v, tg, tp, x⟩ y = m
  generalize AV.keyc ag (St.ev ⟨e, g, v, tg, tp, x⟩ z) = q
  split <;> simp only [wOpt_none, wOpt_if, wOpt_map, wOpt_some]
def wMset (st : St σ) (ag : Bool) (ks : List Nat) (m k u : AV) (K : AV → St σ → Prop) : Prop :=
  match m, k.keyc ag with
  | .mp d' g, some kc => (g = st.gen d' ∧ kc.length = ks.length) ∧ wOpt (setM ag ks kc (.tup [k, u]) (st.var d')) fun l => K undefA { st with var := upd st.var d' l }
  | _, _ => False
@[congr] theorem wMset_congr {st : St σ} {ag : Bool} {ks : List Nat} {m m' k k' u u' : AV} {K : AV → St σ → Prop} (h : m = m') (h2 : k = k') (h3 : u = u') : wMset st ag ks m k u K = wMset st ag ks m' k' u' K := by rw [h, h2, h3]
theorem wAct_mset {ag : Bool} {ks : List Nat} {y z u : Operand} : wAct S b d ⟨e, g, v, tg, tp, x⟩ (.mset ag ks y z u) K = wMset ⟨e, g, v, tg, tp, x⟩ ag ks (St.ev ⟨e, g, v, tg, tp, x⟩ y) (St.ev ⟨e, g, v, tg, tp, x⟩ z) (St.ev ⟨e, g, v, tg, tp, x⟩ u) K := by
  simp only [wAct, act, wMset]
  generalize St.ev ⟨e, g, v, tg, tp, x⟩ y = m
  generalize St.ev ⟨e, g, v, tg, tp, x⟩ z = k
  generalize AV.keyc ag k = q
  split <;> simp only [wOpt_none, wOpt_if, wOpt_map]
theorem wAct_callv {y : Operand} {l : List Operand} : wAct S b d ⟨e, g, v, tg, tp, x⟩ (.callv y l) K = wFv (St.ev ⟨e, g, v, tg, tp, x⟩ y) fun f fs caps => wCallV S b d ⟨e, g, v, tg, tp, x⟩ f fs caps (l.map (St.ev ⟨e, g, v, tg, tp, x⟩)) K := by
  simp only [wAct, wFv]
  all_goals (cases St.ev ⟨e, g, v, tg, tp, x⟩ y <;> rfl)

/-! ### code -/
variable {N Rr : St σ → Prop} {E : Nat → St σ → Prop} {st : St σ}
theorem wCode_skip : wCode S .skip st N Rr E = N st := rfl
theorem wCode_region {l : List AOper} : wCode S (.region l) st N Rr E = wOps S st l N := rfl
theorem wCode_draw {l : List AOper} {bf : List (List Nat)} : wCode S (.draw l bf) st N Rr E = wDraw S st l [] fun s lg => pairsOk l lg bf = true ∧ N s := rfl
theorem wCode_seq {a c : ACode} : wCode S (.seq a c) st N Rr E = wCode S a st (fun s => wCode S c s N Rr E) Rr E := rfl
def wCond (a : AV) (A B : Prop) : Prop := match a with | .imm (.bool t) => (t = true → A) ∧ (t = false → B) | _ => False
@[congr] theorem wCond_congr {a a' : AV} {A B : Prop} (h : a = a') : wCond a A B = wCond a' A B := by rw [h]
theorem wCond_t {A B : Prop} : wCond (.imm (.bool true)) A B = A := by simp [wCond]
theorem wCond_f {A B : Prop} : wCond (.imm (.bool false)) A B = B := by simp [wCond]
theorem wCond_b {t : Bool} {A B : Prop} : wCond (.imm (.bool t)) A B = ((t = true → A) ∧ (t = false → B)) := rfl
theorem wCond_d {p : Prop} [Decidable p] {A B : Prop} : wCond (.imm (.bool (decide p))) A B = ((p → A) ∧ (¬ p → B)) := by
  by_cases h : p <;> simp [wCond, h]
theorem wCond_tb {t : Bool} {A B : Prop} : wCond (.imm (.bool (tb t))) A B = ((t = true → A) ∧ (t = false → B)) := rfl
theorem wCode_cond {cd : Operand} {p q : ACode} : wCode S (.cond cd p q) ⟨e, g, v, tg, tp, x⟩ N Rr E = wCond (St.ev ⟨e, g, v, tg, tp, x⟩ cd) (wCode S p ⟨e, g, v, tg, tp, x⟩ N Rr E) (wCode S q ⟨e, g, v, tg, tp, x⟩ N Rr E) := rfl
theorem wCode_block {i : Nat} {p : ACode} : wCode S (.block i p) st N Rr E = wCode S p st N Rr fun j s => if j = i then N s else E j s := rfl
theorem wCode_loop {p : ACode} : wCode S (.loop p) st N Rr E = AW S (.loop p) st N Rr E := rfl
theorem wCode_exit {i : Nat} : wCode S (.exit i) st N Rr E = E i st := rfl
theorem wCode_ret : wCode S .ret st N Rr E = Rr st := rfl
theorem off_sys {O : Outs σ} {P : Program} {T : List Nat} {nt k : Nat} {th : List Nat} {fz : List (Nat × Nat × Nat)} : (sys O P T nt k th fz).off = k := rfl
theorem ends_eq {F : AFun} {r : AV} {st : St σ} : ends F r st = wOpt (resL st F.res) fun l => wOpt (out st (resV l)) fun r0 => r0.le r := rfl

/-! ### ends -/
def endR (a r : AV) (st : St σ) : Prop := wOpt (out st a) fun r0 => r0.le r
@[congr] theorem endR_congr {a a' r : AV} {st : St σ} (h : a = a') : endR a r st = endR a' r st := by rw [h]
theorem ends_one {n : Nat} {c : ACode} {s : Nat} {r : AV} : ends ⟨n, c, [(s, none)]⟩ r (⟨e, g, v, tg, tp, x⟩ : St σ) = endR (e s) r ⟨e, g, v, tg, tp, x⟩ := rfl
theorem ends_two {n : Nat} {c : ACode} {s s' : Nat} {r : AV} : ends ⟨n, c, [(s, none), (s', none)]⟩ r (⟨e, g, v, tg, tp, x⟩ : St σ) = endR (.tup [e s, e s']) r ⟨e, g, v, tg, tp, x⟩ := rfl
theorem endR_imm {u w : Value} {st : St σ} : endR (.imm u) (.imm w) st = (u = w) := by
  simp only [endR, out, AV.weaks, AV.weak1, AV.weak, AV.pureB, if_true, wOpt_some, AV.le, AV.le2]
  unfold AV.le1
  split
  · rename_i h; cases h
  · rename_i h; cases h
  · simp
end
end Go.Av

namespace Go.Av
variable {σ : Type}

/-- The contract of function f (by its number here). -/
def Con (P : Program) (T : List Nat) (f : Nat) (xs : List AV) (r : AV) : Prop := ∀ n, T[f]? = some n → PCall P n xs r
/-- Function f of the program is, without types, F. -/
def Tied (P : Program) (T : List Nat) (f : Nat) (F : AFun) : Prop := ∀ n, T[f]? = some n → ∃ fn, P.funcs[n]? = some fn ∧ compF P T fn = some F ∧ (fn.name == "runtime.NumGoroutine") = false
theorem C_sys {O : Outs σ} {P : Program} {T : List Nat} {nt k : Nat} {th : List Nat} {fz : List (Nat × Nat × Nat)} {f : Nat} {xs : List AV} {r : AV} : (sys O P T nt k th fz).C f xs r = Con P T f xs r := rfl
theorem Con_of (O : Outs σ) {P : Program} {T : List Nat} {f : Nat} {F : AFun} (ht : Tied P T f F) {args : List AV} {r : AV} (th : List Nat) (fz : List (Nat × Nat × Nat)) (hargs : args.length ≤ F.nt)
    (h : wCode (sys O P T F.nt 0 th fz) F.code (st0 O.x0 args) (ends F r) (ends F r) (fun _ _ => False)) : Con P T f args r := by
  intro n hn
  obtain ⟨fn, hf, hc, _⟩ := ht n hn
  exact PCall_of hf hc hargs h
theorem Con_ofA (O : Outs σ) {P : Program} {T : List Nat} {f : Nat} {F : AFun} (ht : Tied P T f F) {args : List AV} {r : AV} (th : List Nat) (fz : List (Nat × Nat × Nat)) (hargs : args.length ≤ F.nt)
    (h : AW (sys O P T F.nt 0 th fz) F.code (st0 O.x0 args) (ends F r) (ends F r) (fun _ _ => False)) : Con P T f args r := by
  intro n hn
  obtain ⟨fn, hf, hc, _⟩ := ht n hn
  exact PCall_ofA hf hc hargs h
theorem CV_of {O : Outs σ} {P : Program} {T : List Nat} {nt k : Nat} {th : List Nat} {fz : List (Nat × Nat × Nat)} {f : Nat} {F : AFun} (ht : Tied P T f F) (hl : f < T.length) {xs : List AV} {r : AV} (h : Con P T f xs r) : (sys O P T nt k th fz).CV (T.getD f 0) xs r := by
  have hn : T[f]? = some (T.getD f 0) := by rw [List.getD_eq_getElem?_getD, List.getElem?_eq_getElem hl]; rfl
  obtain ⟨fn, hf, hc, hm⟩ := ht _ hn
  refine ⟨h _ hn, fn, hf, ?_, hm⟩
  unfold compF at hc
  split at hc
  · rename_i e; rw [e]; rfl
  · cases hc
/-- The same at the level of states. -/
theorem I_of {O : Outs σ} {P : Program} {T : List Nat} {nt k : Nat} {th : List Nat} {fz : List (Nat × Nat × Nat)} {f : Nat} {F : AFun} (ht : Tied P T f F) {xs : List AV} {st : St σ} {Q : AV → St σ → Prop} (k' : Nat) (th' : List Nat) (fz' : List (Nat × Nat × Nat)) (hxs : xs.length ≤ F.nt)
    (h : wCode (sys O P T F.nt k' th' fz') F.code { st with env := env0 xs } (endsI F st.env Q) (endsI F st.env Q) (fun _ _ => False)) : (sys O P T nt k th fz).I f xs st Q := by
  intro c hc n hn
  obtain ⟨fn, hf, hcc, _⟩ := ht n hn
  exact ICall_of hc.1.2 hc.2 hf hcc hxs h
theorem I_ofA {O : Outs σ} {P : Program} {T : List Nat} {nt k : Nat} {th : List Nat} {fz : List (Nat × Nat × Nat)} {f : Nat} {F : AFun} (ht : Tied P T f F) {xs : List AV} {st : St σ} {Q : AV → St σ → Prop} (k' : Nat) (th' : List Nat) (fz' : List (Nat × Nat × Nat)) (hxs : xs.length ≤ F.nt)
    (h : AW (sys O P T F.nt k' th' fz') F.code { st with env := env0 xs } (endsI F st.env Q) (endsI F st.env Q) (fun _ _ => False)) : (sys O P T nt k th fz).I f xs st Q := by
  intro c hc n hn
  obtain ⟨fn, hf, hcc, _⟩ := ht n hn
  exact ICall_ofA hc.1.2 hc.2 hf hcc hxs h
def opIn : Code → Nat → Nat → Option Op
  | .region id ops _, r, i => if id = r then (ops[i]?).map (·.op) else none
  | .seq a b, r, i => match opIn a r i with | some o => some o | none => opIn b r i
  | .cond _ a b, r, i => match opIn a r i with | some o => some o | none => opIn b r i
  | .block _ a, r, i => opIn a r i
  | .loop a, r, i => opIn a r i
  | _, _, _ => none
/-- The operation of function f at a place. -/
def opsOf (P : Program) (T : List Nat) (f r i : Nat) : Op := (((P.funcs[T.getD f 0]?).bind (·.body)).bind fun c => opIn c r i).getD (.move (.const (.bool false)))
/-- Nothing outside. -/
def nul : Outs Unit := ⟨fun _ _ _ _ => True, fun _ _ _ _ _ _ _ => trivial, (), fun _ => trivial⟩

theorem AV.le1_refl (x : AV) : x.le1 x := by
  cases x with
  | sl s t r => simp [AV.le1]
  | imm v => unfold AV.le1; split <;> simp_all
  | _ => simp [AV.le1]
theorem AV.les1_refl : ∀ xs : List AV, AV.les1 xs xs
  | [] => by simp [AV.les1]
  | x :: xs => by simp only [AV.les1]; exact ⟨AV.le1_refl x, AV.les1_refl xs⟩
theorem AV.le2_refl (x : AV) : x.le2 x := by
  cases x with
  | agg cs => simp only [AV.le2]; exact AV.les1_refl cs
  | _ => simp only [AV.le2]; exact AV.le1_refl _
theorem AV.les2_refl : ∀ xs : List AV, AV.les2 xs xs
  | [] => by simp [AV.les2]
  | x :: xs => by simp only [AV.les2]; exact ⟨AV.le2_refl x, AV.les2_refl xs⟩
section
variable {S : Sys σ} {b : Bool} {d : Nat} {st : St σ} {f : Nat} {xs ys : List AV} {r : AV} {K : AV → St σ → Prop}
theorem wCall_P (h : S.C f ys r) (hp : AV.pureBs (xs.map AV.weaks) = true) (hl : AV.les2 (xs.map AV.weaks) ys) (hk : wOpt (r.ret d (st.tgen d + 1)) fun v => K v (st.given d r)) : wCall S b d st f xs K :=
  .inl ⟨hp, ys, r, hl, h, hk⟩
theorem wCall_imm {u : Value} (h : S.C f ys (.imm u)) (hp : AV.pureBs (xs.map AV.weaks) = true) (hl : AV.les2 (xs.map AV.weaks) ys) (hk : K (.imm u) st) : wCall S b d st f xs K :=
  wCall_P h hp hl hk
/-- A result of its own, with room behind it. -/
theorem wCall_own {sz : Nat} {rows : List (List AV)} (h : S.C f ys (.sl sz (.own 0 0) rows)) (hp : AV.pureBs (xs.map AV.weaks) = true) (hl : AV.les2 (xs.map AV.weaks) ys) (hk : K (.sl sz (.own d (st.tgen d + 1)) rows) (st.give d rows.length)) : wCall S b d st f xs K :=
  wCall_P h hp hl hk
theorem wCall_pure (h : S.C f ys r) (hr : r.pureB = true) (hp : AV.pureBs (xs.map AV.weaks) = true) (hl : AV.les2 (xs.map AV.weaks) ys) (hk : K r st) : wCall S b d st f xs K := by
  refine wCall_P h hp hl ?_
  cases r with
  | sl sz tok rows => cases tok <;> simp_all [AV.ret, AV.pureB, wOpt, St.given]
  | _ => simp_all [AV.ret, AV.pureB, wOpt, St.given]
theorem wCall_I {F : AV → St σ → Prop} (h : S.I f xs st F) (hk : ∀ x st', F x st' → st'.env = st.env → K x st') : wCall S true d st f xs K := .inr (.inr ⟨rfl, F, h, hk⟩)
theorem wCallV_imm {g : Nat} {fs caps : List AV} {u : Value} (h : S.CV g ys (.imm u)) (hp : AV.pureBs (fs ++ xs.map AV.weaks ++ caps) = true) (hl : AV.les2 (fs ++ xs.map AV.weaks ++ caps) ys) (hk : K (.imm u) st) : wCallV S b d st g fs caps xs K :=
  .inl ⟨hp, ys, .imm u, hl, h, hk⟩
theorem wCallV_V {g : Nat} {fs caps zs : List AV} (h : S.CV g ys r) (hp : AV.pureBs (fs ++ xs.map AV.weaks ++ caps) = false) (hv : Views st (fs ++ xs ++ caps) zs) (hl : AV.les2 zs ys) (hr : r.flatB = true) (hk : K r st) : wCallV S b d st g fs caps xs K := .inr (.inl ⟨hp, zs, ys, r, hv, hl, h, hr, hk⟩)
theorem wCall_V {zs : List AV} (h : S.C f ys r) (hp : AV.pureBs (xs.map AV.weaks) = false) (hv : Views st xs zs) (hl : AV.les2 zs ys) (hr : r.flatB = true) (hk : K r st) : wCall S b d st f xs K := .inr (.inl ⟨hp, zs, ys, r, hv, hl, h, hr, hk⟩)
end
end Go.Av

namespace Go.Av
variable {σ : Type}
/-- An append; it is left standing. -/
def wApp (d : Nat) (st : St σ) (sz bytes : Nat) (x y : AV) (K : AV → St σ → Prop) : Prop :=
  match x.vslOf, x.asSl sz, y.asSl sz with
  | some (d', g, sz', off, n, cp), _, _ =>
    match st.src sz none y with
    | some (m, news) => (sz' = sz ∧ off = 0 ∧ g = st.gen d' ∧ n * sz ≤ (st.var d').length ∧ (n + m) * bytes ≤ 140737488355328) ∧ K (.vsl d ((st.kill d').gen d + 1) sz 0 (n + m) (keepCap cp (n + m))) ((st.kill d').newVar d ((st.var d').take (n * sz) ++ news))
    | none => False
  | none, some (tok, rows), some (_, news) =>
    (rows.length + news.length) * bytes ≤ 140737488355328 ∧ wOpt (appTok st d rows.length (rows.length + news.length) tok) fun st' => K (.sl sz (.own d (st.tgen d + 1)) (rows ++ news)) st'
  | _, _, _ => False
@[congr] theorem wApp_congr {d : Nat} {st : St σ} {sz bytes : Nat} {x x' y y' : AV} {K : AV → St σ → Prop} (h : x = x') (h2 : y = y') : wApp d st sz bytes x y K = wApp d st sz bytes x' y' K := by rw [h, h2]
section
variable {e : Nat → AV} {g : Nat → Nat} {v : Nat → List AV} {tg : Nat → Nat} {tp : Nat → Option Nat} {x : σ} {b : Bool} {d : Nat} {K : AV → St σ → Prop}
theorem wAct_app1 {O : Outs σ} {P : Program} {T : List Nat} {nt k : Nat} {fz : List (Nat × Nat × Nat)} {sz by' : Nat} {y z : Operand} : wAct (sys O P T nt k [] fz) b d ⟨e, g, v, tg, tp, x⟩ (.app sz by' y z) K = wApp d ⟨e, g, v, tg, tp, x⟩ sz by' (St.ev ⟨e, g, v, tg, tp, x⟩ y) (St.ev ⟨e, g, v, tg, tp, x⟩ z) K := by
  rw [wAct_app rfl]
  simp only [wVal, act, wApp]
  generalize AV.vslOf (St.ev ⟨e, g, v, tg, tp, x⟩ y) = o
  generalize AV.asSl sz (St.ev ⟨e, g, v, tg, tp, x⟩ y) = p
  generalize AV.asSl sz (St.ev ⟨e, g, v, tg, tp, x⟩ z) = q
  rcases o with _ | ⟨d', g', sz', off, n, cp⟩
  · rcases p with _ | ⟨t1, r1⟩ <;> rcases q with _ | ⟨t2, r2⟩ <;> simp only [wOpt_none, wOpt_if, wOpt_map]
  · simp only
    generalize St.src ⟨e, g, v, tg, tp, x⟩ sz none (St.ev ⟨e, g, v, tg, tp, x⟩ z) = u
    rcases u with _ | ⟨m, news⟩
    · rfl
    · simp only [wOpt_if, wOpt_some]
end
/-- A slice of the call's own (token d), or none yet. -/
def OwnSl (st : St σ) (a : AV) (d sz : Nat) (rows : List (List AV)) : Prop :=
  (a = .imm (.slice none 0 0) ∧ rows = []) ∨ (a = .sl sz .full [] ∧ rows = []) ∨ a = .sl sz (.own d (st.tgen d)) rows ∧ st.top d = some rows.length
theorem wApp_own {st : St σ} {x y : AV} {d sz bytes : Nat} {rows news : List (List AV)} {tk : Tok} {K : AV → St σ → Prop} (h : OwnSl st x d sz rows) (hy : y.asSl sz = some (tk, news)) (hb : (rows.length + news.length) * bytes ≤ 140737488355328)
    (hK : K (.sl sz (.own d (st.tgen d + 1)) (rows ++ news)) (st.give d (rows.length + news.length))) : wApp d st sz bytes x y K := by
  unfold wApp
  rcases h with ⟨rfl, rfl⟩ | ⟨rfl, rfl⟩ | ⟨rfl, ht⟩
  · rw [hy]
    exact ⟨hb, by simpa [AV.asSl, appTok, wOpt] using hK⟩
  · rw [hy]
    simp only [AV.asSl, if_true]
    exact ⟨hb, by simpa [appTok, wOpt] using hK⟩
  · rw [hy]
    simp only [AV.asSl, if_true]
    refine ⟨hb, ?_⟩
    simp only [appTok, ht, and_self, if_true, wOpt]
    have : (st.spend d).give d (rows.length + news.length) = st.give d (rows.length + news.length) := by
      simp only [St.spend, St.give, St.mk.injEq, true_and, and_true]
      funext j
      simp only [upd]
      split <;> rfl
    rw [this]
    exact hK
theorem OwnSl.give {st : St σ} {d sz n : Nat} {rows : List (List AV)} (h : n = rows.length) : OwnSl (st.give d n) (.sl sz (.own d (st.tgen d + 1)) rows) d sz rows := by
  refine .inr (.inr ⟨?_, ?_⟩) <;> simp [St.give, upd, h]
theorem OwnSl.le {st : St σ} {a : AV} {d sz : Nat} {rows : List (List AV)} (h : OwnSl st a d sz rows) : endR a (.sl sz .ro rows) st := by
  rcases h with ⟨rfl, rfl⟩ | ⟨rfl, rfl⟩ | ⟨rfl, ht⟩
  · simp [endR, out, AV.weaks, AV.weak1, AV.weak, AV.pureB, wOpt, AV.le, AV.le2, AV.le1]
  · simp [endR, out, AV.weaks, AV.weak1, AV.weak, AV.pureB, wOpt, AV.le, AV.le2, AV.le1]
  · simp [endR, out, ht, wOpt, AV.le, AV.le2, AV.le1]

/-! ### more ends -/
theorem AV.le_refl (x : AV) : x.le x := by
  cases x with
  | tup cs => simp only [AV.le]; exact AV.les2_refl cs
  | _ => simp only [AV.le]; exact AV.le2_refl _
theorem out_pure {a : AV} {st : St σ} (h : a.weaks = a) (hp : a.pureB = true) : out st a = some a := by
  unfold out
  split
  · simp [AV.pureB] at hp
  · rw [h, if_pos hp]
theorem endR_pure {a : AV} {st : St σ} (h : a.weaks = a) (hp : a.pureB = true) : endR a a st := by
  unfold endR
  rw [out_pure h hp]
  exact AV.le_refl a
/-- A result that lies in a variable. -/
def endC (a : AV) (ag : Bool) (m : Nat) (r : AV) (st : St σ) : Prop :=
  match a with
  | .ptr d g off => (g = st.gen d ∧ 1 ≤ g ∧ off + m ≤ (st.var d).length) ∧ wOpt (AV.mk ag (((st.var d).drop off).take m)) fun b => endR b r st
  | _ => False
@[congr] theorem endC_congr {a a' r : AV} {ag : Bool} {m : Nat} {st : St σ} (h : a = a') : endC a ag m r st = endC a' ag m r st := by rw [h]
section
variable {e : Nat → AV} {g : Nat → Nat} {v : Nat → List AV} {tg : Nat → Nat} {tp : Nat → Option Nat} {x : σ}
theorem ends_cell {n : Nat} {c : ACode} {s : Nat} {ag : Bool} {m : Nat} {r : AV} : ends ⟨n, c, [(s, some (ag, m))]⟩ r (⟨e, g, v, tg, tp, x⟩ : St σ) = endC (e s) ag m r ⟨e, g, v, tg, tp, x⟩ := by
  simp only [ends, resL, resA, endC]
  cases e s with
  | ptr d q off =>
    simp only
    by_cases h : q = g d ∧ 1 ≤ q ∧ off + m ≤ (v d).length
    · rw [if_pos h]
      cases AV.mk ag (List.take m (List.drop off (v d))) with
      | none => simp [wOpt]
      | some b => simp only [Option.map_some, wOpt_some, resV, endR]; exact propext ⟨fun q => ⟨h, q⟩, fun q => q.2⟩
    · rw [if_neg h]
      simp [wOpt, h]
  | _ => simp [wOpt]
theorem endC_ptr {d q off : Nat} {ag : Bool} {m : Nat} {r : AV} : endC (.ptr d q off) ag m r (⟨e, g, v, tg, tp, x⟩ : St σ) = ((q = g d ∧ 1 ≤ q ∧ off + m ≤ (v d).length) ∧ wOpt (AV.mk ag (((v d).drop off).take m)) fun b => endR b r ⟨e, g, v, tg, tp, x⟩) := rfl
end
section
variable {k : IntKind} {m n : Int} {KA : AV → Prop}
theorem wBin_shr : wBin .shr (.imm (.int k m)) (.imm (.int k n)) KA = (n = 1 ∧ KA (.imm (.int k (m.fdiv 2)))) := by
  by_cases h : n = 1 <;> simp [wBin, binV, wOpt, h]
end
theorem half_wrap {n : Int} (h0 : 0 ≤ n) (h1 : n ≤ 4611686018427387904) : IntKind.i64.wrap ((IntKind.u64.wrap (IntKind.i64.wrap n)).fdiv 2) = n / 2 := by
  have e1 : IntKind.i64.wrap n = n := IntWalk.i64_in _ (by omega)
  have e2 : IntKind.u64.wrap n = n := by
    unfold IntKind.wrap
    simp [IntKind.bits, IntKind.signed]
    omega
  rw [e1, e2, Int.fdiv_eq_ediv_of_nonneg _ (by omega)]
  exact IntWalk.i64_in _ (by omega)
section
variable {e : Nat → AV} {g : Nat → Nat} {v : Nat → List AV} {tg : Nat → Nat} {tp : Nat → Option Nat} {x : σ} {n : Nat} {c : ACode} {s s' : Nat} {env : Nat → AV} {Q : AV → St σ → Prop}
theorem endsI_none : endsI ⟨n, c, []⟩ env Q (⟨e, g, v, tg, tp, x⟩ : St σ) = Q (.tup []) ⟨env, g, v, tg, tp, x⟩ := rfl
theorem endsI_one : endsI ⟨n, c, [(s, none)]⟩ env Q (⟨e, g, v, tg, tp, x⟩ : St σ) = Q (e s) ⟨env, g, v, tg, tp, x⟩ := rfl
theorem endsI_two : endsI ⟨n, c, [(s, none), (s', none)]⟩ env Q (⟨e, g, v, tg, tp, x⟩ : St σ) = Q (.tup [e s, e s']) ⟨env, g, v, tg, tp, x⟩ := rfl
end
theorem splice_all {l xs : List AV} (h : l.length ≤ xs.length) : splice l 0 xs = xs := by
  unfold splice
  rw [List.drop_of_length_le (by omega)]
  simp
/-! ### views -/
theorem View.imm {st : St σ} (v : Value) : View st (.imm v) (.imm v) := .weak (x := .imm v) rfl
theorem Views.imms {st : St σ} : ∀ l : List Value, Views st (l.map .imm) (l.map .imm)
  | [] => .nil
  | v :: l => .cons (View.imm v) (Views.imms l)
theorem View.same {st : St σ} {x : AV} (h : x.weaks = x) (hp : x.pureB = true) : View st x x := by
  have := View.weak (st := st) (x := x) (by rw [h]; exact hp)
  rwa [h] at this
end Go.Av

namespace Go.Av
variable {σ : Type}
section
variable {c : Cx σ} {st : St σ} {a : Act} {w : World} {ow : Nat → Own} {τ : Nat → Nat} {ob : Nat → Value → Prop}
/-- A slice's variable gets the name d'. -/
theorem FR.ren (h : FR c st a w ow τ ob) {d sz n : Nat} {cp : Option Nat} (d' : Nat) {v : Value} (hv : R (Kof c st w ow τ ob) (.vsl d (st.gen d) sz 0 n cp) v) :
    ∃ ow', FR c ((st.kill d).newVar d' (st.var d)) a w ow' τ ob ∧ R (Kof c ((st.kill d).newVar d' (st.var d)) w ow' τ ob) (.vsl d' ((st.kill d).gen d' + 1) sz 0 n cp) v := by
  simp only [R] at hv
  obtain ⟨_, A, z, rfl, h1, h2, h3, hb⟩ := hv
  obtain ⟨b, o, hvb, rfl, ho⟩ := hb rfl
  obtain ⟨cs, T, hheap, hsz, hone, hr⟩ := var_block h hvb
  obtain ⟨kF, kK⟩ := h.kill d
  obtain ⟨k1, _, k3, k4⟩ := kF.adopt (b := b) d' hvb.1 (killOwn_at hvb.2.1) hheap (xs := st.var d) (cs := cs.toList) hone (Rs_mono kK _ _ hr)
  rw [Array.toArray_toList, setRow_self w b cs T (0, 0) hheap] at k1 k3 k4
  refine ⟨_, k1, ?_⟩
  simp only [R]
  exact ⟨k3, _, _, rfl, h1, h2, h3, fun _ => ⟨b, o, k4 _ (by simpa using hsz), rfl, ho⟩⟩
end
variable {S : Sys σ} {f : Nat} {xs : List AV} {st : St σ} {F F' : AV → St σ → Prop}
theorem I_le (h : S.I f xs st F) (hF : ∀ x s, F x s → ∃ y, x.le y ∧ F' y s) : S.I f xs st F' := by
  intro c hc n hn a w ow τ ob vs hFR hvs
  refine (h c hc n hn a w ow τ ob vs hFR hvs).mono ?_
  rintro e w' ⟨v, x, st', ow', τ', ob', rfl, hx, he, hF', hR⟩
  obtain ⟨y, hle, hy⟩ := hF x st' hx
  exact ⟨v, y, st', ow', τ', ob', rfl, hy, he, hF', R_le hle hR⟩
/-- The result's variable gets the name d'. -/
theorem I_ren (d' : Nat) (h : S.I f xs st F) (hF : ∀ x s, F x s → ∃ d sz n cp, x = .vsl d (s.gen d) sz 0 n cp ∧ F' (.vsl d' ((s.kill d).gen d' + 1) sz 0 n cp) ((s.kill d).newVar d' (s.var d))) : S.I f xs st F' := by
  intro c hc n hn a w ow τ ob vs hFR hvs
  refine (h c hc n hn a w ow τ ob vs hFR hvs).mono ?_
  rintro e w' ⟨v, x, st', ow', τ', ob', rfl, hx, he, hF', hR⟩
  obtain ⟨d, sz, m, cp, rfl, hy⟩ := hF x st' hx
  obtain ⟨ow'', k1, k2⟩ := hF'.ren d' hR
  exact ⟨v, _, _, ow'', τ', ob', rfl, hy, he, k1, k2⟩
/-- The capacity of the first argument may be taken as known. -/
theorem I_cap {d g sz off n : Nat} (h : ∀ cc, n ≤ cc → cc ≤ maxLen → S.I f (.vsl d g sz off n (some cc) :: xs) st F) : S.I f (.vsl d g sz off n none :: xs) st F := by
  intro c hc m hm a w ow τ ob vs hFR hvs
  simp only [Rt] at hvs
  obtain ⟨v, r, rfl, hx, hr⟩ := hvs
  have hx' := hx
  simp only [R] at hx'
  obtain ⟨h1, A, z, rfl, h2, h3, _, h4⟩ := hx'
  refine h z h2 h3 c hc m hm a w ow τ ob _ hFR ?_
  simp only [Rt]
  refine ⟨_, r, rfl, ?_, hr⟩
  simp only [R]
  exact ⟨h1, A, z, rfl, h2, h3, fun c' hc' => by injection hc' with hc'; exact hc'.symm, h4⟩
/-! ### slices.overlaps -/
theorem run_overlaps_var {P : Program} (w : World) {t e : TypeId} (rs : Array TypeId) {ie : TypeInfo} (ht : P.underlying t = some (.slice e)) (hi : P.info? e = some ie) (ps : Array TypeId) (hp : ps[0]? = some t) {a b : Addr} {la ca lb cb : Nat} (hne : a.block ≠ b.block) {ca' cb' : Array Value} {tA tB : TypeId} {fa : Nat × Nat}
    (hA : w.heap[a.block]? = some (.cells ca' tA fa)) (hz : ca'.size ≠ 0) (hB : w.heap[b.block]? = some (.cells cb' tB (0, 0))) :
    (Extern.SlicesOverlaps.overlaps ps rs #[.slice (some a) la ca, .slice (some b) lb cb]).run P w = .ok (.bool false) w := by
  have hnb : (a.block != b.block) = true := by simpa using hne
  have hnb' : (a.block == b.block) = false := by simpa using hne
  have hsa : w.shape? a.block = some (tA, ca'.size) := by simp [World.shape?, hA]
  have hsb : w.shape? b.block = some (tB, cb'.size) := by simp [World.shape?, hB]
  have hfb : w.frozen? b = false := by simp [World.frozen?, hB]
  have hfe : w.frozen? { block := b.block, off := cb'.size } = false := by simp [World.frozen?, hB]
  change Sem.run P (α := Value) (do
    let some t := ps[0]? | stuck "slices.overlaps: no parameter types"
    let .slice elem ← underlying t | stuck "slices.overlaps: slice type expected"
    let size ← sizeOf elem
    match (some a : Option Addr), (some b : Option Addr) with
    | some a, some b =>
      if la = 0 ∨ lb = 0 ∨ size = 0 then pure (Value.bool false)
      else if a.block != b.block && (← frozen a) && (← frozen b) then unsupported .addressObserved
      else do
        if a.block != b.block then do
          noView a; noView b
          if ← mayBeOne a b then return Value.bool ((← choose (.extern "sameAddr.stringBytes" 2)) == 1)
        pure (Value.bool (a.block == b.block && a.off < b.off + lb * size && b.off < a.off + la * size))
    | _, _ => pure (Value.bool false)) w = _
  by_cases h0 : la = 0 ∨ lb = 0 ∨ ie.size = 0
  · simp [hp, run_underlying ht, run_sizeOf' hi, h0]
  · obtain ⟨kA, hkA⟩ : ∃ kA, ca'.size = kA + 1 := ⟨ca'.size - 1, by omega⟩
    rw [hkA] at hsa
    cases hfa : w.frozen? a <;> cases hfe2 : w.frozen? { block := a.block, off := kA + 1 } <;>
      simp [hp, run_underlying ht, run_sizeOf' hi, h0, hnb, hnb', frozen, noView, viewAt, mayBeOne, stringish, shape, Sem.run, hsa, hsb, hfa, hfe, hfb, hfe2]
theorem HStep_overlaps {P : Program} {c : Cx σ} {st : St σ} {f : Nat} {fn : Func} {x y : Operand} {tys : Array TypeId} {t e : TypeId} {ie : TypeInfo} {d g sz off n : Nat} {cp : Option Nat} {tok : Tok} {rows : List (List AV)} (hf : P.funcs[f]? = some fn) (hb : fn.body = none) (hn : (fn.name == "runtime.NumGoroutine") = false)
    (h1 : Extern.findNext fn = none) (h2 : Extern.find fn = some (Extern.SlicesOverlaps.overlaps fn.params fn.resultTypes)) (hp : fn.params[0]? = some t) (ht : P.underlying t = some (.slice e)) (hi : P.info? e = some ie) (hsz : 0 < sz)
    (hx : st.ev x = .sl sz tok rows) (hr : rows ≠ []) (hy : st.ev y = .vsl d g sz off n cp) (hg : g = st.gen d) : HStep P c (.call { callee := .value (.func f), args := #[x, y], argTypes := tys }) st (fun u s => u = .imm (.bool false) ∧ s = st) := by
  intro dst type pos after guard a w ow τ ob hF K Q hK
  have hRx := R_ev hF x
  have hRy := R_ev hF y
  rw [hx] at hRx
  rw [hy] at hRy
  simp only [R] at hRx hRy
  obtain ⟨A, z, hvx, _, _, hrows, _⟩ := hRx
  obtain ⟨bx, ox, rfl, hrx⟩ := hrows hr
  obtain ⟨_, B, z', hvy, _, _, _, hb'⟩ := hRy
  obtain ⟨by', oy, hvb, rfl, _⟩ := hb' hg
  obtain ⟨cs, T, hheap, _, _, _⟩ := var_block hF hvb
  obtain ⟨v0, hic⟩ : ∃ v0, (Kof c st w ow τ ob).ic ⟨bx, ox, none⟩ v0 := by
    cases rows with
    | nil => exact absurd rfl hr
    | cons r rows =>
      simp only [rowsAt] at hrx
      obtain ⟨hr0, hl, _⟩ := hrx
      cases r with
      | nil => simp at hl; omega
      | cons u r =>
        simp only [rowAt] at hr0
        obtain ⟨⟨v0, hv0, _⟩, _⟩ := hr0
        exact ⟨v0, hv0⟩
  obtain ⟨_, hcell, hwho⟩ := hic
  have hblk : ∃ ca' tA fa, w.heap[bx]? = some (.cells ca' tA fa) ∧ ca'.size ≠ 0 := by
    simp only [World.cell?] at hcell
    split at hcell
    · rename_i cc tA fa hq
      refine ⟨cc, tA, fa, hq, ?_⟩
      simp at hcell
      have := (Array.getElem?_eq_some_iff.1 hcell).1
      omega
    · cases hcell
  obtain ⟨ca', tA, fa, hA, hz⟩ := hblk
  have hne : bx ≠ by' := by
    rintro rfl
    obtain ⟨q1, q2, _⟩ := hvb
    rcases hwho with hg0 | ⟨_, hi' | ⟨tt, ht', _⟩⟩
    · have := (c.g0 _ hg0).1
      simp only at this
      omega
    · simp only at hi'; rw [hi'] at q2; cases q2
    · simp only at ht'; rw [ht'] at q2; cases q2
  have hrun := run_overlaps_var (P := P) w fn.resultTypes ht hi fn.params hp (a := ⟨bx, ox, none⟩) (b := ⟨by', oy, none⟩) (la := rows.length) (ca := z) (lb := n) (cb := z') hne hA hz hheap
  have hcall := run_callFunc_extern (P := P) hf hn (by rw [hb]; rfl) h1 h2 #[.slice (some ⟨bx, ox, none⟩) rows.length z, .slice (some ⟨by', oy, none⟩) n z'] w
  rw [hrun] at hcall
  refine wp_value (v := .bool false) (w' := w) ?_ (hK (.imm (.bool false)) st (.bool false) w ow τ ob ⟨rfl, rfl⟩ hF (by unfold R; exact ⟨rfl, rfl⟩))
  simp only [execOp, resolve, Act.eval, Deferred.ofValue, Sem.run_bind, Sem.run_pure, Result.andThen_ok, invoke]
  have e1 : (#[x, y].map a.eval) = #[.slice (some ⟨bx, ox, none⟩) rows.length z, .slice (some ⟨by', oy, none⟩) n z'] := by simp [hvx, hvy]
  have e2 : (#[] ++ #[x, y].map a.eval ++ #[] : Array Value) = #[.slice (some ⟨bx, ox, none⟩) rows.length z, .slice (some ⟨by', oy, none⟩) n z'] := by simp [hvx, hvy]
  rw [e2]
  simp [hcall]
end Go.Av

namespace Go.Av
variable {σ : Type}
theorem HStep_clear {P : Program} {c : Cx σ} {st : St σ} {x : Operand} {t e : TypeId} {i : TypeInfo} {zv : Value} {d g off n : Nat} {cp : Option Nat} (ht : P.underlying t = some (.slice e)) (hi : P.info? e = some i) (hzv : i.zero = some zv) (hzs : zv.cells.size = i.size) (hsz : 0 < i.size) (hz1 : zv.cells.toList.all (·.oneCell') = true)
    (hx : st.ev x = .vsl d g i.size off n cp) (hg : g = st.gen d) (hn : n ≠ 0) :
    HStep P c (.call { callee := .builtin .clear, args := #[x], argTypes := #[t] }) st (fun u s => u = undefA ∧ s = { st with var := upd st.var d (splice (padTo (st.var d) (off + n * i.size)) off (List.replicate n (zv.cells.toList.map AV.imm)).flatten) }) := by
  intro dst type pos after guard a w ow τ ob hF K Q hK
  have hz1' := List.all_eq_true.1 hz1
  have hy := R_ev hF x
  rw [hx] at hy
  simp only [R] at hy
  obtain ⟨_, A, zc, hv, hnz, _, _, hb⟩ := hy
  obtain ⟨b, o, hvb, rfl, ho⟩ := hb hg
  have := ho (by omega)
  subst this
  obtain ⟨cs, T', hheap, hcsz, h1, hr⟩ := var_block hF hvb
  have hmz : n * i.size ≤ zc * i.size := Nat.mul_le_mul_right _ hnz
  have hul : (List.replicate n zv.cells.toList).flatten.length = n * i.size := by simp [hzs]
  have hzl : (List.replicate n (zv.cells.toList.map AV.imm)).flatten.length = n * i.size := by simp [hzs]
  have hrn : Rs (Kof c st w ow τ ob) (List.replicate n (zv.cells.toList.map AV.imm)).flatten (List.replicate n zv.cells.toList).flatten := Rs_zeros hz1' n
  have hone := zeros_one hz1' n
  have hfit : o + (List.replicate n zv.cells.toList).flatten.length ≤ cs.size := by rw [hul]; omega
  have hpad := Rs_pad (m := o + n * i.size) h1 (by simp; omega) hr
  have hpl := padTo_length (st.var d) (o + n * i.size)
  have hml : (padTo (st.var d) (o + n * i.size)).length ≤ cs.toList.length := by
    have := Rs_length hr
    simp at this ⊢
    omega
  have hsp := Rs_splice o hpad hrn
  rw [← splice_take (by omega) hml, ← splice_length (padTo (st.var d) (o + n * i.size)) (List.replicate n (zv.cells.toList.map AV.imm)).flatten o (by omega)] at hsp
  obtain ⟨k1, k2⟩ := hF.setVar hvb.1 hvb.2.1 hheap (by rw [splice_length _ _ _ (by simpa using hfit)]; simp) (splice_one h1 hone) hsp
  have hst := run_storeCells_at P b o T' (List.replicate n zv.cells.toList).flatten 0 cs w hheap (by simpa using hfit) hone
  simp only [Nat.add_zero] at hst
  refine wp_value (v := .tuple #[]) (w' := w.setRow b (splice cs.toList o (List.replicate n zv.cells.toList).flatten).toArray) ?_ (hK _ _ _ _ _ _ _ ⟨rfl, rfl⟩ k1 (R_undef _))
  have hzl2 := zeros_list (z := zv.cells) n (by omega)
  obtain ⟨n, rfl⟩ : ∃ k, n = k + 1 := ⟨n - 1, by omega⟩
  simp only [execOp, resolve, invoke, builtin, Sem.run_bind, Sem.run_pure, Result.andThen_ok, List.map_toArray, List.map_cons, List.map_nil, hv, Builtin.clear_, List.getElem?_toArray, List.getElem?_cons_zero, run_underlying' ht, run_zeroValue' hi hzv, hzl2, hst, splice]
end Go.Av

namespace Go.Av
variable {σ : Type}
theorem wOpt_mono {α : Type} {o : Option α} {K K' : α → Prop} (h : ∀ a, K a → K' a) : wOpt o K → wOpt o K' := by
  cases o with
  | none => exact id
  | some a => exact h a
section
variable {S : Sys σ} {b : Bool} {d : Nat} {st : St σ} {K K' : AV → St σ → Prop}
theorem wCall_mono (h : ∀ a s, K a s → K' a s) {f : Nat} {xs : List AV} : wCall S b d st f xs K → wCall S b d st f xs K' := by
  rintro (⟨h1, ys, r, h2, h3, h4⟩ | ⟨h1, zs, ys, r, h2, h3, h4, h5, h6⟩ | ⟨h1, F, h2, h3⟩)
  · exact .inl ⟨h1, ys, r, h2, h3, wOpt_mono (fun a => h a _) h4⟩
  · exact .inr (.inl ⟨h1, zs, ys, r, h2, h3, h4, h5, h _ _ h6⟩)
  · exact .inr (.inr ⟨h1, F, h2, fun x s hF he => h _ _ (h3 x s hF he)⟩)
theorem wCallV_mono (h : ∀ a s, K a s → K' a s) {g : Nat} {fs caps xs : List AV} : wCallV S b d st g fs caps xs K → wCallV S b d st g fs caps xs K' := by
  rintro (⟨h1, ys, r, h2, h3, h4⟩ | ⟨h1, zs, ys, r, h2, h3, h4, h5, h6⟩ | ⟨h1, F, h2, h3⟩)
  · exact .inl ⟨h1, ys, r, h2, h3, wOpt_mono (fun a => h a _) h4⟩
  · exact .inr (.inl ⟨h1, zs, ys, r, h2, h3, h4, h5, h _ _ h6⟩)
  · exact .inr (.inr ⟨h1, F, h2, fun x s hF he => h _ _ (h3 x s hF he)⟩)
theorem wAct_mono (h : ∀ a s, K a s → K' a s) {op : AOp} (hw : wAct S b d st op K) : wAct S b d st op K' := by
  cases op
  case pick c x y =>
    simp only [wAct, wPick] at hw ⊢
    split at hw
    · exact ⟨fun e => h _ _ (hw.1 e), fun e => h _ _ (hw.2 e)⟩
    · exact hw
  case iaddr sz x i =>
    simp only [wAct, wIdx] at hw ⊢
    split at hw
    · exact ⟨hw.1, h _ _ hw.2⟩
    · exact ⟨hw.1, fun row hr => h _ _ (hw.2 row hr)⟩
    · exact hw
  case call f args => exact wCall_mono h hw
  case callv x args =>
    simp only [wAct] at hw ⊢
    split at hw
    · exact wCallV_mono h hw
    · exact hw
  case snil ng x =>
    simp only [wAct, wSnil] at hw ⊢
    split at hw
    · exact h _ _ hw
    · exact ⟨fun e => h _ _ (hw.1 e), fun e => ⟨(hw.2 e).1, h _ _ (hw.2 e).2.1, h _ _ (hw.2 e).2.2⟩⟩
    · exact ⟨hw.1, h _ _ hw.2⟩
    · exact hw
  case app sz bytes x y =>
    simp only [wAct] at hw ⊢
    split at hw
    · rename_i hc
      rw [if_pos hc]
      unfold wThaw at hw ⊢
      split at hw
      · exact ⟨hw.1, h _ _ hw.2⟩
      · exact hw
    · rename_i hc
      rw [if_neg hc]
      exact wOpt_mono (fun r => h r.1 r.2) hw
  case hard o =>
    simp only [wAct] at hw ⊢
    obtain ⟨h1, F, h2, h3⟩ := hw
    exact ⟨h1, F, h2, fun x s hF => h _ _ (h3 x s hF)⟩
  all_goals
    simp only [wAct] at hw ⊢
    exact wOpt_mono (fun r => h r.1 r.2) hw
end
section
variable {S : Sys σ} {b : Bool} {st : St σ} {K K' : St σ → Prop}
theorem wStep_mono (h : ∀ s, K s → K' s) {o : AOper} (hw : wStep S b st o K) : wStep S b st o K' := by
  obtain ⟨dst, op, gd⟩ := o
  cases gd with
  | none => exact wAct_mono (fun a s => h _) hw
  | some p =>
    obtain ⟨g, t⟩ := p
    simp only [wStep] at hw ⊢
    unfold wGuard at hw ⊢
    split at hw
    · exact ⟨fun q => wAct_mono (fun a s => h _) (hw.1 q), fun q => h _ (hw.2 q)⟩
    · exact h _ hw
    · exact hw
theorem wFrz_mono {K K' : St σ → Prop} {o : AOper} (h : ∀ s, K s → K' s) (hw : wFrz S st o K) : wFrz S st o K' := by
  unfold wFrz at hw ⊢
  split at hw
  · exact h _ hw
  · exact h _ hw
theorem wOps_mono : ∀ (l : List AOper) {st : St σ} {K K' : St σ → Prop}, (∀ s, K s → K' s) → wOps S st l K → wOps S st l K'
  | [], st, K, K', h, hw => h _ hw
  | o :: l, st, K, K', h, hw => by
    simp only [wOps] at hw ⊢
    exact wFrz_mono (fun s => wStep_mono fun s' => wOps_mono l h) hw
theorem wOps_append : ∀ (a : List AOper) {b : List AOper} {st : St σ} {K : St σ → Prop}, wOps S st a (fun s => wOps S s b K) → wOps S st (a ++ b) K
  | [], b, st, K, h => h
  | o :: a, b, st, K, h => by
    simp only [List.cons_append, wOps] at h ⊢
    exact wFrz_mono (fun s => wStep_mono fun s' hs => wOps_append a hs) h
theorem wOps_cut {l : List AOper} (n : Nat) (I : St σ → Prop) (h1 : wOps S st (l.take n) I) (h2 : ∀ s, I s → wOps S s (l.drop n) K) : wOps S st l K := by
  have := wOps_append (l.take n) (b := l.drop n) (wOps_mono (l.take n) h2 h1)
  rwa [List.take_append_drop] at this
/-- Some slots hold these values. -/
def Envs (e : Nat → AV) : List (Nat × AV) → Prop
  | [] => True
  | (i, a) :: l => e i = a ∧ Envs e l
/-- .. where memory is as it was. -/
theorem wOps_cutL {l : List AOper} {e : Nat → AV} {g : Nat → Nat} {v : Nat → List AV} {tg : Nat → Nat} {tp : Nat → Option Nat} {x : σ} (n : Nat) (L : List (Nat × AV))
    (h1 : wOps S ⟨e, g, v, tg, tp, x⟩ (l.take n) fun s => s.gen = g ∧ s.var = v ∧ s.tgen = tg ∧ s.top = tp ∧ s.x = x ∧ Envs s.env L) (h2 : ∀ e', Envs e' L → wOps S ⟨e', g, v, tg, tp, x⟩ (l.drop n) K) : wOps S ⟨e, g, v, tg, tp, x⟩ l K := by
  refine wOps_cut n _ h1 ?_
  rintro ⟨e', g', v', tg', tp', x'⟩ ⟨rfl, rfl, rfl, rfl, rfl, hL⟩
  exact h2 e' hL
end
theorem b_d {p q : Prop} [Decidable p] [Decidable q] (h : p ↔ q) : AV.imm (.bool (decide p)) = AV.imm (.bool (decide q)) := by
  rw [decide_eq_decide.2 h]
theorem b_t {q : Prop} [Decidable q] (h : q) : AV.imm (.bool true) = AV.imm (.bool (decide q)) := by rw [decide_eq_true h]
theorem b_f {q : Prop} [Decidable q] (h : ¬ q) : AV.imm (.bool false) = AV.imm (.bool (decide q)) := by rw [decide_eq_false h]
theorem b_y {y : Bool} {q : Prop} [Decidable q] (h : y = true ↔ q) : AV.imm (.bool (tb y)) = AV.imm (.bool (decide q)) := by
  have : tb y = decide q := by cases y <;> simp_all [tb]
  rw [this]
theorem b_n {y : Bool} {q : Prop} [Decidable q] (h : y = false ↔ q) : AV.imm (.bool !(tb y)) = AV.imm (.bool (decide q)) := by
  have : (!(tb y)) = decide q := by cases y <;> simp_all [tb]
  rw [this]
end Go.Av

namespace Go.Av
variable {σ : Type}
/-- Other names than lo .. hi - 1 are as they were. -/
def Oth (lo hi : Nat) (st s : St σ) : Prop := s.x = st.x ∧ ∀ j, (j < lo ∨ hi ≤ j) → s.gen j = st.gen j ∧ s.var j = st.var j ∧ s.tgen j = st.tgen j ∧ s.top j = st.top j
theorem Oth.refl (lo hi : Nat) (st : St σ) : Oth lo hi st st := ⟨rfl, fun _ _ => ⟨rfl, rfl, rfl, rfl⟩⟩
theorem Oth.trans {lo hi : Nat} {a b c : St σ} (h : Oth lo hi a b) (k : Oth lo hi b c) : Oth lo hi a c :=
  ⟨k.1.trans h.1, fun j hj => ⟨((k.2 j hj).1).trans (h.2 j hj).1, ((k.2 j hj).2.1).trans (h.2 j hj).2.1, ((k.2 j hj).2.2.1).trans (h.2 j hj).2.2.1, ((k.2 j hj).2.2.2).trans (h.2 j hj).2.2.2⟩⟩
theorem Oth.mono {lo hi lo' hi' : Nat} {a b : St σ} (h : Oth lo hi a b) (h1 : lo' ≤ lo) (h2 : hi ≤ hi') : Oth lo' hi' a b := ⟨h.1, fun j hj => h.2 j (by omega)⟩
theorem IV_of {O : Outs σ} {P : Program} {T : List Nat} {nt k : Nat} {th : List Nat} {fz : List (Nat × Nat × Nat)} {f : Nat} {F : AFun} (ht : Tied P T f F) (hl : f < T.length) {xs : List AV} {st : St σ} {Q : AV → St σ → Prop} (k' : Nat) (th' : List Nat) (fz' : List (Nat × Nat × Nat)) (hxs : xs.length ≤ F.nt)
    (h : wCode (sys O P T F.nt k' th' fz') F.code { st with env := env0 xs } (endsI F st.env Q) (endsI F st.env Q) (fun _ _ => False)) : (sys O P T nt k th fz).IV (T.getD f 0) xs st Q := by
  have hn : T[f]? = some (T.getD f 0) := by rw [List.getD_eq_getElem?_getD, List.getElem?_eq_getElem hl]; rfl
  refine ⟨fun c hc => I_of ht (O := O) (nt := nt) (k := k) (th := th) (fz := fz) k' th' fz' hxs h c hc _ hn, ?_⟩
  obtain ⟨fn, hf, hc, hm⟩ := ht _ hn
  refine ⟨fn, hf, ?_, hm⟩
  unfold compF at hc
  split at hc
  · rename_i e; rw [e]; rfl
  · cases hc
theorem wCallV_I {S : Sys σ} {d : Nat} {st : St σ} {g : Nat} {fs caps xs : List AV} {K : AV → St σ → Prop} {F : AV → St σ → Prop} (h : S.IV g (fs ++ xs ++ caps) st F) (hk : ∀ x st', F x st' → st'.env = st.env → K x st') : wCallV S true d st g fs caps xs K := .inr (.inr ⟨rfl, F, h, hk⟩)
theorem OwnSl.as {st : St σ} {a : AV} {d sz : Nat} {rows : List (List AV)} (h : OwnSl st a d sz rows) : a.vslOf = none ∧ (∃ tok, a.asSl sz = some (tok, rows)) ∧ AV.les2 [a.weaks] [.sl sz .ro rows] ∧ AV.pureBs [a.weaks] = true := by
  rcases h with ⟨rfl, rfl⟩ | ⟨rfl, rfl⟩ | ⟨rfl, _⟩
  · refine ⟨rfl, ⟨.full, rfl⟩, ?_, rfl⟩
    simp [AV.les2, AV.weaks, AV.weak1, AV.weak, AV.le2, AV.le1]
  · refine ⟨rfl, ⟨.full, by simp [AV.asSl]⟩, ?_, rfl⟩
    simp [AV.les2, AV.weaks, AV.weak1, AV.weak, AV.le2, AV.le1]
  · refine ⟨rfl, ⟨_, by simp [AV.asSl]; rfl⟩, ?_, rfl⟩
    simp [AV.les2, AV.weaks, AV.weak1, AV.weak, AV.le2, AV.le1]
theorem OwnSl.keep {st s : St σ} {a : AV} {d sz : Nat} {rows : List (List AV)} (h : OwnSl st a d sz rows) (h1 : s.tgen d = st.tgen d) (h2 : s.top d = st.top d) : OwnSl s a d sz rows := by
  rcases h with h | h | ⟨h, h3⟩
  · exact .inl h
  · exact .inr (.inl h)
  · exact .inr (.inr ⟨by rw [h1]; exact h, by rw [h2]; exact h3⟩)
end Go.Av

namespace Go.Av
variable {σ : Type}
/-- Less is known of the slots. -/
def Weak (s s' : St σ) : Prop := s'.gen = s.gen ∧ s'.var = s.var ∧ s'.tgen = s.tgen ∧ s'.top = s.top ∧ s'.x = s.x ∧ ∀ i, (s.env i).le (s'.env i)
theorem Weak.refl (s : St σ) : Weak s s := ⟨rfl, rfl, rfl, rfl, rfl, fun _ => AV.le_refl _⟩
theorem Weak.slot {e : Nat → AV} {g : Nat → Nat} {v : Nat → List AV} {tg : Nat → Nat} {tp : Nat → Option Nat} {x : σ} (i : Nat) (y : AV) (h : (e i).le y) : Weak ⟨e, g, v, tg, tp, x⟩ ⟨upd e i y, g, v, tg, tp, x⟩ := by
  refine ⟨rfl, rfl, rfl, rfl, rfl, fun j => ?_⟩
  simp only [upd]
  split
  · rename_i e; subst e; exact h
  · exact AV.le_refl _
theorem FR.weak {c : Cx σ} {s s' : St σ} {a : Act} {w : World} {ow : Nat → Own} {τ : Nat → Nat} {ob : Nat → Value → Prop} (h : FR c s a w ow τ ob) (hw : Weak s s') : FR c s' a w ow τ ob := by
  obtain ⟨e, g, v, tg, tp, x⟩ := s
  obtain ⟨e', g', v', tg', tp', x'⟩ := s'
  obtain ⟨h1, h2, h3, h4, h5, h6⟩ := hw
  simp only at h1 h2 h3 h4 h5 h6
  subst h1 h2 h3 h4 h5
  exact ⟨h.defers, h.size, h.keeps, h.base, h.lt, fun i => R_le (h6 i) (h.tmps i), h.vars, h.uniq, h.saved, h.ext⟩
theorem AW.loopW {S : Sys σ} {x : ACode} {st : St σ} {N Rr : St σ → Prop} {E : Nat → St σ → Prop} (I : Nat → St σ → Prop) (n : Nat) (h0 : ∃ s, Weak st s ∧ I n s) (h : ∀ n s, I n s → wCode S x s (fun s' => ∃ s'' n', Weak s' s'' ∧ n' < n ∧ I n' s'') Rr E) : AW S (.loop x) st N Rr E := by
  intro c hΓ code hco a w ow τ ob hF
  obtain ⟨cx, rfl, h1⟩ := compC_loop hco
  obtain ⟨s0, hw0, hI0⟩ := h0
  refine wp_loop_ghost (fun n a w => ∃ s ow τ ob, I n s ∧ FR c s a w ow τ ob) n ⟨s0, ow, τ, ob, hI0, hF.weak hw0⟩ ?_
  rintro m a' w' ⟨s, ow', τ', ob', hI, hF'⟩
  refine wp_mono (AW_of_wCode x s _ _ _ (h m s hI) c hΓ cx h1 a' w' ow' τ' ob' hF') ?_
  intro e a'' w'' q
  cases e with
  | normal => obtain ⟨s', o', t', ob'', ⟨s'', n', hw, hn, hs⟩, hf⟩ := q; exact ⟨n', hn, s'', o', t', ob'', hs, hf.weak hw⟩
  | _ => exact q
theorem OwnSl.weak {st : St σ} {a : AV} {d sz : Nat} {rows : List (List AV)} (h : OwnSl st a d sz rows) : a.le (.sl sz .ro rows) := by
  rcases h with ⟨rfl, rfl⟩ | ⟨rfl, rfl⟩ | ⟨rfl, _⟩ <;> simp [AV.le, AV.le2, AV.le1]
end Go.Av

namespace Go.Av
variable {σ : Type}
section
variable {S : Sys σ} {st : St σ} {N Rr : St σ → Prop} {E : Nat → St σ → Prop}
theorem AW_code {ac : ACode} (h : wCode S ac st N Rr E) : AW S ac st N Rr E := AW_of_wCode _ _ _ _ _ h
theorem AW_then {x y : ACode} (h : AW S x st (fun s => AW S y s N Rr E) Rr E) : AW S (.seq x y) st N Rr E := by
  intro c hΓ code hco a w ow τ ob hF
  obtain ⟨cx, cy, rfl, hx, hy⟩ := compC_seq hco
  refine wp_seq (wp_mono (h c hΓ cx hx a w ow τ ob hF) ?_)
  intro e a' w' q
  cases e with
  | normal => obtain ⟨s, o', t', ob', hs, hf⟩ := q; exact hs c hΓ cy hy a' w' o' t' ob' hf
  | _ => exact q
theorem AW_seq {x y : ACode} (h : wCode S x st (fun s => AW S y s N Rr E) Rr E) : AW S (.seq x y) st N Rr E := AW_then (AW_code h)
theorem AW_block {id : Nat} {x : ACode} (h : AW S x st N Rr fun i s => if i = id then N s else E i s) : AW S (.block id x) st N Rr E := by
  intro c hΓ code hco a w ow τ ob hF
  obtain ⟨cx, rfl, hx⟩ := compC_block hco
  refine wp_block (wp_mono (h c hΓ cx hx a w ow τ ob hF) ?_)
  intro e a' w' q
  cases e with
  | normal => exact q
  | ret => exact q
  | exit i =>
    obtain ⟨s, o', t', ob', hs, hf⟩ := q
    by_cases hi : i = id
    · rw [if_pos hi] at hs
      simp only [Exit.inBlock, hi, if_true]
      exact ⟨s, o', t', ob', hs, hf⟩
    · rw [if_neg hi] at hs
      simp only [Exit.inBlock, hi, if_false]
      exact ⟨s, o', t', ob', hs, hf⟩
  | _ => exact q
theorem AW_mono {ac : ACode} {N' : St σ → Prop} (h : AW S ac st N Rr E) (hN : ∀ s, N s → N' s) : AW S ac st N' Rr E := by
  intro c hΓ code hco a w ow τ ob hF
  refine wp_mono (h c hΓ code hco a w ow τ ob hF) ?_
  intro e a' w' q
  cases e with
  | normal => obtain ⟨s, o', t', ob', hs, hf⟩ := q; exact ⟨s, o', t', ob', hN s hs, hf⟩
  | _ => exact q
/-- What is known of the slots may be forgotten. -/
theorem AW_weak {ac : ACode} {s : St σ} (hw : Weak st s) (h : AW S ac s N Rr E) : AW S ac st N Rr E :=
  fun c hΓ code hco a w ow τ ob hF => h c hΓ code hco a w ow τ ob (hF.weak hw)
theorem AW_loop {x : ACode} (I : Nat → St σ → Prop) (n : Nat) (h0 : I n st) (h : ∀ n s, I n s → AW S x s (fun s' => ∃ s'' n', Weak s' s'' ∧ n' < n ∧ I n' s'') Rr E) : AW S (.loop x) st N Rr E := by
  intro c hΓ code hco a w ow τ ob hF
  obtain ⟨cx, rfl, h1⟩ := compC_loop hco
  refine wp_loop_ghost (fun n a w => ∃ s ow τ ob, I n s ∧ FR c s a w ow τ ob) n ⟨st, ow, τ, ob, h0, hF⟩ ?_
  rintro m a' w' ⟨s, ow', τ', ob', hI, hF'⟩
  refine wp_mono (h m s hI c hΓ cx h1 a' w' ow' τ' ob' hF') ?_
  intro e a'' w'' q
  cases e with
  | normal => obtain ⟨s', o', t', ob'', ⟨s'', n', hw, hn, hs⟩, hf⟩ := q; exact ⟨n', hn, s'', o', t', ob'', hs, hf.weak hw⟩
  | _ => exact q
end
section
variable {S : Sys σ} {c : Cx σ}
theorem compO_H {P : Program} {T : List Nat} {nt : Nat} {ops : Array Oper} {o : Oper} {ao : AOper} (h : compO P T nt ops o = some ao) : compOH P T nt ops o = some ao := by
  unfold compO at h
  unfold compOH
  split at h
  · rename_i x g h1 h2
    rw [h2, h1]
    exact h
  · cases h
theorem any_inv (hΓ : S.Γ c) {ops : Array Oper} {al : List AOper} {bef : List (List Nat)} {Q : Exit → Act → World → Prop} (hcl : compL S.P S.T c.nt ops ops.toList = some al) (hb : befOk ops bef = true) (Inv : (Nat → Prop) → St σ → Prop)
    (hstep : ∀ D s i o, al[i]? = some o → ¬ D i → (∀ j, j ∈ bef.getD i [] → D j) → Inv D s → wStep S true s o fun s' => Inv (fun j => j = i ∨ D j) s')
    (hQ : ∀ D s a w ow τ ob, (∀ i, i < al.length → D i) → Inv D s → FR c s a w ow τ ob → Q .normal a w) :
    ∀ (fuel : Nat) (listed : Array Bool) (rem : List Nat) (s : St σ) (a : Act) (w : World) (ow : Nat → Own) (τ : Nat → Nat) (ob : Nat → Value → Prop), rem.length ≤ fuel → Left ops listed rem →
      Inv (fun j => listed.getD j false = true) s → FR c s a w ow τ ob → wpAny S.P .any ops Q fuel listed a w := by
  obtain ⟨hlen, hget⟩ := compL_get hcl
  have hlen' : al.length = ops.size := by simpa using hlen
  have done : ∀ {listed : Array Bool} {s a w ow τ ob}, Left ops listed [] → Inv (fun j => listed.getD j false = true) s → FR c s a w ow τ ob → Q .normal a w := by
    intro listed s a w ow τ ob hl hI hF
    refine hQ _ s a w ow τ ob (fun i hi => ?_) hI hF
    have hm := (hl.mem i)
    rw [← getD_tf (by rw [hl.size]; omega)]
    cases e : listed.getD i true with
    | true => rfl
    | false => exact absurd (hm.2 ⟨by omega, e⟩) (by simp)
  intro fuel
  induction fuel with
  | zero =>
    intro listed rem s a w ow τ ob hf hl hI hF
    have : rem = [] := List.length_eq_zero_iff.1 (by omega)
    subst this
    refine ⟨?_, done hl hI hF⟩
    rw [List.eq_nil_iff_forall_not_mem]
    intro i hi
    obtain ⟨h1, h2, _⟩ := ready_dirs hi
    have := (hl.mem i).2 ⟨h2, h1⟩
    simp at this
  | succ fuel ih =>
    intro listed rem s a w ow τ ob hf hl hI hF
    refine ⟨fun hnil => ?_, fun i hi => ?_⟩
    · cases rem with
      | nil => exact done hl hI hF
      | cons i rem =>
        have := hl.first hb
        rw [hnil] at this
        simp at this
    · obtain ⟨h1, h2, h3⟩ := ready_dirs hi
      have hm := (hl.mem i).2 ⟨h2, h1⟩
      obtain ⟨pre, post, rfl⟩ := List.append_of_mem hm
      have ho : ops[i]? = some ops[i] := Array.getElem?_eq_getElem h2
      obtain ⟨ao, hao, hco⟩ := hget i ops[i] (by simpa using ho)
      have hnl : ¬ listed.getD i false = true := by
        rw [← getD_tf (by rw [hl.size]; exact h2), h1]; simp
      have hs := hstep _ s i ao hao hnl (fun j hj => hl.bef hb (i + 1) i (by omega) h2 h3 j hj) hI
      unfold wpOp
      rw [ho]
      simp only []
      refine wStep_sim hΓ (compO_H hco) hs hF fun s' a' w' ow' τ' ob' hI' hF' => ?_
      refine ih _ (pre ++ post) s' a' w' ow' τ' ob' (by simp at hf ⊢; omega) (hl.next (bef := bef) h3) ?_ hF'
      have : (fun j => (listed.setIfInBounds i true).getD j false = true) = fun j => j = i ∨ listed.getD j false = true := by
        funext j
        refine propext ⟨fun h => ?_, fun h => ?_⟩
        · by_cases hj : j = i
          · exact .inl hj
          · rw [getD_set_ne _ (Ne.symm hj)] at h
            exact .inr h
        · rcases h with rfl | h
          · simp [Array.getD_eq_getD_getElem?, hl.size, h2]
          · exact getD_set_true h
      rw [this]
      exact hI'
/-- A drawn region: an invariant that says what holds when the operations D have been done, whatever their order. -/
theorem AW_drawI {ops : List AOper} {bef : List (List Nat)} {st : St σ} {N Rr : St σ → Prop} {E : Nat → St σ → Prop} (Inv : (Nat → Prop) → St σ → Prop) (h0 : Inv (fun _ => False) st)
    (hstep : ∀ D s i o, ops[i]? = some o → ¬ D i → (∀ j, j ∈ bef.getD i [] → D j) → Inv D s → wStep S true s o fun s' => Inv (fun j => j = i ∨ D j) s')
    (hN : ∀ D s, (∀ i, i < ops.length → D i) → Inv D s → N s) : AW S (.draw ops bef) st N Rr E := by
  intro c hΓ code hco a w ow τ ob hF
  obtain ⟨id, cops, rfl, hb, hmx, hbo, hcl⟩ := compC_draw hco
  refine wp_region_draw fun tt => ?_
  unfold Region.schedule
  rw [if_pos hmx]
  unfold Region.linearise
  refine wpAny_sound cops.size tt _ a _ ?_
  have hlen : ops.length = cops.size := by simpa using (compL_get (c := c) hcl).1
  refine any_inv hΓ hcl hbo Inv hstep (fun D s a w ow τ ob hD hI hF => ⟨s, ow, τ, ob, hN D s hD hI, hF⟩) cops.size _ (List.range' 0 ops.length) st a _ ow τ ob (by simp [hlen]) ?_ ?_ hF.drew'
  · refine ⟨by simp, List.pairwise_lt_range', fun i => ?_, fun i hi hl => ?_⟩
    · rw [List.mem_range']
      constructor
      · rintro ⟨j, hj, rfl⟩
        refine ⟨by omega, ?_⟩
        simp [Array.getD_eq_getD_getElem?, Array.getElem?_replicate, show j < cops.size by omega]
      · rintro ⟨hi, _⟩
        exact ⟨i, by omega, by omega⟩
    · simp [Array.getD_eq_getD_getElem?, Array.getElem?_replicate, hi] at hl
  · have : (fun j => (Array.replicate cops.size false).getD j false = true) = fun _ => False := by
      funext j
      refine propext ⟨fun h => ?_, fun h => h.elim⟩
      rw [Array.getD_eq_getD_getElem?, Array.getElem?_replicate] at h
      split at h <;> simp at h
    rw [this]
    exact h0
end
end Go.Av

namespace Go.Av
variable {σ : Type} {S : Sys σ}
theorem wDraw_mono : ∀ (l : List AOper) {st : St σ} {lg : List Eff} {K K' : St σ → List Eff → Prop}, (∀ s g, K s g → K' s g) → wDraw S st l lg K → wDraw S st l lg K'
  | [], st, lg, K, K', h, hw => h _ _ hw
  | o :: l, st, lg, K, K', h, hw => by
    simp only [wDraw] at hw ⊢
    exact wStep_mono (fun s' => wDraw_mono l h) hw
theorem wDraw_append : ∀ (a : List AOper) {b : List AOper} {st : St σ} {lg : List Eff} {K : St σ → List Eff → Prop}, wDraw S st a lg (fun s g => wDraw S s b g.reverse K) → wDraw S st (a ++ b) lg K
  | [], b, st, lg, K, h => by simpa [wDraw] using h
  | o :: a, b, st, lg, K, h => by
    simp only [List.cons_append, wDraw] at h ⊢
    exact wStep_mono (fun s' hs => wDraw_append a hs) h
theorem wDraw_cutL {l : List AOper} {e : Nat → AV} {g : Nat → Nat} {v : Nat → List AV} {tg : Nat → Nat} {tp : Nat → Option Nat} {x : σ} {lg : List Eff} {K : St σ → List Eff → Prop} (n : Nat) (L : List (Nat × AV)) (G : List Eff)
    (h1 : wDraw S ⟨e, g, v, tg, tp, x⟩ (l.take n) lg fun s lg' => s.gen = g ∧ s.var = v ∧ s.tgen = tg ∧ s.top = tp ∧ s.x = x ∧ Envs s.env L ∧ lg' = G) (h2 : ∀ e', Envs e' L → wDraw S ⟨e', g, v, tg, tp, x⟩ (l.drop n) G.reverse K) : wDraw S ⟨e, g, v, tg, tp, x⟩ l lg K := by
  have := wDraw_append (l.take n) (b := l.drop n) (K := K) (wDraw_mono (l.take n) (K := fun s lg' => s.gen = g ∧ s.var = v ∧ s.tgen = tg ∧ s.top = tp ∧ s.x = x ∧ Envs s.env L ∧ lg' = G) ?_ h1)
  · rwa [List.take_append_drop] at this
  · rintro ⟨e', g', v', tg', tp', x'⟩ lg' ⟨rfl, rfl, rfl, rfl, rfl, hL, rfl⟩
    exact h2 e' hL
def Gens (g : Nat → Nat) : List (Nat × Nat) → Prop
  | [] => True
  | (i, a) :: l => g i = a ∧ Gens g l
def Vars (v : Nat → List AV) : List (Nat × List AV) → Prop
  | [] => True
  | (i, a) :: l => v i = a ∧ Vars v l
/-- The state is forgotten, but for these facts. -/
theorem wDraw_cutV {l : List AOper} {st : St σ} {lg : List Eff} {K : St σ → List Eff → Prop} (n : Nat) (L : List (Nat × AV)) (GG : List (Nat × Nat)) (V : List (Nat × List AV)) (G : List Eff)
    (h1 : wDraw S st (l.take n) lg fun s lg' => (Gens s.gen GG ∧ Vars s.var V ∧ Envs s.env L) ∧ lg' = G) (h2 : ∀ e g v tg tp x, Envs e L → Gens g GG → Vars v V → wDraw S ⟨e, g, v, tg, tp, x⟩ (l.drop n) G.reverse K) : wDraw S st l lg K := by
  have := wDraw_append (l.take n) (b := l.drop n) (K := K) (wDraw_mono (l.take n) (K := fun s lg' => (Gens s.gen GG ∧ Vars s.var V ∧ Envs s.env L) ∧ lg' = G) ?_ h1)
  · rwa [List.take_append_drop] at this
  · rintro ⟨e', g', v', tg', tp', x'⟩ lg' ⟨⟨k1, k2, k3⟩, rfl⟩
    exact h2 _ _ _ _ _ _ k3 k1 k2
theorem wOps_cutV {l : List AOper} {st : St σ} {K : St σ → Prop} (n : Nat) (L : List (Nat × AV)) (GG : List (Nat × Nat)) (V : List (Nat × List AV))
    (h1 : wOps S st (l.take n) fun s => Gens s.gen GG ∧ Vars s.var V ∧ Envs s.env L) (h2 : ∀ e g v tg tp x, Envs e L → Gens g GG → Vars v V → wOps S ⟨e, g, v, tg, tp, x⟩ (l.drop n) K) : wOps S st l K := by
  refine wOps_cut n _ h1 ?_
  rintro ⟨e', g', v', tg', tp', x'⟩ ⟨k1, k2, k3⟩
  exact h2 _ _ _ _ _ _ k3 k1 k2
end Go.Av

namespace Go.Av
theorem za0 : type_of% @ev_func := @ev_func
theorem za1 : type_of% @upd_upd := @upd_upd
theorem za2 : type_of% @wCode_draw := @wCode_draw
theorem za3 : type_of% @wDraw_cons := @wDraw_cons
theorem za4 : type_of% @wDraw_nil := @wDraw_nil
theorem za5 : type_of% @Option.toList_some := @Option.toList_some
theorem za6 : type_of% @Option.toList_none := @Option.toList_none
theorem za7 : type_of% @List.reverse_cons := @List.reverse_cons
theorem za8 : type_of% @List.reverse_nil := @List.reverse_nil
theorem za9 : type_of% @List.nil_append := @List.nil_append
theorem zb0 : type_of% @List.cons_append := @List.cons_append
theorem zb1 : type_of% @wCode_skip := @wCode_skip
theorem zb2 : type_of% @wCode_region := @wCode_region
theorem zb3 : type_of% @wCode_seq := @wCode_seq
theorem zb4 : type_of% @wCode_cond := @wCode_cond
theorem zb5 : type_of% @wCode_block := @wCode_block
theorem zb6 : type_of% @wCode_loop := @wCode_loop
theorem zb7 : type_of% @wCode_exit := @wCode_exit
theorem zb8 : type_of% @wCode_ret := @wCode_ret
theorem zb9 : type_of% @wCond_d := @wCond_d
theorem zc0 : type_of% @wCond_tb := @wCond_tb
theorem zc1 : type_of% @wCond_t := @wCond_t
theorem zc2 : type_of% @wCond_f := @wCond_f
theorem zc3 : type_of% @wOps_nil := @wOps_nil
theorem zc4 : type_of% @wOps_cons0 := @wOps_cons0
theorem zc5 : type_of% @wStep_none := @wStep_none
theorem zc6 : type_of% @wStep_some := @wStep_some
theorem zc7 : type_of% @wGuard_dt := @wGuard_dt
theorem zc8 : type_of% @wGuard_df := @wGuard_df
theorem zc9 : type_of% @wGuard_bt := @wGuard_bt
theorem zd0 : type_of% @wGuard_bf := @wGuard_bf
theorem zd1 : type_of% @wGuard_tup := @wGuard_tup
theorem zd2 : type_of% @wGuard_undef := @wGuard_undef
theorem zd3 : type_of% @wGuard_tt := @wGuard_tt
theorem zd4 : type_of% @wGuard_ff := @wGuard_ff
theorem zd5 : type_of% @wGuard_tf := @wGuard_tf
theorem zd6 : type_of% @wGuard_ft := @wGuard_ft
theorem zd7 : type_of% @wPick_d := @wPick_d
theorem zd8 : type_of% @wPick_tb := @wPick_tb
theorem zd9 : type_of% @wPick_t := @wPick_t
theorem ze0 : type_of% @wPick_f := @wPick_f
theorem ze1 : type_of% @wAct_mov := @wAct_mov
theorem ze2 : type_of% @wAct_pick := @wAct_pick
theorem ze3 : type_of% @wAct_iaddr := @wAct_iaddr
theorem ze4 : type_of% @wAct_call := @wAct_call
theorem ze5 : type_of% @wAct_box := @wAct_box
theorem ze6 : type_of% @wAct_alloc := @wAct_alloc
theorem ze7 : type_of% @wAct_build := @wAct_build
theorem ze8 : type_of% @wAct_bsl := @wAct_bsl
theorem ze9 : type_of% @wAct_load := @wAct_load
theorem zf0 : type_of% @wAct_store := @wAct_store
theorem zf1 : type_of% @wAct_faddr := @wAct_faddr
theorem zf2 : type_of% @wAct_aaddr := @wAct_aaddr
theorem zf3 : type_of% @wAct_sidx := @wAct_sidx
theorem zf4 : type_of% @wAct_field := @wAct_field
theorem zf5 : type_of% @wAct_bin := @wAct_bin
theorem zf6 : type_of% @wBin_add := @wBin_add
theorem zf7 : type_of% @wBin_sub := @wBin_sub
theorem zf8 : type_of% @wBin_mul := @wBin_mul
theorem zf9 : type_of% @wBin_rem := @wBin_rem
theorem zg0 : type_of% @wBin_eql := @wBin_eql
theorem zg1 : type_of% @wBin_neq := @wBin_neq
theorem zg2 : type_of% @wBin_lss := @wBin_lss
theorem zg3 : type_of% @wBin_leq := @wBin_leq
theorem zg4 : type_of% @wBin_gtr := @wBin_gtr
theorem zg5 : type_of% @wBin_geq := @wBin_geq
theorem zg6 : type_of% @wBin_seql := @wBin_seql
theorem zg7 : type_of% @wBin_sneq := @wBin_sneq
theorem zg8 : type_of% @wBin_sadd := @wBin_sadd
theorem zg9 : type_of% @wBin_shr := @wBin_shr
theorem zh0 : type_of% @wAct_beq := @wAct_beq
theorem zh1 : type_of% @wAct_seq := @wAct_seq
theorem zh2 : type_of% @wAct_un := @wAct_un
theorem zh3 : type_of% @wAct_convi := @wAct_convi
theorem zh4 : type_of% @wAct_convs := @wAct_convs
theorem zh5 : type_of% @wAct_slc := @wAct_slc
theorem zh6 : type_of% @wAct_sslc := @wAct_sslc
theorem zh7 : type_of% @wAct_ext := @wAct_ext
theorem zh8 : type_of% @wAct_slen := @wAct_slen
theorem zh9 : type_of% @wAct_len := @wAct_len
theorem zi0 : type_of% @wAct_nilc := @wAct_nilc
theorem zi1 : type_of% @wAct_mkf := @wAct_mkf
theorem zi2 : type_of% @wAct_aidx := @wAct_aidx
theorem zi3 : type_of% @wAct_app1 := @wAct_app1
theorem zi4 : type_of% @wAct_mm := @wAct_mm
theorem zi5 : type_of% @wAct_peq := @wAct_peq
theorem zi6 : type_of% @wAct_snil := @wAct_snil
theorem zi7 : type_of% @wAct_asl := @wAct_asl
theorem zi8 : type_of% @wAct_capv := @wAct_capv
theorem zi9 : type_of% @wAct_mkmap := @wAct_mkmap
theorem zj0 : type_of% @wAct_mlen := @wAct_mlen
theorem zj1 : type_of% @wAct_cpy := @wAct_cpy
theorem zj2 : type_of% @wAct_appz := @wAct_appz
theorem zj3 : type_of% @wAct_mksl := @wAct_mksl
theorem zj4 : type_of% @wAct_mget := @wAct_mget
theorem zj5 : type_of% @wAct_mset := @wAct_mset
theorem zj6 : type_of% @wAct_callv := @wAct_callv
theorem zj7 : type_of% @wFv_fv := @wFv_fv
theorem zj8 : type_of% @kill_lit := @kill_lit
theorem zj9 : type_of% @wVal_some := @wVal_some
theorem zk0 : type_of% @wVal_none := @wVal_none
theorem zk1 : type_of% @wVal_if := @wVal_if
theorem zk2 : type_of% @wVal_map := @wVal_map
theorem zk3 : type_of% @wOpt_some := @wOpt_some
theorem zk4 : type_of% @wOpt_none := @wOpt_none
theorem zk5 : type_of% @wOpt_if := @wOpt_if
theorem zk6 : type_of% @wOpt_map := @wOpt_map
theorem zk7 : type_of% @put_some := @put_some
theorem zk8 : type_of% @put_none := @put_none
theorem zk9 : type_of% @ev_tmp := @ev_tmp
theorem zl0 : type_of% @ev_const := @ev_const
theorem zl1 : type_of% @newVar_lit := @newVar_lit
theorem zl2 : type_of% @give_lit := @give_lit
theorem zl3 : type_of% @spend_lit := @spend_lit
theorem zl4 : type_of% @upd_eq := @upd_eq
theorem zl5 : type_of% @off_sys := @off_sys
theorem zl6 : type_of% @Nat.zero_add := @Nat.zero_add
theorem zl7 : type_of% @Classical.not_not := @Classical.not_not
theorem zl8 : type_of% @List.getElem?_cons_zero := @List.getElem?_cons_zero
theorem zl9 : type_of% @List.getElem?_cons_succ := @List.getElem?_cons_succ
theorem zm0 : type_of% @Option.getD_some := @Option.getD_some
theorem zm1 : type_of% @Option.getD_none := @Option.getD_none
theorem zm2 : type_of% @Option.map_some := @Option.map_some
theorem zm3 : type_of% @decide_eq_true_eq := @decide_eq_true_eq
theorem zm4 : type_of% @decide_eq_false_iff_not := @decide_eq_false_iff_not
theorem zm5 : type_of% @Bool.not_true := @Bool.not_true
theorem zm6 : type_of% @Bool.not_false := @Bool.not_false
theorem zm7 : type_of% @Bool.not_eq_true' := @Bool.not_eq_true'
theorem zm8 : type_of% @Bool.not_eq_false' := @Bool.not_eq_false'
theorem zm9 : type_of% @List.drop_zero := @List.drop_zero
theorem zn0 : type_of% @List.drop_succ_cons := @List.drop_succ_cons
theorem zn1 : type_of% @List.take_succ_cons := @List.take_succ_cons
theorem zn2 : type_of% @List.take_zero := @List.take_zero
theorem zn3 : type_of% @List.length_cons := @List.length_cons
theorem zn4 : type_of% @List.length_nil := @List.length_nil
theorem zn5 : type_of% @List.map_cons := @List.map_cons
theorem zn6 : type_of% @List.map_nil := @List.map_nil
theorem zn7 : type_of% @Bool.false_eq_true := @Bool.false_eq_true
theorem zn8 : type_of% @List.all_cons := @List.all_cons
theorem zn9 : type_of% @List.all_nil := @List.all_nil
theorem zo0 : type_of% @beq_self_eq_true := @beq_self_eq_true
theorem zo1 : type_of% @Bool.and_true := @Bool.and_true
theorem zo2 : type_of% @Bool.and_self := @Bool.and_self
theorem zo3 : type_of% @if_true := @if_true
theorem zo4 : type_of% @if_false := @if_false
theorem zo5 : type_of% @true_and := @true_and
theorem zo6 : type_of% @and_true := @and_true
theorem zo7 : type_of% @Nat.le_refl := @Nat.le_refl
theorem zo8 : type_of% @and_self := @and_self
theorem zo9 : type_of% @eq_self := @eq_self
theorem zp0 : type_of% @Nat.add_eq_left := @Nat.add_eq_left
theorem zp1 : type_of% @Nat.left_eq_add := @Nat.left_eq_add
theorem zp2 : type_of% @ends_one := @ends_one
theorem zp3 : type_of% @ends_two := @ends_two
theorem zp4 : type_of% @endR_imm := @endR_imm
theorem zp5 : type_of% @ends_cell := @ends_cell
theorem zp6 : type_of% @endC_ptr := @endC_ptr
theorem zp7 : type_of% @endsI_none := @endsI_none
theorem zp8 : type_of% @endsI_one := @endsI_one
theorem zp9 : type_of% @endsI_two := @endsI_two
theorem zq0 : type_of% @Value.bool.injEq := @Value.bool.injEq
theorem zq1 : type_of% @Value.int.injEq := @Value.int.injEq
theorem zq2 : type_of% @decide_true := @decide_true
theorem zq3 : type_of% @decide_false := @decide_false
theorem zq4 : type_of% @not_true_eq_false := @not_true_eq_false
theorem zq5 : type_of% @not_false_eq_true := @not_false_eq_true
theorem zq6 : type_of% @ne_eq := @ne_eq
theorem zq7 : type_of% @List.drop_nil := @List.drop_nil
theorem zq8 : type_of% @List.append_nil := @List.append_nil
theorem zq9 : type_of% @List.length_map := @List.length_map
theorem zr0 : type_of% @Int.toNat_natCast := @Int.toNat_natCast
theorem zr1 : type_of% @List.getElem?_map := @List.getElem?_map
theorem zr2 : type_of% @Option.map_eq_some_iff := @Option.map_eq_some_iff
theorem zr3 : type_of% @forall_exists_index := @forall_exists_index
theorem zr4 : type_of% @forall_apply_eq_imp_iff₂ := @forall_apply_eq_imp_iff₂
end Go.Av
