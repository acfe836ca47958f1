/-
  OWN TEXT. Each operation of the program does what 'act' says: slice expressions, literals.
-/
import Derived.Test.YtinmcbkebfgekaaAv9
set_option linter.all false
set_option linter.unusedVariables false
set_option linter.unusedSimpArgs false
namespace Go.Av
variable {σ : Type}
section
variable {P : Program} {T : List Nat} {Φ : Orc} {d : Nat} {c : Cx σ} {st st' : St σ} {x : AV} {a : Act} {w : World} {ow : Nat → Own} {τ : Nat → Nat} {ob : Nat → Value → Prop}
  {dst : Option Nat} {type : TypeId} {pos : String} {after : Array Edge} {guard : Option (Nat × Bool)}

def IsBound (d : Int) (o : Option Value) (n : Int) : Prop := (o = none ∧ n = d) ∨ ∃ k, o = some (.int k n)
theorem bound_of (h : FR c st a w ow τ ob) {e : Int} {o : Option Operand} {n : Int} (hb : boundOf e (o.map st.ev) = some n) : IsBound e (o.map a.eval) n := by
  cases o with
  | none => simp only [Option.map_none, boundOf, Option.some.injEq] at hb; exact .inl ⟨rfl, hb.symm⟩
  | some y =>
    have hy := R_ev h y
    simp only [Option.map_some] at hb ⊢
    unfold boundOf at hb
    split at hb
    · rename_i e'; cases e'
    · rename_i k m e'
      injection e' with e'
      injection hb with hb
      subst hb
      rw [e'] at hy
      simp only [R] at hy
      exact .inr ⟨k, by rw [hy.1]⟩
    · cases hb
theorem run_sliceBound' {k : IntKind} {i : Int} {y : Nat} {code : BoundsCode} (h0 : 0 ≤ i) (h1 : i ≤ y) (w : World) : (Instr.sliceBound (.int k i) y code).run P w = .ok i.toNat w := by
  simp [Instr.sliceBound, run_asIntOf', h0, h1]
theorem run_sliceBounds' {s : Bool} {len cap : Nat} {lo hi : Option Value} {l h : Int} (hl : IsBound 0 lo l) (hh : IsBound len hi h) (h0 : 0 ≤ l) (h1 : l ≤ h) (h2 : h ≤ cap) (w : World) :
    (Instr.sliceBounds s len cap lo hi none).run P w = .ok (l.toNat, h.toNat, cap) w := by
  have e1 : ((h.toNat : Nat) : Int) = h := Int.toNat_of_nonneg (by omega)
  rcases hh with ⟨rfl, rfl⟩ | ⟨k, rfl⟩
  · rcases hl with ⟨rfl, rfl⟩ | ⟨k', rfl⟩
    · simp [Instr.sliceBounds]
    · simp [Instr.sliceBounds, run_sliceBound' (P := P) h0 h1 w]
  · rcases hl with ⟨rfl, rfl⟩ | ⟨k', rfl⟩
    · simp [Instr.sliceBounds, run_sliceBound' (P := P) (k := k) (i := h) (y := cap) (by omega) h2 w]
    · simp [Instr.sliceBounds, run_sliceBound' (P := P) (k := k) (i := h) (y := cap) (by omega) h2 w, run_sliceBound' (P := P) (k := k') (i := l) (y := h.toNat) h0 (by omega) w]
theorem run_sliceBounds3 {s : Bool} {len cap : Nat} {lo hi : Option Value} {l h m : Int} {q : IntKind} (hl : IsBound 0 lo l) (hh : ∃ k, hi = some (.int k h)) (h0 : 0 ≤ l) (h1 : l ≤ h) (h2 : h ≤ m) (h3 : m ≤ cap) (w : World) :
    (Instr.sliceBounds s len cap lo hi (some (.int q m))).run P w = .ok (l.toNat, h.toNat, m.toNat) w := by
  obtain ⟨k, rfl⟩ := hh
  rcases hl with ⟨rfl, rfl⟩ | ⟨k', rfl⟩
  · simp [Instr.sliceBounds, run_sliceBound' (P := P) (k := q) (i := m) (y := cap) (by omega) h3 w, run_sliceBound' (P := P) (k := k) (i := h) (y := m.toNat) (by omega) (by omega) w]
  · simp [Instr.sliceBounds, run_sliceBound' (P := P) (k := q) (i := m) (y := cap) (by omega) h3 w, run_sliceBound' (P := P) (k := k) (i := h) (y := m.toNat) (by omega) (by omega) w, run_sliceBound' (P := P) (k := k') (i := l) (y := h.toNat) h0 (by omega) w]

/-- A cut of a slice. -/
theorem R_cut {k : K} {sz : Nat} {tok tok' : Tok} {rows : List (List AV)} {A : Option Addr} {z : Nat} (hv : R k (.sl sz tok rows) (.slice A rows.length z)) {l h m : Nat} (h1 : l ≤ h) (h2 : h ≤ rows.length) (h3 : h ≤ m) (h4 : m ≤ z) (ht : tok' = .ro ∨ tok' = .full ∧ m = h) :
    R k (.sl sz tok' ((rows.take h).drop l)) (.slice (if m = l then A else A.map (·.add (l * sz))) (h - l) (m - l)) := by
  simp only [R] at hv ⊢
  obtain ⟨A', z', e, hl, hm, hr, _⟩ := hv
  injection e with e1 e2 e3
  subst e1; subst e3
  have hlen : ((rows.take h).drop l).length = h - l := by simp; omega
  refine ⟨_, _, by rw [hlen], by omega, by omega, fun hne => ?_, ?_⟩
  · have hlt : l < h := by
      rcases Nat.lt_or_ge l h with hlt | hge
      · exact hlt
      · exact absurd (List.eq_nil_of_length_eq_zero (by omega)) hne
    obtain ⟨b, o, rfl, hrows⟩ := hr (by rintro rfl; simp at h2; omega)
    refine ⟨b, o + l * sz, by rw [if_neg (by omega)]; simp [addr_add], ?_⟩
    exact rowsAt_drop l (by simp; omega) (rowsAt_take h hrows)
  · rcases ht with rfl | ⟨rfl, rfl⟩
    · trivial
    · exact hlen.symm

theorem shape_le {q : Option Obj} {z z' : Nat} (h : shapeOk (some z) q) (hz : z' ≤ z) : shapeOk (some z') q := by
  cases q with
  | none => exact h
  | some obj => cases obj with
    | cells cs T fr => exact ⟨h.1, Nat.le_trans hz h.2⟩
    | _ => exact h
/-- A cut of a variable's slice. -/
theorem R_cutv {d g sz off n : Nat} {cp cp' : Option Nat} {A : Option Addr} {z : Nat} (hv : R (Kof c st w ow τ ob) (.vsl d g sz off n cp) (.slice A n z)) {l h m : Nat} (h1 : l ≤ h) (h3 : h ≤ m) (h4 : m ≤ z) (hcp : ∀ c', cp' = some c' → c' = m - l) :
    R (Kof c st w ow τ ob) (.vsl d g sz (off + l * sz) (h - l) cp') (.slice (if m = l then A else A.map (·.add (l * sz))) (h - l) (m - l)) := by
  simp only [R] at hv ⊢
  obtain ⟨hpg, A', z', e, _, hm, _, hb⟩ := hv
  injection e with e1 e2 e3
  subst e1; subst e3
  refine ⟨hpg, _, _, rfl, by omega, by omega, hcp, fun hq => ?_⟩
  obtain ⟨b, o, ⟨hvb1, hvb2, hvb3⟩, rfl, ho⟩ := hb hq
  have hle : off + l * sz + (m - l) * sz ≤ off + z * sz := by
    have : l * sz + (m - l) * sz = m * sz := by rw [← Nat.add_mul]; congr 1; omega
    have := Nat.mul_le_mul_right sz h4
    omega
  by_cases hml : m = l
  · rw [if_pos hml]
    exact ⟨b, o, ⟨hvb1, hvb2, shape_le hvb3 hle⟩, rfl, fun hpos => by omega⟩
  · rw [if_neg hml]
    refine ⟨b, o + l * sz, ⟨hvb1, hvb2, shape_le hvb3 hle⟩, by simp [addr_add], fun _ => by rw [ho (by omega)]⟩
theorem sl_value {k : K} {sz : Nat} {tok : Tok} {rows : List (List AV)} {v : Value} (h : R k (.sl sz tok rows) v) : ∃ A z, v = .slice A rows.length z ∧ rows.length ≤ z ∧ (tok = .full → z = rows.length) := by
  simp only [R] at h
  obtain ⟨A, z, e, hl, _, _, ht⟩ := h
  exact ⟨A, z, e, hl, fun e => by subst e; exact ht⟩

theorem sim_slc (h : FR c st a w ow τ ob) {t e : TypeId} {y : Operand} {lo hi mx : Option Operand} {ie : TypeInfo} (ht : P.underlying t = some (.slice e)) (hi' : P.info? e = some ie) (ha : act Φ d st (.slc ie.size y lo hi mx) = some (x, st')) :
    Sim P c st' x ⟨dst, .slice t y lo hi mx, type, pos, after, guard⟩ a w ob := by
  simp only [act] at ha
  split at ha
  · rename_i d' g sz' off n cp e1
    have hy := R_ev h y
    rw [vslOf_eq e1] at hy
    have hy' := hy
    simp only [R] at hy'
    obtain ⟨_, A, z, hv, hnz, hzm, hcp, _⟩ := hy'
    have hcz : (cp.getD n : Nat) ≤ z := by
      cases cp with
      | none => exact hnz
      | some c' => exact Nat.le_of_eq (hcp c' rfl)
    rw [hv] at hy
    split at ha
    · rename_i l hh e2 e3 e4
      have hmx : mx = none := by cases mx with | none => rfl | some _ => simp at e4
      subst hmx
      have b1 := bound_of h e2
      have b2 := bound_of h e3
      split at ha
      · rename_i hc
        obtain ⟨rfl, h0, h1, h2⟩ := hc
        simp only [Option.some.injEq, Prod.mk.injEq] at ha
        obtain ⟨rfl, rfl⟩ := ha
        have hcut := R_cutv hy (cp' := cp.map (· - l.toNat)) (l := l.toNat) (h := hh.toNat) (m := z) (by omega) (by omega) (Nat.le_refl _) (fun c' hc' => by
          cases cp with
          | none => simp at hc'
          | some c0 => simp at hc'; have := hcp c0 rfl; omega)
        rw [show (hh - l).toNat = hh.toNat - l.toNat by omega]
        refine sim_same h ?_ hcut
        have hb := run_sliceBounds' (P := P) (s := true) (len := n) (cap := z) b1 b2 h0 h1 (by omega) w
        simp [execOp, Instr.sliceAt, run_underlying' ht, Instr.slice, hv, hb, run_sizeOf' hi']
      · cases ha
    · rename_i l hh q m e2 e3 e4
      obtain ⟨mo, rfl⟩ : ∃ mo, mx = some mo := by cases mx with | none => simp at e4 | some mo => exact ⟨mo, rfl⟩
      have b1 := bound_of h e2
      have b2 := bound_of h e3
      have hm := R_ev h mo
      simp only [Option.map_some, Option.some.injEq] at e4
      rw [e4] at hm
      simp only [R] at hm
      split at ha
      · rename_i hc
        obtain ⟨rfl, h0, h1, h2, h3, h5⟩ := hc
        simp only [Option.some.injEq, Prod.mk.injEq] at ha
        obtain ⟨rfl, rfl⟩ := ha
        have hcut := R_cutv hy (cp' := some (m - l).toNat) (l := l.toNat) (h := hh.toNat) (m := m.toNat) (by omega) (by omega) (by omega) (fun c' hc' => by simp at hc'; omega)
        rw [show (hh - l).toNat = hh.toNat - l.toNat by omega]
        have hhi : ∃ k, hi.map a.eval = some (.int k hh) := by
          rcases b2 with ⟨e5, _⟩ | b2
          · cases hi with
            | none => simp at h5
            | some _ => simp at e5
          · exact b2
        refine sim_same h ?_ hcut
        have hb := run_sliceBounds3 (P := P) (s := true) (len := n) (cap := z) (q := q) b1 hhi h0 h1 h2 (by omega) w
        simp [execOp, Instr.sliceAt, run_underlying' ht, Instr.slice, hv, hm.1, hb, run_sizeOf' hi']
      · cases ha
    · cases ha
  · rename_i tok rows _ e1
    have hy := R_asSl (R_ev h y) e1
    obtain ⟨A, z, hv, hz, hfull⟩ := sl_value hy
    rw [hv] at hy
    split at ha
    · rename_i l hh e2 e3 e4
      have hmx : mx = none := by cases mx with | none => rfl | some _ => simp at e4
      subst hmx
      have b1 := bound_of h e2
      have b2 := bound_of h e3
      split at ha
      · rename_i hc
        obtain ⟨h0, h1, h2⟩ := hc
        simp only [Option.some.injEq, Prod.mk.injEq] at ha
        obtain ⟨rfl, rfl⟩ := ha
        have hcut := R_cut hy (tok' := slcTok hi tok) (l := l.toNat) (h := hh.toNat) (m := z) (by omega) (by omega) (by omega) (Nat.le_refl _) (by
          cases hi with
          | none =>
            cases tok with
            | full =>
              right
              refine ⟨rfl, ?_⟩
              have := hfull rfl
              simp only [Option.map_none, boundOf, Option.some.injEq] at e3
              omega
            | _ => left; rfl
          | some _ => left; rfl)
        refine sim_same h ?_ hcut
        have hb := run_sliceBounds' (P := P) (s := true) (len := rows.length) (cap := z) b1 b2 h0 h1 (by omega) w
        simp [execOp, Instr.sliceAt, run_underlying' ht, Instr.slice, hv, hb, run_sizeOf' hi']
      · cases ha
    · rename_i l hh q m e2 e3 e4
      obtain ⟨mo, rfl⟩ : ∃ mo, mx = some mo := by cases mx with | none => simp at e4 | some mo => exact ⟨mo, rfl⟩
      have b1 := bound_of h e2
      have b2 := bound_of h e3
      have hm := R_ev h mo
      simp only [Option.map_some, Option.some.injEq] at e4
      rw [e4] at hm
      simp only [R] at hm
      split at ha
      · rename_i hc
        obtain ⟨h0, h1, h2, h3, h5⟩ := hc
        simp only [Option.some.injEq, Prod.mk.injEq] at ha
        obtain ⟨rfl, rfl⟩ := ha
        subst h3
        have hcut := R_cut hy (tok' := .full) (l := l.toNat) (h := m.toNat) (m := m.toNat) (by omega) (by omega) (by omega) (by omega) (.inr ⟨rfl, rfl⟩)
        have hhi : ∃ k, hi.map a.eval = some (.int k m) := by
          rcases b2 with ⟨e5, _⟩ | b2
          · cases hi with
            | none => simp at h5
            | some _ => simp at e5
          · exact b2
        refine sim_same h ?_ hcut
        have hb := run_sliceBounds3 (P := P) (s := true) (len := rows.length) (cap := z) (q := q) b1 hhi h0 h1 (Int.le_refl _) (by omega) w
        simp [execOp, Instr.sliceAt, run_underlying' ht, Instr.slice, hv, hm.1, hb, run_sizeOf' hi']
      · cases ha
    · cases ha
  · cases ha

theorem sim_sslc (h : FR c st a w ow τ ob) {t : TypeId} {y : Operand} {lo hi : Option Operand} (ht : P.underlying t = some .string) (ha : act Φ d st (.sslc y lo hi) = some (x, st')) :
    Sim P c st' x ⟨dst, .slice t y lo hi none, type, pos, after, guard⟩ a w ob := by
  simp only [act] at ha
  have hy := R_ev h y
  split at ha
  · rename_i s e1
    rw [e1] at hy
    simp only [R] at hy
    split at ha
    · rename_i l hh e2 e3
      have b1 := bound_of h e2
      have b2 := bound_of h e3
      split at ha
      · rename_i hc
        obtain ⟨h0, h1, h2⟩ := hc
        simp only [Option.some.injEq, Prod.mk.injEq] at ha
        obtain ⟨rfl, rfl⟩ := ha
        refine sim_same h (v := .string (s.extract l.toNat hh.toNat)) ?_ (by unfold R; exact ⟨rfl, rfl⟩)
        have hb := run_sliceBounds' (P := P) (s := false) (len := s.size) (cap := s.size) b1 b2 h0 h1 h2 w
        simp [execOp, Instr.sliceAt, run_underlying' ht, Instr.slice, hy.1, hb]
      · cases ha
    · cases ha
  · cases ha
end
end Go.Av
