/-
  OWN TEXT. Calls at the level of states: a result's variable gets another name; capacities; the library's look for overlaps.
-/
import Derived.Test.YtinmcbkebfgekaaAv23
import Derived.Laws.Externs
set_option linter.all false
set_option linter.unusedVariables false
set_option linter.unusedSimpArgs false
namespace Go.Av
variable {σ : Type}
section
variable {c : Cx σ} {st : St σ} {a : Act} {w : World} {ow : Nat → Own} {τ : Nat → Nat} {ob : Nat → Value → Prop}
/-- A slice's variable gets the name d'. -/
theorem FR.ren (h : FR c st a w ow τ ob) {d sz n : Nat} {cp : Option Nat} (d' : Nat) {v : Value} (hv : R (Kof c st w ow τ ob) (.vsl d (st.gen d) sz 0 n cp) v) :
    ∃ ow', FR c ((st.kill d).newVar d' (st.var d)) a w ow' τ ob ∧ R (Kof c ((st.kill d).newVar d' (st.var d)) w ow' τ ob) (.vsl d' ((st.kill d).gen d' + 1) sz 0 n cp) v := by
  simp only [R] at hv
  obtain ⟨_, A, z, rfl, h1, h2, h3, hb⟩ := hv
  obtain ⟨b, o, hvb, rfl, ho⟩ := hb rfl
  obtain ⟨cs, T, hheap, hsz, hone, hr⟩ := var_block h hvb
  obtain ⟨kF, kK⟩ := h.kill d
  obtain ⟨k1, _, k3, k4⟩ := kF.adopt (b := b) d' hvb.1 (killOwn_at hvb.2.1) hheap (xs := st.var d) (cs := cs.toList) hone (Rs_mono kK _ _ hr)
  rw [Array.toArray_toList, setRow_self w b cs T (0, 0) hheap] at k1 k3 k4
  refine ⟨_, k1, ?_⟩
  simp only [R]
  exact ⟨k3, _, _, rfl, h1, h2, h3, fun _ => ⟨b, o, k4 _ (by simpa using hsz), rfl, ho⟩⟩
end
variable {S : Sys σ} {f : Nat} {xs : List AV} {st : St σ} {F F' : AV → St σ → Prop}
theorem I_le (h : S.I f xs st F) (hF : ∀ x s, F x s → ∃ y, x.le y ∧ F' y s) : S.I f xs st F' := by
  intro c hc n hn a w ow τ ob vs hFR hvs
  refine (h c hc n hn a w ow τ ob vs hFR hvs).mono ?_
  rintro e w' ⟨v, x, st', ow', τ', ob', rfl, hx, he, hF', hR⟩
  obtain ⟨y, hle, hy⟩ := hF x st' hx
  exact ⟨v, y, st', ow', τ', ob', rfl, hy, he, hF', R_le hle hR⟩
/-- The result's variable gets the name d'. -/
theorem I_ren (d' : Nat) (h : S.I f xs st F) (hF : ∀ x s, F x s → ∃ d sz n cp, x = .vsl d (s.gen d) sz 0 n cp ∧ F' (.vsl d' ((s.kill d).gen d' + 1) sz 0 n cp) ((s.kill d).newVar d' (s.var d))) : S.I f xs st F' := by
  intro c hc n hn a w ow τ ob vs hFR hvs
  refine (h c hc n hn a w ow τ ob vs hFR hvs).mono ?_
  rintro e w' ⟨v, x, st', ow', τ', ob', rfl, hx, he, hF', hR⟩
  obtain ⟨d, sz, m, cp, rfl, hy⟩ := hF x st' hx
  obtain ⟨ow'', k1, k2⟩ := hF'.ren d' hR
  exact ⟨v, _, _, ow'', τ', ob', rfl, hy, he, k1, k2⟩
/-- The capacity of the first argument may be taken as known. -/
theorem I_cap {d g sz off n : Nat} (h : ∀ cc, n ≤ cc → cc ≤ maxLen → S.I f (.vsl d g sz off n (some cc) :: xs) st F) : S.I f (.vsl d g sz off n none :: xs) st F := by
  intro c hc m hm a w ow τ ob vs hFR hvs
  simp only [Rt] at hvs
  obtain ⟨v, r, rfl, hx, hr⟩ := hvs
  have hx' := hx
  simp only [R] at hx'
  obtain ⟨h1, A, z, rfl, h2, h3, _, h4⟩ := hx'
  refine h z h2 h3 c hc m hm a w ow τ ob _ hFR ?_
  simp only [Rt]
  refine ⟨_, r, rfl, ?_, hr⟩
  simp only [R]
  exact ⟨h1, A, z, rfl, h2, h3, fun c' hc' => by injection hc' with hc'; exact hc'.symm, h4⟩
/-! ### slices.overlaps -/
theorem run_overlaps_var {P : Program} (w : World) {t e : TypeId} (rs : Array TypeId) {ie : TypeInfo} (ht : P.underlying t = some (.slice e)) (hi : P.info? e = some ie) (ps : Array TypeId) (hp : ps[0]? = some t) {a b : Addr} {la ca lb cb : Nat} (hne : a.block ≠ b.block) {ca' cb' : Array Value} {tA tB : TypeId} {fa : Nat × Nat}
    (hA : w.heap[a.block]? = some (.cells ca' tA fa)) (hz : ca'.size ≠ 0) (hB : w.heap[b.block]? = some (.cells cb' tB (0, 0))) :
    (Extern.SlicesOverlaps.overlaps ps rs #[.slice (some a) la ca, .slice (some b) lb cb]).run P w = .ok (.bool false) w := by
  have hnb : (a.block != b.block) = true := by simpa using hne
  have hnb' : (a.block == b.block) = false := by simpa using hne
  have hsa : w.shape? a.block = some (tA, ca'.size) := by simp [World.shape?, hA]
  have hsb : w.shape? b.block = some (tB, cb'.size) := by simp [World.shape?, hB]
  have hfb : w.frozen? b = false := by simp [World.frozen?, hB]
  have hfe : w.frozen? { block := b.block, off := cb'.size } = false := by simp [World.frozen?, hB]
  change Sem.run P (α := Value) (do
    let some t := ps[0]? | stuck "slices.overlaps: no parameter types"
    let .slice elem ← underlying t | stuck "slices.overlaps: slice type expected"
    let size ← sizeOf elem
    match (some a : Option Addr), (some b : Option Addr) with
    | some a, some b =>
      if la = 0 ∨ lb = 0 ∨ size = 0 then pure (Value.bool false)
      else if a.block != b.block && (← frozen a) && (← frozen b) then unsupported .addressObserved
      else do
        if a.block != b.block then do
          noView a; noView b
          if ← mayBeOne a b then return Value.bool ((← choose (.extern "sameAddr.stringBytes" 2)) == 1)
        pure (Value.bool (a.block == b.block && a.off < b.off + lb * size && b.off < a.off + la * size))
    | _, _ => pure (Value.bool false)) w = _
  by_cases h0 : la = 0 ∨ lb = 0 ∨ ie.size = 0
  · simp [hp, run_underlying ht, run_sizeOf' hi, h0]
  · obtain ⟨kA, hkA⟩ : ∃ kA, ca'.size = kA + 1 := ⟨ca'.size - 1, by omega⟩
    rw [hkA] at hsa
    cases hfa : w.frozen? a <;> cases hfe2 : w.frozen? { block := a.block, off := kA + 1 } <;>
      simp [hp, run_underlying ht, run_sizeOf' hi, h0, hnb, hnb', frozen, noView, viewAt, mayBeOne, stringish, shape, Sem.run, hsa, hsb, hfa, hfe, hfb, hfe2]
theorem HStep_overlaps {P : Program} {c : Cx σ} {st : St σ} {f : Nat} {fn : Func} {x y : Operand} {tys : Array TypeId} {t e : TypeId} {ie : TypeInfo} {d g sz off n : Nat} {cp : Option Nat} {tok : Tok} {rows : List (List AV)} (hf : P.funcs[f]? = some fn) (hb : fn.body = none) (hn : (fn.name == "runtime.NumGoroutine") = false)
    (h1 : Extern.findNext fn = none) (h2 : Extern.find fn = some (Extern.SlicesOverlaps.overlaps fn.params fn.resultTypes)) (hp : fn.params[0]? = some t) (ht : P.underlying t = some (.slice e)) (hi : P.info? e = some ie) (hsz : 0 < sz)
    (hx : st.ev x = .sl sz tok rows) (hr : rows ≠ []) (hy : st.ev y = .vsl d g sz off n cp) (hg : g = st.gen d) : HStep P c (.call { callee := .value (.func f), args := #[x, y], argTypes := tys }) st (fun u s => u = .imm (.bool false) ∧ s = st) := by
  intro dst type pos after guard a w ow τ ob hF K Q hK
  have hRx := R_ev hF x
  have hRy := R_ev hF y
  rw [hx] at hRx
  rw [hy] at hRy
  simp only [R] at hRx hRy
  obtain ⟨A, z, hvx, _, _, hrows, _⟩ := hRx
  obtain ⟨bx, ox, rfl, hrx⟩ := hrows hr
  obtain ⟨_, B, z', hvy, _, _, _, hb'⟩ := hRy
  obtain ⟨by', oy, hvb, rfl, _⟩ := hb' hg
  obtain ⟨cs, T, hheap, _, _, _⟩ := var_block hF hvb
  obtain ⟨v0, hic⟩ : ∃ v0, (Kof c st w ow τ ob).ic ⟨bx, ox, none⟩ v0 := by
    cases rows with
    | nil => exact absurd rfl hr
    | cons r rows =>
      simp only [rowsAt] at hrx
      obtain ⟨hr0, hl, _⟩ := hrx
      cases r with
      | nil => simp at hl; omega
      | cons u r =>
        simp only [rowAt] at hr0
        obtain ⟨⟨v0, hv0, _⟩, _⟩ := hr0
        exact ⟨v0, hv0⟩
  obtain ⟨_, hcell, hwho⟩ := hic
  have hblk : ∃ ca' tA fa, w.heap[bx]? = some (.cells ca' tA fa) ∧ ca'.size ≠ 0 := by
    simp only [World.cell?] at hcell
    split at hcell
    · rename_i cc tA fa hq
      refine ⟨cc, tA, fa, hq, ?_⟩
      simp at hcell
      have := (Array.getElem?_eq_some_iff.1 hcell).1
      omega
    · cases hcell
  obtain ⟨ca', tA, fa, hA, hz⟩ := hblk
  have hne : bx ≠ by' := by
    rintro rfl
    obtain ⟨q1, q2, _⟩ := hvb
    rcases hwho with hg0 | ⟨_, hi' | ⟨tt, ht', _⟩⟩
    · have := (c.g0 _ hg0).1
      simp only at this
      omega
    · simp only at hi'; rw [hi'] at q2; cases q2
    · simp only at ht'; rw [ht'] at q2; cases q2
  have hrun := run_overlaps_var (P := P) w fn.resultTypes ht hi fn.params hp (a := ⟨bx, ox, none⟩) (b := ⟨by', oy, none⟩) (la := rows.length) (ca := z) (lb := n) (cb := z') hne hA hz hheap
  have hcall := run_callFunc_extern (P := P) hf hn (by rw [hb]; rfl) h1 h2 #[.slice (some ⟨bx, ox, none⟩) rows.length z, .slice (some ⟨by', oy, none⟩) n z'] w
  rw [hrun] at hcall
  refine wp_value (v := .bool false) (w' := w) ?_ (hK (.imm (.bool false)) st (.bool false) w ow τ ob ⟨rfl, rfl⟩ hF (by unfold R; exact ⟨rfl, rfl⟩))
  simp only [execOp, resolve, Act.eval, Deferred.ofValue, Sem.run_bind, Sem.run_pure, Result.andThen_ok, invoke]
  have e1 : (#[x, y].map a.eval) = #[.slice (some ⟨bx, ox, none⟩) rows.length z, .slice (some ⟨by', oy, none⟩) n z'] := by simp [hvx, hvy]
  have e2 : (#[] ++ #[x, y].map a.eval ++ #[] : Array Value) = #[.slice (some ⟨bx, ox, none⟩) rows.length z, .slice (some ⟨by', oy, none⟩) n z'] := by simp [hvx, hvy]
  rw [e2]
  simp [hcall]
end Go.Av
