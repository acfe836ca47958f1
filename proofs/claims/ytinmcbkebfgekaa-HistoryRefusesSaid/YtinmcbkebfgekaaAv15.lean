/-
  OWN TEXT. All operations in one; regions in the order of the text.
-/
import Derived.Test.YtinmcbkebfgekaaAv14
set_option linter.all false
set_option linter.unusedVariables false
set_option linter.unusedSimpArgs false
namespace Go.Av
variable {σ : Type}
section
variable {P : Program} {T : List Nat} {Φ : Orc} {d : Nat} {c : Cx σ} {st st' : St σ} {x : AV} {a : Act} {w : World} {ow : Nat → Own} {τ : Nat → Nat} {ob : Nat → Value → Prop}
  {dst : Option Nat} {type : TypeId} {pos : String} {after : Array Edge} {guard : Option (Nat × Bool)}

theorem isNeq_eq {op : BinOp} {ng : Bool} (h : isNeq op = some ng) : op = if ng then .neq else .eql := by
  cases op <;> simp [isNeq] at h <;> subst h <;> rfl
theorem act_sim (hΦ : Specs σ P T Φ) {op : Op} {ao : AOp} (hc : comp P T op = some ao) (ha : act Φ d st ao = some (x, st')) (h : FR c st a w ow τ ob) :
    Sim P c st' x ⟨dst, op, type, pos, after, guard⟩ a w ob := by
  cases op <;> simp only [comp] at hc <;> try (simp only [reduceCtorEq] at hc; done)
  case move y => injection hc with hc; subst hc; exact sim_mov h (.inl rfl) ha
  case assign y => injection hc with hc; subst hc; exact sim_mov h (.inr rfl) ha
  case pick y z u => injection hc with hc; subst hc; exact sim_pick h ha
  case box t y => injection hc with hc; subst hc; exact sim_box h ha
  case alloc t =>
    split at hc
    · split at hc
      · split at hc
        · injection hc with hc; subst hc; exact sim_alloc h ‹_› ‹_› ‹_› ha
        · cases hc
      · cases hc
    · cases hc
  case build t parts =>
    split at hc
    · split at hc
      · split at hc
        · rename_i hq
          obtain ⟨qs, hp, hx⟩ := Option.map_eq_some_iff.1 hc
          subst hx
          exact sim_build h ‹_› ‹_› ‹_› hq.1 hq.2 hp ha
        · cases hc
      · cases hc
    · split at hc
      · split at hc
        · injection hc with hc; subst hc; exact sim_builda h ‹_› ‹_› ‹_› ‹_› ‹_› ha
        · cases hc
      · cases hc
    · cases hc
  case buildSlice t len parts =>
    split at hc
    · split at hc
      · split at hc
        · rename_i hq
          obtain ⟨q1, q2, q3, q4⟩ := hq
          obtain ⟨z, hz, hzs⟩ := Option.map_eq_some_iff.1 q4
          injection hc with hc; subst hc
          exact sim_bsl h ‹_› ‹_› q1 q2 q3 hz hzs ha
        · cases hc
      · cases hc
    · cases hc
  case load t y =>
    split at hc
    · split at hc
      · injection hc with hc; subst hc; exact sim_load h ‹_› ‹_› ‹_› ha
      · cases hc
    · cases hc
  case store t y z =>
    split at hc
    · injection hc with hc; subst hc; exact sim_store h ‹_› ha
    · cases hc
  case fieldAddr s y f =>
    split at hc
    · split at hc
      · split at hc
        · split at hc
          · cases hc
          · injection hc with hc; subst hc; exact sim_faddr h ‹_› ‹_› ‹_› ‹_› ha
        · cases hc
      · cases hc
    · cases hc
  case indexAddr t y z =>
    split at hc
    · split at hc
      · injection hc with hc; subst hc; exact sim_iaddr h ‹_› ‹_› ha
      · cases hc
    · split at hc
      · injection hc with hc; subst hc; exact sim_aaddr h ‹_› ‹_› ha
      · cases hc
    · cases hc
  case index t y z =>
    split at hc
    · injection hc with hc; subst hc; exact sim_sidx h ‹_› ha
    · split at hc
      · split at hc
        · injection hc with hc; subst hc; exact sim_aidx h ‹_› ‹_› ‹_› ‹_› ha
        · cases hc
      · cases hc
    · cases hc
  case makeFunc fn first caps =>
    split at hc
    · injection hc with hc; subst hc; exact sim_mkf h ha
    · cases hc
  case makeMap t r =>
    split at hc
    · injection hc with hc; subst hc; exact sim_mkmap h ha
    · cases hc
  case makeSlice t l cc =>
    split at hc
    · split at hc
      · split at hc
        · split at hc
          · rename_i hq
            obtain ⟨rfl, q1, q2, q3, q4⟩ := hq
            injection hc with hc; subst hc
            exact sim_mksl h ‹_› ‹_› ‹_› q1 q2 q3 q4 ha
          · cases hc
        · cases hc
      · cases hc
    · cases hc
  case lookup t m k comma =>
    split at hc
    · split at hc
      · split at hc
        · injection hc with hc; subst hc; exact sim_mget h ‹_› ‹_› ‹_› ‹_› ha
        · cases hc
      · cases hc
    · cases hc
  case mapUpdate t m k v =>
    split at hc
    · split at hc
      · injection hc with hc; subst hc; exact sim_mset h ‹_› ‹_› ha
      · cases hc
    · cases hc
  case insert t m k v =>
    split at hc
    · split at hc
      · injection hc with hc; subst hc; exact sim_insert h ‹_› ‹_› ha
      · cases hc
    · cases hc
  case field t y f =>
    split at hc
    · split at hc
      · split at hc
        · split at hc
          · injection hc with hc; subst hc; exact sim_field h ‹_› ‹_› ‹_› ‹_› ‹_› ha
          · cases hc
        · cases hc
      · cases hc
    · cases hc
  case binOp op t y z ty =>
    split at hc
    · injection hc with hc; subst hc; exact sim_bin h ha
    · injection hc with hc; subst hc; exact sim_bin h ha
    · cases op <;> simp only [reduceCtorEq, Option.some.injEq] at hc
      · subst hc; exact sim_beq (neg := false) h ‹_› ha
      · subst hc; exact sim_beq (neg := true) h ‹_› ha
    · split at hc
      · split at hc
        · rename_i hq
          cases op <;> simp only [reduceCtorEq, Option.some.injEq] at hc
          · subst hc; exact sim_seq (neg := false) h ‹_› ‹_› hq.1 ha
          · subst hc; exact sim_seq (neg := true) h ‹_› ‹_› hq.1 ha
        · cases hc
      · cases hc
    · split at hc
      · rename_i hn
        split at hc
        · injection hc with hc; subst hc; exact sim_peq h (isNeq_eq hn) ‹_› (.inl ⟨rfl, ‹_›⟩) ha
        · split at hc
          · injection hc with hc; subst hc; exact sim_peq h (isNeq_eq hn) ‹_› (.inr ⟨rfl, ‹_›⟩) ha
          · cases hc
      · cases hc
    · split at hc
      · rename_i hn
        split at hc
        · injection hc with hc; subst hc; exact sim_snil h (isNeq_eq hn) ‹_› ‹_› ha
        · cases hc
      · cases hc
    · cases hc
  case unOp op t y => injection hc with hc; subst hc; exact sim_un h ha
  case convert s t y =>
    split at hc
    · injection hc with hc; subst hc; exact sim_convi h ‹_› ‹_› ha
    · injection hc with hc; subst hc; exact sim_convs h ‹_› ‹_› ha
    · cases hc
  case slice t y lo hi mx =>
    split at hc
    · split at hc
      · injection hc with hc; subst hc; exact sim_slc h ‹_› ‹_› ha
      · cases hc
    · split at hc
      · injection hc with hc; subst hc; exact sim_sslc h ‹_› ha
      · cases hc
    · split at hc
      · injection hc with hc; subst hc; exact sim_asl h ‹_› ‹_› ha
      · cases hc
    · cases hc
  case extract y i => injection hc with hc; subst hc; exact sim_ext h ha
  case nilCheck y => injection hc with hc; subst hc; exact sim_nilc h ha
  case call cl =>
    obtain ⟨callee, args, argTypes⟩ := cl
    simp only at hc
    split at hc
    · split at hc
      · split at hc
        · rename_i hq
          injection hc with hc; subst hc
          exact sim_call hΦ h ‹_› hq.1 hq.2.1 hq.2.2 ha
        · cases hc
      · cases hc
    · injection hc with hc; subst hc; exact sim_callv hΦ h ha
    · split at hc
      · split at hc
        · injection hc with hc; subst hc; exact sim_slen h ‹_› ‹_› ‹_› ha
        · injection hc with hc; subst hc; exact sim_len h ‹_› ‹_› ‹_› ha
        · injection hc with hc; subst hc; exact sim_mlen h ‹_› ‹_› ‹_› ha
        · cases hc
      · cases hc
    · split at hc
      · split at hc
        · injection hc with hc; subst hc; exact sim_capv h ‹_› ‹_› ‹_› ha
        · cases hc
      · cases hc
    · split at hc
      · injection hc with hc; subst hc; exact sim_mm (mx := true) h ‹_› ha
      · cases hc
    · split at hc
      · injection hc with hc; subst hc; exact sim_mm (mx := false) h ‹_› ha
      · cases hc
    · split at hc
      · split at hc
        · split at hc
          · injection hc with hc; subst hc; exact sim_cpy h ‹_› ‹_› ‹_› ‹_› ha
          · cases hc
        · cases hc
      · cases hc
    · split at hc
      · rename_i e1 e2
        split at hc
        · rename_i u1 u2
          split at hc
          · rename_i i1
            split at hc
            · rename_i hq
              obtain ⟨q1, q2, q3, q4⟩ := hq
              obtain ⟨z, hz, hzs⟩ := Option.map_eq_some_iff.1 q4
              simp only [Prod.mk.injEq] at hzs
              rw [← q3] at e2
              injection hc with hc; subst hc
              exact sim_app h e1 e2 u1 i1 hz hzs.1 hzs.2 q1 q2 ha
            · cases hc
          · cases hc
        · rename_i u1 u2
          split at hc
          · rename_i i1
            split at hc
            · rename_i hz
              split at hc
              · rename_i hq
                obtain ⟨q1, q2, q3, q4⟩ := hq
                injection hc with hc; subst hc
                exact sim_appz h e1 e2 u1 u2 i1 hz q1 q2 q3 q4 ha
              · cases hc
            · cases hc
          · cases hc
        · cases hc
      · cases hc
    · cases hc
end
end Go.Av
