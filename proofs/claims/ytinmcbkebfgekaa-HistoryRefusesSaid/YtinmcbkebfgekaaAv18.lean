/-
  OWN TEXT. What an operation reads and writes; operations that do not meet may be exchanged.
-/
import Derived.Test.YtinmcbkebfgekaaAv17
set_option linter.all false
set_option linter.unusedVariables false
set_option linter.unusedSimpArgs false
namespace Go.Av
variable {σ : Type}

def AOp.opnds : AOp → List Operand
  | .mov x => [x]
  | .pick c a b => [c, a, b]
  | .box x => [x]
  | .alloc _ => []
  | .build _ parts => parts.map (·.2.2)
  | .bsl _ parts => parts
  | .load _ _ p => [p]
  | .store _ p x => [p, x]
  | .faddr _ p => [p]
  | .iaddr _ x i => [x, i]
  | .aaddr _ _ x i => [x, i]
  | .sidx x i => [x, i]
  | .field _ _ _ x => [x]
  | .bin _ x y => [x, y]
  | .beq _ x y => [x, y]
  | .seq _ _ x y => [x, y]
  | .un _ x => [x]
  | .convi _ x => [x]
  | .convs x => [x]
  | .slc _ x lo hi mx => x :: (lo.toList ++ hi.toList ++ mx.toList)
  | .sslc x lo hi => x :: (lo.toList ++ hi.toList)
  | .ext _ x => [x]
  | .call _ args => args
  | .slen x => [x]
  | .len x => [x]
  | .app _ _ x y => [x, y]
  | .nilc x => [x]
  | .mkf _ first caps => first ++ caps
  | .callv x args => x :: args
  | .aidx _ _ _ x i => [x, i]
  | .mm _ x y => [x, y]
  | .peq _ x => [x]
  | .snil _ x => [x]
  | .asl _ _ x => [x]
  | .capv x => [x]
  | .cpy _ x y => [x, y]
  | .appz _ _ _ x n => [x, n]
  | .mksl _ _ _ n => [n]
  | .mkmap => []
  | .mget _ _ _ _ m k => [m, k]
  | .mset _ _ m k x => [m, k, x]
  | .mlen m => [m]
  | .hard _ => []
def AV.ptrOf : AV → Option Nat
  | .ptr d _ _ => some d
  | .vsl d _ _ _ _ _ => some d
  | .mp d _ => some d
  | _ => none
def AV.tokOf : AV → Option Nat
  | .sl _ (.own t _) _ => some t
  | _ => none
/-- The variables that are read, and written; the tokens that are met; are all variables read. -/
structure Eff where
  rd : List Nat
  wr : List Nat
  tk : List Nat
  all : Bool
  deriving DecidableEq
def eff (d : Nat) (st : St σ) : AOp → Eff
  | .load _ _ p => ⟨(st.ev p).ptrOf.toList, [], [], false⟩
  | .store _ p _ => ⟨(st.ev p).ptrOf.toList, (st.ev p).ptrOf.toList, [], false⟩
  | .faddr _ p => ⟨(st.ev p).ptrOf.toList, [], [], false⟩
  | .nilc p => ⟨(st.ev p).ptrOf.toList, [], [], false⟩
  | .peq _ p => ⟨(st.ev p).ptrOf.toList, [], [], false⟩
  | .snil _ p => ⟨(st.ev p).ptrOf.toList, [], [], false⟩
  | .aaddr _ _ p _ => ⟨(st.ev p).ptrOf.toList, [], [], false⟩
  | .iaddr _ p _ => ⟨(st.ev p).ptrOf.toList, [], [], false⟩
  | .asl _ _ p => ⟨(st.ev p).ptrOf.toList, [], [], false⟩
  | .mget _ _ _ _ p _ => ⟨(st.ev p).ptrOf.toList, [], [], false⟩
  | .mlen p => ⟨(st.ev p).ptrOf.toList, [], [], false⟩
  | .mset _ _ p _ _ => ⟨(st.ev p).ptrOf.toList, (st.ev p).ptrOf.toList, [], false⟩
  | .box _ => ⟨[d], [d], [], false⟩
  | .alloc _ => ⟨[d], [d], [], false⟩
  | .mkmap => ⟨[d], [d], [], false⟩
  | .mksl _ _ _ _ => ⟨[d], [d], [], false⟩
  | .appz _ _ _ x _ => ⟨d :: (st.ev x).ptrOf.toList, [d], [], false⟩
  | .cpy _ x y => ⟨(st.ev x).ptrOf.toList ++ (st.ev y).ptrOf.toList, (st.ev x).ptrOf.toList, [], false⟩
  | .app _ _ x y => match (st.ev x).ptrOf with | some d' => ⟨d :: d' :: (st.ev y).ptrOf.toList, [d, d'], [], false⟩ | none => ⟨[], [], d :: (st.ev x).tokOf.toList, false⟩
  | .call _ args => ⟨[], [], [d], !AV.pureBs (args.map fun x => (st.ev x).weaks)⟩
  | .callv x args => match st.ev x with | .fv _ first caps => ⟨[], [], [d], !AV.pureBs (first ++ (args.map fun x => (st.ev x).weaks) ++ caps)⟩ | _ => ⟨[], [], [d], false⟩
  | _ => ⟨[], [], [], false⟩
theorem eff_sub (d : Nat) (st : St σ) (op : AOp) : ∀ i, i ∈ (eff d st op).wr → i ∈ (eff d st op).rd := by
  intro i hi
  cases op <;> simp only [eff, List.not_mem_nil] at hi ⊢ <;> first | exact hi | skip
  case app sz bytes x y =>
    split at hi
    · simp only [List.mem_cons, List.not_mem_nil, or_false] at hi
      simp only [List.mem_cons]
      rcases hi with h | h <;> simp [h]
    · simp at hi
  case cpy sz x y => simp [hi]
  case appz sz bytes z x n => simp at hi; simp [hi]
  case callv x args => split at hi <;> simp at hi

inductive Loc where
  | env (i : Nat)
  | var (i : Nat)
  | tok (i : Nat)
def eqAt (s s' : St σ) : Loc → Prop
  | .env i => s'.env i = s.env i
  | .var i => s'.gen i = s.gen i ∧ s'.var i = s.var i
  | .tok i => s'.tgen i = s.tgen i ∧ s'.top i = s.top i
theorem eqAt.refl (s : St σ) (l : Loc) : eqAt s s l := by cases l <;> simp [eqAt]
theorem eqAt.symm {s s' : St σ} {l : Loc} (h : eqAt s s' l) : eqAt s' s l := by cases l <;> simp_all [eqAt]
theorem eqAt.trans {s s' s'' : St σ} {l : Loc} (h : eqAt s s' l) (k : eqAt s' s'' l) : eqAt s s'' l := by cases l <;> simp_all [eqAt]
theorem St.ext_loc {s s' : St σ} (h : ∀ l, eqAt s s' l) (hx : s'.x = s.x) : s' = s := by
  cases s; cases s'
  simp only [St.mk.injEq]
  refine ⟨funext fun i => h (.env i), funext fun i => (h (.var i)).1, funext fun i => (h (.var i)).2, funext fun i => (h (.tok i)).1, funext fun i => (h (.tok i)).2, hx⟩

/-- A step reads Rd and writes Wr. -/
def Frame (f : St σ → Option (St σ)) (Rd Wr : Loc → Prop) : Prop :=
  ∀ s r, f s = some r → (r.x = s.x ∧ ∀ l, ¬ Wr l → eqAt s r l) ∧ ∀ s', s'.x = s.x → (∀ l, Rd l → eqAt s s' l) → ∃ r', f s' = some r' ∧ r'.x = s'.x ∧ (∀ l, Wr l → eqAt r r' l) ∧ ∀ l, ¬ Wr l → eqAt s' r' l
theorem swap {f g : St σ → Option (St σ)} {Rf Wf Rg Wg : Loc → Prop} (hf : Frame f Rf Wf) (hg : Frame g Rg Wg) (h1 : ∀ l, Wf l → ¬ Rg l ∧ ¬ Wg l) (h2 : ∀ l, Wg l → ¬ Rf l)
    {s s1 s2 : St σ} (e1 : f s = some s1) (e2 : g s1 = some s2) : ∃ s1', g s = some s1' ∧ f s1' = some s2 := by
  obtain ⟨⟨fx, fo⟩, ff⟩ := hf s s1 e1
  obtain ⟨⟨gx, go⟩, gg⟩ := hg s1 s2 e2
  obtain ⟨r, hr, rx, rw', ro⟩ := gg s fx.symm fun l hl => (fo l fun hw => (h1 l hw).1 hl).symm
  obtain ⟨q, hq, qx, qw, qo⟩ := ff r rx fun l hl => ro l fun hw => h2 l hw hl
  refine ⟨r, hr, ?_⟩
  rw [hq]
  congr 1
  refine St.ext_loc (fun l => ?_) (by rw [qx, rx, gx, fx])
  by_cases hwf : Wf l
  · exact (go l (h1 l hwf).2).symm.trans (qw l hwf)
  · by_cases hwg : Wg l
    · exact (rw' l hwg).trans (qo l hwf)
    · exact ((go l hwg).symm.trans ((fo l hwf).symm.trans (ro l hwg))).trans (qo l hwf)

def Operand.slot? : Operand → Option Nat
  | .tmp t => some t
  | _ => none
def AOper.slots (o : AOper) : List Nat := o.op.opnds.filterMap Operand.slot? ++ (o.guard.map (·.1)).toList
def Rd (o : AOper) (e : Eff) : Loc → Prop
  | .env i => i ∈ o.slots
  | .var i => i ∈ e.rd ∨ e.all = true
  | .tok i => i ∈ e.tk
def Wr (o : AOper) (e : Eff) : Loc → Prop
  | .env i => o.dst = some i
  | .var i => i ∈ e.wr
  | .tok i => i ∈ e.tk

theorem ev_congr {s s' : St σ} {o : AOper} (h : ∀ i, i ∈ o.slots → s'.env i = s.env i) {x : Operand} (hx : x ∈ o.op.opnds) : s'.ev x = s.ev x := by
  cases x with
  | tmp t =>
    exact h t (by simp only [AOper.slots, List.mem_append, List.mem_filterMap]; exact .inl ⟨_, hx, rfl⟩)
  | _ => rfl

/-- What an operation's act alone owes. -/
def ActF (d : Nat) (Φ : Orc) (op : AOp) (e : Eff) (s s' : St σ) (v : AV) (s1 : St σ) : Prop :=
  (s1.x = s.x ∧ s1.env = s.env ∧ (∀ i, i ∉ e.wr → eqAt s s1 (.var i)) ∧ (∀ i, i ∉ e.tk → eqAt s s1 (.tok i))) ∧
  ∃ s1', act Φ d s' op = some (v, s1') ∧ s1'.x = s'.x ∧ s1'.env = s'.env ∧ (∀ i, i ∈ e.wr → eqAt s1 s1' (.var i)) ∧ (∀ i, i ∈ e.tk → eqAt s1 s1' (.tok i)) ∧ (∀ i, i ∉ e.wr → eqAt s' s1' (.var i)) ∧ (∀ i, i ∉ e.tk → eqAt s' s1' (.tok i))
section
variable {d : Nat} {Φ : Orc} {op : AOp} {e : Eff} {s s' s1 : St σ} {v : AV}
theorem ActF.quiet (h1 : e.wr = []) (h2 : e.tk = []) (hs : s1 = s) (h' : act Φ d s' op = some (v, s')) : ActF d Φ op e s s' v s1 := by
  subst hs
  exact ⟨⟨rfl, rfl, fun i _ => eqAt.refl _ _, fun i _ => eqAt.refl _ _⟩, s', h', rfl, rfl, fun i hi => by rw [h1] at hi; simp at hi, fun i hi => by rw [h2] at hi; simp at hi, fun i _ => eqAt.refl _ _, fun i _ => eqAt.refl _ _⟩
/-- One variable is written. -/
theorem ActF.setv {q : Nat} {xs : List AV} (h1 : e.wr = [q]) (h2 : e.tk = []) (hg : s'.gen q = s.gen q) (hs : s1 = { s with var := upd s.var q xs }) (h' : act Φ d s' op = some (v, { s' with var := upd s'.var q xs })) : ActF d Φ op e s s' v s1 := by
  subst hs
  refine ⟨⟨rfl, rfl, fun i hi => ⟨rfl, ?_⟩, fun i _ => ⟨rfl, rfl⟩⟩, _, h', rfl, rfl, fun i hi => ?_, fun i hi => by rw [h2] at hi; simp at hi, fun i hi => ⟨rfl, ?_⟩, fun i _ => ⟨rfl, rfl⟩⟩
  · exact upd_ne _ _ _ fun hh => hi (by rw [h1, hh]; simp)
  · rw [h1, List.mem_singleton] at hi
    subst hi
    exact ⟨hg, by simp [upd]⟩
  · exact upd_ne _ _ _ fun hh => hi (by rw [h1, hh]; simp)
theorem ActF.newv {q : Nat} {xs : List AV} (h1 : e.wr = [q]) (h2 : e.tk = []) (hg : s'.gen q = s.gen q) (hs : s1 = s.newVar q xs) (h' : act Φ d s' op = some (v, s'.newVar q xs)) : ActF d Φ op e s s' v s1 := by
  subst hs
  refine ⟨⟨rfl, rfl, fun i hi => ?_, fun i _ => ⟨rfl, rfl⟩⟩, _, h', rfl, rfl, fun i hi => ?_, fun i hi => by rw [h2] at hi; simp at hi, fun i hi => ?_, fun i _ => ⟨rfl, rfl⟩⟩
  · have : i ≠ q := fun hh => hi (by rw [h1, hh]; simp)
    exact ⟨upd_ne _ _ _ this, upd_ne _ _ _ this⟩
  · rw [h1, List.mem_singleton] at hi
    subst hi
    simp [eqAt, St.newVar, upd, hg]
  · have : i ≠ q := fun hh => hi (by rw [h1, hh]; simp)
    exact ⟨upd_ne _ _ _ this, upd_ne _ _ _ this⟩
theorem ActF.given {r : AV} (h1 : e.wr = []) (h2 : e.tk = [d]) (ht : s'.tgen d = s.tgen d ∧ s'.top d = s.top d) (hs : s1 = s.given d r) (h' : act Φ d s' op = some (v, s'.given d r)) : ActF d Φ op e s s' v s1 := by
  subst hs
  obtain ⟨e1, e2, e3, e4⟩ := given_env s d r
  obtain ⟨f1, f2, f3, f4⟩ := given_env s' d r
  have tk : ∀ (t : St σ) i, i ≠ d → eqAt t (t.given d r) (.tok i) := by
    intro t i hi
    unfold St.given
    split
    · simp [eqAt, St.give, upd, hi]
    · exact eqAt.refl _ _
  refine ⟨⟨e4, e1, fun i _ => ⟨by rw [e2], by rw [e3]⟩, fun i hi => tk s i fun h => hi (by rw [h2, h]; simp)⟩, _, h', f4, f1, fun i hi => by rw [h1] at hi; simp at hi, fun i hi => ?_, fun i _ => ⟨by rw [f2], by rw [f3]⟩, fun i hi => tk s' i fun h => hi (by rw [h2, h]; simp)⟩
  rw [h2, List.mem_singleton] at hi
  subst hi
  unfold St.given
  split
  · simp [eqAt, St.give, upd, ht.1]
  · exact ht
theorem vslOf_ptr {y : AV} {p : Nat × Nat × Nat × Nat × Nat × Option Nat} (h : y.vslOf = some p) : y.ptrOf = some p.1 := by rw [vslOf_eq h]; rfl
theorem src_congr {sz : Nat} {lim : Option Nat} {y : AV} (h : ∀ i, y.ptrOf = some i → s'.gen i = s.gen i ∧ s'.var i = s.var i) : s'.src sz lim y = s.src sz lim y := by
  unfold St.src
  split
  · rename_i d' g sz' off n cp ev
    obtain ⟨a1, a2⟩ := h d' (vslOf_ptr ev)
    rw [a1, a2]
  · rfl
  · rfl

theorem act_frame (hp : eff d s op = e) (he : ∀ x, x ∈ op.opnds → s'.ev x = s.ev x) (hV : ∀ i, i ∈ e.rd ∨ e.all = true → s'.gen i = s.gen i ∧ s'.var i = s.var i) (hT : ∀ i, i ∈ e.tk → s'.tgen i = s.tgen i ∧ s'.top i = s.top i) (h : act Φ d s op = some (v, s1)) : ActF d Φ op e s s' v s1 := by
  subst hp
  cases op
  case load agg n p =>
    simp only [AOp.opnds, List.mem_cons, List.not_mem_nil, or_false, forall_eq] at he
    simp only [act] at h
    split at h
    · rename_i d' g off ep
      split at h
      · rename_i hc
        obtain ⟨v', hv', hq⟩ := Option.map_eq_some_iff.1 h
        cases hq
        obtain ⟨a1, a2⟩ := hV d' (.inl (by simp [eff, ep, AV.ptrOf]))
        refine .quiet rfl rfl rfl ?_
        simp only [act, he, ep, a1, a2]
        rw [if_pos hc, hv']; rfl
      · cases h
    · rename_i cs off ep
      split at h
      · rename_i hc
        obtain ⟨v', hv', hq⟩ := Option.map_eq_some_iff.1 h
        cases hq
        refine .quiet rfl rfl rfl ?_
        simp only [act, he, ep]
        rw [if_pos hc, hv']; rfl
      · cases h
    · cases h
  case faddr off p =>
    simp only [AOp.opnds, List.mem_cons, List.not_mem_nil, or_false, forall_eq] at he
    simp only [act] at h
    split at h
    · rename_i d' g q ep
      split at h
      · rename_i hc
        cases h
        obtain ⟨a1, a2⟩ := hV d' (.inl (by simp [eff, ep, AV.ptrOf]))
        refine .quiet rfl rfl rfl ?_
        simp only [act, he, ep, a1]
        rw [if_pos hc]
      · cases h
    · rename_i ep
      cases h
      exact .quiet rfl rfl rfl (by simp only [act, he, ep])
    · cases h
  case nilc p =>
    simp only [AOp.opnds, List.mem_cons, List.not_mem_nil, or_false, forall_eq] at he
    simp only [act] at h
    split at h
    · rename_i d' g q ep
      split at h
      · rename_i hc
        cases h
        obtain ⟨a1, a2⟩ := hV d' (.inl (by simp [eff, ep, AV.ptrOf]))
        refine .quiet rfl rfl rfl ?_
        simp only [act, he, ep, a1]
        rw [if_pos hc]
      · cases h
    · rename_i ep
      cases h
      exact .quiet rfl rfl rfl (by simp only [act, he, ep])
    · cases h
  case peq ng p =>
    simp only [AOp.opnds, List.mem_cons, List.not_mem_nil, or_false, forall_eq] at he
    simp only [act] at h
    split at h
    · rename_i ep
      cases h
      exact .quiet rfl rfl rfl (by simp only [act, he, ep])
    · rename_i d' g q ep
      split at h
      · rename_i hc
        cases h
        obtain ⟨a1, a2⟩ := hV d' (.inl (by simp [eff, ep, AV.ptrOf]))
        refine .quiet rfl rfl rfl ?_
        simp only [act, he, ep, a1]
        rw [if_pos hc]
      · cases h
    · rename_i ep
      cases h
      exact .quiet rfl rfl rfl (by simp only [act, he, ep])
    · cases h
  case snil ng p =>
    simp only [AOp.opnds, List.mem_cons, List.not_mem_nil, or_false, forall_eq] at he
    simp only [act] at h
    split at h
    · rename_i ep
      cases h
      exact .quiet rfl rfl rfl (by simp only [act, he, ep])
    · rename_i ep
      split at h
      · rename_i hc
        cases h
        exact .quiet rfl rfl rfl (by simp only [act, he, ep]; rw [if_pos hc])
      · cases h
    · rename_i d' g sz off n cp ep
      split at h
      · rename_i hc
        cases h
        obtain ⟨a1, a2⟩ := hV d' (.inl (by simp [eff, ep, AV.ptrOf]))
        refine .quiet rfl rfl rfl ?_
        simp only [act, he, ep, a1]
        rw [if_pos hc]
      · cases h
    · cases h
  case asl sz n p =>
    simp only [AOp.opnds, List.mem_cons, List.not_mem_nil, or_false, forall_eq] at he
    simp only [act] at h
    split at h
    · rename_i d' g q ep
      split at h
      · rename_i hc
        cases h
        obtain ⟨a1, a2⟩ := hV d' (.inl (by simp [eff, ep, AV.ptrOf]))
        refine .quiet rfl rfl rfl ?_
        simp only [act, he, ep, a1, a2]
        rw [if_pos hc]
      · cases h
    · cases h
  case iaddr sz x i =>
    simp only [AOp.opnds, List.mem_cons, List.not_mem_nil, or_false, forall_eq_or_imp, forall_eq] at he
    simp only [act] at h
    split at h
    · rename_i d' g sz' off m cp n e1 e2
      split at h
      · rename_i hc
        cases h
        obtain ⟨a1, a2⟩ := hV d' (.inl (by simp [eff, vslOf_ptr e1]))
        refine .quiet rfl rfl rfl ?_
        simp only [act, he, e1, e2, a1]
        rw [if_pos hc]
      · cases h
    · rename_i e0 e1 e2
      split at h
      · rename_i hc
        cases h
        refine .quiet rfl rfl rfl ?_
        simp only [act, he, e0, e1, e2]
        rw [if_pos hc]
      · cases h
    · cases h
  case aaddr len sz x i =>
    simp only [AOp.opnds, List.mem_cons, List.not_mem_nil, or_false, forall_eq_or_imp, forall_eq] at he
    simp only [act] at h
    split at h
    · rename_i d' g q n ep ei
      split at h
      · rename_i hc
        cases h
        obtain ⟨a1, a2⟩ := hV d' (.inl (by simp [eff, ep, AV.ptrOf]))
        refine .quiet rfl rfl rfl ?_
        simp only [act, he, ep, ei, a1]
        rw [if_pos hc]
      · cases h
    · cases h
  case mget ag ks z comma m k =>
    simp only [AOp.opnds, List.mem_cons, List.not_mem_nil, or_false, forall_eq_or_imp, forall_eq] at he
    simp only [act] at h
    split at h
    · rename_i d' g kc em ek
      split at h
      · rename_i hc
        obtain ⟨v', hv', hq⟩ := Option.map_eq_some_iff.1 h
        cases hq
        obtain ⟨a1, a2⟩ := hV d' (.inl (by simp [eff, em, AV.ptrOf]))
        refine .quiet rfl rfl rfl ?_
        simp only [act, he, em, ek, a1, a2]
        rw [if_pos hc, hv']; rfl
      · cases h
    · rename_i kc em ek
      split at h
      · rename_i hc
        cases h
        refine .quiet rfl rfl rfl ?_
        simp only [act, he, em, ek]
        rw [if_pos hc]
      · cases h
    · cases h
  case mlen m =>
    simp only [AOp.opnds, List.mem_cons, List.not_mem_nil, or_false, forall_eq_or_imp, forall_eq] at he
    simp only [act] at h
    split at h
    · rename_i d' g em
      split at h
      · rename_i hc
        cases h
        obtain ⟨a1, a2⟩ := hV d' (.inl (by simp [eff, em, AV.ptrOf]))
        refine .quiet rfl rfl rfl ?_
        simp only [act, he, em, a1, a2]
        rw [if_pos hc]
      · cases h
    · rename_i em
      cases h
      exact .quiet rfl rfl rfl (by simp only [act, he, em])
    · cases h
  case store n p x =>
    simp only [AOp.opnds, List.mem_cons, List.not_mem_nil, or_false, forall_eq_or_imp, forall_eq] at he
    simp only [act] at h
    split at h
    · rename_i d' g off xs ep ex
      split at h
      · rename_i hc
        cases h
        obtain ⟨a1, a2⟩ := hV d' (.inl (by simp [eff, ep, AV.ptrOf]))
        refine .setv (q := d') (by simp [eff, ep, AV.ptrOf]) rfl a1 rfl ?_
        simp only [act, he, ep, ex, a1, a2]
        rw [if_pos hc]
      · cases h
    · cases h
  case mset ag ks m k x =>
    simp only [AOp.opnds, List.mem_cons, List.not_mem_nil, or_false, forall_eq_or_imp, forall_eq] at he
    simp only [act] at h
    split at h
    · rename_i d' g kc em ek
      split at h
      · rename_i hc
        obtain ⟨v', hv', hq⟩ := Option.map_eq_some_iff.1 h
        cases hq
        obtain ⟨a1, a2⟩ := hV d' (.inl (by simp [eff, em, AV.ptrOf]))
        refine .setv (q := d') (by simp [eff, em, AV.ptrOf]) rfl a1 rfl ?_
        simp only [act, he, em, ek, a1, a2]
        rw [if_pos hc, hv']; rfl
      · cases h
    · cases h
  case cpy sz x y =>
    simp only [AOp.opnds, List.mem_cons, List.not_mem_nil, or_false, forall_eq_or_imp, forall_eq] at he
    simp only [act] at h
    split at h
    · rename_i d' g sz' off n cp ex
      split at h
      · rename_i m news es
        split at h
        · rename_i hc
          cases h
          obtain ⟨a1, a2⟩ := hV d' (.inl (by simp [eff, vslOf_ptr ex]))
          have hsrc := src_congr (s := s) (s' := s') (sz := sz) (lim := some n) (y := s.ev y) fun i hi => hV i (.inl (by simp [eff, hi]))
          refine .setv (q := d') (by simp [eff, vslOf_ptr ex]) rfl a1 rfl ?_
          simp only [act, he, ex, hsrc, es, a1, a2]
          rw [if_pos hc]
        · cases h
      · cases h
    · cases h
  case alloc z =>
    simp only [act, Option.some.injEq, Prod.mk.injEq] at h
    obtain ⟨rfl, rfl⟩ := h
    obtain ⟨a1, a2⟩ := hV d (.inl (by simp [eff]))
    exact .newv rfl rfl a1 rfl (by simp only [act, a1])
  case mkmap =>
    simp only [act, Option.some.injEq, Prod.mk.injEq] at h
    obtain ⟨rfl, rfl⟩ := h
    obtain ⟨a1, a2⟩ := hV d (.inl (by simp [eff]))
    exact .newv rfl rfl a1 rfl (by simp only [act, a1])
  case box x =>
    simp only [AOp.opnds, List.mem_cons, List.not_mem_nil, or_false, forall_eq] at he
    simp only [act] at h
    split at h
    · rename_i cs ex
      simp only [Option.some.injEq, Prod.mk.injEq] at h
      obtain ⟨rfl, rfl⟩ := h
      obtain ⟨a1, a2⟩ := hV d (.inl (by simp [eff]))
      exact .newv rfl rfl a1 rfl (by simp only [act, he, ex, a1])
    · cases h
  case mksl sz bytes z n =>
    simp only [AOp.opnds, List.mem_cons, List.not_mem_nil, or_false, forall_eq] at he
    simp only [act] at h
    split at h
    · rename_i m em
      split at h
      · rename_i hc
        cases h
        obtain ⟨a1, a2⟩ := hV d (.inl (by simp [eff]))
        refine .newv rfl rfl a1 rfl ?_
        simp only [act, he, em, a1]
        rw [if_pos hc]
      · cases h
    · cases h
  case appz sz bytes z x n =>
    simp only [AOp.opnds, List.mem_cons, List.not_mem_nil, or_false, forall_eq_or_imp, forall_eq] at he
    simp only [act] at h
    split at h
    · rename_i d' g sz' off k cc m ex em
      split at h
      · rename_i hc
        cases h
        obtain ⟨a1, a2⟩ := hV d (.inl (by simp [eff]))
        obtain ⟨b1, b2⟩ := hV d' (.inl (by simp [eff, vslOf_ptr ex]))
        refine .newv rfl rfl a1 rfl ?_
        simp only [act, he, ex, em, a1, b1, b2]
        rw [if_pos hc]
      · cases h
    · cases h
  case call f args =>
    simp only [AOp.opnds] at he
    have ea : (args.map fun x => (s'.ev x).weaks) = args.map fun x => (s.ev x).weaks := List.map_congr_left fun x hx => by rw [he x hx]
    have eb : args.map s'.ev = args.map s.ev := List.map_congr_left he
    have ht := hT d (by simp [eff])
    simp only [act] at h
    split at h
    · rename_i hp
      split at h
      · rename_i r hr
        obtain ⟨v', hv', hq⟩ := Option.map_eq_some_iff.1 h
        cases hq
        refine .given rfl rfl ht rfl ?_
        simp only [act, ea, ht.1]
        rw [if_pos hp, hr]
        simp [hv']
      · cases h
    · rename_i hp
      obtain ⟨r, hr, hq⟩ := Option.map_eq_some_iff.1 h
      cases hq
      have hg : s'.gen = s.gen := funext fun i => (hV i (.inr (by simp [eff, hp]))).1
      have hv : s'.var = s.var := funext fun i => (hV i (.inr (by simp [eff, hp]))).2
      refine ⟨⟨rfl, rfl, fun i _ => eqAt.refl _ _, fun i _ => eqAt.refl _ _⟩, s', ?_, rfl, rfl, fun i hi => by simp [eff] at hi, fun i hi => hT i hi, fun i _ => eqAt.refl _ _, fun i _ => eqAt.refl _ _⟩
      simp only [act, ea, eb, hg, hv]
      rw [if_neg hp, hr]; rfl
  case callv y args =>
    simp only [AOp.opnds, List.mem_cons, forall_eq_or_imp] at he
    obtain ⟨hy, he⟩ := he
    have ea : (args.map fun x => (s'.ev x).weaks) = args.map fun x => (s.ev x).weaks := List.map_congr_left fun x hx => by rw [he x hx]
    have eb : args.map s'.ev = args.map s.ev := List.map_congr_left he
    simp only [act] at h
    split at h
    rotate_left
    · cases h
    rename_i g first caps ey
    have ht := hT d (by simp [eff, ey])
    split at h
    · rename_i hp
      split at h
      · rename_i r hr
        obtain ⟨v', hv', hq⟩ := Option.map_eq_some_iff.1 h
        cases hq
        refine .given (by simp [eff, ey]) (by simp [eff, ey]) ht rfl ?_
        simp only [act, hy, ey, ea, ht.1]
        rw [if_pos hp, hr]
        simp [hv']
      · cases h
    · rename_i hp
      obtain ⟨r, hr, hq⟩ := Option.map_eq_some_iff.1 h
      cases hq
      have hall : (eff d s (.callv y args)).all = true := by
        simp only [eff, ey]
        simpa using hp
      have hg : s'.gen = s.gen := funext fun i => (hV i (.inr hall)).1
      have hv : s'.var = s.var := funext fun i => (hV i (.inr hall)).2
      refine ⟨⟨rfl, rfl, fun i _ => eqAt.refl _ _, fun i _ => eqAt.refl _ _⟩, s', ?_, rfl, rfl, fun i hi => by simp [eff, ey] at hi, fun i hi => hT i hi, fun i _ => eqAt.refl _ _, fun i _ => eqAt.refl _ _⟩
      simp only [act, hy, ey, ea, eb, hg, hv]
      rw [if_neg hp, hr]; rfl
  case app sz bytes x y =>
    simp only [AOp.opnds, List.mem_cons, List.not_mem_nil, or_false, forall_eq_or_imp, forall_eq] at he
    simp only [act] at h
    split at h
    · rename_i d' g sz' off n cp ex
      have hpx := vslOf_ptr ex
      split at h
      · rename_i m news es
        split at h
        · rename_i hc
          cases h
          have heff : eff d s (.app sz bytes x y) = ⟨d :: d' :: (s.ev y).ptrOf.toList, [d, d'], [], false⟩ := by simp only [eff, hpx]
          rw [heff] at hV ⊢
          obtain ⟨a1, a2⟩ := hV d (.inl (by simp))
          obtain ⟨b1, b2⟩ := hV d' (.inl (by simp))
          have hsrc := src_congr (s := s) (s' := s') (sz := sz) (lim := none) (y := s.ev y) fun i hi => hV i (.inl (by simp [hi]))
          have out : ∀ (t : St σ) xs i, i ∉ [d, d'] → eqAt t ((t.kill d').newVar d xs) (.var i) := by
            intro t xs i hi
            simp only [List.mem_cons, List.not_mem_nil, or_false, not_or] at hi
            simp [eqAt, St.newVar, St.kill, upd, hi.1, hi.2]
          refine ⟨⟨rfl, rfl, out s _, fun i _ => ⟨rfl, rfl⟩⟩, (s'.kill d').newVar d ((s.var d').take (n * sz) ++ news), ?_, rfl, rfl, fun i hi => ?_, fun i hi => by simp at hi, out s' _, fun i _ => ⟨rfl, rfl⟩⟩
          · simp only [act, he, ex, hsrc, es, b1, b2]
            rw [if_pos hc]
            simp only [Option.some.injEq, Prod.mk.injEq, and_true, AV.vsl.injEq, true_and]
            simp [St.kill, upd, a1, b1]
          · simp only [List.mem_cons, List.not_mem_nil, or_false] at hi
            have hgg : ∀ q, (q = d ∨ q = d') → s'.gen q = s.gen q := by rintro q (rfl | rfl); exact a1; exact b1
            simp only [eqAt, St.newVar, St.kill, upd]
            rcases hi with rfl | rfl
            · simp [a1, b1]
            · simp [a1, b1]
        · cases h
      · cases h
    · rename_i tok rows tk2 news ev0 etok ey
      split at h
      · rename_i hb
        obtain ⟨st2, hst2, hq⟩ := Option.map_eq_some_iff.1 h
        cases hq
        have hpn : (s.ev x).ptrOf = none := by
          unfold AV.asSl at etok
          split at etok
          · rename_i ex; rw [ex]; rfl
          · rename_i ex; rw [ex]; rfl
          · cases etok
        have heff : eff d s (.app sz bytes x y) = ⟨[], [], d :: (s.ev x).tokOf.toList, false⟩ := by simp only [eff, hpn]
        rw [heff] at hT ⊢
        have ht := hT d (by simp)
        have hsp : ∀ t g, tok = .own t g → (s.ev x).tokOf = some t := by
          intro t g h1
          subst h1
          unfold AV.asSl at etok
          split at etok
          · rename_i ex
            split at etok
            · cases etok; rw [ex]; rfl
            · cases etok
          · cases etok
          · cases etok
        have gv : ∀ (t t' : St σ) m, (∀ i, i ∉ (d :: (s.ev x).tokOf.toList : List Nat) → eqAt t (t.give d m) (.tok i)) := by
          intro t t' m i hi
          simp only [List.mem_cons, not_or] at hi
          simp [eqAt, St.give, upd, hi.1]
        cases tok with
        | ro => simp [appTok] at hst2
        | full =>
          simp only [appTok, Option.some.injEq] at hst2
          subst hst2
          refine ⟨⟨rfl, rfl, fun i _ => ⟨rfl, rfl⟩, gv s s _⟩, s'.give d (rows.length + news.length), ?_, rfl, rfl, fun i hi => by simp at hi, fun i hi => ?_, fun i _ => ⟨rfl, rfl⟩, gv s' s' _⟩
          · simp only [act, he, ev0, etok, ey, appTok, ht.1]
            rw [if_pos hb]; rfl
          · have hi' := hT i hi
            by_cases hid : i = d
            · subst hid; simp [eqAt, St.give, upd, ht.1]
            · simp [eqAt, St.give, upd, hid, hi'.1, hi'.2]
        | own t g =>
          simp only [appTok] at hst2
          split at hst2
          · rename_i hc
            injection hst2 with hst2
            subst hst2
            have htk := hsp t g rfl
            have htt := hT t (by simp [htk])
            have gs : ∀ (t0 : St σ), (∀ i, i ∉ (d :: (s.ev x).tokOf.toList : List Nat) → eqAt t0 ((t0.spend t).give d (rows.length + news.length)) (.tok i)) := by
              intro t0 i hi
              simp only [List.mem_cons, not_or, htk, Option.toList_some, List.not_mem_nil, not_false_eq_true, and_true] at hi
              simp [eqAt, St.give, St.spend, upd, hi.1, hi.2]
            refine ⟨⟨rfl, rfl, fun i _ => ⟨rfl, rfl⟩, gs s⟩, (s'.spend t).give d (rows.length + news.length), ?_, rfl, rfl, fun i hi => by simp at hi, fun i hi => ?_, fun i _ => ⟨rfl, rfl⟩, gs s'⟩
            · simp only [act, he, ev0, etok, ey, appTok, ht.1, htt.1, htt.2]
              rw [if_pos hb, if_pos hc]; rfl
            · have hi' := hT i hi
              by_cases hid : i = d
              · subst hid; simp [eqAt, St.give, St.spend, upd, ht.1]
              · by_cases hit : i = t
                · subst hit; simp [eqAt, St.give, St.spend, upd, hid, htt.1]
                · simp [eqAt, St.give, St.spend, upd, hid, hit, hi'.1, hi'.2]
          · cases hst2
      · cases h
    · cases h
  case mov x => simp only [AOp.opnds, List.mem_cons, List.not_mem_nil, or_false, forall_eq] at he; simp only [act] at h; cases h; exact .quiet rfl rfl rfl (by simp only [act, he])
  case pick c a b =>
    simp only [AOp.opnds, List.mem_cons, List.not_mem_nil, or_false, forall_eq_or_imp, forall_eq] at he
    simp only [act] at h
    split at h
    · rename_i t ec
      cases h
      exact .quiet rfl rfl rfl (by simp only [act, he.1, he.2.1, he.2.2, ec])
    · cases h
  case build z parts =>
    simp only [AOp.opnds, List.mem_map] at he
    have e : (parts.map fun p => (p.1, p.2.1, s'.ev p.2.2)) = parts.map fun p => (p.1, p.2.1, s.ev p.2.2) := List.map_congr_left fun p hp => by rw [he _ ⟨p, hp, rfl⟩]
    simp only [act] at h
    split at h
    · rename_i cs ec
      cases h
      exact .quiet rfl rfl rfl (by simp only [act, e, ec])
    · cases h
  case bsl sz parts =>
    simp only [AOp.opnds] at he
    have e : parts.map s'.ev = parts.map s.ev := List.map_congr_left he
    simp only [act] at h
    split at h
    · rename_i rows er
      split at h
      · rename_i hc
        cases h
        exact .quiet rfl rfl rfl (by simp only [act, e, er]; rw [if_pos hc])
      · cases h
    · cases h
  case mkf f first caps =>
    simp only [AOp.opnds, List.mem_append] at he
    have e1 : first.map s'.ev = first.map s.ev := List.map_congr_left fun x hx => he x (.inl hx)
    have e2 : caps.map s'.ev = caps.map s.ev := List.map_congr_left fun x hx => he x (.inr hx)
    simp only [act] at h
    cases h
    exact .quiet rfl rfl rfl (by simp only [act, e1, e2])
  case slc sz x lo hi mx =>
    simp only [AOp.opnds, List.mem_cons, List.mem_append, Option.mem_toList] at he
    have e1 : lo.map s'.ev = lo.map s.ev := by cases lo with | none => rfl | some y => simp [he y (by simp)]
    have e2 : hi.map s'.ev = hi.map s.ev := by cases hi with | none => rfl | some y => simp [he y (by simp)]
    have e3 : mx.map s'.ev = mx.map s.ev := by cases mx with | none => rfl | some y => simp [he y (by simp)]
    have e0 := he x (by simp)
    have hs : s1 = s := by
      simp only [act] at h
      (repeat' split at h) <;> first | (cases h; rfl) | cases h
    refine .quiet rfl rfl hs ?_
    subst hs
    simp only [act, e0, e1, e2, e3]
    simp only [act] at h
    (repeat' split at h) <;> first | (simp_all; done) | (cases h; simp_all)
  case sslc x lo hi =>
    simp only [AOp.opnds, List.mem_cons, List.mem_append, Option.mem_toList] at he
    have e1 : lo.map s'.ev = lo.map s.ev := by cases lo with | none => rfl | some y => simp [he y (by simp)]
    have e2 : hi.map s'.ev = hi.map s.ev := by cases hi with | none => rfl | some y => simp [he y (by simp)]
    have e0 := he x (by simp)
    have hs : s1 = s := by
      simp only [act] at h
      (repeat' split at h) <;> first | (cases h; rfl) | cases h
    refine .quiet rfl rfl hs ?_
    subst hs
    simp only [act, e0, e1, e2]
    simp only [act] at h
    (repeat' split at h) <;> first | (simp_all; done) | (cases h; simp_all)
  case hard o => simp [act] at h
  all_goals
    simp only [AOp.opnds, List.mem_cons, List.not_mem_nil, or_false, forall_eq_or_imp, forall_eq] at he
    refine .quiet rfl rfl ?_ ?_
    · simp only [act] at h
      (repeat' split at h) <;> first | (cases h; rfl) | cases h | (obtain ⟨q, _, hq⟩ := Option.map_eq_some_iff.1 h; cases hq; rfl)
    · simp only [act, he] at h ⊢
      (repeat' split at h) <;> first | (simp_all; done) | (simp_all; grind)
end
theorem put_loc {s : St σ} {d : Option Nat} {v : AV} {l : Loc} (h : ∀ i, l = .env i → d ≠ some i) : eqAt s (s.put d v) l := by
  cases d with
  | none => exact eqAt.refl _ _
  | some k =>
    cases l with
    | env i => have := h i rfl; simp only [eqAt, St.put]; exact upd_ne _ _ _ (fun e => this (by rw [e]))
    | var i => simp [eqAt, St.put]
    | tok i => simp [eqAt, St.put]
theorem put_x {s : St σ} {d : Option Nat} {v : AV} : (s.put d v).x = s.x := by cases d <;> rfl
theorem put_env {s s' : St σ} {d : Option Nat} {v : AV} {i : Nat} (h : d = some i) : eqAt (s.put d v) (s'.put d v) (.env i) := by
  subst h
  simp [eqAt, St.put, upd]
end Go.Av
