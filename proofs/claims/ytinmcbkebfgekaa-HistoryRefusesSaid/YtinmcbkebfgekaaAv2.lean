/-
  OWN TEXT. The relation between an abstract state and a running call: each block that the call has made has one owner.
-/
import Derived.Test.YtinmcbkebfgekaaAv1
set_option linter.all false
set_option linter.unusedVariables false
set_option linter.unusedSimpArgs false
namespace Go.Av
open Go.RowKit (Below)

def upd {α : Type} (f : Nat → α) (i : Nat) (v : α) : Nat → α := fun j => if j = i then v else f j
theorem upd_same {α : Type} (f : Nat → α) (i : Nat) (v : α) : upd f i v i = v := by simp [upd]
theorem upd_ne {α : Type} (f : Nat → α) (i : Nat) (v : α) {j : Nat} (h : j ≠ i) : upd f i v j = f j := by simp [upd, h]

/-- Whose is a block that was made since the call began. -/
inductive Own where
  | free
  | imm
  | junk
  | ext
  | var (d : Nat)
  | tok (t : Nat)

/-- An abstract state: the slots; the variables (how often made, what they hold); the tokens (how often given, the length at which one is open); what lies outside. -/
structure St (σ : Type) where
  env : Nat → AV
  gen : Nat → Nat
  var : Nat → List AV
  tgen : Nat → Nat
  top : Nat → Option Nat
  x : σ

/-- Old memory is as it was, but for the blocks of E. -/
structure Keeps (base : Nat) (E : Nat → Prop) (w w' : World) : Prop where
  os : w'.os = w.os
  tape : w'.tape = w.tape
  output : w'.output = w.output
  size : w.heap.size ≤ w'.heap.size
  block : ∀ b, b < base → ¬ E b → w'.heap[b]? = w.heap[b]?
theorem Keeps.refl (base : Nat) (E : Nat → Prop) (w : World) : Keeps base E w w := ⟨rfl, rfl, rfl, Nat.le_refl _, fun _ _ _ => rfl⟩
theorem Keeps.trans {base : Nat} {E : Nat → Prop} {a b c : World} (h : Keeps base E a b) (k : Keeps base E b c) : Keeps base E a c :=
  ⟨k.os.trans h.os, k.tape.trans h.tape, k.output.trans h.output, Nat.le_trans h.size k.size, fun i hi he => (k.block i hi he).trans (h.block i hi he)⟩
theorem Keeps.of_below {base : Nat} {E : Nat → Prop} {a b : World} {B : Nat} (hB : base ≤ B) (h : Below B a b) : Keeps base E a b :=
  ⟨h.os, h.tape, h.output, h.size, fun i hi _ => h.block i (by omega)⟩
theorem Keeps.below {base : Nat} {a b : World} (h : Keeps base (fun _ => False) a b) : Below base a b :=
  ⟨h.os, h.tape, h.output, h.size, fun i hi => h.block i hi (fun x => x)⟩

/-- What a call's proof holds fixed. G0: the immutable cells that it may read; E0: the old blocks of the outside objects. -/
structure Cx (σ : Type) where
  base : Nat
  w0 : World
  G0 : Addr → Prop
  E0 : Nat → Prop
  nt : Nat
  sv : AV → Value → Prop
  rep : σ → (Nat → Value → Prop) → (Nat → Prop) → World → Prop
  stable : ∀ x ob E w w', rep x ob E w → (∀ b, E b → w'.heap[b]? = w.heap[b]?) → rep x ob E w'
  g0 : ∀ a, G0 a → a.block < base ∧ ¬ E0 a.block

variable {σ : Type}

/-- A block of a variable: cells, at least so many (some z); a map (none). -/
def shapeOk : Option Nat → Option Obj → Prop
  | some z, some (.cells cur _ fr) => fr = (0, 0) ∧ z ≤ cur.size
  | none, some (.map _ _) => True
  | _, _ => False
/-- A map's entries. -/
def Rm (k : K) : List AV → List MapEntry → Prop
  | [], es => es = []
  | x :: xs, es => ∃ kx vx e r, x = .tup [kx, vx] ∧ es = e :: r ∧ R k kx e.key ∧ R k vx e.val ∧ Rm k xs r
theorem Rm_mono {k k' : K} (h : KLe k k') : ∀ (xs : List AV) (es : List MapEntry), Rm k xs es → Rm k' xs es
  | [], _, hr => hr
  | x :: xs, es, hr => by
    simp only [Rm] at hr ⊢
    obtain ⟨kx, vx, e, r, e1, e2, h1, h2, h3⟩ := hr
    exact ⟨kx, vx, e, r, e1, e2, R_mono h _ _ h1, R_mono h _ _ h2, Rm_mono h xs r h3⟩
/-- What a variable's block holds. -/
def VR (k : K) (l : List AV) : Obj → Prop
  | .cells cs _ fr => fr = (0, 0) ∧ (∀ v ∈ cs.toList, v.oneCell' = true) ∧ Rs k l (cs.toList.take l.length)
  | .map es _ => Rm k l es.toList
  | _ => False
theorem VR_mono {k k' : K} (h : KLe k k') {l : List AV} {obj : Obj} (hv : VR k l obj) : VR k' l obj := by
  cases obj with
  | cells cs T fr => exact ⟨hv.1, hv.2.1, Rs_mono h _ _ hv.2.2⟩
  | map es clk => exact Rm_mono h _ _ hv
  | _ => exact hv.elim
/-- What is known, in an abstract state, of the world. -/
def Kof (c : Cx σ) (st : St σ) (w : World) (o : Nat → Own) (τ : Nat → Nat) (ob : Nat → Value → Prop) : K where
  ic a v := a.spot = none ∧ w.cell? a = some v ∧ (c.G0 a ∨ (c.base ≤ a.block ∧ (o a.block = .imm ∨ ∃ t, o a.block = .tok t ∧ a.off < τ a.block)))
  pg d g := 1 ≤ g ∧ g ≤ st.gen d
  pc d g := g = st.gen d
  vb d b q := c.base ≤ b ∧ o b = .var d ∧ shapeOk q w.heap[b]?
  tg t g := 1 ≤ g ∧ g ≤ st.tgen t
  tc t g n := g = st.tgen t ∧ st.top t = some n
  tb t b f z := c.base ≤ b ∧ o b = .tok t ∧ τ b = f ∧ ∃ cur T, w.heap[b]? = some (.cells cur T (0, 0)) ∧ cur.size = z
  ob := ob

/-- The relation. -/
structure FR (c : Cx σ) (st : St σ) (a : Act) (w : World) (o : Nat → Own) (τ : Nat → Nat) (ob : Nat → Value → Prop) : Prop where
  defers : a.defers = []
  size : a.tmps.size = c.nt
  keeps : Keeps c.base c.E0 c.w0 w
  base : c.base ≤ w.heap.size
  lt : ∀ b, c.base ≤ b → o b ≠ .free → b < w.heap.size
  tmps : ∀ s, R (Kof c st w o τ ob) (st.env s) (a.tmps.getD s undef)
  vars : ∀ d b, c.base ≤ b → o b = .var d → ∃ obj, w.heap[b]? = some obj ∧ VR (Kof c st w o τ ob) (st.var d) obj
  uniq : ∀ d b b', c.base ≤ b → c.base ≤ b' → o b = .var d → o b' = .var d → b = b'
  saved : ∀ x v, c.sv x v → R (Kof c st w o τ ob) x v
  ext : c.rep st.x ob (fun b => (b < c.base ∧ c.E0 b) ∨ (c.base ≤ b ∧ o b = .ext)) w

theorem KLe_of {c : Cx σ} {st st' : St σ} {w w' : World} {o o' : Nat → Own} {τ τ' : Nat → Nat} {ob ob' : Nat → Value → Prop}
    (h1 : ∀ a : Addr, c.G0 a → w'.cell? a = w.cell? a)
    (h2 : ∀ a : Addr, c.base ≤ a.block → o a.block = .imm → w'.cell? a = w.cell? a ∧ o' a.block = .imm)
    (h3 : ∀ (a : Addr) t, c.base ≤ a.block → o a.block = .tok t → a.off < τ a.block → w'.cell? a = w.cell? a ∧ (o' a.block = .imm ∨ ∃ t', o' a.block = .tok t' ∧ a.off < τ' a.block))
    (h4 : ∀ d, st.gen d ≤ st'.gen d) (h5 : ∀ d b, st'.gen d = st.gen d → c.base ≤ b → o b = .var d → o' b = .var d ∧ ∀ q, shapeOk q w.heap[b]? → shapeOk q w'.heap[b]?)
    (h6 : ∀ t, st.tgen t ≤ st'.tgen t) (h7 : ∀ t n, st'.tgen t = st.tgen t → st'.top t = some n → st.top t = some n)
    (h8 : ∀ t n b cur T, st'.tgen t = st.tgen t → st'.top t = some n → c.base ≤ b → o b = .tok t → w.heap[b]? = some (.cells cur T (0, 0)) → o' b = .tok t ∧ τ' b = τ b ∧ ∃ cur' T', w'.heap[b]? = some (.cells cur' T' (0, 0)) ∧ cur'.size = cur.size)
    (h9 : ∀ i v, ob i v → ob' i v) : KLe (Kof c st w o τ ob) (Kof c st' w' o' τ' ob') where
  ic := by
    rintro a v ⟨hs, hc, hr⟩
    rcases hr with hg | ⟨hb, hi | ⟨t, ht, hlt⟩⟩
    · exact ⟨hs, (h1 a hg).trans hc, .inl hg⟩
    · obtain ⟨e, hi'⟩ := h2 a hb hi
      exact ⟨hs, e.trans hc, .inr ⟨hb, .inl hi'⟩⟩
    · obtain ⟨e, hi'⟩ := h3 a t hb ht hlt
      exact ⟨hs, e.trans hc, .inr ⟨hb, hi'⟩⟩
  pg := by
    rintro d g ⟨hg, hl⟩
    exact ⟨hg, Nat.le_trans hl (h4 d)⟩
  pc := by
    rintro d g ⟨hg, hl⟩ he
    have := h4 d
    simp only [Kof] at he ⊢
    omega
  vb := by
    rintro d g b q ⟨hg, hl⟩ he ⟨hb, hv, hs⟩
    have := h4 d
    simp only [Kof] at he
    obtain ⟨h51, h52⟩ := h5 d b (by omega) hb hv
    exact ⟨hb, h51, h52 q hs⟩
  tg := by
    rintro d g ⟨hg, hl⟩
    exact ⟨hg, Nat.le_trans hl (h6 d)⟩
  tc := by
    rintro t g n ⟨hg, hl⟩ ⟨he, ht⟩
    have := h6 t
    have e : st'.tgen t = st.tgen t := by omega
    exact ⟨by omega, h7 t n e ht⟩
  tb := by
    rintro t g n b f z ⟨hg, hl⟩ ⟨he, ht⟩ ⟨hb, ho, hf, cur, T, hc, hz⟩
    have := h6 t
    have e : st'.tgen t = st.tgen t := by omega
    obtain ⟨ho', ht', cur', T', hc', hz'⟩ := h8 t n b cur T e ht hb ho hc
    exact ⟨hb, ho', ht'.trans hf, cur', T', hc', hz'.trans hz⟩
  ob := h9

/-- A slot is written. -/
theorem FR.put {c : Cx σ} {st : St σ} {a : Act} {w : World} {o : Nat → Own} {τ : Nat → Nat} {ob : Nat → Value → Prop} (h : FR c st a w o τ ob) {s : Nat} {x : AV} {v : Value} (hs : s < c.nt)
    (hx : R (Kof c st w o τ ob) x v) : FR c { st with env := upd st.env s x } (a.put (some s) v) w o τ ob where
  defers := h.defers
  size := by simp [Act.put, h.size]
  keeps := h.keeps
  base := h.base
  lt := h.lt
  tmps := by
    intro i
    show R (Kof c st w o τ ob) (upd st.env s x i) _
    by_cases e : i = s
    · subst e
      rw [upd_same]
      have : (a.put (some i) v).tmps.getD i undef = v := by simp [Act.put, Array.getElem?_setIfInBounds, h.size, hs]
      rw [this]; exact hx
    · rw [upd_ne _ _ _ e]
      have : (a.put (some s) v).tmps.getD i undef = a.tmps.getD i undef := by simp [Act.put, Array.getElem?_setIfInBounds, Ne.symm e]
      rw [this]; exact h.tmps i
  vars := h.vars
  uniq := h.uniq
  saved := h.saved
  ext := h.ext

/-- The world turns: what is to be shown. -/
theorem FR.turn {c : Cx σ} {st st' : St σ} {a : Act} {w w' : World} {o o' : Nat → Own} {τ τ' : Nat → Nat} {ob ob' : Nat → Value → Prop} (h : FR c st a w o τ ob)
    (henv : st'.env = st.env) (hk : KLe (Kof c st w o τ ob) (Kof c st' w' o' τ' ob')) (hw : Keeps c.base c.E0 w w')
    (lt : ∀ b, c.base ≤ b → o' b ≠ .free → b < w'.heap.size)
    (vars : ∀ d b, c.base ≤ b → o' b = .var d → ∃ obj, w'.heap[b]? = some obj ∧ VR (Kof c st' w' o' τ' ob') (st'.var d) obj)
    (uniq : ∀ d b b', c.base ≤ b → c.base ≤ b' → o' b = .var d → o' b' = .var d → b = b')
    (ext : c.rep st'.x ob' (fun b => (b < c.base ∧ c.E0 b) ∨ (c.base ≤ b ∧ o' b = .ext)) w') : FR c st' a w' o' τ' ob' where
  defers := h.defers
  size := h.size
  keeps := h.keeps.trans hw
  base := Nat.le_trans h.base hw.size
  lt := lt
  tmps := fun s => by rw [henv]; exact R_mono hk _ _ (h.tmps s)
  vars := vars
  uniq := uniq
  saved := fun x v hx => R_mono hk _ _ (h.saved x v hx)
  ext := ext

theorem cell_alloc {w : World} {ob : Obj} {a : Addr} (h : a.block ≠ w.heap.size) : (w.alloc ob).cell? a = w.cell? a := World.cell?_alloc_old w ob a h
theorem heap_alloc {w : World} {ob : Obj} {b : Nat} (h : b < w.heap.size) : (w.alloc ob).heap[b]? = w.heap[b]? := by
  show (w.heap.push ob)[b]? = _
  rw [Array.getElem?_push, if_neg (by omega)]
theorem heap_alloc_self {w : World} {ob : Obj} : (w.alloc ob).heap[w.heap.size]? = some ob := by
  show (w.heap.push ob)[w.heap.size]? = _
  simp
theorem keeps_alloc {base : Nat} {E : Nat → Prop} {w : World} (ob : Obj) (hb : base ≤ w.heap.size) : Keeps base E w (w.alloc ob) :=
  ⟨rfl, rfl, rfl, by rw [World.size_alloc]; omega, fun b hb' _ => heap_alloc (by omega)⟩
theorem cell_lt {w : World} {a : Addr} {v : Value} (h : w.cell? a = some v) : a.block < w.heap.size := World.block_lt_of_cell? w a h

section
variable {c : Cx σ} {st : St σ} {a : Act} {w : World} {o : Nat → Own} {τ : Nat → Nat} {ob : Nat → Value → Prop}

theorem FR.free_size (h : FR c st a w o τ ob) : o w.heap.size = .free := by
  cases e : o w.heap.size with
  | free => rfl
  | _ => exact absurd (h.lt w.heap.size h.base (by rw [e]; simp)) (by omega)

/-- A new variable. -/
def newVarOwn (o : Nat → Own) (n d : Nat) : Nat → Own := fun b => if b = n then .var d else match o b with | .var d' => if d' = d then .junk else .var d' | x => x
theorem newVarOwn_new (o : Nat → Own) (n d : Nat) : newVarOwn o n d n = .var d := by simp [newVarOwn]
theorem newVarOwn_other {o : Nat → Own} {n d b : Nat} (hb : b ≠ n) (h : ∀ d', o b ≠ .var d') : newVarOwn o n d b = o b := by
  unfold newVarOwn
  rw [if_neg hb]
  cases e : o b <;> simp_all
theorem newVarOwn_var {o : Nat → Own} {n d b d' : Nat} (hb : b ≠ n) (h : o b = .var d') (hd : d' ≠ d) : newVarOwn o n d b = .var d' := by
  unfold newVarOwn
  rw [if_neg hb, h]
  simp [hd]
theorem newVarOwn_inv {o : Nat → Own} {n d b d' : Nat} (hb : b ≠ n) (h : newVarOwn o n d b = .var d') : o b = .var d' ∧ d' ≠ d := by
  unfold newVarOwn at h
  rw [if_neg hb] at h
  cases e : o b <;> simp [e] at h
  case var d'' =>
    split at h
    · cases h
    · rename_i hne
      injection h with h
      subst h
      exact ⟨rfl, hne⟩
theorem newVarOwn_ext {o : Nat → Own} {n d b : Nat} (h : newVarOwn o n d b = .ext) (hb : b ≠ n) : o b = .ext := by
  unfold newVarOwn at h
  rw [if_neg hb] at h
  cases e : o b <;> simp [e] at h
  case var d'' => split at h <;> cases h
  case ext => rfl
theorem newVarOwn_free {o : Nat → Own} {n d b : Nat} (hb : b ≠ n) (h : newVarOwn o n d b ≠ .free) : o b ≠ .free := by
  intro e
  apply h
  unfold newVarOwn
  rw [if_neg hb, e]

def St.newVar (st : St σ) (d : Nat) (xs : List AV) : St σ := { st with gen := upd st.gen d (st.gen d + 1), var := upd st.var d xs }

theorem FR.newVarO (h : FR c st a w o τ ob) (d : Nat) {xs : List AV} (obj : Obj) (hr : VR (Kof c st w o τ ob) xs obj) :
    FR c (st.newVar d xs) a (w.alloc obj) (newVarOwn o w.heap.size d) τ ob ∧ KLe (Kof c st w o τ ob) (Kof c (st.newVar d xs) (w.alloc obj) (newVarOwn o w.heap.size d) τ ob) ∧
    (Kof c (st.newVar d xs) (w.alloc obj) (newVarOwn o w.heap.size d) τ ob).pg d (st.gen d + 1) ∧ ∀ q, shapeOk q (some obj) → (Kof c (st.newVar d xs) (w.alloc obj) (newVarOwn o w.heap.size d) τ ob).vb d w.heap.size q := by
  have hfree := h.free_size
  have hne : ∀ b, c.base ≤ b → o b ≠ .free → b ≠ w.heap.size := fun b hb ho => by have := h.lt b hb ho; omega
  have hk : KLe (Kof c st w o τ ob) (Kof c (st.newVar d xs) (w.alloc obj) (newVarOwn o w.heap.size d) τ ob) := by
    refine KLe_of ?_ ?_ ?_ ?_ ?_ ?_ ?_ ?_ (fun _ _ h => h)
    · intro p hp
      have := (c.g0 p hp).1
      have := h.base
      exact cell_alloc (by omega)
    · intro p hb hi
      have := hne p.block hb (by rw [hi]; simp)
      exact ⟨cell_alloc this, (newVarOwn_other this (by rw [hi]; simp)).trans hi⟩
    · intro p t hb hi hlt
      have := hne p.block hb (by rw [hi]; simp)
      exact ⟨cell_alloc this, .inr ⟨t, (newVarOwn_other this (by rw [hi]; simp)).trans hi, hlt⟩⟩
    · intro d'
      show st.gen d' ≤ upd st.gen d (st.gen d + 1) d'
      unfold upd; split
      · rename_i e; subst e; omega
      · omega
    · intro d' b hg hb hv
      have hd : d' ≠ d := by
        rintro rfl
        simp [St.newVar, upd] at hg
      refine ⟨newVarOwn_var (hne b hb (by rw [hv]; simp)) hv hd, fun q hq => ?_⟩
      rw [heap_alloc (h.lt b hb (by rw [hv]; simp))]; exact hq
    · intro t; exact Nat.le_refl _
    · intro t n _ ht; exact ht
    · intro t n b cur T' _ _ hb ht hc
      have hn := hne b hb (by rw [ht]; simp)
      refine ⟨(newVarOwn_other hn (by rw [ht]; simp)).trans ht, rfl, cur, T', ?_, rfl⟩
      rw [heap_alloc (h.lt b hb (by rw [ht]; simp))]; exact hc
  refine ⟨h.turn rfl hk (keeps_alloc _ h.base) ?_ ?_ ?_ ?_, hk, ?_, ?_⟩
  · intro b hb ho
    by_cases e : b = w.heap.size
    · subst e; rw [World.size_alloc]; omega
    · have := h.lt b hb (newVarOwn_free e ho)
      rw [World.size_alloc]; omega
  · intro d' b hb hv
    by_cases e : b = w.heap.size
    · subst e
      rw [newVarOwn_new] at hv
      injection hv with hv
      subst hv
      refine ⟨obj, heap_alloc_self, ?_⟩
      show VR _ (upd st.var d xs d) _
      rw [upd_same]
      exact VR_mono hk hr
    · obtain ⟨hv', hd⟩ := newVarOwn_inv e hv
      obtain ⟨obj', hc, hr'⟩ := h.vars d' b hb hv'
      refine ⟨obj', ?_, ?_⟩
      · rw [heap_alloc (h.lt b hb (by rw [hv']; simp))]; exact hc
      · show VR _ (upd st.var d xs d') _
        rw [upd_ne _ _ _ hd]
        exact VR_mono hk hr'
  · intro d' b b' hb hb' hv hv'
    by_cases e : b = w.heap.size
    · by_cases e' : b' = w.heap.size
      · omega
      · obtain ⟨hv'', hd⟩ := newVarOwn_inv e' hv'
        subst e
        rw [newVarOwn_new] at hv
        injection hv with hv
        exact absurd hv.symm hd
    · obtain ⟨h1, hd⟩ := newVarOwn_inv e hv
      by_cases e' : b' = w.heap.size
      · subst e'
        rw [newVarOwn_new] at hv'
        injection hv' with hv'
        exact absurd hv'.symm hd
      · obtain ⟨h2, _⟩ := newVarOwn_inv e' hv'
        exact h.uniq d' b b' hb hb' h1 h2
  · have : (fun b => (b < c.base ∧ c.E0 b) ∨ (c.base ≤ b ∧ newVarOwn o w.heap.size d b = .ext)) = (fun b => (b < c.base ∧ c.E0 b) ∨ (c.base ≤ b ∧ o b = .ext)) := by
      funext b
      apply propext
      refine or_congr Iff.rfl (and_congr_right fun hb => ⟨fun hx => ?_, fun hx => ?_⟩)
      · by_cases e : b = w.heap.size
        · subst e; rw [newVarOwn_new] at hx; cases hx
        · exact newVarOwn_ext hx e
      · have := hne b hb (by rw [hx]; simp)
        exact (newVarOwn_other this (by rw [hx]; simp)).trans hx
    rw [this]
    refine c.stable _ _ _ _ _ h.ext fun b hb => ?_
    refine heap_alloc ?_
    rcases hb with ⟨hb, _⟩ | ⟨hb, hx⟩
    · have := h.base; omega
    · exact h.lt b hb (by rw [hx]; simp)
  · refine ⟨by omega, ?_⟩
    simp [St.newVar, upd]
  · intro q hq
    exact ⟨h.base, newVarOwn_new _ _ _, by rw [heap_alloc_self]; exact hq⟩

theorem FR.newVar' (h : FR c st a w o τ ob) (d : Nat) {xs : List AV} {cs : List Value} (T : TypeId) (h1 : ∀ v ∈ cs, v.oneCell' = true) (hr : Rs (Kof c st w o τ ob) xs (cs.take xs.length)) :
    FR c (st.newVar d xs) a (w.alloc (.cells cs.toArray T)) (newVarOwn o w.heap.size d) τ ob ∧
    R (Kof c (st.newVar d xs) (w.alloc (.cells cs.toArray T)) (newVarOwn o w.heap.size d) τ ob) (.ptr d (st.gen d + 1) 0) (.pointer (some ⟨w.heap.size, 0, none⟩)) := by
  obtain ⟨k1, k2, k3, k4⟩ := h.newVarO d (xs := xs) (.cells cs.toArray T) ⟨rfl, by simpa using h1, by simpa using hr⟩
  refine ⟨k1, ?_⟩
  simp only [R]
  exact ⟨k3, rfl, fun _ => ⟨_, k4 (some 0) ⟨rfl, Nat.zero_le _⟩, rfl⟩⟩
theorem Rs_all {k : K} {xs : List AV} {cs : List Value} (h : Rs k xs cs) : Rs k xs (cs.take xs.length) := by
  rw [← Rs_length h, List.take_length]; exact h
theorem FR.newVar (h : FR c st a w o τ ob) (d : Nat) {xs : List AV} {cs : List Value} (T : TypeId) (hr : Rs (Kof c st w o τ ob) xs cs) :
    FR c (st.newVar d xs) a (w.alloc (.cells cs.toArray T)) (newVarOwn o w.heap.size d) τ ob ∧
    R (Kof c (st.newVar d xs) (w.alloc (.cells cs.toArray T)) (newVarOwn o w.heap.size d) τ ob) (.ptr d (st.gen d + 1) 0) (.pointer (some ⟨w.heap.size, 0, none⟩)) :=
  h.newVar' d T (Rs_one hr) (Rs_all hr)
end
end Go.Av
