/-
  OWN TEXT. The program's operations read as operations without types.
-/
import Derived.Test.YtinmcbkebfgekaaAv5
set_option linter.all false
set_option linter.unusedVariables false
set_option linter.unusedSimpArgs false
namespace Go.Av
variable {σ : Type}

def isAggB (P : Program) (t : TypeId) : Bool :=
  match P.underlying t with
  | some (.struct _) | some (.array _ _) => true
  | _ => false
mutual
/-- The kinds of a type's cells, where '==' at it is an equality of all cells (by fuel). -/
def eqKinds (P : Program) : Nat → TypeId → Option (List Nat)
  | 0, _ => none
  | n + 1, t =>
    match P.underlying t with
    | some .bool => some [0]
    | some (.int _) => some [1]
    | some .string => some [2]
    | some (.struct fs) => if P.stoodInHeld t then none else eqKindsF P n fs.toList 0
    | _ => none
def eqKindsF (P : Program) : Nat → List Field → Nat → Option (List Nat)
  | _, [], _ => some []
  | 0, _ :: _, _ => none
  | n + 1, f :: fs, off =>
    match eqKinds P n f.type, P.info? f.type with
    | some ks, some i =>
      if f.name ≠ "_" ∧ f.offset = off ∧ ks.length = i.size ∧ (isAggB P f.type = true ∨ i.size = 1) then (eqKindsF P n fs (off + i.size)).map (ks ++ ·) else none
    | _, _ => none
end
def partsOf (P : Program) (fs : Array Field) : List (Nat × Operand) → Option (List (Nat × Nat × Operand))
  | [] => some []
  | (i, x) :: rest =>
    match fs[i]? with
    | some f => match P.info? f.type, partsOf P fs rest with | some t, some r => some ((f.offset, t.size, x) :: r) | _, _ => none
    | none => none

/-- A map's key type: its cells' kinds. -/
def keyKinds (P : Program) (t : TypeId) : Option (List Nat) :=
  match P.underlying t with
  | some .string => some [2]
  | some (.int _) => some [1]
  | some (.array n e) =>
    match P.underlying e, P.info? e with
    | some (.int _), some i => if i.size = 1 then some (List.replicate n 1) else none
    | _, _ => none
  | some (.struct fs) => if fs.toList.all (fun f => match P.underlying f.type with | some (.int _) => true | _ => false) = true then (match eqKinds P 40 t, P.info? t with | some ks, some i => if ks.length = i.size then some ks else none | _, _ => none) else none
  | _ => none
def isNilP : Operand → Bool
  | .const (.pointer none) => true
  | _ => false
def isNilS : Operand → Bool
  | .const (.slice none 0 0) => true
  | _ => false
def isNeq : BinOp → Option Bool
  | .eql => some false
  | .neq => some true
  | _ => none
/-- T: the functions' numbers in this program, in the order of their own numbers here. -/
def comp (P : Program) (T : List Nat) : Op → Option AOp
  | .move x => some (.mov x)
  | .assign x => some (.mov x)
  | .pick c a b => some (.pick c a b)
  | .box _ x => some (.box x)
  | .alloc t =>
    match P.info? t with
    | some i => match i.zero with | some z => if z.cells.toList.all (·.oneCell') then some (.alloc z.cells.toList) else none | none => none
    | none => none
  | .build t parts =>
    match P.info? t, P.underlying t with
    | some i, some (.struct fs) =>
      match i.zero with
      | some z => if z.cells.toList.all (·.oneCell') ∧ fs.toList.all (fun f => (P.info? f.type).isSome) then (partsOf P fs parts.toList).map (.build z.cells.toList) else none
      | none => none
    | some i, some (.array _ e) =>
      match i.zero, P.info? e with
      | some z, some ie => if z.cells.toList.all (·.oneCell') then some (.build z.cells.toList (parts.toList.map fun p => (p.1 * ie.size, ie.size, p.2))) else none
      | _, _ => none
    | _, _ => none
  | .buildSlice t len parts =>
    match P.underlying t with
    | some (.slice e) =>
      match P.info? e with
      | some i => if len * i.size ≤ 2 ^ 24 ∧ parts.toList.map (·.1) = List.range len ∧ 0 < i.size ∧ (i.zero.map (·.cells.size)) = some i.size then some (.bsl i.size (parts.toList.map (·.2))) else none
      | none => none
    | _ => none
  | .load t p =>
    match P.info? t, P.underlying t with
    | some i, some _ => if isAggB P t || i.size == 1 then some (.load (isAggB P t) i.size p) else none
    | _, _ => none
  | .store t p x => match P.info? t with | some i => some (.store i.size p x) | none => none
  | .fieldAddr s x f =>
    match P.underlying s with
    | some (.struct fs) =>
      match fs[f]? with
      | some fd => match P.info? fd.type with | some i => if i.size = 0 then none else some (.faddr fd.offset x) | none => none
      | none => none
    | _ => none
  | .indexAddr t x i =>
    match P.underlying t with
    | some (.slice e) => match P.info? e with | some ie => some (.iaddr ie.size x i) | none => none
    | some (.array len e) => match P.info? e with | some ie => some (.aaddr len ie.size x i) | none => none
    | _ => none
  | .index t x i =>
    match P.underlying t with
    | some .string => some (.sidx x i)
    | some (.array len e) => match P.info? e, P.underlying e with | some ie, some _ => if isAggB P e || ie.size == 1 then some (.aidx (isAggB P e) len ie.size x i) else none | _, _ => none
    | _ => none
  | .makeFunc fn first caps => match fn with | .func f => some (.mkf f first.toList caps.toList) | _ => none
  | .makeMap _ r => match r with | none => some .mkmap | some _ => none
  | .makeSlice t l c =>
    match l, c, P.underlying t with
    | .tmp a, .tmp b, some (.slice e) =>
      match P.info? e with
      | some i => match i.zero with | some z => if a = b ∧ z.cells.size = i.size ∧ 0 < i.size ∧ 0 < i.bytes ∧ z.cells.toList.all (·.oneCell') = true then some (.mksl i.size i.bytes z.cells.toList (.tmp a)) else none | none => none
      | none => none
    | _, _, _ => none
  | .lookup t m k comma =>
    match P.underlying t with
    | some (.map kt et) =>
      match keyKinds P kt, P.info? et with
      | some ks, some i => match i.zero with | some z => some (.mget (isAggB P kt) ks z comma m k) | none => none
      | _, _ => none
    | _ => none
  | .mapUpdate t m k x =>
    match P.underlying t with
    | some (.map kt _) => match keyKinds P kt with | some ks => some (.mset (isAggB P kt) ks m k x) | none => none
    | _ => none
  | .insert t m k x =>
    match P.underlying t with
    | some (.map kt _) => match keyKinds P kt with | some ks => some (.mset (isAggB P kt) ks m k x) | none => none
    | _ => none
  | .field t x f =>
    match P.underlying t with
    | some (.struct fs) =>
      match fs[f]? with
      | some fd => match P.info? fd.type, P.underlying fd.type with | some i, some _ => if isAggB P fd.type || i.size == 1 then some (.field (isAggB P fd.type) fd.offset i.size x) else none | _, _ => none
      | none => none
    | _ => none
  | .binOp op t x y _ =>
    match P.underlying t with
    | some (.int _) => some (.bin op x y)
    | some .string => some (.bin op x y)
    | some .bool => match op with | .eql => some (.beq false x y) | .neq => some (.beq true x y) | _ => none
    | some (.struct _) =>
      match eqKinds P 40 t, P.info? t with
      | some ks, some i => if P.eqGuardType P.depth t = false ∧ ks.length = i.size then (match op with | .eql => some (.seq false ks x y) | .neq => some (.seq true ks x y) | _ => none) else none
      | _, _ => none
    | some (.pointer _) =>
      match isNeq op with
      | some ng => if isNilP y = true then some (.peq ng x) else if isNilP x = true then some (.peq ng y) else none
      | none => none
    | some (.slice _) =>
      match isNeq op with
      | some ng => if isNilS y = true then some (.snil ng x) else none
      | none => none
    | _ => none
  | .unOp op _ x => some (.un op x)
  | .convert s t x =>
    match P.underlying s, P.underlying t with
    | some (.int _), some (.int k) => some (.convi k x)
    | some .string, some .string => some (.convs x)
    | _, _ => none
  | .slice t x lo hi mx =>
    match P.underlying t with
    | some (.slice e) => match P.info? e with | some ie => some (.slc ie.size x lo hi mx) | none => none
    | some .string => match mx with | none => some (.sslc x lo hi) | some _ => none
    | some (.array n e) => match lo, hi, mx, P.info? e with | none, none, none, some ie => some (.asl ie.size n x) | _, _, _, _ => none
    | _ => none
  | .extract x i => some (.ext i x)
  | .nilCheck x => some (.nilc x)
  | .call c =>
    match c.callee with
    | .value (.func f) =>
      match P.funcs[f]? with
      | some fn => if fn.body.isSome ∧ (fn.name == "runtime.NumGoroutine") = false ∧ T[T.idxOf f]? = some f then some (.call (T.idxOf f) c.args.toList) else none
      | none => none
    | .value (.tmp t) => some (.callv (.tmp t) c.args.toList)
    | .builtin .len =>
      match c.args.toList, c.argTypes.toList with
      | [x], [t] => match P.underlying t with | some .string => some (.slen x) | some (.slice _) => some (.len x) | some (.map _ _) => some (.mlen x) | _ => none
      | _, _ => none
    | .builtin .cap =>
      match c.args.toList, c.argTypes.toList with
      | [x], [t] => match P.underlying t with | some (.slice _) => some (.capv x) | _ => none
      | _, _ => none
    | .builtin .max => match c.args.toList with | [x, y] => some (.mm true x y) | _ => none
    | .builtin .min => match c.args.toList with | [x, y] => some (.mm false x y) | _ => none
    | .builtin .copy =>
      match c.args.toList, c.argTypes.toList with
      | [x, y], [t, u] =>
        match P.underlying t, P.underlying u with
        | some (.slice e), some (.slice _) => match P.info? e with | some i => some (.cpy i.size x y) | none => none
        | _, _ => none
      | _, _ => none
    | .builtin .append =>
      match c.args.toList, c.argTypes.toList with
      | [x, y], [t, u] =>
        match P.underlying t, P.underlying u with
        | some (.slice e), some (.slice _) =>
          match P.info? e with
          | some i => if 0 < i.size ∧ 0 < i.bytes ∧ t = u ∧ (i.zero.map fun z => (z.cells.size, z.cells.toList.all (·.oneCell'))) = some (i.size, true) then some (.app i.size i.bytes x y) else none
          | none => none
        | some (.slice e), some (.int _) =>
          match P.info? e with
          | some i => match i.zero with | some z => if 0 < i.size ∧ 0 < i.bytes ∧ z.cells.size = i.size ∧ z.cells.toList.all (·.oneCell') = true then some (.appz i.size i.bytes z.cells.toList x y) else none | none => none
          | none => none
        | _, _ => none
      | _, _ => none
    | _ => none
  | _ => none

def compGuard (ops : Array Oper) : Option (Nat × Bool) → Option (Option (Nat × Bool))
  | none => some none
  | some (j, b) => match (ops[j]?).bind (·.dst) with | some d => some (some (d, b)) | none => none
def dstOk (nt : Nat) : Option Nat → Bool
  | some d => decide (d < nt)
  | none => true
def compO (P : Program) (T : List Nat) (nt : Nat) (ops : Array Oper) (o : Oper) : Option AOper :=
  match comp P T o.op, compGuard ops o.guard with
  | some a, some g => if dstOk nt o.dst = true then some ⟨o.dst, a, g⟩ else none
  | _, _ => none
def compL (P : Program) (T : List Nat) (nt : Nat) (ops : Array Oper) : List Oper → Option (List AOper)
  | [] => some []
  | o :: rest => match compO P T nt ops o, compL P T nt ops rest with | some a, some r => some (a :: r) | _, _ => none

/-- Code without types. -/
inductive ACode where
  | skip
  | region (ops : List AOper)
  | draw (ops : List AOper) (before : List (List Nat))
  | seq (a b : ACode)
  | cond (c : Operand) (thn els : ACode)
  | block (id : Nat) (body : ACode)
  | loop (body : ACode)
  | exit (id : Nat)
  | ret
end Go.Av
