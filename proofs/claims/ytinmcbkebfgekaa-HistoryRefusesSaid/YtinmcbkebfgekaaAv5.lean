/-
  OWN TEXT. Operations without types: how the program's operations are read so (comp), and what they do to an abstract state (act).
-/
import Derived.Test.YtinmcbkebfgekaaAv4
set_option linter.all false
set_option linter.unusedVariables false
set_option linter.unusedSimpArgs false
namespace Go.Av
variable {σ : Type}

/-- Operations whose types are laid out as offsets and sizes. -/
inductive AOp where
  | mov (x : Operand)
  | pick (c a b : Operand)
  | box (x : Operand)
  | alloc (z : List Value)
  | build (z : List Value) (parts : List (Nat × Nat × Operand))
  | bsl (sz : Nat) (parts : List Operand)
  | load (agg : Bool) (n : Nat) (p : Operand)
  | store (n : Nat) (p x : Operand)
  | faddr (off : Nat) (p : Operand)
  | iaddr (sz : Nat) (x i : Operand)
  | aaddr (len sz : Nat) (x i : Operand)
  | sidx (x i : Operand)
  | field (agg : Bool) (off n : Nat) (x : Operand)
  | bin (op : BinOp) (x y : Operand)
  | beq (neg : Bool) (x y : Operand)
  | seq (neg : Bool) (ks : List Nat) (x y : Operand)
  | un (op : UnOp) (x : Operand)
  | convi (k : IntKind) (x : Operand)
  | convs (x : Operand)
  | slc (sz : Nat) (x : Operand) (lo hi mx : Option Operand)
  | sslc (x : Operand) (lo hi : Option Operand)
  | ext (i : Nat) (x : Operand)
  | call (f : Nat) (args : List Operand)
  | slen (x : Operand)
  | len (x : Operand)
  | app (sz bytes : Nat) (x y : Operand)
  | nilc (x : Operand)
  | mkf (f : Nat) (first caps : List Operand)
  | callv (x : Operand) (args : List Operand)
  | aidx (agg : Bool) (len sz : Nat) (x i : Operand)
  | mm (mx : Bool) (x y : Operand)
  | peq (neg : Bool) (x : Operand)
  | snil (neg : Bool) (x : Operand)
  | asl (sz len : Nat) (x : Operand)
  | capv (x : Operand)
  | cpy (sz : Nat) (x y : Operand)
  | appz (sz bytes : Nat) (z : List Value) (x n : Operand)
  | mksl (sz bytes : Nat) (z : List Value) (n : Operand)
  | mkmap
  | mget (ag : Bool) (ks : List Nat) (z : Value) (comma : Bool) (m k : Operand)
  | mset (ag : Bool) (ks : List Nat) (m k x : Operand)
  | mlen (m : Operand)
  | hard (o : Op)

structure AOper where
  dst : Option Nat
  op : AOp
  guard : Option (Nat × Bool)

/-! ### abstract values by hand -/
def AV.ofV (v : Value) : AV :=
  match v with
  | .agg cs => if cs.toList.all (·.oneCell') then .agg (cs.toList.map .imm) else .dead
  | .tuple cs => if cs.size = 0 then .tup [] else .dead
  | v => .imm v
def St.ev (st : St σ) : Operand → AV
  | .tmp t => st.env t
  | .const v => .ofV v
  | .global _ => .dead
  | .func f => .fv f [] []
/-- A value's cells. -/
def AV.cells : AV → Option (List AV)
  | .agg cs => some cs
  | .tup _ => none
  | .dead => none
  | x => some [x]
/-- A value of cells. -/
def AV.mk (agg : Bool) (xs : List AV) : Option AV :=
  if agg then some (.agg xs) else match xs with | [x] => some x | _ => none
/-- As a slice; a nil slice may stand as it is. -/
def AV.asSl (sz : Nat) : AV → Option (Tok × List (List AV))
  | .sl s t rows => if s = sz then some (t, rows) else none
  | .imm (.slice none 0 0) => some (.full, [])
  | _ => none
/-- As a slice over a variable. -/
def AV.vslOf : AV → Option (Nat × Nat × Nat × Nat × Nat × Option Nat)
  | .vsl d g sz off n cp => some (d, g, sz, off, n, cp)
  | _ => none
/-- The first elements of a slice: how many, and their cells. -/
def limTo : Option Nat → Nat → Nat
  | none, n => n
  | some m, n => min n m
def St.src (st : St σ) (sz : Nat) (lim : Option Nat) (y : AV) : Option (Nat × List AV) :=
  match y.vslOf, y.asSl sz with
  | some (d, g, sz', off, n, _), _ => if sz' = sz ∧ g = st.gen d ∧ off + limTo lim n * sz ≤ (st.var d).length then some (limTo lim n, ((st.var d).drop off).take (limTo lim n * sz)) else none
  | none, some (_, rows) => some (limTo lim rows.length, (rows.take (limTo lim rows.length)).flatten)
  | none, none => none
/-- Cells that nothing is known of, up to a length. -/
def padTo (l : List AV) (m : Nat) : List AV := l ++ List.replicate (m - l.length) .dead
def AV.asInt : AV → Option Int
  | .imm (.int _ n) => some n
  | _ => none
/-- Operators on whole numbers and strings. -/
def binV (op : BinOp) : Value → Value → Option Value
  | .int k a, .int k' b =>
    if k = k' then
      match op with
      | .add => some (.int k (k.wrap (a + b)))
      | .sub => some (.int k (k.wrap (a - b)))
      | .mul => some (.int k (k.wrap (a * b)))
      | .quo => if b = 0 then none else some (.int k (k.wrap (a.tdiv b)))
      | .rem => if b = 0 then none else some (.int k (a.tmod b))
      | .shr => if b = 1 then some (.int k (a.fdiv 2)) else none
      | .eql => some (.bool (a == b))
      | .neq => some (.bool (a != b))
      | .lss => some (.bool (a < b))
      | .leq => some (.bool (a ≤ b))
      | .gtr => some (.bool (a > b))
      | .geq => some (.bool (a ≥ b))
      | _ => none
    else none
  | .string a, .string b =>
    match op with
    | .add => if a.size + b.size ≤ 9223372036854775807 then some (.string (a ++ b)) else none
    | .eql => some (.bool (a.toList == b.toList))
    | .neq => some (.bool (!(a.toList == b.toList)))
    | _ => none
  | _, _ => none
def unV (op : UnOp) : Value → Option Value
  | .bool b => match op with | .not => some (.bool !b) | _ => none
  | .int k n => match op with | .neg => some (.int k (k.wrap (0 - n))) | _ => none
  | _ => none
/-- Are cells equal: bools (0), whole numbers (1) and strings (2). -/
def eqCell : Nat → AV → AV → Option Bool
  | 0, .imm (.bool a), .imm (.bool b) => some (a == b)
  | 1, .imm (.int k a), .imm (.int k' b) => if k = k' then some (a == b) else none
  | 2, .imm (.string a), .imm (.string b) => some (a.toList == b.toList)
  | _, _, _ => none
def eqCells : List Nat → List AV → List AV → Option Bool
  | [], [], [] => some true
  | k :: ks, x :: xs, y :: ys => match eqCell k x y, eqCells ks xs ys with | some a, some b => some (a && b) | _, _ => none
  | _, _, _ => none
/-- What goes into immutable memory: without tokens, and nothing of the call's own. -/
def pureCells (x : AV) : Option (List AV) :=
  match x.cells with
  | some cs => if AV.pureBs (cs.map AV.weak) then some (cs.map AV.weak) else none
  | none => none
def rowsOf : List AV → Option (List (List AV))
  | [] => some []
  | x :: xs => match pureCells x, rowsOf xs with | some r, some rs => some (r :: rs) | _, _ => none
def fills : List AV → List (Nat × Nat × AV) → Option (List AV)
  | z, [] => some z
  | z, (off, n, x) :: rest =>
    match x.cells with
    | some cs => if cs.length = n ∧ off + n ≤ z.length then fills (splice z off cs) rest else none
    | none => none
/-- Bounds of a slice expression. -/
def boundOf (d : Int) : Option AV → Option Int
  | none => some d
  | some (.imm (.int _ n)) => some n
  | _ => none
/-- xs[l:] of a slice whose capacity is its length is such a slice. -/
def slcTok : Option Operand → Tok → Tok
  | none, .full => .full
  | _, _ => .ro
def undefA : AV := .tup []
/-- A key's cells. -/
def AV.keyc : Bool → AV → Option (List AV)
  | true, .agg cs => some cs
  | false, .imm v => some [.imm v]
  | _, _ => none
/-- A map's value at a key: the first entry with it; none where a comparison is not decided. -/
def findM (ag : Bool) (ks : List Nat) (kc : List AV) : List AV → Option (Option AV)
  | [] => some none
  | .tup [kx, vx] :: r =>
    match kx.keyc ag with
    | some c => match eqCells ks kc c with | some b => if b then some (some vx) else findM ag ks kc r | none => none
    | none => none
  | _ => none
def setM (ag : Bool) (ks : List Nat) (kc : List AV) (e : AV) : List AV → Option (List AV)
  | [] => some [e]
  | .tup [kx, vx] :: r =>
    match kx.keyc ag with
    | some c => match eqCells ks kc c with | some b => if b then some (e :: r) else (setM ag ks kc e r).map (.tup [kx, vx] :: ·) | none => none
    | none => none
  | _ => none
/-- What is known of the functions that are called: what they give for pure arguments, and for arguments that read variables. -/
structure Orc where
  f : Bool → Nat → List AV → Option AV
  v : Bool → Nat → List AV → (Nat → Nat) → (Nat → List AV) → Option AV
/-- Where an append leads. -/
def appTok (st : St σ) (d n n' : Nat) : Tok → Option (St σ)
  | .ro => none
  | .full => some (st.give d n')
  | .own t g => if st.tgen t = g ∧ st.top t = some n then some ((st.spend t).give d n') else none

/-- An append to a variable's slice: it becomes another variable. -/
def St.kill (st : St σ) (d : Nat) : St σ := { st with gen := upd st.gen d (st.gen d + 1), var := upd st.var d [] }

/-- What an operation does: its value, and the state behind it. -/
def act (Φ : Orc) (d : Nat) (st : St σ) : AOp → Option (AV × St σ)
  | .mov x => some (st.ev x, st)
  | .pick c a b => match st.ev c with | .imm (.bool t) => some (if t then st.ev a else st.ev b, st) | _ => none
  | .box x => match (st.ev x).cells with | some cs => some (.ptr d (st.gen d + 1) 0, st.newVar d cs) | none => none
  | .alloc z => some (.ptr d (st.gen d + 1) 0, st.newVar d (z.map .imm))
  | .build z parts => match fills (z.map .imm) (parts.map fun p => (p.1, p.2.1, st.ev p.2.2)) with | some cs => some (.agg cs, st) | none => none
  | .bsl sz parts => match rowsOf (parts.map st.ev) with | some rows => if rows.all (fun r => r.length == sz) then some (.sl sz .full rows, st) else none | none => none
  | .load agg n p =>
    match st.ev p with
    | .ptr d' g off => if g = st.gen d' ∧ 1 ≤ g ∧ off + n ≤ (st.var d').length then (AV.mk agg (((st.var d').drop off).take n)).map (·, st) else none
    | .eptr cs off => if off + n ≤ cs.length then (AV.mk agg ((cs.drop off).take n)).map (·, st) else none
    | _ => none
  | .store n p x =>
    match st.ev p, (st.ev x).cells with
    | .ptr d' g off, some xs => if g = st.gen d' ∧ 1 ≤ g ∧ xs.length = n ∧ off + n ≤ (st.var d').length then some (undefA, { st with var := upd st.var d' (splice (st.var d') off xs) }) else none
    | _, _ => none
  | .faddr off p => match st.ev p with | .ptr d' g q => if g = st.gen d' then some (.ptr d' g (q + off), st) else none | .eptr cs q => some (.eptr cs (q + off), st) | _ => none
  | .iaddr sz x i =>
    match (st.ev x).vslOf, (st.ev x).asSl sz, (st.ev i).asInt with
    | some (d', g, sz', off, m, _), _, some n => if sz' = sz ∧ g = st.gen d' ∧ 0 ≤ n ∧ n < m then some (.ptr d' g (off + n.toNat * sz), st) else none
    | none, some (_, rows), some n => if 0 ≤ n ∧ n < rows.length then some (.eptr (rows.getD n.toNat []) 0, st) else none
    | _, _, _ => none
  | .aaddr len sz x i =>
    match st.ev x, (st.ev i).asInt with
    | .ptr d' g q, some n => if g = st.gen d' ∧ 0 ≤ n ∧ n < len then some (.ptr d' g (q + n.toNat * sz), st) else none
    | _, _ => none
  | .sidx x i =>
    match st.ev x, (st.ev i).asInt with
    | .imm (.string s), some n => if 0 ≤ n ∧ n.toNat < s.size then some (.imm (.int .u8 (s.data.toList.getD n.toNat 0).toNat), st) else none
    | _, _ => none
  | .field agg off n x => match st.ev x with | .agg cs => if off + n ≤ cs.length then (AV.mk agg ((cs.drop off).take n)).map (·, st) else none | _ => none
  | .bin op x y => match st.ev x, st.ev y with | .imm a, .imm b => (binV op a b).map (.imm ·, st) | _, _ => none
  | .beq neg x y => match st.ev x, st.ev y with | .imm (.bool a), .imm (.bool b) => some (.imm (.bool (if neg then !(a == b) else a == b)), st) | _, _ => none
  | .seq neg ks x y => match st.ev x, st.ev y with | .agg a, .agg b => (eqCells ks a b).map fun r => (.imm (.bool (if neg then !r else r)), st) | _, _ => none
  | .un op x => match st.ev x with | .imm a => (unV op a).map (.imm ·, st) | _ => none
  | .convi k x => match (st.ev x).asInt with | some n => some (.imm (.int k (k.wrap n)), st) | none => none
  | .convs x => match st.ev x with | .imm (.string s) => some (.imm (.string s), st) | _ => none
  | .slc sz x lo hi mx =>
    match (st.ev x).vslOf, (st.ev x).asSl sz with
    | some (d', g, sz', off, n, cp), _ =>
      match boundOf 0 (lo.map st.ev), boundOf n (hi.map st.ev), mx.map st.ev with
      | some l, some h, none => if sz' = sz ∧ 0 ≤ l ∧ l ≤ h ∧ h ≤ (cp.getD n : Nat) then some (.vsl d' g sz (off + l.toNat * sz) (h - l).toNat (cp.map (· - l.toNat)), st) else none
      | some l, some h, some (.imm (.int _ m)) => if sz' = sz ∧ 0 ≤ l ∧ l ≤ h ∧ h ≤ m ∧ m ≤ (cp.getD n : Nat) ∧ hi.isSome = true then some (.vsl d' g sz (off + l.toNat * sz) (h - l).toNat (some (m - l).toNat), st) else none
      | _, _, _ => none
    | none, some (tok, rows) =>
      match boundOf 0 (lo.map st.ev), boundOf rows.length (hi.map st.ev), mx.map st.ev with
      | some l, some h, none =>
        if 0 ≤ l ∧ l ≤ h ∧ h ≤ rows.length then some (.sl sz (slcTok hi tok) ((rows.take h.toNat).drop l.toNat), st) else none
      | some l, some h, some (.imm (.int _ m)) =>
        if 0 ≤ l ∧ l ≤ h ∧ h ≤ rows.length ∧ m = h ∧ hi.isSome = true then some (.sl sz .full ((rows.take h.toNat).drop l.toNat), st) else none
      | _, _, _ => none
    | none, none => none
  | .sslc x lo hi =>
    match st.ev x with
    | .imm (.string s) =>
      match boundOf 0 (lo.map st.ev), boundOf s.size (hi.map st.ev) with
      | some l, some h => if 0 ≤ l ∧ l ≤ h ∧ h ≤ s.size then some (.imm (.string (s.extract l.toNat h.toNat)), st) else none
      | _, _ => none
    | _ => none
  | .ext i x => match st.ev x with | .tup vs => (vs[i]?).map (·, st) | _ => none
  | .call f args =>
    if AV.pureBs (args.map fun x => (st.ev x).weaks) then
      match Φ.f true f (args.map fun x => (st.ev x).weaks) with
      | some r => (r.ret d (st.tgen d + 1)).map (·, st.given d r)
      | none => none
    else (Φ.v true f (args.map st.ev) st.gen st.var).map (·, st)
  | .slen x => match st.ev x with | .imm (.string s) => some (.imm (.int .i64 s.size), st) | _ => none
  | .len x =>
    match st.ev x with
    | .imm (.slice none 0 0) => some (.imm (.int .i64 0), st)
    | .sl _ _ rows => some (.imm (.int .i64 rows.length), st)
    | .vsl _ _ _ _ n _ => some (.imm (.int .i64 n), st)
    | _ => none
  | .app sz bytes x y =>
    match (st.ev x).vslOf, (st.ev x).asSl sz, (st.ev y).asSl sz with
    | some (d', g, sz', off, n, _), _, _ =>
      match st.src sz none (st.ev y) with
      | some (m, news) =>
        if sz' = sz ∧ off = 0 ∧ g = st.gen d' ∧ n * sz ≤ (st.var d').length ∧ (n + m) * bytes ≤ 140737488355328 then some (.vsl d ((st.kill d').gen d + 1) sz 0 (n + m) none, (st.kill d').newVar d ((st.var d').take (n * sz) ++ news)) else none
      | none => none
    | none, some (tok, rows), some (_, news) =>
      if (rows.length + news.length) * bytes ≤ 140737488355328 then
        (appTok st d rows.length (rows.length + news.length) tok).map fun st' => (.sl sz (.own d (st.tgen d + 1)) (rows ++ news), st')
      else none
    | _, _, _ => none
  | .nilc x => match st.ev x with | .ptr d' g q => if g = st.gen d' then some (.ptr d' g q, st) else none | .eptr cs q => some (.eptr cs q, st) | _ => none
  | .mkf f first caps => some (.fv f (first.map st.ev) (caps.map st.ev), st)
  | .callv x args =>
    match st.ev x with
    | .fv g first caps =>
      if AV.pureBs (first ++ (args.map fun x => (st.ev x).weaks) ++ caps) then
        match Φ.f false g (first ++ (args.map fun x => (st.ev x).weaks) ++ caps) with
        | some r => (r.ret d (st.tgen d + 1)).map (·, st.given d r)
        | none => none
      else (Φ.v false g (first ++ args.map st.ev ++ caps) st.gen st.var).map (·, st)
    | _ => none
  | .aidx agg len sz x i =>
    match st.ev x, (st.ev i).asInt with
    | .agg cs, some n => if 0 ≤ n ∧ n < len ∧ n.toNat * sz + sz ≤ cs.length then (AV.mk agg ((cs.drop (n.toNat * sz)).take sz)).map (·, st) else none
    | _, _ => none
  | .mm mx x y =>
    match st.ev x, st.ev y with
    | .imm (.int k a), .imm (.int k' b) => if k = k' then some (.imm (.int k (if mx then (if b > a then b else a) else (if b < a then b else a))), st) else none
    | _, _ => none
  | .peq neg x =>
    match st.ev x with
    | .imm (.pointer none) => some (.imm (.bool (!neg)), st)
    | .ptr d' g _ => if g = st.gen d' then some (.imm (.bool neg), st) else none
    | .eptr _ _ => some (.imm (.bool neg), st)
    | _ => none
  | .snil neg x =>
    match st.ev x with
    | .imm (.slice none 0 0) => some (.imm (.bool (!neg)), st)
    | .sl _ _ rows => if rows ≠ [] then some (.imm (.bool neg), st) else none
    | .vsl d' g _ _ n _ => if g = st.gen d' then some (.imm (.bool neg), st) else none
    | _ => none
  | .asl sz len x => match st.ev x with | .ptr d' g q => if g = st.gen d' ∧ q + len * sz ≤ (st.var d').length ∧ len ≤ 1048576 then some (.vsl d' g sz q len (some len), st) else none | _ => none
  | .capv x =>
    match st.ev x with
    | .imm (.slice none 0 0) => some (.imm (.int .i64 0), st)
    | .sl _ .full rows => some (.imm (.int .i64 rows.length), st)
    | .vsl _ _ _ _ _ (some c) => some (.imm (.int .i64 c), st)
    | _ => none
  | .cpy sz x y =>
    match (st.ev x).vslOf with
    | some (d', g, sz', off, n, _) =>
      match st.src sz (some n) (st.ev y) with
      | some (m, news) => if sz' = sz ∧ g = st.gen d' ∧ 0 < n then some (.imm (.int .i64 m), { st with var := upd st.var d' (splice (padTo (st.var d') (off + news.length)) off news) }) else none
      | none => none
    | none => none
  | .appz sz bytes z x n =>
    match (st.ev x).vslOf, (st.ev n).asInt with
    | some (d', g, sz', off, k, some c), some m =>
      if sz' = sz ∧ g = st.gen d' ∧ off + k * sz ≤ (st.var d').length ∧ 0 ≤ m ∧ c < k + m.toNat ∧ (k + m.toNat) * bytes ≤ 140737488355328 then
        some (.vsl d (st.gen d + 1) sz 0 (k + m.toNat) none, st.newVar d (((st.var d').drop off).take (k * sz) ++ (List.replicate m.toNat (z.map AV.imm)).flatten)) else none
    | _, _ => none
  | .mksl sz bytes z n =>
    match (st.ev n).asInt with
    | some m => if 0 ≤ m ∧ m.toNat * bytes ≤ 140737488355328 then some (.vsl d (st.gen d + 1) sz 0 m.toNat (some m.toNat), st.newVar d (List.replicate m.toNat (z.map AV.imm)).flatten) else none
    | none => none
  | .mkmap => some (.mp d (st.gen d + 1), st.newVar d [])
  | .mget ag ks z comma m k =>
    match st.ev m, (st.ev k).keyc ag with
    | .mp d' g, some kc =>
      if g = st.gen d' ∧ kc.length = ks.length then (findM ag ks kc (st.var d')).map fun r => (if comma then .tup [r.getD (.ofV z), .imm (.bool r.isSome)] else r.getD (.ofV z), st) else none
    | .imm (.map none), some kc => if kc.length = ks.length then some (if comma then .tup [.ofV z, .imm (.bool false)] else .ofV z, st) else none
    | _, _ => none
  | .mset ag ks m k x =>
    match st.ev m, (st.ev k).keyc ag with
    | .mp d' g, some kc => if g = st.gen d' ∧ kc.length = ks.length then (setM ag ks kc (.tup [st.ev k, st.ev x]) (st.var d')).map fun l => (undefA, { st with var := upd st.var d' l }) else none
    | _, _ => none
  | .mlen m => match st.ev m with | .mp d' g => if g = st.gen d' then some (.imm (.int .i64 (st.var d').length), st) else none | .imm (.map none) => some (.imm (.int .i64 0), st) | _ => none
  | .hard _ => none

/-- A call of it enters its code. -/
def Enters (P : Program) (n : Nat) : Prop := ∃ fn, P.funcs[n]? = some fn ∧ fn.body.isSome = true ∧ (fn.name == "runtime.NumGoroutine") = false
/-- The contract of a call that reads variables of the caller's. -/
def VCall (σ : Type) (P : Program) (n : Nat) (xs : List AV) (g : Nat → Nat) (v : Nat → List AV) (r : AV) : Prop :=
  r.flatB = true ∧ ∃ ys, (∀ st : St σ, st.gen = g → st.var = v → Views st xs ys) ∧ PCall P n ys r
/-- The specifications hold of the program: of its functions by their own numbers here (true), by the program's numbers (false). -/
structure Specs (σ : Type) (P : Program) (T : List Nat) (Φ : Orc) : Prop where
  f1 : ∀ f xs r n, Φ.f true f xs = some r → T[f]? = some n → PCall P n xs r
  f2 : ∀ n xs r, Φ.f false n xs = some r → PCall P n xs r ∧ Enters P n
  v1 : ∀ f xs g v r n, Φ.v true f xs g v = some r → T[f]? = some n → VCall σ P n xs g v r
  v2 : ∀ n xs g v r, Φ.v false n xs g v = some r → VCall σ P n xs g v r ∧ Enters P n
/-- Is the operation to be carried out. -/
def wantedA (st : St σ) : Option (Nat × Bool) → Option Bool
  | none => some true
  | some (g, b) => match st.env g with | .imm (.bool x) => some (x == b) | .tup [] => some false | _ => none
def St.put (st : St σ) : Option Nat → AV → St σ
  | some d, x => { st with env := upd st.env d x }
  | none, _ => st
/-- One step; k: what is added to slots for the names of variables and tokens. -/
def stepA (Φ : Orc) (k : Nat) (st : St σ) (o : AOper) : Option (St σ) :=
  match wantedA st o.guard with
  | some true => (act Φ (k + o.dst.getD 0) st o.op).map fun r => r.2.put o.dst r.1
  | some false => some (st.put o.dst undefA)
  | none => none
end Go.Av
