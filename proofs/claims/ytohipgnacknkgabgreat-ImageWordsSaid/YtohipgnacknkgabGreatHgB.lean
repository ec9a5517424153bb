/-
  ABS, part B: the model's code as code of the abstract machine. (Own work.)
-/
import Derived.Test.YtohipgnacknkgabGreatHgA
set_option linter.unusedSimpArgs false
set_option linter.unusedVariables false
namespace Go.Abs
open Go

section
variable (P : Program)

def tsize (t : TypeId) : Option Nat := (P.info? t).map (·.size)
def tbytes (t : TypeId) : Option Nat := (P.info? t).map (·.bytes)
def aggDesc : TypeDesc → Bool
  | .struct _ | .array _ _ => true
  | _ => false
def tagg (t : TypeId) : Option Bool := (P.underlying t).map aggDesc
def tzero (t : TypeId) : Option Value := ((P.info? t).bind (·.zero)).bind fun z => if flat z then some z else none

def cOpd : Operand → Option Operand
  | .tmp t => some (.tmp t)
  | .const v => if flat v then some (.const v) else none
  | .func f => some (.func f)
  | .global _ => none

def cOpds (l : Array Operand) : Option (List Operand) := l.toList.mapM cOpd

def cOpt : Option Operand → Option (Option Operand)
  | none => some none
  | some x => (cOpd x).map some

def isAggE : ETy → Bool
  | .struct _ | .arr _ _ _ => true
  | _ => false

def ety : Nat → TypeId → Option ETy
  | 0, _ => none
  | n + 1, t =>
    match P.underlying t with
    | some .bool => some .bool
    | some (.int _) => some .int
    | some .string => some .str
    | some (.struct fs) => do
      if P.stoodInHeld t then none else
      let l ← (fs.toList.filter (·.name ≠ "_")).mapM fun f => do
        let e ← ety n f.type
        let s ← tsize P f.type
        let g ← tagg P f.type
        if isAggE e = g then pure (f.offset, s, e) else none
      pure (.struct l)
    | some (.array len elem) => do
      let e ← ety n elem
      let s ← tsize P elem
      let g ← tagg P elem
      if isAggE e = g then pure (.arr len s e) else none
    | some (.pointer _) => some .nilP
    | some (.slice _) => some .nilS
    | some (.map _ _) => some .nilM
    | some (.func _ _ _) => some .nilF
    | some (.interface _) => some .nilI
    | _ => none

def isConst : Operand → Bool
  | .const _ => true
  | _ => false

/-- Would the model refuse to hold two such values against one another? -/
def guardB (e : ETy) (t : TypeId) (x y : Operand) : Bool :=
  match e with
  | .struct _ | .arr _ _ _ => P.eqGuardType P.depth t
  | .nilI => !(isConst x || isConst y)
  | _ => false

/-- A key's kind: 0 an integer, 1 a text, 2 a bool. -/
def keyKind (t : TypeId) : Option Nat :=
  match P.underlying t with
  | some (.int _) => some 0
  | some .string => some 1
  | some .bool => some 2
  | _ => none

def cParts (f : Nat → Option (Nat × Nat)) (ps : Array (Nat × Operand)) : Option (List (Nat × Nat × Operand)) :=
  ps.toList.mapM fun (i, x) => do
    let (off, size) ← f i
    let y ← cOpd x
    pure (off, size, y)

def cBuiltin (b : Builtin) (argTypes : Array TypeId) (args : Array Operand) : Option IOp :=
  match b with
  | .append => do
    let (some sT, some xT, some s, some x) := (argTypes[0]?, argTypes[1]?, args[0]?, args[1]?) | none
    let some (.slice elem) := P.underlying sT | none
    match P.underlying xT with
    | some (.slice _) | some .string =>
      let size ← tsize P elem
      let bytes ← tbytes P elem
      let z ← (P.info? elem).bind (·.zero)
      if size = 0 || bytes = 0 || z.cells.size ≠ size then none else
      pure (.append size bytes (← cOpd s) (← cOpd x))
    | some (.int _) =>
      let size ← tsize P elem
      let bytes ← tbytes P elem
      let z ← tzero P elem
      if size = 0 || bytes = 0 || z.cells.size ≠ size then none else
      pure (.appendZ size bytes z.cells.toList (← cOpd s) (← cOpd x))
    | _ => none
  | .copy => do
    let (some dT, some d, some s) := (argTypes[0]?, args[0]?, args[1]?) | none
    let some (.slice elem) := P.underlying dT | none
    pure (.copy (← tsize P elem) (← cOpd d) (← cOpd s))
  | .len => do
    let (some t, some x) := (argTypes[0]?, args[0]?) | none
    match P.underlying t with
    | some .string => pure (.len 0 (← cOpd x))
    | some (.slice _) => pure (.len 1 (← cOpd x))
    | some (.map _ _) => pure (.len 2 (← cOpd x))
    | _ => none
  | .cap => do
    let (some t, some x) := (argTypes[0]?, args[0]?) | none
    match P.underlying t with
    | some (.slice _) => pure (.cap (← cOpd x))
    | _ => none
  | .min => do pure (.minI (← cOpds args))
  | .max => do pure (.maxI (← cOpds args))
  | .recover => some .recover
  | .delete => do
    let (some t, some m, some k) := (argTypes[0]?, args[0]?, args[1]?) | none
    let some (.map key _) := P.underlying t | none
    pure (.mapDel (← keyKind P key) (← cOpd m) (← cOpd k))
  | _ => none

def cOp (o : Oper) : Option IOp :=
  match o.op with
  | .move x | .assign x => do pure (.mov (← cOpd x))
  | .pick c a b => do pure (.pick (← cOpd c) (← cOpd a) (← cOpd b))
  | .alloc t => do pure (.alloc (← tzero P t).cells.toList)
  | .box _ x => do pure (.box (← cOpd x))
  | .build t ps => do
    let z ← tzero P t
    match P.underlying t with
    | some (.struct fields) =>
      if fields.all fun f => (tsize P f.type).isSome then
        pure (.build z.cells.toList (← cParts (fun i => do let f ← fields[i]?; pure (f.offset, ← tsize P f.type)) ps))
      else none
    | some (.array _ elem) => do
      let s ← tsize P elem
      pure (.build z.cells.toList (← cParts (fun i => some (i * s, s)) ps))
    | _ => none
  | .buildSlice t len ps => do
    let some (.slice elem) := P.underlying t | none
    let s ← tsize P elem
    if len * s > 2 ^ 24 then none else
    let z ← tzero P elem
    if z.cells.size ≠ s || len ≥ openCap then none else
    pure (.buildSlice s ((List.range (len * s)).map fun i => z.cells.toList.getD (i % s) .nilFunc) len (← cParts (fun i => some (i * s, s)) ps))
  | .load t a => do
    match tagg P t with
    | some true => do pure (.loadN (← tsize P t) (← cOpd a))
    | some false => do pure (.load1 (← cOpd a))
    | none => none
  | .store t a x => do pure (.store (← tsize P t) (← cOpd a) (← cOpd x))
  | .nilCheck x => do pure (.nilCheck (← cOpd x))
  | .binOp op t x y _ => do
    match op with
    | .eql | .neq =>
      let e ← ety P 20 t
      if guardB P e t x y then none else pure (.bin op e (← cOpd x) (← cOpd y))
    | _ => pure (.bin op .int (← cOpd x) (← cOpd y))
  | .unOp op _ x => do pure (.un op (← cOpd x))
  | .convert src dst x => do
    let y ← cOpd x
    match P.underlying src, P.underlying dst with
    | some (.int _), some (.int k) => pure (.convI k y)
    | some .string, some .string => pure (.convS y)
    | some .string, some (.slice e) =>
      match P.underlying e with
      | some (.int .u8) => pure (.convSB y)
      | _ => none
    | some (.slice e), some .string =>
      match P.underlying e with
      | some (.int .u8) => pure (.convBS y)
      | _ => none
    | _, _ => none
  | .makeInterface t x =>
    match P.underlying t with
    | none | some (.interface _) => none
    | some _ => do pure (.mkIface t (← cOpd x))
  | .makeFunc (.func f) first captured => do pure (.mkFunc f (← cOpds first) (← cOpds captured))
  | .makeMap t none => some .mkMap
  | .makeMap t (some (.const (.int _ _))) =>
    match P.underlying t with
    | some (.map _ _) => some .mkMap
    | _ => none
  | .makeSlice t l c => do
    let some (.slice elem) := P.underlying t | none
    let s ← tsize P elem
    let bytes ← tbytes P elem
    let z ← tzero P elem
    if z.cells.size ≠ s || s = 0 || bytes = 0 then none else
    pure (.mkSlice s z.cells.toList bytes (← cOpd l) (← cOpd c))
  | .slice t x lo hi mx => do
    match P.underlying t with
    | some (.array n elem) => if n ≥ openCap then none else pure (.sliceA n (← tsize P elem) (← cOpd x) (← cOpt lo) (← cOpt hi) (← cOpt mx))
    | some .string => if mx.isSome then none else pure (.sliceS (← cOpd x) (← cOpt lo) (← cOpt hi))
    | some (.slice elem) =>
      if mx.isSome && hi.isNone then none else
      pure (.slice (← tsize P elem) (← cOpd x) (← cOpt lo) (← cOpt hi) (← cOpt mx))
    | _ => none
  | .fieldAddr s x f => do
    let some (.struct fields) := P.underlying s | none
    let g ← fields[f]?
    let n ← tsize P g.type
    if n = 0 then none else pure (.fieldAddr g.offset (← cOpd x))
  | .field t x f => do
    let some (.struct fields) := P.underlying t | none
    let g ← fields[f]?
    match tagg P g.type with
    | some true => do pure (.fieldN g.offset (← tsize P g.type) (← cOpd x))
    | some false => do pure (.field1 g.offset (← cOpd x))
    | none => none
  | .indexAddr t x i => do
    match P.underlying t with
    | some (.slice elem) => pure (.idxAddr (← tsize P elem) (← cOpd x) (← cOpd i))
    | some (.array n elem) => pure (.idxAddrA n (← tsize P elem) (← cOpd x) (← cOpd i))
    | _ => none
  | .index t x i => do
    match P.underlying t with
    | some .string => pure (.idxS (← cOpd x) (← cOpd i))
    | some (.array n elem) =>
      match tagg P elem with
      | some true => do pure (.idxAN n (← tsize P elem) (← cOpd x) (← cOpd i))
      | some false => do pure (.idxA1 n (← tsize P elem) (← cOpd x) (← cOpd i))
      | none => none
    | _ => none
  | .lookup t m k ok => do
    let some (.map key elem) := P.underlying t | none
    let z ← tzero P elem
    pure (.lookup (← keyKind P key) z (← cOpd m) (← cOpd k) ok)
  | .mapUpdate t m k v | .insert t m k v => do
    let some (.map key _) := P.underlying t | none
    pure (.mapSet (← keyKind P key) (← cOpd m) (← cOpd k) (← cOpd v))
  | .range t x => do
    match P.underlying t with
    | some .string => pure (.rangeS (← cOpd x))
    | some (.map _ _) => pure (.rangeM (← cOpd x))
    | _ => none
  | .next x isString => do pure (.next (← cOpd x) isString)
  | .entry x => do pure (.entry (← cOpd x))
  | .typeAssert x _ asserted ok => do
    match P.underlying asserted with
    | none | some (.interface _) => none
    | some _ =>
      let z ← tzero P asserted
      pure (.typeAssert asserted z (← cOpd x) ok)
  | .extract x i => do pure (.extract (← cOpd x) i)
  | .call c =>
    match c.callee with
    | .value f => do pure (.call (← cOpd f) (← cOpds c.args))
    | .builtin b => cBuiltin P b c.argTypes c.args
    | .invoke _ _ => none
  | .defer c =>
    match c.callee with
    | .value f => do pure (.defer (← cOpd f) (← cOpds c.args))
    | _ => none
  | .panic x => do pure (.panic (← cOpd x))
  | _ => none

def cGuard (ops : Array Oper) (o : Oper) : Option (Option (Nat × Bool)) :=
  match o.guard with
  | none => some none
  | some (j, b) =>
    match (ops[j]?).bind (·.dst) with
    | some d => some (some (d, b))
    | none => none

def cOper (ops : Array Oper) (o : Oper) : Option IOper := do
  pure { dst := o.dst, op := ← cOp P o, guard := ← cGuard ops o }

def IOp.cls : IOp → Nat
  | .alloc _ | .box _ | .buildSlice _ _ _ _ | .mkMap | .mkSlice _ _ _ _ _ | .convSB _ | .rangeS _ | .rangeM _ => 1
  | .store _ _ _ | .mapSet _ _ _ _ | .mapDel _ _ _ | .call _ _ | .append _ _ _ _ | .appendZ _ _ _ _ _ | .copy _ _ _ | .next _ _ | .recover | .defer _ _ | .panic _ => 2
  | _ => 0

/-- Makes memory, of what is at hand. -/
def earlyOp : Op → Bool
  | .alloc _ | .buildSlice _ _ _ => true
  | _ => false

/-- One order that may be drawn: what does not act comes first. -/
def topo (ops : Array Oper) (pref : Nat → Bool) : Nat → Array Bool → List Nat → List Nat
  | 0, _, acc => acc.reverse
  | n + 1, listed, acc =>
    let rs := Region.ready .any ops listed
    match rs.find? pref with
    | some i => topo ops pref n (listed.setIfInBounds i true) (i :: acc)
    | none =>
      match rs with
      | i :: _ => topo ops pref n (listed.setIfInBounds i true) (i :: acc)
      | [] => acc.reverse

def infos (ops : Array Oper) (l : List IOper) (anc : Array Nat) : Bool → List Nat → List IInfo
  | _, [] => []
  | seen, i :: is =>
    match l[i]?, ops[i]? with
    | some io, some o =>
      let c := if io.op.cls = 0 then 0 else if !seen && earlyOp o.op then 1 else 2
      { idx := i, deps := (o.after.toList.filter (Region.binds .any ·)).map (·.on), anc := anc.getD i 0, cls := c } :: infos ops l anc (seen || c == 2) is
    | _, _ => infos ops l anc seen is

/-- A region that draws: its operations in one order that may be drawn; what each must wait for, and what it does. -/
def cInfo (ops : Array Oper) (l : List IOper) : List IInfo :=
  let ord := topo ops (fun i => match l[i]?, ops[i]? with | some io, some o => io.op.cls == 0 || earlyOp o.op | _, _ => false) ops.size (Array.replicate ops.size false) []
  let anc := ord.foldl (init := Array.replicate ops.size 0) fun (b : Array Nat) i =>
    match ops[i]? with
    | none => b
    | some o => b.setIfInBounds i (o.after.foldl (fun s e => if Region.binds .any e then s ||| 2 ^ e.on ||| b.getD e.on 0 else s) 0)
  infos ops l anc false ord

def cCode : Code → Option ICode
  | .skip => some .skip
  | .region _ ops draw => do
    let l ← ops.toList.mapM (cOper P ops)
    if draw then pure (.region l (some (cInfo ops l))) else pure (.region l none)
  | .seq a b => do pure (.seq (← cCode a) (← cCode b))
  | .cond c a b => do pure (.cond (← cOpd c) (← cCode a) (← cCode b))
  | .block id b => do pure (.block id (← cCode b))
  | .loop b => do pure (.loop (← cCode b))
  | .rangeFunc f ps a b => do pure (.rangeFunc (← cOpd f) ps (← cCode a) (← cCode b))
  | .exit id => some (.exit id)
  | .scope b => do pure (.scope (← cCode b))
  | .label l => some (.label l)
  | .goto l => some (.goto l)
  | .ret => some .ret
  | .refuse _ => none

end
end Go.Abs
