/-
  ABS, part O: the abstract machine. (Own work.)
-/
import Derived.Test.YtohipgnacknkgabGreatHgZ
set_option linter.unusedSimpArgs false
set_option linter.unusedVariables false
namespace Go.Abs
open Go

/-- How a piece of code is left. -/
inductive AX where
  | normal
  | jump (j : IJump)
  | panic (v : Value)

/-- How a function ends. -/
inductive AE where
  | ret (v : Value)
  | panic (v : Value)

structure ASt where
  ts : Tmps
  ds : List Deferred
  H : AHeap

def ASt.put (s : ASt) (d : Option Nat) (v : Value) : ASt :=
  match d with
  | some t => { s with ts := s.ts.put t v }
  | none => s

inductive IRes where
  | tmp (t : Nat)
  | cell1 (a : Nat)
  | cellN (a n : Nat)

structure AFn where
  code : ICode
  ntmps : Nat
  results : List IRes

/-- The parts of the abstract machine, to a depth. -/
structure Ev where
  code : Option Nat → ICode → ASt → Option (AX × ASt)
  scope : Option Nat → ICode → ICode → ASt → Option (AX × ASt)
  loop : Option Nat → ICode → ASt → Option (AX × ASt)
  call : Nat → List Value → AHeap → Option (AE × AHeap)
  codeD : ICode → ASt → Option (Value × Bool) → Option (AX × ASt × Option (Value × Bool))

/-- What is known of functions without looking into them. -/
abbrev Specs := Nat → List Value → AHeap → Option (AE × AHeap)

def Ev.none : Ev := { code := fun _ _ _ => .none, scope := fun _ _ _ _ => .none, loop := fun _ _ _ => .none, call := fun _ _ _ => .none, codeD := fun _ _ _ => .none }

/-- Is an operation done? -/
def want (g : Option (Nat × Bool)) (ts : Tmps) : Option Bool :=
  match g with
  | none => some true
  | some (d, b) =>
    match ts.get d with
    | some (.bool c) => some (c == b)
    | some (.tuple _) => some false
    | _ => .none

/-- A round of the loop l over a function. -/
def stepRound (e : Ev) (l : Nat) (args : List Value) (H : AHeap) : Option (Value × AHeap) :=
  match H.get l with
  | some (.loop L) =>
    if args.length = L.params.size then
      match e.code (some l) L.assign { ts := (L.params.toList.zip args).foldl (fun (ts : Tmps) (x : Nat × Value) => ts.put x.1 x.2) L.tmps, ds := [], H } with
      | some (.normal, s1) =>
        match s1.H.get l with
        | some (.loop L1) =>
          match L1.state with
          | .ready =>
            match e.code (some l) L.body { s1 with H := s1.H.set l (.loop { L1 with state := .busy }) } with
            | some (.normal, s2) =>
              match s2.H.get l with
              | some (.loop L2) => some (.bool true, s2.H.set l (.loop { L2 with state := .ready, pending := none }))
              | _ => none
            | some (.jump j, s2) =>
              match s2.H.get l with
              | some (.loop L2) => some (.bool false, s2.H.set l (.loop { L2 with state := .done, pending := some j }))
              | _ => none
            | _ => none
          | _ => none
        | _ => none
      | _ => none
    else none
  | _ => none

def stepOp (e : Ev) (rd : Option Nat) (o : IOper) (s : ASt) : Option (AX × ASt) :=
  match want o.guard s.ts with
  | none => none
  | some false => some (.normal, s.put o.dst undef)
  | some true =>
    match aopK o.op (aev s.ts) s.H with
    | none => none
    | some (.val v, H) => some (.normal, { s with H }.put o.dst v)
    | some (.skip, H) => some (.normal, { s with H }.put o.dst undef)
    | some (.panic v, H) => some (.panic v, { s with H })
    | some (.enter f args, H) =>
      match e.call f args H with
      | some (.ret v, H) => some (.normal, { s with H }.put o.dst v)
      | some (.panic v, H) => some (.panic v, { s with H })
      | none => none
    | some (.round l args, H) =>
      match stepRound e l args H with
      | some (v, H) => some (.normal, { s with H }.put o.dst v)
      | none => none
    | some (.defer d, H) =>
      match rd with
      | none => some (.normal, { s with H, ds := d :: s.ds }.put o.dst undef)
      | some _ => none
    | some (.recover, _) => none

def stepOps (e : Ev) (rd : Option Nat) : List IOper → ASt → Option (AX × ASt)
  | [], s => some (.normal, s)
  | o :: os, s =>
    match stepOp e rd o s with
    | some (.normal, s) => stepOps e rd os s
    | r => r

/-- The code behind a label. -/
def iFind : ICode → Nat → Option ICode
  | .seq a b, l =>
    match iFind a l with
    | some rest => some (.seq rest b)
    | none => iFind b l
  | .label l', l => if l' == l then some .skip else none
  | _, _ => none

/-- A loop over a function: the record is laid. -/
def enterL (rd : Option Nat) (s : ASt) (params : Array Tmp) (assign body : ICode) : Option (Nat × List Deferred × AHeap) :=
  match rd with
  | none => some (s.H.size + 1, [{ target := .collected s.H.size, args := #[] }],
      (s.H.push (.defd (some []))).push (.loop { state := .ready, pending := none, tmps := s.ts, params, assign, body, defers := s.H.size }))
  | some l =>
    match s.H.get l with
    | some (.loop L) => some (s.H.size, [], s.H.push (.loop { state := .ready, pending := none, tmps := s.ts, params, assign, body, defers := L.defers }))
    | _ => none

def endL (l : Nat) (s : ASt) : Option (AX × ASt) :=
  match s.H.get l with
  | some (.loop L) =>
    match L.state with
    | .busy => none
    | _ =>
      let s := { s with H := s.H.set l (.loop { L with state := .exhausted }) }
      match L.pending with
      | none => some (.normal, s)
      | some j => some (.jump j, s)
  | _ => none

def stepRF (e : Ev) (rd : Option Nat) (f : Operand) (params : Array Tmp) (assign body : ICode) (s : ASt) : Option (AX × ASt) :=
  match aev s.ts f, enterL rd s params assign body with
  | some (.func (.func g) first captured), some (l, mark, H) =>
    match e.call g (first.toList ++ [.func (.yield l) #[] #[]] ++ captured.toList) H with
    | some (.ret _, H) => endL l { s with H, ds := mark ++ s.ds }
    | some (.panic v, H) => some (.panic v, { s with H, ds := mark ++ s.ds })
    | none => none
  | _, _ => none

variable (draw : Ev → Option Nat → List IOper → List IInfo → ASt → Option (AX × ASt))

def stepCode (e : Ev) (rd : Option Nat) (c : ICode) (s : ASt) : Option (AX × ASt) :=
  match c with
  | .skip | .label _ => some (.normal, s)
  | .region ops none => stepOps e rd ops s
  | .region ops (some i) => draw e rd ops i s
  | .seq a b =>
    match e.code rd a s with
    | some (.normal, s) => e.code rd b s
    | r => r
  | .cond c a b =>
    match aev s.ts c with
    | some (.bool true) => e.code rd a s
    | some (.bool false) => e.code rd b s
    | _ => none
  | .block id b =>
    match e.code rd b s with
    | some (.jump (.exit j), s) => if j = id then some (.normal, s) else some (.jump (.exit j), s)
    | r => r
  | .loop b => e.loop rd b s
  | .rangeFunc f params assign body => stepRF e rd f params assign body s
  | .exit id => some (.jump (.exit id), s)
  | .goto l => some (.jump (.goto l), s)
  | .ret => some (.jump .ret, s)
  | .scope b => e.scope rd b b s

def stepScope (e : Ev) (rd : Option Nat) (body cur : ICode) (s : ASt) : Option (AX × ASt) :=
  match e.code rd cur s with
  | some (.jump (.goto l), s) =>
    match iFind body l with
    | some rest => e.scope rd body rest s
    | none => some (.jump (.goto l), s)
  | r => r

def stepLoop (e : Ev) (rd : Option Nat) (body : ICode) (s : ASt) : Option (AX × ASt) :=
  match e.code rd body s with
  | some (.normal, s) => e.loop rd body s
  | r => r

/-! ### Deferred frames -/

def stepOpD (e : Ev) (o : IOper) (s : ASt) (m : Option (Value × Bool)) : Option (ASt × Option (Value × Bool)) :=
  match want o.guard s.ts with
  | none => none
  | some false => some (s.put o.dst undef, m)
  | some true =>
    match aopK o.op (aev s.ts) s.H with
    | some (.val v, H) => some ({ s with H }.put o.dst v, m)
    | some (.skip, H) => some ({ s with H }.put o.dst undef, m)
    | some (.enter f args, H) =>
      match e.call f args H with
      | some (.ret v, H) => some ({ s with H }.put o.dst v, m)
      | _ => none
    | some (.recover, H) =>
      match m with
      | some (v, false) => some ({ s with H }.put o.dst v, some (v, true))
      | m => some ({ s with H }.put o.dst .nilIface, m)
    | _ => none

def stepOpsD (e : Ev) : List IOper → ASt → Option (Value × Bool) → Option (ASt × Option (Value × Bool))
  | [], s, m => some (s, m)
  | o :: os, s, m =>
    match stepOpD e o s m with
    | some (s, m) => stepOpsD e os s m
    | none => none

def stepCodeD (e : Ev) (c : ICode) (s : ASt) (m : Option (Value × Bool)) : Option (AX × ASt × Option (Value × Bool)) :=
  match c with
  | .skip => some (.normal, s, m)
  | .region ops none =>
    match stepOpsD e ops s m with
    | some (s, m) => some (.normal, s, m)
    | none => none
  | .seq a b =>
    match e.codeD a s m with
    | some (.normal, s, m) => e.codeD b s m
    | r => r
  | .cond c a b =>
    match aev s.ts c with
    | some (.bool true) => e.codeD a s m
    | some (.bool false) => e.codeD b s m
    | _ => none
  | .ret => some (.jump .ret, s, m)
  | _ => none

/-! ### Functions -/

def resOf (ts : Tmps) (H : AHeap) : IRes → Option Value
  | .tmp t => ts.get t
  | .cell1 a =>
    match ts.get a with
    | some (.pointer (some a)) => H.cell a
    | _ => none
  | .cellN a n =>
    match ts.get a with
    | some (.pointer (some a)) => (H.row a n).map fun l => .agg l.toArray
    | _ => none

def resAll (ts : Tmps) (H : AHeap) : List IRes → Option (List Value)
  | [] => some []
  | r :: rs =>
    match resOf ts H r, resAll ts H rs with
    | some v, some vs => some (v :: vs)
    | _, _ => none

def resV (ts : Tmps) (H : AHeap) (rs : List IRes) : Option Value :=
  match resAll ts H rs with
  | some [v] => some v
  | some vs => some (.tuple vs.toArray)
  | none => none

variable (T : Nat → Option AFn) (Γ : Specs)

/-- A deferred call; what is left of the panic under way. -/
def callD (e : Ev) (f : Nat) (args : List Value) (m : Option Value) (H : AHeap) : Option (Option Value × AHeap) :=
  match T f with
  | none => none
  | some fn =>
    match e.codeD fn.code { ts := Tmps.enter fn.ntmps args, ds := [], H } (m.map fun v => (v, false)) with
    | some (.normal, s, m) | some (.jump .ret, s, m) =>
      match s.ds, resV s.ts s.H fn.results with
      | [], some _ =>
        match m with
        | none => some (none, s.H)
        | some (_, true) => some (none, s.H)
        | some (v, false) => some (some v, s.H)
      | _, _ => none
    | _ => none

/-- A frame on its way out. -/
def leave (e : Ev) (fn : AFn) (ts : Tmps) : List Deferred → Option Value → AHeap → Option (AE × AHeap)
  | [], none, H =>
    match resV ts H fn.results with
    | some v => some (.ret v, H)
    | none => none
  | [], some v, H => some (.panic v, H)
  | d :: ds, m, H =>
    match d.target with
    | .collected r =>
      match H.get r with
      | some (.defd (some [])) => leave e fn ts ds m (H.set r (.defd none))
      | _ => none
    | .fn (.func f) cap =>
      match callD T e f (d.args.toList ++ cap.toList) m H with
      | some (m, H) => leave e fn ts ds m H
      | none => none
    | _ => none

def stepCall (e : Ev) (f : Nat) (args : List Value) (H : AHeap) : Option (AE × AHeap) :=
  match Γ f args H with
  | some r => some r
  | none =>
    match T f with
    | none => none
    | some fn =>
      match e.code none fn.code { ts := Tmps.enter fn.ntmps args, ds := [], H } with
      | some (.normal, s) | some (.jump .ret, s) => leave T e fn s.ts s.ds none s.H
      | some (.panic v, s) => leave T e fn s.ts s.ds (some v) s.H
      | _ => none

def stepEv (e : Ev) : Ev where
  code := stepCode draw e
  scope := stepScope e
  loop := stepLoop e
  call := stepCall T Γ e
  codeD := stepCodeD e

def evAt : Nat → Ev
  | 0 => Ev.none
  | n + 1 => stepEv draw T Γ (evAt n)

section
variable (P : Program)

def cRes : ResultVar → Option IRes
  | .tmp t => some (.tmp t)
  | .cell a t =>
    match tagg P t with
    | some true => (tsize P t).map (.cellN a ·)
    | some false => some (.cell1 a)
    | none => none

/-- A function of the program as a function of the abstract machine. -/
def aFn (f : Nat) : Option AFn := do
  let fn ← P.funcs[f]?
  let c ← fn.body
  if fn.name == "runtime.NumGoroutine" then none else
  let code ← cCode P c
  let results ← fn.results.toList.mapM (cRes P)
  pure { code, ntmps := fn.ntmps, results }
end

end Go.Abs
