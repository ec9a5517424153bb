/-
  ABS, part Z: the operations again, cut so that the kernel works them out with little. (Own work; made by a program of mine out of part C.)
-/
import Derived.Test.YtohipgnacknkgabGreatHgN
set_option linter.unusedSimpArgs false
set_option linter.unusedVariables false
namespace Go.Abs
open Go

def vInt (op : BinOp) (k : IntKind) (a : Int) : Value → Option Value
  | .int k' b => bif (op == .shl || op == .shr) then ishift op k a b else bif k == k' then ibin op k a b else none
  | _ => none

def vStr (op : BinOp) (a : ByteArray) : Value → Option Value
  | .string b => sbin op a b
  | _ => none

def vEq (op : BinOp) (e : ETy) (x y : Value) : Option Value :=
  bif op == .eql then (aEqK 4000 e x y).map (.bool ·)
  else bif op == .neq then (aEqK 4000 e x y).map (fun b => .bool (!b))
  else none

/-- 'vbin', by its first operand. -/
def vbinK (op : BinOp) (e : ETy) (x y : Value) : Option Value :=
  match x with
  | .int k a =>
    match y with
    | .int _ _ => vInt op k a y
    | _ => vEq op e x y
  | .string a =>
    match y with
    | .string _ => vStr op a y
    | _ => vEq op e x y
  | .float _ _ => none
  | .complex _ _ _ => none
  | _ => vEq op e x y

theorem vInt_eq (op : BinOp) (e : ETy) (k : IntKind) (a : Int) (k' : IntKind) (b : Int) : vInt op k a (.int k' b) = vbin op e (.int k a) (.int k' b) := by
  by_cases h : k = k'
  · have h1 : (k == k') = true := by simpa using h
    cases op <;> simp only [vInt, vbin, h1, if_pos h, cond_true] <;> rfl
  · have h1 : (k == k') = false := by simpa using h
    cases op <;> simp only [vInt, vbin, h1, if_neg h, cond_false] <;> rfl

theorem vbinK_eq (op : BinOp) (e : ETy) (x y : Value) : vbinK op e x y = vbin op e x y := by
  cases x <;> cases y <;> first
    | exact vInt_eq op e _ _ _ _
    | (cases op <;> rfl)

def kMov (x : Operand) (ev : Operand → Option Value) (H : AHeap) : Option (AR × AHeap) := do val (← ev x) H

def kPick (c : Operand) (a : Operand) (b : Operand) (ev : Operand → Option Value) (H : AHeap) : Option (AR × AHeap) :=
    match ev c with
    | some (.bool true) => do val (← ev a) H
    | some (.bool false) => do val (← ev b) H
    | _ => none

def kAlloc (zero : List Value) (ev : Operand → Option Value) (H : AHeap) : Option (AR × AHeap) := val (.pointer (some ⟨H.size, 0, none⟩)) (H.push (.cells zero false 0))

def kBox (x : Operand) (ev : Operand → Option Value) (H : AHeap) : Option (AR × AHeap) := do
    let v ← ev x
    val (.pointer (some ⟨H.size, 0, none⟩)) (H.push (.cells (vcells v) false 0))

def kBuild (zero : List Value) (parts : List (Nat × Nat × Operand)) (ev : Operand → Option Value) (H : AHeap) : Option (AR × AHeap) := do
    let ps ← evParts ev parts
    let cs ← fillL zero ps
    val (.agg cs.toArray) H

def kBuildSlice (size : Nat) (cells : List Value) (len : Nat) (parts : List (Nat × Nat × Operand)) (ev : Operand → Option Value) (H : AHeap) : Option (AR × AHeap) := do
    let ps ← evParts ev parts
    let cs ← fillL cells ps
    val (.slice (some ⟨H.size, 0, none⟩) len len) (H.push (.cells cs false size))

def kLoad1 (x : Operand) (ev : Operand → Option Value) (H : AHeap) : Option (AR × AHeap) :=
    match ev x with
    | some (.pointer (some a)) => do val (← H.cell a) H
    | _ => none

def kLoadN (n : Nat) (x : Operand) (ev : Operand → Option Value) (H : AHeap) : Option (AR × AHeap) :=
    match ev x with
    | some (.pointer (some a)) => do val (.agg (← H.row a n).toArray) H
    | _ => none

def kStore (n : Nat) (x : Operand) (y : Operand) (ev : Operand → Option Value) (H : AHeap) : Option (AR × AHeap) :=
    match ev x, ev y with
    | some (.pointer (some a)), some v => if (vcells v).length = n then do some (.skip, ← H.store a (vcells v)) else none
    | _, _ => none

def kNilCheck (x : Operand) (ev : Operand → Option Value) (H : AHeap) : Option (AR × AHeap) :=
    match ev x with
    | some (.pointer (some a)) => val (.pointer (some a)) H
    | some (.func (.func f) a b) => val (.func (.func f) a b) H
    | some (.func (.yield f) a b) => val (.func (.yield f) a b) H
    | some (.iface t v) => val (.iface t v) H
    | _ => none

def kBin (op : BinOp) (e : ETy) (x : Operand) (y : Operand) (ev : Operand → Option Value) (H : AHeap) : Option (AR × AHeap) :=
    match ev x, ev y with
    | some a, some b => do val (← vbinK op e a b) H
    | _, _ => none

def kUn (op : UnOp) (x : Operand) (ev : Operand → Option Value) (H : AHeap) : Option (AR × AHeap) := do val (← vun op (← ev x)) H

def kConvI (k : IntKind) (x : Operand) (ev : Operand → Option Value) (H : AHeap) : Option (AR × AHeap) :=
    match ev x with
    | some (.int _ n) => val (.int k (k.wrap n)) H
    | _ => none

def kConvS (x : Operand) (ev : Operand → Option Value) (H : AHeap) : Option (AR × AHeap) :=
    match ev x with
    | some (.string s) => val (.string s) H
    | _ => none

def kConvSB (x : Operand) (ev : Operand → Option Value) (H : AHeap) : Option (AR × AHeap) :=
    match ev x with
    | some (.string s) => if s.size ≤ mem then val (.slice (some ⟨H.size, 0, none⟩) s.size openCap) (H.push (.cells (byteVals s) false 1)) else none
    | _ => none

def kConvBS (x : Operand) (ev : Operand → Option Value) (H : AHeap) : Option (AR × AHeap) :=
    match ev x with
    | some (.slice none _ _) => val (.string .empty) H
    | some (.slice (some a) n _) =>
      if n = 0 then val (.string .empty) H else
      match H.row a n with
      | some cs => do val (.string ⟨(← bytesOf cs).toArray⟩) H
      | none => none
    | _ => none

def kMkIface (t : TypeId) (x : Operand) (ev : Operand → Option Value) (H : AHeap) : Option (AR × AHeap) := do val (.iface t (← ev x)) H

def kMkFunc (f : FuncId) (first : List Operand) (captured : List Operand) (ev : Operand → Option Value) (H : AHeap) : Option (AR × AHeap) := do val (.func (.func f) (← evs ev first).toArray (← evs ev captured).toArray) H

def kMkMap  (ev : Operand → Option Value) (H : AHeap) : Option (AR × AHeap) := val (.map (some H.size)) (H.push (.map [] 0))

def kMkSlice (size : Nat) (zero : List Value) (bytes : Nat) (l : Operand) (c : Operand) (ev : Operand → Option Value) (H : AHeap) : Option (AR × AHeap) :=
    match ev l, ev c with
    | some (.int _ l), some (.int _ c) =>
      if 0 ≤ l ∧ l ≤ c ∧ bytes * c ≤ 281474976710656 then
        val (.slice (some ⟨H.size, 0, none⟩) l.toNat c.toNat) (H.push (.cells ((List.range (c.toNat * size)).map fun i => zero.getD (i % size) .nilFunc) false size))
      else none
    | _, _ => none

def kSlice (size : Nat) (x : Operand) (lo : Option Operand) (hi : Option Operand) (mx : Option Operand) (ev : Operand → Option Value) (H : AHeap) : Option (AR × AHeap) :=
    match ev x, evo ev lo, evo ev hi, evo ev mx with
    | some (.slice none len cap), some lo, some hi, some mx =>
      match aBounds len cap lo hi mx with
      | some (l, h, m) => val (.slice none (h - l) (m - l)) H
      | none => none
    | some (.slice (some a) len cap), some lo, some hi, some mx =>
      if cap = openCap then
        match aBounds len len lo hi mx, H.get a.block with
        | some (l, h, m), some (.cells _ _ sz) =>
          if sz = size then
            match mx with
            | none => if len = 0 then val (.slice (some a) 0 openCap) H else val (.slice (some (a.add (l * size))) (h - l) openCap) H
            | some _ => if len = 0 ∨ openCap ≤ m then none else val (.slice (some (if m = l then a else a.add (l * size))) (h - l) (m - l)) H
          else none
        | _, _ => none
      else
        match aBounds len cap lo hi mx with
        | some (l, h, m) => val (.slice (some (if m = l then a else a.add (l * size))) (h - l) (m - l)) H
        | none => none
    | _, _, _, _ => none

def kSliceS (x : Operand) (lo : Option Operand) (hi : Option Operand) (ev : Operand → Option Value) (H : AHeap) : Option (AR × AHeap) :=
    match ev x, evo ev lo, evo ev hi with
    | some (.string s), some lo, some hi =>
      match aBounds s.size s.size lo hi none with
      | some (l, h, _) => val (.string (s.extract l h)) H
      | none => none
    | _, _, _ => none

def kSliceA (n : Nat) (size : Nat) (x : Operand) (lo : Option Operand) (hi : Option Operand) (mx : Option Operand) (ev : Operand → Option Value) (H : AHeap) : Option (AR × AHeap) :=
    match ev x, evo ev lo, evo ev hi, evo ev mx with
    | some (.pointer (some a)), some lo, some hi, some none =>
      match aBounds n n lo hi none with
      | some (l, h, m) => val (.slice (some (if m = l then a else a.add (l * size))) (h - l) (m - l)) H
      | none => none
    | _, _, _, _ => none

def kFieldAddr (off : Nat) (x : Operand) (ev : Operand → Option Value) (H : AHeap) : Option (AR × AHeap) :=
    match ev x with
    | some (.pointer (some a)) => val (.pointer (some (a.add off))) H
    | _ => none

def kField1 (off : Nat) (x : Operand) (ev : Operand → Option Value) (H : AHeap) : Option (AR × AHeap) :=
    match ev x with
    | some (.agg cs) => do val (← cs.toList[off]?) H
    | _ => none

def kFieldN (off : Nat) (n : Nat) (x : Operand) (ev : Operand → Option Value) (H : AHeap) : Option (AR × AHeap) :=
    match ev x with
    | some (.agg cs) => val (.agg ((cs.toList.drop off).take n).toArray) H
    | _ => none

def kIdxAddr (size : Nat) (x : Operand) (i : Operand) (ev : Operand → Option Value) (H : AHeap) : Option (AR × AHeap) :=
    match ev x, ev i with
    | some (.slice (some a) len _), some (.int _ i) => if 0 ≤ i ∧ i < len then val (.pointer (some (a.add (i.toNat * size)))) H else none
    | _, _ => none

def kIdxAddrA (n : Nat) (size : Nat) (x : Operand) (i : Operand) (ev : Operand → Option Value) (H : AHeap) : Option (AR × AHeap) :=
    match ev x, ev i with
    | some (.pointer (some a)), some (.int _ i) => if 0 ≤ i ∧ i < n then val (.pointer (some (a.add (i.toNat * size)))) H else none
    | _, _ => none

def kIdxS (x : Operand) (i : Operand) (ev : Operand → Option Value) (H : AHeap) : Option (AR × AHeap) :=
    match ev x, ev i with
    | some (.string s), some (.int _ i) =>
      if 0 ≤ i then
        match s.data.toList[i.toNat]? with
        | some b => val (.int .u8 b.toNat) H
        | none => none
      else none
    | _, _ => none

def kIdxA1 (n : Nat) (size : Nat) (x : Operand) (i : Operand) (ev : Operand → Option Value) (H : AHeap) : Option (AR × AHeap) :=
    match ev x, ev i with
    | some (.agg cs), some (.int _ i) => if 0 ≤ i ∧ i < n then do val (← cs.toList[i.toNat * size]?) H else none
    | _, _ => none

def kIdxAN (n : Nat) (size : Nat) (x : Operand) (i : Operand) (ev : Operand → Option Value) (H : AHeap) : Option (AR × AHeap) :=
    match ev x, ev i with
    | some (.agg cs), some (.int _ i) => if 0 ≤ i ∧ i < n then val (.agg ((cs.toList.drop (i.toNat * size)).take size).toArray) H else none
    | _, _ => none

def kLookup (kk : Nat) (zero : Value) (m : Operand) (k : Operand) (ok : Bool) (ev : Operand → Option Value) (H : AHeap) : Option (AR × AHeap) :=
    match ev m, ev k with
    | some (.map r), some k =>
      match (match r with | none => some [] | some b => match H.get b with | some (.map es _) => some es | _ => none) with
      | some es =>
        match (if keyIs kk k then findK kk k es 0 else none) with
        | some (some (_, v)) => val (if ok then .tuple #[v, .bool true] else v) H
        | some none => val (if ok then .tuple #[zero, .bool false] else zero) H
        | none => none
      | none => none
    | _, _ => none

def kMapSet (kk : Nat) (m : Operand) (k : Operand) (v : Operand) (ev : Operand → Option Value) (H : AHeap) : Option (AR × AHeap) :=
    match ev m, ev k, ev v with
    | some (.map (some b)), some k, some v =>
      match H.get b with
      | some (.map es clock) =>
        match (if keyIs kk k then findK kk k es 0 else none) with
        | some (some (i, _)) => some (.skip, H.set b (.map (es.modify i fun e => (k, v, e.2.2)) clock))
        | some none => some (.skip, H.set b (.map (es ++ [(k, v, clock)]) (clock + 1)))
        | none => none
      | _ => none
    | _, _, _ => none

def kMapDel (kk : Nat) (m : Operand) (k : Operand) (ev : Operand → Option Value) (H : AHeap) : Option (AR × AHeap) :=
    match ev m, ev k with
    | some (.map none), some k => if keyIs kk k then val (.tuple #[]) H else none
    | some (.map (some b)), some k =>
      match H.get b with
      | some (.map es clock) =>
        match (if keyIs kk k then findK kk k es 0 else none) with
        | some (some (i, _)) => val (.tuple #[]) (H.set b (.map (es.eraseIdx i) clock))
        | some none => val (.tuple #[]) H
        | none => none
      | _ => none
    | _, _ => none

def kRangeM (m : Operand) (ev : Operand → Option Value) (H : AHeap) : Option (AR × AHeap) :=
    match ev m with
    | some (.map none) => val (.pointer (some ⟨H.size, 0, none⟩)) (H.push (.miter none 0 [] 0))
    | some (.map (some b)) =>
      match H.get b with
      | some (.map _ clock) => val (.pointer (some ⟨H.size, 0, none⟩)) (H.push (.miter (some b) clock [] clock))
      | _ => none
    | _ => none

def kRangeS (x : Operand) (ev : Operand → Option Value) (H : AHeap) : Option (AR × AHeap) :=
    match ev x with
    | some (.string s) => val (.pointer (some ⟨H.size, 0, none⟩)) (H.push (.siter s 0))
    | _ => none

def kNext (x : Operand) (isString : Bool) (ev : Operand → Option Value) (H : AHeap) : Option (AR × AHeap) :=
    match ev x with
    | some (.pointer (some ⟨b, 0, none⟩)) =>
      match H.get b, isString with
      | some (.siter s pos), true =>
        if pos < s.size then
          let (c, width) := Utf8.decode s pos
          val (.tuple #[.bool true, goInt pos, .int .i32 c]) (H.set b (.siter s (pos + width)))
        else val (.tuple #[.bool false]) (H.set b .dead)
      | some (.miter none _ _ _), false => val (.tuple #[.bool false]) (H.set b .dead)
      | some (.miter (some m) since seen last), false =>
        match H.get m with
        | some (.map es clock) =>
          if !seen.isEmpty && !es.isEmpty && es.all (fun e => decide (e.2.2 ≥ last)) then none else
          let left := es.filter fun e => !seen.contains e.2.2
          let old := left.filter fun e => decide (e.2.2 < since)
          let new := left.filter fun e => decide (e.2.2 ≥ since)
          match old, new with
          | [], [] => val (.tuple #[.bool false]) (H.set b .dead)
          | [e], [] => val (.tuple #[.bool true, e.1, e.2.1]) (H.set b (.miter (some m) since (seen ++ [e.2.2]) clock))
          | _, _ => none
        | _ => none
      | _, _ => none
    | _ => none

def kEntry (x : Operand) (ev : Operand → Option Value) (H : AHeap) : Option (AR × AHeap) :=
    match ev x with
    | some (.pointer (some ⟨b, 0, none⟩)) =>
      match H.get b with
      | some (.miter (some m) _ seen stepped) =>
        match seen.getLast?, H.get m with
        | some stamp, some (.map es clock) =>
          if clock = stepped then
            match es.find? (fun e => e.2.2 == stamp) with
            | some e => val (.tuple #[e.1, e.2.1]) H
            | none => none
          else none
        | _, _ => none
      | _ => none
    | _ => none

def kTypeAssert (t : TypeId) (zero : Value) (x : Operand) (ok : Bool) (ev : Operand → Option Value) (H : AHeap) : Option (AR × AHeap) :=
    match ev x with
    | some (.iface u v) =>
      if u = t then val (if ok then .tuple #[v, .bool true] else v) H
      else if ok then val (.tuple #[zero, .bool false]) H else none
    | some .nilIface => if ok then val (.tuple #[zero, .bool false]) H else none
    | _ => none

def kExtract (x : Operand) (i : Nat) (ev : Operand → Option Value) (H : AHeap) : Option (AR × AHeap) :=
    match ev x with
    | some (.tuple vs) => do val (← vs.toList[i]?) H
    | _ => none

def kCall (f : Operand) (args : List Operand) (ev : Operand → Option Value) (H : AHeap) : Option (AR × AHeap) :=
    match ev f, evs ev args with
    | some (.func (.func g) first captured), some vs => some (.enter g (first.toList ++ vs ++ captured.toList), H)
    | some (.func (.yield l) first captured), some vs => if first.size = 0 ∧ captured.size = 0 then some (.round l vs, H) else none
    | _, _ => none

def kLen (kk : Nat) (x : Operand) (ev : Operand → Option Value) (H : AHeap) : Option (AR × AHeap) :=
    match kk, ev x with
    | 0, some (.string s) => val (goInt s.size) H
    | 1, some (.slice _ n _) => val (goInt n) H
    | 2, some (.map none) => val (goInt 0) H
    | 2, some (.map (some b)) =>
      match H.get b with
      | some (.map es _) => val (goInt es.length) H
      | _ => none
    | _, _ => none

def kCap (x : Operand) (ev : Operand → Option Value) (H : AHeap) : Option (AR × AHeap) :=
    match ev x with
    | some (.slice _ _ c) => if c = openCap then none else val (goInt c) H
    | _ => none

def kAppend (size : Nat) (bytes : Nat) (s : Operand) (x : Operand) (ev : Operand → Option Value) (H : AHeap) : Option (AR × AHeap) :=
    match ev s, ev x with
    | some s, some x =>
      match H.source size x with
      | some (n, new) =>
        match aAppend H size bytes s n new with
        | some (v, H') => val v H'
        | none => none
      | none => none
    | _, _ => none

def kAppendZ (size : Nat) (bytes : Nat) (zero : List Value) (s : Operand) (x : Operand) (ev : Operand → Option Value) (H : AHeap) : Option (AR × AHeap) :=
    match ev s, ev x with
    | some s, some (.int _ n) =>
      if 0 ≤ n ∧ n * bytes ≤ mem then
        match aAppend H size bytes s n.toNat ((List.range (n.toNat * size)).map fun i => zero.getD (i % size) .nilFunc) with
        | some (v, H') => val v H'
        | none => none
      else none
    | _, _ => none

def kCopy (size : Nat) (d : Operand) (s : Operand) (ev : Operand → Option Value) (H : AHeap) : Option (AR × AHeap) :=
    match ev d, ev s with
    | some (.slice b dl _), some s =>
      match H.source size s with
      | some (n, cs) =>
        let m := Nat.min n dl
        match b with
        | none => val (goInt m) H
        | some a =>
          match H.store a (cs.take (m * size)) with
          | some H' => val (goInt m) H'
          | none => none
      | none => none
    | _, _ => none

def kMinI (xs : List Operand) (ev : Operand → Option Value) (H : AHeap) : Option (AR × AHeap) :=
    match evs ev xs with
    | some (.int k x :: r) => do val (← minmax false (.int k x) r) H
    | _ => none

def kMaxI (xs : List Operand) (ev : Operand → Option Value) (H : AHeap) : Option (AR × AHeap) :=
    match evs ev xs with
    | some (.int k x :: r) => do val (← minmax true (.int k x) r) H
    | _ => none

def kRecover  (ev : Operand → Option Value) (H : AHeap) : Option (AR × AHeap) := some (.recover, H)

def kDefer (f : Operand) (args : List Operand) (ev : Operand → Option Value) (H : AHeap) : Option (AR × AHeap) :=
    match ev f, evs ev args with
    | some (.func (.func g) first captured), some vs => some (.defer { target := .fn (.func g) captured, args := first ++ vs.toArray }, H)
    | _, _ => none

def kPanic (x : Operand) (ev : Operand → Option Value) (H : AHeap) : Option (AR × AHeap) :=
    match ev x with
    | some (.iface t v) => some (.panic (.iface t v), H)
    | _ => none

/-- 'aop', by the operation. -/
def aopK (io : IOp) : (Operand → Option Value) → AHeap → Option (AR × AHeap) :=
  match io with
  | .mov x => kMov x
  | .pick c a b => kPick c a b
  | .alloc zero => kAlloc zero
  | .box x => kBox x
  | .build zero parts => kBuild zero parts
  | .buildSlice size cells len parts => kBuildSlice size cells len parts
  | .load1 x => kLoad1 x
  | .loadN n x => kLoadN n x
  | .store n x y => kStore n x y
  | .nilCheck x => kNilCheck x
  | .bin op e x y => kBin op e x y
  | .un op x => kUn op x
  | .convI k x => kConvI k x
  | .convS x => kConvS x
  | .convSB x => kConvSB x
  | .convBS x => kConvBS x
  | .mkIface t x => kMkIface t x
  | .mkFunc f first captured => kMkFunc f first captured
  | .mkMap  => kMkMap 
  | .mkSlice size zero bytes l c => kMkSlice size zero bytes l c
  | .slice size x lo hi mx => kSlice size x lo hi mx
  | .sliceS x lo hi => kSliceS x lo hi
  | .sliceA n size x lo hi mx => kSliceA n size x lo hi mx
  | .fieldAddr off x => kFieldAddr off x
  | .field1 off x => kField1 off x
  | .fieldN off n x => kFieldN off n x
  | .idxAddr size x i => kIdxAddr size x i
  | .idxAddrA n size x i => kIdxAddrA n size x i
  | .idxS x i => kIdxS x i
  | .idxA1 n size x i => kIdxA1 n size x i
  | .idxAN n size x i => kIdxAN n size x i
  | .lookup kk zero m k ok => kLookup kk zero m k ok
  | .mapSet kk m k v => kMapSet kk m k v
  | .mapDel kk m k => kMapDel kk m k
  | .rangeM m => kRangeM m
  | .rangeS x => kRangeS x
  | .next x isString => kNext x isString
  | .entry x => kEntry x
  | .typeAssert t zero x ok => kTypeAssert t zero x ok
  | .extract x i => kExtract x i
  | .call f args => kCall f args
  | .len kk x => kLen kk x
  | .cap x => kCap x
  | .append size bytes s x => kAppend size bytes s x
  | .appendZ size bytes zero s x => kAppendZ size bytes zero s x
  | .copy size d s => kCopy size d s
  | .minI xs => kMinI xs
  | .maxI xs => kMaxI xs
  | .recover  => kRecover 
  | .defer f args => kDefer f args
  | .panic x => kPanic x

theorem aopK_eq (io : IOp) (ev : Operand → Option Value) (H : AHeap) : aopK io ev H = aop io ev H := by
  cases io
  case bin op e x y =>
    simp only [aopK, kBin, aop, vbinK_eq]
    rfl
  all_goals rfl

end Go.Abs
