/-
  ABS, part C: what each operation does to an abstract heap. (Own work.)
-/
import Derived.Test.YtohipgnacknkgabGreatHgB
set_option linter.unusedSimpArgs false
set_option linter.unusedVariables false
namespace Go.Abs
open Go

inductive AR where
  | val (v : Value)
  | skip
  | panic (v : Value)
  | enter (f : FuncId) (args : List Value)
  | round (l : Nat) (args : List Value)
  | defer (d : Deferred)
  | recover

def aev (ts : Tmps) : Operand → Option Value
  | .tmp t => ts.get t
  | .const v => some v
  | .func f => some (.func (.func f) #[] #[])
  | .global _ => none

def vcells : Value → List Value
  | .agg cs => cs.toList
  | v => [v]

def mem : Nat := 140737488355328

def AHeap.row (H : AHeap) (a : Addr) (n : Nat) : Option (List Value) :=
  match H.get a.block with
  | some (.cells cs _ _) => if a.off + n ≤ cs.length then some ((cs.drop a.off).take n) else none
  | _ => none

def AHeap.cell (H : AHeap) (a : Addr) : Option Value :=
  match H.get a.block with
  | some (.cells cs _ _) => cs[a.off]?
  | _ => none

def setRow (cs : List Value) (off : Nat) : List Value → List Value
  | [] => cs
  | v :: vs => setRow (cs.set off v) (off + 1) vs

def AHeap.store (H : AHeap) (a : Addr) (vs : List Value) : Option AHeap :=
  if vs = [] then some H else
  match H.get a.block with
  | some (.cells cs false sz) =>
    if a.off + vs.length ≤ cs.length && vs.all (·.oneCell') then some (H.set a.block (.cells (setRow cs a.off vs) false sz)) else none
  | _ => none

def fillL (cells : List Value) : List (Nat × Nat × Value) → Option (List Value)
  | [] => some cells
  | (off, size, v) :: rest =>
    if (vcells v).length = size ∧ off + size ≤ cells.length then fillL (setRow cells off (vcells v)) rest else none

def ibin (op : BinOp) (k : IntKind) (x y : Int) : Option Value :=
  match op with
  | .add => some (.int k (k.wrap (x + y)))
  | .sub => some (.int k (k.wrap (x - y)))
  | .mul => some (.int k (k.wrap (x * y)))
  | .quo => if y = 0 then none else some (.int k (k.wrap (x.tdiv y)))
  | .rem => if y = 0 then none else some (.int k (x.tmod y))
  | .and => some (.int k (k.wrap (BitVec.ofInt k.bits x &&& BitVec.ofInt k.bits y).toNat))
  | .or => some (.int k (k.wrap (BitVec.ofInt k.bits x ||| BitVec.ofInt k.bits y).toNat))
  | .xor => some (.int k (k.wrap (BitVec.ofInt k.bits x ^^^ BitVec.ofInt k.bits y).toNat))
  | .andNot => some (.int k (k.wrap (BitVec.ofInt k.bits x &&& ~~~ BitVec.ofInt k.bits y).toNat))
  | .eql => some (.bool (x == y))
  | .neq => some (.bool (x != y))
  | .lss => some (.bool (x < y))
  | .leq => some (.bool (x ≤ y))
  | .gtr => some (.bool (x > y))
  | .geq => some (.bool (x ≥ y))
  | _ => none

def ishift (op : BinOp) (k : IntKind) (x y : Int) : Option Value :=
  if y < 0 then none else
  let n := min y.toNat k.bits
  match op with
  | .shl => some (.int k (k.wrap (x * 2 ^ n)))
  | .shr => some (.int k (x.fdiv (2 ^ n)))
  | _ => none

def sbin (op : BinOp) (x y : ByteArray) : Option Value :=
  let eq := x.data.toList == y.data.toList
  match op with
  | .add => if x.size + y.size ≤ mem then some (.string (x ++ y)) else none
  | .eql => some (.bool eq)
  | .neq => some (.bool !eq)
  | _ => none

def partL (agg : Bool) (cs : List Value) (off size : Nat) : Option Value :=
  if agg then some (.agg ((cs.drop off).take size).toArray) else cs[off]?

mutual
def aEq : ETy → Value → Value → Option Bool
  | .int, .int k a, .int k' b => if k = k' then some (a == b) else none
  | .str, .string a, .string b => some (a == b)
  | .bool, .bool a, .bool b => some (a == b)
  | .nilP, .pointer none, .pointer b => some b.isNone
  | .nilP, .pointer (some _), .pointer none => some false
  | .nilS, .slice none _ _, .slice b _ _ => some b.isNone
  | .nilS, .slice (some _) _ _, .slice none _ _ => some false
  | .nilM, .map none, .map b => some b.isNone
  | .nilM, .map (some _), .map none => some false
  | .nilF, .nilFunc, .nilFunc => some true
  | .nilF, .nilFunc, .func _ _ _ => some false
  | .nilF, .func _ _ _, .nilFunc => some false
  | .nilI, .nilIface, .nilIface => some true
  | .nilI, .nilIface, .iface _ _ => some false
  | .nilI, .iface _ _, .nilIface => some false
  | .struct fs, .agg xs, .agg ys => aEqF fs xs.toList ys.toList
  | .arr n size e, .agg xs, .agg ys => aEqA n size e xs.toList ys.toList 0
  | _, _, _ => none
def aEqF : List (Nat × Nat × ETy) → List Value → List Value → Option Bool
  | [], _, _ => some true
  | (off, size, e) :: r, xs, ys =>
    match partL (isAggE e) xs off size, partL (isAggE e) ys off size with
    | some x, some y =>
      match aEq e x y with
      | some true => aEqF r xs ys
      | some false => some false
      | none => none
    | _, _ => none
def aEqA : Nat → Nat → ETy → List Value → List Value → Nat → Option Bool
  | 0, _, _, _, _, _ => some true
  | n + 1, size, e, xs, ys, i =>
    match partL (isAggE e) xs (i * size) size, partL (isAggE e) ys (i * size) size with
    | some x, some y =>
      match aEq e x y with
      | some true => aEqA n size e xs ys (i + 1)
      | some false => some false
      | none => none
    | _, _ => none
end

mutual
/-- 'aEq', to a depth: what the kernel works out. -/
def aEqK : Nat → ETy → Value → Value → Option Bool
  | 0, _, _, _ => none
  | f + 1, e, x, y =>
    match e, x, y with
    | .int, .int k a, .int k' b => if k = k' then some (a == b) else none
    | .str, .string a, .string b => some (a == b)
    | .bool, .bool a, .bool b => some (a == b)
    | .nilP, .pointer none, .pointer b => some b.isNone
    | .nilP, .pointer (some _), .pointer none => some false
    | .nilS, .slice none _ _, .slice b _ _ => some b.isNone
    | .nilS, .slice (some _) _ _, .slice none _ _ => some false
    | .nilM, .map none, .map b => some b.isNone
    | .nilM, .map (some _), .map none => some false
    | .nilF, .nilFunc, .nilFunc => some true
    | .nilF, .nilFunc, .func _ _ _ => some false
    | .nilF, .func _ _ _, .nilFunc => some false
    | .nilI, .nilIface, .nilIface => some true
    | .nilI, .nilIface, .iface _ _ => some false
    | .nilI, .iface _ _, .nilIface => some false
    | .struct fs, .agg xs, .agg ys => aEqFK f fs xs.toList ys.toList
    | .arr n size e, .agg xs, .agg ys => aEqAK f n size e xs.toList ys.toList 0
    | _, _, _ => none
def aEqFK : Nat → List (Nat × Nat × ETy) → List Value → List Value → Option Bool
  | 0, _, _, _ => none
  | _ + 1, [], _, _ => some true
  | f + 1, (off, size, e) :: r, xs, ys =>
    match partL (isAggE e) xs off size, partL (isAggE e) ys off size with
    | some x, some y =>
      match aEqK f e x y with
      | some true => aEqFK f r xs ys
      | some false => some false
      | none => none
    | _, _ => none
def aEqAK : Nat → Nat → Nat → ETy → List Value → List Value → Nat → Option Bool
  | 0, _, _, _, _, _, _ => none
  | _ + 1, 0, _, _, _, _, _ => some true
  | f + 1, n + 1, size, e, xs, ys, i =>
    match partL (isAggE e) xs (i * size) size, partL (isAggE e) ys (i * size) size with
    | some x, some y =>
      match aEqK f e x y with
      | some true => aEqAK f n size e xs ys (i + 1)
      | some false => some false
      | none => none
    | _, _ => none
end

theorem aEqK_ok : ∀ (f : Nat), (∀ e x y b, aEqK f e x y = some b → aEq e x y = some b) ∧ (∀ l xs ys b, aEqFK f l xs ys = some b → aEqF l xs ys = some b) ∧
    (∀ n size e xs ys i b, aEqAK f n size e xs ys i = some b → aEqA n size e xs ys i = some b)
  | 0 => ⟨fun _ _ _ _ h => by simp [aEqK] at h, fun _ _ _ _ h => by simp [aEqFK] at h, fun _ _ _ _ _ _ _ h => by simp [aEqAK] at h⟩
  | f + 1 => by
    obtain ⟨h1, h2, h3⟩ := aEqK_ok f
    refine ⟨fun e x y b h => ?_, fun l xs ys b h => ?_, fun n size e xs ys i b h => ?_⟩
    · simp only [aEqK] at h
      split at h <;> first | (simp only [aEq]; exact h) | (simp only [aEq]; exact h2 _ _ _ _ h) | (simp only [aEq]; exact h3 _ _ _ _ _ _ _ h) | cases h
    · cases l with
      | nil => simp only [aEqFK] at h; simp only [aEqF]; exact h
      | cons a r =>
        obtain ⟨off, size, e⟩ := a
        simp only [aEqFK] at h
        split at h
        · rename_i x y hx hy
          simp only [aEqF, hx, hy]
          cases he : aEqK f e x y with
          | none => simp [he] at h
          | some c =>
            rw [h1 _ _ _ _ he]
            rw [he] at h
            cases c
            · exact h
            · exact h2 _ _ _ _ h
        · cases h
    · cases n with
      | zero => simp only [aEqAK] at h; simp only [aEqA]; exact h
      | succ n =>
        simp only [aEqAK] at h
        split at h
        · rename_i x y hx hy
          simp only [aEqA, hx, hy]
          cases he : aEqK f e x y with
          | none => simp [he] at h
          | some c =>
            rw [h1 _ _ _ _ he]
            rw [he] at h
            cases c
            · exact h
            · exact h3 _ _ _ _ _ _ _ h
        · cases h

def vbin (op : BinOp) (e : ETy) (x y : Value) : Option Value :=
  match op, x, y with
  | .shl, .int k a, .int _ b | .shr, .int k a, .int _ b => ishift op k a b
  | _, .int k a, .int k' b => if k = k' then ibin op k a b else none
  | _, .float _ _, _ | _, .complex _ _ _, _ => none
  | _, .string a, .string b => sbin op a b
  | .eql, x, y => (aEqK 4000 e x y).map (.bool ·)
  | .neq, x, y => (aEqK 4000 e x y).map (fun b => .bool (!b))
  | _, _, _ => none

def vun (op : UnOp) (x : Value) : Option Value :=
  match op, x with
  | .neg, .int k n => some (.int k (k.wrap (0 - n)))
  | .xor, .int k n => ibin .xor k (if k.signed then -1 else k.max) n
  | .not, .bool b => some (.bool !b)
  | _, _ => none

def intOf : Value → Option Int
  | .int _ n => some n
  | _ => none

/-- A slice's bound: at most 'y'. -/
def bound1 (v : Option Value) (dflt y : Nat) : Option Nat :=
  match v with
  | none => some dflt
  | some (.int _ i) => if 0 ≤ i ∧ i ≤ y then some i.toNat else none
  | some _ => none

/-- The three bounds of a slice expression. -/
def aBounds (len cap : Nat) (lo hi mx : Option Value) : Option (Nat × Nat × Nat) :=
  match bound1 mx cap cap with
  | some m =>
    match bound1 hi len m with
    | some h =>
      match bound1 lo 0 h with
      | some l => some (l, h, m)
      | none => none
    | none => none
  | none => none

def byteVals (s : ByteArray) : List Value := s.data.toList.map fun b => .int .u8 b.toNat

def bytesOf : List Value → Option (List UInt8)
  | [] => some []
  | .int .u8 n :: r => (bytesOf r).map (UInt8.ofNat n.toNat :: ·)
  | _ :: _ => none

/-- The cells that are appended, how many elements. -/
def AHeap.source (H : AHeap) (size : Nat) (x : Value) : Option (Nat × List Value) :=
  match x with
  | .slice none 0 _ => some (0, [])
  | .slice (some a) n _ => if n = 0 then some (0, []) else (H.row a (n * size)).map (n, ·)
  | .string s => if size = 1 then some (s.size, byteVals s) else none
  | _ => none

def aAppend (H : AHeap) (size bytes : Nat) (s : Value) (n : Nat) (new : List Value) : Option (Value × AHeap) :=
  match s with
  | .slice none 0 0 =>
    if n = 0 then some (s, H) else
    if n * bytes ≤ mem then some (.slice (some ⟨H.size, 0, none⟩) n openCap, H.push (.cells new false size)) else none
  | .slice (some a) l c =>
    if n = 0 then some (s, H) else
    if c = openCap then
      match H.get a.block with
      | some (.cells cs false sz) =>
        if sz = size ∧ 0 < l ∧ a.off + l * size = cs.length ∧ (l + n) * bytes ≤ mem ∧ new.all (·.oneCell') then
          some (.slice (some ⟨H.size, 0, none⟩) (l + n) openCap, (H.set a.block .dead).push (.cells (cs.drop a.off ++ new) false size))
        else if l = 0 ∧ n * bytes ≤ mem ∧ sz = size ∧ a.off = cs.length ∧ new.all (·.oneCell') then
          some (.slice (some ⟨H.size, 0, none⟩) n openCap, (H.set a.block .dead).push (.cells new false size))
        else none
      | _ => none
    else if l + n ≤ c then
      match H.store (a.add (l * size)) new with
      | some H' => some (.slice (some a) (l + n) c, H')
      | none => none
    else if (l + n) * bytes ≤ mem then
      match H.row a (l * size) with
      | some old => some (.slice (some ⟨H.size, 0, none⟩) (l + n) openCap, H.push (.cells (old ++ new) false size))
      | none => none
    else none
  | _ => none

def keyEq : Nat → Value → Value → Option Bool
  | 0, .int k a, .int k' b => if k = k' then some (a == b) else none
  | 1, .string a, .string b => some (a == b)
  | 2, .bool a, .bool b => some (a == b)
  | _, _, _ => none

def findK (kk : Nat) (k : Value) : List (Value × Value × Nat) → Nat → Option (Option (Nat × Value))
  | [], _ => some none
  | (k', v, _) :: r, i =>
    match keyEq kk k k' with
    | some true => some (some (i, v))
    | some false => findK kk k r (i + 1)
    | none => none

def keyIs : Nat → Value → Bool
  | 0, .int _ _ => true
  | 1, .string _ => true
  | 2, .bool _ => true
  | _, _ => false

def evs (ev : Operand → Option Value) : List Operand → Option (List Value)
  | [] => some []
  | x :: xs =>
    match ev x, evs ev xs with
    | some v, some vs => some (v :: vs)
    | _, _ => none

def evParts (ev : Operand → Option Value) : List (Nat × Nat × Operand) → Option (List (Nat × Nat × Value))
  | [] => some []
  | (o, s, x) :: xs =>
    match ev x, evParts ev xs with
    | some v, some vs => some ((o, s, v) :: vs)
    | _, _ => none

def evo (ev : Operand → Option Value) : Option Operand → Option (Option Value)
  | none => some none
  | some x => (ev x).map some

def minmax (gt : Bool) : Value → List Value → Option Value
  | x, [] => some x
  | .int k x, .int _ y :: r => minmax gt (.int k (if (if gt then y > x else y < x) then y else x)) r
  | _, _ => none

def val (v : Value) (H : AHeap) : Option (AR × AHeap) := some (.val v, H)

def aop (io : IOp) (ev : Operand → Option Value) (H : AHeap) : Option (AR × AHeap) :=
  match io with
  | .mov x => do val (← ev x) H
  | .pick c a b =>
    match ev c with
    | some (.bool true) => do val (← ev a) H
    | some (.bool false) => do val (← ev b) H
    | _ => none
  | .alloc zero => val (.pointer (some ⟨H.size, 0, none⟩)) (H.push (.cells zero false 0))
  | .box x => do
    let v ← ev x
    val (.pointer (some ⟨H.size, 0, none⟩)) (H.push (.cells (vcells v) false 0))
  | .build zero parts => do
    let ps ← evParts ev parts
    let cs ← fillL zero ps
    val (.agg cs.toArray) H
  | .buildSlice size cells len parts => do
    let ps ← evParts ev parts
    let cs ← fillL cells ps
    val (.slice (some ⟨H.size, 0, none⟩) len len) (H.push (.cells cs false size))
  | .load1 x =>
    match ev x with
    | some (.pointer (some a)) => do val (← H.cell a) H
    | _ => none
  | .loadN n x =>
    match ev x with
    | some (.pointer (some a)) => do val (.agg (← H.row a n).toArray) H
    | _ => none
  | .store n x y =>
    match ev x, ev y with
    | some (.pointer (some a)), some v => if (vcells v).length = n then do some (.skip, ← H.store a (vcells v)) else none
    | _, _ => none
  | .nilCheck x =>
    match ev x with
    | some (.pointer (some a)) => val (.pointer (some a)) H
    | some (.func (.func f) a b) => val (.func (.func f) a b) H
    | some (.func (.yield f) a b) => val (.func (.yield f) a b) H
    | some (.iface t v) => val (.iface t v) H
    | _ => none
  | .bin op e x y =>
    match ev x, ev y with
    | some a, some b => do val (← vbin op e a b) H
    | _, _ => none
  | .un op x => do val (← vun op (← ev x)) H
  | .convI k x =>
    match ev x with
    | some (.int _ n) => val (.int k (k.wrap n)) H
    | _ => none
  | .convS x =>
    match ev x with
    | some (.string s) => val (.string s) H
    | _ => none
  | .convSB x =>
    match ev x with
    | some (.string s) => if s.size ≤ mem then val (.slice (some ⟨H.size, 0, none⟩) s.size openCap) (H.push (.cells (byteVals s) false 1)) else none
    | _ => none
  | .convBS x =>
    match ev x with
    | some (.slice none _ _) => val (.string .empty) H
    | some (.slice (some a) n _) =>
      if n = 0 then val (.string .empty) H else
      match H.row a n with
      | some cs => do val (.string ⟨(← bytesOf cs).toArray⟩) H
      | none => none
    | _ => none
  | .mkIface t x => do val (.iface t (← ev x)) H
  | .mkFunc f first captured => do val (.func (.func f) (← evs ev first).toArray (← evs ev captured).toArray) H
  | .mkMap => val (.map (some H.size)) (H.push (.map [] 0))
  | .mkSlice size zero bytes l c =>
    match ev l, ev c with
    | some (.int _ l), some (.int _ c) =>
      if 0 ≤ l ∧ l ≤ c ∧ bytes * c ≤ 281474976710656 then
        val (.slice (some ⟨H.size, 0, none⟩) l.toNat c.toNat) (H.push (.cells ((List.range (c.toNat * size)).map fun i => zero.getD (i % size) .nilFunc) false size))
      else none
    | _, _ => none
  | .slice size x lo hi mx =>
    match ev x, evo ev lo, evo ev hi, evo ev mx with
    | some (.slice none len cap), some lo, some hi, some mx =>
      match aBounds len cap lo hi mx with
      | some (l, h, m) => val (.slice none (h - l) (m - l)) H
      | none => none
    | some (.slice (some a) len cap), some lo, some hi, some mx =>
      if cap = openCap then
        match aBounds len len lo hi mx, H.get a.block with
        | some (l, h, m), some (.cells _ _ sz) =>
          if sz = size then
            match mx with
            | none => if len = 0 then val (.slice (some a) 0 openCap) H else val (.slice (some (a.add (l * size))) (h - l) openCap) H
            | some _ => if len = 0 ∨ openCap ≤ m then none else val (.slice (some (if m = l then a else a.add (l * size))) (h - l) (m - l)) H
          else none
        | _, _ => none
      else
        match aBounds len cap lo hi mx with
        | some (l, h, m) => val (.slice (some (if m = l then a else a.add (l * size))) (h - l) (m - l)) H
        | none => none
    | _, _, _, _ => none
  | .sliceS x lo hi =>
    match ev x, evo ev lo, evo ev hi with
    | some (.string s), some lo, some hi =>
      match aBounds s.size s.size lo hi none with
      | some (l, h, _) => val (.string (s.extract l h)) H
      | none => none
    | _, _, _ => none
  | .sliceA n size x lo hi mx =>
    match ev x, evo ev lo, evo ev hi, evo ev mx with
    | some (.pointer (some a)), some lo, some hi, some none =>
      match aBounds n n lo hi none with
      | some (l, h, m) => val (.slice (some (if m = l then a else a.add (l * size))) (h - l) (m - l)) H
      | none => none
    | _, _, _, _ => none
  | .fieldAddr off x =>
    match ev x with
    | some (.pointer (some a)) => val (.pointer (some (a.add off))) H
    | _ => none
  | .field1 off x =>
    match ev x with
    | some (.agg cs) => do val (← cs.toList[off]?) H
    | _ => none
  | .fieldN off n x =>
    match ev x with
    | some (.agg cs) => val (.agg ((cs.toList.drop off).take n).toArray) H
    | _ => none
  | .idxAddr size x i =>
    match ev x, ev i with
    | some (.slice (some a) len _), some (.int _ i) => if 0 ≤ i ∧ i < len then val (.pointer (some (a.add (i.toNat * size)))) H else none
    | _, _ => none
  | .idxAddrA n size x i =>
    match ev x, ev i with
    | some (.pointer (some a)), some (.int _ i) => if 0 ≤ i ∧ i < n then val (.pointer (some (a.add (i.toNat * size)))) H else none
    | _, _ => none
  | .idxS x i =>
    match ev x, ev i with
    | some (.string s), some (.int _ i) =>
      if 0 ≤ i then
        match s.data.toList[i.toNat]? with
        | some b => val (.int .u8 b.toNat) H
        | none => none
      else none
    | _, _ => none
  | .idxA1 n size x i =>
    match ev x, ev i with
    | some (.agg cs), some (.int _ i) => if 0 ≤ i ∧ i < n then do val (← cs.toList[i.toNat * size]?) H else none
    | _, _ => none
  | .idxAN n size x i =>
    match ev x, ev i with
    | some (.agg cs), some (.int _ i) => if 0 ≤ i ∧ i < n then val (.agg ((cs.toList.drop (i.toNat * size)).take size).toArray) H else none
    | _, _ => none
  | .lookup kk zero m k ok =>
    match ev m, ev k with
    | some (.map r), some k =>
      match (match r with | none => some [] | some b => match H.get b with | some (.map es _) => some es | _ => none) with
      | some es =>
        match (if keyIs kk k then findK kk k es 0 else none) with
        | some (some (_, v)) => val (if ok then .tuple #[v, .bool true] else v) H
        | some none => val (if ok then .tuple #[zero, .bool false] else zero) H
        | none => none
      | none => none
    | _, _ => none
  | .mapSet kk m k v =>
    match ev m, ev k, ev v with
    | some (.map (some b)), some k, some v =>
      match H.get b with
      | some (.map es clock) =>
        match (if keyIs kk k then findK kk k es 0 else none) with
        | some (some (i, _)) => some (.skip, H.set b (.map (es.modify i fun e => (k, v, e.2.2)) clock))
        | some none => some (.skip, H.set b (.map (es ++ [(k, v, clock)]) (clock + 1)))
        | none => none
      | _ => none
    | _, _, _ => none
  | .mapDel kk m k =>
    match ev m, ev k with
    | some (.map none), some k => if keyIs kk k then val (.tuple #[]) H else none
    | some (.map (some b)), some k =>
      match H.get b with
      | some (.map es clock) =>
        match (if keyIs kk k then findK kk k es 0 else none) with
        | some (some (i, _)) => val (.tuple #[]) (H.set b (.map (es.eraseIdx i) clock))
        | some none => val (.tuple #[]) H
        | none => none
      | _ => none
    | _, _ => none
  | .rangeM m =>
    match ev m with
    | some (.map none) => val (.pointer (some ⟨H.size, 0, none⟩)) (H.push (.miter none 0 [] 0))
    | some (.map (some b)) =>
      match H.get b with
      | some (.map _ clock) => val (.pointer (some ⟨H.size, 0, none⟩)) (H.push (.miter (some b) clock [] clock))
      | _ => none
    | _ => none
  | .rangeS x =>
    match ev x with
    | some (.string s) => val (.pointer (some ⟨H.size, 0, none⟩)) (H.push (.siter s 0))
    | _ => none
  | .next x isString =>
    match ev x with
    | some (.pointer (some ⟨b, 0, none⟩)) =>
      match H.get b, isString with
      | some (.siter s pos), true =>
        if pos < s.size then
          let (c, width) := Utf8.decode s pos
          val (.tuple #[.bool true, goInt pos, .int .i32 c]) (H.set b (.siter s (pos + width)))
        else val (.tuple #[.bool false]) (H.set b .dead)
      | some (.miter none _ _ _), false => val (.tuple #[.bool false]) (H.set b .dead)
      | some (.miter (some m) since seen last), false =>
        match H.get m with
        | some (.map es clock) =>
          if !seen.isEmpty && !es.isEmpty && es.all (fun e => decide (e.2.2 ≥ last)) then none else
          let left := es.filter fun e => !seen.contains e.2.2
          let old := left.filter fun e => decide (e.2.2 < since)
          let new := left.filter fun e => decide (e.2.2 ≥ since)
          match old, new with
          | [], [] => val (.tuple #[.bool false]) (H.set b .dead)
          | [e], [] => val (.tuple #[.bool true, e.1, e.2.1]) (H.set b (.miter (some m) since (seen ++ [e.2.2]) clock))
          | _, _ => none
        | _ => none
      | _, _ => none
    | _ => none
  | .entry x =>
    match ev x with
    | some (.pointer (some ⟨b, 0, none⟩)) =>
      match H.get b with
      | some (.miter (some m) _ seen stepped) =>
        match seen.getLast?, H.get m with
        | some stamp, some (.map es clock) =>
          if clock = stepped then
            match es.find? (fun e => e.2.2 == stamp) with
            | some e => val (.tuple #[e.1, e.2.1]) H
            | none => none
          else none
        | _, _ => none
      | _ => none
    | _ => none
  | .typeAssert t zero x ok =>
    match ev x with
    | some (.iface u v) =>
      if u = t then val (if ok then .tuple #[v, .bool true] else v) H
      else if ok then val (.tuple #[zero, .bool false]) H else none
    | some .nilIface => if ok then val (.tuple #[zero, .bool false]) H else none
    | _ => none
  | .extract x i =>
    match ev x with
    | some (.tuple vs) => do val (← vs.toList[i]?) H
    | _ => none
  | .call f args =>
    match ev f, evs ev args with
    | some (.func (.func g) first captured), some vs => some (.enter g (first.toList ++ vs ++ captured.toList), H)
    | some (.func (.yield l) first captured), some vs => if first.size = 0 ∧ captured.size = 0 then some (.round l vs, H) else none
    | _, _ => none
  | .len kk x =>
    match kk, ev x with
    | 0, some (.string s) => val (goInt s.size) H
    | 1, some (.slice _ n _) => val (goInt n) H
    | 2, some (.map none) => val (goInt 0) H
    | 2, some (.map (some b)) =>
      match H.get b with
      | some (.map es _) => val (goInt es.length) H
      | _ => none
    | _, _ => none
  | .cap x =>
    match ev x with
    | some (.slice _ _ c) => if c = openCap then none else val (goInt c) H
    | _ => none
  | .append size bytes s x =>
    match ev s, ev x with
    | some s, some x =>
      match H.source size x with
      | some (n, new) =>
        match aAppend H size bytes s n new with
        | some (v, H') => val v H'
        | none => none
      | none => none
    | _, _ => none
  | .appendZ size bytes zero s x =>
    match ev s, ev x with
    | some s, some (.int _ n) =>
      if 0 ≤ n ∧ n * bytes ≤ mem then
        match aAppend H size bytes s n.toNat ((List.range (n.toNat * size)).map fun i => zero.getD (i % size) .nilFunc) with
        | some (v, H') => val v H'
        | none => none
      else none
    | _, _ => none
  | .copy size d s =>
    match ev d, ev s with
    | some (.slice b dl _), some s =>
      match H.source size s with
      | some (n, cs) =>
        let m := Nat.min n dl
        match b with
        | none => val (goInt m) H
        | some a =>
          match H.store a (cs.take (m * size)) with
          | some H' => val (goInt m) H'
          | none => none
      | none => none
    | _, _ => none
  | .minI xs =>
    match evs ev xs with
    | some (.int k x :: r) => do val (← minmax false (.int k x) r) H
    | _ => none
  | .maxI xs =>
    match evs ev xs with
    | some (.int k x :: r) => do val (← minmax true (.int k x) r) H
    | _ => none
  | .recover => some (.recover, H)
  | .defer f args =>
    match ev f, evs ev args with
    | some (.func (.func g) first captured), some vs => some (.defer { target := .fn (.func g) captured, args := first ++ vs.toArray }, H)
    | _, _ => none
  | .panic x =>
    match ev x with
    | some (.iface t v) => some (.panic (.iface t v), H)
    | _ => none

end Go.Abs
