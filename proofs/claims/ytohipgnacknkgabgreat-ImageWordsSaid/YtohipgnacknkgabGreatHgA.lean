/-
  ABS, part A: abstract values and heaps, and how they stand for the model's. (Own work.)
-/
import Derived.RangeFuncIn
import Derived.RecoverIn
import Derived.OrdersIn
import Derived.Scope
set_option linter.unusedSimpArgs false
set_option linter.unusedVariables false
namespace Go.Abs
open Go

/-- Where an abstract block lies: in block B, from cell 'base' on, C cells; 'sz' cells an element. -/
structure Pl where
  B : Nat
  base : Nat
  C : Nat
  sz : Nat

abbrev Rho := Nat → Option Pl

/-- The capacity of a slice whose capacity is not known. -/
def openCap : Nat := 18446744073709551616

def fnr (ρ : Rho) : Fn → Fn → Prop
  | .yield l, f => ∃ p, ρ l = some p ∧ f = .yield p.B
  | .func n, f => f = .func n
  | _, _ => False

def addrr (ρ : Rho) (a : Addr) (x : Addr) : Prop := a.spot = none ∧ ∃ p, ρ a.block = some p ∧ x = ⟨p.B, p.base + a.off, none⟩

/-- A slice's address and capacity. -/
def slr (ρ : Rho) (a : Addr) (l c : Nat) (v : Value) : Prop :=
  a.spot = none ∧ ∃ p, ρ a.block = some p ∧
    ((c < openCap ∧ l ≤ c ∧ v = .slice (some ⟨p.B, p.base + a.off, none⟩) l c) ∨
     (c = openCap ∧ ∃ cap, a.off + cap * p.sz = p.C ∧ 0 < p.sz ∧ l ≤ cap ∧ v = .slice (some ⟨p.B, p.base + a.off, none⟩) l cap) ∨
     (c = openCap ∧ l = 0 ∧ ∃ x, v = .slice (some x) 0 0))

mutual
def vr (ρ : Rho) : Value → Value → Prop
  | .bool b, v => v = .bool b
  | .int k n, v => v = .int k n
  | .float k n, v => v = .float k n
  | .complex k a b, v => v = .complex k a b
  | .string s, v => v = .string s
  | .pointer none, v => v = .pointer none
  | .pointer (some a), v => ∃ x, v = .pointer (some x) ∧ addrr ρ a x
  | .slice none l c, v => v = .slice none l c
  | .slice (some a) l c, v => slr ρ a l c v
  | .map none, v => v = .map none
  | .map (some b), v => ∃ p, ρ b = some p ∧ v = .map (some p.B)
  | .chan _, _ => False
  | .func fn first captured, v => ∃ g xs ys, v = .func g xs ys ∧ fnr ρ fn g ∧ vrA ρ first xs ∧ vrA ρ captured ys
  | .nilFunc, v => v = .nilFunc
  | .iface t x, v => ∃ y, v = .iface t y ∧ vr ρ x y
  | .nilIface, v => v = .nilIface
  | .agg cs, v => ∃ ds, v = .agg ds ∧ vrA ρ cs ds
  | .tuple cs, v => ∃ ds, v = .tuple ds ∧ vrA ρ cs ds
def vrA (ρ : Rho) : Array Value → Array Value → Prop
  | ⟨l⟩, ds => vrL ρ l ds.toList
def vrL (ρ : Rho) : List Value → List Value → Prop
  | [], ds => ds = []
  | x :: xs, ds => ∃ y ys, ds = y :: ys ∧ vr ρ x y ∧ vrL ρ xs ys
end

def Rho.le (ρ ρ' : Rho) : Prop := ∀ b p, ρ b = some p → ρ' b = some p

theorem Rho.le.refl (ρ : Rho) : ρ.le ρ := fun _ _ h => h
theorem Rho.le.trans {a b c : Rho} (h : a.le b) (h' : b.le c) : a.le c := fun x p hx => h' x p (h x p hx)

theorem fnr_mono {ρ ρ' : Rho} (h : ρ.le ρ') {a b : Fn} (hr : fnr ρ a b) : fnr ρ' a b := by
  cases a <;> simp only [fnr] at * <;> try exact hr
  obtain ⟨p, hp, e⟩ := hr
  exact ⟨p, h _ _ hp, e⟩

theorem addrr_mono {ρ ρ' : Rho} (h : ρ.le ρ') {a b : Addr} (hr : addrr ρ a b) : addrr ρ' a b := by
  obtain ⟨h1, p, hp, e⟩ := hr
  exact ⟨h1, p, h _ _ hp, e⟩

theorem slr_mono {ρ ρ' : Rho} (h : ρ.le ρ') {a : Addr} {l c : Nat} {v : Value} (hr : slr ρ a l c v) : slr ρ' a l c v := by
  obtain ⟨h1, p, hp, e⟩ := hr
  exact ⟨h1, p, h _ _ hp, e⟩

mutual
theorem vr_mono {ρ ρ' : Rho} (h : ρ.le ρ') : ∀ (x y : Value), vr ρ x y → vr ρ' x y
  | .bool b, v, hr | .int k n, v, hr | .float k n, v, hr | .complex k a b, v, hr | .string s, v, hr
  | .pointer none, v, hr | .slice none l c, v, hr | .map none, v, hr | .nilFunc, v, hr | .nilIface, v, hr => by simpa only [vr] using hr
  | .pointer (some a), v, hr => by
    simp only [vr] at *
    obtain ⟨x, e, hx⟩ := hr
    exact ⟨x, e, addrr_mono h hx⟩
  | .slice (some a) l c, v, hr => by simp only [vr] at *; exact slr_mono h hr
  | .map (some b), v, hr => by
    simp only [vr] at *
    obtain ⟨p, hp, e⟩ := hr
    exact ⟨p, h _ _ hp, e⟩
  | .chan _, v, hr => by simp only [vr] at hr
  | .func fn first captured, v, hr => by
    simp only [vr] at *
    obtain ⟨g, xs, ys, e, h1, h2, h3⟩ := hr
    exact ⟨g, xs, ys, e, fnr_mono h h1, vrA_mono h _ _ h2, vrA_mono h _ _ h3⟩
  | .iface t x, v, hr => by
    simp only [vr] at *
    obtain ⟨y, e, h1⟩ := hr
    exact ⟨y, e, vr_mono h _ _ h1⟩
  | .agg cs, v, hr => by
    simp only [vr] at *
    obtain ⟨y, e, h1⟩ := hr
    exact ⟨y, e, vrA_mono h _ _ h1⟩
  | .tuple cs, v, hr => by
    simp only [vr] at *
    obtain ⟨y, e, h1⟩ := hr
    exact ⟨y, e, vrA_mono h _ _ h1⟩
theorem vrA_mono {ρ ρ' : Rho} (h : ρ.le ρ') : ∀ (x y : Array Value), vrA ρ x y → vrA ρ' x y
  | ⟨l⟩, ds, hr => by simp only [vrA] at *; exact vrL_mono h _ _ hr
theorem vrL_mono {ρ ρ' : Rho} (h : ρ.le ρ') : ∀ (x y : List Value), vrL ρ x y → vrL ρ' x y
  | [], ds, hr => by simpa only [vrL] using hr
  | x :: xs, ds, hr => by
    simp only [vrL] at *
    obtain ⟨y, ys, e, h1, h2⟩ := hr
    exact ⟨y, ys, e, vr_mono h _ _ h1, vrL_mono h _ _ h2⟩
end

/-! ### The code of the abstract machine -/

/-- How values of a type are compared. -/
inductive ETy where
  | int | str | bool
  | struct (fs : List (Nat × Nat × ETy))
  | arr (n size : Nat) (e : ETy)
  | nilP | nilS | nilM | nilF | nilI

inductive IOp where
  | mov (x : Operand)
  | pick (c a b : Operand)
  | alloc (zero : List Value)
  | box (x : Operand)
  | build (zero : List Value) (parts : List (Nat × Nat × Operand))
  | buildSlice (size : Nat) (cells : List Value) (len : Nat) (parts : List (Nat × Nat × Operand))
  | load1 (a : Operand)
  | loadN (n : Nat) (a : Operand)
  | store (n : Nat) (a x : Operand)
  | nilCheck (x : Operand)
  | bin (op : BinOp) (e : ETy) (x y : Operand)
  | un (op : UnOp) (x : Operand)
  | convI (k : IntKind) (x : Operand)
  | convS (x : Operand)
  | convSB (x : Operand)
  | convBS (x : Operand)
  | mkIface (t : TypeId) (x : Operand)
  | mkFunc (f : FuncId) (first captured : List Operand)
  | mkMap
  | mkSlice (size : Nat) (zero : List Value) (bytes : Nat) (l c : Operand)
  | slice (size : Nat) (x : Operand) (lo hi mx : Option Operand)
  | sliceS (x : Operand) (lo hi : Option Operand)
  | sliceA (n size : Nat) (x : Operand) (lo hi mx : Option Operand)
  | fieldAddr (off : Nat) (x : Operand)
  | field1 (off : Nat) (x : Operand)
  | fieldN (off n : Nat) (x : Operand)
  | idxAddr (size : Nat) (x i : Operand)
  | idxAddrA (n size : Nat) (x i : Operand)
  | idxS (x i : Operand)
  | idxA1 (n size : Nat) (x i : Operand)
  | idxAN (n size : Nat) (x i : Operand)
  | lookup (kk : Nat) (zero : Value) (m k : Operand) (ok : Bool)
  | mapSet (kk : Nat) (m k v : Operand)
  | mapDel (kk : Nat) (m k : Operand)
  | rangeM (m : Operand)
  | rangeS (x : Operand)
  | next (x : Operand) (isString : Bool)
  | entry (x : Operand)
  | typeAssert (t : TypeId) (zero : Value) (x : Operand) (ok : Bool)
  | extract (x : Operand) (i : Nat)
  | call (f : Operand) (args : List Operand)
  | len (kk : Nat) (x : Operand)
  | cap (x : Operand)
  | append (size bytes : Nat) (s x : Operand)
  | appendZ (size bytes : Nat) (zero : List Value) (s x : Operand)
  | copy (size : Nat) (d s : Operand)
  | minI (xs : List Operand)
  | maxI (xs : List Operand)
  | recover
  | defer (f : Operand) (args : List Operand)
  | panic (x : Operand)

structure IOper where
  dst : Option Nat
  op : IOp
  guard : Option (Nat × Bool)

/-- Of an operation of a region that draws: those that must come ahead of it (bits), its class (0: it reads, 1: it makes memory, 2: it acts). -/
structure IInfo where
  idx : Nat
  deps : List Nat
  anc : Nat
  cls : Nat

inductive ICode where
  | skip
  | region (ops : List IOper) (draw : Option (List IInfo))
  | seq (a b : ICode)
  | cond (c : Operand) (a b : ICode)
  | block (id : Nat) (body : ICode)
  | loop (body : ICode)
  | rangeFunc (f : Operand) (params : Array Tmp) (assign body : ICode)
  | exit (id : Nat)
  | scope (body : ICode)
  | label (l : Nat)
  | goto (l : Nat)
  | ret

inductive IJump where
  | exit (id : Nat) | goto (l : Nat) | ret

/-! ### Tables by number -/

inductive Trie (α : Type) where
  | leaf
  | node (v : Option α) (l r : Trie α)

def Trie.getF {α : Type} : Nat → Nat → Trie α → Option α
  | 0, _, _ => none
  | _ + 1, _, .leaf => none
  | _ + 1, 0, .node v _ _ => v
  | f + 1, k + 1, .node _ l r => bif Nat.beq (k % 2) 0 then getF f (k / 2) l else getF f (k / 2) r

def Trie.setF {α : Type} : Nat → Nat → α → Trie α → Trie α
  | 0, _, _, t => t
  | _ + 1, 0, a, .leaf => .node (some a) .leaf .leaf
  | _ + 1, 0, a, .node _ l r => .node (some a) l r
  | f + 1, k + 1, a, .leaf => bif Nat.beq (k % 2) 0 then .node none (setF f (k / 2) a .leaf) .leaf else .node none .leaf (setF f (k / 2) a .leaf)
  | f + 1, k + 1, a, .node v l r => bif Nat.beq (k % 2) 0 then .node v (setF f (k / 2) a l) r else .node v l (setF f (k / 2) a r)

/-- (By the tree: little work for the kernel.) -/
def Trie.get {α : Type} : Trie α → Nat → Option α
  | .leaf, _ => none
  | .node v l r, k => bif Nat.beq k (nat_lit 0) then v else bif Nat.beq (Nat.mod (Nat.sub k (nat_lit 1)) (nat_lit 2)) (nat_lit 0) then Trie.get l (Nat.div (Nat.sub k (nat_lit 1)) (nat_lit 2)) else Trie.get r (Nat.div (Nat.sub k (nat_lit 1)) (nat_lit 2))
def Trie.set {α : Type} (t : Trie α) (k : Nat) (a : α) : Trie α := Trie.setF (k + 1) k a t

theorem Trie.getF_leaf {α : Type} (f k : Nat) : Trie.getF f k (Trie.leaf : Trie α) = none := by
  cases f <;> rfl

theorem Trie.get_eq {α : Type} : ∀ (f k : Nat) (t : Trie α), k < f → t.get k = Trie.getF f k t
  | 0, _, _, h => absurd h (Nat.not_lt_zero _)
  | f + 1, k, .leaf, _ => rfl
  | f + 1, 0, .node v l r, _ => rfl
  | f + 1, k + 1, .node v l r, h => by
    have h1 : (Nat.sub (k + 1) 1) = k := rfl
    show (bif Nat.beq (k + 1) 0 then v else bif Nat.beq (Nat.mod (Nat.sub (k + 1) 1) 2) 0 then Trie.get l (Nat.div (Nat.sub (k + 1) 1) 2) else Trie.get r (Nat.div (Nat.sub (k + 1) 1) 2)) = bif Nat.beq (k % 2) 0 then Trie.getF f (k / 2) l else Trie.getF f (k / 2) r
    have h2 : k / 2 < f := by omega
    have e1 : Nat.div k 2 = k / 2 := rfl
    have e2 : Nat.mod k 2 = k % 2 := rfl
    rw [h1, e1, e2, Trie.get_eq f (k / 2) l h2, Trie.get_eq f (k / 2) r h2]
    rfl

theorem beq_dec (n : Nat) : Nat.beq (n % 2) 0 = true ∨ Nat.beq (n % 2) 0 = false := by
  cases Nat.beq (n % 2) 0
  · exact .inr rfl
  · exact .inl rfl

theorem beq_mod {n : Nat} : Nat.beq (n % 2) 0 = decide (n % 2 = 0) := by
  by_cases h : n % 2 = 0
  · rw [h]; rfl
  · have : Nat.beq (n % 2) 0 = false := by
      cases hb : Nat.beq (n % 2) 0 with
      | false => rfl
      | true => exact absurd (Nat.eq_of_beq_eq_true hb) h
    simp [this, h]

theorem half_lt {k f : Nat} (h : k + 1 < f + 1) : k / 2 < f := by omega

theorem half_ne {a b : Nat} (h : a + 1 ≠ b + 1) (hm : decide (a % 2 = 0) = decide (b % 2 = 0)) : a / 2 ≠ b / 2 := by
  intro hd
  have : a % 2 = b % 2 := by
    have h1 : a % 2 < 2 := Nat.mod_lt _ (by decide)
    have h2 : b % 2 < 2 := Nat.mod_lt _ (by decide)
    by_cases ha : a % 2 = 0 <;> by_cases hb : b % 2 = 0 <;> simp [ha, hb] at hm ⊢ <;> omega
  omega

theorem Trie.get_setF {α : Type} (a : α) : ∀ (f g k j : Nat) (t : Trie α), k < f → j < g → Trie.getF g j (Trie.setF f k a t) = if k = j then some a else Trie.getF g j t
  | 0, _, k, _, _, h, _ => absurd h (Nat.not_lt_zero _)
  | _ + 1, 0, _, j, _, _, h => absurd h (Nat.not_lt_zero _)
  | f + 1, g + 1, 0, 0, t, _, _ => by cases t <;> rfl
  | f + 1, g + 1, 0, j + 1, t, _, _ => by
    cases t
    · simp only [Trie.setF, Trie.getF, Trie.getF_leaf]
      cases Nat.beq (j % 2) 0 <;> simp
    · simp only [Trie.setF, Trie.getF]
      simp
  | f + 1, g + 1, k + 1, 0, t, _, _ => by
    cases t
    · simp only [Trie.setF]
      cases Nat.beq (k % 2) 0 <;> simp [Trie.getF]
    · simp only [Trie.setF]
      cases Nat.beq (k % 2) 0 <;> simp [Trie.getF]
  | f + 1, g + 1, k + 1, j + 1, t, hk, hj => by
    have ih := Trie.get_setF a f g (k / 2) (j / 2)
    have hk' := half_lt hk
    have hj' := half_lt hj
    by_cases he : k = j
    · subst he
      cases t <;> simp only [Trie.setF] <;> cases hb : Nat.beq (k % 2) 0 <;> simp [Trie.getF, hb, ih _ hk' hj']
    · have hne : k + 1 ≠ j + 1 := by omega
      rw [if_neg hne]
      by_cases hp : decide (k % 2 = 0) = decide (j % 2 = 0)
      · have hd := half_ne hne hp
        have hbb : Nat.beq (k % 2) 0 = Nat.beq (j % 2) 0 := by rw [beq_mod, beq_mod, hp]
        cases t <;> simp only [Trie.setF, hbb] <;> cases hb : Nat.beq (j % 2) 0 <;> simp [Trie.getF, hb, ih _ hk' hj', hd, Trie.getF_leaf]
      · cases hb : Nat.beq (j % 2) 0 with
        | true =>
          have hb2 : Nat.beq (k % 2) 0 = false := by
            cases h : Nat.beq (k % 2) 0 with
            | false => rfl
            | true => rw [beq_mod] at h hb; exact absurd (h.trans hb.symm) hp
          cases t <;> simp [Trie.setF, hb2, Trie.getF, hb, Trie.getF_leaf]
        | false =>
          have hb2 : Nat.beq (k % 2) 0 = true := by
            cases h : Nat.beq (k % 2) 0 with
            | true => rfl
            | false => rw [beq_mod] at h hb; exact absurd (h.trans hb.symm) hp
          cases t <;> simp [Trie.setF, hb2, Trie.getF, hb, Trie.getF_leaf]

theorem Trie.get_set {α : Type} (t : Trie α) (k j : Nat) (a : α) : (t.set k a).get j = if k = j then some a else t.get j := by
  rw [Trie.get_eq (j + 1) j _ (Nat.lt_succ_self _), Trie.get_eq (j + 1) j t (Nat.lt_succ_self _)]
  exact Trie.get_setF a (k + 1) (j + 1) k j t (Nat.lt_succ_self _) (Nat.lt_succ_self _)

theorem Trie.set_setF {α : Type} (a b : α) : ∀ (f k : Nat) (t : Trie α), Trie.setF f k b (Trie.setF f k a t) = Trie.setF f k b t
  | 0, _, _ => rfl
  | f + 1, 0, t => by cases t <;> rfl
  | f + 1, k + 1, t => by
    cases t <;> simp only [Trie.setF] <;> cases hb : Nat.beq (k % 2) 0 <;> simp [Trie.setF, hb, Trie.set_setF a b f (k / 2)]

theorem Trie.set_set {α : Type} (t : Trie α) (k : Nat) (a b : α) : (t.set k a).set k b = t.set k b := Trie.set_setF a b (k + 1) k t

theorem Trie.set_commF {α : Type} (a b : α) : ∀ (f g k j : Nat) (t : Trie α), k ≠ j → k < f → j < g → Trie.setF f k a (Trie.setF g j b t) = Trie.setF g j b (Trie.setF f k a t)
  | 0, _, k, _, _, _, h, _ => absurd h (Nat.not_lt_zero _)
  | _ + 1, 0, _, j, _, _, _, h => absurd h (Nat.not_lt_zero _)
  | f + 1, g + 1, 0, 0, t, h, _, _ => absurd rfl h
  | f + 1, g + 1, 0, j + 1, t, _, _, _ => by
    cases t <;> simp only [Trie.setF] <;> cases hb : Nat.beq (j % 2) 0 <;> simp [Trie.setF]
  | f + 1, g + 1, k + 1, 0, t, _, _, _ => by
    cases t <;> simp only [Trie.setF] <;> cases hb : Nat.beq (k % 2) 0 <;> simp [Trie.setF]
  | f + 1, g + 1, k + 1, j + 1, t, hne, hk, hj => by
    have hk' := half_lt hk
    have hj' := half_lt hj
    by_cases hp : decide (k % 2 = 0) = decide (j % 2 = 0)
    · have hd := half_ne hne hp
      have hbb : Nat.beq (k % 2) 0 = Nat.beq (j % 2) 0 := by rw [beq_mod, beq_mod, hp]
      cases t <;> simp only [Trie.setF, hbb] <;> cases hb : Nat.beq (j % 2) 0 <;> simp [Trie.setF, hbb, hb, Trie.set_commF a b f g (k / 2) (j / 2) _ hd hk' hj']
    · cases hb : Nat.beq (j % 2) 0 with
      | true =>
        have hb2 : Nat.beq (k % 2) 0 = false := by
          cases h : Nat.beq (k % 2) 0 with
          | false => rfl
          | true => rw [beq_mod] at h hb; exact absurd (h.trans hb.symm) hp
        cases t <;> simp [Trie.setF, hb2, hb]
      | false =>
        have hb2 : Nat.beq (k % 2) 0 = true := by
          cases h : Nat.beq (k % 2) 0 with
          | true => rfl
          | false => rw [beq_mod] at h hb; exact absurd (h.trans hb.symm) hp
        cases t <;> simp [Trie.setF, hb2, hb]

theorem Trie.set_comm {α : Type} (t : Trie α) {k j : Nat} (a b : α) (h : k ≠ j) : (t.set j b).set k a = (t.set k a).set j b :=
  Trie.set_commF a b (k + 1) (j + 1) k j t h (Nat.lt_succ_self _) (Nat.lt_succ_self _)

/-- The temporaries of an activation. -/
structure Tmps where
  n : Nat
  t : Trie Value

def Tmps.get (ts : Tmps) (i : Nat) : Option Value :=
  bif Nat.ble (i + 1) ts.n then
    match ts.t.get i with
    | some v => some v
    | none => some (.tuple #[])
  else none

/-- (The number is worked out at each step: else it would be sought through all that was laid since.) -/
def Tmps.put (ts : Tmps) (i : Nat) (v : Value) : Tmps :=
  match ts.n with
  | 0 => ts
  | m + 1 => bif Nat.ble (i + 1) (m + 1) then ⟨m + 1, ts.t.set i v⟩ else ts

theorem Tmps.put_eq (ts : Tmps) (i : Nat) (v : Value) : ts.put i v = bif Nat.ble (i + 1) ts.n then { ts with t := ts.t.set i v } else ts := by
  obtain ⟨n, t⟩ := ts
  unfold Tmps.put
  cases n with
  | zero => rfl
  | succ n => rfl

/-- As a row. -/
def Tmps.arr (ts : Tmps) : Array Value := ((List.range ts.n).map fun i => (ts.t.get i).getD (.tuple #[])).toArray

theorem ble_dec {a b : Nat} : Nat.ble a b = decide (a ≤ b) := by
  by_cases h : a ≤ b
  · rw [Nat.ble_eq_true_of_le h]; simp [h]
  · have : Nat.ble a b = false := by
      cases hb : Nat.ble a b with
      | false => rfl
      | true => exact absurd (Nat.le_of_ble_eq_true hb) h
    simp [this, h]

theorem Tmps.get_arr (ts : Tmps) (i : Nat) : ts.arr[i]? = ts.get i := by
  unfold Tmps.arr Tmps.get
  rw [ble_dec]
  by_cases h : i + 1 ≤ ts.n
  · simp only [h, decide_true, cond_true]
    have h' : i < ts.n := h
    simp only [List.getElem?_toArray, List.getElem?_map]
    rw [List.getElem?_range h']
    cases h2 : ts.t.get i <;> simp [h2]
  · simp only [h, decide_false, cond_false]
    rw [Array.getElem?_eq_none]
    simp
    omega

theorem Tmps.size_arr (ts : Tmps) : ts.arr.size = ts.n := by simp [Tmps.arr]

theorem Tmps.arr_put (ts : Tmps) (i : Nat) (v : Value) : (ts.put i v).arr = ts.arr.setIfInBounds i v := by
  apply Array.ext_getElem?
  intro j
  rw [Tmps.get_arr, Array.getElem?_setIfInBounds, Tmps.get_arr, Tmps.size_arr]
  by_cases h : i + 1 ≤ ts.n
  · have e1 : ts.put i v = { ts with t := ts.t.set i v } := by rw [Tmps.put_eq, ble_dec]; simp [h]
    rw [e1]
    simp only [Tmps.get, Trie.get_set, ble_dec]
    by_cases hij : i = j
    · subst hij
      have h' : i < ts.n := h
      simp [h, h']
    · simp [hij]
  · have e1 : ts.put i v = ts := by rw [Tmps.put_eq, ble_dec]; simp [h]
    rw [e1]
    by_cases hij : i = j
    · subst hij
      have h' : ¬ i < ts.n := h
      simp [Tmps.get, ble_dec, h, h']
    · simp [hij]

theorem Tmps.put_comm (ts : Tmps) {i j : Nat} (v u : Value) (h : i ≠ j) : (ts.put j u).put i v = (ts.put i v).put j u := by
  rw [Tmps.put_eq, Tmps.put_eq, Tmps.put_eq, Tmps.put_eq]
  cases h1 : Nat.ble (i + 1) ts.n <;> cases h2 : Nat.ble (j + 1) ts.n <;> simp [h1, h2, Trie.set_comm _ _ _ h]

theorem Tmps.get_put (ts : Tmps) (i j : Nat) (v : Value) : (ts.put i v).get j = if i = j then (if i < ts.n then some v else none) else ts.get j := by
  rw [← Tmps.get_arr, Tmps.arr_put, Array.getElem?_setIfInBounds, Tmps.get_arr, Tmps.size_arr]

@[simp] theorem Tmps.n_put (ts : Tmps) (i : Nat) (v : Value) : (ts.put i v).n = ts.n := by
  rw [Tmps.put_eq]
  cases Nat.ble (i + 1) ts.n <;> rfl

def Tmps.fillFrom : Nat → List Value → Trie Value → Trie Value
  | _, [], t => t
  | i, v :: vs, t => fillFrom (i + 1) vs (t.set i v)

/-- At the entry. -/
def Tmps.enter (n : Nat) (args : List Value) : Tmps := { n := args.length + (n - args.length), t := Tmps.fillFrom 0 args .leaf }

theorem Tmps.fillFrom_get : ∀ (vs : List Value) (i : Nat) (t : Trie Value) (j : Nat), (Tmps.fillFrom i vs t).get j = if i ≤ j ∧ j < i + vs.length then vs[j - i]? else t.get j
  | [], i, t, j => by simp [Tmps.fillFrom]; intro h1 h2; omega
  | v :: vs, i, t, j => by
    rw [Tmps.fillFrom, Tmps.fillFrom_get vs (i + 1), Trie.get_set]
    by_cases h : i = j
    · subst h
      simp
      intro h; omega
    · by_cases h1 : i + 1 ≤ j ∧ j < i + 1 + vs.length
      · have h2 : i ≤ j ∧ j < i + (v :: vs).length := by simp; omega
        rw [if_pos h1, if_pos h2]
        have : j - i = (j - (i + 1)) + 1 := by omega
        rw [this, List.getElem?_cons_succ]
      · have h2 : ¬ (i ≤ j ∧ j < i + (v :: vs).length) := by simp; omega
        rw [if_neg h1, if_neg h2, if_neg h]

theorem Tmps.arr_enter (n : Nat) (args : List Value) : (Tmps.enter n args).arr = args.toArray ++ Array.replicate (n - args.length) (.tuple #[]) := by
  apply Array.ext_getElem?
  intro j
  rw [Tmps.get_arr]
  unfold Tmps.enter Tmps.get
  rw [ble_dec]
  simp only [Tmps.fillFrom_get, Nat.zero_le, true_and, Nat.zero_add, Nat.sub_zero]
  by_cases h : j < args.length
  · have h1 : j + 1 ≤ args.length + (n - args.length) := by omega
    simp only [h1, decide_true, cond_true, h, if_true]
    rw [Array.getElem?_append_left (by simpa using h)]
    simp [h]
  · simp only [h, if_false]
    rw [Array.getElem?_append_right (by simp; omega)]
    have hl : (Trie.leaf : Trie Value).get j = none := rfl
    rw [hl]
    by_cases h1 : j + 1 ≤ args.length + (n - args.length)
    · simp only [h1, decide_true, cond_true]
      rw [Array.getElem?_replicate, if_pos (by simp; omega)]
    · simp only [h1, decide_false, cond_false]
      rw [Array.getElem?_replicate, if_neg (by simp; omega)]

/-- A loop over a function, under way. -/
structure ALoop where
  state : LoopState
  pending : Option IJump
  tmps : Tmps
  params : Array Tmp
  assign : ICode
  body : ICode
  defers : Nat

inductive AObj where
  | cells (cs : List Value) (ro : Bool) (sz : Nat)
  | map (es : List (Value × Value × Nat)) (clock : Nat)
  | loop (l : ALoop)
  | defd (ds : Option (List Deferred))
  | siter (s : ByteArray) (pos : Nat)
  | miter (m : Option Nat) (since : Nat) (seen : List Nat) (stepped : Nat)
  | dead

def AObj.live : AObj → Bool
  | .dead => false
  | _ => true

/-- Is it there, and nobody else's? -/
def AObj.wr : AObj → Bool
  | .dead => false
  | .cells _ ro _ => !ro
  | _ => true

structure AHeap where
  n : Nat
  t : Trie AObj

def AHeap.empty : AHeap := ⟨0, .leaf⟩
def AHeap.size (H : AHeap) : Nat := H.n
def AHeap.get (H : AHeap) (b : Nat) : Option AObj := bif Nat.ble (b + 1) H.n then H.t.get b else none
def AHeap.push (H : AHeap) (o : AObj) : AHeap :=
  match H.n with
  | 0 => ⟨1, H.t.set 0 o⟩
  | m + 1 => ⟨m + 2, H.t.set (m + 1) o⟩
def AHeap.set (H : AHeap) (b : Nat) (o : AObj) : AHeap :=
  match H.n with
  | 0 => H
  | m + 1 => bif Nat.ble (b + 1) (m + 1) then ⟨m + 1, H.t.set b o⟩ else H

theorem AHeap.push_eq (H : AHeap) (o : AObj) : H.push o = ⟨H.n + 1, H.t.set H.n o⟩ := by
  obtain ⟨n, t⟩ := H
  unfold AHeap.push
  cases n <;> rfl
theorem AHeap.set_eq (H : AHeap) (b : Nat) (o : AObj) : H.set b o = bif Nat.ble (b + 1) H.n then ⟨H.n, H.t.set b o⟩ else H := by
  obtain ⟨n, t⟩ := H
  unfold AHeap.set
  cases n <;> rfl

@[simp] theorem AHeap.size_push (H : AHeap) (o : AObj) : (H.push o).size = H.size + 1 := by rw [AHeap.push_eq]; rfl
@[simp] theorem AHeap.size_set (H : AHeap) (b : Nat) (o : AObj) : (H.set b o).size = H.size := by
  rw [AHeap.set_eq]
  cases Nat.ble (b + 1) H.n <;> rfl
theorem AHeap.get_push (H : AHeap) (o : AObj) (b : Nat) : (H.push o).get b = if b = H.size then some o else H.get b := by
  simp only [AHeap.get, AHeap.push_eq, AHeap.size, ble_dec, Trie.get_set]
  by_cases h : b = H.n
  · subst h; simp
  · have h2 : ¬ H.n = b := fun e => h e.symm
    by_cases h3 : b + 1 ≤ H.n
    · have h4 : b + 1 ≤ H.n + 1 := by omega
      simp [h, h2, h3, h4]
    · have h4 : ¬ (b + 1 ≤ H.n + 1) := by omega
      simp only [h3, h4, decide_false, cond_false, h, if_false]
theorem AHeap.get_set (H : AHeap) (b : Nat) (o : AObj) (c : Nat) : (H.set b o).get c = if b = c ∧ b < H.size then some o else H.get c := by
  rw [AHeap.set_eq, ble_dec]
  by_cases h : b + 1 ≤ H.n
  · have h' : b < H.n := h
    simp only [h, decide_true, cond_true, AHeap.get, AHeap.size, Trie.get_set, ble_dec]
    by_cases e : b = c
    · subst e; simp [h, h']
    · simp [e]
  · have h' : ¬ b < H.n := h
    simp only [h, decide_false, cond_false, AHeap.size, h', and_false, if_false]
theorem AHeap.get_lt {H : AHeap} {b : Nat} {o : AObj} (h : H.get b = some o) : b < H.size := by
  unfold AHeap.get at h
  rw [ble_dec] at h
  by_cases h' : b + 1 ≤ H.n
  · exact h'
  · simp [h'] at h
theorem AHeap.set_set (H : AHeap) (b : Nat) (o o' : AObj) : (H.set b o).set b o' = H.set b o' := by
  rw [AHeap.set_eq, AHeap.set_eq, AHeap.set_eq]
  cases h : Nat.ble (b + 1) H.n <;> simp [h, Trie.set_set]

/-! ### Values without addresses -/
mutual
def flat : Value → Bool
  | .bool _ | .int _ _ | .float _ _ | .complex _ _ _ | .string _ | .nilFunc | .nilIface => true
  | .pointer a => a.isNone
  | .slice a _ _ => a.isNone
  | .map r => r.isNone
  | .chan _ => false
  | .func (.func _) first captured => flatA first && flatA captured
  | .func _ _ _ => false
  | .iface _ x => flat x
  | .agg cs => flatA cs
  | .tuple cs => flatA cs
def flatA : Array Value → Bool
  | ⟨l⟩ => flatL l
def flatL : List Value → Bool
  | [] => true
  | x :: xs => flat x && flatL xs
end

mutual
theorem flat_vr (ρ : Rho) : ∀ (x : Value), flat x = true → vr ρ x x
  | .bool _, _ | .int _ _, _ | .float _ _, _ | .complex _ _ _, _ | .string _, _ | .nilFunc, _ | .nilIface, _ => by simp only [vr]
  | .pointer none, _ => by simp only [vr]
  | .pointer (some _), h => by simp [flat] at h
  | .slice none _ _, _ => by simp only [vr]
  | .slice (some _) _ _, h => by simp [flat] at h
  | .map none, _ => by simp only [vr]
  | .map (some _), h => by simp [flat] at h
  | .chan _, h => by simp [flat] at h
  | .func (.func f) first captured, h => by
    simp only [flat, Bool.and_eq_true] at h
    simp only [vr]
    exact ⟨_, _, _, rfl, rfl, flatA_vr ρ _ h.1, flatA_vr ρ _ h.2⟩
  | .func (.method _) _ _, h | .func (.methodOf _ _) _ _, h | .func (.via _ _ _ _) _ _, h | .func (.yield _) _ _, h => by simp [flat] at h
  | .iface t x, h => by
    simp only [flat] at h
    simp only [vr]
    exact ⟨_, rfl, flat_vr ρ _ h⟩
  | .agg cs, h => by
    simp only [flat] at h
    simp only [vr]
    exact ⟨_, rfl, flatA_vr ρ _ h⟩
  | .tuple cs, h => by
    simp only [flat] at h
    simp only [vr]
    exact ⟨_, rfl, flatA_vr ρ _ h⟩
theorem flatA_vr (ρ : Rho) : ∀ (x : Array Value), flatA x = true → vrA ρ x x
  | ⟨l⟩, h => by
    simp only [flatA] at h
    simp only [vrA]
    exact flatL_vr ρ l h
theorem flatL_vr (ρ : Rho) : ∀ (x : List Value), flatL x = true → vrL ρ x x
  | [], _ => by simp only [vrL]
  | x :: xs, h => by
    simp only [flatL, Bool.and_eq_true] at h
    simp only [vrL]
    exact ⟨_, _, rfl, flat_vr ρ x h.1, flatL_vr ρ xs h.2⟩
end

end Go.Abs
