/-
  ABS, part Xc: what a call has made and nobody reaches may be struck; facts of closed calls, held against heaps. (Own work.)
-/
import Derived.Test.YtohipgnacknkgabGreatHgXb
set_option linter.unusedSimpArgs false
set_option linter.unusedVariables false
namespace Go.Abs
open Go

variable {P : Program}

/-- H2 is H' but for blocks from N on that are struck. -/
def Kill (N : Nat) (H' H2 : AHeap) : Prop :=
  H2.size = H'.size ∧ ∀ b, H2.get b = H'.get b ∨ (N ≤ b ∧ (H2.get b = none ∨ H2.get b = some .dead))

theorem Ext.strike {ρ ρ' : Rho} {H H' H2 : AHeap} {w w' : World} (x : Ext P ρ H w ρ' H' w') (k : Kill H.size H' H2) : Ext P ρ H w ρ' H2 w' := by
  have hsame : ∀ b o, H2.get b = some o → o ≠ .dead → H'.get b = some o := by
    intro b o ho hd
    rcases k.2 b with h | ⟨_, h | h⟩
    · rw [← h]; exact ho
    · rw [h] at ho; cases ho
    · rw [h] at ho; exact absurd (Option.some.inj ho).symm hd
  refine { sub := x.sub, size := by rw [k.1]; exact x.size, new := fun b p h => by rw [k.1]; exact x.new b p h, rel := ⟨?_, ?_, x.rel.lt⟩,
           wsize := x.wsize, keepC := x.keepC, keepO := x.keepO, own := ?_, unm := ?_, os := x.os, out := x.out, tape := x.tape }
  · intro b p o hb ho
    by_cases hd : o = .dead
    · subst hd; trivial
    · exact x.rel.obj b p o hb (hsame b o ho hd)
  · intro b b' p p' o o' hne hb hb' ho ho' hw hl
    have h1 : o ≠ .dead := by intro e; subst e; cases hw
    have h2 : o' ≠ .dead := by intro e; subst e; cases hl
    exact x.rel.sep b b' p p' o o' hne hb hb' (hsame b o ho h1) (hsame b' o' ho' h2) hw hl
  · rintro B i hB ⟨b, p, o, hb, ho, hw, h1, h2, h3⟩
    have hd : o ≠ .dead := by intro e; subst e; cases hw
    exact x.own B i hB ⟨b, p, o, hb, hsame b o ho hd, hw, h1, h2, h3⟩
  · intro b hb hn
    rcases k.2 b with h | ⟨h, _⟩
    · rw [h]; exact x.unm b hb hn
    · omega

theorem CallOk.strike {f : Nat} {args : List Value} {H H' H2 : AHeap} {r : AE} (h : CallOk P f args H r H') (k : Kill H.size H' H2) : CallOk P f args H r H2 := by
  refine ⟨h.1, fun ρ w xs hr hc hx => CallsIn.mono (h.2 ρ w xs hr hc hx) ?_⟩
  rintro e w' ⟨ρ', hx2, he⟩
  exact ⟨ρ', hx2.strike k, he⟩

/-! ### Worked out -/

def oeq : AObj → AObj → Bool
  | .cells a ro sz, .cells b ro' sz' => (Nat.beq sz sz' && (ro == ro')) && veqL a b
  | .map [] a, .map [] b => Nat.beq a b
  | .dead, .dead => true
  | _, _ => false

theorem oeq_eq {a b : AObj} (h : oeq a b = true) : a = b := by
  unfold oeq at h
  split at h
  · simp only [Bool.and_eq_true, beq_iff_eq] at h
    obtain ⟨⟨h1, h2⟩, h3⟩ := h
    rw [Nat.eq_of_beq_eq_true h1, h2, veqL_eq _ _ h3]
  · rw [Nat.eq_of_beq_eq_true h]
  · rfl
  · cases h

def ooeq : Option AObj → Option AObj → Bool
  | none, none => true
  | some a, some b => oeq a b
  | _, _ => false

theorem ooeq_eq {a b : Option AObj} (h : ooeq a b = true) : a = b := by
  unfold ooeq at h
  split at h
  · rfl
  · rw [oeq_eq h]
  · cases h

def gone : Option AObj → Bool
  | none => true
  | some .dead => true
  | _ => false

theorem gone_eq {a : Option AObj} (h : gone a = true) : a = none ∨ a = some .dead := by
  unfold gone at h
  split at h
  · exact .inl rfl
  · exact .inr rfl
  · cases h

def isLeaf : Trie AObj → Bool
  | .leaf => true
  | _ => false

/-- t2 is t1 but for what is struck from N on; the node j here has the number a * j + c. -/
def killT (N : Nat) : Nat → Nat → Trie AObj → Trie AObj → Bool
  | _, _, .leaf, t2 => isLeaf t2
  | a, c, .node v1 l1 r1, .leaf => (Nat.ble N c || v1.isNone) && (killT N (Nat.add a a) (Nat.add a c) l1 .leaf && killT N (Nat.add a a) (Nat.add (Nat.add a a) c) r1 .leaf)
  | a, c, .node v1 l1 r1, .node v2 l2 r2 => ((gone v2 && Nat.ble N c) || ooeq v1 v2) && (killT N (Nat.add a a) (Nat.add a c) l1 l2 && killT N (Nat.add a a) (Nat.add (Nat.add a a) c) r1 r2)

theorem Trie.get_node {α : Type} (v : Option α) (l r : Trie α) (k : Nat) : (Trie.node v l r).get k = if k = 0 then v else if (k - 1) % 2 = 0 then l.get ((k - 1) / 2) else r.get ((k - 1) / 2) := by
  show (bif Nat.beq k 0 then v else bif Nat.beq (Nat.mod (Nat.sub k 1) 2) 0 then Trie.get l (Nat.div (Nat.sub k 1) 2) else Trie.get r (Nat.div (Nat.sub k 1) 2)) = _
  have e1 : Nat.mod (Nat.sub k 1) 2 = (k - 1) % 2 := rfl
  have e2 : Nat.div (Nat.sub k 1) 2 = (k - 1) / 2 := rfl
  rw [e1, e2, beq_mod]
  cases k with
  | zero => rfl
  | succ k =>
    have : Nat.beq (k + 1) 0 = false := rfl
    rw [this]
    simp

theorem isLeaf_eq {t : Trie AObj} (h : isLeaf t = true) : t = .leaf := by
  cases t
  · rfl
  · cases h

/-- What 'killT' says. -/
def KillAt (N a c : Nat) (t1 t2 : Trie AObj) : Prop := ∀ j, t2.get j = t1.get j ∨ (N ≤ a * j + c ∧ (t2.get j = none ∨ t2.get j = some .dead))

theorem killT_node {N a c : Nat} {v1 v2 : Option AObj} {l1 r1 l2 r2 : Trie AObj} (hv : v2 = v1 ∨ (N ≤ c ∧ (v2 = none ∨ v2 = some .dead)))
    (hl : KillAt N (a + a) (a + c) l1 l2) (hr : KillAt N (a + a) (a + a + c) r1 r2) : KillAt N a c (.node v1 l1 r1) (.node v2 l2 r2) := by
  intro j
  rw [Trie.get_node, Trie.get_node]
  by_cases h0 : j = 0
  · subst h0
    simpa using hv
  · simp only [h0, if_false]
    by_cases h1 : (j - 1) % 2 = 0
    · simp only [h1, if_true]
      have e : (a + a) * ((j - 1) / 2) + (a + c) = a * j + c := by
        have hj : j = 2 * ((j - 1) / 2) + 1 := by omega
        generalize (j - 1) / 2 = q at hj
        subst hj
        rw [Nat.mul_add, Nat.add_mul, Nat.mul_left_comm a 2 q]
        omega
      have := hl ((j - 1) / 2)
      rw [e] at this
      exact this
    · simp only [h1, if_false]
      have e : (a + a) * ((j - 1) / 2) + (a + a + c) = a * j + c := by
        have hj : j = 2 * ((j - 1) / 2) + 2 := by omega
        generalize (j - 1) / 2 = q at hj
        subst hj
        rw [Nat.mul_add, Nat.add_mul, Nat.mul_left_comm a 2 q]
        omega
      have := hr ((j - 1) / 2)
      rw [e] at this
      exact this

theorem leaf_as_node (j : Nat) : (Trie.leaf : Trie AObj).get j = (Trie.node none .leaf .leaf : Trie AObj).get j := by
  rw [Trie.get_node]
  have : ∀ k, (Trie.leaf : Trie AObj).get k = none := fun _ => rfl
  simp [this]

theorem killT_ok (N : Nat) : ∀ (t1 t2 : Trie AObj) (a c : Nat), killT N a c t1 t2 = true → KillAt N a c t1 t2
  | .leaf, t2, a, c, h => by
    have : t2 = .leaf := isLeaf_eq (by simpa only [killT] using h)
    subst this
    exact fun j => .inl rfl
  | .node v1 l1 r1, .leaf, a, c, h => by
    simp only [killT, Bool.and_eq_true, Bool.or_eq_true] at h
    obtain ⟨h0, h1, h2⟩ := h
    have := killT_node (N := N) (a := a) (c := c) (v1 := v1) (v2 := none) (l1 := l1) (r1 := r1) (l2 := .leaf) (r2 := .leaf)
      (by
        rcases h0 with h0 | h0
        · exact .inr ⟨Nat.le_of_ble_eq_true h0, .inl rfl⟩
        · exact .inl (by cases v1 <;> simp_all))
      (killT_ok N l1 .leaf _ _ h1) (killT_ok N r1 .leaf _ _ h2)
    intro j
    rw [leaf_as_node]
    exact this j
  | .node v1 l1 r1, .node v2 l2 r2, a, c, h => by
    simp only [killT, Bool.and_eq_true, Bool.or_eq_true] at h
    obtain ⟨h0, h1, h2⟩ := h
    refine killT_node ?_ (killT_ok N l1 l2 _ _ h1) (killT_ok N r1 r2 _ _ h2)
    rcases h0 with ⟨g, n⟩ | h0
    · exact .inr ⟨Nat.le_of_ble_eq_true n, gone_eq g⟩
    · exact .inl (ooeq_eq h0).symm

def killB (H H' H2 : AHeap) : Bool := Nat.beq H2.n H'.n && killT H.n 1 0 H'.t H2.t

theorem killB_ok {H H' H2 : AHeap} (h : killB H H' H2 = true) : Kill H.size H' H2 := by
  simp only [killB, Bool.and_eq_true] at h
  have hn := Nat.eq_of_beq_eq_true h.1
  refine ⟨hn, fun b => ?_⟩
  have := killT_ok H.n H'.t H2.t 1 0 h.2 b
  simp only [AHeap.get, hn]
  cases Nat.ble (b + 1) H'.n with
  | false => exact .inl rfl
  | true =>
    simp only [cond_true]
    rcases this with h | ⟨h, h'⟩
    · exact .inl h
    · exact .inr ⟨by simpa [AHeap.size] using h, h'⟩

/-- Two heaps are the same. -/
def teq : Trie AObj → Trie AObj → Bool
  | .leaf, .leaf => true
  | .node v1 l1 r1, .node v2 l2 r2 => ooeq v1 v2 && (teq l1 l2 && teq r1 r2)
  | _, _ => false

theorem teq_eq : ∀ {a b : Trie AObj}, teq a b = true → a = b
  | .leaf, .leaf, _ => rfl
  | .node v1 l1 r1, .node v2 l2 r2, h => by
    simp only [teq, Bool.and_eq_true] at h
    rw [ooeq_eq h.1, teq_eq h.2.1, teq_eq h.2.2]
  | .leaf, .node _ _ _, h => by simp [teq] at h
  | .node _ _ _, .leaf, h => by simp [teq] at h

def heq (a b : AHeap) : Bool := Nat.beq a.n b.n && teq a.t b.t

theorem heq_eq {a b : AHeap} (h : heq a b = true) : a = b := by
  simp only [heq, Bool.and_eq_true] at h
  obtain ⟨n, t⟩ := a
  obtain ⟨m, u⟩ := b
  have h1 : n = m := Nat.eq_of_beq_eq_true h.1
  have h2 : t = u := teq_eq h.2
  rw [h1, h2]

def aeeq : AE → AE → Bool
  | .ret a, .ret b => veq a b
  | .panic a, .panic b => veq a b
  | _, _ => false

theorem aeeq_eq {a b : AE} (h : aeeq a b = true) : a = b := by
  unfold aeeq at h
  split at h
  · rw [veq_eq _ _ h]
  · rw [veq_eq _ _ h]
  · cases h

/-- What is known of a call. -/
structure CFact where
  f : Nat
  args : List Value
  H : AHeap
  r : AE
  H2 : AHeap

/-- Does a run say what is claimed? -/
def saysB (c : CFact) : Option (AE × AHeap) → Bool
  | some (r, H') => aeeq r c.r && killB c.H H' c.H2
  | none => false

def CFact.Ok (P : Program) (c : CFact) : Prop := CallOk P c.f c.args c.H c.r c.H2

theorem CFact.of_run {c : CFact} {e : Ev} (he : EvOk P e) (h : saysB c (e.call c.f c.args c.H) = true) : c.Ok P := by
  cases hr : e.call c.f c.args c.H with
  | none => rw [hr] at h; cases h
  | some q =>
    obtain ⟨r, H'⟩ := q
    rw [hr] at h
    simp only [saysB, Bool.and_eq_true] at h
    have h1 := aeeq_eq h.1
    subst h1
    exact (he.call _ _ _ _ _ hr).strike (killB_ok h.2)

/-- Facts as what is known of functions. -/
def factsG (G : Specs) : List CFact → Specs
  | [], f, args, H => G f args H
  | c :: cs, f, args, H => bif Nat.beq c.f f && (veqL c.args args && heq c.H H) then some (c.r, c.H2) else factsG G cs f args H

theorem factsG_ok {G : Specs} (hG : GOk P G) : ∀ {cs : List CFact}, (∀ c, c ∈ cs → c.Ok P) → GOk P (factsG G cs)
  | [], _ => hG
  | c :: cs, h => by
    intro f args H r H' hf
    simp only [factsG] at hf
    cases hb : (Nat.beq c.f f && (veqL c.args args && heq c.H H)) with
    | false =>
      rw [hb] at hf
      exact factsG_ok hG (fun d hd => h d (List.mem_cons_of_mem _ hd)) _ _ _ _ _ hf
    | true =>
      rw [hb] at hf
      simp only [Bool.and_eq_true] at hb
      have e1 := Nat.eq_of_beq_eq_true hb.1
      have e2 := veqL_eq _ _ hb.2.1
      have e3 := heq_eq hb.2.2
      simp only [cond_true, Option.some.injEq, Prod.mk.injEq] at hf
      have := h c List.mem_cons_self
      unfold CFact.Ok at this
      rw [e1, e2, e3, hf.1, hf.2] at this
      exact this

end Go.Abs
