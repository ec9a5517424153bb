/-
  ABS, part D: how an abstract heap stands for a world; the steps that keep it so. (Own work.)
-/
import Derived.Test.YtohipgnacknkgabGreatHgC
set_option linter.unusedSimpArgs false
set_option linter.unusedVariables false
namespace Go.Abs
open Go

def mapR (ρ : Rho) : List (Value × Value × Nat) → List MapEntry → Prop
  | [], l => l = []
  | (k, v, n) :: r, l => ∃ e l', l = e :: l' ∧ vr ρ k e.key ∧ vr ρ v e.val ∧ e.born = n ∧ mapR ρ r l'

def tgtR (ρ : Rho) : Target → Target → Prop
  | .fn f xs, t => ∃ g ys, t = .fn g ys ∧ fnr ρ f g ∧ vrA ρ xs ys
  | .collected r, t => ∃ p, ρ r = some p ∧ t = .collected p.B
  | _, _ => False

def defR (ρ : Rho) (d e : Deferred) : Prop := tgtR ρ d.target e.target ∧ vrA ρ d.args e.args

def defsR (ρ : Rho) : List Deferred → List Deferred → Prop
  | [], l => l = []
  | d :: r, l => ∃ e l', l = e :: l' ∧ defR ρ d e ∧ defsR ρ r l'

def jumpR : Option IJump → Option Code → Prop
  | none, c => c = none
  | some (.exit id), c => c = some (.exit id)
  | some (.goto l), c => c = some (.goto l)
  | some .ret, c => c = some .ret

def loopR (P : Program) (ρ : Rho) (l : ALoop) (c : Loop) : Prop :=
  c.state = l.state ∧ jumpR l.pending c.pending ∧ vrA ρ l.tmps.arr c.tmps ∧ c.params = l.params ∧
    cCode P c.assign = some l.assign ∧ cCode P c.body = some l.body ∧ ∃ p, ρ l.defers = some p ∧ c.defers = p.B

def objR (P : Program) (ρ : Rho) (w : World) (p : Pl) : AObj → Prop
  | .cells cs ro sz => ∃ c t fr, w.heap[p.B]? = some (.cells c t fr) ∧ p.base + p.C ≤ c.size ∧ cs.length ≤ p.C ∧ p.sz = sz ∧
      (∀ i v', cs[i]? = some v' → ∃ v, c[p.base + i]? = some v ∧ vr ρ v' v) ∧
      (ro = false → ∀ i, i < p.C → ¬ (fr.1 ≤ p.base + i ∧ p.base + i < fr.2))
  | .map es clock => p.base = 0 ∧ p.C = 1 ∧ ∃ ces, w.heap[p.B]? = some (.map ces clock) ∧ mapR ρ es ces.toList
  | .loop l => p.base = 0 ∧ p.C = 1 ∧ ∃ c, w.heap[p.B]? = some (.loop c) ∧ loopR P ρ l c
  | .defd none => p.base = 0 ∧ p.C = 1 ∧ w.heap[p.B]? = some (.deferred none)
  | .defd (some ds) => p.base = 0 ∧ p.C = 1 ∧ ∃ ds', w.heap[p.B]? = some (.deferred (some ds')) ∧ defsR ρ ds ds'
  | .siter s pos => p.base = 0 ∧ p.C = 1 ∧ w.heap[p.B]? = some (.stringIter s pos)
  | .miter none since seen st => p.base = 0 ∧ p.C = 1 ∧ w.heap[p.B]? = some (.mapIter none since seen.toArray st)
  | .miter (some m) since seen st => p.base = 0 ∧ p.C = 1 ∧ ∃ q, ρ m = some q ∧ w.heap[p.B]? = some (.mapIter (some q.B) since seen.toArray st)
  | .dead => True

def apart (p q : Pl) : Prop := p.B ≠ q.B ∨ p.base + p.C ≤ q.base ∨ q.base + q.C ≤ p.base

structure Rel (P : Program) (ρ : Rho) (H : AHeap) (w : World) : Prop where
  obj : ∀ b p o, ρ b = some p → H.get b = some o → objR P ρ w p o
  sep : ∀ b b' p p' o o', b ≠ b' → ρ b = some p → ρ b' = some p' → H.get b = some o → H.get b' = some o' → o.wr = true → o'.live = true → apart p p'
  lt : ∀ b p, ρ b = some p → p.B < w.heap.size

def Owned (ρ : Rho) (H : AHeap) (B i : Nat) : Prop :=
  ∃ b p o, ρ b = some p ∧ H.get b = some o ∧ o.wr = true ∧ p.B = B ∧ p.base ≤ i ∧ i < p.base + p.C

def Obj.isCells : Obj → Bool
  | .cells _ _ _ => true
  | _ => false

structure Ext (P : Program) (ρ : Rho) (H : AHeap) (w : World) (ρ' : Rho) (H' : AHeap) (w' : World) : Prop where
  sub : ρ.le ρ'
  size : H.size ≤ H'.size
  new : ∀ b p, ρ' b = some p → ρ b = some p ∨ (H.size ≤ b ∧ b < H'.size)
  rel : Rel P ρ' H' w'
  wsize : w.heap.size ≤ w'.heap.size
  keepC : ∀ B c t fr, w.heap[B]? = some (.cells c t fr) → ∃ c', w'.heap[B]? = some (.cells c' t fr) ∧ c'.size = c.size ∧ ∀ i, ¬ Owned ρ H B i → c'[i]? = c[i]?
  keepO : ∀ B o, w.heap[B]? = some o → Obj.isCells o = false → ¬ Owned ρ H B 0 → w'.heap[B]? = some o
  own : ∀ B i, B < w.heap.size → Owned ρ' H' B i → Owned ρ H B i
  unm : ∀ b, b < H.size → ρ b = none → H'.get b = H.get b
  os : w'.os = w.os
  out : w'.output = w.output
  tape : w'.tape = w.tape

variable {P : Program}

theorem Ext.refl {ρ : Rho} {H : AHeap} {w : World} (h : Rel P ρ H w) : Ext P ρ H w ρ H w where
  sub := Rho.le.refl ρ
  size := Nat.le_refl _
  new := fun _ _ h => .inl h
  rel := h
  wsize := Nat.le_refl _
  keepC := fun _ c _ _ hc => ⟨c, hc, rfl, fun _ _ => rfl⟩
  keepO := fun _ _ h _ _ => h
  own := fun _ _ _ h => h
  unm := fun _ _ _ => rfl
  os := rfl
  out := rfl
  tape := rfl

theorem Ext.trans {ρ ρ1 ρ2 : Rho} {H H1 H2 : AHeap} {w w1 w2 : World} (a : Ext P ρ H w ρ1 H1 w1) (b : Ext P ρ1 H1 w1 ρ2 H2 w2) : Ext P ρ H w ρ2 H2 w2 where
  sub := a.sub.trans b.sub
  size := Nat.le_trans a.size b.size
  new := fun x p hp => by
    rcases b.new x p hp with h | ⟨h1, h2⟩
    · rcases a.new x p h with h | ⟨h1, h2⟩
      · exact .inl h
      · exact .inr ⟨h1, Nat.lt_of_lt_of_le h2 b.size⟩
    · exact .inr ⟨Nat.le_trans a.size h1, h2⟩
  rel := b.rel
  wsize := Nat.le_trans a.wsize b.wsize
  keepC := fun B c t fr hc => by
    obtain ⟨c1, h1, s1, k1⟩ := a.keepC B c t fr hc
    obtain ⟨c2, h2, s2, k2⟩ := b.keepC B c1 t fr h1
    refine ⟨c2, h2, s2.trans s1, fun i hi => ?_⟩
    rw [k2 i (fun ho => hi (a.own B i (Array.getElem?_eq_some_iff.1 hc).1 ho)), k1 i hi]
  keepO := fun B o ho hc hn => by
    have h1 := a.keepO B o ho hc hn
    exact b.keepO B o h1 hc (fun hw => hn (a.own B 0 (Array.getElem?_eq_some_iff.1 ho).1 hw))
  own := fun B i hB ho => a.own B i hB (b.own B i (Nat.lt_of_lt_of_le hB a.wsize) ho)
  unm := fun x hx hn => by
    have : ρ1 x = none := by
      cases hx1 : ρ1 x with
      | none => rfl
      | some p =>
        rcases a.new x p hx1 with h | ⟨h1, _⟩
        · rw [hn] at h; cases h
        · omega
    rw [b.unm x (Nat.lt_of_lt_of_le hx a.size) this, a.unm x hx hn]
  os := b.os.trans a.os
  out := b.out.trans a.out
  tape := b.tape.trans a.tape

/-! ### Relations are kept when more is known -/

theorem mapR_mono {ρ ρ' : Rho} (h : ρ.le ρ') : ∀ {es : List (Value × Value × Nat)} {l : List MapEntry}, mapR ρ es l → mapR ρ' es l
  | [], _, hr => hr
  | (_, _, _) :: _, _, ⟨e, l', h1, h2, h3, h4, h5⟩ => ⟨e, l', h1, vr_mono h _ _ h2, vr_mono h _ _ h3, h4, mapR_mono h h5⟩

theorem tgtR_mono {ρ ρ' : Rho} (h : ρ.le ρ') {a b : Target} (hr : tgtR ρ a b) : tgtR ρ' a b := by
  cases a <;> simp only [tgtR] at *
  · obtain ⟨g, ys, e, h1, h2⟩ := hr
    exact ⟨g, ys, e, fnr_mono h h1, vrA_mono h _ _ h2⟩
  · obtain ⟨p, h1, h2⟩ := hr
    exact ⟨p, h _ _ h1, h2⟩

theorem defR_mono {ρ ρ' : Rho} (h : ρ.le ρ') {a b : Deferred} (hr : defR ρ a b) : defR ρ' a b := ⟨tgtR_mono h hr.1, vrA_mono h _ _ hr.2⟩

theorem defsR_mono {ρ ρ' : Rho} (h : ρ.le ρ') : ∀ {ds es : List Deferred}, defsR ρ ds es → defsR ρ' ds es
  | [], _, hr => hr
  | _ :: _, _, ⟨e, l', h1, h2, h3⟩ => ⟨e, l', h1, defR_mono h h2, defsR_mono h h3⟩

theorem loopR_mono {ρ ρ' : Rho} (h : ρ.le ρ') {l : ALoop} {c : Loop} (hr : loopR P ρ l c) : loopR P ρ' l c := by
  obtain ⟨h1, h2, h4, h5, h6, h7, p, h8, h9⟩ := hr
  exact ⟨h1, h2, vrA_mono h _ _ h4, h5, h6, h7, p, h _ _ h8, h9⟩

/-- What an object says, in a world that has the same block. -/
theorem objR_mono {ρ ρ' : Rho} (h : ρ.le ρ') {w w' : World} {p : Pl} {o : AObj} (hr : objR P ρ w p o) (hw : w'.heap[p.B]? = w.heap[p.B]?) : objR P ρ' w' p o := by
  cases o with
  | cells cs ro sz =>
    obtain ⟨c, t, fr, h1, h2, h3, h4, h5, h6⟩ := hr
    refine ⟨c, t, fr, hw.trans h1, h2, h3, h4, fun i v' hv => ?_, h6⟩
    obtain ⟨v, a, b⟩ := h5 i v' hv
    exact ⟨v, a, vr_mono h _ _ b⟩
  | map es clock =>
    obtain ⟨h1, h2, ces, h3, h4⟩ := hr
    exact ⟨h1, h2, ces, hw.trans h3, mapR_mono h h4⟩
  | loop l =>
    obtain ⟨h1, h2, c, h3, h4⟩ := hr
    exact ⟨h1, h2, c, hw.trans h3, loopR_mono h h4⟩
  | defd ds =>
    cases ds with
    | none => exact ⟨hr.1, hr.2.1, hw.trans hr.2.2⟩
    | some ds =>
      obtain ⟨h1, h2, ds', h3, h4⟩ := hr
      exact ⟨h1, h2, ds', hw.trans h3, defsR_mono h h4⟩
  | siter s pos => exact ⟨hr.1, hr.2.1, hw.trans hr.2.2⟩
  | miter m since seen st =>
    cases m with
    | none => exact ⟨hr.1, hr.2.1, hw.trans hr.2.2⟩
    | some m =>
      obtain ⟨h1, h2, q, h3, h4⟩ := hr
      exact ⟨h1, h2, q, h _ _ h3, hw.trans h4⟩
  | dead => trivial

/-- A block that changes outside an object's cells. -/
theorem objR_cells_frame {ρ ρ' : Rho} (h : ρ.le ρ') {w w' : World} {p : Pl} {cs : List Value} {ro : Bool} {sz : Nat} (hr : objR P ρ w p (.cells cs ro sz))
    (hw : ∀ c t fr, w.heap[p.B]? = some (.cells c t fr) → ∃ c', w'.heap[p.B]? = some (.cells c' t fr) ∧ c'.size = c.size ∧ ∀ i, p.base ≤ i → i < p.base + p.C → c'[i]? = c[i]?) : objR P ρ' w' p (.cells cs ro sz) := by
  obtain ⟨c, t, fr, h1, h2, h3, h4, h5, h6⟩ := hr
  obtain ⟨c', g1, g2, g3⟩ := hw c t fr h1
  refine ⟨c', t, fr, g1, by rw [g2]; exact h2, h3, h4, fun i v' hv => ?_, h6⟩
  obtain ⟨v, a, b⟩ := h5 i v' hv
  have hi : i < cs.length := (List.getElem?_eq_some_iff.1 hv).1
  exact ⟨v, by rw [g3 _ (by omega) (by omega)]; exact a, vr_mono h _ _ b⟩

def upd (ρ : Rho) (b : Nat) (p : Pl) : Rho := fun x => if x = b then some p else ρ x

theorem upd_le {ρ : Rho} {b : Nat} {p : Pl} (h : ρ b = none) : ρ.le (upd ρ b p) := by
  intro x q hx
  unfold upd
  by_cases e : x = b
  · subst e; rw [h] at hx; cases hx
  · simp [e, hx]

@[simp] theorem upd_same (ρ : Rho) (b : Nat) (p : Pl) : upd ρ b p b = some p := by simp [upd]

/-! ### Worlds -/
def World.push (w : World) (o : Obj) : World := { w with heap := w.heap.push o }
def World.draw (w : World) : World := { w with drawn := w.drawn + 1 }
def World.putObj (w : World) (B : Nat) (o : Obj) : World := { w with heap := w.heap.setIfInBounds B o }

theorem Rel.congr {ρ : Rho} {H : AHeap} {w w' : World} (h : Rel P ρ H w) (hw : w'.heap = w.heap) : Rel P ρ H w' where
  obj := fun b p o hp ho => objR_mono (Rho.le.refl ρ) (h.obj b p o hp ho) (by rw [hw])
  sep := h.sep
  lt := fun b p hp => by rw [hw]; exact h.lt b p hp

theorem Ext.same {ρ : Rho} {H : AHeap} {w w' : World} (h : Rel P ρ H w) (hw : w'.heap = w.heap) (h1 : w'.os = w.os) (h2 : w'.output = w.output) (h3 : w'.tape = w.tape) : Ext P ρ H w ρ H w' where
  sub := Rho.le.refl ρ
  size := Nat.le_refl _
  new := fun _ _ h => .inl h
  rel := h.congr hw
  wsize := by rw [hw]; exact Nat.le_refl _
  keepC := fun _ c _ _ hc => ⟨c, by rw [hw]; exact hc, rfl, fun _ _ => rfl⟩
  keepO := fun _ _ h _ _ => by rw [hw]; exact h
  own := fun _ _ _ h => h
  unm := fun _ _ _ => rfl
  os := h1
  out := h2
  tape := h3

/-- A new block of the world's, and a new block of the heap's for it. -/
theorem Ext.alloc {ρ : Rho} {H : AHeap} {w : World} (h : Rel P ρ H w) (hf : ρ H.size = none) (o : Obj) (ao : AObj) (C sz : Nat)
    (ho : objR P (upd ρ H.size ⟨w.heap.size, 0, C, sz⟩) (World.push w o) ⟨w.heap.size, 0, C, sz⟩ ao) :
    Ext P ρ H w (upd ρ H.size ⟨w.heap.size, 0, C, sz⟩) (H.push ao) (World.push w o) := by
  have hsub := upd_le (p := ⟨w.heap.size, 0, C, sz⟩) hf
  have hold : ∀ B, B < w.heap.size → (World.push w o).heap[B]? = w.heap[B]? := fun B hB => by
    simp only [World.push, Array.getElem?_push]
    rw [if_neg (by omega)]
  have hget : ∀ b, b ≠ H.size → (H.push ao).get b = H.get b := fun b hb => by rw [AHeap.get_push, if_neg hb]
  have hcase : ∀ b p, upd ρ H.size ⟨w.heap.size, 0, C, sz⟩ b = some p → (b = H.size ∧ p = ⟨w.heap.size, 0, C, sz⟩) ∨ (b ≠ H.size ∧ ρ b = some p) := by
    intro b p hp
    unfold upd at hp
    by_cases e : b = H.size
    · simp [e] at hp; exact .inl ⟨e, hp.symm⟩
    · simp [e] at hp; exact .inr ⟨e, hp⟩
  refine { sub := hsub, size := by simp, new := ?_, rel := ⟨?_, ?_, ?_⟩, wsize := by simp [World.push], keepC := ?_, keepO := ?_, own := ?_, unm := ?_, os := rfl, out := rfl, tape := rfl }
  · intro b p hp
    rcases hcase b p hp with ⟨e, _⟩ | ⟨_, hp⟩
    · exact .inr ⟨by omega, by simp; omega⟩
    · exact .inl hp
  · intro b p x hp hx
    rcases hcase b p hp with ⟨e, e2⟩ | ⟨e, hp⟩
    · subst e; subst e2
      rw [AHeap.get_push, if_pos rfl] at hx
      obtain rfl := Option.some.inj hx
      exact ho
    · rw [hget b e] at hx
      exact objR_mono hsub (h.obj b p x hp hx) (hold _ (h.lt b p hp))
  · intro b b' p p' x x' hne hp hp' hx hx' hw hl
    rcases hcase b p hp with ⟨e, e2⟩ | ⟨e, hp⟩ <;> rcases hcase b' p' hp' with ⟨e', e2'⟩ | ⟨e', hp'⟩
    · omega
    · subst e2
      left
      have := h.lt b' p' hp'
      simp only
      omega
    · subst e2'
      left
      have := h.lt b p hp
      simp only
      omega
    · rw [hget b e] at hx
      rw [hget b' e'] at hx'
      exact h.sep b b' p p' x x' hne hp hp' hx hx' hw hl
  · intro b p hp
    rcases hcase b p hp with ⟨_, e2⟩ | ⟨_, hp⟩
    · subst e2; simp [World.push]
    · have := h.lt b p hp; simp [World.push]; omega
  · intro B c t fr hc
    exact ⟨c, by rw [hold B (Array.getElem?_eq_some_iff.1 hc).1]; exact hc, rfl, fun _ _ => rfl⟩
  · intro B x hx _ _
    rw [hold B (Array.getElem?_eq_some_iff.1 hx).1]; exact hx
  · rintro B i hB ⟨b, p, x, hp, hx, hw, e, h1, h2⟩
    rcases hcase b p hp with ⟨_, e2⟩ | ⟨e', hp⟩
    · subst e2; simp only at e; omega
    · rw [hget b e'] at hx
      exact ⟨b, p, x, hp, hx, hw, e, h1, h2⟩
  · intro b hb hn
    exact hget b (by omega)

/-- The cells of a block turn, within an object's own. -/
theorem Ext.put {ρ : Rho} {H : AHeap} {w : World} (h : Rel P ρ H w) {b : Nat} {p : Pl} {cs cs' : List Value} {sz : Nat} (hp : ρ b = some p) (hb : H.get b = some (.cells cs false sz))
    {c c' : Array Value} {t : TypeId} {fr : Nat × Nat} (hc : w.heap[p.B]? = some (.cells c t fr)) (hs : c'.size = c.size)
    (hout : ∀ i, ¬ (p.base ≤ i ∧ i < p.base + p.C) → c'[i]? = c[i]?) (hlen : cs'.length ≤ p.C)
    (hin : ∀ i v', cs'[i]? = some v' → ∃ v, c'[p.base + i]? = some v ∧ vr ρ v' v) :
    Ext P ρ H w ρ (H.set b (.cells cs' false sz)) (World.putObj w p.B (.cells c' t fr)) := by
  have hbl := AHeap.get_lt hb
  have hpl := h.lt b p hp
  have hput : ∀ B, (World.putObj w p.B (.cells c' t fr)).heap[B]? = if B = p.B then some (.cells c' t fr) else w.heap[B]? := by
    intro B
    simp only [World.putObj, Array.getElem?_setIfInBounds]
    by_cases e : p.B = B
    · subst e; simp [hpl]
    · rw [if_neg e, if_neg (fun e' => e e'.symm)]
  have hgetne : ∀ x, x ≠ b → (H.set b (.cells cs' false sz)).get x = H.get x := fun x hx => by
    rw [AHeap.get_set, if_neg (fun e => hx e.1.symm)]
  have hgeteq : (H.set b (.cells cs' false sz)).get b = some (.cells cs' false sz) := by
    rw [AHeap.get_set, if_pos ⟨rfl, hbl⟩]
  obtain ⟨c0, t0, fr0, g1, g2, g3, g4, g5, g6⟩ := h.obj b p _ hp hb
  obtain ⟨rfl, rfl, rfl⟩ : c0 = c ∧ t0 = t ∧ fr0 = fr := by
    rw [hc] at g1
    simp only [Option.some.injEq, Obj.cells.injEq] at g1
    exact ⟨g1.1.symm, g1.2.1.symm, g1.2.2.symm⟩
  refine { sub := Rho.le.refl ρ, size := by simp, new := fun _ _ h => .inl h, rel := ⟨?_, ?_, ?_⟩, wsize := by simp [World.putObj], keepC := ?_, keepO := ?_, own := ?_, unm := ?_, os := rfl, out := rfl, tape := rfl }
  · intro x q o hq ho
    by_cases e : x = b
    · subst e
      rw [hgeteq] at ho
      obtain rfl := Option.some.inj ho
      rw [hp] at hq
      obtain rfl := Option.some.inj hq
      exact ⟨c', t0, fr0, by rw [hput, if_pos rfl], by rw [hs]; exact g2, hlen, g4, hin, g6⟩
    · rw [hgetne x e] at ho
      have hrel := h.obj x q o hq ho
      by_cases eB : q.B = p.B
      · cases o with
        | cells ds ro sz' =>
          have hap := h.sep b x p q _ _ (fun e' => e e'.symm) hp hq hb ho rfl rfl
          refine objR_cells_frame (Rho.le.refl ρ) hrel ?_
          intro d u fs hd
          rw [eB, hc] at hd
          simp only [Option.some.injEq, Obj.cells.injEq] at hd
          obtain ⟨rfl, rfl, rfl⟩ := hd
          refine ⟨c', by rw [hput, if_pos eB], hs, fun i h1 h2 => hout i ?_⟩
          unfold apart at hap
          rcases hap with h | h | h <;> omega
        | map es cl => obtain ⟨_, _, ces, hh, _⟩ := hrel; rw [eB, hc] at hh; cases hh
        | loop l => obtain ⟨_, _, ces, hh, _⟩ := hrel; rw [eB, hc] at hh; cases hh
        | defd ds =>
          cases ds with
          | none => obtain ⟨_, _, hh⟩ := hrel; rw [eB, hc] at hh; cases hh
          | some ds => obtain ⟨_, _, _, hh, _⟩ := hrel; rw [eB, hc] at hh; cases hh
        | siter s pos => obtain ⟨_, _, hh⟩ := hrel; rw [eB, hc] at hh; cases hh
        | miter m s1 s2 s3 =>
          cases m with
          | none => obtain ⟨_, _, hh⟩ := hrel; rw [eB, hc] at hh; cases hh
          | some m => obtain ⟨_, _, _, _, hh⟩ := hrel; rw [eB, hc] at hh; cases hh
        | dead => trivial
      · exact objR_mono (Rho.le.refl ρ) hrel (by rw [hput, if_neg eB])
  · intro x x' q q' o o' hne hq hq' ho ho' hw hl
    have key : ∀ y oy, (H.set b (.cells cs' false sz)).get y = some oy → ∃ oy', H.get y = some oy' ∧ oy'.wr = oy.wr ∧ oy'.live = oy.live := by
      intro y oy hy
      by_cases e : y = b
      · subst e
        rw [hgeteq] at hy
        obtain rfl := Option.some.inj hy
        exact ⟨_, hb, rfl, rfl⟩
      · rw [hgetne y e] at hy
        exact ⟨oy, hy, rfl, rfl⟩
    obtain ⟨o1, h1, h2, _⟩ := key x o ho
    obtain ⟨o2, h3, _, h4⟩ := key x' o' ho'
    exact h.sep x x' q q' o1 o2 hne hq hq' h1 h3 (h2.trans hw) (h4.trans hl)
  · intro x q hq
    have := h.lt x q hq
    simpa [World.putObj] using this
  · intro B d u fs hd
    rw [hput]
    by_cases e : B = p.B
    · subst e
      rw [hc] at hd
      simp only [Option.some.injEq, Obj.cells.injEq] at hd
      obtain ⟨rfl, rfl, rfl⟩ := hd
      exact ⟨c', by rw [if_pos rfl], hs, fun i hi => hout i (fun hh => hi ⟨b, p, _, hp, hb, rfl, rfl, hh.1, hh.2⟩)⟩
    · exact ⟨d, by rw [if_neg e]; exact hd, rfl, fun _ _ => rfl⟩
  · intro B o ho hno _
    rw [hput]
    by_cases e : B = p.B
    · subst e
      rw [hc] at ho
      obtain rfl := Option.some.inj ho
      simp [Obj.isCells] at hno
    · rw [if_neg e]; exact ho
  · rintro B i hB ⟨x, q, o, hq, ho, hw, e1, e2, e3⟩
    by_cases e : x = b
    · subst e
      rw [hp] at hq
      obtain rfl := Option.some.inj hq
      exact ⟨x, _, _, hp, hb, rfl, e1, e2, e3⟩
    · rw [hgetne x e] at ho
      exact ⟨x, q, o, hq, ho, hw, e1, e2, e3⟩
  · intro x hx hn
    exact hgetne x (fun e => by subst e; rw [hp] at hn; cases hn)

/-- An object that is no row of cells turns into another one. -/
theorem Ext.putO {ρ : Rho} {H : AHeap} {w : World} (h : Rel P ρ H w) {b : Nat} {p : Pl} {o o' : AObj} (hp : ρ b = some p) (hb : H.get b = some o) (hw : o.wr = true) (hw' : o'.wr = true)
    {x : Obj} (hbase : p.base = 0) (hC : p.C = 1) (hold : ∃ y, w.heap[p.B]? = some y ∧ Obj.isCells y = false) (ho' : objR P ρ (World.putObj w p.B x) p o') :
    Ext P ρ H w ρ (H.set b o') (World.putObj w p.B x) := by
  have hbl := AHeap.get_lt hb
  have hpl := h.lt b p hp
  have hput : ∀ B, (World.putObj w p.B x).heap[B]? = if B = p.B then some x else w.heap[B]? := by
    intro B
    simp only [World.putObj, Array.getElem?_setIfInBounds]
    by_cases e : p.B = B
    · subst e; simp [hpl]
    · rw [if_neg e, if_neg (fun e' => e e'.symm)]
  have hgetne : ∀ y, y ≠ b → (H.set b o').get y = H.get y := fun y hy => by
    rw [AHeap.get_set, if_neg (fun e => hy e.1.symm)]
  have hgeteq : (H.set b o').get b = some o' := by
    rw [AHeap.get_set, if_pos ⟨rfl, hbl⟩]
  have live_of_wr : ∀ z : AObj, z.wr = true → z.live = true := by intro z hz; cases z <;> simp_all [AObj.wr, AObj.live]
  obtain ⟨y0, hy0, hyc⟩ := hold
  refine { sub := Rho.le.refl ρ, size := by simp, new := fun _ _ h => .inl h, rel := ⟨?_, ?_, ?_⟩, wsize := by simp [World.putObj], keepC := ?_, keepO := ?_, own := ?_, unm := ?_, os := rfl, out := rfl, tape := rfl }
  · intro z q oz hq hz
    by_cases e : z = b
    · subst e
      rw [hgeteq] at hz
      obtain rfl := Option.some.inj hz
      rw [hp] at hq
      obtain rfl := Option.some.inj hq
      exact ho'
    · rw [hgetne z e] at hz
      have hrel := h.obj z q oz hq hz
      by_cases el : oz.live = true
      · have hap := h.sep b z p q _ _ (fun e' => e e'.symm) hp hq hb hz hw el
        by_cases eB : q.B = p.B
        · exfalso
          cases oz with
          | cells ds ro sz =>
            obtain ⟨c, t, fr, hh, _⟩ := hrel
            rw [eB, hy0] at hh
            obtain rfl := Option.some.inj hh
            simp [Obj.isCells] at hyc
          | map es cl => have := hrel.1; have := hrel.2.1; unfold apart at hap; omega
          | loop l => have := hrel.1; have := hrel.2.1; unfold apart at hap; omega
          | defd ds => cases ds <;> (have := hrel.1; have := hrel.2.1; unfold apart at hap; omega)
          | siter s pos => have := hrel.1; have := hrel.2.1; unfold apart at hap; omega
          | miter m s1 s2 s3 => cases m <;> (have := hrel.1; have := hrel.2.1; unfold apart at hap; omega)
          | dead => simp [AObj.live] at el
        · exact objR_mono (Rho.le.refl ρ) hrel (by rw [hput, if_neg eB])
      · cases oz <;> simp_all [AObj.live]
        trivial
  · intro y y' q q' o1 o1' hne hq hq' ho1 ho1' hw1 hl1
    have key : ∀ z oz, (H.set b o').get z = some oz → ∃ oz', H.get z = some oz' ∧ (oz.wr = true → oz'.wr = true) ∧ (oz.live = true → oz'.live = true) := by
      intro z oz hz
      by_cases e : z = b
      · subst e
        exact ⟨_, hb, fun _ => hw, fun _ => live_of_wr _ hw⟩
      · rw [hgetne z e] at hz
        exact ⟨oz, hz, id, id⟩
    obtain ⟨a1, h1, h2, _⟩ := key y o1 ho1
    obtain ⟨a2, h3, _, h4⟩ := key y' o1' ho1'
    exact h.sep y y' q q' a1 a2 hne hq hq' h1 h3 (h2 hw1) (h4 hl1)
  · intro z q hq
    have := h.lt z q hq
    simpa [World.putObj] using this
  · intro B d u fs hd
    rw [hput]
    by_cases e : B = p.B
    · subst e
      rw [hy0] at hd
      obtain rfl := Option.some.inj hd
      simp [Obj.isCells] at hyc
    · exact ⟨d, by rw [if_neg e]; exact hd, rfl, fun _ _ => rfl⟩
  · intro B z hz hno hnot
    rw [hput]
    by_cases e : B = p.B
    · subst e
      exact absurd ⟨b, p, o, hp, hb, hw, rfl, by omega, by omega⟩ hnot
    · rw [if_neg e]; exact hz
  · rintro B i hB ⟨z, q, oz, hq, hz, hwz, e1, e2, e3⟩
    by_cases e : z = b
    · subst e
      exact ⟨z, q, o, hq, hb, hw, e1, e2, e3⟩
    · rw [hgetne z e] at hz
      exact ⟨z, q, oz, hq, hz, hwz, e1, e2, e3⟩
  · intro z hz hn
    exact hgetne z (fun e => by subst e; rw [hp] at hn; cases hn)

/-- An object dies. -/
theorem Ext.kill {ρ : Rho} {H : AHeap} {w : World} (h : Rel P ρ H w) {b : Nat} {p : Pl} (hp : ρ b = some p) : Ext P ρ H w ρ (H.set b .dead) w := by
  have hgetne : ∀ y, y ≠ b → (H.set b .dead).get y = H.get y := fun y hy => by
    rw [AHeap.get_set, if_neg (fun e => hy e.1.symm)]
  have hgeteq : ∀ o, (H.set b .dead).get b = some o → o = .dead := by
    intro o ho
    have hb := AHeap.get_lt ho
    rw [AHeap.get_set, if_pos ⟨rfl, by simpa using hb⟩] at ho
    exact (Option.some.inj ho).symm
  refine { sub := Rho.le.refl ρ, size := by simp, new := fun _ _ h => .inl h, rel := ⟨?_, ?_, h.lt⟩, wsize := Nat.le_refl _, keepC := fun _ c _ _ hc => ⟨c, hc, rfl, fun _ _ => rfl⟩, keepO := fun _ _ h _ _ => h, own := ?_, unm := ?_, os := rfl, out := rfl, tape := rfl }
  · intro z q oz hq hz
    by_cases e : z = b
    · subst e
      rw [hgeteq _ hz]
      trivial
    · rw [hgetne z e] at hz
      exact h.obj z q oz hq hz
  · intro y y' q q' o1 o1' hne hq hq' ho1 ho1' hw1 hl1
    by_cases e : y = b
    · subst e; rw [hgeteq _ ho1] at hw1; simp [AObj.wr] at hw1
    by_cases e' : y' = b
    · subst e'; rw [hgeteq _ ho1'] at hl1; simp [AObj.live] at hl1
    rw [hgetne y e] at ho1
    rw [hgetne y' e'] at ho1'
    exact h.sep y y' q q' _ _ hne hq hq' ho1 ho1' hw1 hl1
  · rintro B i hB ⟨z, q, oz, hq, hz, hwz, e1, e2, e3⟩
    by_cases e : z = b
    · subst e; rw [hgeteq _ hz] at hwz; simp [AObj.wr] at hwz
    · rw [hgetne z e] at hz
      exact ⟨z, q, oz, hq, hz, hwz, e1, e2, e3⟩
  · intro z hz hn
    exact hgetne z (fun e => by subst e; rw [hp] at hn; cases hn)

end Go.Abs
