/-
  ABS, part E: what the model's small steps do where an abstract heap stands for the world. (Own work.)
-/
import Derived.Test.YtohipgnacknkgabGreatHgD
import Derived.Laws.Cells
import Derived.Laws.Append
set_option linter.unusedSimpArgs false
set_option linter.unusedVariables false
namespace Go.Abs
open Go

variable {P : Program}

/-! ### Lists of values -/
theorem vrL_length {ρ : Rho} : ∀ {xs ys : List Value}, vrL ρ xs ys → ys.length = xs.length
  | [], _, h => by simp only [vrL] at h; simp [h]
  | _ :: _, _, h => by
    simp only [vrL] at h
    obtain ⟨y, ys, rfl, _, h2⟩ := h
    simp [vrL_length h2]

theorem vrL_get {ρ : Rho} : ∀ {xs ys : List Value}, vrL ρ xs ys → ∀ {i : Nat} {x : Value}, xs[i]? = some x → ∃ y, ys[i]? = some y ∧ vr ρ x y
  | [], _, _, _, _, hx => by simp at hx
  | _ :: _, _, h, i, x, hx => by
    simp only [vrL] at h
    obtain ⟨y, ys, rfl, h1, h2⟩ := h
    cases i with
    | zero => simp at hx; subst hx; exact ⟨y, by simp, h1⟩
    | succ i => simp at hx; obtain ⟨z, hz, hr⟩ := vrL_get h2 hx; exact ⟨z, by simpa using hz, hr⟩

theorem vrL_of_get {ρ : Rho} : ∀ {xs ys : List Value}, ys.length = xs.length → (∀ (i : Nat) (x : Value), xs[i]? = some x → ∃ y, ys[i]? = some y ∧ vr ρ x y) → vrL ρ xs ys
  | [], ys, hl, _ => by simp only [vrL]; exact List.length_eq_zero_iff.1 hl
  | x :: xs, ys, hl, h => by
    cases ys with
    | nil => simp at hl
    | cons y ys =>
      simp only [vrL]
      refine ⟨y, ys, rfl, ?_, vrL_of_get (by simpa using hl) fun i z hz => ?_⟩
      · obtain ⟨u, hu, hr⟩ := h 0 x (by simp)
        simp at hu; subst hu; exact hr
      · obtain ⟨u, hu, hr⟩ := h (i + 1) z (by simpa using hz)
        exact ⟨u, by simpa using hu, hr⟩

theorem vrL_append {ρ : Rho} : ∀ {xs ys us vs : List Value}, vrL ρ xs ys → vrL ρ us vs → vrL ρ (xs ++ us) (ys ++ vs)
  | [], _, _, _, h, h' => by simp only [vrL] at h; subst h; simpa using h'
  | _ :: _, _, _, _, h, h' => by
    simp only [vrL] at h
    obtain ⟨y, ys, rfl, h1, h2⟩ := h
    simp only [List.cons_append, vrL]
    exact ⟨y, _, rfl, h1, vrL_append h2 h'⟩

theorem vrL_drop {ρ : Rho} : ∀ {xs ys : List Value} (n : Nat), vrL ρ xs ys → vrL ρ (xs.drop n) (ys.drop n)
  | xs, ys, 0, h => by simpa using h
  | [], _, n + 1, h => by simp only [vrL] at h; subst h; simp [vrL]
  | _ :: _, _, n + 1, h => by
    simp only [vrL] at h
    obtain ⟨y, ys, rfl, _, h2⟩ := h
    simpa using vrL_drop n h2

theorem vrL_take {ρ : Rho} : ∀ {xs ys : List Value} (n : Nat), vrL ρ xs ys → vrL ρ (xs.take n) (ys.take n)
  | _, _, 0, _ => by simp [vrL]
  | [], _, n + 1, h => by simp only [vrL] at h; subst h; simp [vrL]
  | _ :: _, _, n + 1, h => by
    simp only [vrL] at h
    obtain ⟨y, ys, rfl, h1, h2⟩ := h
    simp only [List.take_succ_cons, vrL]
    exact ⟨y, _, rfl, h1, vrL_take n h2⟩

theorem vrA_iff {ρ : Rho} {xs ys : Array Value} : vrA ρ xs ys ↔ vrL ρ xs.toList ys.toList := by cases xs; simp only [vrA]

theorem vr_cells {ρ : Rho} {v x : Value} (h : vr ρ v x) : vrL ρ (vcells v) x.cells.toList := by
  cases v with
  | agg cs =>
    simp only [vr] at h
    obtain ⟨ds, rfl, h⟩ := h
    simpa [vcells, Value.cells] using vrA_iff.1 h
  | _ =>
    simp only [vcells, vrL]
    refine ⟨x, [], ?_, h, rfl⟩
    cases x <;> first
      | rfl
      | (exfalso; first | (simp [vr] at h; done) | (rename_i a b; cases a <;> simp [vr] at h; done) | (rename_i a _ _ b; cases a <;> simp [vr, slr] at h; done) | skip)
    all_goals (rename_i a _; cases a <;> simp [vr] at h)

theorem vr_one {ρ : Rho} {v x : Value} (h : vr ρ v x) : x.oneCell' = v.oneCell' := by
  cases v with
  | pointer a => cases a <;> simp only [vr] at h <;> first | (obtain ⟨_, rfl, _⟩ := h; rfl) | (subst h; rfl)
  | map a => cases a <;> simp only [vr] at h <;> first | (obtain ⟨_, _, rfl⟩ := h; rfl) | (subst h; rfl)
  | slice a l c =>
    cases a with
    | none => simp only [vr] at h; subst h; rfl
    | some a =>
      simp only [vr, slr] at h
      obtain ⟨_, _, _, h⟩ := h
      rcases h with ⟨_, _, rfl⟩ | ⟨_, _, _, _, _, rfl⟩ | ⟨_, _, _, rfl⟩ <;> rfl
  | chan a => simp only [vr] at h
  | func f a b => simp only [vr] at h; obtain ⟨_, _, _, rfl, _⟩ := h; rfl
  | iface t y => simp only [vr] at h; obtain ⟨_, rfl, _⟩ := h; rfl
  | agg cs => simp only [vr] at h; obtain ⟨_, rfl, _⟩ := h; rfl
  | tuple cs => simp only [vr] at h; obtain ⟨_, rfl, _⟩ := h; rfl
  | _ => simp only [vr] at h; subst h; rfl

theorem vrL_one {ρ : Rho} {xs ys : List Value} (h : vrL ρ xs ys) (h1 : xs.all (·.oneCell') = true) : ∀ y ∈ ys, y.oneCell' = true := by
  intro y hy
  obtain ⟨i, hi⟩ := List.mem_iff_getElem?.1 hy
  have hlen := vrL_length h
  have hlt : i < xs.length := by rw [← hlen]; exact (List.getElem?_eq_some_iff.1 hi).1
  obtain ⟨z, hz, hr⟩ := vrL_get h (List.getElem?_eq_getElem hlt)
  rw [hi] at hz
  obtain rfl := Option.some.inj hz
  rw [vr_one hr]
  exact List.all_eq_true.1 h1 _ (List.getElem_mem hlt)

/-! ### Rows -/
def setMany (c : Array Value) (off : Nat) : List Value → Array Value
  | [] => c
  | v :: vs => setMany (c.setIfInBounds off v) (off + 1) vs

@[simp] theorem setMany_size : ∀ (vs : List Value) (c : Array Value) (off : Nat), (setMany c off vs).size = c.size
  | [], _, _ => rfl
  | _ :: vs, c, off => by simp [setMany, setMany_size vs]

theorem setMany_get : ∀ (vs : List Value) (c : Array Value) (off i : Nat), off + vs.length ≤ c.size →
    (setMany c off vs)[i]? = if off ≤ i ∧ i < off + vs.length then vs[i - off]? else c[i]?
  | [], c, off, i, _ => by simp [setMany]; omega
  | v :: vs, c, off, i, h => by
    simp only [List.length_cons] at h
    simp only [setMany]
    rw [setMany_get vs _ _ i (by simp; omega), Array.getElem?_setIfInBounds]
    simp only [List.length_cons]
    by_cases h1 : i = off
    · subst h1
      rw [if_neg (by omega), if_pos rfl, if_pos (by omega), if_pos (by omega)]
      simp
    · by_cases h2 : off + 1 ≤ i ∧ i < off + 1 + vs.length
      · rw [if_pos h2, if_pos (by omega), show i - off = (i - (off + 1)) + 1 by omega, List.getElem?_cons_succ]
      · rw [if_neg h2, if_neg (by omega), if_neg (by omega)]

@[simp] theorem setRow_length : ∀ (vs cs : List Value) (off : Nat), (setRow cs off vs).length = cs.length
  | [], _, _ => rfl
  | _ :: vs, cs, off => by simp [setRow, setRow_length vs]

theorem setRow_get : ∀ (vs cs : List Value) (off i : Nat), off + vs.length ≤ cs.length →
    (setRow cs off vs)[i]? = if off ≤ i ∧ i < off + vs.length then vs[i - off]? else cs[i]?
  | [], cs, off, i, _ => by simp [setRow]; omega
  | v :: vs, cs, off, i, h => by
    simp only [List.length_cons] at h
    simp only [setRow]
    rw [setRow_get vs _ _ i (by simp; omega), List.getElem?_set]
    simp only [List.length_cons]
    by_cases h1 : i = off
    · subst h1
      rw [if_neg (by omega), if_pos rfl, if_pos (by omega), if_pos (by omega)]
      simp
    · by_cases h2 : off + 1 ≤ i ∧ i < off + 1 + vs.length
      · rw [if_pos h2, if_pos (by omega), show i - off = (i - (off + 1)) + 1 by omega, List.getElem?_cons_succ]
      · rw [if_neg h2, if_neg (by omega), if_neg (by omega)]

theorem putObj_self {w : World} {B : Nat} {o : Obj} (h : w.heap[B]? = some o) : World.putObj w B o = w := by
  unfold World.putObj
  have : w.heap.setIfInBounds B o = w.heap := by
    apply Array.ext_getElem?
    intro i
    rw [Array.getElem?_setIfInBounds]
    by_cases e : B = i
    · subst e
      have hlt := (Array.getElem?_eq_some_iff.1 h).1
      simp [hlt, h]
      exact ((Array.getElem?_eq_some_iff.1 h).2).symm
    · simp [e]
  rw [this]

theorem putObj_putObj (w : World) (B : Nat) (o o' : Obj) : World.putObj (World.putObj w B o) B o' = World.putObj w B o' := by
  simp [World.putObj]

theorem putObj_get {w : World} {B : Nat} {o : Obj} (h : B < w.heap.size) : (World.putObj w B o).heap[B]? = some o := by
  simp [World.putObj, h]

theorem setCell_eq {w : World} {B i : Nat} {v : Value} {c : Array Value} {t : TypeId} {fr : Nat × Nat} (h : w.heap[B]? = some (.cells c t fr)) :
    w.setCell ⟨B, i, none⟩ v = World.putObj w B (.cells (c.setIfInBounds i v) t fr) := by
  unfold World.setCell World.putObj
  congr 1
  apply Array.ext_getElem?
  intro j
  rw [Array.getElem?_modify, Array.getElem?_setIfInBounds]
  by_cases e : B = j
  · subst e
    have hlt := (Array.getElem?_eq_some_iff.1 h).1
    simp [hlt, h]
    have := (Array.getElem?_eq_some_iff.1 h).2
    rw [this]
  · simp [e]

theorem run_storeCells' {B : Nat} {t : TypeId} {fr : Nat × Nat} (o : Nat) : ∀ (vs : List Value) (i : Nat) (cur : Array Value) (w : World), w.heap[B]? = some (.cells cur t fr) →
    o + i + vs.length ≤ cur.size → (∀ v ∈ vs, v.oneCell' = true) → (∀ j, j < vs.length → ¬ (fr.1 ≤ o + i + j ∧ o + i + j < fr.2)) →
    (storeCells ⟨B, o, none⟩ vs i).run P w = .ok () (World.putObj w B (.cells (setMany cur (o + i) vs) t fr))
  | [], i, cur, w, h, _, _, _ => by simp [storeCells, setMany, putObj_self h]
  | v :: vs, i, cur, w, h, hl, h1, hf => by
    simp only [List.length_cons] at hl hf
    have hadd : Addr.add ⟨B, o, none⟩ i = ⟨B, o + i, none⟩ := by
      unfold Addr.add
      by_cases e : i = 0
      · simp [e]
      · simp [e]
    have hcell : (w.cell? ⟨B, o + i, none⟩).isSome = true := by
      simp [World.cell?, h]; omega
    obtain ⟨u, hu⟩ := Option.isSome_iff_exists.1 hcell
    have hfz : w.frozen? ⟨B, o + i, none⟩ = false := by
      have := hf 0 (by omega)
      simp only [World.frozen?, h]
      simp at this ⊢
      omega
    have hlt := (Array.getElem?_eq_some_iff.1 h).1
    simp only [storeCells, Sem.run_bind, hadd]
    rw [run_store P w _ v .plain (h1 v (by simp)), hu]
    simp only [hfz, Bool.false_eq_true, if_false, Result.andThen_ok]
    rw [setCell_eq h]
    have ih := run_storeCells' o vs (i + 1) (cur.setIfInBounds (o + i) v) (World.putObj w B (.cells (cur.setIfInBounds (o + i) v) t fr)) (putObj_get hlt) (by simp; omega) (fun x hx => h1 x (by simp [hx]))
      (fun j hj => by have := hf (j + 1) (by omega); rwa [show o + (i + 1) + j = o + i + (j + 1) by omega])
    rw [ih, putObj_putObj]
    simp only [setMany, Nat.add_assoc]

/-! ### Addresses -/
theorem add_addr (a : Addr) (n : Nat) (h : a.spot = none) : a.add n = ⟨a.block, a.off + n, none⟩ := by
  unfold Addr.add
  by_cases e : n = 0
  · obtain ⟨b, o, s⟩ := a; simp at h; subst h; simp [e]
  · simp [e]

theorem addrr_add {ρ : Rho} {a x : Addr} (h : addrr ρ a x) (n : Nat) : addrr ρ (a.add n) (x.add n) := by
  obtain ⟨h1, p, hp, rfl⟩ := h
  rw [add_addr a n h1, add_addr _ n rfl]
  exact ⟨rfl, p, hp, by simp [Nat.add_assoc]⟩

/-! ### Reading -/
theorem Rel.cell {ρ : Rho} {H : AHeap} {w : World} (h : Rel P ρ H w) {a x : Addr} (ha : addrr ρ a x) {v : Value} (hv : H.cell a = some v) :
    ∃ y, w.cell? x = some y ∧ vr ρ v y := by
  obtain ⟨_, p, hp, rfl⟩ := ha
  unfold AHeap.cell at hv
  split at hv
  · rename_i cs ro sz hg
    obtain ⟨c, t, fr, h1, h2, h3, h4, h5, h6⟩ := h.obj _ p _ hp hg
    obtain ⟨y, hy, hr⟩ := h5 _ _ hv
    exact ⟨y, by simp [World.cell?, h1, hy], hr⟩
  · cases hv

theorem Rel.row {ρ : Rho} {H : AHeap} {w : World} (h : Rel P ρ H w) {a x : Addr} (ha : addrr ρ a x) {n : Nat} {vs : List Value} (hv : H.row a n = some vs) :
    ∃ ys : List Value, vrL ρ vs ys ∧ ys.length = n ∧ (∀ j y, ys[j]? = some y → w.cell? (x.add j) = some y) := by
  obtain ⟨_, p, hp, rfl⟩ := ha
  unfold AHeap.row at hv
  split at hv
  · rename_i cs ro sz hg
    split at hv
    · rename_i hle
      obtain rfl := Option.some.inj hv
      obtain ⟨c, t, fr, h1, h2, h3, h4, h5, h6⟩ := h.obj _ p _ hp hg
      have hlen : ((cs.drop a.off).take n).length = n := by simp; omega
      have hex : ∀ i, i < n → ∃ y, c[p.base + a.off + i]? = some y ∧ ∃ v, cs[a.off + i]? = some v ∧ vr ρ v y := by
        intro i hi
        have hlt : a.off + i < cs.length := by omega
        obtain ⟨y, hy, hr⟩ := h5 (a.off + i) _ (List.getElem?_eq_getElem hlt)
        exact ⟨y, by rw [← hy, Nat.add_assoc], _, List.getElem?_eq_getElem hlt, hr⟩
      have hsz : p.base + a.off + n ≤ c.size := by omega
      refine ⟨(List.range n).map fun i => c.getD (p.base + a.off + i) undef, ?_, by simp, ?_⟩
      · refine vrL_of_get (by simp [hlen]) fun i v hv => ?_
        have hi : i < n := by rw [← hlen]; exact (List.getElem?_eq_some_iff.1 hv).1
        obtain ⟨y, hy, v', hv', hr⟩ := hex i hi
        have e : v = v' := by
          rw [List.getElem?_take_of_lt hi, List.getElem?_drop] at hv
          rw [hv] at hv'
          exact Option.some.inj hv'
        subst e
        refine ⟨y, ?_, hr⟩
        simp [hi, hy]
      · intro j y hj
        have hjn : j < n := by
          have := (List.getElem?_eq_some_iff.1 hj).1
          simpa using this
        obtain ⟨z, hz, _⟩ := hex j hjn
        simp [hjn, hz] at hj
        subst hj
        rw [add_addr _ _ rfl]
        simp [World.cell?, h1, hz]
    · cases hv
  · cases hv

theorem Rel.run_row {ρ : Rho} {H : AHeap} {w : World} (h : Rel P ρ H w) {a x : Addr} (ha : addrr ρ a x) {n : Nat} {vs : List Value} (hv : H.row a n = some vs) :
    ∃ ys : Array Value, (loadCells x n).run P w = .ok ys w ∧ vrL ρ vs ys.toList := by
  obtain ⟨ys, h1, h2, h3⟩ := h.row ha hv
  refine ⟨ys.toArray, ?_, by simpa using h1⟩
  have := run_loadCells_list (P := P) w x ys h3
  rw [h2] at this
  exact this

/-! ### Storing -/
theorem Rel.store {ρ : Rho} {H H' : AHeap} {w : World} (h : Rel P ρ H w) {a x : Addr} (ha : addrr ρ a x) {vs ys : List Value} (hr : vrL ρ vs ys) (hs : H.store a vs = some H') :
    ∃ w', (storeCells x ys).run P w = .ok () w' ∧ Ext P ρ H w ρ H' w' := by
  obtain ⟨hsp, p, hp, rfl⟩ := ha
  have hlen := vrL_length hr
  unfold AHeap.store at hs
  split at hs
  · rename_i he
    subst he
    simp only [vrL] at hr
    subst hr
    obtain rfl := Option.some.inj hs
    exact ⟨w, by simp [storeCells], Ext.refl h⟩
  · rename_i hne
    split at hs
    · rename_i cs sz hg
      split at hs
      · rename_i hcond
        simp only [Bool.and_eq_true, decide_eq_true_eq] at hcond
        obtain rfl := Option.some.inj hs
        obtain ⟨c, t, fr, h1, h2, h3, h4, h5, h6⟩ := h.obj _ p _ hp hg
        refine ⟨_, run_storeCells' (p.base + a.off) ys 0 c w h1 (by omega) (vrL_one hr hcond.2) (fun j hj => ?_), ?_⟩
        · have := h6 rfl (a.off + j) (by omega)
          simpa [Nat.add_assoc] using this
        · have hsz : p.base + a.off + 0 + ys.length ≤ c.size := by omega
          refine Ext.put h hp hg h1 (by simp) (fun i hi => ?_) (by simpa using h3) (fun i v' hv => ?_)
          · rw [setMany_get _ _ _ _ hsz, if_neg (by omega)]
          · rw [setRow_get _ _ _ _ (by omega)] at hv
            rw [setMany_get _ _ _ _ hsz]
            by_cases hc : a.off ≤ i ∧ i < a.off + vs.length
            · rw [if_pos hc] at hv
              rw [if_pos (by omega)]
              obtain ⟨y, hy, hr'⟩ := vrL_get hr hv
              exact ⟨y, by rw [← hy]; congr 1; omega, hr'⟩
            · rw [if_neg hc] at hv
              rw [if_neg (by omega)]
              exact h5 i v' hv
      · cases hs
    · cases hs

theorem push_get (w : World) (o : Obj) : (World.push w o).heap[w.heap.size]? = some o := by
  show (w.heap.push o)[w.heap.size]? = some o
  simp

/-! ### Making a row -/
theorem Rel.newCells {ρ : Rho} {H : AHeap} {w : World} (h : Rel P ρ H w) (hf : ρ H.size = none) {cs : List Value} {ys : Array Value} (hr : vrL ρ cs ys.toList) (t : TypeId) (sz : Nat) (extra : Array Value) :
    Ext P ρ H w (upd ρ H.size ⟨w.heap.size, 0, ys.size + extra.size, sz⟩) (H.push (.cells cs false sz)) (World.push w (.cells (ys ++ extra) t)) := by
  refine Ext.alloc h hf _ _ _ _ ⟨ys ++ extra, t, (0, 0), push_get w _, by simp, ?_, rfl, fun i v' hv => ?_, fun _ i _ => by simp⟩
  · have := vrL_length hr
    simp at this
    simp only
    omega
  · obtain ⟨y, hy, hr'⟩ := vrL_get hr hv
    have hlt : i < ys.size := by
      have := (List.getElem?_eq_some_iff.1 hy).1
      simpa using this
    refine ⟨y, ?_, vr_mono (upd_le hf) _ _ hr'⟩
    simp only [Nat.zero_add, Array.getElem?_append, hlt, if_true]
    simpa using hy

theorem run_underlying' {t : TypeId} {d : TypeDesc} (h : P.underlying t = some d) (w : World) : (underlying t).run P w = .ok d w := Go.run_underlying h w

theorem run_sizeOf' {t : TypeId} {n : Nat} (h : tsize P t = some n) (w : World) : (sizeOf t).run P w = .ok n w := by
  unfold tsize at h
  cases hi : P.info? t with
  | none => rw [hi] at h; cases h
  | some i =>
    rw [hi] at h
    simp at h
    simp [sizeOf, typeInfo, hi, h]

theorem run_zeroValue' {t : TypeId} {z : Value} (h : tzero P t = some z) (w : World) : (zeroValue t).run P w = .ok z w := by
  unfold tzero at h
  cases hi : P.info? t with
  | none => rw [hi] at h; cases h
  | some i =>
    rw [hi] at h
    simp only [Option.bind_some] at h
    cases hz : i.zero with
    | none => rw [hz] at h; cases h
    | some z' =>
      rw [hz] at h
      simp only [Option.bind_some] at h
      split at h
      · obtain rfl := Option.some.inj h
        simp [zeroValue, typeInfo, hi, hz]
      · cases h

theorem tzero_flat {t : TypeId} {z : Value} (h : tzero P t = some z) : flat z = true := by
  unfold tzero at h
  cases hi : (P.info? t).bind (·.zero) with
  | none => rw [hi] at h; cases h
  | some z' =>
    rw [hi] at h
    simp only [Option.bind_some] at h
    split at h
    · obtain rfl := Option.some.inj h; assumption
    · cases h

theorem run_isAgg' {t : TypeId} {g : Bool} (h : tagg P t = some g) (w : World) : (isAgg t).run P w = .ok g w := by
  unfold tagg at h
  cases hu : P.underlying t with
  | none => rw [hu] at h; cases h
  | some d =>
    rw [hu] at h
    simp at h
    cases d <;> simp [isAgg, underlying, hu, aggDesc] at h ⊢ <;> exact h

end Go.Abs
