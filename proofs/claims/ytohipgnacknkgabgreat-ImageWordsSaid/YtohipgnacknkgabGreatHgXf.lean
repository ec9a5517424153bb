/-
  ABS, part Xf: what is to be shown of a piece of code, worked out step by step over values that are not known. (Own work.)
-/
import Derived.Test.YtohipgnacknkgabGreatHgXe
set_option linter.unusedSimpArgs false
set_option linter.unusedVariables false
namespace Go.Abs
open Go

/-! ### Operations -/

def viaO (o : Option (AR × AHeap)) (Q : AR → AHeap → Prop) : Prop :=
  match o with
  | some (r, H) => Q r H
  | none => False

def ptrW (o : Option Value) (K : Addr → Prop) : Prop :=
  match o with
  | some (.pointer (some a)) => K a
  | _ => False

def anyW (o : Option Value) (K : Value → Prop) : Prop :=
  match o with
  | some v => K v
  | none => False

def intW (o : Option Value) (K : IntKind → Int → Prop) : Prop :=
  match o with
  | some (.int k n) => K k n
  | _ => False

def rowsW (o : Option AObj) (K : List Value → Bool → Nat → Prop) : Prop :=
  match o with
  | some (.cells cs ro sz) => K cs ro sz
  | _ => False

def objW (o : Option AObj) (K : AObj → Prop) : Prop :=
  match o with
  | some o => K o
  | none => False
theorem objW_ok {o : Option AObj} {K : AObj → Prop} (h : objW o K) : ∃ a, o = some a ∧ K a := by
  unfold objW at h
  split at h
  · exact ⟨_, rfl, h⟩
  · exact h.elim

/-- A row, worked out as far as it goes. -/
def forceL : List Value → (List Value → Prop) → Prop
  | [], K => K []
  | x :: xs, K => forceL xs fun ys => K (x :: ys)
theorem forceL_iff (l : List Value) : ∀ (K : List Value → Prop), forceL l K ↔ K l := by
  induction l with
  | nil => exact fun _ => Iff.rfl
  | cons x xs ih => exact fun K => ih fun ys => K (x :: ys)
theorem forceL_ok {l : List Value} {K : List Value → Prop} (h : forceL l K) : K l := (forceL_iff l K).1 h
theorem forceL_skip {l : List Value} {K : List Value → Prop} (h : K l) : forceL l K := (forceL_iff l K).2 h

def cellW (H : AHeap) (a : Addr) (K : Value → Prop) : Prop := rowsW (H.get a.block) fun cs _ _ => anyW cs[a.off]? K
def rowW (H : AHeap) (a : Addr) (n : Nat) (K : List Value → Prop) : Prop := rowsW (H.get a.block) fun cs _ _ => a.off + n ≤ cs.length ∧ forceL ((cs.drop a.off).take n) K
def storeW (H : AHeap) (a : Addr) (vs : List Value) (K : AHeap → Prop) : Prop :=
  rowsW (H.get a.block) fun cs ro sz => ro = false ∧ vs.isEmpty = false ∧ (a.off + vs.length ≤ cs.length ∧ vs.all (·.oneCell') = true) ∧ forceL (setRow cs a.off vs) fun cs' => K (H.set a.block (.cells cs' false sz))

theorem viaO_ok {o : Option (AR × AHeap)} {Q : AR → AHeap → Prop} (h : viaO o Q) : ∃ r H, o = some (r, H) ∧ Q r H := by
  unfold viaO at h
  split at h
  · exact ⟨_, _, rfl, h⟩
  · exact h.elim
theorem ptrW_ok {o : Option Value} {K : Addr → Prop} (h : ptrW o K) : ∃ a, o = some (.pointer (some a)) ∧ K a := by
  unfold ptrW at h
  split at h
  · exact ⟨_, rfl, h⟩
  · exact h.elim
theorem anyW_ok {o : Option Value} {K : Value → Prop} (h : anyW o K) : ∃ a, o = some a ∧ K a := by
  unfold anyW at h
  split at h
  · exact ⟨_, rfl, h⟩
  · exact h.elim
theorem intW_ok {o : Option Value} {K : IntKind → Int → Prop} (h : intW o K) : ∃ k n, o = some (.int k n) ∧ K k n := by
  unfold intW at h
  split at h
  · exact ⟨_, _, rfl, h⟩
  · exact h.elim
theorem rowsW_ok {o : Option AObj} {K : List Value → Bool → Nat → Prop} (h : rowsW o K) : ∃ cs ro sz, o = some (.cells cs ro sz) ∧ K cs ro sz := by
  unfold rowsW at h
  split at h
  · exact ⟨_, _, _, rfl, h⟩
  · exact h.elim
theorem cellW_ok {H : AHeap} {a : Addr} {K : Value → Prop} (h : cellW H a K) : ∃ v, H.cell a = some v ∧ K v := by
  obtain ⟨cs, ro, sz, hg, h⟩ := rowsW_ok h
  obtain ⟨v, hv, h⟩ := anyW_ok h
  exact ⟨v, by simp only [AHeap.cell, hg, hv], h⟩
theorem rowW_ok {H : AHeap} {a : Addr} {n : Nat} {K : List Value → Prop} (h : rowW H a n K) : ∃ vs, H.row a n = some vs ∧ K vs := by
  obtain ⟨cs, ro, sz, hg, hl, h⟩ := rowsW_ok h
  exact ⟨_, by simp only [AHeap.row, hg, hl, if_true], forceL_ok h⟩
theorem storeW_ok {H : AHeap} {a : Addr} {vs : List Value} {K : AHeap → Prop} (h : storeW H a vs K) : ∃ H', H.store a vs = some H' ∧ K H' := by
  obtain ⟨cs, ro, sz, hg, rfl, hne, hl, h⟩ := rowsW_ok h
  have hne : ¬ vs = [] := by intro e; rw [e] at hne; cases hne
  exact ⟨_, by simp only [AHeap.store, hne, if_false, hg, hl.1, hl.2, decide_true, Bool.and_true, if_true], forceL_ok h⟩

def addW (a : Addr) (n : Nat) (K : Addr → Prop) : Prop :=
  match a with
  | ⟨b, o, none⟩ => K ⟨b, o + n, none⟩
  | _ => False
theorem addW_ok {a : Addr} {n : Nat} {K : Addr → Prop} (h : addW a n K) : K (a.add n) := by
  unfold addW at h
  split at h
  · rename_i b o
    have : (⟨b, o, none⟩ : Addr).add n = ⟨b, o + n, none⟩ := by
      unfold Addr.add
      split
      · rename_i hn; subst hn; rfl
      · rfl
    rw [this]; exact h
  · exact h.elim

def b1W (v : Option Value) (dflt y : Nat) (K : Nat → Prop) : Prop :=
  match v with
  | none => K dflt
  | some (.int _ i) => (0 ≤ i ∧ i ≤ y) ∧ K i.toNat
  | some _ => False
theorem b1W_ok {v : Option Value} {dflt y : Nat} {K : Nat → Prop} (h : b1W v dflt y K) : ∃ n, bound1 v dflt y = some n ∧ K n := by
  unfold b1W at h
  split at h
  · exact ⟨_, rfl, h⟩
  · exact ⟨_, by simp only [bound1, h.1.1, h.1.2, and_self, if_true], h.2⟩
  · exact h.elim

def boundsW (len cap : Nat) (lo hi mx : Option Value) (K : Nat → Nat → Nat → Prop) : Prop :=
  b1W mx cap cap fun m => b1W hi len m fun h => b1W lo 0 h fun l => K l h m
theorem boundsW_ok {len cap : Nat} {lo hi mx : Option Value} {K : Nat → Nat → Nat → Prop} (h : boundsW len cap lo hi mx K) : ∃ l q m, aBounds len cap lo hi mx = some (l, q, m) ∧ K l q m := by
  obtain ⟨m, hm, h⟩ := b1W_ok h
  obtain ⟨q, hq, h⟩ := b1W_ok h
  obtain ⟨l, hl, h⟩ := b1W_ok h
  exact ⟨l, q, m, by simp only [aBounds, hm, hq, hl], h⟩

/-- One of two, as a condition says. -/
def iteW (c : Prop) [Decidable c] (A B : Prop) : Prop := if c then A else B
theorem iteW_pos {c : Prop} [Decidable c] {A B : Prop} (hc : c) (h : A) : iteW c A B := by rw [iteW, if_pos hc]; exact h
theorem iteW_neg {c : Prop} [Decidable c] {A B : Prop} (hc : ¬ c) (h : B) : iteW c A B := by rw [iteW, if_neg hc]; exact h
theorem iteW_of {c : Prop} [Decidable c] {A B : Prop} (h1 : c → A) (h2 : ¬ c → B) : iteW c A B := by
  by_cases hc : c
  · exact iteW_pos hc (h1 hc)
  · exact iteW_neg hc (h2 hc)
theorem iteW_ok {c : Prop} [Decidable c] {A B : Prop} (h : iteW c A B) : if c then A else B := h

def sourceW (H : AHeap) (size : Nat) (x : Value) (K : Nat → List Value → Prop) : Prop :=
  match x with
  | .slice none 0 _ => K 0 []
  | .slice (some a) n _ => iteW (n = 0) (K 0 []) (rowW H a (n * size) (K n))
  | .string s => size = 1 ∧ K s.size (byteVals s)
  | _ => False
theorem sourceW_ok {H : AHeap} {size : Nat} {x : Value} {K : Nat → List Value → Prop} (h : sourceW H size x K) : ∃ n cs, H.source size x = some (n, cs) ∧ K n cs := by
  unfold sourceW at h
  simp only [iteW] at h
  split at h
  · exact ⟨_, _, rfl, h⟩
  · rename_i a n c
    by_cases hn : n = 0
    · subst hn
      simp only [if_true] at h
      exact ⟨_, _, by simp only [AHeap.source, if_true], h⟩
    · simp only [hn, if_false] at h
      obtain ⟨vs, hr, h⟩ := rowW_ok h
      exact ⟨_, _, by simp only [AHeap.source, hn, if_false, hr, Option.map_some], h⟩
  · exact ⟨_, _, by simp only [AHeap.source, h.1, if_true], h.2⟩
  · exact h.elim

def appendW (H : AHeap) (size bytes : Nat) (s : Value) (n : Nat) (new : List Value) (K : Value → AHeap → Prop) : Prop :=
  match s with
  | .slice none 0 0 => iteW (n = 0) (K s H) ((n * bytes ≤ mem) ∧ K (.slice (some ⟨H.size, 0, none⟩) n openCap) (H.push (.cells new false size)))
  | .slice (some a) l c =>
    iteW (n = 0) (K s H) <|
    iteW (c = openCap)
      (rowsW (H.get a.block) fun cs ro sz => ro = false ∧ ((sz = size ∧ 0 < l ∧ a.off + l * size = cs.length ∧ (l + n) * bytes ≤ mem ∧ new.all (·.oneCell')) ∧
          K (.slice (some ⟨H.size, 0, none⟩) (l + n) openCap) ((H.set a.block .dead).push (.cells (cs.drop a.off ++ new) false size)))) <|
    iteW (l + n ≤ c) (addW a (l * size) fun a' => storeW H a' new fun H' => K (.slice (some a) (l + n) c) H')
      (((l + n) * bytes ≤ mem) ∧ rowW H a (l * size) fun old => K (.slice (some ⟨H.size, 0, none⟩) (l + n) openCap) (H.push (.cells (old ++ new) false size)))
  | _ => False
theorem appendW_ok {H : AHeap} {size bytes : Nat} {s : Value} {n : Nat} {new : List Value} {K : Value → AHeap → Prop} (h : appendW H size bytes s n new K) :
    ∃ v H', aAppend H size bytes s n new = some (v, H') ∧ K v H' := by
  unfold appendW at h
  simp only [iteW] at h
  split at h
  · by_cases hn : n = 0
    · subst hn
      simp only [if_true] at h
      exact ⟨_, _, by simp only [aAppend, if_true], h⟩
    · simp only [hn, if_false] at h
      exact ⟨_, _, by simp only [aAppend, hn, if_false, h.1, if_true], h.2⟩
  · rename_i a l c
    by_cases hn : n = 0
    · subst hn
      simp only [if_true] at h
      exact ⟨_, _, by simp only [aAppend, if_true], h⟩
    · simp only [hn, if_false] at h
      by_cases hc : c = openCap
      · subst hc
        simp only [if_true] at h
        obtain ⟨cs, ro, sz, hg, rfl, hq, h⟩ := rowsW_ok h
        exact ⟨_, _, by simp only [aAppend, hn, if_false, if_true, hg, hq, and_self], h⟩
      · simp only [hc, if_false] at h
        by_cases hl : l + n ≤ c
        · simp only [hl, if_true] at h
          obtain ⟨H', hs, h⟩ := storeW_ok (addW_ok h)
          exact ⟨_, _, by simp only [aAppend, hn, if_false, hc, hl, if_true, hs], h⟩
        · simp only [hl, if_false] at h
          obtain ⟨hb, h⟩ := h
          obtain ⟨old, hr, h⟩ := rowW_ok h
          exact ⟨_, _, by simp only [aAppend, hn, if_false, hc, hl, hb, if_true, hr], h⟩
  · exact h.elim

def sliceW (size : Nat) (x : Option Value) (lo hi mx : Option (Option Value)) (H : AHeap) (Q : AR → AHeap → Prop) : Prop :=
  match x, lo, hi, mx with
  | some (.slice none len cap), some lo, some hi, some mx => boundsW len cap lo hi mx fun l h m => Q (.val (.slice none (h - l) (m - l))) H
  | some (.slice (some a) len cap), some lo, some hi, some mx =>
    iteW (cap = openCap)
      (boundsW len len lo hi mx fun l h m =>
        rowsW (H.get a.block) fun _ _ sz => sz = size ∧
          match mx with
          | none => iteW (len = 0) (Q (.val (.slice (some a) 0 openCap)) H) (addW a (l * size) fun a' => Q (.val (.slice (some a') (h - l) openCap)) H)
          | some _ => (¬ (len = 0 ∨ openCap ≤ m)) ∧ iteW (m = l) (Q (.val (.slice (some a) (h - l) (m - l))) H) (addW a (l * size) fun a' => Q (.val (.slice (some a') (h - l) (m - l))) H))
      (boundsW len cap lo hi mx fun l h m => iteW (m = l) (Q (.val (.slice (some a) (h - l) (m - l))) H) (addW a (l * size) fun a' => Q (.val (.slice (some a') (h - l) (m - l))) H))
  | _, _, _, _ => False

/-- What an operation leads to. -/
def aopW (op : IOp) (ev : Operand → Option Value) (H : AHeap) (Q : AR → AHeap → Prop) : Prop :=
  match op with
  | .load1 x => ptrW (ev x) fun a => cellW H a fun v => Q (.val v) H
  | .loadN n x => ptrW (ev x) fun a => rowW H a n fun vs => Q (.val (.agg vs.toArray)) H
  | .store n x y => ptrW (ev x) fun a => anyW (ev y) fun v => (vcells v).length = n ∧ storeW H a (vcells v) fun H' => Q .skip H'
  | .idxAddr size x i =>
    match ev x with
    | some (.slice (some a) len _) => intW (ev i) fun _ i => (0 ≤ i ∧ i < len) ∧ addW a (i.toNat * size) fun a => Q (.val (.pointer (some a))) H
    | _ => False
  | .idxAddrA n size x i => ptrW (ev x) fun a => intW (ev i) fun _ i => (0 ≤ i ∧ i < n) ∧ addW a (i.toNat * size) fun a => Q (.val (.pointer (some a))) H
  | .fieldAddr off x => ptrW (ev x) fun a => addW a off fun a => Q (.val (.pointer (some a))) H
  | .slice size x lo hi mx => sliceW size (ev x) (evo ev lo) (evo ev hi) (evo ev mx) H Q
  | .append size bytes s x => anyW (ev s) fun s => anyW (ev x) fun x => sourceW H size x fun n new => appendW H size bytes s n new fun v H' => Q (.val v) H'
  | .mkSlice size zero bytes l c => intW (ev l) fun _ l => intW (ev c) fun _ c => (0 ≤ l ∧ l ≤ c ∧ bytes * c ≤ 281474976710656) ∧
      Q (.val (.slice (some ⟨H.size, 0, none⟩) l.toNat c.toNat)) (H.push (.cells ((List.range (c.toNat * size)).map fun i => zero.getD (i % size) .nilFunc) false size))
  | .bin .quo _ x y => intW (ev x) fun k x => intW (ev y) fun k' y => (k = k' ∧ y ≠ 0) ∧ Q (.val (.int k (k.wrap (x.tdiv y)))) H
  | .bin .rem _ x y => intW (ev x) fun k x => intW (ev y) fun k' y => (k = k' ∧ y ≠ 0) ∧ Q (.val (.int k (x.tmod y))) H
  | .bin .shl _ x y => intW (ev x) fun k x => intW (ev y) fun _ y => (0 ≤ y) ∧ Q (.val (.int k (k.wrap (x * 2 ^ (min y.toNat k.bits))))) H
  | .bin .shr _ x y => intW (ev x) fun k x => intW (ev y) fun _ y => (0 ≤ y) ∧ Q (.val (.int k (x.fdiv (2 ^ (min y.toNat k.bits))))) H
  | .idxA1 n size x i =>
    match ev x with
    | some (.agg cs) => intW (ev i) fun _ i => (0 ≤ i ∧ i < n) ∧ anyW cs.toList[i.toNat * size]? fun v => Q (.val v) H
    | _ => False
  | op => viaO (aopK op ev H) Q

theorem aopW_ok {op : IOp} {ev : Operand → Option Value} {H : AHeap} {Q : AR → AHeap → Prop} (h : aopW op ev H Q) : ∃ r H', aop op ev H = some (r, H') ∧ Q r H' := by
  unfold aopW at h
  split at h
  · obtain ⟨a, ha, h⟩ := ptrW_ok h
    obtain ⟨v, hv, h⟩ := cellW_ok h
    exact ⟨_, _, by simp only [aop, ha, hv, Option.bind_eq_bind, Option.bind_some, val], h⟩
  · obtain ⟨a, ha, h⟩ := ptrW_ok h
    obtain ⟨v, hv, h⟩ := rowW_ok h
    exact ⟨_, _, by simp only [aop, ha, hv, Option.bind_eq_bind, Option.bind_some, val], h⟩
  · obtain ⟨a, ha, h⟩ := ptrW_ok h
    obtain ⟨v, hv, h⟩ := anyW_ok h
    obtain ⟨hl, h⟩ := h
    obtain ⟨H', hs, h⟩ := storeW_ok h
    exact ⟨_, _, by simp only [aop, ha, hv, hl, if_true, hs, Option.bind_eq_bind, Option.bind_some], h⟩
  · split at h
    · rename_i a len c hx
      obtain ⟨k, i, hi, hb, h⟩ := intW_ok h
      exact ⟨_, _, by simp only [aop, hx, hi, hb, and_self, if_true, val], addW_ok h⟩
    · exact h.elim
  · obtain ⟨a, ha, h⟩ := ptrW_ok h
    obtain ⟨k, i, hi, hb, h⟩ := intW_ok h
    exact ⟨_, _, by simp only [aop, ha, hi, hb, and_self, if_true, val], addW_ok h⟩
  · obtain ⟨a, ha, h⟩ := ptrW_ok h
    exact ⟨_, _, by simp only [aop, ha, val], addW_ok h⟩
  · rename_i size x lo hi mx
    unfold sliceW at h
    simp only [iteW] at h
    split at h
    · rename_i len cap lo' hi' mx' e1 e2 e3 e4
      obtain ⟨l, q, m, hb, h⟩ := boundsW_ok h
      exact ⟨_, _, by simp only [aop, e1, e2, e3, e4, hb, val], h⟩
    · rename_i a len cap lo' hi' mx' e1 e2 e3 e4
      by_cases hc : cap = openCap
      · simp only [hc, if_true] at h
        obtain ⟨l, q, m, hb, h⟩ := boundsW_ok h
        obtain ⟨cs, ro, sz, hg, rfl, h⟩ := rowsW_ok h
        cases mx' with
        | none =>
          simp only at h
          by_cases hl : len = 0
          · simp only [hl, if_true] at h
            exact ⟨_, _, by simp only [aop, e1, e2, e3, e4, hc, if_true, hb, hg, if_pos hl, val], h⟩
          · simp only [hl, if_false] at h
            exact ⟨_, _, by simp only [aop, e1, e2, e3, e4, hc, if_true, hb, hg, if_neg hl, val], addW_ok h⟩
        | some v =>
          simp only at h
          obtain ⟨hn, h⟩ := h
          by_cases hl : m = l
          · simp only [if_pos hl] at h
            exact ⟨_, _, by simp only [aop, e1, e2, e3, e4, hc, if_true, hb, hg, if_neg hn, if_pos hl, val], h⟩
          · simp only [hl, if_false] at h
            exact ⟨_, _, by simp only [aop, e1, e2, e3, e4, hc, if_true, hb, hg, if_neg hn, if_neg hl, val], addW_ok h⟩
      · simp only [hc, if_false] at h
        obtain ⟨l, q, m, hb, h⟩ := boundsW_ok h
        by_cases hl : m = l
        · simp only [hl, if_true] at h
          exact ⟨_, _, by simp only [aop, e1, e2, e3, e4, hc, if_false, hb, val, hl, if_true], h⟩
        · simp only [hl, if_false] at h
          exact ⟨_, _, by simp only [aop, e1, e2, e3, e4, hc, if_false, hb, val, hl], addW_ok h⟩
    · exact h.elim
  · obtain ⟨s, hs, h⟩ := anyW_ok h
    obtain ⟨x, hx, h⟩ := anyW_ok h
    obtain ⟨n, new, hsrc, h⟩ := sourceW_ok h
    obtain ⟨v, H', ha, h⟩ := appendW_ok h
    exact ⟨_, _, by simp only [aop, hs, hx, hsrc, ha, val], h⟩
  · obtain ⟨k, l, hl, h⟩ := intW_ok h
    obtain ⟨k', c, hc, hb, h⟩ := intW_ok h
    exact ⟨_, _, by simp only [aop, hl, hc, hb, and_self, if_true, val], h⟩
  · obtain ⟨k, a, ha, h⟩ := intW_ok h
    obtain ⟨k', b, hb, hk, h⟩ := intW_ok h
    obtain ⟨rfl, hk⟩ := hk
    exact ⟨_, _, by simp only [aop, ha, hb, vbin, if_true, ibin, hk, if_false, val, Option.bind_eq_bind, Option.bind_some], h⟩
  · obtain ⟨k, a, ha, h⟩ := intW_ok h
    obtain ⟨k', b, hb, hk, h⟩ := intW_ok h
    obtain ⟨rfl, hk⟩ := hk
    exact ⟨_, _, by simp only [aop, ha, hb, vbin, if_true, ibin, hk, if_false, val, Option.bind_eq_bind, Option.bind_some], h⟩
  · obtain ⟨k, a, ha, h⟩ := intW_ok h
    obtain ⟨k', b, hb, hk, h⟩ := intW_ok h
    have hk' : ¬ b < 0 := by omega
    exact ⟨_, _, by simp only [aop, ha, hb, vbin, ishift, hk', if_false, val, Option.bind_eq_bind, Option.bind_some], h⟩
  · obtain ⟨k, a, ha, h⟩ := intW_ok h
    obtain ⟨k', b, hb, hk, h⟩ := intW_ok h
    have hk' : ¬ b < 0 := by omega
    exact ⟨_, _, by simp only [aop, ha, hb, vbin, ishift, hk', if_false, val, Option.bind_eq_bind, Option.bind_some], h⟩
  · split at h
    · rename_i cs hx
      obtain ⟨k, i, hi, hb, h⟩ := intW_ok h
      obtain ⟨v, hv, h⟩ := anyW_ok h
      exact ⟨_, _, by simp only [aop, hx, hi, hb, and_self, if_true, hv, val, Option.bind_eq_bind, Option.bind_some], h⟩
    · exact h.elim
  · obtain ⟨r, H', hr, h⟩ := viaO_ok h
    exact ⟨_, _, by rw [← aopK_eq]; exact hr, h⟩

/-! ### Regions -/

def WCall (P : Program) (f : Nat) (args : List Value) (H : AHeap) (K : AE → AHeap → Prop) : Prop := ∃ r H', CallOk P f args H r H' ∧ K r H'

/-- Is an operation done? -/
def guardW (g : Option (Nat × Bool)) (ts : Tmps) (A B : Prop) : Prop :=
  match g with
  | none => A
  | some (d, b) =>
    match ts.get d with
    | some (.bool c) => (match c with | true => (match b with | true => A | false => B) | false => (match b with | true => B | false => A))
    | some (.tuple _) => B
    | _ => False

theorem guardW_ok {g : Option (Nat × Bool)} {ts : Tmps} {A B : Prop} (h : guardW g ts A B) : (want g ts = some true ∧ A) ∨ (want g ts = some false ∧ B) := by
  unfold guardW at h
  split at h
  · exact .inl ⟨rfl, h⟩
  · rename_i d b
    split at h
    · rename_i c hc
      cases c <;> cases b <;> simp only at h
      · exact .inl ⟨by simp [want, hc], h⟩
      · exact .inr ⟨by simp [want, hc], h⟩
      · exact .inr ⟨by simp [want, hc], h⟩
      · exact .inl ⟨by simp [want, hc], h⟩
    · rename_i hc
      exact .inr ⟨by simp [want, hc], h⟩
    · exact h.elim

/-- A table in which a place is laid; the table is worked out. -/
def setW {α : Type} (a : α) : Nat → Nat → Trie α → (Trie α → Prop) → Prop
  | 0, _, t, K => K t
  | _ + 1, 0, .leaf, K => K (.node (some a) .leaf .leaf)
  | _ + 1, 0, .node _ l r, K => K (.node (some a) l r)
  | f + 1, k + 1, .leaf, K => bif Nat.beq (k % 2) 0 then setW a f (k / 2) .leaf (fun l => K (.node none l .leaf)) else setW a f (k / 2) .leaf (fun r => K (.node none .leaf r))
  | f + 1, k + 1, .node v l r, K => bif Nat.beq (k % 2) 0 then setW a f (k / 2) l (fun l => K (.node v l r)) else setW a f (k / 2) r (fun r => K (.node v l r))

theorem setW_ok {α : Type} (a : α) : ∀ (f k : Nat) (t : Trie α) (K : Trie α → Prop), setW a f k t K → K (Trie.setF f k a t)
  | 0, _, t, K, h => h
  | _ + 1, 0, .leaf, K, h => h
  | _ + 1, 0, .node _ l r, K, h => h
  | f + 1, k + 1, .leaf, K, h => by
    simp only [setW] at h
    simp only [Trie.setF]
    cases hb : Nat.beq (k % 2) 0 <;> simp only [hb, cond_true, cond_false] at h ⊢ <;> exact setW_ok a f (k / 2) _ _ h
  | f + 1, k + 1, .node v l r, K, h => by
    simp only [setW] at h
    simp only [Trie.setF]
    cases hb : Nat.beq (k % 2) 0 <;> simp only [hb, cond_true, cond_false] at h ⊢ <;> exact setW_ok a f (k / 2) _ _ h

def putW (ts : Tmps) (d : Option Nat) (v : Value) (K : Tmps → Prop) : Prop :=
  match d with
  | none => K ts
  | some i =>
    match ts with
    | ⟨n, t⟩ => bif Nat.ble (i + 1) n then setW v (i + 1) i t (fun t => K ⟨n, t⟩) else K ⟨n, t⟩

theorem putW_ok {ts : Tmps} {ds : List Deferred} {H : AHeap} {d : Option Nat} {v : Value} {K : Tmps → Prop} (h : putW ts d v K) : ∃ ts', ({ ts, ds, H : ASt }.put d v) = { ts := ts', ds, H } ∧ K ts' := by
  cases d with
  | none => exact ⟨_, rfl, h⟩
  | some i =>
    obtain ⟨n, t⟩ := ts
    refine ⟨_, rfl, ?_⟩
    rw [Tmps.put_eq]
    simp only [putW] at h
    cases hb : Nat.ble (i + 1) n
    · simp only [hb, cond_false] at h ⊢
      exact h
    · simp only [hb, cond_true] at h ⊢
      exact setW_ok v (i + 1) i t _ h

def fillW : Nat → List Value → Trie Value → (Trie Value → Prop) → Prop
  | _, [], t, K => K t
  | i, v :: vs, t, K => setW v (i + 1) i t fun t => fillW (i + 1) vs t K
theorem fillW_ok : ∀ (vs : List Value) (i : Nat) (t : Trie Value) (K : Trie Value → Prop), fillW i vs t K → K (Tmps.fillFrom i vs t)
  | [], i, t, K, h => h
  | v :: vs, i, t, K, h => fillW_ok vs (i + 1) _ K (setW_ok v (i + 1) i t _ h)

def numW (n : Nat) (K : Nat → Prop) : Prop :=
  match n with
  | 0 => K 0
  | m + 1 => K (m + 1)
theorem numW_ok {n : Nat} {K : Nat → Prop} (h : numW n K) : K n := by cases n <;> exact h

def enterW (n : Nat) (args : List Value) (K : Tmps → Prop) : Prop := numW (args.length + (n - args.length)) fun m => fillW 0 args .leaf fun t => K ⟨m, t⟩
theorem enterW_ok {n : Nat} {args : List Value} {K : Tmps → Prop} (h : enterW n args K) : K (Tmps.enter n args) := by
  have := fillW_ok args 0 .leaf _ (numW_ok h)
  exact this

def retW (r : AE) (H : AHeap) (A : Value → AHeap → Prop) (B : Value → AHeap → Prop) : Prop :=
  match r with
  | .ret v => A v H
  | .panic v => B v H

/-- What is to come of a piece of code. -/
abbrev Post3 := AX → Tmps → List Deferred → AHeap → Prop

def arW (P : Program) (rd : Option Nat) (d : Option Nat) (ts : Tmps) (ds : List Deferred) (K : Tmps → List Deferred → AHeap → Prop) (X : Value → Tmps → List Deferred → AHeap → Prop) (r : AR) (H : AHeap) : Prop :=
  match r with
  | .val v => putW ts d v fun ts => K ts ds H
  | .skip => putW ts d undef fun ts => K ts ds H
  | .panic v => X v ts ds H
  | .enter f args => WCall P f args H fun r H' => retW r H' (fun v H' => putW ts d v fun ts => K ts ds H') (fun v H' => X v ts ds H')
  | .defer e =>
    match rd with
    | none => putW ts d undef fun ts => K ts (e :: ds) H
    | some _ => False
  | .round _ _ => False
  | .recover => False

def wpOps (P : Program) (rd : Option Nat) : List IOper → Tmps → List Deferred → AHeap → Post3 → Prop
  | [], ts, ds, H, Q => Q .normal ts ds H
  | ⟨d, op, g⟩ :: os, ts, ds, H, Q =>
    guardW g ts (aopW op (aev ts) H (arW P rd d ts ds (fun ts ds H => wpOps P rd os ts ds H Q) (fun v ts ds H => Q (.panic v) ts ds H))) (putW ts d undef fun ts => wpOps P rd os ts ds H Q)

theorem stepR_of {P : Program} {rd : Option Nat} {o : IOper} {ts : Tmps} {ds : List Deferred} {H0 : AHeap} {K : Tmps → List Deferred → AHeap → Prop} {X : Value → Tmps → List Deferred → AHeap → Prop}
    (hw : want o.guard ts = some true) (h : aopW o.op (aev ts) H0 (arW P rd o.dst ts ds K X)) :
    (∃ ts1 ds1 H1, StepR P rd o ⟨ts, ds, H0⟩ .normal ⟨ts1, ds1, H1⟩ ∧ K ts1 ds1 H1) ∨ ∃ v ts1 ds1 H1, StepR P rd o ⟨ts, ds, H0⟩ (.panic v) ⟨ts1, ds1, H1⟩ ∧ X v ts1 ds1 H1 := by
  obtain ⟨r, H, ha, h⟩ := aopW_ok h
  have ha' : aopK o.op (aev ts) H0 = some (r, H) := by rw [aopK_eq]; exact ha
  cases r with
  | val v =>
    simp only [arW] at h
    obtain ⟨ts', he, hk⟩ := putW_ok (ds := ds) (H := H) h
    exact .inl ⟨_, _, _, ⟨Ev.none, none_code, none_call, by simp only [stepOp, hw, ha', he]⟩, hk⟩
  | skip =>
    simp only [arW] at h
    obtain ⟨ts', he, hk⟩ := putW_ok (ds := ds) (H := H) h
    exact .inl ⟨_, _, _, ⟨Ev.none, none_code, none_call, by simp only [stepOp, hw, ha', he]⟩, hk⟩
  | panic v => exact .inr ⟨v, _, _, _, ⟨Ev.none, none_code, none_call, by simp only [stepOp, hw, ha']⟩, h⟩
  | enter f args =>
    obtain ⟨r, H', hc, h⟩ := h
    cases r with
    | ret v =>
      simp only [retW] at h
      obtain ⟨ts', he, hk⟩ := putW_ok (ds := ds) (H := H') h
      exact .inl ⟨_, _, _, ⟨{ Ev.none with call := oneF f args H (.ret v) H' }, none_code, oneF_ok hc _, by simp only [stepOp, hw, ha', oneF, and_self, if_true, he]⟩, hk⟩
    | panic v => exact .inr ⟨v, _, _, _, ⟨{ Ev.none with call := oneF f args H (.panic v) H' }, none_code, oneF_ok hc _, by simp only [stepOp, hw, ha', oneF, and_self, if_true]⟩, h⟩
  | defer d =>
    cases rd with
    | none =>
      simp only [arW] at h
      obtain ⟨ts', he, hk⟩ := putW_ok (ds := d :: ds) (H := H) h
      exact .inl ⟨_, _, _, ⟨Ev.none, none_code, none_call, by simp only [stepOp, hw, ha', he]⟩, hk⟩
    | some l => exact h.elim
  | round l args => exact h.elim
  | recover => exact h.elim

theorem wpOps_ok {P : Program} {rd : Option Nat} : ∀ {l : List IOper} {ts : Tmps} {ds : List Deferred} {H : AHeap} {Q : Post3}, wpOps P rd l ts ds H Q → ∃ x ts' ds' H', OpsR P rd l ⟨ts, ds, H⟩ x ⟨ts', ds', H'⟩ ∧ Q x ts' ds' H'
  | [], ts, ds, H, Q, h => ⟨_, _, _, _, .nil _, h⟩
  | ⟨d, op, g⟩ :: os, ts, ds, H, Q, h => by
    simp only [wpOps] at h
    rcases guardW_ok h with ⟨hw, h⟩ | ⟨hw, h⟩
    · rcases stepR_of (o := ⟨d, op, g⟩) hw h with ⟨ts1, ds1, H1, h1, h⟩ | ⟨v, ts1, ds1, H1, h1, h⟩
      · obtain ⟨x, ts', ds', H', h2, hq⟩ := wpOps_ok h
        exact ⟨x, _, _, _, .next h1 h2, hq⟩
      · exact ⟨_, _, _, _, .stop h1, h⟩
    · obtain ⟨ts1, he, h⟩ := putW_ok (ds := ds) (H := H) h
      obtain ⟨x, ts', ds', H', h2, hq⟩ := wpOps_ok h
      exact ⟨x, _, _, _, .next ⟨Ev.none, none_code, none_call, by simp only [stepOp, hw, he]⟩ h2, hq⟩

/-! ### Code -/

def WLoop (P : Program) (rd : Option Nat) (b : ICode) (ts : Tmps) (ds : List Deferred) (H : AHeap) (Q : Post3) : Prop := ∃ x ts' ds' H', SL P rd b ⟨ts, ds, H⟩ x ⟨ts', ds', H'⟩ ∧ Q x ts' ds' H'
def WScope (P : Program) (rd : Option Nat) (b c : ICode) (ts : Tmps) (ds : List Deferred) (H : AHeap) (Q : Post3) : Prop := ∃ x ts' ds' H', SS P rd b c ⟨ts, ds, H⟩ x ⟨ts', ds', H'⟩ ∧ Q x ts' ds' H'
def WCode (P : Program) (rd : Option Nat) (c : ICode) (ts : Tmps) (ds : List Deferred) (H : AHeap) (Q : Post3) : Prop := ∃ x ts' ds' H', SC P rd c ⟨ts, ds, H⟩ x ⟨ts', ds', H'⟩ ∧ Q x ts' ds' H'

def thenX (x : AX) (A : Prop) (B : Prop) : Prop :=
  match x with
  | .normal => A
  | _ => B

def condW (o : Option Value) (A B : Prop) : Prop :=
  match o with
  | some (.bool b) => (match b with | true => A | false => B)
  | _ => False

def endL2 (l : Nat) (ts : Tmps) (ds : List Deferred) (H : AHeap) (Q : Post3) (o : AObj) : Prop :=
  match o with
  | .loop L =>
    match L.state with
    | .busy => False
    | _ =>
      match L.pending with
      | none => Q .normal ts ds (H.set l (.loop { L with state := .exhausted }))
      | some j => Q (.jump j) ts ds (H.set l (.loop { L with state := .exhausted }))
  | _ => False
def endW (l : Nat) (ts : Tmps) (ds : List Deferred) (H : AHeap) (Q : Post3) : Prop := objW (H.get l) (endL2 l ts ds H Q)

def enterL2 (rd : Option Nat) (ts : Tmps) (H : AHeap) (params : Array Tmp) (assign body : ICode) : Option (Nat × List Deferred × AHeap) :=
  match rd with
  | none => some (H.size + 1, [{ target := .collected H.size, args := #[] }],
      (H.push (.defd (some []))).push (.loop { state := .ready, pending := none, tmps := ts, params, assign, body, defers := H.size }))
  | some l =>
    match H.get l with
    | some (.loop L) => some (H.size, [], H.push (.loop { state := .ready, pending := none, tmps := ts, params, assign, body, defers := L.defers }))
    | _ => none
theorem enterL2_eq (rd : Option Nat) (ts : Tmps) (ds : List Deferred) (H : AHeap) (params : Array Tmp) (assign body : ICode) : enterL2 rd ts H params assign body = enterL rd ⟨ts, ds, H⟩ params assign body := by
  cases rd <;> rfl

def rfW (P : Program) (rd : Option Nat) (ts : Tmps) (ds : List Deferred) (H : AHeap) (params : Array Tmp) (assign body : ICode) (o : Option Value) (Q : Post3) : Prop :=
  match o, enterL2 rd ts H params assign body with
  | some (.func (.func g) first captured), some (l, mark, H) =>
    WCall P g (first.toList ++ [.func (.yield l) #[] #[]] ++ captured.toList) H fun r H' => retW r H' (fun _ H' => endW l ts (mark ++ ds) H' Q) (fun v H' => Q (.panic v) ts (mark ++ ds) H')
  | _, _ => False

def wpC (P : Program) (rd : Option Nat) : ICode → Tmps → List Deferred → AHeap → Post3 → Prop
  | .skip, ts, ds, H, Q => Q .normal ts ds H
  | .label _, ts, ds, H, Q => Q .normal ts ds H
  | .region ops none, ts, ds, H, Q => wpOps P rd ops ts ds H Q
  | .region ops (some is), ts, ds, H, Q => WCode P rd (.region ops (some is)) ts ds H Q
  | .seq a b, ts, ds, H, Q => wpC P rd a ts ds H fun x ts ds H => thenX x (wpC P rd b ts ds H Q) (Q x ts ds H)
  | .cond c a b, ts, ds, H, Q => condW (aev ts c) (wpC P rd a ts ds H Q) (wpC P rd b ts ds H Q)
  | .block id b, ts, ds, H, Q => wpC P rd b ts ds H fun x => Q (blockX id x)
  | .loop b, ts, ds, H, Q => WLoop P rd b ts ds H Q
  | .rangeFunc f ps a b, ts, ds, H, Q => rfW P rd ts ds H ps a b (aev ts f) Q
  | .exit id, ts, ds, H, Q => Q (.jump (.exit id)) ts ds H
  | .goto l, ts, ds, H, Q => Q (.jump (.goto l)) ts ds H
  | .ret, ts, ds, H, Q => Q (.jump .ret) ts ds H
  | .scope b, ts, ds, H, Q => WScope P rd b b ts ds H Q

theorem endW_ok {l : Nat} {ts : Tmps} {ds : List Deferred} {H : AHeap} {Q : Post3} (h : endW l ts ds H Q) : ∃ x ts' ds' H', endL l ⟨ts, ds, H⟩ = some (x, ⟨ts', ds', H'⟩) ∧ Q x ts' ds' H' := by
  obtain ⟨o, hg, h⟩ := objW_ok h
  unfold endL2 at h
  split at h
  · rename_i L
    split at h
    · exact h.elim
    · rename_i hb
      split at h
      · rename_i hp
        refine ⟨_, _, _, _, ?_, h⟩
        unfold endL
        simp only [hg]
        cases hs : L.state <;> first | exact absurd hs hb | (simp only []; rw [hp]) | rw [hp]
      · rename_i j hp
        refine ⟨_, _, _, _, ?_, h⟩
        unfold endL
        simp only [hg]
        cases hs : L.state <;> first | exact absurd hs hb | (simp only []; rw [hp]) | rw [hp]
  · exact h.elim

theorem wpC_ok {P : Program} {rd : Option Nat} : ∀ {c : ICode} {ts : Tmps} {ds : List Deferred} {H : AHeap} {Q : Post3}, wpC P rd c ts ds H Q → ∃ x ts' ds' H', SC P rd c ⟨ts, ds, H⟩ x ⟨ts', ds', H'⟩ ∧ Q x ts' ds' H'
  | .skip, ts, ds, H, Q, h => ⟨_, _, _, _, SC.skip, h⟩
  | .label _, ts, ds, H, Q, h => ⟨_, _, _, _, SC.label, h⟩
  | .region ops none, ts, ds, H, Q, h => by
    obtain ⟨x, ts', ds', H', h1, h2⟩ := wpOps_ok h
    exact ⟨x, _, _, _, SC.region h1, h2⟩
  | .region ops (some is), ts, ds, H, Q, h => h
  | .seq a b, ts, ds, H, Q, h => by
    simp only [wpC] at h
    obtain ⟨x, ts1, ds1, H1, h1, h⟩ := wpC_ok h
    cases x with
    | normal =>
      obtain ⟨x, ts', ds', H', h2, h⟩ := wpC_ok (show wpC P rd b ts1 ds1 H1 Q from h)
      exact ⟨x, _, _, _, SC.seq h1 h2, h⟩
    | jump j => exact ⟨_, _, _, _, SC.seq_stop h1 (by simp), h⟩
    | panic v => exact ⟨_, _, _, _, SC.seq_stop h1 (by simp), h⟩
  | .cond c a b, ts, ds, H, Q, h => by
    simp only [wpC] at h
    unfold condW at h
    split at h
    · rename_i t hv
      cases t with
      | true =>
        obtain ⟨x, ts', ds', H', h2, h⟩ := wpC_ok (show wpC P rd a ts ds H Q from h)
        exact ⟨x, _, _, _, SC.cond hv h2, h⟩
      | false =>
        obtain ⟨x, ts', ds', H', h2, h⟩ := wpC_ok (show wpC P rd b ts ds H Q from h)
        exact ⟨x, _, _, _, SC.cond hv h2, h⟩
    · exact h.elim
  | .block id b, ts, ds, H, Q, h => by
    simp only [wpC] at h
    obtain ⟨x, ts', ds', H', h1, h⟩ := wpC_ok h
    exact ⟨_, _, _, _, SC.block h1, h⟩
  | .loop b, ts, ds, H, Q, h => by
    obtain ⟨x, ts', ds', H', h1, h⟩ := h
    exact ⟨x, _, _, _, SC.loop h1, h⟩
  | .rangeFunc f ps a b, ts, ds, H, Q, h => by
    simp only [wpC] at h
    unfold rfW at h
    split at h
    · rename_i g first captured l mark H1 hv he
      rw [enterL2_eq rd ts ds H] at he
      obtain ⟨r, H', hc, h⟩ := h
      cases r with
      | ret v =>
        obtain ⟨x, ts', ds', H', h1, h⟩ := endW_ok h
        exact ⟨x, _, _, _, SC.rangeFunc hv he hc h1, h⟩
      | panic v => exact ⟨_, _, _, _, SC.rangeFunc hv he hc ⟨rfl, rfl⟩, h⟩
    · exact h.elim
  | .exit id, ts, ds, H, Q, h => ⟨_, _, _, _, SC.exit, h⟩
  | .goto l, ts, ds, H, Q, h => ⟨_, _, _, _, SC.goto, h⟩
  | .ret, ts, ds, H, Q, h => ⟨_, _, _, _, SC.ret, h⟩
  | .scope b, ts, ds, H, Q, h => by
    obtain ⟨x, ts', ds', H', h1, h⟩ := h
    exact ⟨x, _, _, _, SC.scope h1, h⟩

theorem WLoop.of {P : Program} {rd : Option Nat} {b : ICode} {ts : Tmps} {ds : List Deferred} {H : AHeap} {Q : Post3} (h : wpC P rd b ts ds H fun x ts ds H => thenX x (WLoop P rd b ts ds H Q) (Q x ts ds H)) : WLoop P rd b ts ds H Q := by
  obtain ⟨x, ts1, ds1, H1, h1, h⟩ := wpC_ok h
  cases x with
  | normal =>
    obtain ⟨x, ts', ds', H', h2, h⟩ := h
    exact ⟨x, _, _, _, SL.next h1 h2, h⟩
  | jump j => exact ⟨_, _, _, _, SL.stop h1 (by simp), h⟩
  | panic v => exact ⟨_, _, _, _, SL.stop h1 (by simp), h⟩

def gotoW (P : Program) (rd : Option Nat) (b : ICode) (x : AX) (ts : Tmps) (ds : List Deferred) (H : AHeap) (Q : Post3) : Prop :=
  match x with
  | .jump (.goto l) =>
    match iFind b l with
    | some rest => WScope P rd b rest ts ds H Q
    | none => Q x ts ds H
  | x => Q x ts ds H

theorem WScope.of {P : Program} {rd : Option Nat} {b c : ICode} {ts : Tmps} {ds : List Deferred} {H : AHeap} {Q : Post3} (h : wpC P rd c ts ds H fun x ts ds H => gotoW P rd b x ts ds H Q) : WScope P rd b c ts ds H Q := by
  obtain ⟨x, ts1, ds1, H1, h1, h⟩ := wpC_ok h
  cases x with
  | normal => exact ⟨_, _, _, _, SS.stop h1 (by simp), h⟩
  | panic v => exact ⟨_, _, _, _, SS.stop h1 (by simp), h⟩
  | jump j =>
    cases j with
    | exit id => exact ⟨_, _, _, _, SS.stop h1 (by simp), h⟩
    | ret => exact ⟨_, _, _, _, SS.stop h1 (by simp), h⟩
    | goto l =>
      simp only [gotoW] at h
      split at h
      · rename_i rest hf
        obtain ⟨x, ts', ds', H', h2, h⟩ := h
        exact ⟨x, _, _, _, SS.goto h1 hf h2, h⟩
      · rename_i hf
        exact ⟨_, _, _, _, SS.stop h1 (by rintro l' rest e; cases e; rw [hf]; simp), h⟩

/-! ### Calls -/

def resW (ts : Tmps) (H : AHeap) : List IRes → (List Value → Prop) → Prop
  | [], K => K []
  | .tmp t :: rs, K => anyW (ts.get t) fun v => resW ts H rs fun vs => K (v :: vs)
  | .cell1 a :: rs, K => ptrW (ts.get a) fun a => cellW H a fun v => resW ts H rs fun vs => K (v :: vs)
  | .cellN a n :: rs, K => ptrW (ts.get a) fun a => rowW H a n fun cs => resW ts H rs fun vs => K (.agg cs.toArray :: vs)

theorem resW_ok {ts : Tmps} {H : AHeap} : ∀ {rs : List IRes} {K : List Value → Prop}, resW ts H rs K → ∃ vs, resAll ts H rs = some vs ∧ K vs
  | [], K, h => ⟨_, rfl, h⟩
  | .tmp t :: rs, K, h => by
    obtain ⟨v, hv, h⟩ := anyW_ok h
    obtain ⟨vs, hvs, h⟩ := resW_ok h
    exact ⟨_, by simp only [resAll, resOf, hv, hvs], h⟩
  | .cell1 a :: rs, K, h => by
    obtain ⟨a, ha, h⟩ := ptrW_ok h
    obtain ⟨v, hv, h⟩ := cellW_ok h
    obtain ⟨vs, hvs, h⟩ := resW_ok h
    exact ⟨_, by simp only [resAll, resOf, ha, hv, hvs], h⟩
  | .cellN a n :: rs, K, h => by
    obtain ⟨a, ha, h⟩ := ptrW_ok h
    obtain ⟨v, hv, h⟩ := rowW_ok h
    obtain ⟨vs, hvs, h⟩ := resW_ok h
    exact ⟨_, by simp only [resAll, resOf, ha, hv, Option.map_some, hvs], h⟩

def tupV : List Value → Value
  | [v] => v
  | vs => .tuple vs.toArray

def WCallD (P : Program) (f : Nat) (args : List Value) (m : Option Value) (H : AHeap) (K : Option Value → AHeap → Prop) : Prop := ∃ m' H', CallDR P f args m H m' H' ∧ K m' H'

def emptyW (o : AObj) (A : Prop) : Prop :=
  match o with
  | .defd (some []) => A
  | _ => False

def leaveW (P : Program) (fn : AFn) (ts : Tmps) : List Deferred → Option Value → AHeap → (AE → AHeap → Prop) → Prop
  | [], none, H, K => resW ts H fn.results fun vs => K (.ret (tupV vs)) H
  | [], some v, H, K => K (.panic v) H
  | d :: ds, m, H, K =>
    match d.target with
    | .collected r =>
      objW (H.get r) fun o => emptyW o (leaveW P fn ts ds m (H.set r (.defd none)) K)
    | .fn (.func f) cap => WCallD P f (d.args.toList ++ cap.toList) m H fun m' H' => leaveW P fn ts ds m' H' K
    | _ => False

theorem leaveW_ok {P : Program} {fn : AFn} {ts : Tmps} : ∀ {ds : List Deferred} {m : Option Value} {H : AHeap} {K : AE → AHeap → Prop}, leaveW P fn ts ds m H K → ∃ r H', LeaveR P fn ts ds m H r H' ∧ K r H'
  | [], none, H, K, h => by
    simp only [leaveW] at h
    obtain ⟨vs, hvs, h⟩ := resW_ok h
    refine ⟨_, _, LeaveR.ret (v := tupV vs) ?_, h⟩
    rcases vs with _ | ⟨v, _ | ⟨u, us⟩⟩ <;> simp [resV, hvs, tupV]
  | [], some v, H, K, h => ⟨_, _, LeaveR.panic, h⟩
  | d :: ds, m, H, K, h => by
    simp only [leaveW] at h
    split at h
    · rename_i rb hd
      obtain ⟨o, hg, h⟩ := objW_ok h
      unfold emptyW at h
      split at h
      · obtain ⟨r, H', h1, h⟩ := leaveW_ok h
        exact ⟨r, H', LeaveR.collected hd hg h1, h⟩
      · exact h.elim
    · rename_i f cap hd
      obtain ⟨m', H', hc, h⟩ := h
      obtain ⟨r, H'', h1, h⟩ := leaveW_ok h
      exact ⟨r, H'', LeaveR.call hd hc h1, h⟩
    · exact h.elim

def bodyW (P : Program) (fn : AFn) (K : AE → AHeap → Prop) (x : AX) (ts : Tmps) (ds : List Deferred) (H : AHeap) : Prop :=
  match x with
  | .normal => leaveW P fn ts ds none H K
  | .jump .ret => leaveW P fn ts ds none H K
  | .panic v => leaveW P fn ts ds (some v) H K
  | _ => False

/-- **A call, by the function's body.** -/
theorem WCall.of {P : Program} {f : Nat} {fn : AFn} (hf : aFn P f = some fn) {args : List Value} {H : AHeap} {K : AE → AHeap → Prop}
    (h : enterW fn.ntmps args fun ts => wpC P none fn.code ts [] H (bodyW P fn K)) : WCall P f args H K := by
  obtain ⟨x, ts1, ds1, H1, h1, h⟩ := wpC_ok (enterW_ok h)
  cases x with
  | normal =>
    obtain ⟨r, H', hl, h⟩ := leaveW_ok h
    exact ⟨r, H', CallOk.of_body hf h1 hl, h⟩
  | panic v =>
    obtain ⟨r, H', hl, h⟩ := leaveW_ok h
    exact ⟨r, H', CallOk.of_body hf h1 hl, h⟩
  | jump j =>
    cases j with
    | ret =>
      obtain ⟨r, H', hl, h⟩ := leaveW_ok h
      exact ⟨r, H', CallOk.of_body hf h1 hl, h⟩
    | exit _ => exact h.elim
    | goto _ => exact h.elim

/-! ### Deferred frames -/

abbrev Dm := Option (Value × Bool)

def recW (d : Option Nat) (ts : Tmps) (m : Dm) (K : Tmps → Dm → Prop) : Prop :=
  match m with
  | some (v, false) => putW ts d v fun ts => K ts (some (v, true))
  | m => putW ts d .nilIface fun ts => K ts m

def arD (P : Program) (d : Option Nat) (ts : Tmps) (m : Dm) (K : Tmps → AHeap → Dm → Prop) (r : AR) (H : AHeap) : Prop :=
  match r with
  | .val v => putW ts d v fun ts => K ts H m
  | .skip => putW ts d undef fun ts => K ts H m
  | .enter f args => WCall P f args H fun r H' => retW r H' (fun v H' => putW ts d v fun ts => K ts H' m) (fun _ _ => False)
  | .recover => recW d ts m fun ts m => K ts H m
  | _ => False

def wpOpsD (P : Program) : List IOper → Tmps → AHeap → Dm → (Tmps → AHeap → Dm → Prop) → Prop
  | [], ts, H, m, K => K ts H m
  | ⟨d, op, g⟩ :: os, ts, H, m, K => guardW g ts (aopW op (aev ts) H (arD P d ts m fun ts H m => wpOpsD P os ts H m K)) (putW ts d undef fun ts => wpOpsD P os ts H m K)

theorem wpOpsD_ok {P : Program} : ∀ {l : List IOper} {ts : Tmps} {H : AHeap} {m : Dm} {K : Tmps → AHeap → Dm → Prop}, wpOpsD P l ts H m K → ∃ ts' H' m', OpsDR P l ⟨ts, [], H⟩ m ⟨ts', [], H'⟩ m' ∧ K ts' H' m'
  | [], ts, H, m, K, h => ⟨_, _, _, .nil _ m, h⟩
  | ⟨d, op, g⟩ :: os, ts, H0, m, K, h => by
    simp only [wpOpsD] at h
    rcases guardW_ok h with ⟨hw, h⟩ | ⟨hw, h⟩
    · obtain ⟨r, H, ha, h⟩ := aopW_ok h
      have ha' : aopK op (aev ts) H0 = some (r, H) := by rw [aopK_eq]; exact ha
      cases r with
      | val v =>
        simp only [arD] at h
        obtain ⟨ts1, he, h⟩ := putW_ok (ds := []) (H := H) h
        obtain ⟨ts', H', m', h2, hk⟩ := wpOpsD_ok h
        exact ⟨_, _, m', .next ⟨Ev.none, none_call, by simp only [stepOpD, hw, ha', he]⟩ h2, hk⟩
      | skip =>
        simp only [arD] at h
        obtain ⟨ts1, he, h⟩ := putW_ok (ds := []) (H := H) h
        obtain ⟨ts', H', m', h2, hk⟩ := wpOpsD_ok h
        exact ⟨_, _, m', .next ⟨Ev.none, none_call, by simp only [stepOpD, hw, ha', he]⟩ h2, hk⟩
      | enter f args =>
        obtain ⟨r, H1, hc, h⟩ := h
        cases r with
        | ret v =>
          simp only [retW] at h
          obtain ⟨ts1, he, h⟩ := putW_ok (ds := []) (H := H1) h
          obtain ⟨ts', H', m', h2, hk⟩ := wpOpsD_ok h
          exact ⟨_, _, m', .next ⟨{ Ev.none with call := oneF f args H (.ret v) H1 }, oneF_ok hc _, by simp only [stepOpD, hw, ha', oneF, and_self, if_true, he]⟩ h2, hk⟩
        | panic v => exact h.elim
      | recover =>
        simp only [arD, recW] at h
        split at h
        · obtain ⟨ts1, he, h⟩ := putW_ok (ds := []) (H := H) h
          obtain ⟨ts', H', m', h2, hk⟩ := wpOpsD_ok h
          exact ⟨_, _, m', .next ⟨Ev.none, none_call, by simp only [stepOpD, hw, ha', he]⟩ h2, hk⟩
        · rename_i hm
          obtain ⟨ts1, he, h⟩ := putW_ok (ds := []) (H := H) h
          obtain ⟨ts', H', m', h2, hk⟩ := wpOpsD_ok h
          exact ⟨_, _, m', .next ⟨Ev.none, none_call, by simp only [stepOpD, hw, ha', he]⟩ h2, hk⟩
      | panic v => exact h.elim
      | defer d => exact h.elim
      | round l args => exact h.elim
    · obtain ⟨ts1, he, h⟩ := putW_ok (ds := []) (H := H0) h
      obtain ⟨ts', H', m', h2, hk⟩ := wpOpsD_ok h
      exact ⟨_, _, m', .next ⟨Ev.none, none_call, by simp only [stepOpD, hw, he]⟩ h2, hk⟩

def wpD (P : Program) : ICode → Tmps → AHeap → Dm → (AX → Tmps → AHeap → Dm → Prop) → Prop
  | .skip, ts, H, m, Q => Q .normal ts H m
  | .region ops none, ts, H, m, Q => wpOpsD P ops ts H m (Q .normal)
  | .seq a b, ts, H, m, Q => wpD P a ts H m fun x ts H m => thenX x (wpD P b ts H m Q) (Q x ts H m)
  | .cond c a b, ts, H, m, Q => condW (aev ts c) (wpD P a ts H m Q) (wpD P b ts H m Q)
  | .ret, ts, H, m, Q => Q (.jump .ret) ts H m
  | _, _, _, _, _ => False

theorem wpD_ok {P : Program} : ∀ {c : ICode} {ts : Tmps} {H : AHeap} {m : Dm} {Q : AX → Tmps → AHeap → Dm → Prop}, wpD P c ts H m Q → ∃ x ts' H' m', SD P c ⟨ts, [], H⟩ m x ⟨ts', [], H'⟩ m' ∧ Q x ts' H' m'
  | .skip, ts, H, m, Q, h => ⟨_, _, _, _, SD.skip, h⟩
  | .ret, ts, H, m, Q, h => ⟨_, _, _, _, SD.ret, h⟩
  | .region ops none, ts, H, m, Q, h => by
    obtain ⟨ts', H', m', h1, h⟩ := wpOpsD_ok h
    exact ⟨_, _, _, _, SD.region h1, h⟩
  | .seq a b, ts, H, m, Q, h => by
    simp only [wpD] at h
    obtain ⟨x, ts1, H1, m1, h1, h⟩ := wpD_ok h
    cases x with
    | normal =>
      obtain ⟨x, ts', H', m', h2, h⟩ := wpD_ok (show wpD P b ts1 H1 m1 Q from h)
      exact ⟨x, _, _, m', SD.seq h1 h2, h⟩
    | jump j => exact ⟨_, _, _, _, SD.seq_stop h1 (by simp), h⟩
    | panic v => exact ⟨_, _, _, _, SD.seq_stop h1 (by simp), h⟩
  | .cond c a b, ts, H, m, Q, h => by
    simp only [wpD] at h
    unfold condW at h
    split at h
    · rename_i t hv
      cases t with
      | true =>
        obtain ⟨x, ts', H', m', h2, h⟩ := wpD_ok (show wpD P a ts H m Q from h)
        exact ⟨x, _, _, m', SD.cond hv h2, h⟩
      | false =>
        obtain ⟨x, ts', H', m', h2, h⟩ := wpD_ok (show wpD P b ts H m Q from h)
        exact ⟨x, _, _, m', SD.cond hv h2, h⟩
    · exact h.elim
  | .region _ (some _), _, _, _, _, h => h.elim
  | .block _ _, _, _, _, _, h => h.elim
  | .loop _, _, _, _, _, h => h.elim
  | .rangeFunc _ _ _ _, _, _, _, _, h => h.elim
  | .exit _, _, _, _, _, h => h.elim
  | .goto _, _, _, _, _, h => h.elim
  | .label _, _, _, _, _, h => h.elim
  | .scope _, _, _, _, _, h => h.elim

def bodyD (fn : AFn) (K : Option Value → AHeap → Prop) (x : AX) (ts : Tmps) (H : AHeap) (m : Dm) : Prop :=
  match x with
  | .normal => resW ts H fn.results fun _ => K (outM m) H
  | .jump .ret => resW ts H fn.results fun _ => K (outM m) H
  | _ => False

theorem WCallD.of {P : Program} {f : Nat} {fn : AFn} (hf : aFn P f = some fn) {args : List Value} {m : Option Value} {H : AHeap} {K : Option Value → AHeap → Prop}
    (h : enterW fn.ntmps args fun ts => wpD P fn.code ts H (m.map fun v => (v, false)) (bodyD fn K)) : WCallD P f args m H K := by
  obtain ⟨x, ts1, H1, m1, h1, h⟩ := wpD_ok (enterW_ok h)
  have key : (x = .normal ∨ x = .jump .ret) ∧ resW ts1 H1 fn.results fun _ => K (outM m1) H1 := by
    cases x with
    | normal => exact ⟨.inl rfl, h⟩
    | panic v => exact h.elim
    | jump j =>
      cases j with
      | ret => exact ⟨.inr rfl, h⟩
      | exit _ => exact h.elim
      | goto _ => exact h.elim
  obtain ⟨hx, h⟩ := key
  obtain ⟨vs, hvs, h⟩ := resW_ok h
  refine ⟨_, _, CallDR.of_body hf h1 hx rfl (v := tupV vs) ?_, h⟩
  rcases vs with _ | ⟨v, _ | ⟨u, us⟩⟩ <;> simp [resV, hvs, tupV]

theorem WCall.mono {P : Program} {f : Nat} {args : List Value} {H : AHeap} {K K' : AE → AHeap → Prop} (h : WCall P f args H K) (hk : ∀ r H', K r H' → K' r H') : WCall P f args H K' := by
  obtain ⟨r, H', h1, h2⟩ := h
  exact ⟨r, H', h1, hk _ _ h2⟩

end Go.Abs
