/-
  ABS, part U: a region that draws the order of its operations comes out the same in each. (Own work.)
-/
import Derived.Test.YtohipgnacknkgabGreatHgT
set_option linter.unusedSimpArgs false
set_option linter.unusedVariables false
namespace Go.Abs
open Go

structure DRec where
  i : IInfo
  o : IOper
  ts : Tmps
  H : AHeap
  v : Value
  H' : AHeap

def putT (ts : Tmps) (d : Option Nat) (v : Value) : Tmps :=
  match d with
  | some t => ts.put t v
  | none => ts

/-- What is laid; how many elements, if it is a slice. -/
def aEarly (op : IOp) (ev : Operand → Option Value) : Option (List Value × Nat × Option Nat) :=
  match op with
  | .alloc zero => some (zero, 0, none)
  | .buildSlice size cells len parts =>
    match evParts ev parts with
    | some ps =>
      match fillL cells ps with
      | some cs => some (cs, size, some len)
      | none => none
    | none => none
  | _ => none

def earlyV (n : Option Nat) (id : Nat) : Value :=
  match n with
  | none => .pointer (some ⟨id, 0, none⟩)
  | some n => .slice (some ⟨id, 0, none⟩) n n

def stepC (e : Ev) (i : IInfo) (o : IOper) (ts : Tmps) (H : AHeap) : Option (Value × AHeap) :=
  if i.cls = 1 then
    match want o.guard ts with
    | none => none
    | some false => some (undef, H)
    | some true =>
      match aEarly o.op (aev ts) with
      | some (cs, sz, n) => some (earlyV n H.size, H.push (.cells cs false sz))
      | none => none
  else stepV e o ts H

def drawRun (e : Ev) (l : List IOper) : List IInfo → Tmps → AHeap → Option (List DRec)
  | [], _, _ => some []
  | i :: is, ts, H =>
    match l[i.idx]? with
    | none => none
    | some o =>
      match stepC e i o ts H with
      | none => none
      | some (v, H') =>
        match drawRun e l is (putT ts o.dst v) H' with
        | none => none
        | some rs => some ({ i, o, ts, H, v, H' } :: rs)

def hits (a b : IOper) : Bool :=
  match a.dst with
  | none => false
  | some d => b.dst == some d || b.reads.contains d

def IInfo.loud (i : IInfo) : Bool := i.cls != 0 && i.cls != 1

def conf (i : IInfo) (a : IOper) (j : IInfo) (b : IOper) : Bool := hits a b || (hits b a || (i.loud && j.loud))

def pairOk (l : List IOper) (a b : IInfo) : Bool :=
  match l[a.idx]?, l[b.idx]? with
  | some x, some y => !conf a x b y || b.anc.testBit a.idx
  | _, _ => false

def pairsOk (l : List IOper) : List IInfo → Bool
  | [] => true
  | a :: as => as.all (fun b => pairOk l a b && b.idx != a.idx) && pairsOk l as

def ancOf (seen : List IInfo) (d : Nat) : Nat :=
  match seen.find? (·.idx == d) with
  | some a => a.anc
  | none => 0

def ancUp (seen : List IInfo) (s : Nat) : List Nat → Nat
  | [] => s
  | d :: ds => ancUp seen (s ||| (2 ^ d ||| ancOf seen d)) ds

def depsOk (seen : List IInfo) : List IInfo → Bool
  | [] => true
  | a :: as => a.deps.all (fun d => seen.any (·.idx == d)) && (a.anc == ancUp seen 0 a.deps && depsOk (a :: seen) as)

/-- What makes memory early comes ahead of all that acts. -/
def earlyFirst : Bool → List IInfo → Bool
  | _, [] => true
  | seen, a :: as => !(seen && a.cls == 1) && earlyFirst (seen || a.loud) as

def staticOk (l : List IOper) (is : List IInfo) : Bool :=
  earlyFirst false is && pairsOk l is && (depsOk [] is && (List.range l.length).all fun i => is.any (·.idx == i))

def sameAt (e : Ev) (r : DRec) (H : AHeap) : Bool :=
  match stepV e r.o r.ts H with
  | some (v, _) => veq v r.v
  | none => false

def window (e : Ev) (r : DRec) : AHeap → List DRec → Bool
  | H, [] => sameAt e r H
  | H, q :: qs => (r.i.anc.testBit q.i.idx || sameAt e r H) && (q.i.anc.testBit r.i.idx || window e r q.H' qs)

def tsF (R : List DRec) (S : Nat → Bool) (ts : Tmps) : Tmps := R.foldl (fun ts r => if S r.i.idx then putT ts r.o.dst r.v else ts) ts
def hF (L : List DRec) (S : Nat → Bool) (H : AHeap) : AHeap := L.foldl (fun H r => if S r.i.idx then r.H' else H) H

def louds (R : List DRec) : List DRec := R.filter fun r => r.i.loud
def earlies (R : List DRec) : List DRec := R.filter fun r => r.i.cls == 1

def drawFn (e : Ev) (_rd : Option Nat) (l : List IOper) (is : List IInfo) (s : ASt) : Option (AX × ASt) :=
  if staticOk l is then
    match drawRun e l is s.ts s.H with
    | none => none
    | some R =>
      let HE := hF (earlies R) (fun _ => true) s.H
      if R.all fun r => r.i.cls != 0 || window e r HE (louds R) then
        some (.normal, { s with ts := tsF R (fun _ => true) s.ts, H := hF (louds R) (fun _ => true) HE })
      else none
  else none

/-! ### The state after some of the operations -/

theorem tsF_congr {S S' : Nat → Bool} : ∀ {R : List DRec} {ts : Tmps}, (∀ q, q ∈ R → S q.i.idx = S' q.i.idx) → tsF R S ts = tsF R S' ts
  | [], _, _ => rfl
  | r :: R, ts, h => by
    simp only [tsF, List.foldl_cons]
    rw [h r (by simp)]
    exact tsF_congr fun q hq => h q (List.mem_cons_of_mem _ hq)

theorem hF_congr {S S' : Nat → Bool} : ∀ {R : List DRec} {H : AHeap}, (∀ q, q ∈ R → S q.i.idx = S' q.i.idx) → hF R S H = hF R S' H
  | [], _, _ => rfl
  | r :: R, ts, h => by
    simp only [hF, List.foldl_cons]
    rw [h r (by simp)]
    exact hF_congr fun q hq => h q (List.mem_cons_of_mem _ hq)

theorem tsF_append (A B : List DRec) (S : Nat → Bool) (ts : Tmps) : tsF (A ++ B) S ts = tsF B S (tsF A S ts) := by simp [tsF, List.foldl_append]
theorem hF_append (A B : List DRec) (S : Nat → Bool) (H : AHeap) : hF (A ++ B) S H = hF B S (hF A S H) := by simp [hF, List.foldl_append]

theorem hF_none {S : Nat → Bool} : ∀ {L : List DRec} {H : AHeap}, (∀ q, q ∈ L → S q.i.idx = false) → hF L S H = H
  | [], _, _ => rfl
  | r :: L, H, h => by
    simp only [hF, List.foldl_cons, h r (by simp), Bool.false_eq_true, if_false]
    exact hF_none fun q hq => h q (List.mem_cons_of_mem _ hq)

theorem tsF_size {S : Nat → Bool} : ∀ {R : List DRec} {ts : Tmps}, (tsF R S ts).n = ts.n
  | [], _ => rfl
  | r :: R, ts => by
    simp only [tsF, List.foldl_cons]
    have := tsF_size (S := S) (R := R) (ts := if S r.i.idx then putT ts r.o.dst r.v else ts)
    simp only [tsF] at this
    rw [this]
    split
    · unfold putT; split <;> simp
    · rfl

theorem tsF_put {S : Nat → Bool} {d : Nat} {v : Value} : ∀ {R : List DRec} {ts : Tmps}, (∀ q, q ∈ R → S q.i.idx = true → q.o.dst ≠ some d) → tsF R S (ts.put d v) = (tsF R S ts).put d v
  | [], _, _ => rfl
  | r :: R, ts, h => by
    simp only [tsF, List.foldl_cons]
    by_cases hS : S r.i.idx = true
    · simp only [hS, if_true]
      have hne := h r (by simp) hS
      cases hd : r.o.dst with
      | none => simp only [putT]; exact tsF_put fun q hq => h q (List.mem_cons_of_mem _ hq)
      | some d' =>
        have hne' : d' ≠ d := fun e => hne (by rw [hd, e])
        simp only [putT]
        rw [Tmps.put_comm _ _ _ hne']
        exact tsF_put fun q hq => h q (List.mem_cons_of_mem _ hq)
    · simp only [hS]
      exact tsF_put fun q hq => h q (List.mem_cons_of_mem _ hq)

theorem tsF_get {S : Nat → Bool} {t : Nat} : ∀ {R : List DRec} {ts : Tmps}, (∀ q, q ∈ R → S q.i.idx = true → q.o.dst ≠ some t) → (tsF R S ts).get t = ts.get t
  | [], _, _ => rfl
  | r :: R, ts, h => by
    have ih := tsF_get (S := S) (t := t) (R := R) (ts := if S r.i.idx then putT ts r.o.dst r.v else ts) fun q hq => h q (List.mem_cons_of_mem _ hq)
    simp only [tsF, List.foldl_cons] at ih ⊢
    rw [ih]
    split
    · rename_i hS
      have hne := h r (by simp) hS
      unfold putT
      split
      · rename_i d hd
        rw [Tmps.get_put, if_neg (fun e => hne (by rw [hd, e]))]
      · rfl
    · rfl

theorem tsF_agree {S : Nat → Bool} {t : Nat} : ∀ {R : List DRec} {ts us : Tmps}, ts.n = us.n → ts.get t = us.get t → (∀ q, q ∈ R → q.o.dst = some t → S q.i.idx = true) → (tsF R S ts).get t = (tsF R (fun _ => true) us).get t
  | [], _, _, _, h, _ => h
  | r :: R, ts, us, hs, hg, h => by
    simp only [tsF, List.foldl_cons, if_true]
    have key : ∀ (ts' us' : Tmps), ts'.n = us'.n → ts'.get t = us'.get t → (tsF R S ts').get t = (tsF R (fun _ => true) us').get t := fun ts' us' h1 h2 =>
      tsF_agree h1 h2 fun q hq => h q (List.mem_cons_of_mem _ hq)
    refine key _ _ ?_ ?_
    · by_cases hS : S r.i.idx = true <;> simp only [hS, if_true, Bool.false_eq_true, if_false] <;> unfold putT <;> split <;> simp [hs]
    · cases hd : r.o.dst with
      | none => simp only [putT, ite_self]; exact hg
      | some d =>
        by_cases hdt : d = t
        · subst hdt
          rw [h r (by simp) hd]
          simp only [if_true, putT]
          rw [Tmps.get_put, Tmps.get_put, hs, if_pos rfl, if_pos rfl]
        · simp only [putT]
          rw [Tmps.get_put, if_neg hdt]
          split
          · rw [Tmps.get_put, if_neg hdt]; exact hg
          · exact hg

theorem stepV_quiet {e : Ev} {o : IOper} {ts : Tmps} {H H' : AHeap} {v : Value} (hc : o.op.cls = 0) (h : stepV e o ts H = some (v, H')) : H' = H := by
  unfold stepV at h
  simp only [aopK_eq] at h
  split at h
  · cases h
  · simp only [Option.some.injEq, Prod.mk.injEq] at h; exact h.2.symm
  · cases ha : aop o.op (aev ts) H with
    | none => simp only [ha, reduceCtorEq] at h
    | some q =>
      obtain ⟨ar, H1⟩ := q
      obtain ⟨rfl, x, rfl⟩ := quiet_aop hc ha
      simp only [ha, Option.some.injEq, Prod.mk.injEq] at h
      exact h.2.symm

/-! ### What a run says -/

theorem louds_cons (r : DRec) (R : List DRec) : louds (r :: R) = if r.i.loud then r :: louds R else louds R := by
  simp only [louds, List.filter_cons]

theorem earlies_cons (r : DRec) (R : List DRec) : earlies (r :: R) = if r.i.cls == 1 then r :: earlies R else earlies R := by
  simp only [earlies, List.filter_cons]

/-- What an early operation has laid. -/
def Laid (r : DRec) (H HE : AHeap) : Prop :=
  (want r.o.guard r.ts = some false ∧ r.v = undef) ∨
  (want r.o.guard r.ts = some true ∧ ∃ cs sz n, aEarly r.o.op (aev r.ts) = some (cs, sz, n) ∧ r.v = earlyV n r.H.size ∧ H.size ≤ r.H.size ∧ r.H.size < HE.size ∧ HE.get r.H.size = some (.cells cs false sz))

structure RunOk (e : Ev) (l : List IOper) (ts : Tmps) (H HE : AHeap) (R : List DRec) : Prop where
  ats : ∀ A r B, R = A ++ r :: B → r.ts = tsF A (fun _ => true) ts ∧ l[r.i.idx]? = some r.o
  loud : ∀ A r B, R = A ++ r :: B → r.i.loud = true → stepV e r.o r.ts (hF (louds A) (fun _ => true) HE) = some (r.v, r.H')
  early : ∀ r, r ∈ R → r.i.cls = 1 → Laid r H HE
  slots : ∀ A r B, R = A ++ r :: B → r.i.cls = 1 → want r.o.guard r.ts = some true → ∀ q, q ∈ B → q.i.cls = 1 → want q.o.guard q.ts = some true → r.H.size < q.H.size
  grow : H.size ≤ HE.size ∧ ∀ x, x < H.size → HE.get x = H.get x

theorem not_loud {i : IInfo} (h1 : i.cls ≠ 1) (h2 : i.loud = false) : i.cls = 0 := by
  unfold IInfo.loud at h2
  by_cases h : i.cls = 0
  · exact h
  · simp [h, h1] at h2

theorem earlyFirst_true {is : List IInfo} (h : earlyFirst true is = true) : ∀ j, j ∈ is → j.cls ≠ 1 := by
  induction is with
  | nil => intro j hj; cases hj
  | cons a as ih =>
    intro j hj
    simp only [earlyFirst, Bool.true_and, Bool.true_or, Bool.and_eq_true, Bool.not_eq_true', beq_eq_false_iff_ne, ne_eq] at h
    rcases List.mem_cons.1 hj with rfl | hj
    · exact h.1
    · exact ih h.2 j hj

theorem drawRun_loud {e : Ev} {l : List IOper} : ∀ {is : List IInfo} {ts : Tmps} {H : AHeap} {R : List DRec}, drawRun e l is ts H = some R → (∀ i, i ∈ is → i.cls = 0 → ∀ o, l[i.idx]? = some o → o.op.cls = 0) →
    earlyFirst true is = true → R.map (·.i) = is ∧ RunOk e l ts H H R
  | [], ts, H, R, h, hq, hef => by
    simp only [drawRun, Option.some.injEq] at h
    subst h
    exact ⟨rfl, ⟨(fun A r B hh => by simp at hh), (fun A r B hh => by simp at hh), (fun r hr => by cases hr), (fun A r B hh => by simp at hh), Nat.le_refl _, fun _ _ => rfl⟩⟩
  | i :: is, ts, H, R, h, hq, hef => by
    have hne1 := earlyFirst_true hef
    simp only [drawRun] at h
    split at h
    · cases h
    rename_i o ho
    split at h
    · cases h
    rename_i v H' hst
    split at h
    · cases h
    rename_i rs hrs
    obtain rfl := Option.some.inj h
    simp only [earlyFirst, Bool.true_and, Bool.true_or, Bool.and_eq_true] at hef
    obtain ⟨h1, h2⟩ := drawRun_loud hrs (fun i hi => hq i (List.mem_cons_of_mem _ hi)) hef.2
    have hi1 := hne1 i (by simp)
    have hne : ∀ q, q ∈ ({ i, o, ts, H, v, H' } :: rs : List DRec) → q.i.cls ≠ 1 := by
      intro q hm
      refine hne1 q.i ?_
      rcases List.mem_cons.1 hm with rfl | hm
      · simp
      · exact List.mem_cons_of_mem _ (by rw [← h1]; exact List.mem_map.2 ⟨q, hm, rfl⟩)
    simp only [stepC, if_neg hi1] at hst
    refine ⟨by simp [h1], ⟨fun A r B hh => ?_, fun A r B hh hl => ?_, fun r hr hc => absurd hc (hne r hr), fun A r B hh hc => absurd hc (hne r (by rw [hh]; simp)), Nat.le_refl _, fun _ _ => rfl⟩⟩
    · cases A with
      | nil =>
        simp only [List.nil_append, List.cons.injEq] at hh
        obtain ⟨rfl, rfl⟩ := hh
        exact ⟨rfl, ho⟩
      | cons a A =>
        simp only [List.cons_append, List.cons.injEq] at hh
        obtain ⟨rfl, hh⟩ := hh
        obtain ⟨g1, g2⟩ := h2.ats A r B hh
        exact ⟨by rw [g1]; simp [tsF], g2⟩
    · cases A with
      | nil =>
        simp only [List.nil_append, List.cons.injEq] at hh
        obtain ⟨rfl, rfl⟩ := hh
        exact hst
      | cons a A =>
        simp only [List.cons_append, List.cons.injEq] at hh
        obtain ⟨rfl, hh⟩ := hh
        have g := h2.loud A r B hh hl
        rw [louds_cons]
        by_cases hl0 : i.loud = true
        · simp only [hl0, if_true]
          simpa [hF] using g
        · have hc0 := not_loud hi1 (by simpa using hl0)
          have := stepV_quiet (hq i (by simp) hc0 o ho) hst
          subst this
          simp only [hl0, Bool.false_eq_true, if_false]
          exact g

theorem drawRun_pre {e : Ev} {l : List IOper} : ∀ {is : List IInfo} {ts : Tmps} {H : AHeap} {R : List DRec}, drawRun e l is ts H = some R → (∀ i, i ∈ is → i.cls = 0 → ∀ o, l[i.idx]? = some o → o.op.cls = 0) →
    earlyFirst false is = true → R.map (·.i) = is ∧ RunOk e l ts H (hF (earlies R) (fun _ => true) H) R
  | [], ts, H, R, h, hq, hef => by
    simp only [drawRun, Option.some.injEq] at h
    subst h
    exact ⟨rfl, ⟨(fun A r B hh => by simp at hh), (fun A r B hh => by simp at hh), (fun r hr => by cases hr), (fun A r B hh => by simp at hh), Nat.le_refl _, fun _ _ => rfl⟩⟩
  | i :: is, ts, H, R, h, hq, hef => by
    have h0 := h
    simp only [earlyFirst, Bool.false_and, Bool.not_false, Bool.true_and, Bool.false_or] at hef
    by_cases hl : i.loud = true
    · -- here the acting begins
      rw [hl] at hef
      have hi1 : i.cls ≠ 1 := by
        unfold IInfo.loud at hl
        simp at hl
        exact hl.2
      have hef' : earlyFirst true (i :: is) = true := by simp [earlyFirst, hef, hi1]
      obtain ⟨h1, h2⟩ := drawRun_loud h0 hq hef'
      refine ⟨h1, ?_⟩
      have : earlies R = [] := by
        unfold earlies
        rw [List.filter_eq_nil_iff]
        intro r hr
        have := earlyFirst_true hef' r.i (by rw [← h1]; exact List.mem_map.2 ⟨r, hr, rfl⟩)
        simpa using this
      rw [this]
      exact h2
    · have hl' : i.loud = false := by simpa using hl
      rw [hl'] at hef
      simp only [drawRun] at h
      split at h
      · cases h
      rename_i o ho
      split at h
      · cases h
      rename_i v H' hst
      split at h
      · cases h
      rename_i rs hrs
      obtain rfl := Option.some.inj h
      obtain ⟨h1, h2⟩ := drawRun_pre hrs (fun i hi => hq i (List.mem_cons_of_mem _ hi)) hef
      have hats : ∀ A r B, ({ i, o, ts, H, v, H' } :: rs : List DRec) = A ++ r :: B → r.ts = tsF A (fun _ => true) ts ∧ l[r.i.idx]? = some r.o := by
        intro A r B hh
        cases A with
        | nil =>
          simp only [List.nil_append, List.cons.injEq] at hh
          obtain ⟨rfl, rfl⟩ := hh
          exact ⟨rfl, ho⟩
        | cons a A =>
          simp only [List.cons_append, List.cons.injEq] at hh
          obtain ⟨rfl, hh⟩ := hh
          obtain ⟨g1, g2⟩ := h2.ats A r B hh
          exact ⟨by rw [g1]; simp [tsF], g2⟩
      have hloud : ∀ HE, HE = hF (earlies rs) (fun _ => true) H' → ∀ A r B, ({ i, o, ts, H, v, H' } :: rs : List DRec) = A ++ r :: B → r.i.loud = true → stepV e r.o r.ts (hF (louds A) (fun _ => true) HE) = some (r.v, r.H') := by
        intro HE hHE A r B hh hrl
        cases A with
        | nil =>
          simp only [List.nil_append, List.cons.injEq] at hh
          obtain ⟨rfl, rfl⟩ := hh
          exact absurd hrl hl
        | cons a A =>
          simp only [List.cons_append, List.cons.injEq] at hh
          obtain ⟨rfl, hh⟩ := hh
          have g := h2.loud A r B hh hrl
          rw [louds_cons]
          simp only [hl', Bool.false_eq_true, if_false]
          rw [hHE]
          exact g
      by_cases hi1 : i.cls = 1
      · have eE : hF (earlies ({ i, o, ts, H, v, H' } :: rs)) (fun _ => true) H = hF (earlies rs) (fun _ => true) H' := by
          rw [earlies_cons]
          simp [hi1, hF]
        rw [eE]
        simp only [stepC, if_pos hi1] at hst
        have hgrow : H.size ≤ H'.size ∧ ∀ x, x < H.size → H'.get x = H.get x := by
          split at hst
          · cases hst
          · simp only [Option.some.injEq, Prod.mk.injEq] at hst; rw [← hst.2]; exact ⟨Nat.le_refl _, fun _ _ => rfl⟩
          · split at hst
            · simp only [Option.some.injEq, Prod.mk.injEq] at hst
              rw [← hst.2]
              exact ⟨by simp, fun x hx => by rw [AHeap.get_push, if_neg (by omega)]⟩
            · cases hst
        refine ⟨by simp [h1], ⟨hats, hloud _ rfl, fun r hr hc => ?_, fun A r B hh hc hw q hqm hqc hqw => ?_, Nat.le_trans hgrow.1 h2.grow.1, fun x hx => by rw [h2.grow.2 x (by omega), hgrow.2 x hx]⟩⟩
        · rcases List.mem_cons.1 hr with rfl | hr
          · simp only [Laid]
            split at hst
            · cases hst
            · rename_i hw
              simp only [Option.some.injEq, Prod.mk.injEq] at hst
              exact .inl ⟨hw, hst.1.symm⟩
            · rename_i hw
              split at hst
              · rename_i cs sz n hae
                simp only [Option.some.injEq, Prod.mk.injEq] at hst
                obtain ⟨rfl, rfl⟩ := hst
                have hg := h2.grow
                simp only [AHeap.size_push] at hg
                refine .inr ⟨hw, cs, sz, n, hae, rfl, Nat.le_refl _, by omega, ?_⟩
                rw [hg.2 H.size (by omega), AHeap.get_push, if_pos rfl]
              · cases hst
          · rcases h2.early r hr hc with h | ⟨hw, cs, sz, n, g1, g2, g3, g4, g5⟩
            · exact .inl h
            · exact .inr ⟨hw, cs, sz, n, g1, g2, Nat.le_trans hgrow.1 g3, g4, g5⟩
        · cases A with
          | nil =>
            simp only [List.nil_append, List.cons.injEq] at hh
            obtain ⟨rfl, rfl⟩ := hh
            simp only at hw
            simp only [hw] at hst
            split at hst
            · simp only [Option.some.injEq, Prod.mk.injEq] at hst
              rcases h2.early q hqm hqc with ⟨h, _⟩ | ⟨_, cs, sz, n, g1, g2, g3, _⟩
              · rw [hqw] at h; cases h
              · rw [← hst.2] at g3
                simp only [AHeap.size_push] at g3
                simp only
                omega
            · cases hst
          | cons a A =>
            simp only [List.cons_append, List.cons.injEq] at hh
            exact h2.slots A r B hh.2 hc hw q hqm hqc hqw
      · have hc0 := not_loud hi1 hl'
        simp only [stepC, if_neg hi1] at hst
        have := stepV_quiet (hq i (by simp) hc0 o ho) hst
        subst this
        have eE : hF (earlies ({ i, o, ts, H := H', v, H' } :: rs)) (fun _ => true) H' = hF (earlies rs) (fun _ => true) H' := by
          rw [earlies_cons]
          simp [hi1]
        rw [eE]
        refine ⟨by simp [h1], ⟨hats, hloud _ rfl, fun r hr hc => ?_, fun A r B hh hc hw q hqm hqc hqw => ?_, h2.grow⟩⟩
        · rcases List.mem_cons.1 hr with rfl | hr
          · exact absurd hc hi1
          · exact h2.early r hr hc
        · cases A with
          | nil =>
            simp only [List.nil_append, List.cons.injEq] at hh
            obtain ⟨rfl, rfl⟩ := hh
            exact absurd hc hi1
          | cons a A =>
            simp only [List.cons_append, List.cons.injEq] at hh
            exact h2.slots A r B hh.2 hc hw q hqm hqc hqw

/-! ### What the check says -/

theorem pairs_ok {l : List IOper} : ∀ {is : List IInfo}, pairsOk l is = true → ∀ A a B, is = A ++ a :: B → ∀ b, b ∈ B → pairOk l a b = true ∧ b.idx ≠ a.idx
  | [], _, A, a, B, hh, _, _ => by simp at hh
  | x :: is, h, A, a, B, hh, b, hb => by
    simp only [pairsOk, Bool.and_eq_true, List.all_eq_true] at h
    cases A with
    | nil =>
      simp only [List.nil_append, List.cons.injEq] at hh
      obtain ⟨rfl, rfl⟩ := hh
      have := h.1 b hb
      exact ⟨this.1, by simpa using this.2⟩
    | cons y A =>
      simp only [List.cons_append, List.cons.injEq] at hh
      obtain ⟨rfl, hh⟩ := hh
      exact pairs_ok h.2 A a B hh b hb

theorem ancUp_bit {seen : List IInfo} {x : Nat} : ∀ {ds : List Nat} {s : Nat}, (ancUp seen s ds).testBit x = true → s.testBit x = true ∨ ∃ d, d ∈ ds ∧ (x = d ∨ (ancOf seen d).testBit x = true)
  | [], s, h => .inl h
  | d :: ds, s, h => by
    simp only [ancUp] at h
    rcases ancUp_bit h with h1 | ⟨d', h1, h2⟩
    · rw [Nat.testBit_or, Nat.testBit_or] at h1
      simp only [Bool.or_eq_true] at h1
      rcases h1 with h1 | h1 | h1
      · exact .inl h1
      · refine .inr ⟨d, by simp, .inl ?_⟩
        rw [Nat.testBit_two_pow] at h1
        exact (of_decide_eq_true h1).symm
      · exact .inr ⟨d, by simp, .inr h1⟩
    · exact .inr ⟨d', List.mem_cons_of_mem _ h1, h2⟩

theorem deps_ok : ∀ {is seen : List IInfo}, depsOk seen is = true → ∀ A a B, is = A ++ a :: B → (∀ d, d ∈ a.deps → ∃ q, q ∈ seen ++ A ∧ q.idx = d) ∧
    ∀ x, a.anc.testBit x = true → ∃ d, d ∈ a.deps ∧ (x = d ∨ ∃ q, q ∈ seen ++ A ∧ q.idx = d ∧ q.anc.testBit x = true)
  | [], seen, _, A, a, B, hh => by simp at hh
  | y :: is, seen, h, A, a, B, hh => by
    simp only [depsOk, Bool.and_eq_true, List.all_eq_true, beq_iff_eq] at h
    obtain ⟨h1, h2, h3⟩ := h
    cases A with
    | nil =>
      simp only [List.nil_append, List.cons.injEq] at hh
      obtain ⟨rfl, rfl⟩ := hh
      refine ⟨fun d hd => ?_, fun x hx => ?_⟩
      · have := h1 d hd
        simp only [List.any_eq_true, beq_iff_eq] at this
        obtain ⟨q, hq, e⟩ := this
        exact ⟨q, by simpa using hq, e⟩
      · rw [h2] at hx
        rcases ancUp_bit hx with h | ⟨d, hd, h | h⟩
        · simp at h
        · exact ⟨d, hd, .inl h⟩
        · refine ⟨d, hd, .inr ?_⟩
          unfold ancOf at h
          split at h
          · rename_i q hq
            exact ⟨q, by simpa using List.mem_of_find?_eq_some hq, by simpa using List.find?_some hq, h⟩
          · simp at h
    | cons z A =>
      simp only [List.cons_append, List.cons.injEq] at hh
      obtain ⟨rfl, hh⟩ := hh
      obtain ⟨g1, g2⟩ := deps_ok h3 A a B hh
      have hm : ∀ q, q ∈ y :: seen ++ A → q ∈ seen ++ (y :: A) := by
        intro q hq
        simp only [List.cons_append, List.mem_cons, List.mem_append] at hq ⊢
        rcases hq with h | h | h
        · exact .inr (.inl h)
        · exact .inl h
        · exact .inr (.inr h)
      refine ⟨fun d hd => ?_, fun x hx => ?_⟩
      · obtain ⟨q, hq, e⟩ := g1 d hd
        exact ⟨q, hm q hq, e⟩
      · obtain ⟨d, hd, h | ⟨q, hq, e1, e2⟩⟩ := g2 x hx
        · exact ⟨d, hd, .inl h⟩
        · exact ⟨d, hd, .inr ⟨q, hm q hq, e1, e2⟩⟩

end Go.Abs
