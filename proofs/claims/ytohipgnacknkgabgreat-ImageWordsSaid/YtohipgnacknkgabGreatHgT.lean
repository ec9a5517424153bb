/-
  ABS, part T: a region that draws the order of its operations. (Own work.)
-/
import Derived.Test.YtohipgnacknkgabGreatHgS
import Derived.Orders
set_option linter.unusedSimpArgs false
set_option linter.unusedVariables false
namespace Go.Abs
open Go

/-! ### Values, held against one another -/
mutual
def veq : Value → Value → Bool
  | .bool a, .bool b => a == b
  | .int k a, .int k' b => k == k' && a == b
  | .string a, .string b => a.data.toList == b.data.toList
  | .pointer a, .pointer b => a == b
  | .slice a l c, .slice a' l' c' => a == a' && l == l' && c == c'
  | .map a, .map b => a == b
  | .func (.func f) xs ys, .func (.func g) us vs => f == g && veqA xs us && veqA ys vs
  | .func (.yield f) xs ys, .func (.yield g) us vs => f == g && veqA xs us && veqA ys vs
  | .nilFunc, .nilFunc => true
  | .iface t x, .iface u y => t == u && veq x y
  | .nilIface, .nilIface => true
  | .agg xs, .agg ys => veqA xs ys
  | .tuple xs, .tuple ys => veqA xs ys
  | _, _ => false
def veqA : Array Value → Array Value → Bool
  | ⟨l⟩, ⟨m⟩ => veqL l m
def veqL : List Value → List Value → Bool
  | [], [] => true
  | x :: xs, y :: ys => veq x y && veqL xs ys
  | _, _ => false
end

mutual
theorem veq_eq : ∀ (x y : Value), veq x y = true → x = y
  | .bool a, y, h => by
    cases y <;> simp only [veq, Bool.false_eq_true] at h
    rename_i b; simp at h; rw [h]
  | .int k a, y, h => by
    cases y <;> simp only [veq, Bool.false_eq_true] at h
    simp at h; rw [h.1, h.2]
  | .string a, y, h => by
    cases y <;> simp only [veq, Bool.false_eq_true] at h
    rename_i b
    have h1 : a.data.toList = b.data.toList := by simpa using h
    have h2 : a.data = b.data := Array.toList_inj.1 h1
    cases a; cases b
    simp only at h2
    rw [h2]
  | .pointer a, y, h => by
    cases y <;> simp only [veq, Bool.false_eq_true] at h
    simp at h; rw [h]
  | .slice a l c, y, h => by
    cases y <;> simp only [veq, Bool.false_eq_true] at h
    simp at h; rw [h.1.1, h.1.2, h.2]
  | .map a, y, h => by
    cases y <;> simp only [veq, Bool.false_eq_true] at h
    simp at h; rw [h]
  | .func f xs ys, y, h => by
    cases y with
    | func g us vs =>
      cases f <;> cases g <;> simp only [veq, Bool.false_eq_true, Bool.and_eq_true, beq_iff_eq] at h
      · rw [h.1.1, veqA_eq _ _ h.1.2, veqA_eq _ _ h.2]
      · rw [h.1.1, veqA_eq _ _ h.1.2, veqA_eq _ _ h.2]
    | _ => cases f <;> simp only [veq, Bool.false_eq_true] at h
  | .nilFunc, y, h => by cases y <;> first | rfl | (simp only [veq, Bool.false_eq_true] at h)
  | .iface t x, y, h => by
    cases y <;> simp only [veq, Bool.false_eq_true, Bool.and_eq_true, beq_iff_eq] at h
    rw [h.1, veq_eq _ _ h.2]
  | .nilIface, y, h => by cases y <;> first | rfl | (simp only [veq, Bool.false_eq_true] at h)
  | .agg xs, y, h => by
    cases y <;> simp only [veq, Bool.false_eq_true] at h
    rw [veqA_eq _ _ h]
  | .tuple xs, y, h => by
    cases y <;> simp only [veq, Bool.false_eq_true] at h
    rw [veqA_eq _ _ h]
  | .float _ _, y, h => by cases y <;> simp only [veq, Bool.false_eq_true] at h
  | .complex _ _ _, y, h => by cases y <;> simp only [veq, Bool.false_eq_true] at h
  | .chan _, y, h => by cases y <;> simp only [veq, Bool.false_eq_true] at h
theorem veqA_eq : ∀ (x y : Array Value), veqA x y = true → x = y
  | ⟨l⟩, ⟨m⟩, h => by
    simp only [veqA] at h
    rw [veqL_eq l m h]
theorem veqL_eq : ∀ (x y : List Value), veqL x y = true → x = y
  | [], [], _ => rfl
  | x :: xs, y :: ys, h => by
    simp only [veqL, Bool.and_eq_true] at h
    rw [veq_eq x y h.1, veqL_eq xs ys h.2]
  | [], _ :: _, h => by simp only [veqL, Bool.false_eq_true] at h
  | _ :: _, [], h => by simp only [veqL, Bool.false_eq_true] at h
end

/-! ### What an operation reads -/

def tmpOf : Operand → List Nat
  | .tmp t => [t]
  | _ => []

def tmpsOf : List Operand → List Nat
  | [] => []
  | x :: xs => tmpOf x ++ tmpsOf xs

def tmpsOfP : List (Nat × Nat × Operand) → List Nat
  | [] => []
  | (_, _, x) :: xs => tmpOf x ++ tmpsOfP xs

def tmpsOfO : Option Operand → List Nat
  | none => []
  | some x => tmpOf x

def IOp.reads : IOp → List Nat
  | .mov x | .box x | .load1 x | .loadN _ x | .nilCheck x | .un _ x | .convI _ x | .convS x | .convSB x | .convBS x | .mkIface _ x | .fieldAddr _ x | .field1 _ x | .fieldN _ _ x
  | .rangeM x | .rangeS x | .next x _ | .entry x | .typeAssert _ _ x _ | .extract x _ | .len _ x | .cap x | .panic x => tmpOf x
  | .pick c a b => tmpOf c ++ (tmpOf a ++ tmpOf b)
  | .alloc _ | .mkMap | .recover => []
  | .build _ ps | .buildSlice _ _ _ ps => tmpsOfP ps
  | .store _ x y | .bin _ _ x y | .mkSlice _ _ _ x y | .idxAddr _ x y | .idxAddrA _ _ x y | .idxS x y | .idxA1 _ _ x y | .idxAN _ _ x y | .lookup _ _ x y _ | .mapDel _ x y | .append _ _ x y | .appendZ _ _ _ x y | .copy _ x y => tmpOf x ++ tmpOf y
  | .mkFunc _ xs ys => tmpsOf xs ++ tmpsOf ys
  | .slice _ x lo hi mx | .sliceA _ _ x lo hi mx => tmpOf x ++ (tmpsOfO lo ++ (tmpsOfO hi ++ tmpsOfO mx))
  | .sliceS x lo hi => tmpOf x ++ (tmpsOfO lo ++ tmpsOfO hi)
  | .mapSet _ x y z => tmpOf x ++ (tmpOf y ++ tmpOf z)
  | .call f xs | .defer f xs => tmpOf f ++ tmpsOf xs
  | .minI xs | .maxI xs => tmpsOf xs

def IOper.reads (o : IOper) : List Nat :=
  match o.guard with
  | none => o.op.reads
  | some (d, _) => d :: o.op.reads

def Agree (l : List Nat) (ts us : Tmps) : Prop := ∀ t, t ∈ l → ts.get t = us.get t

theorem Agree.left {l m : List Nat} {ts us : Tmps} (h : Agree (l ++ m) ts us) : Agree l ts us := fun t ht => h t (List.mem_append_left _ ht)
theorem Agree.right {l m : List Nat} {ts us : Tmps} (h : Agree (l ++ m) ts us) : Agree m ts us := fun t ht => h t (List.mem_append_right _ ht)

theorem aev_agree {ts us : Tmps} {x : Operand} (h : Agree (tmpOf x) ts us) : aev ts x = aev us x := by
  cases x with
  | tmp t => exact h t (by simp [tmpOf])
  | _ => rfl

theorem evs_agree {ts us : Tmps} : ∀ {xs : List Operand}, Agree (tmpsOf xs) ts us → evs (aev ts) xs = evs (aev us) xs
  | [], _ => rfl
  | x :: xs, h => by simp only [evs, aev_agree h.left, evs_agree h.right]

theorem evParts_agree {ts us : Tmps} : ∀ {xs : List (Nat × Nat × Operand)}, Agree (tmpsOfP xs) ts us → evParts (aev ts) xs = evParts (aev us) xs
  | [], _ => rfl
  | (_, _, x) :: xs, h => by simp only [evParts, aev_agree h.left, evParts_agree h.right]

theorem evo_agree {ts us : Tmps} {x : Option Operand} (h : Agree (tmpsOfO x) ts us) : evo (aev ts) x = evo (aev us) x := by
  cases x with
  | none => rfl
  | some x => simp only [evo, aev_agree (x := x) h]

theorem aop_agree {ts us : Tmps} {io : IOp} (H : AHeap) (h : Agree io.reads ts us) : aop io (aev ts) H = aop io (aev us) H := by
  cases io <;> simp only [IOp.reads] at h
  case alloc => rfl
  case mkMap => rfl
  case recover => rfl
  case pick c a b => simp only [aop, aev_agree h.left, aev_agree h.right.left, aev_agree h.right.right]
  case build z ps => simp only [aop, evParts_agree h]
  case buildSlice a b c ps => simp only [aop, evParts_agree h]
  case mkFunc f xs ys => simp only [aop, evs_agree h.left, evs_agree h.right]
  case slice n x lo hi mx => simp only [aop, aev_agree h.left, evo_agree h.right.left, evo_agree h.right.right.left, evo_agree h.right.right.right]
  case sliceA n m x lo hi mx => simp only [aop, aev_agree h.left, evo_agree h.right.left, evo_agree h.right.right.left, evo_agree h.right.right.right]
  case sliceS x lo hi => simp only [aop, aev_agree h.left, evo_agree h.right.left, evo_agree h.right.right]
  case mapSet k x y z => simp only [aop, aev_agree h.left, aev_agree h.right.left, aev_agree h.right.right]
  case call f xs => simp only [aop, aev_agree h.left, evs_agree h.right]
  case defer f xs => simp only [aop, aev_agree h.left, evs_agree h.right]
  case minI xs => simp only [aop, evs_agree h]
  case maxI xs => simp only [aop, evs_agree h]
  all_goals first
    | simp only [aop, aev_agree h]; done
    | simp only [aop, aev_agree h.left, aev_agree h.right]; done

/-- What an operation puts, and what it makes of the heap. -/
def stepV (e : Ev) (o : IOper) (ts : Tmps) (H : AHeap) : Option (Value × AHeap) :=
  match want o.guard ts with
  | none => none
  | some false => some (undef, H)
  | some true =>
    match aopK o.op (aev ts) H with
    | some (.val v, H) => some (v, H)
    | some (.skip, H) => some (undef, H)
    | some (.enter f args, H) =>
      match e.call f args H with
      | some (.ret v, H) => some (v, H)
      | _ => none
    | some (.round l args, H) => stepRound e l args H
    | _ => none

theorem stepOp_of_V {e : Ev} {rd : Option Nat} {o : IOper} {s : ASt} {v : Value} {H : AHeap} (h : stepV e o s.ts s.H = some (v, H)) : stepOp e rd o s = some (.normal, { s with H }.put o.dst v) := by
  unfold stepV at h
  unfold stepOp
  simp only [aopK_eq] at h ⊢
  cases hw : want o.guard s.ts with
  | none => simp only [hw, reduceCtorEq] at h
  | some b =>
    cases b with
    | false =>
      simp only [hw, Option.some.injEq, Prod.mk.injEq] at h
      obtain ⟨rfl, rfl⟩ := h
      rfl
    | true =>
      simp only [hw] at h ⊢
      cases ha : aop o.op (aev s.ts) s.H with
      | none => simp only [ha, reduceCtorEq] at h
      | some q =>
        obtain ⟨ar, H1⟩ := q
        simp only [ha] at h ⊢
        cases ar with
        | val x => simp only [Option.some.injEq, Prod.mk.injEq] at h; obtain ⟨rfl, rfl⟩ := h; rfl
        | skip => simp only [Option.some.injEq, Prod.mk.injEq] at h; obtain ⟨rfl, rfl⟩ := h; rfl
        | enter f args =>
          simp only at h ⊢
          cases hc : e.call f args H1 with
          | none => simp only [hc, reduceCtorEq] at h
          | some q =>
            obtain ⟨ae, H2⟩ := q
            simp only [hc] at h ⊢
            cases ae with
            | ret x => simp only [Option.some.injEq, Prod.mk.injEq] at h; obtain ⟨rfl, rfl⟩ := h; rfl
            | panic x => simp only [reduceCtorEq] at h
        | round l args =>
          simp only at h ⊢
          simp only [h]
        | panic x => simp only [reduceCtorEq] at h
        | defer d => simp only [reduceCtorEq] at h
        | recover => simp only [reduceCtorEq] at h

theorem want_agree {ts us : Tmps} {o : IOper} (h : Agree o.reads ts us) : want o.guard ts = want o.guard us := by
  unfold IOper.reads at h
  unfold want
  split at h
  · rename_i hg; rw [hg]
  · rename_i d b hg
    rw [hg]
    have := h d (by simp)
    simp only [this]

theorem Agree.op {ts us : Tmps} {o : IOper} (h : Agree o.reads ts us) : Agree o.op.reads ts us := by
  unfold IOper.reads at h
  split at h
  · exact h
  · exact fun t ht => h t (List.mem_cons_of_mem _ ht)

theorem stepV_agree {e : Ev} {o : IOper} {ts us : Tmps} (H : AHeap) (h : Agree o.reads ts us) : stepV e o ts H = stepV e o us H := by
  unfold stepV
  simp only [aopK_eq]
  rw [want_agree h, aop_agree H h.op]

/-- An operation that only reads. -/
theorem quiet_aop {io : IOp} (hq : io.cls = 0) {ev : Operand → Option Value} {H H' : AHeap} {r : AR} (h : aop io ev H = some (r, H')) : H' = H ∧ ∃ v, r = .val v := by
  cases io
  all_goals try (exact absurd hq (Nat.succ_ne_zero _))
  all_goals simp only [aop, val, Option.bind_eq_bind, Option.bind_eq_some_iff] at h
  all_goals repeat' split at h
  all_goals simp only [Option.bind_eq_some_iff, Option.some.injEq, Prod.mk.injEq, reduceCtorEq, exists_false, and_false, false_and] at h
  all_goals first
    | (obtain ⟨rfl, rfl⟩ := h; exact ⟨rfl, _, rfl⟩)
    | (obtain ⟨_, _, rfl, rfl⟩ := h; exact ⟨rfl, _, rfl⟩)
    | (obtain ⟨_, _, _, _, rfl, rfl⟩ := h; exact ⟨rfl, _, rfl⟩)

end Go.Abs
