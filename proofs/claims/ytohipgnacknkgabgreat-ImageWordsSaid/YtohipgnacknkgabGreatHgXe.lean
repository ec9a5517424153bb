/-
  ABS, part Xe: the abstract machine as a relation: rules for pieces of code, one at a time. (Own work.)
-/
import Derived.Test.YtohipgnacknkgabGreatHgXd
set_option linter.unusedSimpArgs false
set_option linter.unusedVariables false
namespace Go.Abs
open Go

variable {P : Program}

/-- A piece of code goes from s to s'. -/
def SC (P : Program) (rd : Option Nat) (ic : ICode) (s : ASt) (x : AX) (s' : ASt) : Prop :=
  ∀ c, cCode P c = some ic → ∀ ρ r a w, rdR ρ rd r → StR P ρ s a w → c.wpIn (fen r) 0 P (Post P ρ s.H w x s') a w
def SL (P : Program) (rd : Option Nat) (ic : ICode) (s : ASt) (x : AX) (s' : ASt) : Prop :=
  ∀ c, cCode P c = some ic → ∀ ρ r a w, rdR ρ rd r → StR P ρ s a w → LoopIn (fen r) 0 P c (Post P ρ s.H w x s') a w
def SS (P : Program) (rd : Option Nat) (ib ic : ICode) (s : ASt) (x : AX) (s' : ASt) : Prop :=
  ∀ body cur, cCode P body = some ib → cCode P cur = some ic → ∀ ρ r a w, rdR ρ rd r → StR P ρ s a w → ScopeIn (fen r) 0 P body cur (Post P ρ s.H w x s') a w
def SD (P : Program) (ic : ICode) (s : ASt) (m : Option (Value × Bool)) (x : AX) (s' : ASt) (m' : Option (Value × Bool)) : Prop :=
  ∀ c, cCode P c = some ic → ∀ ρ a w c₀ cs u, StR P ρ s a w → dmR ρ m u → c.wpS P (PostD P ρ s.H w c₀ cs x s' m') a ({ c₀ with mode := u } :: cs) w

section
open Classical
noncomputable def oneC (rd : Option Nat) (ic : ICode) (s : ASt) (x : AX) (s' : ASt) : Option Nat → ICode → ASt → Option (AX × ASt) :=
  fun a b c => if a = rd ∧ b = ic ∧ c = s then some (x, s') else none
noncomputable def oneS (rd : Option Nat) (ib ic : ICode) (s : ASt) (x : AX) (s' : ASt) : Option Nat → ICode → ICode → ASt → Option (AX × ASt) :=
  fun a d b c => if a = rd ∧ d = ib ∧ b = ic ∧ c = s then some (x, s') else none
noncomputable def oneF (f : Nat) (args : List Value) (H : AHeap) (r : AE) (H' : AHeap) : Nat → List Value → AHeap → Option (AE × AHeap) :=
  fun a b c => if a = f ∧ b = args ∧ c = H then some (r, H') else none
noncomputable def oneD (ic : ICode) (s : ASt) (m : Option (Value × Bool)) (x : AX) (s' : ASt) (m' : Option (Value × Bool)) : ICode → ASt → Option (Value × Bool) → Option (AX × ASt × Option (Value × Bool)) :=
  fun a b c => if a = ic ∧ b = s ∧ c = m then some (x, s', m') else none

theorem oneC_ok {rd : Option Nat} {ic : ICode} {s : ASt} {x : AX} {s' : ASt} (h : SC P rd ic s x s') (e : Ev) : CodeOk P { e with code := oneC rd ic s x s' } := by
  intro rd1 c ic1 s1 x1 s1' hc h1 ρ r a w hr hs
  simp only [oneC] at h1
  split at h1
  · rename_i hh
    obtain ⟨rfl, rfl, rfl⟩ := hh
    simp only [Option.some.injEq, Prod.mk.injEq] at h1
    obtain ⟨rfl, rfl⟩ := h1
    exact h c hc ρ r a w hr hs
  · cases h1
theorem oneL_ok {rd : Option Nat} {ic : ICode} {s : ASt} {x : AX} {s' : ASt} (h : SL P rd ic s x s') (e : Ev) : LoopOk P { e with loop := oneC rd ic s x s' } := by
  intro rd1 c ic1 s1 x1 s1' hc h1 ρ r a w hr hs
  simp only [oneC] at h1
  split at h1
  · rename_i hh
    obtain ⟨rfl, rfl, rfl⟩ := hh
    simp only [Option.some.injEq, Prod.mk.injEq] at h1
    obtain ⟨rfl, rfl⟩ := h1
    exact h c hc ρ r a w hr hs
  · cases h1
theorem oneS_ok {rd : Option Nat} {ib ic : ICode} {s : ASt} {x : AX} {s' : ASt} (h : SS P rd ib ic s x s') (e : Ev) : ScopeOk P { e with scope := oneS rd ib ic s x s' } := by
  intro rd1 body ib1 cur ic1 s1 x1 s1' hb hc h1 ρ r a w hr hs
  simp only [oneS] at h1
  split at h1
  · rename_i hh
    obtain ⟨rfl, rfl, rfl, rfl⟩ := hh
    simp only [Option.some.injEq, Prod.mk.injEq] at h1
    obtain ⟨rfl, rfl⟩ := h1
    exact h body cur hb hc ρ r a w hr hs
  · cases h1
theorem oneF_ok {f : Nat} {args : List Value} {H H' : AHeap} {r : AE} (h : CallOk P f args H r H') (e : Ev) : CallsOk P { e with call := oneF f args H r H' } := by
  intro f1 args1 H1 r1 H1' h1
  simp only [oneF] at h1
  split at h1
  · rename_i hh
    obtain ⟨rfl, rfl, rfl⟩ := hh
    simp only [Option.some.injEq, Prod.mk.injEq] at h1
    obtain ⟨rfl, rfl⟩ := h1
    exact h
  · cases h1
theorem oneD_ok {ic : ICode} {s : ASt} {m : Option (Value × Bool)} {x : AX} {s' : ASt} {m' : Option (Value × Bool)} (h : SD P ic s m x s' m') (e : Ev) : CodeDOk P { e with codeD := oneD ic s m x s' m' } := by
  intro c ic1 s1 m1 x1 s1' m1' hc h1 ρ a w c₀ cs u hs hm
  simp only [oneD] at h1
  split at h1
  · rename_i hh
    obtain ⟨rfl, rfl, rfl⟩ := hh
    simp only [Option.some.injEq, Prod.mk.injEq] at h1
    obtain ⟨rfl, rfl, rfl⟩ := h1
    exact h c hc ρ a w c₀ cs u hs hm
  · cases h1
end

theorem noC (e : Ev) : CodeOk P { e with code := fun _ _ _ => none } := fun _ _ _ _ _ _ _ h => (by cases h)
theorem none_code : CodeOk P Ev.none := fun _ _ _ _ _ _ _ h => (by cases h)
theorem none_call : CallsOk P Ev.none := fun _ _ _ _ _ h => (by cases h)
theorem none_loop : LoopOk P Ev.none := fun _ _ _ _ _ _ _ h => (by cases h)
theorem none_scope : ScopeOk P Ev.none := fun _ _ _ _ _ _ _ _ _ _ h => (by cases h)
theorem none_codeD : CodeDOk P Ev.none := fun _ _ _ _ _ _ _ _ h => (by cases h)

def noDraw : DrawFn := fun _ _ _ _ _ => none
theorem noDraw_ok : DrawOk P noDraw := fun _ _ _ _ _ _ _ _ _ _ h => (by cases h)

/-! ### Operations -/

def StepR (P : Program) (rd : Option Nat) (io : IOper) (s : ASt) (x : AX) (s' : ASt) : Prop := ∃ e, CodeOk P e ∧ CallsOk P e ∧ stepOp e rd io s = some (x, s')

inductive OpsR (P : Program) (rd : Option Nat) : List IOper → ASt → AX → ASt → Prop
  | nil (s : ASt) : OpsR P rd [] s .normal s
  | next {o : IOper} {os : List IOper} {s s1 s' : ASt} {x : AX} (h : StepR P rd o s .normal s1) (h2 : OpsR P rd os s1 x s') : OpsR P rd (o :: os) s x s'
  | stop {o : IOper} {os : List IOper} {s s' : ASt} {v : Value} (h : StepR P rd o s (.panic v) s') : OpsR P rd (o :: os) s (.panic v) s'

theorem OpsR.ok {ops : Array Oper} {l : List IOper} {rd r : Option Nat} (hl : ∀ i : Nat, (ops[i]? = none ∧ l[i]? = none) ∨ ∃ o io, ops[i]? = some o ∧ l[i]? = some io ∧ cOper P ops o = some io) :
    ∀ (is : List Nat) {s s' : ASt} {x : AX} {ρ : Rho} {a : Act} {w : World}, OpsR P rd (is.filterMap fun (i : Nat) => l[i]?) s x s' → rdR ρ rd r → StR P ρ s a w →
      ∀ (Q : Exit → Act → World → Prop), (∀ ex a' w', Post P ρ s.H w x s' ex a' w' → Q ex a' w') → wpOpsIn (fen r) 0 P ops Q is a w
  | [], s, s', x, ρ, a, w, h, hrd, hs, Q, hQ => by
    simp only [List.filterMap_nil] at h
    cases h
    exact hQ _ _ _ ⟨ρ, Ext.refl hs.rel, hs, rfl⟩
  | i :: is, s, s', x, ρ, a, w, h, hrd, hs, Q, hQ => by
    simp only [wpOpsIn]
    rcases hl i with ⟨h1, h2⟩ | ⟨o, io, h1, h2, h3⟩
    · simp only [h1]
      simp only [List.filterMap_cons, h2] at h
      exact OpsR.ok hl is h hrd hs Q hQ
    · simp only [h1]
      simp only [List.filterMap_cons, h2] at h
      cases h with
      | next hst hrest =>
        obtain ⟨e, he, hcall, hst⟩ := hst
        refine stepOp_ok he hcall h3 hst hrd hs ?_ ?_
        · rintro - ρ' a' w' hext hst'
          exact OpsR.ok hl is hrest (rdR_mono hext.sub hrd) hst' Q (fun ex a2 w2 hh => hQ _ _ _ (Post.trans hext hh))
        · rintro v hv
          cases hv
      | stop hst =>
        obtain ⟨e, he, hcall, hst⟩ := hst
        refine stepOp_ok he hcall h3 hst hrd hs ?_ ?_
        · rintro hv
          cases hv
        · rintro v hv ρ' y w' hext hst' hvv
          obtain rfl := AX.panic.inj hv
          exact hQ _ _ _ ⟨ρ', hext, hst', y, rfl, hvv⟩

theorem SC.region {rd : Option Nat} {l : List IOper} {s s' : ASt} {x : AX} (h : OpsR P rd l s x s') : SC P rd (.region l none) s x s' := by
  intro c hc ρ r a w hrd hs
  cases c <;> simp only [cCode, Option.bind_eq_bind, Option.bind_eq_some_iff, Option.pure_def, Option.some.injEq, reduceCtorEq, and_false, exists_false] at hc
  rename_i id ops d
  obtain ⟨l', hl, hc⟩ := hc
  cases d with
  | true => simp at hc
  | false =>
    simp only [Bool.false_eq_true, if_false, Option.some.injEq, ICode.region.injEq, and_true] at hc
    subst hc
    refine wpIn_region ?_
    have hlen : l'.length = ops.size := by simpa using mapM_length hl
    have hr : (List.range ops.size).filterMap (fun (i : Nat) => l'[i]?) = l' := by rw [← hlen]; exact range_filterMap l'
    exact OpsR.ok (ops_get hl) (List.range ops.size) (by rw [hr]; exact h) hrd hs _ (fun _ _ _ hh => hh)

/-! ### Code -/

theorem SC.of_step {draw : DrawFn} (hd : DrawOk P draw) {e : Ev} (he : CodeOk P e) (hcall : CallsOk P e) (hsc : ScopeOk P e) (hlo : LoopOk P e) {rd : Option Nat} {ic : ICode} {s s' : ASt} {x : AX}
    (h : stepCode draw e rd ic s = some (x, s')) : SC P rd ic s x s' := fun c hc => stepCode_ok hd he hcall hsc hlo rd c ic s x s' hc h

theorem SC.skip {rd : Option Nat} {s : ASt} : SC P rd .skip s .normal s := SC.of_step noDraw_ok none_code none_call none_scope none_loop rfl
theorem SC.label {rd : Option Nat} {l : Nat} {s : ASt} : SC P rd (.label l) s .normal s := SC.of_step noDraw_ok none_code none_call none_scope none_loop rfl
theorem SC.exit {rd : Option Nat} {l : Nat} {s : ASt} : SC P rd (.exit l) s (.jump (.exit l)) s := SC.of_step noDraw_ok none_code none_call none_scope none_loop rfl
theorem SC.goto {rd : Option Nat} {l : Nat} {s : ASt} : SC P rd (.goto l) s (.jump (.goto l)) s := SC.of_step noDraw_ok none_code none_call none_scope none_loop rfl
theorem SC.ret {rd : Option Nat} {s : ASt} : SC P rd .ret s (.jump .ret) s := SC.of_step noDraw_ok none_code none_call none_scope none_loop rfl

theorem SC.seq {rd : Option Nat} {i1 i2 : ICode} {s s1 s' : ASt} {x : AX} (h1 : SC P rd i1 s .normal s1) (h2 : SC P rd i2 s1 x s') : SC P rd (.seq i1 i2) s x s' := by
  intro c hc ρ r a w hrd hs
  cases c <;> simp only [cCode, Option.bind_eq_bind, Option.bind_eq_some_iff, Option.pure_def, Option.some.injEq, reduceCtorEq, and_false, exists_false] at hc
  · obtain ⟨_, _, hc⟩ := hc
    split at hc <;> simp at hc
  rename_i c1 c2
  obtain ⟨j1, g1, j2, g2, hc⟩ := hc
  obtain ⟨rfl, rfl⟩ := ICode.seq.inj hc
  refine wpIn_seq (wpIn_mono (h1 c1 g1 ρ r a w hrd hs) ?_)
  rintro ex a1 w1 ⟨ρ1, x01, st1, hx⟩
  simp only [xR] at hx
  subst hx
  exact wpIn_mono (h2 c2 g2 ρ1 r a1 w1 (rdR_mono x01.sub hrd) st1) fun _ _ _ hh => Post.trans x01 hh

theorem SC.seq_stop {rd : Option Nat} {i1 i2 : ICode} {s s' : ASt} {x : AX} (h1 : SC P rd i1 s x s') (hx : x ≠ .normal) : SC P rd (.seq i1 i2) s x s' := by
  refine SC.of_step (e := { Ev.none with code := oneC rd i1 s x s' }) noDraw_ok (oneC_ok h1 _) none_call none_scope none_loop ?_
  simp only [stepCode, oneC, and_self, if_true]
  cases x
  · exact absurd rfl hx
  · rfl
  · rfl

theorem SC.cond {rd : Option Nat} {c : Operand} {i1 i2 : ICode} {s s' : ASt} {x : AX} {b : Bool} (hv : aev s.ts c = some (.bool b)) (h : SC P rd (bif b then i1 else i2) s x s') : SC P rd (.cond c i1 i2) s x s' := by
  cases b with
  | true =>
    refine SC.of_step (e := { Ev.none with code := oneC rd i1 s x s' }) noDraw_ok (oneC_ok h _) none_call none_scope none_loop ?_
    simp only [stepCode, hv, oneC, and_self, if_true]
  | false =>
    refine SC.of_step (e := { Ev.none with code := oneC rd i2 s x s' }) noDraw_ok (oneC_ok h _) none_call none_scope none_loop ?_
    simp only [stepCode, hv, oneC, and_self, if_true]

def blockX (id : Nat) : AX → AX
  | .jump (.exit j) => if j = id then .normal else .jump (.exit j)
  | x => x

theorem SC.block {rd : Option Nat} {id : Nat} {b : ICode} {s s' : ASt} {x : AX} (h : SC P rd b s x s') : SC P rd (.block id b) s (blockX id x) s' := by
  refine SC.of_step (e := { Ev.none with code := oneC rd b s x s' }) noDraw_ok (oneC_ok h _) none_call none_scope none_loop ?_
  simp only [stepCode, oneC, and_self, if_true]
  cases x with
  | normal => rfl
  | panic v => rfl
  | jump j =>
    cases j with
    | exit j => by_cases hj : j = id <;> simp [blockX, hj]
    | goto l => rfl
    | ret => rfl

theorem SC.loop {rd : Option Nat} {b : ICode} {s s' : ASt} {x : AX} (h : SL P rd b s x s') : SC P rd (.loop b) s x s' := by
  refine SC.of_step (e := { Ev.none with loop := oneC rd b s x s' }) noDraw_ok none_code none_call none_scope (oneL_ok h _) ?_
  simp only [stepCode, oneC, and_self, if_true]

theorem SL.next {rd : Option Nat} {b : ICode} {s s1 s' : ASt} {x : AX} (h : SC P rd b s .normal s1) (h2 : SL P rd b s1 x s') : SL P rd b s x s' := by
  intro c hc ρ r a w hrd hs
  refine stepLoop_ok (e := { Ev.none with code := oneC rd b s .normal s1, loop := oneC rd b s1 x s' }) (oneC_ok h { Ev.none with loop := oneC rd b s1 x s' }) (oneL_ok h2 { Ev.none with code := oneC rd b s .normal s1 }) hc ?_ hrd hs
  simp only [stepLoop, oneC, and_self, if_true]

theorem SL.stop {rd : Option Nat} {b : ICode} {s s' : ASt} {x : AX} (h : SC P rd b s x s') (hx : x ≠ .normal) : SL P rd b s x s' := by
  intro c hc ρ r a w hrd hs
  refine stepLoop_ok (e := { Ev.none with code := oneC rd b s x s' }) (oneC_ok h _) none_loop hc ?_ hrd hs
  simp only [stepLoop, oneC, and_self, if_true]
  cases x
  · exact absurd rfl hx
  · rfl
  · rfl

theorem SC.scope {rd : Option Nat} {b : ICode} {s s' : ASt} {x : AX} (h : SS P rd b b s x s') : SC P rd (.scope b) s x s' := by
  refine SC.of_step (e := { Ev.none with scope := oneS rd b b s x s' }) noDraw_ok none_code none_call (oneS_ok h _) none_loop ?_
  simp only [stepCode, oneS, and_self, if_true]

theorem SS.goto {rd : Option Nat} {b c rest : ICode} {s s1 s' : ASt} {x : AX} {l : Nat} (h : SC P rd c s (.jump (.goto l)) s1) (hf : iFind b l = some rest) (h2 : SS P rd b rest s1 x s') : SS P rd b c s x s' := by
  intro body cur hb hc ρ r a w hrd hs
  refine stepScope_ok (e := { Ev.none with code := oneC rd c s (.jump (.goto l)) s1, scope := oneS rd b rest s1 x s' }) (oneC_ok h { Ev.none with scope := oneS rd b rest s1 x s' }) (oneS_ok h2 { Ev.none with code := oneC rd c s (.jump (.goto l)) s1 }) hb hc ?_ hrd hs
  simp only [stepScope, oneC, oneS, and_self, if_true, hf]

theorem SS.stop {rd : Option Nat} {b c : ICode} {s s' : ASt} {x : AX} (h : SC P rd c s x s') (hx : ∀ l rest, x = .jump (.goto l) → iFind b l ≠ some rest) : SS P rd b c s x s' := by
  intro body cur hb hc ρ r a w hrd hs
  refine stepScope_ok (e := { Ev.none with code := oneC rd c s x s' }) (oneC_ok h _) none_scope hb hc ?_ hrd hs
  simp only [stepScope, oneC, and_self, if_true]
  cases x with
  | normal => rfl
  | panic v => rfl
  | jump j =>
    cases j with
    | exit j => rfl
    | ret => rfl
    | goto l =>
      cases hf : iFind b l with
      | none => simp only [hf]
      | some rest => exact absurd hf (hx l rest rfl)

theorem SC.rangeFunc {rd : Option Nat} {f : Operand} {ps : Array Tmp} {assign body : ICode} {s s' : ASt} {x : AX} {g : Nat} {first captured : Array Value} {l : Nat} {mark : List Deferred} {H H' : AHeap} {r : AE}
    (hv : aev s.ts f = some (.func (.func g) first captured)) (he : enterL rd s ps assign body = some (l, mark, H))
    (hc : CallOk P g (first.toList ++ [.func (.yield l) #[] #[]] ++ captured.toList) H r H')
    (h : match r with | .ret _ => endL l { s with H := H', ds := mark ++ s.ds } = some (x, s') | .panic v => x = .panic v ∧ s' = { s with H := H', ds := mark ++ s.ds }) : SC P rd (.rangeFunc f ps assign body) s x s' := by
  refine SC.of_step (e := { Ev.none with call := oneF g (first.toList ++ [.func (.yield l) #[] #[]] ++ captured.toList) H r H' }) noDraw_ok none_code (oneF_ok hc _) none_scope none_loop ?_
  simp only [stepCode, stepRF, hv, he, oneF, and_self, if_true]
  cases r with
  | ret v => exact h
  | panic v => obtain ⟨rfl, rfl⟩ := h; rfl

theorem SC.draw (hm : P.follows .mixedOrders = true) {e : Ev} (he : CodeOk P e) (hcall : CallsOk P e) (hsc : ScopeOk P e) (hlo : LoopOk P e) {rd : Option Nat} {l : List IOper} {is : List IInfo} {s s' : ASt} {x : AX}
    (h : drawFn e rd l is s = some (x, s')) : SC P rd (.region l (some is)) s x s' :=
  SC.of_step (drawOk hm) he hcall hsc hlo h

/-! ### Deferred frames -/

def StepDR (P : Program) (io : IOper) (s : ASt) (m : Option (Value × Bool)) (s' : ASt) (m' : Option (Value × Bool)) : Prop := ∃ e, CallsOk P e ∧ stepOpD e io s m = some (s', m')

inductive OpsDR (P : Program) : List IOper → ASt → Option (Value × Bool) → ASt → Option (Value × Bool) → Prop
  | nil (s : ASt) (m : Option (Value × Bool)) : OpsDR P [] s m s m
  | next {o : IOper} {os : List IOper} {s s1 s' : ASt} {m m1 m' : Option (Value × Bool)} (h : StepDR P o s m s1 m1) (h2 : OpsDR P os s1 m1 s' m') : OpsDR P (o :: os) s m s' m'

theorem wpOpsS_one {ops : Array Oper} {Q : Exit → Act → List Frame → World → Prop} {i : Nat} {is : List Nat} {a : Act} {cs : List Frame} {w : World}
    (h : wpOpsS P ops (fun ex a cs w => match ex with | .normal => wpOpsS P ops Q is a cs w | ex => Q ex a cs w) [i] a cs w) : wpOpsS P ops Q (i :: is) a cs w := by
  simp only [wpOpsS] at h ⊢
  exact h

theorem OpsDR.ok {ops : Array Oper} {l : List IOper} (hl : ∀ i : Nat, (ops[i]? = none ∧ l[i]? = none) ∨ ∃ o io, ops[i]? = some o ∧ l[i]? = some io ∧ cOper P ops o = some io) {c₀ : Frame} {cs : List Frame} :
    ∀ (is : List Nat) {s s' : ASt} {m m' : Option (Value × Bool)} {ρ : Rho} {a : Act} {w : World} {u : FrameMode}, OpsDR P (is.filterMap fun (i : Nat) => l[i]?) s m s' m' → StR P ρ s a w → dmR ρ m u →
      ∀ (Q : Exit → Act → List Frame → World → Prop), (∀ ex a' cs' w', PostD P ρ s.H w c₀ cs .normal s' m' ex a' cs' w' → Q ex a' cs' w') → wpOpsS P ops Q is a ({ c₀ with mode := u } :: cs) w
  | [], s, s', m, m', ρ, a, w, u, h, hs, hm, Q, hQ => by
    simp only [List.filterMap_nil] at h
    cases h
    exact hQ _ _ _ _ ⟨ρ, Ext.refl hs.rel, hs, rfl, u, rfl, hm⟩
  | i :: is, s, s', m, m', ρ, a, w, u, h, hs, hm, Q, hQ => by
    rcases hl i with ⟨h1, h2⟩ | ⟨o, io, h1, h2, h3⟩
    · simp only [wpOpsS, h1]
      simp only [List.filterMap_cons, h2] at h
      exact OpsDR.ok hl is h hs hm Q hQ
    · simp only [List.filterMap_cons, h2] at h
      cases h with
      | next hst hrest =>
        rename_i s1 m1
        obtain ⟨e, hcall, hst⟩ := hst
        refine wpOpsS_one (stepOpsD_ok hcall hl [i] (s' := s1) (m' := m1) (by simp only [List.filterMap_cons, h2, List.filterMap_nil, stepOpsD, hst]) hs hm _ ?_)
        rintro ex a1 cs1 w1 ⟨ρ1, x01, st1, hx, u1, rfl, hm1⟩
        simp only [xR] at hx
        subst hx
        exact OpsDR.ok hl is hrest st1 hm1 Q (fun ex a2 cs2 w2 hh => hQ _ _ _ _ (PostD.trans x01 hh))

theorem SD.region {l : List IOper} {s s' : ASt} {m m' : Option (Value × Bool)} (h : OpsDR P l s m s' m') : SD P (.region l none) s m .normal s' m' := by
  intro c hc ρ a w c₀ cs u hs hm
  cases c <;> simp only [cCode, Option.bind_eq_bind, Option.bind_eq_some_iff, Option.pure_def, Option.some.injEq, reduceCtorEq, and_false, exists_false] at hc
  rename_i id ops d
  obtain ⟨l', hl, hc⟩ := hc
  cases d with
  | true => simp at hc
  | false =>
    simp only [Bool.false_eq_true, if_false, Option.some.injEq, ICode.region.injEq, and_true] at hc
    subst hc
    refine wpS_region ?_
    have hlen : l'.length = ops.size := by simpa using mapM_length hl
    have hr : (List.range ops.size).filterMap (fun (i : Nat) => l'[i]?) = l' := by rw [← hlen]; exact range_filterMap l'
    exact OpsDR.ok (ops_get hl) (List.range ops.size) (by rw [hr]; exact h) hs hm _ (fun _ _ _ _ hh => hh)

theorem SD.of_step {e : Ev} (he : CodeDOk P e) (hcall : CallsOk P e) {ic : ICode} {s s' : ASt} {m m' : Option (Value × Bool)} {x : AX} (h : stepCodeD e ic s m = some (x, s', m')) : SD P ic s m x s' m' :=
  fun c hc => stepCodeD_ok he hcall c ic s m x s' m' hc h

theorem SD.skip {s : ASt} {m : Option (Value × Bool)} : SD P .skip s m .normal s m := SD.of_step none_codeD none_call rfl
theorem SD.ret {s : ASt} {m : Option (Value × Bool)} : SD P .ret s m (.jump .ret) s m := SD.of_step none_codeD none_call rfl

theorem SD.seq {i1 i2 : ICode} {s s1 s' : ASt} {m m1 m' : Option (Value × Bool)} {x : AX} (h1 : SD P i1 s m .normal s1 m1) (h2 : SD P i2 s1 m1 x s' m') : SD P (.seq i1 i2) s m x s' m' := by
  intro c hc ρ a w c₀ cs u hs hm
  cases c <;> simp only [cCode, Option.bind_eq_bind, Option.bind_eq_some_iff, Option.pure_def, Option.some.injEq, reduceCtorEq, and_false, exists_false] at hc
  · obtain ⟨_, _, hc⟩ := hc
    split at hc <;> simp at hc
  rename_i c1 c2
  obtain ⟨j1, g1, j2, g2, hc⟩ := hc
  obtain ⟨rfl, rfl⟩ := ICode.seq.inj hc
  refine wpS_seq (wpS_mono (h1 c1 g1 ρ a w c₀ cs u hs hm) ?_)
  rintro ex a1 cs1 w1 ⟨ρ1, x01, st1, hx, u1, rfl, hm1⟩
  simp only [xR] at hx
  subst hx
  exact wpS_mono (h2 c2 g2 ρ1 a1 w1 c₀ cs u1 st1 hm1) fun _ _ _ _ hh => PostD.trans x01 hh

theorem SD.seq_stop {i1 i2 : ICode} {s s' : ASt} {m m' : Option (Value × Bool)} {x : AX} (h1 : SD P i1 s m x s' m') (hx : x ≠ .normal) : SD P (.seq i1 i2) s m x s' m' := by
  refine SD.of_step (e := { Ev.none with codeD := oneD i1 s m x s' m' }) (oneD_ok h1 _) none_call ?_
  simp only [stepCodeD, oneD, and_self, if_true]
  cases x
  · exact absurd rfl hx
  · rfl
  · rfl

theorem SD.cond {c : Operand} {i1 i2 : ICode} {s s' : ASt} {m m' : Option (Value × Bool)} {x : AX} {b : Bool} (hv : aev s.ts c = some (.bool b)) (h : SD P (bif b then i1 else i2) s m x s' m') : SD P (.cond c i1 i2) s m x s' m' := by
  cases b with
  | true =>
    refine SD.of_step (e := { Ev.none with codeD := oneD i1 s m x s' m' }) (oneD_ok h _) none_call ?_
    simp only [stepCodeD, hv, oneD, and_self, if_true]
  | false =>
    refine SD.of_step (e := { Ev.none with codeD := oneD i2 s m x s' m' }) (oneD_ok h _) none_call ?_
    simp only [stepCodeD, hv, oneD, and_self, if_true]

/-! ### Frames on their way out -/

def CallDR (P : Program) (f : Nat) (args : List Value) (m : Option Value) (H : AHeap) (m' : Option Value) (H' : AHeap) : Prop :=
  ∃ T e, TOk P T ∧ CodeDOk P e ∧ callD T e f args m H = some (m', H')

def LeaveR (P : Program) (fn : AFn) (ts : Tmps) (ds : List Deferred) (m : Option Value) (H : AHeap) (r : AE) (H' : AHeap) : Prop :=
  ∀ (F : Func), IResOk P F fn.results → ∀ (tmps : Array Value) (R : Ending → World → Prop) (ρ : Rho) (ds' : List Deferred) (w : World) (u : FrameMode), Rel P ρ H w → Clo ρ H → vrA ρ ts.arr tmps → defsR ρ ds ds' → modeR ρ m u →
    (∀ ex w', (∃ ρ', Ext P ρ H w ρ' H' w' ∧ endR ρ' r ex) → R ex w') → LeavesInM Fence.wide 0 P F tmps R ds' u w

theorem LeaveR.ret {fn : AFn} {ts : Tmps} {H : AHeap} {v : Value} (h : resV ts H fn.results = some v) : LeaveR P fn ts [] none H (.ret v) H := by
  intro F hres tmps R ρ ds' w u hr hc ht hd hm hR
  exact leave_ok (T := fun _ => none) (fun _ _ h => by cases h) none_codeD hres [] none H (by simp only [leave, h]) ρ ds' w u hr hc ht hd hm hR

theorem LeaveR.panic {fn : AFn} {ts : Tmps} {H : AHeap} {v : Value} : LeaveR P fn ts [] (some v) H (.panic v) H := by
  intro F hres tmps R ρ ds' w u hr hc ht hd hm hR
  exact leave_ok (T := fun _ => none) (fun _ _ h => by cases h) none_codeD hres [] (some v) H rfl ρ ds' w u hr hc ht hd hm hR

theorem LeaveR.collected {fn : AFn} {ts : Tmps} {H H' : AHeap} {d : Deferred} {ds : List Deferred} {m : Option Value} {r : AE} {rb : Nat} (hd : d.target = .collected rb) (hg : H.get rb = some (.defd (some [])))
    (h : LeaveR P fn ts ds m (H.set rb (.defd none)) r H') : LeaveR P fn ts (d :: ds) m H r H' := by
  intro F hres tmps R ρ ds' w u hr hc ht hdd hm hR
  obtain ⟨d', ds', rfl, ⟨htgt, hargs⟩, hds⟩ := hdd
  refine ⟨modeR_run hm, ?_⟩
  rw [hd] at htgt
  simp only [tgtR] at htgt
  obtain ⟨p, hp, htgt⟩ := htgt
  obtain ⟨h1, h2, ds0, hh, hd0⟩ := hr.obj _ p _ hp hg
  simp only [defsR] at hd0
  subst hd0
  have hext := Ext.putO hr hp hg rfl (o' := .defd none) rfl (x := .deferred none) h1 h2 ⟨_, hh, rfl⟩ ⟨h1, h2, putObj_get (hr.lt rb p hp)⟩
  refine .inl ⟨p.B, _, htgt, run_takeDeferred hh, ?_⟩
  exact h F hres tmps R ρ ds' _ u hext.rel (hc.ext hext) (vrA_mono' hext.sub ht) (defsR_mono hext.sub hds) (modeR_mono hext.sub hm)
    (fun ex w' ⟨ρ', g1, g2⟩ => hR ex w' ⟨ρ', hext.trans g1, g2⟩)

theorem LeaveR.call {fn : AFn} {ts : Tmps} {H H1 H' : AHeap} {d : Deferred} {ds : List Deferred} {m m1 : Option Value} {r : AE} {f : Nat} {cap : Array Value} (hdt : d.target = .fn (.func f) cap)
    (hc1 : CallDR P f (d.args.toList ++ cap.toList) m H m1 H1) (h : LeaveR P fn ts ds m1 H1 r H') : LeaveR P fn ts (d :: ds) m H r H' := by
  intro F hres tmps R ρ ds' w u hr hc ht hdd hm hR
  obtain ⟨d', ds', rfl, ⟨htgt, hargs⟩, hds⟩ := hdd
  refine ⟨modeR_run hm, ?_⟩
  rw [hdt] at htgt
  simp only [tgtR] at htgt
  obtain ⟨g, ys, htgt, hg, hcap⟩ := htgt
  simp only [fnr] at hg
  subst hg
  obtain ⟨T, e, hT, he, hcd⟩ := hc1
  have hxs : vrL ρ (d.args.toList ++ cap.toList) (d'.args ++ ys).toList := by
    rw [Array.toList_append]
    exact vrL_append (vrA_iff.1 hargs) (vrA_iff.1 hcap)
  obtain ⟨hcf, hcd'⟩ := callD_ok hT he hcd hr hc hxs hm
  refine .inr ⟨(fun hh => by cases hh), .func f, ys, f, d'.args ++ ys, htgt, ?_, fun _ _ => trivial, ?_⟩
  · rw [htgt]
    exact hcf w
  · refine CallsDIn.mono hcd' ?_
    rintro ex u1 w1 ⟨⟨y, rfl⟩, ρ1, x01, c1, hm1⟩
    exact h F hres tmps R ρ1 ds' w1 (settle u1) x01.rel c1 (vrA_mono' x01.sub ht) (defsR_mono x01.sub hds) hm1
      (fun ex w' ⟨ρ', g1, g2⟩ => hR ex w' ⟨ρ', x01.trans g1, g2⟩)

def outM : Option (Value × Bool) → Option Value
  | none => none
  | some (_, true) => none
  | some (v, false) => some v

/-- A deferred frame, by its body. -/
theorem CallDR.of_body {f : Nat} {fn : AFn} (hf : aFn P f = some fn) {args : List Value} {m : Option Value} {H : AHeap} {x : AX} {s1 : ASt} {m1 : Option (Value × Bool)}
    (h : SD P fn.code { ts := Tmps.enter fn.ntmps args, ds := [], H } (m.map fun v => (v, false)) x s1 m1) (hx : x = .normal ∨ x = .jump .ret) (hds : s1.ds = []) {v : Value} (hv : resV s1.ts s1.H fn.results = some v) :
    CallDR P f args m H (outM m1) s1.H := by
  refine ⟨fun g => if g = f then some fn else none, { Ev.none with codeD := oneD fn.code { ts := Tmps.enter fn.ntmps args, ds := [], H } (m.map fun v => (v, false)) x s1 m1 }, ?_, oneD_ok h _, ?_⟩
  · intro g a hg
    dsimp only at hg
    split at hg
    · rename_i e; rw [e, hf]; exact hg
    · cases hg
  · simp only [callD, if_true, oneD, and_self]
    rcases hx with rfl | rfl
    · simp only [hds, hv]
      cases m1 with
      | none => rfl
      | some vb => obtain ⟨v, b⟩ := vb; cases b <;> rfl
    · simp only [hds, hv]
      cases m1 with
      | none => rfl
      | some vb => obtain ⟨v, b⟩ := vb; cases b <;> rfl

/-- A call, by the function's body. -/
theorem CallOk.of_body {f : Nat} {fn : AFn} (hf : aFn P f = some fn) {args : List Value} {H : AHeap} {x : AX} {s1 : ASt} (h : SC P none fn.code { ts := Tmps.enter fn.ntmps args, ds := [], H } x s1)
    {r : AE} {H' : AHeap} (hl : match x with | .normal => LeaveR P fn s1.ts s1.ds none s1.H r H' | .jump .ret => LeaveR P fn s1.ts s1.ds none s1.H r H' | .panic v => LeaveR P fn s1.ts s1.ds (some v) s1.H r H' | _ => False) :
    CallOk P f args H r H' := by
  obtain ⟨fn', c, hf', hb, hn, hcode, hnt, hres⟩ := aFn_spec hf
  refine ⟨fun xs w => callFunc_run hf' hb hn xs w, fun ρ w xs hr hc hx => ?_⟩
  have hts := enter_vr fn'.ntmps hx
  rw [hnt] at h
  refine callsIn_of_wp_marks hf' hb trivial ?_
  refine wpIn_mono (h c hcode ρ none { tmps := xs ++ Array.replicate (fn'.ntmps - xs.size) undef, defers := [] } w rfl ⟨hr, hc, hts, rfl⟩) ?_
  rintro ex a1 w1 ⟨ρ1, x01, st1, hxr⟩
  have fin : ∀ m u, modeR ρ1 m u → LeaveR P fn s1.ts s1.ds m s1.H r H' → LeavesInM Fence.wide 0 P fn' a1.tmps (fun e w' => ∃ ρ', Ext P ρ H w ρ' H' w' ∧ endR ρ' r e) a1.defers u w1 := fun m u hu hl =>
    hl fn' hres a1.tmps _ ρ1 a1.defers w1 u st1.rel st1.clo st1.ts st1.ds hu (fun ex w' ⟨ρ', g1, g2⟩ => ⟨ρ', x01.trans g1, g2⟩)
  cases x with
  | normal => simp only [xR] at hxr; subst hxr; exact fin none _ rfl hl
  | panic v => obtain ⟨y, rfl, hv⟩ := hxr; exact fin (some v) _ ⟨y, rfl, hv⟩ hl
  | jump j =>
    cases j with
    | ret => simp only [xR] at hxr; subst hxr; exact fin none _ rfl hl
    | exit _ => exact hl.elim
    | goto _ => exact hl.elim

end Go.Abs
