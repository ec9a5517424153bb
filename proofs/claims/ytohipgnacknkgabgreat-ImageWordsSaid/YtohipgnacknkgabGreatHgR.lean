/-
  ABS, part R: the abstract machine is what the model does (three: code, calls). (Own work.)
-/
import Derived.Test.YtohipgnacknkgabGreatHgQ
import Derived.Laws.Sem
set_option linter.unusedSimpArgs false
set_option linter.unusedVariables false
namespace Go.Abs
open Go

variable {P : Program}

/-! ### A scope -/

def ScopeIn (F : Fence) (n : Nat) (P : Program) (body cur : Code) (Q : Exit → Act → World → Prop) (a : Act) (w : World) : Prop :=
  ∀ (b : Frame) (k : List Item) (cs : List Frame), b.roundOf = F.round → F.fn b.fn → F.room (cs.length + 1 + n) →
    ∃ e a' w', Q e a' w' ∧ ArrivesIn (Machine.fenced P F) P (lone (b.atR a (.code cur :: .inScope body :: k)) cs w) b k cs e a' w'

/-- What is asked of a piece of a scope. -/
def scopePost (F : Fence) (n : Nat) (P : Program) (body : Code) (Q : Exit → Act → World → Prop) : Exit → Act → World → Prop
  | .goto l, a, w =>
    match findLabel body l with
    | some rest => ScopeIn F n P body rest Q a w
    | none => Q (.goto l) a w
  | e, a, w => Q e a w

section
variable {b : Frame} {a : Act} {k : List Item} {cs : List Frame} {w : World}
theorem stepR_scope {c : Code} : step P (lone (b.atR a (.code (.scope c) :: k)) cs w) = .next (lone (b.atR a (.code c :: .inScope c :: k)) cs w) :=
  step_lone_go (by simp [stepG, stepG.exec, Frame.atR])
theorem stepR_inScope {c : Code} : step P (lone (b.atR a (.inScope c :: k)) cs w) = .next (lone (b.atR a k) cs w) :=
  step_lone_go (by simp [stepG, stepG.exec, Frame.atR])
end

theorem scopeIn_of_wpIn {F : Fence} {n : Nat} {body cur : Code} {Q : Exit → Act → World → Prop} {a : Act} {w : World} (h : cur.wpIn F n P (scopePost F n P body Q) a w) : ScopeIn F n P body cur Q a w := by
  intro b k cs hro hb hr
  obtain ⟨e, a1, w1, hq, harr⟩ := h b (.inScope body :: k) cs hro hb hr
  cases e with
  | normal => exact ⟨.normal, a1, w1, hq, StepsIn.trans harr (.one (fenced_calm hb hr rfl) stepR_inScope)⟩
  | exit id =>
    have hx : exitTo id (.inScope body :: k) = exitTo id k := by simp [exitTo]
    exact ⟨.exit id, a1, w1, hq, fun k' hk => harr.1 k' (by rw [hx]; exact hk), fun hr' hk => harr.2 hr' (by rw [hx]; exact hk)⟩
  | goto l =>
    simp only [scopePost] at hq
    split at hq
    · rename_i rest hf
      obtain ⟨e2, a2, w2, hq2, harr2⟩ := hq b k cs hro hb hr
      exact ⟨e2, a2, w2, hq2, .of_steps (harr.1 _ (by simp [gotoIn, hf])) harr2⟩
    · rename_i hf
      have hx : gotoIn l (.inScope body :: k) = gotoIn l k := by simp [gotoIn, hf]
      exact ⟨.goto l, a1, w1, hq, fun k' hk => harr.1 k' (by rw [hx]; exact hk), fun hr' hk => harr.2 hr' (by rw [hx]; exact hk)⟩
  | ret => exact ⟨_, a1, w1, hq, harr⟩
  | panic ch => exact ⟨_, a1, w1, hq, harr⟩
  | outgrown => exact ⟨_, a1, w1, hq, harr⟩

theorem wpIn_scope {F : Fence} {n : Nat} {body : Code} {Q : Exit → Act → World → Prop} {a : Act} {w : World} (h : ScopeIn F n P body body Q a w) : (Code.scope body).wpIn F n P Q a w := by
  intro b k cs hro hb hr
  obtain ⟨e, a1, w1, hq, harr⟩ := h b k cs hro hb hr
  exact ⟨e, a1, w1, hq, .of_steps (.one (fenced_calm hb hr rfl) stepR_scope) harr⟩

theorem iFind_ok : ∀ {c : Code} {ic : ICode} (l : Nat), cCode P c = some ic →
    (∃ rest irest, findLabel c l = some rest ∧ iFind ic l = some irest ∧ cCode P rest = some irest) ∨ (findLabel c l = none ∧ iFind ic l = none)
  | .seq x y, ic, l, h => by
    simp only [cCode, Option.bind_eq_bind, Option.bind_eq_some_iff, Option.pure_def, Option.some.injEq] at h
    obtain ⟨ix, hx, iy, hy, rfl⟩ := h
    simp only [findLabel, iFind]
    rcases iFind_ok l hx with ⟨rest, irest, h1, h2, h3⟩ | ⟨h1, h2⟩
    · simp only [h1, h2]
      refine .inl ⟨_, _, rfl, rfl, ?_⟩
      simp only [cCode, h3, hy, Option.bind_eq_bind, Option.bind_some, Option.pure_def]
    · simp only [h1, h2]
      exact iFind_ok l hy
  | .label l', ic, l, h => by
    simp only [cCode, Option.some.injEq] at h
    subst h
    by_cases e : l' = l
    · subst e
      exact .inl ⟨.skip, .skip, by simp [findLabel], by simp [iFind], by simp only [cCode]⟩
    · exact .inr ⟨by simp [findLabel, e], by simp [iFind, e]⟩
  | .skip, ic, l, h => by simp only [cCode, Option.some.injEq] at h; subst h; exact .inr ⟨rfl, rfl⟩
  | .exit _, ic, l, h => by simp only [cCode, Option.some.injEq] at h; subst h; exact .inr ⟨rfl, rfl⟩
  | .goto _, ic, l, h => by simp only [cCode, Option.some.injEq] at h; subst h; exact .inr ⟨rfl, rfl⟩
  | .ret, ic, l, h => by simp only [cCode, Option.some.injEq] at h; subst h; exact .inr ⟨rfl, rfl⟩
  | .refuse _, ic, l, h => by simp only [cCode, reduceCtorEq] at h
  | .region _ _ d, ic, l, h => by
    simp only [cCode, Option.bind_eq_bind, Option.bind_eq_some_iff] at h
    obtain ⟨l', _, h⟩ := h
    cases d
    · simp only [Bool.false_eq_true, if_false, Option.pure_def, Option.some.injEq] at h; subst h; exact .inr ⟨rfl, rfl⟩
    · simp only [if_true, Option.pure_def, Option.some.injEq] at h; subst h; exact .inr ⟨rfl, rfl⟩
  | .cond _ _ _, ic, l, h => by
    simp only [cCode, Option.bind_eq_bind, Option.bind_eq_some_iff, Option.pure_def, Option.some.injEq] at h
    obtain ⟨_, _, _, _, _, _, rfl⟩ := h
    exact .inr ⟨rfl, rfl⟩
  | .block _ _, ic, l, h => by
    simp only [cCode, Option.bind_eq_bind, Option.bind_eq_some_iff, Option.pure_def, Option.some.injEq] at h
    obtain ⟨_, _, rfl⟩ := h
    exact .inr ⟨rfl, rfl⟩
  | .loop _, ic, l, h => by
    simp only [cCode, Option.bind_eq_bind, Option.bind_eq_some_iff, Option.pure_def, Option.some.injEq] at h
    obtain ⟨_, _, rfl⟩ := h
    exact .inr ⟨rfl, rfl⟩
  | .rangeFunc _ _ _ _, ic, l, h => by
    simp only [cCode, Option.bind_eq_bind, Option.bind_eq_some_iff, Option.pure_def, Option.some.injEq] at h
    obtain ⟨_, _, _, _, _, _, rfl⟩ := h
    exact .inr ⟨rfl, rfl⟩
  | .scope _, ic, l, h => by
    simp only [cCode, Option.bind_eq_bind, Option.bind_eq_some_iff, Option.pure_def, Option.some.injEq] at h
    obtain ⟨_, _, rfl⟩ := h
    exact .inr ⟨rfl, rfl⟩

def ScopeOk (P : Program) (e : Ev) : Prop :=
  ∀ rd body ib cur ic s x s', cCode P body = some ib → cCode P cur = some ic → e.scope rd ib ic s = some (x, s') → ∀ ρ r a w, rdR ρ rd r → StR P ρ s a w →
    ScopeIn (fen r) 0 P body cur (Post P ρ s.H w x s') a w

theorem ScopeIn.mono {F : Fence} {n : Nat} {body cur : Code} {Q Q' : Exit → Act → World → Prop} {a : Act} {w : World} (h : ScopeIn F n P body cur Q a w) (hq : ∀ e a w, Q e a w → Q' e a w) : ScopeIn F n P body cur Q' a w :=
  fun b k cs hro hb hr => let ⟨e, a', w', q, r⟩ := h b k cs hro hb hr; ⟨e, a', w', hq _ _ _ q, r⟩

theorem stepScope_ok {e : Ev} (he : CodeOk P e) (hsc : ScopeOk P e) {rd r : Option Nat} {body cur : Code} {ib ic : ICode} {s s' : ASt} {x : AX} (hb : cCode P body = some ib) (hc : cCode P cur = some ic)
    (h : stepScope e rd ib ic s = some (x, s')) {ρ : Rho} {a : Act} {w : World} (hrd : rdR ρ rd r) (hs : StR P ρ s a w) : ScopeIn (fen r) 0 P body cur (Post P ρ s.H w x s') a w := by
  unfold stepScope at h
  refine scopeIn_of_wpIn ?_
  cases hcode : e.code rd ic s with
  | none => simp only [hcode, reduceCtorEq] at h
  | some q =>
    obtain ⟨x1, s1⟩ := q
    simp only [hcode] at h
    refine wpIn_mono (he rd cur ic s x1 s1 hc hcode ρ r a w hrd hs) ?_
    rintro ex a1 w1 ⟨ρ1, x01, st1, hx⟩
    have fin : ∀ (hnot : ∀ l, x1 ≠ .jump (.goto l)) (hh : some (x1, s1) = some (x, s')), scopePost (fen r) 0 P body (Post P ρ s.H w x s') ex a1 w1 := by
      intro hnot hh
      simp only [Option.some.injEq, Prod.mk.injEq] at hh
      obtain ⟨rfl, rfl⟩ := hh
      have hP : Post P ρ s.H w x1 s1 ex a1 w1 := ⟨ρ1, x01, st1, hx⟩
      cases x1 with
      | normal => simp only [xR] at hx; subst hx; exact hP
      | panic v => obtain ⟨y, rfl, _⟩ := hx; exact hP
      | jump j =>
        cases j with
        | exit id => simp only [xR] at hx; subst hx; exact hP
        | goto l => exact absurd rfl (hnot l)
        | ret => simp only [xR] at hx; subst hx; exact hP
    cases x1 with
    | normal => exact fin (fun _ => by simp) h
    | panic v => exact fin (fun _ => by simp) h
    | jump j =>
      cases j with
      | exit id => exact fin (fun _ => by simp) h
      | ret => exact fin (fun _ => by simp) h
      | goto l =>
        simp only [xR] at hx
        subst hx
        simp only at h
        simp only [scopePost]
        rcases iFind_ok l hb with ⟨rest, irest, h1, h2, h3⟩ | ⟨h1, h2⟩
        · simp only [h1]
          simp only [h2] at h
          exact (hsc rd body ib rest irest s1 x s' hb h3 h ρ1 r a1 w1 (rdR_mono x01.sub hrd) st1).mono fun ex a w hh => Post.trans x01 hh
        · simp only [h1]
          simp only [h2, Option.some.injEq, Prod.mk.injEq] at h
          obtain ⟨rfl, rfl⟩ := h
          exact ⟨ρ1, x01, st1, rfl⟩

/-! ### A loop -/

def LoopIn (F : Fence) (n : Nat) (P : Program) (c : Code) (Q : Exit → Act → World → Prop) (a : Act) (w : World) : Prop :=
  ∀ (b : Frame) (k : List Item) (cs : List Frame), b.roundOf = F.round → F.fn b.fn → F.room (cs.length + 1 + n) →
    ∃ e a' w', Q e a' w' ∧ ArrivesIn (Machine.fenced P F) P (lone (b.atR a (.code c :: .inLoop c :: k)) cs w) b k cs e a' w'

theorem loopIn_of_wpIn {F : Fence} {n : Nat} {c : Code} {Q : Exit → Act → World → Prop} {a : Act} {w : World} (h : c.wpIn F n P (Exit.then (LoopIn F n P c Q) Q) a w) : LoopIn F n P c Q a w := by
  intro b k cs hro hb hr
  obtain ⟨e, a₁, w₁, hq, harr⟩ := h b (.inLoop c :: k) cs hro hb hr
  cases e with
  | normal =>
    obtain ⟨e₂, a₂, w₂, hq₂, harr₂⟩ := hq b k cs hro hb hr
    exact ⟨e₂, a₂, w₂, hq₂, .of_steps (StepsIn.trans harr (.one (fenced_calm hb hr rfl) stepR_inLoop)) harr₂⟩
  | exit id => exact ⟨_, a₁, w₁, hq, .pass (x := .inLoop c) rfl (fun _ _ => .inl (by simp)) harr⟩
  | goto l => exact ⟨_, a₁, w₁, hq, .pass (x := .inLoop c) rfl (fun _ _ => .inl (by simp)) harr⟩
  | ret => exact ⟨_, a₁, w₁, hq, .pass (x := .inLoop c) rfl (fun _ _ => .inl (by simp)) harr⟩
  | panic ch => exact ⟨_, a₁, w₁, hq, .pass (x := .inLoop c) rfl (fun _ _ => .inl (by simp)) harr⟩
  | outgrown => exact ⟨_, a₁, w₁, hq, .pass (x := .inLoop c) rfl (fun _ _ => .inl (by simp)) harr⟩

theorem wpIn_loopIn {F : Fence} {n : Nat} {c : Code} {Q : Exit → Act → World → Prop} {a : Act} {w : World} (h : LoopIn F n P c Q a w) : (Code.loop c).wpIn F n P Q a w := by
  intro b k cs hro hb hr
  obtain ⟨e, a1, w1, hq, harr⟩ := h b k cs hro hb hr
  exact ⟨e, a1, w1, hq, .of_steps (.one (fenced_calm hb hr rfl) stepR_loop) harr⟩

theorem LoopIn.mono {F : Fence} {n : Nat} {c : Code} {Q Q' : Exit → Act → World → Prop} {a : Act} {w : World} (h : LoopIn F n P c Q a w) (hq : ∀ e a w, Q e a w → Q' e a w) : LoopIn F n P c Q' a w :=
  fun b k cs hro hb hr => let ⟨e, a', w', q, r⟩ := h b k cs hro hb hr; ⟨e, a', w', hq _ _ _ q, r⟩

def LoopOk (P : Program) (e : Ev) : Prop :=
  ∀ rd c ic s x s', cCode P c = some ic → e.loop rd ic s = some (x, s') → ∀ ρ r a w, rdR ρ rd r → StR P ρ s a w → LoopIn (fen r) 0 P c (Post P ρ s.H w x s') a w

theorem stepLoop_ok {e : Ev} (he : CodeOk P e) (hlo : LoopOk P e) {rd r : Option Nat} {c : Code} {ic : ICode} {s s' : ASt} {x : AX} (hc : cCode P c = some ic)
    (h : stepLoop e rd ic s = some (x, s')) {ρ : Rho} {a : Act} {w : World} (hrd : rdR ρ rd r) (hs : StR P ρ s a w) : LoopIn (fen r) 0 P c (Post P ρ s.H w x s') a w := by
  unfold stepLoop at h
  refine loopIn_of_wpIn ?_
  cases hcode : e.code rd ic s with
  | none => simp only [hcode, reduceCtorEq] at h
  | some q =>
    obtain ⟨x1, s1⟩ := q
    simp only [hcode] at h
    refine wpIn_mono (he rd c ic s x1 s1 hc hcode ρ r a w hrd hs) ?_
    rintro ex a1 w1 ⟨ρ1, x01, st1, hx⟩
    cases x1 with
    | normal =>
      simp only [xR] at hx
      subst hx
      simp only at h
      exact (hlo rd c ic s1 x s' hc h ρ1 r a1 w1 (rdR_mono x01.sub hrd) st1).mono fun _ _ _ hh => Post.trans x01 hh
    | panic v =>
      simp only [Option.some.injEq, Prod.mk.injEq] at h
      obtain ⟨rfl, rfl⟩ := h
      obtain ⟨y, rfl, hy⟩ := hx
      exact ⟨ρ1, x01, st1, y, rfl, hy⟩
    | jump j =>
      simp only [Option.some.injEq, Prod.mk.injEq] at h
      obtain ⟨rfl, rfl⟩ := h
      cases j <;> (simp only [xR] at hx; subst hx; exact ⟨ρ1, x01, st1, rfl⟩)

/-! ### Code -/

def DrawFn := Ev → Option Nat → List IOper → List IInfo → ASt → Option (AX × ASt)

/-- A region that draws comes out the same in every order that may be drawn. -/
def DrawOk (P : Program) (draw : DrawFn) : Prop :=
  ∀ (e : Ev), CodeOk P e → CallsOk P e → ∀ rd (ops : Array Oper) l s x s', ops.toList.mapM (cOper P ops) = some l → draw e rd l (cInfo ops l) s = some (x, s') →
    ∀ t ρ r a w, rdR ρ rd r → StR P ρ s a w → wpOpsIn (fen r) 0 P ops (Post P ρ s.H w x s') (Region.schedule (P.follows .mixedOrders) ops t) a w

theorem wpOpsIn_mono {F : Fence} {n : Nat} {ops : Array Oper} {Q Q' : Exit → Act → World → Prop} (hq : ∀ e a w, Q e a w → Q' e a w) : ∀ (is : List Nat) {a : Act} {w : World}, wpOpsIn F n P ops Q is a w → wpOpsIn F n P ops Q' is a w
  | [], a, w, h => hq _ _ _ h
  | i :: is, a, w, h => by
    simp only [wpOpsIn] at h ⊢
    cases ho : ops[i]? with
    | none => simp only [ho] at h ⊢; exact wpOpsIn_mono hq is h
    | some o =>
      simp only [ho] at h ⊢
      split
      · rename_i hw
        simp only [hw, if_true] at h
        obtain ⟨h1, h2⟩ := h
        refine ⟨h1, ?_⟩
        generalize (o.semAt F.round a.eval).run P w = r at h2 ⊢
        cases r with
        | ok x w' =>
          cases x <;> simp only [Oper.uponIn] at h2 ⊢ <;>
            first
              | exact wpOpsIn_mono hq is h2
              | exact ⟨h2.1, CallsIn.mono h2.2 (fun e w'' he => by cases e <;> first | exact wpOpsIn_mono hq is he | exact hq _ _ _ he | (obtain ⟨a0, w0, hh⟩ := he; exact ⟨a0, w0, hq _ _ _ hh⟩))⟩
              | exact ⟨h2.1, RowsIn.mono h2.2 (fun _ _ he => wpOpsIn_mono hq is he)⟩
              | exact ⟨h2.1, RoundIn.mono h2.2 (fun e w'' he => by cases e <;> first | exact wpOpsIn_mono hq is he | exact hq _ _ _ he | (obtain ⟨a0, w0, hh⟩ := he; exact ⟨a0, w0, hq _ _ _ hh⟩))⟩
        | halt x w' => cases x <;> simp only [Oper.uponIn] at h2 ⊢ <;> first | exact hq _ _ _ h2 | exact h2
      · rename_i hw
        simp only [hw] at h
        exact ⟨h.1, wpOpsIn_mono hq is h.2⟩

theorem stepCode_ok {draw : DrawFn} (hdraw : DrawOk P draw) {e : Ev} (he : CodeOk P e) (hcall : CallsOk P e) (hsc : ScopeOk P e) (hlo : LoopOk P e) : ∀ rd c ic s x s', cCode P c = some ic → stepCode draw e rd ic s = some (x, s') →
    ∀ ρ r a w, rdR ρ rd r → StR P ρ s a w → c.wpIn (fen r) 0 P (Post P ρ s.H w x s') a w := by
  intro rd c ic s x s' hc h ρ r a w hrd hs
  cases c with
  | skip =>
    simp only [cCode, Option.some.injEq] at hc; subst hc
    simp only [stepCode, Option.some.injEq, Prod.mk.injEq] at h
    obtain ⟨rfl, rfl⟩ := h
    exact wpIn_skip ⟨ρ, Ext.refl hs.rel, hs, rfl⟩
  | label l =>
    simp only [cCode, Option.some.injEq] at hc; subst hc
    simp only [stepCode, Option.some.injEq, Prod.mk.injEq] at h
    obtain ⟨rfl, rfl⟩ := h
    exact wpIn_label ⟨ρ, Ext.refl hs.rel, hs, rfl⟩
  | exit id =>
    simp only [cCode, Option.some.injEq] at hc; subst hc
    simp only [stepCode, Option.some.injEq, Prod.mk.injEq] at h
    obtain ⟨rfl, rfl⟩ := h
    exact wpIn_exit ⟨ρ, Ext.refl hs.rel, hs, rfl⟩
  | goto l =>
    simp only [cCode, Option.some.injEq] at hc; subst hc
    simp only [stepCode, Option.some.injEq, Prod.mk.injEq] at h
    obtain ⟨rfl, rfl⟩ := h
    exact wpIn_goto ⟨ρ, Ext.refl hs.rel, hs, rfl⟩
  | ret =>
    simp only [cCode, Option.some.injEq] at hc; subst hc
    simp only [stepCode, Option.some.injEq, Prod.mk.injEq] at h
    obtain ⟨rfl, rfl⟩ := h
    exact wpIn_ret ⟨ρ, Ext.refl hs.rel, hs, rfl⟩
  | refuse why => simp only [cCode, reduceCtorEq] at hc
  | region id ops d =>
    simp only [cCode, Option.bind_eq_bind, Option.bind_eq_some_iff] at hc
    obtain ⟨l, hl, hc⟩ := hc
    cases d with
    | false =>
      simp only [Bool.false_eq_true, if_false, Option.pure_def, Option.some.injEq] at hc
      subst hc
      simp only [stepCode] at h
      refine wpIn_region ?_
      have hlen : l.length = ops.size := by simpa using mapM_length hl
      have hr : (List.range ops.size).filterMap (fun (i : Nat) => l[i]?) = l := by rw [← hlen]; exact range_filterMap l
      exact stepOps_ok he hcall (ops_get hl) (List.range ops.size) (by rw [hr]; exact h) hrd hs _ (fun _ _ _ hh => hh)
    | true =>
      simp only [if_true, Option.pure_def, Option.some.injEq] at hc
      subst hc
      simp only [stepCode] at h
      refine wpIn_region_draw fun t => ?_
      have hx := Ext.same hs.rel (w' := { w with drawn := w.drawn + 1 }) rfl rfl rfl rfl
      have hst : StR P ρ s a { w with drawn := w.drawn + 1 } := ⟨hx.rel, hs.clo, hs.ts, hs.ds⟩
      exact wpOpsIn_mono (fun _ _ _ hh => Post.trans hx hh) _ (hdraw e he hcall rd ops l s x s' hl h t ρ r a _ hrd hst)
  | seq c1 c2 =>
    simp only [cCode, Option.bind_eq_bind, Option.bind_eq_some_iff, Option.pure_def, Option.some.injEq] at hc
    obtain ⟨i1, h1, i2, h2, rfl⟩ := hc
    simp only [stepCode] at h
    refine wpIn_seq ?_
    cases hcode : e.code rd i1 s with
    | none => simp only [hcode, reduceCtorEq] at h
    | some q =>
      obtain ⟨x1, s1⟩ := q
      simp only [hcode] at h
      refine wpIn_mono (he rd c1 i1 s x1 s1 h1 hcode ρ r a w hrd hs) ?_
      rintro ex a1 w1 hP
      obtain ⟨ρ1, x01, st1, hx⟩ := hP
      cases x1 with
      | normal =>
        simp only [xR] at hx
        subst hx
        simp only at h
        exact wpIn_mono (he rd c2 i2 s1 x s' h2 h ρ1 r a1 w1 (rdR_mono x01.sub hrd) st1) fun _ _ _ hh => Post.trans x01 hh
      | panic v =>
        simp only [Option.some.injEq, Prod.mk.injEq] at h
        obtain ⟨rfl, rfl⟩ := h
        obtain ⟨y, rfl, hy⟩ := hx
        exact ⟨ρ1, x01, st1, y, rfl, hy⟩
      | jump j =>
        simp only [Option.some.injEq, Prod.mk.injEq] at h
        obtain ⟨rfl, rfl⟩ := h
        cases j <;> (simp only [xR] at hx; subst hx; exact ⟨ρ1, x01, st1, rfl⟩)
  | cond g c1 c2 =>
    simp only [cCode, Option.bind_eq_bind, Option.bind_eq_some_iff, Option.pure_def, Option.some.injEq] at hc
    obtain ⟨ig, hg, i1, h1, i2, h2, rfl⟩ := hc
    simp only [stepCode] at h
    split at h
    · rename_i hv
      have := vr_bool (evR_aev hs.ts g ig _ hg hv)
      exact wpIn_cond_true this (he rd c1 i1 s x s' h1 h ρ r a w hrd hs)
    · rename_i hv
      have := vr_bool (evR_aev hs.ts g ig _ hg hv)
      exact wpIn_cond_false this (he rd c2 i2 s x s' h2 h ρ r a w hrd hs)
    · cases h
  | block id c1 =>
    simp only [cCode, Option.bind_eq_bind, Option.bind_eq_some_iff, Option.pure_def, Option.some.injEq] at hc
    obtain ⟨i1, h1, rfl⟩ := hc
    simp only [stepCode] at h
    refine wpIn_block ?_
    cases hcode : e.code rd i1 s with
    | none => simp only [hcode, reduceCtorEq] at h
    | some q =>
      obtain ⟨x1, s1⟩ := q
      simp only [hcode] at h
      refine wpIn_mono (he rd c1 i1 s x1 s1 h1 hcode ρ r a w hrd hs) ?_
      rintro ex a1 w1 ⟨ρ1, x01, st1, hx⟩
      cases x1 with
      | normal =>
        simp only [Option.some.injEq, Prod.mk.injEq] at h
        obtain ⟨rfl, rfl⟩ := h
        simp only [xR] at hx; subst hx
        exact ⟨ρ1, x01, st1, rfl⟩
      | panic v =>
        simp only [Option.some.injEq, Prod.mk.injEq] at h
        obtain ⟨rfl, rfl⟩ := h
        obtain ⟨y, rfl, hy⟩ := hx
        exact ⟨ρ1, x01, st1, y, rfl, hy⟩
      | jump j =>
        cases j with
        | exit id' =>
          simp only [xR] at hx
          subst hx
          simp only at h
          simp only [Exit.inBlock]
          by_cases hid : id' = id
          · rw [if_pos hid] at h ⊢
            simp only [Option.some.injEq, Prod.mk.injEq] at h
            obtain ⟨rfl, rfl⟩ := h
            exact ⟨ρ1, x01, st1, rfl⟩
          · rw [if_neg hid] at h ⊢
            simp only [Option.some.injEq, Prod.mk.injEq] at h
            obtain ⟨rfl, rfl⟩ := h
            exact ⟨ρ1, x01, st1, rfl⟩
        | goto l =>
          simp only [Option.some.injEq, Prod.mk.injEq] at h
          obtain ⟨rfl, rfl⟩ := h
          simp only [xR] at hx; subst hx
          exact ⟨ρ1, x01, st1, rfl⟩
        | ret =>
          simp only [Option.some.injEq, Prod.mk.injEq] at h
          obtain ⟨rfl, rfl⟩ := h
          simp only [xR] at hx; subst hx
          exact ⟨ρ1, x01, st1, rfl⟩
  | loop c1 =>
    simp only [cCode, Option.bind_eq_bind, Option.bind_eq_some_iff, Option.pure_def, Option.some.injEq] at hc
    obtain ⟨i1, h1, rfl⟩ := hc
    simp only [stepCode] at h
    exact wpIn_loopIn (hlo rd c1 i1 s x s' h1 h ρ r a w hrd hs)
  | rangeFunc g ps assign body =>
    simp only [cCode, Option.bind_eq_bind, Option.bind_eq_some_iff, Option.pure_def, Option.some.injEq] at hc
    obtain ⟨ig, hg, i1, h1, i2, h2, rfl⟩ := hc
    simp only [stepCode] at h
    exact stepRF_ok hcall hg h1 h2 h hrd hs
  | scope c1 =>
    simp only [cCode, Option.bind_eq_bind, Option.bind_eq_some_iff, Option.pure_def, Option.some.injEq] at hc
    obtain ⟨i1, h1, rfl⟩ := hc
    simp only [stepCode] at h
    exact wpIn_scope (hsc rd c1 i1 c1 i1 s x s' h1 h1 h ρ r a w hrd hs)

end Go.Abs
