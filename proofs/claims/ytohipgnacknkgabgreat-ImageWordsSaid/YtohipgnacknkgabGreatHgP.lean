/-
  ABS, part P: the abstract machine is what the model does (one: operations in a row). (Own work.)
-/
import Derived.Test.YtohipgnacknkgabGreatHgO
import Derived.RangeFuncRecord
set_option linter.unusedSimpArgs false
set_option linter.unusedVariables false
namespace Go.Abs
open Go

variable {P : Program}

/-- Every block that is mapped is there. -/
def Clo (ρ : Rho) (H : AHeap) : Prop := ∀ b p, ρ b = some p → b < H.size

theorem Clo.fresh {ρ : Rho} {H H' : AHeap} (h : Clo ρ H) : Fresh ρ H H' := by
  intro b hb _
  cases hr : ρ b with
  | none => rfl
  | some p => have := h b p hr; omega

theorem Clo.ext {ρ ρ' : Rho} {H H' : AHeap} {w w' : World} (h : Clo ρ H) (e : Ext P ρ H w ρ' H' w') : Clo ρ' H' := by
  intro b p hb
  rcases e.new b p hb with h' | ⟨_, h'⟩
  · exact Nat.lt_of_lt_of_le (h b p h') e.size
  · exact h'

def rdR (ρ : Rho) (rd r : Option Nat) : Prop :=
  match rd with
  | none => r = none
  | some l => ∃ p, ρ l = some p ∧ r = some p.B

theorem rdR_mono {ρ ρ' : Rho} (h : ρ.le ρ') {rd r : Option Nat} (hr : rdR ρ rd r) : rdR ρ' rd r := by
  cases rd with
  | none => exact hr
  | some l => obtain ⟨p, hp, e⟩ := hr; exact ⟨p, h _ _ hp, e⟩

/-- Nothing is asked; in a round of the loop r. -/
abbrev fen (r : Option Nat) : Fence := { Fence.wide with round := r }

theorem fen_none : fen none = Fence.wide := rfl

theorem callsIn_fen {r : Option Nat} {n : Nat} {f : FuncId} {args : Array Value} {w : World} {R : Ending → World → Prop} (h : CallsIn Fence.wide n P f args w R) : CallsIn (fen r) n P f args w R := h

structure StR (P : Program) (ρ : Rho) (s : ASt) (a : Act) (w : World) : Prop where
  rel : Rel P ρ s.H w
  clo : Clo ρ s.H
  ts : vrA ρ s.ts.arr a.tmps
  ds : defsR ρ s.ds a.defers

def xR (ρ : Rho) : AX → Exit → Prop
  | .normal, e => e = .normal
  | .jump (.exit id), e => e = .exit id
  | .jump (.goto l), e => e = .goto l
  | .jump .ret, e => e = .ret
  | .panic v, e => ∃ y, e = .panic [{ v := y, recovered := false }] ∧ vr ρ v y

def Post (P : Program) (ρ : Rho) (H : AHeap) (w : World) (x : AX) (s' : ASt) : Exit → Act → World → Prop :=
  fun e a' w' => ∃ ρ', Ext P ρ H w ρ' s'.H w' ∧ StR P ρ' s' a' w' ∧ xR ρ' x e

theorem Post.trans {ρ ρ1 : Rho} {H H1 : AHeap} {w w1 : World} {x : AX} {s' : ASt} (h : Ext P ρ H w ρ1 H1 w1) {e : Exit} {a : Act} {w2 : World} (h2 : Post P ρ1 H1 w1 x s' e a w2) : Post P ρ H w x s' e a w2 := by
  obtain ⟨ρ', g1, g2, g3⟩ := h2
  exact ⟨ρ', h.trans g1, g2, g3⟩

def endR (ρ : Rho) : AE → Ending → Prop
  | .ret v, e => ∃ y, e = .returned y ∧ vr ρ v y
  | .panic v, e => ∃ y, e = .panicked [{ v := y, recovered := false }] ∧ vr ρ v y

/-- What is known of a call. -/
def CallOk (P : Program) (f : Nat) (args : List Value) (H : AHeap) (r : AE) (H' : AHeap) : Prop :=
  (∀ (xs : Array Value) (w : World), (callFunc f xs).run P w = .ok (.enter f xs) w) ∧
  ∀ (ρ : Rho) (w : World) (xs : Array Value), Rel P ρ H w → Clo ρ H → vrL ρ args xs.toList →
    CallsIn Fence.wide 0 P f xs w fun e w' => ∃ ρ', Ext P ρ H w ρ' H' w' ∧ endR ρ' r e

def CallsOk (P : Program) (e : Ev) : Prop := ∀ f args H r H', e.call f args H = some (r, H') → CallOk P f args H r H'

def CodeOk (P : Program) (e : Ev) : Prop :=
  ∀ rd c ic s x s', cCode P c = some ic → e.code rd ic s = some (x, s') → ∀ ρ r a w, rdR ρ rd r → StR P ρ s a w →
    c.wpIn (fen r) 0 P (Post P ρ s.H w x s') a w

theorem evR_aev {ρ : Rho} {ts : Tmps} {a : Act} (h : vrA ρ ts.arr a.tmps) : evR ρ a.eval (aev ts) := by
  intro x y v hc hv
  have := cOpd_eq hc
  subst this
  cases y with
  | tmp t =>
    simp only [aev] at hv
    obtain ⟨z, hz, hr⟩ := vrL_get (vrA_iff.1 h) (i := t) (x := v) (by rw [← Tmps.get_arr] at hv; simpa using hv)
    simp only [Act.eval]
    have : a.tmps.getD t undef = z := by
      have hz' : a.tmps[t]? = some z := by simpa using hz
      simp [Array.getD_eq_getD_getElem?, hz']
    rw [this]
    exact hr
  | const c =>
    simp only [aev, Option.some.injEq] at hv
    subst hv
    simp only [Act.eval]
    unfold cOpd at hc
    split at hc
    · cases hc
    · split at hc
      · rename_i hf
        cases hc
        exact flat_vr ρ _ hf
      · cases hc
    · cases hc
    · cases hc
  | func f =>
    simp only [aev, Option.some.injEq] at hv
    subst hv
    simp only [Act.eval, vr]
    exact ⟨_, _, _, rfl, rfl, by simp only [vrA, vrL], by simp only [vrA, vrL]⟩
  | global g => simp only [aev, reduceCtorEq] at hv

theorem vr_undef (ρ : Rho) : vr ρ undef undef := by
  simp only [undef, vr]
  exact ⟨_, rfl, by simp only [vrA, vrL]⟩

theorem vrL_set {ρ : Rho} : ∀ {xs ys : List Value} (i : Nat) {v y : Value}, vrL ρ xs ys → vr ρ v y → vrL ρ (xs.set i v) (ys.set i y)
  | [], ys, _, _, _, h, _ => by simp only [vrL] at h; subst h; simp [vrL]
  | x :: xs, ys, i, v, y, h, hv => by
    simp only [vrL] at h
    obtain ⟨z, zs, rfl, h1, h2⟩ := h
    cases i with
    | zero => simp only [List.set_cons_zero, vrL]; exact ⟨_, _, rfl, hv, h2⟩
    | succ i => simp only [List.set_cons_succ, vrL]; exact ⟨_, _, rfl, h1, vrL_set i h2 hv⟩

theorem vrA_set {ρ : Rho} {xs ys : Array Value} (i : Nat) {v y : Value} (h : vrA ρ xs ys) (hv : vr ρ v y) : vrA ρ (xs.setIfInBounds i v) (ys.setIfInBounds i y) := by
  rw [vrA_iff] at *
  simp only [Array.toList_setIfInBounds]
  exact vrL_set i h hv

theorem StR.put {ρ : Rho} {s : ASt} {a : Act} {w : World} (h : StR P ρ s a w) (d : Option Nat) {v y : Value} (hv : vr ρ v y) : StR P ρ (s.put d v) (a.put d y) w := by
  cases d with
  | none => exact h
  | some d => exact ⟨h.rel, h.clo, by simp only [ASt.put, Tmps.arr_put]; exact vrA_set d h.ts hv, h.ds⟩

theorem ASt.put_H (s : ASt) (d : Option Nat) (v : Value) : (s.put d v).H = s.H := by cases d <;> rfl
theorem ASt.put_ds (s : ASt) (d : Option Nat) (v : Value) : (s.put d v).ds = s.ds := by cases d <;> rfl

theorem vrA_mono' {ρ ρ' : Rho} (h : ρ.le ρ') {x y : Array Value} (hr : vrA ρ x y) : vrA ρ' x y := vrA_mono h x y hr

theorem StR.next {ρ ρ' : Rho} {s : ASt} {a : Act} {w w' : World} {H' : AHeap} (h : StR P ρ s a w) (e : Ext P ρ s.H w ρ' H' w') : StR P ρ' { s with H := H' } a w' :=
  ⟨e.rel, h.clo.ext e, vrA_mono' e.sub h.ts, defsR_mono e.sub h.ds⟩

theorem Oper.wp_about {o : Oper} {w : World} {a : Act} {r : Option Nat} : ∀ f, o.about P w a.eval = some f → (fen r).fn f := fun _ _ => trivial

/-- A value that stands for a bool, or for none. -/
theorem vr_tuple {ρ : Rho} {vs : Array Value} {v : Value} (h : vr ρ (.tuple vs) v) : ∃ ys, v = .tuple ys := by
  simp only [vr] at h
  obtain ⟨d, e, _⟩ := h
  exact ⟨d, e⟩

theorem want_ok {ρ : Rho} {ops : Array Oper} {o : Oper} {g : Option (Nat × Bool)} {ts : Tmps} {a : Act} {b : Bool} (hg : cGuard ops o = some g) (ht : vrA ρ ts.arr a.tmps) (h : want g ts = some b) :
    Region.wanted o (yielded ops a.tmps) = b := by
  unfold cGuard at hg
  unfold Region.wanted
  split at hg
  · rename_i hn
    obtain rfl := Option.some.inj hg
    simp only [want, Option.some.injEq] at h
    rw [hn]
    exact h
  · rename_i j b0 hn
    split at hg
    · rename_i d hd
      obtain rfl := Option.some.inj hg
      rw [hn]
      simp only [want] at h
      split at h
      · rename_i c hc
        obtain rfl := Option.some.inj h
        obtain ⟨y, hy, hr⟩ := vrL_get (vrA_iff.1 ht) (i := d) (x := .bool c) (by rw [← Tmps.get_arr] at hc; simpa using hc)
        have := vr_bool hr
        subst this
        have hy' : a.tmps[d]? = some (.bool c) := by simpa using hy
        simp only [yielded, hd, Option.bind_some, hy']
        cases c <;> cases b0 <;> rfl
      · rename_i vs hc
        obtain rfl := Option.some.inj h
        obtain ⟨y, hy, hr⟩ := vrL_get (vrA_iff.1 ht) (i := d) (x := .tuple vs) (by rw [← Tmps.get_arr] at hc; simpa using hc)
        obtain ⟨ys, rfl⟩ := vr_tuple hr
        have hy' : a.tmps[d]? = some (.tuple ys) := by simpa using hy
        simp only [yielded, hd, Option.bind_some, hy']
        rfl
      · cases h
    · cases hg

/-! ### A round -/

theorem zip_foldl {ρ : Rho} : ∀ (ps : List Tmp) {as bs : List Value} {ts : Tmps} {tm : Array Value}, vrL ρ as bs → vrA ρ ts.arr tm →
    vrA ρ ((ps.zip as).foldl (fun (ts : Tmps) (x : Nat × Value) => ts.put x.1 x.2) ts).arr ((ps.zip bs).foldl (fun ts (x : Tmp × Value) => ts.setIfInBounds x.1 x.2) tm)
  | [], as, bs, ts, tm, _, h => by simpa using h
  | p :: ps, as, bs, ts, tm, hab, h => by
    cases as with
    | nil => simp only [vrL] at hab; subst hab; simpa using h
    | cons x as =>
      simp only [vrL] at hab
      obtain ⟨y, ys, rfl, h1, h2⟩ := hab
      simp only [List.zip_cons_cons, List.foldl_cons]
      exact zip_foldl ps h2 (by rw [Tmps.arr_put]; exact vrA_set _ h h1)

theorem jumpR_isNone {j : Option IJump} {c : Option Code} (h : jumpR j c) : c.isNone = j.isNone := by
  cases j with
  | none => simp only [jumpR] at h; subst h; rfl
  | some j => cases j <;> simp only [jumpR] at h <;> subst h <;> rfl

/-- The record of a loop turns. -/
theorem Rel.setLoop {ρ : Rho} {H : AHeap} {w : World} (hr : Rel P ρ H w) {l : Nat} {p : Pl} {L L' : ALoop} (hp : ρ l = some p) (hg : H.get l = some (.loop L)) {c : Loop} (hc : loopR P ρ L' c) :
    Ext P ρ H w ρ (H.set l (.loop L')) (Go.World.putObj w p.B (.loop c)) := by
  obtain ⟨h1, h2, c0, hh, _⟩ := hr.obj _ p _ hp hg
  exact Ext.putO hr hp hg rfl rfl h1 h2 ⟨_, hh, rfl⟩ ⟨h1, h2, c, putObj_get (hr.lt l p hp), hc⟩

theorem Rel.getLoop {ρ : Rho} {H : AHeap} {w : World} (hr : Rel P ρ H w) {l : Nat} {p : Pl} {L : ALoop} (hp : ρ l = some p) (hg : H.get l = some (.loop L)) :
    ∃ c, w.heap[p.B]? = some (.loop c) ∧ loopR P ρ L c := by
  obtain ⟨_, _, c0, hh, hl⟩ := hr.obj _ p _ hp hg
  exact ⟨c0, hh, hl⟩

theorem round_ok {e : Ev} (he : CodeOk P e) {l : Nat} {args : List Value} {H H' : AHeap} {v : Value} (h : stepRound e l args H = some (v, H')) {ρ : Rho} {w : World} {p : Pl} {xs : Array Value} {r : Option Nat}
    (hr : Rel P ρ H w) (hc : Clo ρ H) (hp : ρ l = some p) (hx : vrL ρ args xs.toList) :
    ∃ f tmps assign body, (Instr.yield p.B xs).run P w = .ok (.round p.B f tmps assign body) w ∧
      RoundIn (fen r) 0 P p.B f tmps assign body w fun e w' => ∃ ρ', Ext P ρ H w ρ' H' w' ∧ endR ρ' (.ret v) e := by
  unfold stepRound at h
  split at h
  rotate_left
  · cases h
  rename_i L hg
  split at h
  rotate_left
  · cases h
  rename_i hlen
  obtain ⟨c, hh, hl⟩ := hr.getLoop hp hg
  obtain ⟨l1, l2, l3, l4, l5, l6, q, l7, l8⟩ := hl
  have hsz : xs.size = c.params.size := by
    have := vrL_length hx
    simp at this
    rw [this, hlen, l4]
  refine ⟨_, _, _, _, run_yield hh hsz, ?_⟩
  have htm : vrA ρ ((L.params.toList.zip args).foldl (fun (ts : Tmps) (x : Nat × Value) => ts.put x.1 x.2) L.tmps).arr ((c.params.zip xs).foldl (fun ts (x : Tmp × Value) => ts.setIfInBounds x.1 x.2) c.tmps) := by
    have := zip_foldl L.params.toList hx l3
    rw [l4]
    rw [← Array.foldl_toList]
    simpa using this
  split at h
  rotate_left
  · cases h
  rename_i s1 hcode1
  split at h
  rotate_left
  · cases h
  rename_i L1 hg1
  split at h
  rotate_left
  · cases h
  rename_i hready
  have hA := he (some l) c.assign L.assign _ .normal s1 l5 hcode1 ρ (some p.B) { tmps := (c.params.zip xs).foldl (fun ts (x : Tmp × Value) => ts.setIfInBounds x.1 x.2) c.tmps, defers := [] } w ⟨p, hp, rfl⟩ ⟨hr, hc, htm, rfl⟩
  refine roundIn_of_wpIn (F := fen r) trivial ?_
  refine wpIn_mono hA ?_
  rintro e1 a1 w1 ⟨ρ1, x1, st1, hx1⟩
  simp only [xR] at hx1
  subst hx1
  have hp1 := x1.sub _ _ hp
  obtain ⟨c1, hh1, hl1⟩ := st1.rel.getLoop hp1 hg1
  obtain ⟨m1, m2, m3, m4, m5, m6, q1, m7, m8⟩ := hl1
  have hbegin := run_beginRound (P := P) hh1 (by rw [m1]; exact hready)
  have x2 := st1.rel.setLoop hp1 hg1 (L' := { L1 with state := .busy }) (c := { c1 with state := .busy }) ⟨rfl, m2, m3, m4, m5, m6, q1, m7, m8⟩
  refine ⟨_, hbegin, ?_⟩
  have st2 := st1.next x2
  have x12 := x1.trans x2
  split at h
  · -- it ends normally
    rename_i s2 hcode2
    split at h
    rotate_left
    · cases h
    rename_i L2 hg2
    simp only [Option.some.injEq, Prod.mk.injEq] at h
    obtain ⟨rfl, rfl⟩ := h
    have hB := he (some l) c.body L.body _ .normal s2 l6 hcode2 ρ1 (some p.B) a1 _ ⟨p, hp1, rfl⟩ st2
    refine wpIn_mono hB ?_
    rintro e2 a2 w2 ⟨ρ2, x3, st3, hx2⟩
    simp only [xR] at hx2
    subst hx2
    have hp2 := x3.sub _ _ hp1
    obtain ⟨c2, hh2, hl2⟩ := st3.rel.getLoop hp2 hg2
    obtain ⟨n1, n2, n3, n4, n5, n6, q2, n7, n8⟩ := hl2
    refine ⟨_, _, run_endRound none hh2, ρ2, (x12.trans x3).trans (st3.rel.setLoop hp2 hg2 (L' := { L2 with state := .ready, pending := none }) ⟨rfl, rfl, n3, n4, n5, n6, q2, n7, n8⟩), _, rfl, by simp only [vr]; rfl⟩
  · -- it is left
    rename_i j s2 hcode2
    split at h
    rotate_left
    · cases h
    rename_i L2 hg2
    simp only [Option.some.injEq, Prod.mk.injEq] at h
    obtain ⟨rfl, rfl⟩ := h
    have hB := he (some l) c.body L.body _ (.jump j) s2 l6 hcode2 ρ1 (some p.B) a1 _ ⟨p, hp1, rfl⟩ st2
    refine wpIn_mono hB ?_
    rintro e2 a2 w2 ⟨ρ2, x3, st3, hx2⟩
    have hp2 := x3.sub _ _ hp1
    obtain ⟨c2, hh2, hl2⟩ := st3.rel.getLoop hp2 hg2
    obtain ⟨n1, n2, n3, n4, n5, n6, q2, n7, n8⟩ := hl2
    have fin : ∀ cj : Code, jumpR (some j) (some cj) → ∃ v w', (Instr.endRound p.B (some cj)).run P w2 = .ok v w' ∧ ∃ ρ', Ext P ρ H w ρ' (s2.H.set l (.loop { L2 with state := .done, pending := some j })) w' ∧ endR ρ' (.ret (.bool false)) (.returned v) := by
      intro cj hcj
      refine ⟨_, _, run_endRound (some cj) hh2, ρ2, (x12.trans x3).trans (st3.rel.setLoop hp2 hg2 (L' := { L2 with state := .done, pending := some j }) ⟨rfl, hcj, n3, n4, n5, n6, q2, n7, n8⟩), _, rfl, by simp only [vr]; rfl⟩
    cases j with
    | exit id => simp only [xR] at hx2; subst hx2; exact fin _ rfl
    | goto t => simp only [xR] at hx2; subst hx2; exact fin _ rfl
    | ret => simp only [xR] at hx2; subst hx2; exact fin _ rfl
  · cases h

end Go.Abs
