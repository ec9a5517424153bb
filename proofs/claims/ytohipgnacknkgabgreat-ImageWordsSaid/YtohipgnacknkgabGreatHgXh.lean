/-
  ABS, part Xh: regions that draw, over values that are not known. (Own work.)
-/
import Derived.Test.YtohipgnacknkgabGreatHgXg
set_option linter.unusedSimpArgs false
set_option linter.unusedVariables false
namespace Go.Abs
open Go

/-! ### Values that are held against themselves -/
mutual
def veqOk : Value → Bool
  | .bool _ | .int _ _ | .string _ | .pointer _ | .slice _ _ _ | .map _ | .nilFunc | .nilIface => true
  | .func (.func _) xs ys => veqOkA xs && veqOkA ys
  | .func (.yield _) xs ys => veqOkA xs && veqOkA ys
  | .iface _ x => veqOk x
  | .agg xs => veqOkA xs
  | .tuple xs => veqOkA xs
  | _ => false
def veqOkA : Array Value → Bool
  | ⟨l⟩ => veqOkL l
def veqOkL : List Value → Bool
  | [] => true
  | x :: xs => veqOk x && veqOkL xs
end

mutual
theorem veq_refl : ∀ (x : Value), veqOk x = true → veq x x = true
  | .bool _, _ | .int _ _, _ | .string _, _ | .pointer _, _ | .slice _ _ _, _ | .map _, _ | .nilFunc, _ | .nilIface, _ => by simp [veq]
  | .func (.func _) xs ys, h => by
    simp only [veqOk, Bool.and_eq_true] at h
    simp [veq, veqA_refl xs h.1, veqA_refl ys h.2]
  | .func (.yield _) xs ys, h => by
    simp only [veqOk, Bool.and_eq_true] at h
    simp [veq, veqA_refl xs h.1, veqA_refl ys h.2]
  | .func (.method _) _ _, h | .func (.methodOf _ _) _ _, h | .func (.via _ _ _ _) _ _, h => by simp [veqOk] at h
  | .iface _ x, h => by
    simp only [veqOk] at h
    simp [veq, veq_refl x h]
  | .agg xs, h => by
    simp only [veqOk] at h
    simp [veq, veqA_refl xs h]
  | .tuple xs, h => by
    simp only [veqOk] at h
    simp [veq, veqA_refl xs h]
  | .float _ _, h | .complex _ _ _, h | .chan _, h => by simp [veqOk] at h
theorem veqA_refl : ∀ (x : Array Value), veqOkA x = true → veqA x x = true
  | ⟨l⟩, h => by
    simp only [veqOkA] at h
    simp only [veqA]
    exact veqL_refl l h
theorem veqL_refl : ∀ (x : List Value), veqOkL x = true → veqL x x = true
  | [], _ => by simp [veqL]
  | x :: xs, h => by
    simp only [veqOkL, Bool.and_eq_true] at h
    simp [veqL, veq_refl x h.1, veqL_refl xs h.2]
end

/-! ### Calls that are known -/

structure CKey where
  f : Nat
  args : List Value
  H : AHeap

def CFact.key (c : CFact) : CKey := ⟨c.f, c.args, c.H⟩

section
open Classical
noncomputable def lkF : List CFact → Nat → List Value → AHeap → Option (AE × AHeap)
  | [], _, _, _ => none
  | c :: cs, f, args, H => if c.key = ⟨f, args, H⟩ then some (c.r, c.H2) else lkF cs f args H
end

inductive FsOk (P : Program) : List CFact → Prop
  | nil : FsOk P []
  | cons {c : CFact} {cs : List CFact} (h : c.Ok P) (hd : ∀ d, d ∈ cs → d.key ≠ c.key) (hs : FsOk P cs) : FsOk P (c :: cs)

theorem FsOk.call {P : Program} : ∀ {cs : List CFact}, FsOk P cs → ∀ {f : Nat} {args : List Value} {H H' : AHeap} {r : AE}, lkF cs f args H = some (r, H') → CallOk P f args H r H'
  | [], _, _, _, _, _, _, h => by cases h
  | c :: cs, .cons h1 hd hs, f, args, H, H', r, h => by
    simp only [lkF] at h
    split at h
    · rename_i hk
      simp only [CFact.key, CKey.mk.injEq] at hk
      obtain ⟨rfl, rfl, rfl⟩ := hk
      simp only [Option.some.injEq, Prod.mk.injEq] at h
      obtain ⟨rfl, rfl⟩ := h
      exact h1
    · exact FsOk.call hs h

theorem FsOk.find {P : Program} : ∀ {cs : List CFact}, FsOk P cs → ∀ {c : CFact}, c ∈ cs → lkF cs c.f c.args c.H = some (c.r, c.H2)
  | d :: cs, .cons h1 hd hs, c, h => by
    simp only [lkF]
    rcases List.mem_cons.1 h with rfl | h
    · rw [if_pos (show c.key = ⟨c.f, c.args, c.H⟩ from rfl)]
    · rw [if_neg (by intro e; exact hd c h e.symm)]
      exact FsOk.find hs h

noncomputable def evF (fs : List CFact) : Ev := { Ev.none with call := lkF fs }
theorem evF_call {P : Program} {fs : List CFact} (h : FsOk P fs) : CallsOk P (evF fs) := fun _ _ _ _ _ hh => FsOk.call h hh

/-! ### The run -/

def stepVW (P : Program) (o : IOper) (ts : Tmps) (H : AHeap) (fs : List CFact) (K : Value → AHeap → List CFact → Prop) : Prop :=
  guardW o.guard ts (aopW o.op (aev ts) H fun r H1 =>
    match r with
    | .val v => K v H1 fs
    | .skip => K undef H1 fs
    | .enter f args => WCall P f args H1 fun r H2 => retW r H2 (fun v H2 => (∀ d, d ∈ fs → d.key ≠ ⟨f, args, H1⟩) ∧ K v H2 (⟨f, args, H1, .ret v, H2⟩ :: fs)) (fun _ _ => False)
    | _ => False) (K undef H fs)

theorem stepVW_ok {P : Program} {o : IOper} {ts : Tmps} {H : AHeap} {fs : List CFact} {K : Value → AHeap → List CFact → Prop} (hf : FsOk P fs) (h : stepVW P o ts H fs K) :
    ∃ v H' fs', FsOk P fs' ∧ (∀ c, c ∈ fs → c ∈ fs') ∧ (∀ gs, FsOk P gs → (∀ c, c ∈ fs' → c ∈ gs) → stepV (evF gs) o ts H = some (v, H')) ∧ K v H' fs' := by
  rcases guardW_ok h with ⟨hw, h⟩ | ⟨hw, h⟩
  · obtain ⟨r, H1, ha, h⟩ := aopW_ok h
    have ha' : aopK o.op (aev ts) H = some (r, H1) := by rw [aopK_eq]; exact ha
    cases r with
    | val v => exact ⟨v, H1, fs, hf, fun _ h => h, fun gs _ _ => by simp only [stepV, hw, ha'], h⟩
    | skip => exact ⟨undef, H1, fs, hf, fun _ h => h, fun gs _ _ => by simp only [stepV, hw, ha'], h⟩
    | enter f args =>
      obtain ⟨r, H2, hc, h⟩ := h
      cases r with
      | ret v =>
        obtain ⟨hd, h⟩ := h
        refine ⟨v, H2, _, .cons (c := ⟨f, args, H1, .ret v, H2⟩) hc hd hf, fun c hc => List.mem_cons_of_mem _ hc, fun gs hg hm => ?_, h⟩
        have := hg.find (hm _ List.mem_cons_self)
        simp only at this
        simp only [stepV, hw, ha', evF, this]
      | panic v => exact h.elim
    | panic v => exact h.elim
    | defer d => exact h.elim
    | round l args => exact h.elim
    | recover => exact h.elim
  · exact ⟨undef, H, fs, hf, fun _ h => h, fun gs _ _ => by simp only [stepV, hw], h⟩

def earlyO (o : Option (List Value × Nat × Option Nat)) (K : List Value → Nat → Option Nat → Prop) : Prop :=
  match o with
  | some (cs, sz, n) => K cs sz n
  | none => False

def stepCW (P : Program) (i : IInfo) (o : IOper) (ts : Tmps) (H : AHeap) (fs : List CFact) (K : Value → AHeap → List CFact → Prop) : Prop :=
  bif Nat.beq i.cls 1 then guardW o.guard ts (earlyO (aEarly o.op (aev ts)) fun cs sz n => K (earlyV n H.size) (H.push (.cells cs false sz)) fs) (K undef H fs)
  else stepVW P o ts H fs K

theorem stepCW_ok {P : Program} {i : IInfo} {o : IOper} {ts : Tmps} {H : AHeap} {fs : List CFact} {K : Value → AHeap → List CFact → Prop} (hf : FsOk P fs) (h : stepCW P i o ts H fs K) :
    ∃ v H' fs', FsOk P fs' ∧ (∀ c, c ∈ fs → c ∈ fs') ∧ (∀ gs, FsOk P gs → (∀ c, c ∈ fs' → c ∈ gs) → stepC (evF gs) i o ts H = some (v, H')) ∧ K v H' fs' := by
  unfold stepCW at h
  cases hb : Nat.beq i.cls 1 with
  | true =>
    have hi : i.cls = 1 := Nat.eq_of_beq_eq_true hb
    simp only [hb, cond_true] at h
    rcases guardW_ok h with ⟨hw, h⟩ | ⟨hw, h⟩
    · unfold earlyO at h
      split at h
      · rename_i cs sz n he
        exact ⟨_, _, fs, hf, fun _ h => h, fun gs _ _ => by simp only [stepC, hi, if_true, hw, he], h⟩
      · exact h.elim
    · exact ⟨_, _, fs, hf, fun _ h => h, fun gs _ _ => by simp only [stepC, hi, if_true, hw], h⟩
  | false =>
    have hi : i.cls ≠ 1 := by intro e; rw [e] at hb; cases hb
    simp only [hb, cond_false] at h
    obtain ⟨v, H', fs', h1, h2, h3, h4⟩ := stepVW_ok hf h
    exact ⟨v, H', fs', h1, h2, fun gs hg hm => by simp only [stepC, hi, if_false]; exact h3 gs hg hm, h4⟩

def operW (o : Option IOper) (K : IOper → Prop) : Prop :=
  match o with
  | some o => K o
  | none => False

def wpRun (P : Program) (l : List IOper) : List IInfo → Tmps → AHeap → List CFact → (List DRec → Tmps → AHeap → List CFact → Prop) → Prop
  | [], ts, H, fs, K => K [] ts H fs
  | i :: is, ts, H, fs, K => operW l[i.idx]? fun o => stepCW P i o ts H fs fun v H' fs' => putW ts o.dst v fun ts' => wpRun P l is ts' H' fs' fun R => K (⟨i, o, ts, H, v, H'⟩ :: R)

theorem putT_of {ts : Tmps} {d : Option Nat} {v : Value} {K : Tmps → Prop} (h : putW ts d v K) : K (putT ts d v) := by
  obtain ⟨ts', he, hk⟩ := putW_ok (ds := []) (H := AHeap.empty) h
  cases d with
  | none =>
    simp only [ASt.put, ASt.mk.injEq, and_self, and_true] at he
    simp only [putT]
    rw [he]; exact hk
  | some t =>
    simp only [ASt.put, ASt.mk.injEq, and_self, and_true] at he
    simp only [putT]
    rw [he]; exact hk

theorem wpRun_ok {P : Program} {l : List IOper} : ∀ {is : List IInfo} {ts : Tmps} {H : AHeap} {fs : List CFact} {K : List DRec → Tmps → AHeap → List CFact → Prop}, FsOk P fs → wpRun P l is ts H fs K →
    ∃ R ts' H' fs', FsOk P fs' ∧ (∀ c, c ∈ fs → c ∈ fs') ∧ (∀ gs, FsOk P gs → (∀ c, c ∈ fs' → c ∈ gs) → drawRun (evF gs) l is ts H = some R) ∧ K R ts' H' fs'
  | [], ts, H, fs, K, hf, h => ⟨[], ts, H, fs, hf, fun _ h => h, fun _ _ _ => rfl, h⟩
  | i :: is, ts, H, fs, K, hf, h => by
    simp only [wpRun] at h
    unfold operW at h
    split at h
    · rename_i o ho
      obtain ⟨v, H1, fs1, hf1, hsub, hrun, h⟩ := stepCW_ok hf h
      have h := putT_of h
      obtain ⟨R, ts', H', fs', hf', hsub', hrun', h⟩ := wpRun_ok hf1 h
      refine ⟨_, ts', H', fs', hf', fun c hc => hsub' c (hsub c hc), fun gs hg hm => ?_, h⟩
      simp only [drawRun, ho, hrun gs hg (fun c hc => hm c (hsub' c hc)), hrun' gs hg hm]
    · exact h.elim

/-! ### What reads must find the same again -/

def sameW (r : DRec) (H : AHeap) (K : Prop) : Prop :=
  guardW r.o.guard r.ts (aopW r.o.op (aev r.ts) H fun ar _ =>
    match ar with
    | .val v => (v = r.v ∧ veqOk r.v = true) ∧ K
    | _ => False) ((undef = r.v) ∧ K)

theorem sameW_ok {r : DRec} {H : AHeap} {K : Prop} {e : Ev} (h : sameW r H K) : sameAt e r H = true ∧ K := by
  rcases guardW_ok h with ⟨hw, h⟩ | ⟨hw, h⟩
  · obtain ⟨ar, H1, ha, h⟩ := aopW_ok h
    have ha' : aopK r.o.op (aev r.ts) H = some (ar, H1) := by rw [aopK_eq]; exact ha
    cases ar with
    | val v =>
      obtain ⟨⟨rfl, hv⟩, hk⟩ := h
      exact ⟨by simp only [sameAt, stepV, hw, ha', veq_refl _ hv], hk⟩
    | _ => exact h.elim
  · obtain ⟨hv, hk⟩ := h
    exact ⟨by simp only [sameAt, stepV, hw]; rw [← hv]; exact veq_refl _ (by rfl), hk⟩

def windowW (i : IInfo) (r : DRec) : AHeap → List DRec → Prop → Prop
  | H, [], K => sameW r H K
  | H, ⟨j, _, _, _, _, H'⟩ :: qs, K =>
    bif i.anc.testBit j.idx then (bif j.anc.testBit i.idx then K else windowW i r H' qs K)
    else sameW r H (bif j.anc.testBit i.idx then K else windowW i r H' qs K)

theorem windowW_ok {i : IInfo} {r : DRec} (hi : r.i = i) {e : Ev} : ∀ {qs : List DRec} {H : AHeap} {K : Prop}, windowW i r H qs K → window e r H qs = true ∧ K
  | [], H, K, h => sameW_ok h
  | ⟨j, o, ts, H0, v, H'⟩ :: qs, H, K, h => by
    subst hi
    simp only [windowW] at h
    simp only [window]
    cases h1 : r.i.anc.testBit j.idx with
    | true =>
      simp only [h1, cond_true] at h
      cases h2 : j.anc.testBit r.i.idx with
      | true => simp only [h2, cond_true] at h; exact ⟨by simp, h⟩
      | false =>
        simp only [h2, cond_false] at h
        obtain ⟨h3, hk⟩ := windowW_ok rfl (e := e) h
        exact ⟨by simp [h3], hk⟩
    | false =>
      simp only [h1, cond_false] at h
      obtain ⟨hs, h⟩ := sameW_ok (e := e) h
      cases h2 : j.anc.testBit r.i.idx with
      | true => simp only [h2, cond_true] at h; exact ⟨by simp [hs], h⟩
      | false =>
        simp only [h2, cond_false] at h
        obtain ⟨h3, hk⟩ := windowW_ok rfl (e := e) h
        exact ⟨by simp [hs, h3], hk⟩

def allW (HE : AHeap) (L : List DRec) : List DRec → Prop → Prop
  | [], K => K
  | ⟨i, o, ts, H, v, H'⟩ :: R, K => bif Nat.beq i.cls 0 then windowW i ⟨i, o, ts, H, v, H'⟩ HE L (allW HE L R K) else allW HE L R K

theorem allW_ok {HE : AHeap} {L : List DRec} {e : Ev} : ∀ {R : List DRec} {K : Prop}, allW HE L R K → (R.all fun r => r.i.cls != 0 || window e r HE L) = true ∧ K
  | [], K, h => ⟨rfl, h⟩
  | ⟨i, o, ts, H, v, H'⟩ :: R, K, h => by
    simp only [allW] at h
    cases hb : Nat.beq i.cls 0 with
    | true =>
      simp only [hb, cond_true] at h
      obtain ⟨h1, h⟩ := windowW_ok (i := i) (r := ⟨i, o, ts, H, v, H'⟩) rfl (e := e) h
      obtain ⟨h2, hk⟩ := allW_ok (e := e) h
      exact ⟨by simp only [List.all_cons, h1, Bool.or_true, h2, Bool.and_self], hk⟩
    | false =>
      simp only [hb, cond_false] at h
      obtain ⟨h2, hk⟩ := allW_ok (e := e) h
      have : (i.cls != 0) = true := by
        have : i.cls ≠ 0 := by intro e; rw [e] at hb; cases hb
        simp [this]
      exact ⟨by simp only [List.all_cons, this, Bool.true_or, h2, Bool.and_self], hk⟩

def heW : List DRec → AHeap → (AHeap → Prop) → Prop
  | [], H, K => K H
  | ⟨i, _, _, _, _, H'⟩ :: R, H, K => bif i.cls == 1 then heW R H' K else heW R H K
theorem heW_ok : ∀ {R : List DRec} {H : AHeap} {K : AHeap → Prop}, heW R H K → K (hF (earlies R) (fun _ => true) H)
  | [], H, K, h => h
  | ⟨i, o, ts, H0, v, H'⟩ :: R, H, K, h => by
    simp only [heW] at h
    cases hb : (i.cls == 1) with
    | true =>
      simp only [hb, cond_true] at h
      have := heW_ok h
      simpa only [earlies, List.filter_cons, hb, if_true, hF, List.foldl_cons] using this
    | false =>
      simp only [hb, cond_false] at h
      have := heW_ok h
      simpa only [earlies, List.filter_cons, hb, Bool.false_eq_true, if_false] using this

def loW : List DRec → (List DRec → Prop) → Prop
  | [], K => K []
  | ⟨i, o, ts, H, v, H'⟩ :: R, K => bif i.loud then loW R (fun L => K (⟨i, o, ts, H, v, H'⟩ :: L)) else loW R K
theorem loW_ok : ∀ {R : List DRec} {K : List DRec → Prop}, loW R K → K (louds R)
  | [], K, h => h
  | ⟨i, o, ts, H, v, H'⟩ :: R, K, h => by
    simp only [loW] at h
    cases hb : i.loud with
    | true =>
      simp only [hb, cond_true] at h
      have := loW_ok h
      simpa only [louds, List.filter_cons, hb, if_true] using this
    | false =>
      simp only [hb, cond_false] at h
      have := loW_ok h
      simpa only [louds, List.filter_cons, hb, Bool.false_eq_true, if_false] using this

/-- **A region that draws.** -/
theorem WCode.draw {P : Program} (hm : P.follows .mixedOrders = true) {rd : Option Nat} {l : List IOper} {is : List IInfo} {ts : Tmps} {ds : List Deferred} {H : AHeap} {Q : Post3} (hs : staticOk l is = true)
    (h : wpRun P l is ts H [] fun R ts' H' _ => heW R H fun HE => loW R fun L => (tsF R (fun _ => true) ts = ts' ∧ hF L (fun _ => true) HE = H') ∧
      allW HE L R (Q .normal ts' ds H')) : WCode P rd (.region l (some is)) ts ds H Q := by
  obtain ⟨R, ts', H', fs', hf', _, hrun, h⟩ := wpRun_ok .nil h
  obtain ⟨⟨h1, h2⟩, h⟩ := loW_ok (heW_ok h)
  obtain ⟨hall, hq⟩ := allW_ok (e := evF fs') h
  have hrun := hrun fs' hf' (fun _ h => h)
  refine ⟨_, _, _, _, SC.draw (e := evF fs') hm (fun _ _ _ _ _ _ _ h => (by cases h)) (evF_call hf') (fun _ _ _ _ _ _ _ _ _ _ h => (by cases h)) (fun _ _ _ _ _ _ _ h => (by cases h)) ?_, hq⟩
  simp only [drawFn, hs, if_true, hrun, hall, h1, h2]

end Go.Abs
