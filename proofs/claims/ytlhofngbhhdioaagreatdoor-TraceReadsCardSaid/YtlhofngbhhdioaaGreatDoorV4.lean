/- V4: part of the proof (own work of this claim). -/
import Derived.Test.YtlhofngbhhdioaaGreatDoorV3
import Derived.Recover
set_option linter.unusedVariables false
set_option linter.unusedSimpArgs false
set_option linter.deprecated false
/- One operation of a region, on the machine. -/
namespace Go.Vai
open Go
section
variable {P : Program} {b : Frame} {a : Act} {k : List Item} {cs : List Frame} {w w' : World} {ops : Array Oper} {i : Nat} {rest : List Nat} {o : Oper}

theorem step_op_value {v : Value} (ho : ops[i]? = some o) (hw : Region.wanted o (yielded ops a.tmps) = true) (hr : (execOp a.eval o).run P w = .ok (.value v) w') :
    step P (lone (b.at a (.inRegion ops (i :: rest) :: k)) cs w) = .next (lone (b.at (a.put o.dst v) (.inRegion ops rest :: k)) cs w') := by
  have hg := stepG_op (P := P) (b := b) (k := k) (cs := cs) (w := w) (rest := rest) ho hw
  have hfin : ∀ v, (b.at a (.inRegion ops (i :: rest) :: k)).finish v = b.at (a.put o.dst v) (.inRegion ops rest :: k) := by
    intro v; rw [Frame.finish_at, ho]; rfl
  exact step_lone_go (by rw [hg, ← hfin]; simp [stepG.apply, hr])

theorem step_op_done (ho : ops[i]? = some o) (hw : Region.wanted o (yielded ops a.tmps) = true) (hr : (execOp a.eval o).run P w = .ok .skip w') :
    step P (lone (b.at a (.inRegion ops (i :: rest) :: k)) cs w) = .next (lone (b.at (a.put o.dst undef) (.inRegion ops rest :: k)) cs w') := by
  have hg := stepG_op (P := P) (b := b) (k := k) (cs := cs) (w := w) (rest := rest) ho hw
  have hfin : ∀ v, (b.at a (.inRegion ops (i :: rest) :: k)).finish v = b.at (a.put o.dst v) (.inRegion ops rest :: k) := by
    intro v; rw [Frame.finish_at, ho]; rfl
  exact step_lone_go (by rw [hg, ← hfin]; simp [stepG.apply, hr])

theorem step_op_defer {d : Deferred} (ho : ops[i]? = some o) (hw : Region.wanted o (yielded ops a.tmps) = true) (hr : (execOp a.eval o).run P w = .ok (.defer d) w') :
    step P (lone (b.at a (.inRegion ops (i :: rest) :: k)) cs w) = .next (lone (b.at ({ a with defers := d :: a.defers }.put o.dst undef) (.inRegion ops rest :: k)) cs w') := by
  have hg := stepG_op (P := P) (b := b) (k := k) (cs := cs) (w := w) (rest := rest) ho hw
  have : ({ b.at a (.inRegion ops (i :: rest) :: k) with defers := d :: a.defers } : Frame).finish undef =
      b.at ({ a with defers := d :: a.defers }.put o.dst undef) (.inRegion ops rest :: k) := by
    have := Frame.finish_at b { a with defers := d :: a.defers } ops i rest k undef
    rw [ho] at this; exact this
  exact step_lone_go (by
    rw [hg]; simp only [stepG.apply, Sem.runT_eq, hr, GStep.bare_after]
    exact congrArg (fun fr => GStep.go { frame := fr, callers := cs, status := .running, dying := none } w') this)

theorem step_op_enter {f : FuncId} {args : Array Value} (ho : ops[i]? = some o) (hw : Region.wanted o (yielded ops a.tmps) = true) (hr : (execOp a.eval o).run P w = .ok (.enter f args) w') :
    step P (lone (b.at a (.inRegion ops (i :: rest) :: k)) cs w) = .next (lone (Frame.enter P f args .normal) (b.at a (.inRegion ops (i :: rest) :: k) :: cs) w') := by
  have hg := stepG_op (P := P) (b := b) (k := k) (cs := cs) (w := w) (rest := rest) ho hw
  exact step_lone_go (by rw [hg]; simp [stepG.apply, hr, Frame.at])

theorem step_op_panic {v : Value} (ho : ops[i]? = some o) (hw : Region.wanted o (yielded ops a.tmps) = true) (hr : (execOp a.eval o).run P w = .halt (.panic v) w') :
    step P (lone (b.at a (.inRegion ops (i :: rest) :: k)) cs w) = .next (lone { b.at a (.inRegion ops (i :: rest) :: k) with mode := .panicking [{ v, recovered := false }] } cs w') := by
  have hg := stepG_op (P := P) (b := b) (k := k) (cs := cs) (w := w) (rest := rest) ho hw
  exact step_lone_go (by rw [hg, ← Frame.raise_at]; simp [stepG.apply, hr])

theorem step_op_recover {cs' : List Frame} {v : Value} (ho : ops[i]? = some o) (hw : Region.wanted o (yielded ops a.tmps) = true) (hr : (execOp a.eval o).run P w = .ok .recover w')
    (hk : (b.kind = .normal ∧ v = .nilIface ∧ cs' = cs) ∨ (b.kind = .deferred ∧ ((recoverD cs = some (v, cs')) ∨ (recoverD cs = none ∧ v = .nilIface ∧ cs' = cs)))) :
    step P (lone (b.at a (.inRegion ops (i :: rest) :: k)) cs w) = .next (lone (b.at (a.put o.dst v) (.inRegion ops rest :: k)) cs' w') := by
  have hg := stepG_op (P := P) (b := b) (k := k) (cs := cs) (w := w) (rest := rest) ho hw
  have hfin : ∀ v, (b.at a (.inRegion ops (i :: rest) :: k)).finish v = b.at (a.put o.dst v) (.inRegion ops rest :: k) := by
    intro v; rw [Frame.finish_at, ho]; rfl
  refine step_lone_go ?_
  rw [hg, ← hfin]
  rcases hk with ⟨hk, rfl, rfl⟩ | ⟨hk, hk2⟩
  · have htr : tryRecover (b.at a (.inRegion ops (i :: rest) :: k)) cs' = none := by simp [tryRecover, Frame.at, hk]
    simp only [Frame.at] at htr ⊢
    simp [stepG.apply, hr, htr]
  · have hk' : (b.at a (.inRegion ops (i :: rest) :: k)).kind = .deferred := hk
    have htr := tryRecover_deferred hk' cs
    rcases hk2 with hrec | ⟨hrec, rfl, rfl⟩
    · simp only [Frame.at] at htr ⊢
      simp [stepG.apply, hr, htr, hrec]
    · simp only [Frame.at] at htr ⊢
      simp [stepG.apply, hr, htr, hrec]
end
end Go.Vai

/- Regions, code: the machine goes where the interpreter says. -/
namespace Go.Vai
open Go

/-- The frames that called. -/
def CS (γ : Gam) (c₀ : Frame) (cs₀ cs : List Frame) : Um → Prop
  | .none => cs = cs₀
  | .ret => cs = { c₀ with mode := .returning } :: cs₀
  | .pan v r => ∃ V, RV γ v V ∧ cs = { c₀ with mode := .panicking [{ v := V, recovered := r }] } :: cs₀

def kindOf : Um → CallKind
  | .none => .normal
  | _ => .deferred

/-- Deferred calls. -/
def DS (E : Env) (γ : Gam) : List (Nat × List AV) → List Deferred → Prop
  | [], l => l = []
  | (f, args) :: ds, l => ∃ d D cap, ∃ Args : List Value, l = d :: D ∧ d.target = .fn (.func f) cap ∧ RVs γ args Args ∧ d.args ++ cap = Args.toArray ∧
      (∃ fn c, E.fns.get f = some fn ∧ fn.body = some c) ∧ DS E γ ds D

theorem CS.mono {γ γ' : Gam} (h : γ.le γ') {c₀ : Frame} {cs₀ cs : List Frame} : ∀ {u : Um}, CS γ c₀ cs₀ cs u → CS γ' c₀ cs₀ cs u
  | .none, r => r
  | .ret, r => r
  | .pan v b, ⟨V, h1, h2⟩ => ⟨V, h1.mono h, h2⟩

theorem DS.mono {E : Env} {γ γ' : Gam} (h : γ.le γ') : ∀ {ds : List (Nat × List AV)} {l : List Deferred}, DS E γ ds l → DS E γ' ds l
  | [], l, r => r
  | (f, args) :: ds, l, ⟨d, D, cap, Args, h1, h2, h3, h4, h5, h6⟩ => ⟨d, D, cap, Args, h1, h2, RVs.mono h _ _ h3, h4, h5, DS.mono h h6⟩

/-- How the interpreter's state stands for the machine's. -/
structure SR (E : Env) (base : Nat) (n : Nat) (c₀ : Frame) (cs₀ : List Frame) (γ : Gam) (s : St) (a : Act) (cs : List Frame) (w : World) : Prop where
  f : RF γ s.F n a.tmps
  h : RH E base γ s.h w
  c : CS γ c₀ cs₀ cs s.u
  d : DS E γ s.ds a.defers

def XR (γ : Gam) : X → Exit → Prop
  | .normal, e => e = .normal
  | .exit i, e => e = .exit i
  | .ret, e => e = .ret
  | .pan v, e => ∃ V, RV γ v V ∧ e = .panic [{ v := V, recovered := false }]

/-- From machine m on: the run comes to where the interpreter says. -/
def Goes (E : Env) (P : Program) (base n : Nat) (c₀ : Frame) (cs₀ : List Frame) (b : Frame) (k : List Item) (γ : Gam) (s : St) (m : Machine) (w : World) (r : X × St) : Prop :=
  ∃ γ' e a' cs' w', XR γ' r.1 e ∧ SR E base n c₀ cs₀ γ' r.2 a' cs' w' ∧ FC γ s.h w γ' r.2.h w' ∧ kindOf r.2.u = kindOf s.u ∧ Arrives P m b k cs' e a' w'

def CR.heap : CR → Heap
  | .ret _ h => h
  | .pan _ h => h

def CRR (γ : Gam) : CR → Ending → Prop
  | .ret v _, e => ∃ V, RV γ v V ∧ e = .returned V
  | .pan v _, e => ∃ V, RV γ v V ∧ e = .panicked [{ v := V, recovered := false }]

/-- Calls come back as the interpreter says. -/
def CallOK (E : Env) (P : Program) (base : Nat) (call : CallA) : Prop :=
  ∀ f args h r, call f args h = some r → ∀ γ w, ∀ Args : List Value, RH E base γ h w → RVs γ args Args →
    Calls P f Args.toArray w fun e w' => ∃ γ', CRR γ' r e ∧ FC γ h w γ' r.heap w' ∧ RH E base γ' r.heap w'

section
variable {E : Env} {P : Program} {base n : Nat} {c₀ : Frame} {cs₀ : List Frame} {b : Frame} {k : List Item} {γ : Gam} {s : St} {a : Act} {cs : List Frame} {w : World}

theorem Goes.of_steps {m m₁ : Machine} {r : X × St} (h : Steps P m m₁) (g : Goes E P base n c₀ cs₀ b k γ s m₁ w r) : Goes E P base n c₀ cs₀ b k γ s m w r := by
  obtain ⟨γ', e, a', cs', w', h1, h2, h3, h4, h5⟩ := g
  exact ⟨γ', e, a', cs', w', h1, h2, h3, h4, .of_steps h h5⟩

theorem Goes.trans {m m₁ : Machine} {γ₁ : Gam} {s₁ : St} {w₁ : World} {r : X × St} (h : Steps P m m₁) (hf : FC γ s.h w γ₁ s₁.h w₁) (hk : kindOf s₁.u = kindOf s.u)
    (g : Goes E P base n c₀ cs₀ b k γ₁ s₁ m₁ w₁ r) : Goes E P base n c₀ cs₀ b k γ s m w r := by
  obtain ⟨γ', e, a', cs', w', h1, h2, h3, h4, h5⟩ := g
  exact ⟨γ', e, a', cs', w', h1, h2, hf.trans h3, h4.trans hk, .of_steps h h5⟩

theorem wanted_sound {ops : Array Oper} {F : Tr AV} (hF : RF γ F n a.tmps) {o : Oper} {x : Bool} (h : wantedA ops.toList F o.guard = some x) :
    Region.wanted o (yielded ops a.tmps) = x := by
  unfold wantedA at h
  unfold Region.wanted
  split at h
  · rename_i hg; cases h; simp [hg]
  · rename_i j bb hg
    simp only [hg]
    split at h
    · cases h
    · rename_i oj hoj
      have hoj' : ops[j]? = some oj := by rw [← Array.getElem?_toList]; exact hoj
      split at h
      · cases h
      · rename_i d hd
        split at h
        · rename_i y hy
          cases h
          obtain ⟨V, h1, h2⟩ := hF.get _ _ hy
          simp only [RV] at h2; subst h2
          simp only [yielded, hoj', Option.bind_some, hd, h1]
          cases y <;> cases bb <;> rfl
        · rename_i v hnb hy
          cases h
          obtain ⟨V, h1, h2⟩ := hF.get _ _ hy
          have : ∀ bb', V ≠ .bool bb' := fun bb' e => by
            subst e
            cases v with
            | b q => exact hnb q rfl
            | sl i o' m c => cases c <;> simp [RV] at h2
            | _ => simp [RV] at h2
          have hy : yielded ops a.tmps j = none := by
            simp only [yielded, hoj', Option.bind_some, hd, h1]
            split
            · rename_i bb' e; cases e; exact absurd rfl (this _)
            · rfl
          rw [hy]; rfl
        · cases h

theorem RV.noResult (γ : Gam) : RV γ (.tup []) undef := ⟨[], rfl, rfl⟩

theorem Act.put_defers (a : Act) (d : Option Tmp) (v : Value) : (a.put d v).defers = a.defers := by cases d <;> rfl

/-- One operation. -/
theorem stepOp_sound (hE : EnvOK E P) {call : CallA} (hcall : CallOK E P base call) {ops : Array Oper} {i : Nat} {rest : List Nat} {o : Oper} (ho : ops[i]? = some o)
    (hw : Region.wanted o (yielded ops a.tmps) = true) (hs : SR E base n c₀ cs₀ γ s a cs w) (hb : b.kind = kindOf s.u) {r : X × St} (hr : stepOp E call n o s = some r) :
    (r.1 = .normal ∧ ∃ γ' a' cs' w', SR E base n c₀ cs₀ γ' r.2 a' cs' w' ∧ FC γ s.h w γ' r.2.h w' ∧ kindOf r.2.u = kindOf s.u ∧
      Steps P (lone (b.at a (.inRegion ops (i :: rest) :: k)) cs w) (lone (b.at a' (.inRegion ops rest :: k)) cs' w')) ∨
    (r.1 ≠ .normal ∧ Goes E P base n c₀ cs₀ b k γ s (lone (b.at a (.inRegion ops (i :: rest) :: k)) cs w) w r) := by
  unfold stepOp at hr
  split at hr
  · cases hr
  · rename_i v h' hop
    split at hr
    · cases hr
    · rename_i F' hF'
      cases hr
      obtain ⟨γ', w', V, h1, h2, h3, h4⟩ := op_sound hE hs.f hs.h hop
      left
      refine ⟨rfl, γ', a.put o.dst V, cs, w', ⟨(hs.f.mono h3.le).put h2 hF', h4, hs.c.mono h3.le, ?_⟩, h3, rfl, .one (step_op_value ho hw h1)⟩
      rw [Act.put_defers]; exact hs.d.mono h3.le
  · rename_i h' hop
    split at hr
    · cases hr
    · rename_i F' hF'
      cases hr
      obtain ⟨w', h1, h3, h4⟩ := op_sound hE hs.f hs.h hop
      left
      refine ⟨rfl, γ, a.put o.dst undef, cs, w', ⟨hs.f.put (RV.noResult γ) hF', h4, hs.c, ?_⟩, h3, rfl, .one (step_op_done ho hw h1)⟩
      rw [Act.put_defers]; exact hs.d
  · rename_i f args hop
    obtain ⟨Args, h1, h2, _⟩ := op_sound hE hs.f hs.h hop
    have henter := step_op_enter (b := b) (k := k) (cs := cs) (rest := rest) ho hw h1
    split at hr
    · cases hr
    · rename_i v h' hc
      split at hr
      · cases hr
      · rename_i F' hF'
        cases hr
        obtain ⟨e, w', fr, ⟨γ', ⟨V, hV, rfl⟩, hfc, hrh⟩, hcm, _, hlv⟩ := hcall f args s.h _ hc γ w Args hs.h h2 (b.at a (.inRegion ops (i :: rest) :: k) :: cs)
        left
        refine ⟨rfl, γ', a.put o.dst V, cs, w', ⟨(hs.f.mono hfc.le).put hV hF', hrh, hs.c.mono hfc.le, ?_⟩, hfc, rfl, ?_⟩
        · rw [Act.put_defers]; exact hs.d.mono hfc.le
        · have hfin : (b.at a (.inRegion ops (i :: rest) :: k)).finish V = b.at (a.put o.dst V) (.inRegion ops rest :: k) := by
            rw [Frame.finish_at, ho]; rfl
          rw [← hfin]
          exact .head henter (Steps.trans hcm (.one (step_leave_returned hlv)))
    · rename_i v h' hc
      cases hr
      obtain ⟨e, w', fr, ⟨γ', ⟨V, hV, rfl⟩, hfc, hrh⟩, hcm, _, hlv⟩ := hcall f args s.h _ hc γ w Args hs.h h2 (b.at a (.inRegion ops (i :: rest) :: k) :: cs)
      right
      refine ⟨by simp, γ', .panic [{ v := V, recovered := false }], a, cs, w', ⟨V, hV, rfl⟩, ⟨hs.f.mono hfc.le, hrh, hs.c.mono hfc.le, hs.d.mono hfc.le⟩, hfc, rfl, .inRegion ops (i :: rest) :: k, .head henter (Steps.trans hcm (.one ?_))⟩
      rw [← Frame.raise_at]; exact step_leave_panicked hlv
  · rename_i f args hop
    split at hr
    · cases hr
    · rename_i F' hF'
      cases hr
      obtain ⟨d, cap, Args, h1, h2, h3, h4, h5⟩ := op_sound hE hs.f hs.h hop
      left
      refine ⟨rfl, γ, ({ a with defers := d :: a.defers } : Act).put o.dst undef, cs, w, ⟨RF.put (a := { a with defers := d :: a.defers }) hs.f (RV.noResult γ) hF', hs.h, hs.c, ?_⟩, FC.refl _ _ _, rfl, .one (step_op_defer ho hw h1)⟩
      rw [Act.put_defers]
      exact ⟨d, a.defers, cap, Args, rfl, h2, h3, h4, h5, hs.d⟩
  · rename_i hop
    have h1 := op_sound hE hs.f hs.h hop
    split at hr
    · rename_i v hu
      split at hr
      · cases hr
      · rename_i F' hF'
        cases hr
        have hc := hs.c
        rw [hu] at hc hb
        obtain ⟨V, hV, rfl⟩ := hc
        left
        refine ⟨rfl, γ, a.put o.dst V, { c₀ with mode := .panicking [{ v := V, recovered := true }] } :: cs₀, w, ⟨hs.f.put hV hF', hs.h, ⟨V, hV, rfl⟩, ?_⟩, FC.refl _ _ _, by simp [hu, kindOf], .one (step_op_recover ho hw h1 (.inr ⟨hb, .inl ?_⟩))⟩
        · rw [Act.put_defers]; exact hs.d
        · simp [recoverD]
    · rename_i hu
      split at hr
      · cases hr
      · rename_i F' hF'
        cases hr
        left
        refine ⟨rfl, γ, a.put o.dst .nilIface, cs, w, ⟨hs.f.put (show RV γ .inil .nilIface from rfl) hF', hs.h, hs.c, ?_⟩, FC.refl _ _ _, rfl, .one (step_op_recover ho hw h1 ?_)⟩
        · rw [Act.put_defers]; exact hs.d
        · have hc := hs.c
          cases hu' : s.u with
          | none => rw [hu'] at hb; exact .inl ⟨hb, rfl, rfl⟩
          | ret =>
            rw [hu'] at hb hc
            simp only [CS] at hc; subst hc
            exact .inr ⟨hb, .inr ⟨by simp [recoverD], rfl, rfl⟩⟩
          | pan v r =>
            cases r with
            | false => exact absurd hu' (hu v)
            | true =>
              rw [hu'] at hb hc
              obtain ⟨V, hV, rfl⟩ := hc
              exact .inr ⟨hb, .inr ⟨by simp [recoverD], rfl, rfl⟩⟩
  · rename_i v hop
    cases hr
    obtain ⟨V, h1, h2⟩ := op_sound hE hs.f hs.h hop
    right
    exact ⟨by simp, γ, .panic [{ v := V, recovered := false }], a, cs, w, ⟨V, h2, rfl⟩, hs, FC.refl _ _ _, rfl, _, .one (step_op_panic ho hw h1)⟩

theorem runOps_sound (hE : EnvOK E P) {call : CallA} (hcall : CallOK E P base call) {ops : Array Oper} : ∀ (l : List Oper) (i : Nat), ops.toList.drop i = l → ∀ {γ : Gam} {s : St} {a : Act} {cs : List Frame} {w : World},
    SR E base n c₀ cs₀ γ s a cs w → b.kind = kindOf s.u → ∀ {r : X × St}, runOps E call n ops.toList l s = some r →
    Goes E P base n c₀ cs₀ b k γ s (lone (b.at a (.inRegion ops (List.range' i l.length) :: k)) cs w) w r
  | [], i, hl, γ, s, a, cs, w, hs, hb, r, hr => by
    simp only [runOps, Option.some.injEq] at hr; subst hr
    exact ⟨γ, .normal, a, cs, w, rfl, hs, FC.refl _ _ _, rfl, .one step_region_end⟩
  | o :: rest, i, hl, γ, s, a, cs, w, hs, hb, r, hr => by
    have ho : ops[i]? = some o := by
      rw [← Array.getElem?_toList]
      have : (ops.toList.drop i)[0]? = some o := by rw [hl]; rfl
      simpa using this
    have hl' : ops.toList.drop (i + 1) = rest := by
      rw [← List.drop_drop, hl]; rfl
    simp only [List.length_cons, List.range'_succ]
    simp only [runOps] at hr
    split at hr
    · cases hr
    · rename_i hwa
      have hw := wanted_sound hs.f hwa
      split at hr
      · cases hr
      · rename_i F' hF'
        have hst := step_op_skip (P := P) (b := b) (a := a) (k := k) (cs := cs) (w := w) (ops := ops) (i := i) (rest := List.range' (i + 1) rest.length) (by simp [ho, hw])
        simp only [ho, Option.bind_some] at hst
        refine Goes.trans (.one hst) (FC.refl _ _ _) rfl (runOps_sound hE hcall rest (i + 1) hl' (s := { s with F := F' }) ⟨hs.f.put (RV.noResult γ) hF', hs.h, hs.c, ?_⟩ hb hr)
        rw [Act.put_defers]; exact hs.d
    · rename_i hwa
      have hw := wanted_sound hs.f hwa
      split at hr
      · rename_i s' hst
        rcases stepOp_sound (b := b) (k := k) (rest := List.range' (i + 1) rest.length) hE hcall ho hw hs hb hst with ⟨_, γ', a', cs', w', h1, h2, h3, h4⟩ | ⟨h1, _⟩
        · exact Goes.trans h4 h2 h3 (runOps_sound hE hcall rest (i + 1) hl' h1 (by rw [hb, ← h3]) hr)
        · exact absurd rfl h1
      · rename_i hnn
        rcases stepOp_sound (b := b) (k := k) (rest := List.range' (i + 1) rest.length) hE hcall ho hw hs hb hr with ⟨h0, _⟩ | ⟨_, h1⟩
        · obtain ⟨x, s'⟩ := r
          simp only at h0; subst h0
          exact absurd hr (hnn s')
        · exact h1

/-- A region's operations are carried out in an order that is drawn. -/
def DrawOK (E : Env) (P : Program) (base n : Nat) (draw : List Oper → St → Option (X × St)) : Prop :=
  ∀ (ops : Array Oper) (id : Nat) (c₀ : Frame) (cs₀ : List Frame) (b : Frame) (k : List Item) (γ : Gam) (s : St) (a : Act) (cs : List Frame) (w : World) (r : X × St),
    draw ops.toList s = some r → SR E base n c₀ cs₀ γ s a cs w → b.kind = kindOf s.u →
    Goes E P base n c₀ cs₀ b k γ s (lone (b.at a (.code (.region id ops true) :: k)) cs w) w r

theorem XR.exit {γ : Gam} {x : X} {e : Exit} (h : XR γ x e) : e ≠ .outgrown ∧ ∀ l, e ≠ .goto l := by
  cases x with
  | normal => cases h; exact ⟨by simp, by simp⟩
  | exit i => cases h; exact ⟨by simp, by simp⟩
  | ret => cases h; exact ⟨by simp, by simp⟩
  | pan v => obtain ⟨V, _, rfl⟩ := h; exact ⟨by simp, by simp⟩

/-- What is not the end of the first part is the end of all. -/
theorem Goes.pass {m : Machine} {r : X × St} {x : Item} (hx : x.plain = true) (hn : r.1 ≠ .normal) (g : Goes E P base n c₀ cs₀ b (x :: k) γ s m w r) : Goes E P base n c₀ cs₀ b k γ s m w r := by
  obtain ⟨γ', e, a', cs', w', h1, h2, h3, h4, h5⟩ := g
  refine ⟨γ', e, a', cs', w', h1, h2, h3, h4, .pass hx (fun _ _ => .inl ?_) h5⟩
  intro he
  obtain ⟨x, s'⟩ := r
  cases x with
  | normal => exact hn rfl
  | exit i => simp only [XR] at h1; rw [h1] at he; cases he
  | ret => simp only [XR] at h1; rw [h1] at he; cases he
  | pan v => obtain ⟨V, _, h1⟩ := h1; rw [h1] at he; cases he

/-- Where the run went on. -/
theorem Goes.normal {m : Machine} {s' : St} (g : Goes E P base n c₀ cs₀ b k γ s m w (.normal, s')) :
    ∃ γ' a' cs' w', SR E base n c₀ cs₀ γ' s' a' cs' w' ∧ FC γ s.h w γ' s'.h w' ∧ kindOf s'.u = kindOf s.u ∧ Steps P m (lone (b.at a' k) cs' w') := by
  obtain ⟨γ', e, a', cs', w', h1, h2, h3, h4, h5⟩ := g
  simp only [XR] at h1; subst h1
  exact ⟨γ', a', cs', w', h2, h3, h4, h5⟩

theorem loopN_sound {c : Code} {f : St → Option (X × St)} (hf : ∀ {k : List Item} {γ : Gam} {s : St} {a : Act} {cs : List Frame} {w : World}, SR E base n c₀ cs₀ γ s a cs w → b.kind = kindOf s.u → ∀ {r : X × St}, f s = some r →
      Goes E P base n c₀ cs₀ b k γ s (lone (b.at a (.code c :: k)) cs w) w r) :
    ∀ (m : Nat) {γ : Gam} {s : St} {a : Act} {cs : List Frame} {w : World}, SR E base n c₀ cs₀ γ s a cs w → b.kind = kindOf s.u → ∀ {r : X × St}, loopN f m s = some r →
      Goes E P base n c₀ cs₀ b k γ s (lone (b.at a (.code c :: .inLoop c :: k)) cs w) w r
  | 0, γ, s, a, cs, w, hs, hb, r, hr => by simp [loopN] at hr
  | m + 1, γ, s, a, cs, w, hs, hb, r, hr => by
    simp only [loopN] at hr
    split at hr
    · rename_i s' hst
      obtain ⟨γ', a', cs', w', h1, h2, h3, h4⟩ := (hf (k := .inLoop c :: k) hs hb hst).normal
      exact Goes.trans (Steps.trans h4 (.one step_inLoop)) h2 h3 (loopN_sound hf m h1 (by rw [hb, ← h3]) hr)
    · rename_i hnn
      refine Goes.pass (x := .inLoop c) rfl ?_ (hf hs hb hr)
      intro e
      obtain ⟨x, s'⟩ := r
      simp only at e; subst e
      exact hnn s' hr

theorem code_sound (hE : EnvOK E P) {call : CallA} (hcall : CallOK E P base call) {draw : List Oper → St → Option (X × St)} (hdraw : DrawOK E P base n draw) : ∀ (c : Code) {k : List Item} {γ : Gam} {s : St} {a : Act} {cs : List Frame} {w : World},
    SR E base n c₀ cs₀ γ s a cs w → b.kind = kindOf s.u → ∀ {r : X × St}, code E call draw n c s = some r →
    Goes E P base n c₀ cs₀ b k γ s (lone (b.at a (.code c :: k)) cs w) w r := by
  intro c
  induction c with
  | skip =>
    intro k γ s a cs w hs hb r hr
    simp only [code, Option.some.injEq] at hr; subst hr
    exact ⟨γ, .normal, a, cs, w, rfl, hs, FC.refl _ _ _, rfl, .one step_skip⟩
  | label l =>
    intro k γ s a cs w hs hb r hr
    simp only [code, Option.some.injEq] at hr; subst hr
    exact ⟨γ, .normal, a, cs, w, rfl, hs, FC.refl _ _ _, rfl, .one step_label⟩
  | region id ops d =>
    intro k γ s a cs w hs hb r hr
    simp only [code] at hr
    cases d with
    | false =>
      refine Goes.of_steps (.one step_region) ?_
      have := runOps_sound (b := b) (k := k) hE hcall ops.toList 0 rfl hs hb hr
      rw [List.range_eq_range']
      simpa using this
    | true => exact hdraw ops id c₀ cs₀ b k γ s a cs w r hr hs hb
  | seq x y ihx ihy =>
    intro k γ s a cs w hs hb r hr
    simp only [code] at hr
    refine Goes.of_steps (.one step_seq) ?_
    split at hr
    · rename_i s' hst
      obtain ⟨γ', a', cs', w', h1, h2, h3, h4⟩ := (ihx (k := .code y :: k) hs hb hst).normal
      exact Goes.trans h4 h2 h3 (ihy h1 (by rw [hb, ← h3]) hr)
    · rename_i hnn
      refine Goes.pass (x := .code y) rfl ?_ (ihx hs hb hr)
      intro e
      obtain ⟨x, s'⟩ := r
      simp only at e; subst e
      exact hnn s' hr
  | cond c x y ihx ihy =>
    intro k γ s a cs w hs hb r hr
    simp only [code] at hr
    split at hr
    · rename_i hc
      have h1 := eval_sound hs.f hc
      exact Goes.of_steps (.one (step_cond h1)) (ihx hs hb hr)
    · rename_i hc
      have h1 := eval_sound hs.f hc
      exact Goes.of_steps (.one (step_cond h1)) (ihy hs hb hr)
    · cases hr
  | block id c ih =>
    intro k γ s a cs w hs hb r hr
    simp only [code] at hr
    refine Goes.of_steps (.one step_block) ?_
    split at hr
    · rename_i i s' hst
      obtain ⟨γ', e, a', cs', w', h1, h2, h3, h4, h5⟩ := ih (k := .inBlock id :: k) hs hb hst
      simp only [XR] at h1; subst h1
      split at hr
      · rename_i hi
        have hi := Nat.eq_of_beq_eq_true hi
        subst hi
        cases hr
        exact ⟨γ', .normal, a', cs', w', rfl, h2, h3, h4, h5 k (by simp [exitTo])⟩
      · rename_i hi
        cases hr
        refine ⟨γ', .exit i, a', cs', w', rfl, h2, h3, h4, fun k' hk => h5 k' ?_⟩
        have hne : (id == i) = false := by
          cases hq : (id == i) with
          | false => rfl
          | true => simp at hq; subst hq; rw [Nat.beq_refl] at hi; cases hi
        simp [exitTo, hne, hk]
    · rename_i hnn
      obtain ⟨γ', e, a', cs', w', h1, h2, h3, h4, h5⟩ := ih (k := .inBlock id :: k) hs hb hr
      obtain ⟨x, s'⟩ := r
      cases x with
      | normal =>
        simp only [XR] at h1; subst h1
        exact ⟨γ', .normal, a', cs', w', rfl, h2, h3, h4, Steps.trans h5 (.one step_inBlock)⟩
      | exit i => exact absurd hr (hnn i s')
      | ret =>
        simp only [XR] at h1; subst h1
        exact ⟨γ', .ret, a', cs', w', rfl, h2, h3, h4, h5⟩
      | pan v =>
        obtain ⟨V, hV, rfl⟩ := h1
        exact ⟨γ', _, a', cs', w', ⟨V, hV, rfl⟩, h2, h3, h4, h5⟩
  | loop c ih =>
    intro k γ s a cs w hs hb r hr
    simp only [code] at hr
    exact Goes.of_steps (.one step_loop) (loopN_sound (fun hs hb r hr => ih hs hb hr) rounds hs hb hr)
  | exit id =>
    intro k γ s a cs w hs hb r hr
    simp only [code, Option.some.injEq] at hr; subst hr
    exact ⟨γ, .exit id, a, cs, w, rfl, hs, FC.refl _ _ _, rfl, fun k' hk => .one (step_exit hk)⟩
  | ret =>
    intro k γ s a cs w hs hb r hr
    simp only [code, Option.some.injEq] at hr; subst hr
    exact ⟨γ, .ret, a, cs, w, rfl, hs, FC.refl _ _ _, rfl, _, .one step_ret⟩
  | _ =>
    intro k γ s a cs w hs hb r hr
    simp [code] at hr
end
end Go.Vai

/- Calls: the machine comes back as the interpreter says. -/
namespace Go.Vai
open Go

/-- How the frame that called stands. -/
def MS (γ : Gam) : Um → FrameMode → Prop
  | .none, _ => False
  | .ret, m => m = .returning
  | .pan v r, m => ∃ V, RV γ v V ∧ m = .panicking [{ v := V, recovered := r }]

/-- Deferred calls come back as the interpreter says. -/
def CallDOK (E : Env) (P : Program) (base : Nat) (callD : Nat → List AV → Um → Heap → Option (Um × Heap)) : Prop :=
  ∀ f args u h u' h', callD f args u h = some (u', h') → ∀ γ w m, ∀ Args : List Value, RH E base γ h w → RVs γ args Args → MS γ u m →
    CallsD P f Args.toArray m w fun e m' w' => ∃ γ' V, e = .returned V ∧ MS γ' u' m' ∧ FC γ h w γ' h' w' ∧ RH E base γ' h' w'

section
variable {E : Env} {P : Program} {base n : Nat} {γ : Gam} {F : Tr AV} {a : Act} {h : Heap} {w : World}

/-- One result. -/
def resF (tmps : Array Value) : ResultVar → Sem Value
  | .tmp t => pure (tmps.getD t undef)
  | .cell x t => do loadVar t (← asAddr (tmps.getD x undef))

theorem results_eq (fn : Func) (tmps : Array Value) : results fn tmps = (do
    let vs ← fn.results.toList.mapM (resF tmps)
    pure (if h : vs.toArray.size = 1 then vs.toArray[0] else .tuple vs.toArray)) := by
  have : results fn tmps = (do
    let vs ← fn.results.mapM (resF tmps)
    pure (if h : vs.size = 1 then vs[0] else .tuple vs)) := rfl
  rw [this, Array.mapM_eq_mapM_toList]
  simp

theorem resVals_sound (hE : EnvOK E P) (hF : RF γ F n a.tmps) (hH : RH E base γ h w) : ∀ {rs : List ResultVar} {vs : List AV}, resVals E h F rs = some vs →
    ∃ Vs : List Value, (rs.mapM (resF a.tmps)).run P w = .ok Vs w ∧ RVs γ vs Vs
  | [], vs, hv => by simp only [resVals, Option.some.injEq] at hv; subst hv; exact ⟨[], rfl, rfl⟩
  | .tmp t :: rs, vs, hv => by
    simp only [resVals] at hv
    split at hv
    · cases hv
    · rename_i v hv0
      split at hv
      · cases hv
      · rename_i us hus
        cases hv
        obtain ⟨V, h1, h2⟩ := hF.get _ _ hv0
        obtain ⟨Us, h3, h4⟩ := resVals_sound hE hF hH hus
        refine ⟨V :: Us, ?_, ⟨V, Us, h2, h4, rfl⟩⟩
        have hg : a.tmps.getD t undef = V := by simp [Array.getD_eq_getD_getElem?, h1]
        simp only [List.mapM_cons, resF, hg, Sem.run_bind, Sem.run_pure, Result.andThen_ok, h3]
  | .cell x t :: rs, vs, hv => by
    simp only [resVals] at hv
    split at hv
    · cases hv
    · rename_i p hp
      split at hv
      · cases hv
      · rename_i v hv0
        split at hv
        · cases hv
        · rename_i us hus
          cases hv
          obtain ⟨X, h1, h2⟩ := hF.get _ _ hp
          obtain ⟨Us, h3, h4⟩ := resVals_sound hE hF hH hus
          obtain ⟨V, h5, h6⟩ := loadAt_sound hE hH h2 hv0
          refine ⟨V :: Us, ?_, ⟨V, Us, h6, h4, rfl⟩⟩
          have hg : a.tmps.getD x undef = X := by simp [Array.getD_eq_getD_getElem?, h1]
          obtain ⟨A, rfl⟩ : ∃ A, X = .pointer (some A) := by
            unfold loadAt at hv0
            split at hv0
            · obtain ⟨B, _, rfl⟩ := h2; exact ⟨_, rfl⟩
            · simp only [RV] at h2; subst h2; exact ⟨_, rfl⟩
            · cases hv0
          have h5' : (loadVar t A).run P w = .ok V w := by
            have := h5
            simp only [Instr.loadAt, Instr.sureAddr, Sem.run_bind, Sem.run_pure, Result.andThen_ok] at this
            exact this
          have ha : (asAddr (.pointer (some A))).run P w = .ok A w := rfl
          simp only [List.mapM_cons, resF, hg, ha, Sem.run_bind, Sem.run_pure, Result.andThen_ok, h3, h5']

theorem resV_sound (hE : EnvOK E P) (hF : RF γ F n a.tmps) (hH : RH E base γ h w) {fn : Func} {v : AV} (hv : resV E h F fn.results.toList = some v) :
    ∃ V, (results fn a.tmps).run P w = .ok V w ∧ RV γ v V := by
  have hres : ∀ Vs : List Value, (fn.results.toList.mapM (resF a.tmps)).run P w = .ok Vs w →
      (results fn a.tmps).run P w = .ok (if h : Vs.toArray.size = 1 then Vs.toArray[0] else .tuple Vs.toArray) w := fun Vs h1 => by
    rw [results_eq]
    simp only [Sem.run_bind, h1, Result.andThen_ok, Sem.run_pure]
  unfold resV at hv
  split at hv
  · cases hv
  · rename_i x hx
    cases hv
    obtain ⟨Vs, h1, X, us, hX, hus, rfl⟩ := resVals_sound hE hF hH hx
    simp only [RVs] at hus; subst hus
    exact ⟨X, by rw [hres _ h1]; simp, hX⟩
  · rename_i vs hne hx
    cases hv
    obtain ⟨Vs, h1, h2⟩ := resVals_sound hE hF hH hx
    refine ⟨.tuple Vs.toArray, ?_, ⟨Vs, h2, rfl⟩⟩
    rw [hres _ h1]
    have hl := h2.length
    have : Vs.toArray.size ≠ 1 := fun e => by
      have e : Vs.length = 1 := by simpa using e
      rw [hl] at e
      match vs, e with
      | [x], _ => exact hne x rfl
    rw [dif_neg this]

theorem settle_sound {u : Um} {m : FrameMode} (hm : MS γ u m) : MS γ (settleA u) (settle m) := by
  cases u with
  | none => exact hm.elim
  | ret => simp only [MS] at hm; subst hm; rfl
  | pan v r =>
    obtain ⟨V, hV, rfl⟩ := hm
    cases r with
    | true => rfl
    | false => exact ⟨V, hV, rfl⟩

theorem leave_sound (hE : EnvOK E P) {callD : Nat → List AV → Um → Heap → Option (Um × Heap)} (hcd : CallDOK E P base callD) {fn : Func} {γ0 : Gam} {h0 : Heap} {w0 : World} : ∀ (ds : List (Nat × List AV)) {u : Um} {m : FrameMode} {γ : Gam} {h : Heap} {w : World} {l : List Deferred} {r : CR},
    RF γ F n a.tmps → RH E base γ h w → DS E γ ds l → MS γ u m → FC γ0 h0 w0 γ h w → leave E callD F fn.results.toList ds u h = some r →
    Leaves P fn a.tmps (fun e w' => ∃ γ', CRR γ' r e ∧ FC γ0 h0 w0 γ' r.heap w' ∧ RH E base γ' r.heap w') l m w
  | [], u, m, γ, h, w, l, r, hF, hH, hd, hm, hfc, hr => by
    simp only [DS] at hd; subst hd
    unfold leave at hr
    split at hr
    · split at hr
      · cases hr
      · rename_i v hv
        cases hr
        simp only [MS] at hm; subst hm
        obtain ⟨V, h1, h2⟩ := resV_sound hE hF hH hv
        exact ⟨V, h1, γ, ⟨V, h2, rfl⟩, hfc, hH⟩
    · rename_i v _
      cases hr
      obtain ⟨V, hV, rfl⟩ := hm
      exact ⟨γ, ⟨V, hV, rfl⟩, hfc, hH⟩
    · cases hr
    · contradiction
  | (f, args) :: ds, u, m, γ, h, w, l, r, hF, hH, hd, hm, hfc, hr => by
    obtain ⟨d, D, cap, Args, rfl, h2, h3, h4, ⟨gn, gc, h5, h6⟩, h7⟩ := hd
    simp only [leave] at hr
    split at hr
    · cases hr
    · rename_i u' h' hc
      refine ⟨?_, .func f, cap, f, Args.toArray, h2, ?_, ?_⟩
      · intro e; subst e
        cases u with
        | none => exact hm
        | ret => simp [MS] at hm
        | pan v r => obtain ⟨V, _, hm⟩ := hm; cases hm
      · rw [h2]
        simp only [invoke, h4]
        exact hE.call f gn gc h5 h6 _ w
      · refine (hcd f args u h u' h' hc γ w m Args hH h3 hm).mono fun e m' w' ⟨γ', V, he, hm', hfc', hH'⟩ => ?_
        subst he
        exact leave_sound hE hcd ds (hF.mono hfc'.le) hH' (h7.mono hfc'.le) (settle_sound hm') (hfc.trans hfc') hr

theorem frame0_sound {args : List AV} {Args : List Value} (hv : RVs γ args Args) (k : Nat) :
    RF γ (frame0 args) (Nat.max k args.length) (Args.toArray ++ Array.replicate (k - Args.toArray.size) undef) := by
  have hl := hv.length
  refine ⟨?_, fun t v ht => ?_⟩
  · simp only [Array.size_append, List.size_toArray, Array.size_replicate, hl]
    simp only [Nat.max_def]
    split <;> omega
  · obtain ⟨V, h1, h2⟩ := hv.get (fillCells_nil ht)
    have hlt := (List.getElem?_eq_some_iff.1 h1).1
    exact ⟨V, by rw [Array.getElem?_append_left (by simpa using hlt)]; simpa using h1, h2⟩

variable {draw : CallA → Nat → List Oper → St → Option (X × St)}

theorem endD_sound (hE : EnvOK E P) {fn : Func} {f : FuncId} (hfn : P.funcs[f]? = some fn) {c₀ : Frame} {cs₀ cs' : List Frame} {s : St} {u' : Um} {h' : Heap} (hs : SR E base n c₀ cs₀ γ s a cs' w)
    (hk : kindOf s.u = .deferred) (he : endD E fn s = some (u', h')) : h' = s.h ∧ ∃ m' V, MS γ u' m' ∧ cs' = { c₀ with mode := m' } :: cs₀ ∧ a.defers = [] ∧ (results fn a.tmps).run P w = .ok V w := by
  unfold endD at he
  split at he
  · rename_i hds
    split at he
    · cases he
    · rename_i v hv
      cases he
      obtain ⟨V, h1, h2⟩ := resV_sound hE hs.f hs.h hv
      have hd := hs.d
      rw [hds] at hd
      simp only [DS] at hd
      have hc := hs.c
      refine ⟨rfl, ?_⟩
      cases hu : s.u with
      | none => rw [hu] at hk; cases hk
      | ret =>
        rw [hu] at hc
        exact ⟨.returning, V, rfl, hc, hd, h1⟩
      | pan v r =>
        rw [hu] at hc
        obtain ⟨Q, hQ, hc⟩ := hc
        exact ⟨_, V, ⟨Q, hQ, rfl⟩, hc, hd, h1⟩
  · cases he

theorem MS.kind {u : Um} {m : FrameMode} (hm : MS γ u m) : kindOf u = .deferred := by
  cases u with
  | none => exact hm.elim
  | ret => rfl
  | pan v r => rfl

theorem MS.cs {u : Um} {m : FrameMode} (hm : MS γ u m) {c₀ : Frame} (hc : c₀.mode = m) (cs : List Frame) : CS γ c₀ cs (c₀ :: cs) u := by
  have key : ∀ m', c₀.mode = m' → c₀ = { c₀ with mode := m' } := fun m' e => by subst e; rfl
  cases u with
  | none => exact hm.elim
  | ret =>
    simp only [MS] at hm
    show c₀ :: cs = _
    rw [← key _ (hc.trans hm)]
  | pan v r =>
    obtain ⟨V, hV, hm⟩ := hm
    refine ⟨V, hV, ?_⟩
    rw [← key _ (hc.trans hm)]

theorem bodyD_sound (hE : EnvOK E P) {call : CallA} (hcall : CallOK E P base call) (hdraw : ∀ n, DrawOK E P base n (draw call n)) : CallDOK E P base (bodyD E draw call) := by
  intro f args u h u' h' hr γ w m Args hH hv hm c₀ cs hcm
  unfold bodyD at hr
  split at hr
  · cases hr
  · rename_i fn hfn
    have hf := hE.fns f fn hfn
    split at hr
    · cases hr
    · rename_i c hb
      let b : Frame := { (default : Frame) with fn := f, kind := .deferred }
      have henter : Frame.enter P f Args.toArray .deferred =
          b.at { tmps := Args.toArray ++ Array.replicate (fn.ntmps - Args.toArray.size) undef, defers := [] } [.code c] := by
        simp [Frame.enter, Frame.at, hf, hb, b]
      have hs : SR E base (Nat.max fn.ntmps args.length) c₀ cs γ { F := frame0 args, h, u, ds := [] } { tmps := Args.toArray ++ Array.replicate (fn.ntmps - Args.toArray.size) undef, defers := [] } (c₀ :: cs) w :=
        ⟨frame0_sound hv fn.ntmps, hH, hm.cs hcm cs, rfl⟩
      have hgo := fun r hr => code_sound (b := b) (k := []) hE hcall (hdraw (Nat.max fn.ntmps args.length)) c hs (show b.kind = kindOf u by rw [hm.kind]) (r := r) hr
      simp only at hr
      split at hr
      · rename_i s hcode
        obtain ⟨γ', a', cs', w', h1, h2, h3, h4⟩ := (hgo _ hcode).normal
        obtain ⟨rfl, m', V, g1, rfl, g3, g4⟩ := endD_sound hE hf h1 (by rw [h3]; exact hm.kind) hr
        rw [← henter] at h4
        exact ⟨.returned V, m', w', { b.at a' [] with mode := .returning }, ⟨γ', V, rfl, g1, h2, h1.h⟩, Steps.trans h4 (.one step_end), rfl, rfl, g3, fn, hf, g4⟩
      · rename_i s hcode
        obtain ⟨γ', e, a', cs', w', h0, h1, h2, h3, h4⟩ := hgo _ hcode
        simp only [XR] at h0; subst h0
        obtain ⟨rfl, m', V, g1, rfl, g3, g4⟩ := endD_sound hE hf h1 (by rw [h3]; exact hm.kind) hr
        obtain ⟨todo, h4⟩ := h4
        rw [← henter] at h4
        exact ⟨.returned V, m', w', { b.at a' todo with mode := .returning }, ⟨γ', V, rfl, g1, h2, h1.h⟩, h4, rfl, rfl, g3, fn, hf, g4⟩
      · cases hr

theorem body_sound (hE : EnvOK E P) {call : CallA} (hcall : CallOK E P base call) (hdraw : ∀ n, DrawOK E P base n (draw call n)) : CallOK E P base (body E draw call) := by
  intro f args h r hr γ w Args hH hv cs
  unfold body at hr
  split at hr
  · cases hr
  · rename_i fn hfn
    have hf := hE.fns f fn hfn
    split at hr
    · cases hr
    · rename_i c hb
      let b : Frame := { (default : Frame) with fn := f, kind := .normal }
      have henter : Frame.enter P f Args.toArray .normal =
          b.at { tmps := Args.toArray ++ Array.replicate (fn.ntmps - Args.toArray.size) undef, defers := [] } [.code c] := by
        simp [Frame.enter, Frame.at, hf, hb, b]
      have hs : SR E base (Nat.max fn.ntmps args.length) default cs γ { F := frame0 args, h, u := .none, ds := [] } { tmps := Args.toArray ++ Array.replicate (fn.ntmps - Args.toArray.size) undef, defers := [] } cs w :=
        ⟨frame0_sound hv fn.ntmps, hH, rfl, rfl⟩
      have hgo := fun r hr => code_sound (b := b) (k := []) hE hcall (hdraw (Nat.max fn.ntmps args.length)) c hs (show b.kind = kindOf .none from rfl) (r := r) hr
      have hD := bodyD_sound hE hcall hdraw
      have hcs : ∀ {γ' : Gam} {s : St} {a' : Act} {cs' : List Frame} {w' : World}, SR E base (Nat.max fn.ntmps args.length) default cs γ' s a' cs' w' → kindOf s.u = kindOf .none → cs' = cs := fun {γ' s a' cs' w'} h1 h2 => by
        have hc := h1.c
        cases hu : s.u with
        | none => rw [hu] at hc; exact hc
        | ret => rw [hu] at h2; cases h2
        | pan v r => rw [hu] at h2; cases h2
      simp only at hr
      split at hr
      · rename_i s hcode
        obtain ⟨γ', a', cs', w', h1, h2, h3, h4⟩ := (hgo _ hcode).normal
        have := hcs h1 h3; subst this
        rw [← henter] at h4
        have hlv := leave_sound hE hD s.ds h1.f h1.h h1.d (show MS γ' .ret .returning from rfl) h2 hr
        obtain ⟨e', w'', fr', hR, hs', hfn', hl⟩ := leaves_steps a'.defers .returning w' { b.at a' [] with mode := .returning } cs' rfl rfl rfl hf rfl hlv
        exact ⟨e', w'', fr', hR, Comes.of_steps (Steps.trans h4 (.one step_end)) hs', hfn', hl⟩
      · rename_i s hcode
        obtain ⟨γ', e, a', cs', w', h0, h1, h2, h3, h4⟩ := hgo _ hcode
        simp only [XR] at h0; subst h0
        have := hcs h1 h3; subst this
        obtain ⟨todo, h4⟩ := h4
        rw [← henter] at h4
        have hlv := leave_sound hE hD s.ds h1.f h1.h h1.d (show MS γ' .ret .returning from rfl) h2 hr
        obtain ⟨e', w'', fr', hR, hs', hfn', hl⟩ := leaves_steps a'.defers .returning w' { b.at a' todo with mode := .returning } cs' rfl rfl rfl hf rfl hlv
        exact ⟨e', w'', fr', hR, Comes.of_steps h4 hs', hfn', hl⟩
      · rename_i v s hcode
        obtain ⟨γ', e, a', cs', w', h0, h1, h2, h3, h4⟩ := hgo _ hcode
        obtain ⟨V, hV, rfl⟩ := h0
        have := hcs h1 h3; subst this
        obtain ⟨todo, h4⟩ := h4
        rw [← henter] at h4
        have hlv := leave_sound hE hD s.ds h1.f h1.h h1.d (show MS γ' (.pan v false) (.panicking [{ v := V, recovered := false }]) from ⟨V, hV, rfl⟩) h2 hr
        obtain ⟨e', w'', fr', hR, hs', hfn', hl⟩ := leaves_steps a'.defers (.panicking [{ v := V, recovered := false }]) w' { b.at a' todo with mode := .panicking [{ v := V, recovered := false }] } cs' rfl rfl rfl hf rfl hlv
        exact ⟨e', w'', fr', hR, Comes.of_steps h4 hs', hfn', hl⟩
      · cases hr

theorem run_sound (hE : EnvOK E P) (hdraw : ∀ call, CallOK E P base call → ∀ n, DrawOK E P base n (draw call n)) : ∀ d, CallOK E P base (run E draw d)
  | 0 => fun f args h r hr => by simp [run] at hr
  | d + 1 => by
    have ih := run_sound hE hdraw d
    exact body_sound hE ih (hdraw _ ih)
end
end Go.Vai
