/- V2: part of the proof (own work of this claim). -/
import Derived.Test.YtlhofngbhhdioaaGreatDoorV1
import Derived.WalkLawsBesides
import Derived.IntWalk
import Derived.Lib.Strings
import Derived.Laws.BytesString
import Derived.MapKept
set_option linter.unusedVariables false
set_option linter.unusedSimpArgs false
set_option linter.deprecated false
/- How the interpreter's heap and frames stand for the model's world and frames. -/
namespace Go.Vai
open Go

/-- The tables of the environment are the program's. -/
structure EnvOK (E : Env) (P : Program) : Prop where
  tys : ∀ t i, E.tys.get t = some i → P.info? t = some i
  fns : ∀ f fn, E.fns.get f = some fn → P.funcs[f]? = some fn
  call : ∀ f fn c, E.fns.get f = some fn → fn.body = some c → ∀ args w, (callFunc f args).run P w = .ok (.enter f args) w
  ext : ∀ f fn k args v V γ w, E.fns.get f = some fn → fn.body = none → E.ext.get f = some k → ext k args = some v → RVs γ args V →
    ∃ U, (callFunc f V.toArray).run P w = .ok (.value U) w ∧ RV γ v U
  eqs : ∀ t, E.eqs.get t = some () → P.eqGuardType P.depth t = false ∧ P.stoodInHeld t = false
  lies : ∀ e o u, liesIn e o u E.lies = true → liesAt P P.depth e 1 o u 1 = true
  mixed : P.follows .mixedOrders = true

section
variable {E : Env} {P : Program}

theorem EnvOK.und (hE : EnvOK E P) {t : Nat} {d : TypeDesc} (h : E.und t = some d) : P.underlying t = some d := by
  unfold Env.und at h
  split at h
  · cases h
  · rename_i i hi
    have h1 := hE.tys t i hi
    unfold Program.underlying
    rw [h1]
    obtain ⟨desc, str, size, bytes, hp, al, fa, zero, cmp, ms⟩ := i
    cases desc <;> simp only at h ⊢ <;> first
      | (split at h
         · cases h
         · rename_i j hj
           rw [hE.tys _ j hj]; exact h)
      | exact h

theorem EnvOK.size (hE : EnvOK E P) {t n : Nat} (h : E.size t = some n) : ∃ i, P.info? t = some i ∧ i.size = n := by
  unfold Env.size at h
  split at h
  · cases h
  · rename_i i hi
    exact ⟨i, hE.tys t i hi, by simpa using h⟩

theorem EnvOK.bytes_ (hE : EnvOK E P) {t n : Nat} (h : E.bytes t = some n) : ∃ i, P.info? t = some i ∧ i.bytes = n := by
  unfold Env.bytes at h
  split at h
  · cases h
  · rename_i i hi
    exact ⟨i, hE.tys t i hi, by simpa using h⟩

theorem EnvOK.zero (hE : EnvOK E P) {t : Nat} {z : AV} (h : E.zero t = some z) : ∃ i Z, P.info? t = some i ∧ i.zero = some Z ∧ ofValue Z = some z := by
  unfold Env.zero at h
  split at h
  · cases h
  · rename_i i hi
    split at h
    · cases h
    · rename_i Z hZ
      exact ⟨i, Z, hE.tys t i hi, hZ, h⟩

theorem run_underlying' {t : Nat} {d : TypeDesc} (h : P.underlying t = some d) (w : World) : (underlying t).run P w = .ok d w := by
  unfold underlying; simp [h]
theorem run_typeInfo' {t : Nat} {i : TypeInfo} (h : P.info? t = some i) (w : World) : (typeInfo t).run P w = .ok i w := by
  unfold typeInfo; simp [h]
theorem run_sizeOf' {t : Nat} {i : TypeInfo} (h : P.info? t = some i) (w : World) : (sizeOf t).run P w = .ok i.size w := by
  unfold sizeOf; simp [run_typeInfo' h]
theorem run_zeroValue' {t : Nat} {i : TypeInfo} {Z : Value} (h : P.info? t = some i) (hz : i.zero = some Z) (w : World) : (zeroValue t).run P w = .ok Z w := by
  unfold zeroValue; simp [run_typeInfo' h, hz]

theorem EnvOK.run_und (hE : EnvOK E P) {t : Nat} {d : TypeDesc} (h : E.und t = some d) (w : World) : (underlying t).run P w = .ok d w := run_underlying' (hE.und h) w
theorem EnvOK.run_size (hE : EnvOK E P) {t n : Nat} (h : E.size t = some n) (w : World) : (sizeOf t).run P w = .ok n w := by
  obtain ⟨i, hi, rfl⟩ := hE.size h
  exact run_sizeOf' hi w

theorem EnvOK.run_agg (hE : EnvOK E P) {t : Nat} {b : Bool} (h : E.agg t = some b) (w : World) : (isAgg t).run P w = .ok b w := by
  unfold Env.agg at h
  unfold isAgg
  split at h
  · cases h
  · rename_i fs hu; simp at h; subst h; simp [hE.run_und hu]
  · rename_i n e hu; simp at h; subst h; simp [hE.run_und hu]
  · rename_i d h1 h2 hu
    simp at h; subst h
    simp only [Sem.run_bind, hE.run_und hu, Result.andThen_ok]
    cases d <;> first | rfl | exact absurd rfl (h1 _) | exact absurd rfl (h2 _ _)
end

/-- The cells of a value of the model, as a list. -/
theorem cells_agg (vs : Array Value) : (Value.agg vs).cells = vs := rfl

theorem RV.cells {γ : Gam} : ∀ {v : AV} {V : Value}, RV γ v V → RVs γ (vcells v) V.cells.toList
  | .agg cs, V, ⟨vs, hv, hV⟩ => by subst hV; simpa [vcells, Value.cells] using hv
  | .b x, V, h => by simp only [RV] at h; subst h; exact ⟨_, [], rfl, rfl, rfl⟩
  | .n k x, V, h => by simp only [RV] at h; subst h; exact ⟨_, [], rfl, rfl, rfl⟩
  | .s bs, V, h => by obtain ⟨hV, hb⟩ := h; subst hV; exact ⟨_, [], ⟨rfl, hb⟩, rfl, rfl⟩
  | .p i o, V, ⟨B, e, hV⟩ => by subst hV; exact ⟨_, [], ⟨B, e, rfl⟩, rfl, rfl⟩
  | .gp g o, V, h => by simp only [RV] at h; subst h; exact ⟨_, [], rfl, rfl, rfl⟩
  | .pnil, V, h => by simp only [RV] at h; subst h; exact ⟨_, [], rfl, rfl, rfl⟩
  | .sl i o len (.known c), V, ⟨B, e, hV⟩ => by subst hV; exact ⟨_, [], ⟨B, e, rfl⟩, rfl, rfl⟩
  | .sl i o len (.rest c), V, ⟨B, e, hV, hl⟩ => by subst hV; exact ⟨_, [], ⟨B, e, rfl, hl⟩, rfl, rfl⟩
  | .snil, V, h => by simp only [RV] at h; subst h; exact ⟨_, [], rfl, rfl, rfl⟩
  | .m i, V, ⟨B, e, hV⟩ => by subst hV; exact ⟨_, [], ⟨B, e, rfl⟩, rfl, rfl⟩
  | .mnil, V, h => by simp only [RV] at h; subst h; exact ⟨_, [], rfl, rfl, rfl⟩
  | .fn f a c, V, ⟨as, cs, ha, hc, hV⟩ => by subst hV; exact ⟨_, [], ⟨as, cs, ha, hc, rfl⟩, rfl, rfl⟩
  | .fnil, V, h => by simp only [RV] at h; subst h; exact ⟨_, [], rfl, rfl, rfl⟩
  | .iface t v, V, ⟨U, hu, hV⟩ => by subst hV; exact ⟨_, [], ⟨U, hu, rfl⟩, rfl, rfl⟩
  | .inil, V, h => by simp only [RV] at h; subst h; exact ⟨_, [], rfl, rfl, rfl⟩
  | .tup cs, V, ⟨vs, hv, hV⟩ => by subst hV; exact ⟨_, [], ⟨vs, hv, rfl⟩, rfl, rfl⟩

theorem RV.scalar {γ : Gam} : ∀ {v : AV} {V : Value}, RV γ v V → scalar v = true → V.oneCell' = true
  | .agg cs, V, _, h => by simp [Vai.scalar] at h
  | .tup cs, V, _, h => by simp [Vai.scalar] at h
  | .b x, V, h, _ => by simp only [RV] at h; subst h; rfl
  | .n k x, V, h, _ => by simp only [RV] at h; subst h; rfl
  | .s bs, V, ⟨h, _⟩, _ => by subst h; rfl
  | .p i o, V, ⟨B, e, h⟩, _ => by subst h; rfl
  | .gp g o, V, h, _ => by simp only [RV] at h; subst h; rfl
  | .pnil, V, h, _ => by simp only [RV] at h; subst h; rfl
  | .sl i o len (.known c), V, ⟨B, e, h⟩, _ => by subst h; rfl
  | .sl i o len (.rest c), V, ⟨B, e, h, _⟩, _ => by subst h; rfl
  | .snil, V, h, _ => by simp only [RV] at h; subst h; rfl
  | .m i, V, ⟨B, e, h⟩, _ => by subst h; rfl
  | .mnil, V, h, _ => by simp only [RV] at h; subst h; rfl
  | .fn f a c, V, ⟨as, cs, _, _, h⟩, _ => by subst h; rfl
  | .fnil, V, h, _ => by simp only [RV] at h; subst h; rfl
  | .iface t v, V, ⟨U, _, h⟩, _ => by subst h; rfl
  | .inil, V, h, _ => by simp only [RV] at h; subst h; rfl

/-- A row of cells of the model, read at the place where a block lies. -/
def RC (γ : Gam) (off : Nat) (cs : Tr AV) (arr : Array Value) : Prop :=
  ∀ j v, cs.get j = some v → ∃ V, arr[off + j]? = some V ∧ RV γ v V

/-- A map's entries. -/
def RE (γ : Gam) (es : List (AV × AV × Nat)) (ms : List MapEntry) : Prop :=
  match es, ms with
  | [], [] => True
  | (k, v, b) :: es, m :: ms => RV γ k m.key ∧ RV γ v m.val ∧ m.born = b ∧ RE γ es ms
  | _, _ => False

/-- What an abstract block stands for. -/
def RB (γ : Gam) (B : Binf) (w : World) : Blk → Prop
  | .cells elem cs n grow fz ish => ∃ arr fr, w.heap[B.block]? = some (.cells arr elem fr) ∧ RC γ B.off cs arr ∧
      (∀ j, B.off + fz ≤ j → j < arr.size → ¬ (fr.1 ≤ j ∧ j < fr.2)) ∧ (ish = false → fr.2 ≤ B.off + fz) ∧
      (match grow with
       | none => B.off = 0 ∧ arr.size = n
       | some sz => B.off + B.cap * sz ≤ arr.size)
  | .map es clock => ∃ ms, w.heap[B.block]? = some (.map ms clock) ∧ RE γ es ms.toList
  | .iter bs pos => w.heap[B.block]? = some (.stringIter (mkBytes bs) pos) ∧ (∀ c ∈ bs, c < 256) ∧ B.off = 0

/-- The interpreter's heap stands for (a part of) the world; 'base': blocks below are none of its own; what the environment says of package-level variables holds. -/
structure RH (E : Env) (base : Nat) (γ : Gam) (h : Heap) (w : World) : Prop where
  fresh : ∀ i, h.nx ≤ i → γ i = none
  blk : ∀ i A, h.bl.get i = some A → ∃ B, γ i = some B ∧ base ≤ B.block ∧ RB γ B w A
  inj : ∀ i j A A' B B', h.bl.get i = some A → h.bl.get j = some A' → γ i = some B → γ j = some B' → B.block = B'.block → i = j
  low : base ≤ w.heap.size
  glob : ∀ g o v, E.glob g o = some v → g < base ∧ ∃ V, w.cell? ⟨g, o, none⟩ = some V ∧ ofValue V = some v

/-- Is a block of the model one of those that the heap stands for? -/
def Owns (γ : Gam) (h : Heap) (B : Nat) : Prop := ∃ i A b, h.bl.get i = some A ∧ γ i = some b ∧ b.block = B

/-- What a step may do. -/
structure FC (γ : Gam) (h : Heap) (w : World) (γ' : Gam) (h' : Heap) (w' : World) : Prop where
  le : γ.le γ'
  nx : h.nx ≤ h'.nx
  new : ∀ i b, γ' i = some b → γ i = none → h.nx ≤ i ∧ i < h'.nx
  size : w.heap.size ≤ w'.heap.size
  os : w'.os = w.os
  tape : w'.tape = w.tape
  output : w'.output = w.output
  keep : ∀ B, B < w.heap.size → ¬ Owns γ h B → w'.heap[B]? = w.heap[B]?
  foot : ∀ B, Owns γ' h' B → Owns γ h B ∨ w.heap.size ≤ B

theorem FC.refl (γ : Gam) (h : Heap) (w : World) : FC γ h w γ h w :=
  ⟨γ.le_refl, Nat.le_refl _, fun i b h1 h2 => (by rw [h1] at h2; cases h2), Nat.le_refl _, rfl, rfl, rfl, fun _ _ _ => rfl, fun _ h => .inl h⟩

theorem FC.trans {γ γ₁ γ₂ : Gam} {h h₁ h₂ : Heap} {w w₁ w₂ : World} (a : FC γ h w γ₁ h₁ w₁) (b : FC γ₁ h₁ w₁ γ₂ h₂ w₂) : FC γ h w γ₂ h₂ w₂ where
  le := Gam.le_trans a.le b.le
  nx := Nat.le_trans a.nx b.nx
  new := fun i x h1 h2 => by
    cases e : γ₁ i with
    | none =>
      have := b.new i x h1 e
      exact ⟨Nat.le_trans a.nx this.1, this.2⟩
    | some y =>
      have := a.new i y e h2
      exact ⟨this.1, Nat.lt_of_lt_of_le this.2 b.nx⟩
  size := Nat.le_trans a.size b.size
  os := b.os.trans a.os
  tape := b.tape.trans a.tape
  output := b.output.trans a.output
  keep := fun B hB ho => by
    have h1 : ¬ Owns γ₁ h₁ B := fun h1 => (a.foot B h1).elim ho (fun h2 => by omega)
    rw [b.keep B (Nat.lt_of_lt_of_le hB a.size) h1, a.keep B hB ho]
  foot := fun B hB => by
    rcases b.foot B hB with h1 | h1
    · exact a.foot B h1
    · exact .inr (Nat.le_trans a.size h1)

theorem FC.drew (γ : Gam) (h : Heap) (w : World) : FC γ h w γ h w.drew :=
  ⟨γ.le_refl, Nat.le_refl _, fun i b h1 h2 => (by rw [h1] at h2; cases h2), Nat.le_refl _, rfl, rfl, rfl, fun _ _ _ => rfl, fun _ h => .inl h⟩

theorem RC.mono {γ γ' : Gam} (h : γ.le γ') {off : Nat} {cs : Tr AV} {arr : Array Value} (r : RC γ off cs arr) : RC γ' off cs arr :=
  fun j v hj => let ⟨V, h1, h2⟩ := r j v hj; ⟨V, h1, h2.mono h⟩
theorem RE.mono {γ γ' : Gam} (h : γ.le γ') : ∀ {es : List (AV × AV × Nat)} {ms : List MapEntry}, RE γ es ms → RE γ' es ms
  | [], [], r => trivial
  | (k, v, b) :: es, m :: ms, r => by
    obtain ⟨h1, h2, h3, h4⟩ := r
    exact ⟨h1.mono h, h2.mono h, h3, RE.mono h h4⟩
  | [], _ :: _, r => r.elim
  | _ :: _, [], r => by simp [RE] at r

/-- A block that has not been touched. -/
theorem RB.keep {γ γ' : Gam} (h : γ.le γ') {B : Binf} {w w' : World} (hw : w'.heap[B.block]? = w.heap[B.block]?) : ∀ {A : Blk}, RB γ B w A → RB γ' B w' A
  | .cells elem cs n grow fz ish, ⟨arr, fr, h1, h2, h3⟩ => ⟨arr, fr, hw.trans h1, h2.mono h, h3⟩
  | .map es clock, ⟨ms, h1, h2⟩ => ⟨ms, hw.trans h1, h2.mono h⟩
  | .iter bs pos, ⟨h1, h2⟩ => ⟨hw.trans h1, h2⟩

theorem RB.lt {γ : Gam} {B : Binf} {w : World} : ∀ {A : Blk}, RB γ B w A → B.block < w.heap.size
  | .cells elem cs n grow fz ish, ⟨arr, fr, h1, _⟩ => (Array.getElem?_eq_some_iff.1 h1).1
  | .map es clock, ⟨ms, h1, _⟩ => (Array.getElem?_eq_some_iff.1 h1).1
  | .iter bs pos, ⟨h1, _⟩ => (Array.getElem?_eq_some_iff.1 h1).1

section
variable {E : Env} {base : Nat}

theorem RH.drew {γ : Gam} {h : Heap} {w : World} (r : RH E base γ h w) : RH E base γ h w.drew :=
  ⟨r.fresh, fun i A hi => let ⟨B, h1, h2, h3⟩ := r.blk i A hi; ⟨B, h1, h2, h3.keep γ.le_refl rfl⟩, r.inj, r.low, r.glob⟩

/-- A new block of the interpreter's own. -/
theorem RH.alloc {γ : Gam} {h : Heap} {w : World} (r : RH E base γ h w) {o : Obj} {A : Blk} {B : Binf} (hB : B.block = w.heap.size)
    (hA : ∀ γ', γ.le γ' → RB γ' B (w.alloc o) A) :
    ∃ γ', γ' h.nx = some B ∧ FC γ h w γ' (h.alloc A) (w.alloc o) ∧ RH E base γ' (h.alloc A) (w.alloc o) := by
  have hle : γ.le (fun i => if i = h.nx then some B else γ i) := fun i b e => by
    by_cases hi : i = h.nx
    · subst hi; rw [r.fresh h.nx (Nat.le_refl _)] at e; cases e
    · simp [hi, e]
  have hsz : (w.alloc o).heap.size = w.heap.size + 1 := by simp
  have hold : ∀ k, k < w.heap.size → (w.alloc o).heap[k]? = w.heap[k]? := fun k hk => by
    simp only [World.alloc, Array.getElem?_push]; rw [if_neg (by omega)]
  have hget : ∀ i A', (h.alloc A).bl.get i = some A' → (i = h.nx ∧ A' = A) ∨ (i ≠ h.nx ∧ h.bl.get i = some A') := fun i A' hi => by
    simp only [Heap.alloc, Tr.get_put] at hi
    split at hi
    · rename_i e; exact .inl ⟨e, by simpa using hi.symm⟩
    · rename_i e; exact .inr ⟨e, hi⟩
  have hlt : ∀ i A' b, h.bl.get i = some A' → γ i = some b → b.block < w.heap.size := fun i A' b hi hb => by
    obtain ⟨B', h1, _, h3⟩ := r.blk i A' hi
    rw [hb] at h1; cases h1; exact h3.lt
  refine ⟨fun i => if i = h.nx then some B else γ i, by simp, ⟨hle, by simp [Heap.alloc], fun i b h1 h2 => ?_, by omega, rfl, rfl, rfl, fun k hk _ => hold k hk, fun k hk => ?_⟩, ⟨fun i hi => ?_, fun i A' hi => ?_, fun i j A1 A2 B1 B2 hi hj hb1 hb2 hbe => ?_, by have := r.low; omega, fun g o' v hv => ?_⟩⟩
  · by_cases hi : i = h.nx
    · subst hi; simp [Heap.alloc]
    · simp only [hi, if_false] at h1; rw [h1] at h2; cases h2
  · obtain ⟨i, A', b, h1, h2, h3⟩ := hk
    rcases hget i A' h1 with ⟨rfl, rfl⟩ | ⟨hne, hi⟩
    · simp at h2; subst h2; right; omega
    · simp only [hne, if_false] at h2
      exact .inl ⟨i, A', b, hi, h2, h3⟩
  · simp only [Heap.alloc] at hi
    have : i ≠ h.nx := by omega
    simp only [this, if_false]
    exact r.fresh i (by omega)
  · rcases hget i A' hi with ⟨rfl, rfl⟩ | ⟨hne, hi'⟩
    · exact ⟨B, by simp, by have := r.low; omega, hA _ hle⟩
    · obtain ⟨B', h1, h2, h3⟩ := r.blk i A' hi'
      exact ⟨B', by simp [hne, h1], h2, h3.keep hle (hold _ h3.lt)⟩
  · rcases hget i A1 hi with ⟨rfl, rfl⟩ | ⟨hne, hi'⟩
    · rcases hget j A2 hj with ⟨rfl, rfl⟩ | ⟨hne', hj'⟩
      · rfl
      · simp at hb1; subst hb1
        simp only [hne', if_false] at hb2
        have := hlt j A2 B2 hj' hb2
        omega
    · simp only [hne, if_false] at hb1
      rcases hget j A2 hj with ⟨rfl, rfl⟩ | ⟨hne', hj'⟩
      · simp at hb2; subst hb2
        have := hlt i A1 B1 hi' hb1
        omega
      · simp only [hne', if_false] at hb2
        exact r.inj i j A1 A2 B1 B2 hi' hj' hb1 hb2 hbe
  · obtain ⟨h1, V, h2, h3⟩ := r.glob g o' v hv
    refine ⟨h1, V, ?_, h3⟩
    rw [World.cell?_alloc_lt _ _ _ (by have := r.low; exact Nat.lt_of_lt_of_le h1 this)]
    exact h2

/-- A block is written. -/
theorem RH.write {γ : Gam} {h : Heap} {w w' : World} (r : RH E base γ h w) {i : Nat} {A A' : Blk} {B : Binf} (hi : h.bl.get i = some A) (hB : γ i = some B)
    (hos : w'.os = w.os) (htape : w'.tape = w.tape) (hout : w'.output = w.output) (hsz : w'.heap.size = w.heap.size)
    (hk : ∀ k, k ≠ B.block → w'.heap[k]? = w.heap[k]?) (hA : RB γ B w' A') :
    FC γ h w γ ⟨h.nx, h.bl.put i A'⟩ w' ∧ RH E base γ ⟨h.nx, h.bl.put i A'⟩ w' := by
  have hget : ∀ j A1, (h.bl.put i A').get j = some A1 → (j = i ∧ A1 = A') ∨ (j ≠ i ∧ h.bl.get j = some A1) := fun j A1 hj => by
    simp only [Tr.get_put] at hj
    split at hj
    · rename_i e; exact .inl ⟨e, by simpa using hj.symm⟩
    · rename_i e; exact .inr ⟨e, hj⟩
  have hlive : ∀ j A1, (h.bl.put i A').get j = some A1 → ∃ A0, h.bl.get j = some A0 := fun j A1 hj => by
    rcases hget j A1 hj with ⟨rfl, _⟩ | ⟨_, h1⟩
    · exact ⟨A, hi⟩
    · exact ⟨A1, h1⟩
  obtain ⟨B0, hB0, hbase, hRB⟩ := r.blk i A hi
  rw [hB] at hB0; cases hB0
  refine ⟨⟨γ.le_refl, Nat.le_refl _, fun j b h1 h2 => (by rw [h1] at h2; cases h2), by omega, hos, htape, hout, fun k hk' ho => ?_, fun k hk' => ?_⟩, ⟨r.fresh, fun j A1 hj => ?_, fun j j' A1 A2 B1 B2 hj hj' h1 h2 h3 => ?_, by have := r.low; omega, fun g o v hv => ?_⟩⟩
  · exact hk k (fun e => ho ⟨i, A, B, hi, hB, e.symm⟩)
  · obtain ⟨j, A1, b, h1, h2, h3⟩ := hk'
    obtain ⟨A0, hA0⟩ := hlive j A1 h1
    exact .inl ⟨j, A0, b, hA0, h2, h3⟩
  · rcases hget j A1 hj with ⟨rfl, rfl⟩ | ⟨hne, h1⟩
    · exact ⟨B, hB, hbase, hA⟩
    · obtain ⟨B1, h2, h3, h4⟩ := r.blk j A1 h1
      refine ⟨B1, h2, h3, h4.keep γ.le_refl (hk _ fun e => hne ?_)⟩
      exact r.inj j i A1 A B1 B h1 hi h2 hB e
  · obtain ⟨A01, hA01⟩ := hlive j A1 hj
    obtain ⟨A02, hA02⟩ := hlive j' A2 hj'
    exact r.inj j j' A01 A02 B1 B2 hA01 hA02 h1 h2 h3
  · obtain ⟨h1, V, h2, h3⟩ := r.glob g o v hv
    refine ⟨h1, V, ?_, h3⟩
    unfold World.cell? at h2 ⊢
    simp only at h2 ⊢
    rw [hk g (by omega)]
    exact h2
end
end Go.Vai

/- The operations that leave memory alone yield what the interpreter says. -/
namespace Go.Vai
open Go

/-- How an abstract frame stands for a frame's temporaries (n of them). -/
structure RF (γ : Gam) (F : Tr AV) (n : Nat) (tmps : Array Value) : Prop where
  size : tmps.size = n
  get : ∀ t v, F.get t = some v → ∃ V, tmps[t]? = some V ∧ RV γ v V

theorem RF.mono {γ γ' : Gam} (h : γ.le γ') {F : Tr AV} {n : Nat} {tmps : Array Value} (r : RF γ F n tmps) : RF γ' F n tmps :=
  ⟨r.size, fun t v ht => let ⟨V, h1, h2⟩ := r.get t v ht; ⟨V, h1, h2.mono h⟩⟩

theorem RF.put {γ : Gam} {F F' : Tr AV} {n : Nat} {a : Act} (r : RF γ F n a.tmps) {d : Option Nat} {v : AV} {V : Value} (hv : RV γ v V) (h : putF n F d v = some F') :
    RF γ F' n (a.put d V).tmps := by
  cases d with
  | none => simp [putF] at h; subst h; exact r
  | some d =>
    simp only [putF] at h
    split at h
    · rename_i hlt
      simp at h; subst h
      have hlt : d < n := Nat.le_of_ble_eq_true hlt
      refine ⟨by simp [Act.put, r.size], fun t u ht => ?_⟩
      simp only [Tr.get_put] at ht
      simp only [Act.put]
      by_cases e : t = d
      · subst e
        simp at ht; subst ht
        exact ⟨V, by rw [Array.getElem?_setIfInBounds_self_of_lt (by rw [r.size]; exact hlt)], hv⟩
      · rw [if_neg e] at ht
        obtain ⟨U, h1, h2⟩ := r.get t u ht
        exact ⟨U, by rw [Array.getElem?_setIfInBounds_ne (Ne.symm e)]; exact h1, h2⟩
    · cases h

section
variable {E : Env} {P : Program} {base : Nat} {γ : Gam} {F : Tr AV} {n : Nat} {a : Act} {h : Heap} {w : World}

theorem eval_sound (r : RF γ F n a.tmps) {x : Operand} {v : AV} (hx : eval F x = some v) : RV γ v (a.eval x) := by
  cases x with
  | tmp t =>
    obtain ⟨V, h1, h2⟩ := r.get t v hx
    simp only [Act.eval, Array.getD_eq_getD_getElem?, h1]
    exact h2
  | const c => exact RV.of_value γ c v hx
  | global g => simp only [eval, Option.some.injEq] at hx; subst hx; rfl
  | func f => simp only [eval, Option.some.injEq] at hx; subst hx; exact ⟨[], [], rfl, rfl, rfl⟩

theorem evals_sound (r : RF γ F n a.tmps) : ∀ {xs : List Operand} {vs : List AV}, evals F xs = some vs → RVs γ vs (xs.map a.eval)
  | [], vs, h => by simp [evals] at h; subst h; rfl
  | x :: xs, vs, h => by
    simp only [evals] at h
    split at h
    · cases h
    · rename_i v hv
      split at h
      · cases h
      · rename_i us hus
        simp at h; subst h
        exact ⟨_, _, eval_sound r hv, evals_sound r hus, rfl⟩

/-- Parts of a literal. -/
def RP (γ : Gam) : List (Nat × AV) → List (Nat × Value) → Prop
  | [], l => l = []
  | (i, v) :: vs, l => ∃ V us, RV γ v V ∧ RP γ vs us ∧ l = (i, V) :: us

theorem evalParts_sound (r : RF γ F n a.tmps) : ∀ {xs : List (Nat × Operand)} {vs : List (Nat × AV)}, evalParts F xs = some vs →
    RP γ vs (xs.map fun (i, x) => (i, a.eval x))
  | [], vs, h => by simp [evalParts] at h; subst h; rfl
  | (i, x) :: xs, vs, h => by
    simp only [evalParts] at h
    split at h
    · cases h
    · rename_i v hv
      split at h
      · cases h
      · rename_i us hus
        simp at h; subst h
        exact ⟨_, _, eval_sound r hv, evalParts_sound r hus, rfl⟩

/-! ### Loads -/

theorem loadCells_length {cs : Tr AV} : ∀ {n o : Nat} {vs : List AV}, loadCells cs o n = some vs → vs.length = n
  | 0, o, vs, h => by simp [loadCells] at h; subst h; rfl
  | n + 1, o, vs, h => by
    simp only [loadCells] at h
    split at h
    · cases h
    · split at h
      · cases h
      · rename_i us hus
        simp at h; subst h
        simp [loadCells_length hus]

theorem loadCells_get {cs : Tr AV} : ∀ {n o : Nat} {vs : List AV}, loadCells cs o n = some vs → ∀ j v, vs[j]? = some v → cs.get (o + j) = some v
  | 0, o, vs, h, j, v, hj => by simp [loadCells] at h; subst h; simp at hj
  | n + 1, o, vs, h, j, v, hj => by
    simp only [loadCells] at h
    split at h
    · cases h
    · rename_i u hu
      split at h
      · cases h
      · rename_i us hus
        simp at h; subst h
        cases j with
        | zero => simp at hj; subst hj; simpa using hu
        | succ j =>
          simp at hj
          have := loadCells_get hus j v hj
          rw [show o + (j + 1) = o + 1 + j by omega]; exact this

/-- The cells of a row, as the model's values. -/
theorem RC.list {off : Nat} {cs : Tr AV} {arr : Array Value} (r : RC γ off cs arr) : ∀ {n o : Nat} {vs : List AV}, loadCells cs o n = some vs →
    ∃ Vs : List Value, RVs γ vs Vs ∧ ∀ j V, Vs[j]? = some V → arr[off + o + j]? = some V
  | 0, o, vs, h => by simp [loadCells] at h; subst h; exact ⟨[], rfl, fun j V hj => by simp at hj⟩
  | n + 1, o, vs, h => by
    simp only [loadCells] at h
    split at h
    · cases h
    · rename_i u hu
      split at h
      · cases h
      · rename_i us hus
        simp at h; subst h
        obtain ⟨Vs, h1, h2⟩ := RC.list r hus
        obtain ⟨U, h3, h4⟩ := r o u hu
        refine ⟨U :: Vs, ⟨U, Vs, h4, h1, rfl⟩, fun j V hj => ?_⟩
        cases j with
        | zero => simp at hj; subst hj; simpa using h3
        | succ j =>
          simp at hj
          rw [show off + o + (j + 1) = off + (o + 1) + j by omega]; exact h2 j V hj

theorem cell_of_row {b : Nat} {arr : Array Value} {e : Nat} {fr : Nat × Nat} (hb : w.heap[b]? = some (.cells arr e fr)) (o : Nat) : w.cell? ⟨b, o, none⟩ = arr[o]? := by
  simp [World.cell?, hb]

theorem run_load_cell {ad : Addr} {V : Value} (hc : w.cell? ad = some V) (m : Mode) : (load ad m).run P w = .ok V w := by
  simp [hc]

theorem loadAt_sound (hE : EnvOK E P) (hH : RH E base γ h w) {t : Nat} {x v : AV} {X : Value} (hX : RV γ x X) (hl : loadAt E h t x = some v) :
    ∃ V, (Instr.loadAt t X).run P w = .ok V w ∧ RV γ v V := by
  unfold loadAt at hl
  split at hl
  · rename_i i o
    split at hl
    · rename_i e cs n' gr fz ish hi
      obtain ⟨B, hB, hb0, arr, fr, harr, hRC, _⟩ := hH.blk _ _ hi
      obtain ⟨B', hB', rfl⟩ := hX
      rw [hB] at hB'; cases hB'
      split at hl
      · cases hl
      · rename_i hag
        obtain ⟨V, h1, h2⟩ := hRC o v hl
        refine ⟨V, ?_, h2⟩
        simp only [Instr.loadAt, Instr.sureAddr, loadVar, Sem.run_bind, Sem.run_pure, Result.andThen_ok, hE.run_agg hag]
        simp [cell_of_row harr, h1]
      · rename_i hag
        split at hl
        · cases hl
        · rename_i m hm
          split at hl
          · cases hl
          · rename_i vs hvs
            simp at hl; subst hl
            obtain ⟨Vs, h1, h2⟩ := hRC.list hvs
            refine ⟨.agg Vs.toArray, ?_, Vs, h1, rfl⟩
            have hlen : Vs.length = m := by rw [h1.length, loadCells_length hvs]
            have hrl := run_loadCells_list (P := P) w ⟨B.block, B.off + o, none⟩ Vs (fun j V hj => by
              rw [Addr.add_lit, cell_of_row harr]; exact h2 j V hj)
            rw [hlen] at hrl
            simp only [Instr.loadAt, Instr.sureAddr, loadVar, Sem.run_bind, Sem.run_pure, Result.andThen_ok, hE.run_agg hag]
            simp [hE.run_size hm, hrl]
    · cases hl
  · rename_i g o
    simp only [RV] at hX
    subst hX
    split at hl
    · cases hl
    · rename_i hag
      obtain ⟨_, V, h1, h2⟩ := hH.glob g o v hl
      refine ⟨V, ?_, RV.of_value γ V v h2⟩
      simp only [Instr.loadAt, Instr.sureAddr, loadVar, Sem.run_bind, Sem.run_pure, Result.andThen_ok, hE.run_agg hag]
      simp [h1]
    · rename_i hag
      split at hl
      · cases hl
      · rename_i m hm
        split at hl
        · cases hl
        · rename_i vs hvs
          simp at hl; subst hl
          have key : ∀ (n o : Nat) (vs : List AV), globCells E g o n = some vs → ∃ Vs : List Value, Vs.length = n ∧ RVs γ vs Vs ∧ ∀ j V, Vs[j]? = some V → w.cell? ⟨g, o + j, none⟩ = some V := by
            intro n
            induction n with
            | zero => intro o vs h0; simp [globCells] at h0; subst h0; exact ⟨[], rfl, rfl, fun j V hj => by simp at hj⟩
            | succ n ih =>
              intro o vs h0
              simp only [globCells] at h0
              split at h0
              · cases h0
              · rename_i u hu
                split at h0
                · cases h0
                · rename_i us hus
                  simp at h0; subst h0
                  obtain ⟨Vs, h1, h2, h3⟩ := ih _ _ hus
                  obtain ⟨_, U, h4, h5⟩ := hH.glob g o u hu
                  refine ⟨U :: Vs, by simp [h1], ⟨U, Vs, RV.of_value γ U u h5, h2, rfl⟩, fun j V hj => ?_⟩
                  cases j with
                  | zero => simp at hj; subst hj; simpa using h4
                  | succ j =>
                    simp at hj
                    rw [show o + (j + 1) = o + 1 + j by omega]; exact h3 j V hj
          obtain ⟨Vs, h0, h1, h2⟩ := key _ _ _ hvs
          refine ⟨.agg Vs.toArray, ?_, Vs, h1, rfl⟩
          have hrl := run_loadCells_list (P := P) w ⟨g, o, none⟩ Vs (fun j V hj => by
            rw [Addr.add_lit]; exact h2 j V hj)
          rw [h0] at hrl
          simp only [Instr.loadAt, Instr.sureAddr, loadVar, Sem.run_bind, Sem.run_pure, Result.andThen_ok, hE.run_agg hag]
          simp [hE.run_size hm, hrl]
  · cases hl

/-! ### Numbers and strings -/

theorem beqI_eq (a b : Int) : beqI a b = (a == b) := by
  rw [Bool.eq_iff_iff, beq_iff_eq]
  cases a <;> cases b <;> simp [beqI] <;> omega

theorem ltI_eq (a b : Int) : ltI a b = decide (a < b) := by
  rw [Bool.eq_iff_iff, decide_eq_true_iff]
  cases a <;> cases b <;> simp [ltI, Nat.blt] <;> omega

theorem kindB_eq {a b : IntKind} (h : kindB a b = true) : a = b := by
  cases a <;> cases b <;> simp_all [kindB]

theorem wrap_eq (k : IntKind) (x : Int) : wrap k x = k.wrap x := by
  have h1 : ∀ n : Nat, n ≤ 127 → k.wrap (.ofNat n) = .ofNat n := fun n hn => by
    cases k <;> simp [IntKind.wrap, IntKind.bits, IntKind.signed] <;> omega
  have h2 : ∀ x : Int, -9223372036854775808 ≤ x → x ≤ 9223372036854775807 → IntKind.i64.wrap x = x := fun x h1 h2 => IntWalk.i64_in x ⟨h1, h2⟩
  have hi64 : ∀ x : Int, ∀ b : Bool, (b = true → -9223372036854775808 ≤ x ∧ x ≤ 9223372036854775807) → (match b with | true => x | false => IntKind.i64.wrap x) = IntKind.i64.wrap x := fun x b hb => by
    cases b with
    | false => rfl
    | true => exact (h2 x (hb rfl).1 (hb rfl).2).symm
  have h127 : ∀ n : Nat, ∀ b : Bool, (b = true → n ≤ 127) → ∀ y : Int, y = k.wrap (.ofNat n) → (match b with | true => Int.ofNat n | false => y) = k.wrap (.ofNat n) := fun n b hb y hy => by
    cases b with
    | false => exact hy
    | true => exact (h1 n (hb rfl)).symm
  cases x with
  | ofNat n =>
    simp only [wrap]
    refine h127 n _ (fun hn => Nat.le_of_ble_eq_true hn) _ ?_
    cases k <;> simp only
    refine hi64 _ _ (fun hn => ?_)
    have := Nat.le_of_ble_eq_true hn
    have e : Int.ofNat n = (n : Int) := rfl
    omega
  | negSucc n =>
    simp only [wrap]
    cases k <;> simp only
    refine hi64 _ _ (fun hn => ?_)
    have := Nat.le_of_ble_eq_true hn
    have e : Int.negSucc n = -((n : Int) + 1) := Int.negSucc_eq n
    omega
end
end Go.Vai

/- Arithmetic, strings, equality: they yield what the interpreter says. -/
namespace Go.Vai
open Go

theorem mkBytes_toList (bs : List Nat) : (mkBytes bs).toList = bs.map UInt8.ofNat := by
  rw [ByteArray.toList_eq]; simp [mkBytes]
theorem mkBytes_data (bs : List Nat) : (mkBytes bs).data.toList = bs.map UInt8.ofNat := by simp [mkBytes]
theorem mkBytes_size (bs : List Nat) : (mkBytes bs).size = bs.length := by
  simp [mkBytes, ByteArray.size]

theorem ofNat_inj {a b : Nat} (ha : a < 256) (hb : b < 256) : (UInt8.ofNat a = UInt8.ofNat b) ↔ a = b := by
  constructor
  · intro h
    have := congrArg UInt8.toNat h
    simpa [UInt8.toNat_ofNat', Nat.mod_eq_of_lt, ha, hb] using this
  · rintro rfl; rfl

theorem ofNat_lt {a b : Nat} (ha : a < 256) (hb : b < 256) : (UInt8.ofNat a < UInt8.ofNat b) ↔ a < b := by
  rw [UInt8.lt_iff_toNat_lt]
  simp [UInt8.toNat_ofNat', Nat.mod_eq_of_lt, ha, hb]

theorem beqL_eq : ∀ {x y : List Nat}, (∀ c ∈ x, c < 256) → (∀ c ∈ y, c < 256) → beqL x y = (x.map UInt8.ofNat == y.map UInt8.ofNat)
  | [], [], _, _ => rfl
  | [], b :: y, _, _ => rfl
  | a :: x, [], _, _ => rfl
  | a :: x, b :: y, hx, hy => by
    have ih := beqL_eq (x := x) (y := y) (fun c h => hx c (by simp [h])) (fun c h => hy c (by simp [h]))
    have e := ofNat_inj (hx a (by simp)) (hy b (by simp))
    simp only [beqL, List.map_cons]
    cases hab : Nat.beq a b with
    | true =>
      have : a = b := Nat.eq_of_beq_eq_true hab
      subst this
      simp [ih]
    | false =>
      have : a ≠ b := Nat.ne_of_beq_eq_false hab
      have h2 : ¬ UInt8.ofNat a = UInt8.ofNat b := fun h => this (e.1 h)
      rw [List.cons_beq_cons]
      rw [beq_eq_false_iff_ne.2 h2]; rfl

theorem ltL_eq : ∀ {x y : List Nat}, (∀ c ∈ x, c < 256) → (∀ c ∈ y, c < 256) → ltL x y = Op.bytesLess (x.map UInt8.ofNat) (y.map UInt8.ofNat)
  | [], [], _, _ => rfl
  | [], b :: y, _, _ => rfl
  | a :: x, [], _, _ => rfl
  | a :: x, b :: y, hx, hy => by
    have ih := ltL_eq (x := x) (y := y) (fun c h => hx c (by simp [h])) (fun c h => hy c (by simp [h]))
    have e := ofNat_inj (hx a (by simp)) (hy b (by simp))
    have l := ofNat_lt (hx a (by simp)) (hy b (by simp))
    simp only [ltL, List.map_cons, Op.bytesLess]
    cases hlt : Nat.blt a b with
    | true =>
      have : a < b := Nat.le_of_ble_eq_true hlt
      have h1 : UInt8.ofNat a < UInt8.ofNat b := l.2 this
      simp [h1]
    | false =>
      have : ¬ a < b := fun h => by
        have h2 : Nat.blt a b = true := Nat.ble_eq_true_of_le h
        rw [h2] at hlt; cases hlt
      have h1 : ¬ UInt8.ofNat a < UInt8.ofNat b := fun h => this (l.1 h)
      cases hab : Nat.beq a b with
      | true =>
        have : a = b := Nat.eq_of_beq_eq_true hab
        subst this
        simp [ih]
      | false =>
        have hne : a ≠ b := Nat.ne_of_beq_eq_false hab
        have h2 : ¬ UInt8.ofNat a = UInt8.ofNat b := fun h => hne (e.1 h)
        simp [h1, h2]

section
variable {E : Env} {P : Program} {base : Nat} {γ : Gam} {w : World}

theorem run_binOp_int {op : BinOp} {t : Nat} {k : IntKind} {x y : Int} {v : AV} (h : intOp op k x y = some v) :
    ∃ V, (binOp op t (.int k x) (.int k y)).run P w = .ok V w ∧ RV γ v V := by
  cases op <;> simp only [intOp] at h
  case add => cases h; exact ⟨_, by simp [binOp, Op.intArith]; rfl, by simp [RV, wrap_eq]⟩
  case sub => cases h; exact ⟨_, by simp [binOp, Op.intArith]; rfl, by simp [RV, wrap_eq]⟩
  case mul => cases h; exact ⟨_, by simp [binOp, Op.intArith]; rfl, by simp [RV, wrap_eq]⟩
  case quo =>
    split at h
    · cases h
    · rename_i hb
      cases h
      have hy : ¬ y = 0 := fun e => by rw [beqI_eq, e] at hb; simp at hb
      exact ⟨_, by simp [binOp, Op.intDiv, hy]; rfl, by simp [RV, wrap_eq]⟩
  case rem =>
    split at h
    · cases h
    · rename_i hb
      cases h
      have hy : ¬ y = 0 := fun e => by rw [beqI_eq, e] at hb; simp at hb
      exact ⟨_, by simp [binOp, Op.intDiv, hy]; rfl, by simp [RV]⟩
  case and => cases h; exact ⟨_, by simp [binOp, Op.intBits]; rfl, by simp [RV]⟩
  case or => cases h; exact ⟨_, by simp [binOp, Op.intBits]; rfl, by simp [RV]⟩
  case xor => cases h; exact ⟨_, by simp [binOp, Op.intBits]; rfl, by simp [RV]⟩
  case andNot => cases h; exact ⟨_, by simp [binOp, Op.intBits]; rfl, by simp [RV]⟩
  case eql => cases h; exact ⟨_, by simp [binOp, Op.intCmp]; rfl, by simp [RV, beqI_eq]⟩
  case neq => cases h; exact ⟨_, by simp [binOp, Op.intCmp]; rfl, by simp [RV, beqI_eq, bne]⟩
  case lss => cases h; exact ⟨_, by simp [binOp, Op.intCmp]; rfl, by simp [RV, ltI_eq]⟩
  case leq => cases h; exact ⟨_, by simp [binOp, Op.intCmp]; rfl, by simp [RV, ltI_eq]; by_cases hh : x ≤ y <;> simp [hh] <;> omega⟩
  case gtr => cases h; exact ⟨_, by simp [binOp, Op.intCmp]; rfl, by simp [RV, ltI_eq]⟩
  case geq => cases h; exact ⟨_, by simp [binOp, Op.intCmp]; rfl, by simp [RV, ltI_eq]; by_cases hh : y ≤ x <;> simp [hh] <;> omega⟩
  all_goals cases h

theorem run_binOp_shift {op : BinOp} {t : Nat} {k k' : IntKind} {x y : Int} {v : AV} (ho : op = .shl ∨ op = .shr) (h : shiftOp op k x y = some v) :
    ∃ V, (binOp op t (.int k x) (.int k' y)).run P w = .ok V w ∧ RV γ v V := by
  unfold shiftOp at h
  split at h
  · cases h
  · rename_i m
    have h0 : ¬ (Int.ofNat m < 0) := by have e : Int.ofNat m = (m : Int) := rfl; omega
    have h1 : (Int.ofNat m).toNat = m := rfl
    rcases ho with rfl | rfl <;> cases h
    · exact ⟨_, by simp [binOp, Op.shift, h0, h1]; rfl, by simp [RV, wrap_eq]⟩
    · exact ⟨_, by simp [binOp, Op.shift, h0, h1]; rfl, by simp [RV]⟩

theorem run_binOp_str {op : BinOp} {t : Nat} {x y : List Nat} {v : AV} (hx : ∀ c ∈ x, c < 256) (hy : ∀ c ∈ y, c < 256) (h : strOp op x y = some v) :
    ∃ V, (binOp op t (.string (mkBytes x)) (.string (mkBytes y))).run P w = .ok V w ∧ RV γ v V := by
  cases op <;> simp only [strOp] at h
  case add =>
    split at h
    · rename_i hl
      cases h
      have hl := Nat.le_of_ble_eq_true hl
      have h1 : ¬ (((mkBytes x).size + (mkBytes y).size : Nat) : Int) > IntKind.i64.max := by
        rw [mkBytes_size, mkBytes_size, IntKind.max_i64]; omega
      refine ⟨_, by simp only [binOp, Op.stringOp]; rw [if_neg h1]; rfl, ?_, fun c hc => ?_⟩
      · congr 1
        apply ByteArray.ext
        apply Array.ext'
        simp [mkBytes]
      · rcases List.mem_append.1 hc with h1 | h1
        · exact hx c h1
        · exact hy c h1
    · cases h
  case eql => cases h; exact ⟨_, by simp [binOp, Op.stringOp]; rfl, by simp [RV, beqL_eq hx hy, mkBytes_toList]⟩
  case neq => cases h; exact ⟨_, by simp [binOp, Op.stringOp]; rfl, by simp [RV, beqL_eq hx hy, mkBytes_toList]⟩
  case lss => cases h; exact ⟨_, by simp [binOp, Op.stringOp]; rfl, by simp [RV, ltL_eq hx hy, mkBytes_toList]⟩
  case leq => cases h; exact ⟨_, by simp [binOp, Op.stringOp]; rfl, by simp [RV, ltL_eq hx hy, beqL_eq hx hy, mkBytes_toList]⟩
  case gtr => cases h; exact ⟨_, by simp [binOp, Op.stringOp]; rfl, by simp [RV, ltL_eq hx hy, beqL_eq hx hy, mkBytes_toList]⟩
  case geq => cases h; exact ⟨_, by simp [binOp, Op.stringOp]; rfl, by simp [RV, ltL_eq hx hy, mkBytes_toList]⟩
  all_goals cases h

/-! ### Equality -/

theorem RVs.drop {γ : Gam} : ∀ {v : List AV} {V : List Value} (n : Nat), RVs γ v V → RVs γ (v.drop n) (V.drop n)
  | v, V, 0, h => by simpa using h
  | [], V, n + 1, h => by simp [RVs] at h; subst h; simp [RVs]
  | v :: vs, V, n + 1, h => by
    obtain ⟨U, us, _, hs, rfl⟩ := h
    simpa using RVs.drop n hs
theorem RVs.take {γ : Gam} : ∀ {v : List AV} {V : List Value} (n : Nat), RVs γ v V → RVs γ (v.take n) (V.take n)
  | v, V, 0, h => by simp [RVs]
  | [], V, n + 1, h => by simp [RVs] at h; subst h; simp [RVs]
  | v :: vs, V, n + 1, h => by
    obtain ⟨U, us, hu, hs, rfl⟩ := h
    exact ⟨U, us.take n, hu, RVs.take n hs, by simp⟩

theorem part_sound (hE : EnvOK E P) {t off : Nat} {cs : List AV} {Vs : List Value} (hc : RVs γ cs Vs) {v : AV} (h : part E t cs off = some v) :
    ∃ V, (Go.part t Vs.toArray off).run P w = .ok V w ∧ RV γ v V := by
  unfold Vai.part at h
  split at h
  · cases h
  · rename_i hag
    obtain ⟨V, h1, h2⟩ := hc.get h
    refine ⟨V, ?_, h2⟩
    simp only [Go.part, Sem.run_bind, hE.run_agg hag, Result.andThen_ok]
    simp [h1]
  · rename_i hag
    split at h
    · cases h
    · rename_i n hn
      split at h
      · cases h
      · rename_i hle
        cases h
        refine ⟨.agg (((Vs.drop off).take n).toArray), ?_, _, (hc.drop off).take n, rfl⟩
        simp only [Go.part, Sem.run_bind, hE.run_agg hag, Result.andThen_ok]
        simp only [if_true, Sem.run_bind, hE.run_size hn, Result.andThen_ok, Sem.run_pure]
        congr 2
        apply Array.ext'
        simp

theorem equalFields_sound (hE : EnvOK E P) {d : Nat} {xs ys : List AV} {Xs Ys : List Value} (hx : RVs γ xs Xs) (hy : RVs γ ys Ys)
    (ih : ∀ t x y X Y r, RV γ x X → RV γ y Y → equalIn E d t x y = some r → ∀ D, d ≤ D → (Op.equalIn D t X Y).run P w = .ok r w) (D : Nat) (hD : d ≤ D) :
    ∀ (fs : List Field) (r : Bool), equalFields E (equalIn E d) xs ys fs = some r →
      (do
        for f in fs do
          if f.name ≠ "_" then
            if !(← Op.equalIn D f.type (← Go.part f.type Xs.toArray f.offset) (← Go.part f.type Ys.toArray f.offset)) then return false
        pure true : Sem Bool).run P w = .ok r w
  | [], r, h => by simp [equalFields] at h; subst h; simp
  | f :: fs, r, h => by
    simp only [equalFields] at h
    split at h
    · rename_i hn
      have hn' : f.name = "_" := by simpa using hn
      have := equalFields_sound hE hx hy ih D hD fs r h
      simp only [List.forIn_cons, hn', ne_eq, not_true_eq_false, if_false, bind_assoc, pure_bind]
      exact this
    · rename_i hn
      have hn' : f.name ≠ "_" := by simpa using hn
      split at h
      · cases h
      · rename_i x hxf
        split at h
        · cases h
        · rename_i y hyf
          obtain ⟨X, hX, hX'⟩ := part_sound (w := w) hE hx hxf
          obtain ⟨Y, hY, hY'⟩ := part_sound (w := w) hE hy hyf
          split at h
          · cases h
          · rename_i he
            cases h
            have h1 := ih _ _ _ _ _ _ hX' hY' he D hD
            simp [List.forIn_cons, hn', hX, hY, h1]
          · rename_i he
            have h1 := ih _ _ _ _ _ _ hX' hY' he D hD
            have := equalFields_sound hE hx hy ih D hD fs r h
            simp only [List.forIn_cons, ne_eq, hn', not_false_eq_true, if_true, bind_assoc, pure_bind, Sem.run_bind, hX, hY, h1, Result.andThen_ok] at this ⊢
            simpa using this
end
end Go.Vai

/- Equality of values, binary and unary operations. -/
namespace Go.Vai
open Go
section
variable {E : Env} {P : Program} {base : Nat} {γ : Gam} {w : World}

/-- What equalIn does once it knows the type. -/
def equalBody (d : Nat) (t : TypeId) (u : TypeDesc) (x y : Value) : Sem Bool :=
  match u, x, y with
  | .bool, .bool a, .bool b => pure (a == b)
  | .int _, .int k a, .int k' b => if k = k' then pure (a == b) else stuck "==: kinds differ"
  | .string, .string a, .string b => pure (a == b)
  | .pointer _, .pointer none, .pointer b => pure b.isNone
  | .pointer _, .pointer _, .pointer none => pure false
  | .pointer elem, .pointer (some a), .pointer (some b) => do
      if (← sizeOf elem) ≠ 0 then sameAddr a b
      else if a == b then pure true
      else pure ((← choose .zeroSizeEq) = 1)
  | .interface _, .nilIface, .nilIface => pure true
  | .interface _, .nilIface, .iface _ _ | .interface _, .iface _ _, .nilIface => pure false
  | .struct fields, .agg xs, .agg ys => do
      if (← program).stoodInHeld t then
        unsupported (.noEntry "binop/eql.a struct with addresses of a package that the model stands in for")
      for f in fields do
        if f.name ≠ "_" then
          if !(← Op.equalIn d f.type (← Go.part f.type xs f.offset) (← Go.part f.type ys f.offset)) then return false
      pure true
  | .slice _, .slice none _ _, .slice b _ _ => pure b.isNone
  | .slice _, .slice _ _ _, .slice none _ _ => pure false
  | .map _ _, .map none, .map b => pure b.isNone
  | .map _ _, .map _, .map none => pure false
  | .func _ _ _, .nilFunc, .nilFunc => pure true
  | .func _ _ _, .nilFunc, .func _ _ _ | .func _ _ _, .func _ _ _, .nilFunc => pure false
  | _, _, _ => stuck "?"

/-- Do the type and the values fall under what 'equalBody' speaks of? -/
def eqCase : TypeDesc → Value → Value → Bool
  | .bool, .bool _, .bool _ => true
  | .int _, .int _ _, .int _ _ => true
  | .string, .string _, .string _ => true
  | .pointer _, .pointer _, .pointer _ => true
  | .interface _, .nilIface, .nilIface => true
  | .interface _, .nilIface, .iface _ _ => true
  | .interface _, .iface _ _, .nilIface => true
  | .struct _, .agg _, .agg _ => true
  | .slice _, .slice none _ _, .slice _ _ _ => true
  | .slice _, .slice _ _ _, .slice none _ _ => true
  | .map _ _, .map none, .map _ => true
  | .map _ _, .map _, .map none => true
  | .func _ _ _, .nilFunc, .nilFunc => true
  | .func _ _ _, .nilFunc, .func _ _ _ => true
  | .func _ _ _, .func _ _ _, .nilFunc => true
  | _, _, _ => false

theorem equalIn_case {d : Nat} {t : TypeId} {u : TypeDesc} {X Y : Value} (hU : (underlying t).run P w = .ok u w) (hc : eqCase u X Y = true) :
    (Op.equalIn (d + 1) t X Y).run P w = (equalBody d t u X Y).run P w := by
  unfold eqCase at hc
  split at hc <;> first
    | (simp only [Op.equalIn, Sem.run_bind, hU, Result.andThen_ok, equalBody]; done)
    | cases hc
    | skip
  rename_i e a b
  cases a <;> cases b <;> simp only [Op.equalIn, Sem.run_bind, hU, Result.andThen_ok, equalBody]

theorem equalIn_sound (hE : EnvOK E P) : ∀ (d t : Nat) (x y : AV) (X Y : Value) (r : Bool), RV γ x X → RV γ y Y → equalIn E d t x y = some r →
    ∀ D, d ≤ D → (Op.equalIn D t X Y).run P w = .ok r w
  | 0, t, x, y, X, Y, r, hx, hy, h, D, hD => by simp [equalIn] at h
  | d + 1, t, x, y, X, Y, r, hx, hy, h, 0, hD => by omega
  | d + 1, t, x, y, X, Y, r, hx, hy, h, D + 1, hD => by
    simp only [equalIn] at h
    split at h
    · cases h
    · rename_i u hu
      have hU := hE.run_und hu w
      split at h
      · cases hx; cases hy; cases h; rw [equalIn_case hU rfl]; rfl
      · cases hx; cases hy
        split at h
        · rename_i hk
          have := kindB_eq hk
          subst this
          cases h
          rw [equalIn_case hU rfl]
          simp [equalBody, beqI_eq]
        · cases h
      · obtain ⟨rfl, hx⟩ := hx; obtain ⟨rfl, hy⟩ := hy; cases h
        rw [equalIn_case hU rfl, beqL_eq hx hy]
        show Result.ok (mkBytes _ == mkBytes _) w = _
        congr 1
        show ((mkBytes _).data == (mkBytes _).data) = _
        rw [Bool.eq_iff_iff]
        simp [mkBytes]
      · cases hx; cases hy; cases h; rw [equalIn_case hU rfl]; rfl
      · cases hx; obtain ⟨B, hB, rfl⟩ := hy; cases h; rw [equalIn_case hU rfl]; rfl
      · obtain ⟨B, hB, rfl⟩ := hx; cases hy; cases h; rw [equalIn_case hU rfl]; rfl
      · rename_i e i o j q
        obtain ⟨B, hB, rfl⟩ := hx; obtain ⟨B', hB', rfl⟩ := hy
        split at h
        · rename_i m hij hsz
          have hij := Nat.eq_of_beq_eq_true hij
          subst hij
          rw [hB] at hB'; cases hB'
          cases h
          have hs := hE.run_size hsz w
          rw [equalIn_case hU rfl]
          simp only [equalBody, Sem.run_bind, hs, Result.andThen_ok, sameAddr]
          simp only [ne_eq, Nat.add_one_ne_zero, not_false_eq_true, if_true, beq_self_eq_true, Sem.run_bind, Sem.run_pure, Result.andThen_ok, Result.ok.injEq, and_true]
          rw [Bool.eq_iff_iff]
          simp
        · cases h
      · cases hx; cases hy; cases h; rw [equalIn_case hU rfl]; rfl
      · rename_i i o len c
        cases hx; cases h
        cases c with
        | known c => obtain ⟨B, hB, rfl⟩ := hy; rw [equalIn_case hU rfl]; rfl
        | rest c => obtain ⟨B, hB, rfl, _⟩ := hy; rw [equalIn_case hU rfl]; rfl
      · rename_i i o len c
        cases hy; cases h
        cases c with
        | known c => obtain ⟨B, hB, rfl⟩ := hx; rw [equalIn_case hU rfl]; rfl
        | rest c => obtain ⟨B, hB, rfl, _⟩ := hx; rw [equalIn_case hU rfl]; rfl
      · cases hx; cases hy; cases h; rw [equalIn_case hU rfl]; rfl
      · cases hx; obtain ⟨B, hB, rfl⟩ := hy; cases h; rw [equalIn_case hU rfl]; rfl
      · obtain ⟨B, hB, rfl⟩ := hx; cases hy; cases h; rw [equalIn_case hU rfl]; rfl
      · cases hx; cases hy; cases h; rw [equalIn_case hU rfl]; rfl
      · cases hx; obtain ⟨_, _, _, _, rfl⟩ := hy; cases h; rw [equalIn_case hU rfl]; rfl
      · obtain ⟨_, _, _, _, rfl⟩ := hx; cases hy; cases h; rw [equalIn_case hU rfl]; rfl
      · cases hx; cases hy; cases h; rw [equalIn_case hU rfl]; rfl
      · cases hx; obtain ⟨U, _, rfl⟩ := hy; cases h; rw [equalIn_case hU rfl]; rfl
      · obtain ⟨U, _, rfl⟩ := hx; cases hy; cases h; rw [equalIn_case hU rfl]; rfl
      · rename_i fields xs ys
        obtain ⟨Xs, hXs, rfl⟩ := hx; obtain ⟨Ys, hYs, rfl⟩ := hy
        split at h
        · cases h
        · rename_i hq
          have hst : P.stoodInHeld t = false := by
            unfold eqOk at hq
            split at hq
            · rename_i u hu'; exact (hE.eqs t (by cases u; exact hu')).2
            · cases hq
          have := equalFields_sound (w := w) hE hXs hYs (fun t x y X Y r h1 h2 h3 D h4 => equalIn_sound hE d t x y X Y r h1 h2 h3 D h4) D (by omega) fields.toList r h
          rw [equalIn_case hU rfl]
          simp only [equalBody, Sem.run_bind, run_program, Result.andThen_ok, hst, Bool.false_eq_true, if_false] at this ⊢
          simp only [← Array.forIn_toList]
          exact this
      · cases h

theorem unop_sound {op : UnOp} {x v : AV} {X : Value} (hX : RV γ x X) (h : unop op x = some v) : ∃ V, (Op.unary op X).run P w = .ok V w ∧ RV γ v V := by
  unfold unop at h
  split at h
  · cases hX; cases h; exact ⟨_, rfl, rfl⟩
  · cases hX; cases h; exact ⟨_, rfl, by simp [RV, wrap_eq]⟩
  · cases hX; cases h; exact ⟨_, rfl, rfl⟩
  · cases h
end
end Go.Vai

/- Addresses, literals, slices, conversions, maps, type assertions: they yield what the interpreter says. -/
namespace Go.Vai
open Go
section
variable {E : Env} {P : Program} {base : Nat} {γ : Gam} {F : Tr AV} {n : Nat} {a : Act} {h : Heap} {w : World}

theorem eqGuard_ok (hE : EnvOK E P) {op : BinOp} {t : Nat} {x y : Operand} {p q : AV} {X Y : Value} (hX : RV γ p X) (hY : RV γ q Y)
    (hb : ((bothNil p q && !(isConstOp x || isConstOp y)) || (isAggV p && !eqOk E t)) = false) (ho : op = .eql ∨ op = .neq) :
    (eqGuard op t x y X Y).run P w = .ok () w := by
  simp only [Bool.or_eq_false_iff] at hb
  obtain ⟨hb1, hb2⟩ := hb
  cases p with
  | inil =>
    cases hX
    cases q with
    | inil =>
      cases hY
      simp only [bothNil, Bool.true_and, Bool.not_eq_false'] at hb1
      cases x <;> cases y <;> first
        | (rw [eqGuard_nil_constL]; rfl)
        | (rw [eqGuard_nil_constR]; rfl)
        | (simp [isConstOp] at hb1)
    | _ => rcases ho with rfl | rfl <;> first
      | (cases hY; rfl)
      | (obtain ⟨_, _, rfl⟩ := hY; rfl)
      | (obtain ⟨rfl, _⟩ := hY; rfl)
      | (obtain ⟨_, _, _, _, rfl⟩ := hY; rfl)
      | (rename_i c; cases c <;> first | (obtain ⟨_, _, rfl⟩ := hY; rfl) | (obtain ⟨_, _, rfl, _⟩ := hY; rfl))
  | agg cs =>
    obtain ⟨Xs, hXs, rfl⟩ := hX
    cases q with
    | agg ds =>
      obtain ⟨Ys, hYs, rfl⟩ := hY
      simp only [isAggV, Bool.true_and, Bool.not_eq_false'] at hb2
      have hg : P.eqGuardType P.depth t = false := by
        unfold eqOk at hb2
        split at hb2
        · rename_i u hu'; exact (hE.eqs t (by cases u; exact hu')).1
        · cases hb2
      rcases ho with rfl | rfl <;> simp [eqGuard, hg]
    | _ => rcases ho with rfl | rfl <;> first
      | (cases hY; rfl)
      | (obtain ⟨_, _, rfl⟩ := hY; rfl)
      | (obtain ⟨rfl, _⟩ := hY; rfl)
      | (obtain ⟨_, _, _, _, rfl⟩ := hY; rfl)
      | (rename_i c; cases c <;> first | (obtain ⟨_, _, rfl⟩ := hY; rfl) | (obtain ⟨_, _, rfl, _⟩ := hY; rfl))
  | _ => rcases ho with rfl | rfl <;> first
      | (cases hX; rfl)
      | (obtain ⟨_, _, rfl⟩ := hX; rfl)
      | (obtain ⟨rfl, _⟩ := hX; rfl)
      | (obtain ⟨_, _, _, _, rfl⟩ := hX; rfl)
      | (rename_i c; cases c <;> first | (obtain ⟨_, _, rfl⟩ := hX; rfl) | (obtain ⟨_, _, rfl, _⟩ := hX; rfl))

theorem eqGuard_int {op : BinOp} {t : Nat} {x y : Operand} {k : IntKind} {m : Int} {Y : Value} : (eqGuard op t x y (.int k m) Y).run P w = .ok () w := by
  rw [eqGuard_at_int]; rfl
theorem eqGuard_str {op : BinOp} {t : Nat} {x y : Operand} {s : ByteArray} {Y : Value} : (eqGuard op t x y (.string s) Y).run P w = .ok () w := by
  rw [eqGuard_at_string]; rfl

theorem binOp_eq {op : BinOp} {t : Nat} {X Y : Value} {r : Bool} (hr : (Op.equalIn Op.maxDepth t X Y).run P w = .ok r w)
    (h1 : ∀ k m k' n, ¬ (X = .int k m ∧ Y = .int k' n)) (h2 : ∀ s u, ¬ (X = .string s ∧ Y = .string u)) (h3 : ∀ k m k' n, ¬ (X = .float k m ∧ Y = .float k' n))
    (h4 : ∀ k m m' k' n n', ¬ (X = .complex k m m' ∧ Y = .complex k' n n')) (ho : op = .eql ∨ op = .neq) :
    (binOp op t X Y).run P w = .ok (.bool (if op = .eql then r else !r)) w := by
  rcases ho with rfl | rfl <;> cases X <;> cases Y <;> first
    | exact absurd ⟨rfl, rfl⟩ (h1 _ _ _ _)
    | exact absurd ⟨rfl, rfl⟩ (h2 _ _)
    | exact absurd ⟨rfl, rfl⟩ (h3 _ _ _ _)
    | exact absurd ⟨rfl, rfl⟩ (h4 _ _ _ _ _ _)
    | (simp only [binOp, Op.equal, Sem.run_bind, hr, Result.andThen_ok]; rfl)

theorem RV.not_float {v : AV} {V : Value} (h : RV γ v V) : (∀ k m, V ≠ .float k m) ∧ (∀ k m m', V ≠ .complex k m m') := by
  refine ⟨fun k m e => ?_, fun k m m' e => ?_⟩ <;> subst e <;> cases v with
  | sl i o len c => cases c <;> simp [RV] at h
  | _ => simp [RV] at h

theorem RV.int_inv {v : AV} {k : IntKind} {m : Int} (h : RV γ v (.int k m)) : v = .n k m := by
  cases v with
  | sl i o len c => cases c <;> simp [RV] at h
  | _ => simp [RV] at h <;> simp [h]

theorem RV.str_inv {v : AV} {s : ByteArray} (h : RV γ v (.string s)) : ∃ bs, v = .s bs := by
  cases v with
  | sl i o len c => cases c <;> simp [RV] at h
  | s bs => exact ⟨bs, rfl⟩
  | _ => simp [RV] at h

theorem binop_sound (hE : EnvOK E P) {op : BinOp} {t : Nat} {x y : Operand} {p q v : AV} {X Y : Value} (hX : RV γ p X) (hY : RV γ q Y) (hb : binop E op t x y p q = some v) :
    ∃ V, (do eqGuard op t x y X Y; binOp op t X Y : Sem Value).run P w = .ok V w ∧ RV γ v V := by
  unfold binop at hb
  split at hb
  · rename_i k m k' m'
    cases hX; cases hY
    have key : (∃ V, (binOp op t (.int k m) (.int k' m')).run P w = .ok V w ∧ RV γ v V) := by
      split at hb
      · exact run_binOp_shift (.inl rfl) hb
      · exact run_binOp_shift (.inr rfl) hb
      · split at hb
        · rename_i hk
          have := kindB_eq hk
          subst this
          exact run_binOp_int hb
        · cases hb
    obtain ⟨V, h1, h2⟩ := key
    exact ⟨V, by simp only [Sem.run_bind, eqGuard_int, Result.andThen_ok]; exact h1, h2⟩
  · obtain ⟨rfl, hx⟩ := hX; obtain ⟨rfl, hy⟩ := hY
    obtain ⟨V, h1, h2⟩ := run_binOp_str (P := P) (γ := γ) (w := w) (t := t) hx hy hb
    exact ⟨V, by simp only [Sem.run_bind, eqGuard_str, Result.andThen_ok]; exact h1, h2⟩
  · rename_i hn1 hn2
    have n1 : ∀ k m k' n, ¬ (X = .int k m ∧ Y = .int k' n) := fun k m k' n ⟨e1, e2⟩ => by
      subst e1 e2
      exact hn1 _ _ _ _ hX.int_inv hY.int_inv
    have n2 : ∀ s u, ¬ (X = .string s ∧ Y = .string u) := fun s u ⟨e1, e2⟩ => by
      subst e1 e2
      obtain ⟨bs, hbs⟩ := hX.str_inv
      obtain ⟨cs, hcs⟩ := hY.str_inv
      exact hn2 _ _ hbs hcs
    have n3 : ∀ k m k' n, ¬ (X = .float k m ∧ Y = .float k' n) := fun k m k' n ⟨e1, _⟩ => hX.not_float.1 _ _ e1
    have n4 : ∀ k m m' k' n n', ¬ (X = .complex k m m' ∧ Y = .complex k' n n') := fun k m m' k' n n' ⟨e1, _⟩ => hX.not_float.2 _ _ _ e1
    split at hb
    · split at hb
      · cases hb
      · rename_i hg
        split at hb
        · cases hb
        · rename_i r hr
          cases hb
          have h1 := equalIn_sound (w := w) hE 8 t p q X Y r hX hY hr Op.maxDepth (by decide)
          refine ⟨.bool r, ?_, rfl⟩
          simp only [Sem.run_bind, eqGuard_ok hE hX hY hg (.inl rfl), Result.andThen_ok]
          simpa using binOp_eq h1 n1 n2 n3 n4 (.inl rfl)
    · split at hb
      · cases hb
      · rename_i hg
        split at hb
        · cases hb
        · rename_i r hr
          cases hb
          have h1 := equalIn_sound (w := w) hE 8 t p q X Y r hX hY hr Op.maxDepth (by decide)
          refine ⟨.bool (!r), ?_, rfl⟩
          simp only [Sem.run_bind, eqGuard_ok hE hX hY hg (.inr rfl), Result.andThen_ok]
          simpa using binOp_eq h1 n1 n2 n3 n4 (.inr rfl)
    · cases hb

/-! ### Addresses -/

theorem natOf_sound {x : AV} {X : Value} {m : Nat} (hX : RV γ x X) (hm : natOf x = some m) : ∃ k, X = .int k (m : Int) := by
  unfold natOf at hm
  split at hm
  · cases hm; cases hX; exact ⟨_, rfl⟩
  · cases hm

theorem fieldAt_sound (hE : EnvOK E P) {s f : Nat} {x v : AV} {X : Value} (hX : RV γ x X) (hv : fieldAt E s x f = some v) :
    ∃ V, (Instr.fieldAt s X f).run P w = .ok V w ∧ RV γ v V := by
  unfold fieldAt at hv
  split at hv
  · rename_i fields hu
    split at hv
    · cases hv
    · rename_i fd hf
      split at hv
      · rename_i m hs
        have hf' : fields[f]? = some fd := by simpa using hf
        have key : ∀ ad : Addr, (fieldPlace ad fd).run P w = .ok (ad.add fd.offset) w := fun ad => by
          simp only [fieldPlace, Sem.run_bind, hE.run_size hs, Result.andThen_ok]
          simp
        split at hv
        · obtain ⟨B, hB, rfl⟩ := hX
          cases hv
          refine ⟨_, ?_, B, hB, rfl⟩
          simp only [Instr.fieldAt, Sem.run_bind, hE.run_und hu, Result.andThen_ok, hf', Instr.sureAddr, Sem.run_pure, key, Addr.add_lit, Nat.add_assoc]
        · cases hX
          cases hv
          refine ⟨_, ?_, rfl⟩
          simp only [Instr.fieldAt, Sem.run_bind, hE.run_und hu, Result.andThen_ok, hf', Instr.sureAddr, Sem.run_pure, key, Addr.add_lit]
        · cases hv
      · cases hv
  · cases hv

theorem field_sound (hE : EnvOK E P) {t f : Nat} {x v : AV} {X : Value} (hX : RV γ x X) (hv : field E t x f = some v) :
    ∃ V, (Instr.field t X f).run P w = .ok V w ∧ RV γ v V := by
  unfold field at hv
  split at hv
  · rename_i fields hu
    split at hv
    · cases hv
    · rename_i fd hf
      have hf' : fields[f]? = some fd := by simpa using hf
      split at hv
      · obtain ⟨Xs, hXs, rfl⟩ := hX
        obtain ⟨V, h1, h2⟩ := part_sound (w := w) hE hXs hv
        refine ⟨V, ?_, h2⟩
        simp only [Instr.field, Sem.run_bind, hE.run_und hu, Result.andThen_ok, hf', asAgg, Sem.run_pure]
        exact h1
      · cases hv
  · cases hv

theorem indexAt_sound (hE : EnvOK E P) {t : Nat} {x ix v : AV} {X I : Value} (hX : RV γ x X) (hI : RV γ ix I) (hv : indexAt E t x ix = some v) :
    ∃ V, (Instr.indexAt t X I).run P w = .ok V w ∧ RV γ v V := by
  unfold indexAt at hv
  split at hv
  · cases hv
  · rename_i m hm
    obtain ⟨k, rfl⟩ := natOf_sound hI hm
    split at hv
    · rename_i elem hu
      split at hv
      · cases hv
      · rename_i sz hs
        split at hv
        · rename_i i o len c
          split at hv
          · rename_i hlt
            cases hv
            have hlt : m < len := Nat.le_of_ble_eq_true hlt
            have h01 : (0 : Int) ≤ (m : Int) ∧ (m : Int) < (len : Int) := by omega
            obtain ⟨B, cp, hB, rfl⟩ : ∃ B cp, γ i = some B ∧ X = .slice (some ⟨B.block, B.off + o, none⟩) len cp := by
              cases c with
              | known c => obtain ⟨B, hB, rfl⟩ := hX; exact ⟨B, _, hB, rfl⟩
              | rest c => obtain ⟨B, hB, rfl, _⟩ := hX; exact ⟨B, _, hB, rfl⟩
            refine ⟨_, ?_, B, hB, rfl⟩
            simp only [Instr.indexAt, asIntOf, Sem.run_bind, Sem.run_pure, hE.run_und hu, Result.andThen_ok, h01, and_self, if_true, hE.run_size hs, Int.toNat_natCast, Addr.add_lit, Nat.add_assoc]
          · cases hv
        · cases hv
    · rename_i len elem hu
      split at hv
      · cases hv
      · rename_i sz hs
        split at hv
        · cases hv
        · rename_i hlt
          have hlt : m < len := Nat.le_of_ble_eq_true hlt
          have h01 : (0 : Int) ≤ (m : Int) ∧ (m : Int) < (len : Int) := by omega
          split at hv
          · obtain ⟨B, hB, rfl⟩ := hX
            cases hv
            refine ⟨_, ?_, B, hB, rfl⟩
            simp only [Instr.indexAt, asIntOf, Sem.run_bind, Sem.run_pure, hE.run_und hu, Result.andThen_ok, Instr.sureAddr, h01, and_self, if_true, hE.run_size hs, Int.toNat_natCast, Addr.add_lit, Nat.add_assoc]
          · cases hX
            cases hv
            refine ⟨_, ?_, rfl⟩
            simp only [Instr.indexAt, asIntOf, Sem.run_bind, Sem.run_pure, hE.run_und hu, Result.andThen_ok, Instr.sureAddr, h01, and_self, if_true, hE.run_size hs, Int.toNat_natCast, Addr.add_lit]
          · cases hv
    · cases hv

theorem index_sound (hE : EnvOK E P) {t : Nat} {x ix v : AV} {X I : Value} (hX : RV γ x X) (hI : RV γ ix I) (hv : index E t x ix = some v) :
    ∃ V, (Instr.index t X I).run P w = .ok V w ∧ RV γ v V := by
  unfold index at hv
  split at hv
  · cases hv
  · rename_i m hm
    obtain ⟨k, rfl⟩ := natOf_sound hI hm
    split at hv
    · rename_i hu
      split at hv
      · rename_i s
        obtain ⟨rfl, hs⟩ := hX
        split at hv
        · rename_i c hc
          cases hv
          have hlt : m < s.length := (List.getElem?_eq_some_iff.1 hc).1
          have hb : (mkBytes s)[m]? = some (UInt8.ofNat c) := by
            have h1 : m < (mkBytes s).size := by rw [mkBytes_size]; exact hlt
            rw [getElem?_pos (mkBytes s) m h1]
            congr 1
            show (mkBytes s).data[m] = _
            have h2 := (List.getElem?_eq_some_iff.1 hc).2
            simp [mkBytes, h2]
          have hc256 : c < 256 := hs c (List.mem_of_getElem? hc)
          refine ⟨.int .u8 c, ?_, rfl⟩
          have h0 : (0 : Int) ≤ (m : Int) := by omega
          simp only [Instr.index, asIntOf, Sem.run_bind, Sem.run_pure, hE.run_und hu, Result.andThen_ok, h0, if_true, Int.toNat_natCast, hb]
          simp [UInt8.toNat_ofNat', Nat.mod_eq_of_lt hc256]
        · cases hv
      · cases hv
    · rename_i len elem hu
      split at hv
      · cases hv
      · rename_i hlt
        have hlt : m < len := Nat.le_of_ble_eq_true hlt
        have h01 : (0 : Int) ≤ (m : Int) ∧ (m : Int) < (len : Int) := by omega
        split at hv
        · cases hv
        · rename_i sz hs
          split at hv
          · obtain ⟨Xs, hXs, rfl⟩ := hX
            obtain ⟨V, h1, h2⟩ := part_sound (w := w) hE hXs hv
            refine ⟨V, ?_, h2⟩
            simp only [Instr.index, asIntOf, Sem.run_bind, Sem.run_pure, hE.run_und hu, Result.andThen_ok, h01, and_self, if_true, hE.run_size hs, Int.toNat_natCast]
            exact h1
          · cases hv
    · cases hv
end
end Go.Vai

/- Literals, slices, conversions, maps, type assertions; all operations that leave memory alone. -/
namespace Go.Vai
open Go
section
variable {E : Env} {P : Program} {base : Nat} {γ : Gam} {F : Tr AV} {n : Nat} {a : Act} {h : Heap} {w : World}

theorem foldl_set (off : Nat) : ∀ (Xs : List Value) (k : Nat) (arr : Array Value), off + k + Xs.length ≤ arr.size →
    ((Xs.zipIdx k).foldl (fun cs (c, j) => cs.setIfInBounds (off + j) c) arr).toList = arr.toList.take (off + k) ++ Xs ++ arr.toList.drop (off + k + Xs.length)
  | [], k, arr, hk => by simp
  | X :: Xs, k, arr, hk => by
    simp only [List.length_cons] at hk
    simp only [List.zipIdx_cons, List.foldl_cons]
    rw [foldl_set off Xs (k + 1) _ (by simp; omega)]
    have hlt : off + k < arr.toList.length := by simp; omega
    simp only [Array.toList_setIfInBounds, List.length_cons]
    rw [List.drop_set_of_lt (by omega), show off + (k + 1) = off + k + 1 by omega]
    rw [List.take_succ_eq_append_getElem (by simpa using hlt)]
    rw [List.take_set_of_le (Nat.le_refl _), List.getElem_set_self]
    simp [Nat.add_assoc, Nat.add_comm 1]

theorem overwrite_sound {cells vs : List AV} {C V : List Value} {off : Nat} (hc : RVs γ cells C) (hv : RVs γ vs V) :
    RVs γ (overwrite cells off vs) (C.take off ++ V ++ C.drop (off + V.length)) := by
  unfold overwrite
  rw [hv.length]
  exact ((hc.take off).append hv).append (hc.drop _)

theorem fill_sound (place : Nat → Option (Nat × Nat)) : ∀ {parts : List (Nat × AV)} {Ps : List (Nat × Value)} {cells cs : List AV} {C : Array Value},
    RP γ parts Ps → RVs γ cells C.toList → fill place cells parts = some cs → ∃ D, Instr.fill place C Ps = some D ∧ RVs γ cs D.toList
  | [], Ps, cells, cs, C, hp, hc, hf => by
    simp only [RP] at hp; subst hp
    simp only [fill, Option.some.injEq] at hf; subst hf
    exact ⟨C, rfl, hc⟩
  | (i, v) :: parts, Ps, cells, cs, C, hp, hc, hf => by
    obtain ⟨V, us, hV, hus, rfl⟩ := hp
    simp only [fill] at hf
    split at hf
    · cases hf
    · rename_i off size hpl
      split at hf
      · cases hf
      · rename_i hsz
        have hsz := Nat.eq_of_beq_eq_true hsz
        split at hf
        · cases hf
        · rename_i hle
          have hle := Nat.le_of_ble_eq_true hle
          have hcv := hV.cells
          have hl1 : V.cells.size = (vcells v).length := by simpa using hcv.length
          have hl2 : C.size = cells.length := by simpa using hc.length
          have hfold := foldl_set off V.cells.toList 0 C (by simp [hl1]; omega)
          obtain ⟨D, hD, hD2⟩ := fill_sound place (parts := parts) (Ps := us) (C := V.cells.zipIdx.foldl (fun cs (c, j) => cs.setIfInBounds (off + j) c) C) hus
            (by
              have e : (V.cells.zipIdx.foldl (fun cs (c, j) => cs.setIfInBounds (off + j) c) C).toList = C.toList.take off ++ V.cells.toList ++ C.toList.drop (off + V.cells.toList.length) := by
                rw [← Array.foldl_toList, Array.toList_zipIdx]
                simpa using hfold
              rw [e]
              exact overwrite_sound hc hcv) hf
          refine ⟨D, ?_, hD2⟩
          simp only [Instr.fill, hpl]
          rw [if_neg (by simp [hl1, hl2]; omega)]
          exact hD

theorem places_sound (hE : EnvOK E P) : ∀ {fs : List Field} {ps : List (Nat × Nat)}, places E fs = some ps →
    fs.mapM (fun f => (P.info? f.type).map fun i => (f.offset, i.size)) = some ps
  | [], ps, h => by simp [places] at h; subst h; rfl
  | f :: fs, ps, h => by
    simp only [places] at h
    split at h
    · cases h
    · rename_i m hm
      split at h
      · cases h
      · rename_i qs hqs
        cases h
        obtain ⟨i, hi, rfl⟩ := hE.size hm
        simp [List.mapM_cons, hi, places_sound hE hqs]

theorem build_sound (hE : EnvOK E P) {t : Nat} {parts : List (Nat × AV)} {Ps : Array (Nat × Value)} {v : AV} (hp : RP γ parts Ps.toList) (hv : build E t parts = some v) :
    ∃ V, (Instr.build t Ps).run P w = .ok V w ∧ RV γ v V := by
  unfold build at hv
  split at hv
  · cases hv
  · rename_i z hz
    obtain ⟨i, Z, hi, hiz, hZ⟩ := hE.zero hz
    have hZc := (RV.of_value γ Z z hZ).cells
    split at hv
    · rename_i fields hu
      split at hv
      · cases hv
      · rename_i ps hps
        split at hv
        · cases hv
        · rename_i cs hcs
          cases hv
          obtain ⟨D, h1, h2⟩ := fill_sound _ hp hZc hcs
          refine ⟨.agg D, ?_, D.toList, h2, by simp⟩
          refine run_build w t Ps D ?_
          unfold Program.built
          simp only [hi, hE.und hu, hiz, places_sound hE hps]
          simpa using h1
    · rename_i len elem hu
      split at hv
      · cases hv
      · rename_i m hm
        split at hv
        · cases hv
        · rename_i cs hcs
          cases hv
          obtain ⟨D, h1, h2⟩ := fill_sound _ hp hZc hcs
          refine ⟨.agg D, ?_, D.toList, h2, by simp⟩
          refine run_build w t Ps D ?_
          obtain ⟨ie, hie, rfl⟩ := hE.size hm
          unfold Program.built
          simp only [hi, hE.und hu, hiz, hie]
          exact h1
    · cases hv

/-! ### Slices -/

/-- An index that may be left out. -/
def RO (γ : Gam) : Option AV → Option Value → Prop
  | none, V => V = none
  | some v, V => ∃ U, RV γ v U ∧ V = some U

theorem sliceBound_nat {k : IntKind} {i y : Nat} {code : BoundsCode} (hi : i ≤ y) : (Instr.sliceBound (.int k (i : Int)) y code).run P w = .ok i w := by
  have := run_sliceBound (P := P) (w := w) k (i : Int) y code (by omega) (by omega)
  simpa using this

/-- The three bounds of a slice expression over a slice, once they are known to lie as they must. -/
theorem sliceBounds_ok {len cap : Nat} {lo hi mx : Option AV} {LO HI MX : Option Value} {l h' m : Nat} (hlo : RO γ lo LO) (hhi : RO γ hi HI) (hmx : RO γ mx MX)
    (h1 : orNat 0 lo = some l) (h2 : orNat len hi = some h')
    (h3 : orNat cap mx = some m) (hl : l ≤ h') (hh : h' ≤ m) (hm : m ≤ cap) (hx : mx.isSome = true → hi.isSome = true) (b : Bool) :
    (Instr.sliceBounds b len cap LO HI MX).run P w = .ok (l, h', m) w := by
  cases mx with
  | none =>
    simp only [RO] at hmx; subst hmx
    simp only [orNat, Option.some.injEq] at h3; subst h3
    cases hi with
    | none =>
      simp only [RO] at hhi; subst hhi
      simp only [orNat, Option.some.injEq] at h2; subst h2
      cases lo with
      | none => simp only [RO] at hlo; subst hlo; simp only [orNat, Option.some.injEq] at h1; subst h1; simp [Instr.sliceBounds]
      | some y =>
        obtain ⟨L, hL, rfl⟩ := hlo
        obtain ⟨k, rfl⟩ := natOf_sound hL h1
        simp only [Instr.sliceBounds, Sem.run_bind, Sem.run_pure, Result.andThen_ok, sliceBound_nat hl]
    | some x =>
      obtain ⟨U, hU, rfl⟩ := hhi
      obtain ⟨k', rfl⟩ := natOf_sound hU h2
      cases lo with
      | none =>
        simp only [RO] at hlo; subst hlo; simp only [orNat, Option.some.injEq] at h1; subst h1
        simp only [Instr.sliceBounds, Sem.run_bind, Sem.run_pure, Result.andThen_ok, sliceBound_nat hh]
      | some y =>
        obtain ⟨L, hL, rfl⟩ := hlo
        obtain ⟨k, rfl⟩ := natOf_sound hL h1
        simp only [Instr.sliceBounds, Sem.run_bind, Sem.run_pure, Result.andThen_ok, sliceBound_nat hh, sliceBound_nat hl]
  | some z =>
    obtain ⟨M, hM, rfl⟩ := hmx
    obtain ⟨k3, rfl⟩ := natOf_sound hM h3
    cases hi with
    | none => simp at hx
    | some x =>
      obtain ⟨U, hU, rfl⟩ := hhi
      obtain ⟨k', rfl⟩ := natOf_sound hU h2
      cases lo with
      | none =>
        simp only [RO] at hlo; subst hlo; simp only [orNat, Option.some.injEq] at h1; subst h1
        simp only [Instr.sliceBounds, Sem.run_bind, Sem.run_pure, Result.andThen_ok, sliceBound_nat hm, sliceBound_nat hh]
      | some y =>
        obtain ⟨L, hL, rfl⟩ := hlo
        obtain ⟨k, rfl⟩ := natOf_sound hL h1
        simp only [Instr.sliceBounds, Sem.run_bind, Sem.run_pure, Result.andThen_ok, sliceBound_nat hm, sliceBound_nat hh, sliceBound_nat hl]

theorem sliceStr_sound {s : List Nat} {lo hi : Option AV} {LO HI : Option Value} {v : AV} {t : Nat} (hE : EnvOK E P) (hu : E.und t = some .string) (hs : ∀ c ∈ s, c < 256)
    (hlo : RO γ lo LO) (hhi : RO γ hi HI) (hv : sliceStr s lo hi = some v) :
    ∃ V, (Instr.slice t (.string (mkBytes s)) LO HI none).run P w = .ok V w ∧ RV γ v V := by
  have key : ∀ l h' : Nat, l ≤ h' → h' ≤ s.length → RV γ (.s ((s.take h').drop l)) (.string ((mkBytes s).extract l h')) := fun l h' h1 h2 => by
    refine ⟨?_, fun c hc => hs c (List.mem_of_mem_take (List.mem_of_mem_drop hc))⟩
    congr 1
    apply ByteArray.ext
    apply Array.ext'
    rw [Lib.extract_data]
    simp [mkBytes, List.drop_take]
  unfold sliceStr at hv
  split at hv
  · rename_i l h' h1 h2
    split at hv
    · rename_i hle
      simp only [Bool.and_eq_true] at hle
      have hle1 := Nat.le_of_ble_eq_true hle.1
      have hle2 := Nat.le_of_ble_eq_true hle.2
      cases hv
      refine ⟨_, ?_, key l h' hle1 hle2⟩
      have hb := sliceBounds_ok (P := P) (w := w) (len := s.length) (cap := s.length) hlo hhi (mx := none) (MX := none) rfl h1 h2 rfl hle1 hle2 (Nat.le_refl _) (fun h => by cases h) false
      simp only [Instr.slice, Sem.run_bind, hE.run_und hu, Result.andThen_ok, Option.isSome_none, Bool.false_eq_true, if_false, mkBytes_size, hb, Sem.run_pure]
    · cases hv
  · cases hv

theorem slice_sound (hE : EnvOK E P) {t : Nat} {x v : AV} {lo hi mx : Option AV} {X : Value} {LO HI MX : Option Value} (hX : RV γ x X) (hlo : RO γ lo LO) (hhi : RO γ hi HI) (hmx : RO γ mx MX)
    (hv : slice E t x lo hi mx = some v) : ∃ V, (Instr.sliceAt t X LO HI MX).run P w = .ok V w ∧ RV γ v V := by
  unfold slice at hv
  split at hv
  · rename_i hu
    split at hv
    · obtain ⟨rfl, hs⟩ := hX
      simp only [RO] at hmx; subst hmx
      obtain ⟨V, h1, h2⟩ := sliceStr_sound (w := w) hE hu hs hlo hhi hv
      refine ⟨V, ?_, h2⟩
      simp only [Instr.sliceAt, Sem.run_bind, hE.run_und hu, Result.andThen_ok]
      exact h1
    · cases hv
  · rename_i elem hu
    split at hv
    · cases hv
    · rename_i sz hs
      have hrun : ∀ (A : Option Addr) (len cap l h' m : Nat), (Instr.sliceBounds true len cap LO HI MX).run P w = .ok (l, h', m) w →
          (Instr.sliceAt t (.slice A len cap) LO HI MX).run P w = .ok (.slice (if m = l then A else A.map (·.add (l * sz))) (h' - l) (m - l)) w := fun A len cap l h' m hb => by
        simp only [Instr.sliceAt, Instr.slice, Sem.run_bind, hE.run_und hu, Result.andThen_ok, hb, hE.run_size hs, Sem.run_pure]
      split at hv
      · rename_i i o len c
        unfold sliceSl at hv
        split at hv
        · rename_i l h' h1 h2
          split at hv
          · simp only [RO] at hmx; subst hmx
            split at hv
            · rename_i c
              obtain ⟨B, hB, rfl⟩ := hX
              split at hv
              · cases hv
              · rename_i hle
                simp only [Bool.and_eq_true] at hle
                have hle1 := Nat.le_of_ble_eq_true hle.1
                have hle2 := Nat.le_of_ble_eq_true hle.2
                have hb := sliceBounds_ok (P := P) (w := w) (len := len) (cap := c) hlo hhi (mx := none) (MX := none) rfl h1 h2 rfl hle1 hle2 (Nat.le_refl _) (fun h => by cases h) true
                refine ⟨_, hrun _ _ _ _ _ _ hb, ?_⟩
                split at hv
                · rename_i he
                  have he := Nat.eq_of_beq_eq_true he
                  cases hv
                  exact ⟨B, hB, by rw [if_pos he, he, Nat.sub_self]⟩
                · rename_i he
                  have he := Nat.ne_of_beq_eq_false he
                  cases hv
                  exact ⟨B, hB, by rw [if_neg he]; simp [Addr.add_lit, Nat.add_assoc]⟩
            · rename_i k
              obtain ⟨B, hB, rfl, hcap⟩ := hX
              split at hv
              · cases hv
              · rename_i hle
                simp only [Bool.and_eq_true] at hle
                have hle1 := Nat.le_of_ble_eq_true hle.1
                have hle2 := Nat.le_of_ble_eq_true hle.2
                have hb := sliceBounds_ok (P := P) (w := w) (len := len) (cap := B.cap - k) hlo hhi (mx := none) (MX := none) rfl h1 h2 rfl hle1 (by omega) (Nat.le_refl _) (fun h => by cases h) true
                refine ⟨_, hrun _ _ _ _ _ _ hb, ?_⟩
                split at hv
                · rename_i he
                  have he := Nat.eq_of_beq_eq_true he
                  subst he
                  cases hv
                  refine ⟨B, hB, ?_, by omega⟩
                  have : (if B.cap - k = 0 then some (⟨B.block, B.off + o, none⟩ : Addr) else (some (⟨B.block, B.off + o, none⟩ : Addr)).map (·.add (0 * sz))) = some ⟨B.block, B.off + o, none⟩ := by
                    split <;> simp [Addr.add]
                  rw [this]; simp
                · split at hv
                  · rename_i hlt
                    have hlt : l < len := Nat.le_of_ble_eq_true hlt
                    cases hv
                    refine ⟨B, hB, ?_, by omega⟩
                    rw [if_neg (by omega), Nat.sub_sub]
                    simp [Addr.add_lit, Nat.add_assoc]
                  · cases hv
          · rename_i mv
            obtain ⟨M, hM, rfl⟩ := hmx
            split at hv
            · cases hv
            · rename_i m hm
              split at hv
              · cases hv
              · rename_i hle
                simp only [Bool.and_eq_true] at hle
                have hle1 := Nat.le_of_ble_eq_true hle.1.1
                have hle2 := Nat.le_of_ble_eq_true hle.1.2
                have hle3 := hle.2
                obtain ⟨B, cp, hB, rfl, hcp⟩ : ∃ B cp, γ i = some B ∧ X = .slice (some ⟨B.block, B.off + o, none⟩) len cp ∧ m ≤ cp := by
                  cases c with
                  | known c => obtain ⟨B, hB, rfl⟩ := hX; exact ⟨B, _, hB, rfl, Nat.le_of_ble_eq_true hle3⟩
                  | rest c => obtain ⟨B, hB, rfl, hc⟩ := hX; have := Nat.le_of_ble_eq_true hle3; exact ⟨B, _, hB, rfl, by omega⟩
                split at hv
                · cases hv
                · rename_i hsome
                  have hb := sliceBounds_ok (P := P) (w := w) (len := len) (cap := cp) hlo hhi (mx := some mv) (MX := some M) ⟨M, hM, rfl⟩ h1 h2 hm hle1 hle2 hcp (fun _ => hsome) true
                  refine ⟨_, hrun _ _ _ _ _ _ hb, ?_⟩
                  split at hv
                  · rename_i he
                    have he := Nat.eq_of_beq_eq_true he
                    cases hv
                    exact ⟨B, hB, by rw [if_pos he, he, Nat.sub_self]⟩
                  · rename_i he
                    have he := Nat.ne_of_beq_eq_false he
                    cases hv
                    exact ⟨B, hB, by rw [if_neg he]; simp [Addr.add_lit, Nat.add_assoc]⟩
        · cases hv
      · simp only [RV] at hX; subst hX
        split at hv
        · rename_i hz
          cases hv
          simp only [Bool.and_eq_true] at hz
          obtain ⟨⟨hz1, hz2⟩, hz3⟩ := hz
          have zer : ∀ {q : Option AV}, nilOrZero q = true → orNat 0 q = some 0 := fun {q} hq => by
            unfold nilOrZero at hq
            split at hq
            · rfl
            · split at hq
              · assumption
              · cases hq
          have hmx' : mx = none := by simpa using hz3
          subst hmx'
          simp only [RO] at hmx; subst hmx
          have hb := sliceBounds_ok (P := P) (w := w) (len := 0) (cap := 0) hlo hhi (mx := none) (MX := none) rfl (zer hz1) (zer hz2) rfl (Nat.le_refl _) (Nat.le_refl _) (Nat.le_refl _) (fun h => by cases h) true
          exact ⟨_, hrun _ _ _ _ _ _ hb, by simp [RV]⟩
        · cases hv
      · cases hv
  · cases hv
end
end Go.Vai

/- Conversions, maps, type assertions, built-in functions; all operations that leave memory alone. -/
namespace Go.Vai
open Go
section
variable {E : Env} {P : Program} {base : Nat} {γ : Gam} {F : Tr AV} {n : Nat} {a : Act} {h : Heap} {w : World}

theorem bytesOf_sound : ∀ {vs : List AV} {Vs : List Value} {bs : List Nat}, RVs γ vs Vs → bytesOf vs = some bs →
    ∃ ns : List Int, Vs = ns.map (Value.int .u8) ∧ bs = ns.map (fun n => n.toNat % 256)
  | [], Vs, bs, hv, hb => by simp [bytesOf] at hb; subst hb; simp only [RVs] at hv; subst hv; exact ⟨[], rfl, rfl⟩
  | v :: vs, Vs, bs, hv, hb => by
    obtain ⟨U, us, hU, hus, rfl⟩ := hv
    unfold bytesOf at hb
    split at hb
    · cases hb; rename_i e; cases e
    · rename_i x ws e
      cases e
      split at hb
      · cases hb
      · rename_i cs hcs
        cases hb
        obtain ⟨ns, h1, h2⟩ := bytesOf_sound hus hcs
        cases hU
        exact ⟨x :: ns, by simp [h1], by simp [h2]⟩
    · cases hb

theorem foldl_push (ns : List Int) : ns.foldl (fun (r : ByteArray) n => r.push (UInt8.ofNat n.toNat)) ByteArray.empty = mkBytes (ns.map fun n => n.toNat % 256) := by
  have key : ∀ (ns : List Int) (r : ByteArray), (ns.foldl (fun (r : ByteArray) n => r.push (UInt8.ofNat n.toNat)) r).data.toList = r.data.toList ++ ns.map (fun n => UInt8.ofNat n.toNat) := by
    intro ns
    induction ns with
    | nil => intro r; simp
    | cons n ns ih => intro r; simp [ih]
  apply ByteArray.ext
  apply Array.ext'
  rw [key, mkBytes_data]
  simp only [ByteArray.data_empty, List.map_map]
  show [] ++ _ = _
  rw [List.nil_append]
  apply List.map_congr_left
  intro n _
  show UInt8.ofNat n.toNat = UInt8.ofNat (n.toNat % 256)
  apply UInt8.toNat_inj.1
  simp [UInt8.toNat_ofNat']

theorem convertPure_sound (hE : EnvOK E P) {src dst : Nat} {x v : AV} {X : Value} (hX : RV γ x X) (hv : convertPure E src dst x = some v) :
    ∃ V, (convert src dst X).run P w = .ok V w ∧ RV γ v V := by
  unfold convertPure at hv
  split at hv
  · cases hv
  · rename_i us hus
    split at hv
    · cases hv
    · rename_i ud hud
      have h1 := hE.run_und hus w
      have h2 := hE.run_und hud w
      split at hv
      · cases hv; cases hX
        exact ⟨_, by simp only [convert, Sem.run_bind, h1, h2, Result.andThen_ok]; rfl, by simp [RV, wrap_eq]⟩
      · rename_i s
        cases hv
        obtain ⟨rfl, hs⟩ := hX
        exact ⟨_, by simp only [convert, Sem.run_bind, h1, h2, Result.andThen_ok]; rfl, rfl, hs⟩
      · rename_i k m
        cases hv; cases hX
        refine ⟨_, by simp only [convert, Sem.run_bind, h1, h2, Result.andThen_ok]; rfl, ?_, fun c hc => ?_⟩
        · rw [mkBytes_toNat]
        · obtain ⟨u, _, rfl⟩ := List.mem_map.1 hc
          exact u.toNat_lt
      · cases hv

theorem isByte_und {e : Nat} (hb : isByte E e = true) : E.und e = some (.int .u8) := by
  unfold isByte at hb
  split at hb
  · assumption
  · cases hb

theorem convertRead_sound (hE : EnvOK E P) (hH : RH E base γ h w) {src dst : Nat} {x v : AV} {X : Value} (hX : RV γ x X) (hv : convertRead E h src dst x = some v) :
    ∃ V, (convert src dst X).run P w = .ok V w ∧ RV γ v V := by
  unfold convertRead at hv
  split at hv
  · rename_i e hus
    split at hv
    · cases hv
    · rename_i hby
      have hbe := isByte_und hby
      split at hv
      · rename_i hud
        have h1 := hE.run_und hus w
        have h2 := hE.run_und hud w
        have h3 := hE.run_und hbe w
        have hconv : ∀ (A : Option Addr) (m c : Nat), (convert src dst (.slice A m c)).run P w = (Conv.bytesToString (.slice A m c)).run P w := fun A m c => by
          simp only [convert, Sem.run_bind, h1, h2, h3, Result.andThen_ok]
        split at hv
        · cases hv; simp only [RV] at hX; subst hX
          exact ⟨.string .empty, by rw [hconv]; rfl, rfl, by simp⟩
        · rename_i i o m c
          split at hv
          · rename_i el cs n' gr fz ish hi
            obtain ⟨B, hB, hb0, arr, fr, harr, hRC, _⟩ := hH.blk _ _ hi
            split at hv
            · cases hv
            · rename_i vs hvs
              split at hv
              · cases hv
              · rename_i bs hbs
                cases hv
                obtain ⟨cp, rfl⟩ : ∃ cp, X = .slice (some ⟨B.block, B.off + o, none⟩) m cp := by
                  cases c with
                  | known c => obtain ⟨B', hB', rfl⟩ := hX; rw [hB] at hB'; cases hB'; exact ⟨_, rfl⟩
                  | rest c => obtain ⟨B', hB', rfl, _⟩ := hX; rw [hB] at hB'; cases hB'; exact ⟨_, rfl⟩
                obtain ⟨Vs, h4, h5⟩ := hRC.list hvs
                obtain ⟨ns, h6, h7⟩ := bytesOf_sound h4 hbs
                have hlen : Vs.length = m := by rw [h4.length, loadCells_length hvs]
                have hrl := run_loadCells_list (P := P) w ⟨B.block, B.off + o, none⟩ Vs (fun j V hj => by
                  rw [Addr.add_lit, cell_of_row harr]; exact h5 j V hj)
                rw [hlen, h6] at hrl
                refine ⟨_, by rw [hconv, run_bytesToString w _ m cp ns hrl], ?_, fun c hc => ?_⟩
                · rw [foldl_push, h7]
                · rw [h7] at hc
                  obtain ⟨q, _, rfl⟩ := List.mem_map.1 hc
                  omega
          · cases hv
        · cases hv
      · cases hv
  · cases hv

theorem convertPtr_sound (hE : EnvOK E P) (hH : RH E base γ h w) {src dst : Nat} {x v : AV} {X : Value} (hX : RV γ x X) (hv : convertPtr E h src dst x = some v) :
    ∃ V, (convert src dst X).run P w = .ok V w ∧ RV γ v V := by
  unfold convertPtr at hv
  split at hv
  · rename_i t hus
    split at hv
    · rename_i hud
      split at hv
      · rename_i m hs
        split at hv
        · rename_i i o
          split at hv
          · rename_i el cs n' gr fz ish hi
            obtain ⟨B, hB, hb0, arr, fr, harr, hRC, _⟩ := hH.blk _ _ hi
            obtain ⟨B', hB', rfl⟩ := hX
            rw [hB] at hB'; cases hB'
            split at hv
            · rename_i u hu
              cases hv
              obtain ⟨U, h5, _⟩ := hRC o u hu
              have hlt : B.off + o < arr.size := (Array.getElem?_eq_some_iff.1 h5).1
              refine ⟨_, ?_, B, hB, rfl⟩
              have h1 := hE.run_und hus w
              have h2 := hE.run_und hud w
              have h3 := hE.run_size hs w
              have hsh : w.shape? B.block = some (el, arr.size) := by simp [World.shape?, harr]
              have hge : ¬ (arr.size ≤ B.off + o) := by omega
              simp [convert, Conv.unsafePointer, Conv.seenAt, viewAt, cellsIn, h1, h2, h3, hsh, hge]
            · cases hv
          · cases hv
        · cases hv
      · cases hv
    · cases hv
  · rename_i hus
    split at hv
    · rename_i t hud
      split at hv
      · rename_i q hq
        split at hv
        · rename_i i o
          split at hv
          · rename_i el cs n' fz ish hi
            obtain ⟨B, hB, hb0, arr, fr, harr, hRC, _, _, hoff, hsz⟩ := hH.blk _ _ hi
            obtain ⟨B', hB', rfl⟩ := hX
            rw [hB] at hB'; cases hB'
            split at hv
            · rename_i m hm
              split at hv
              · rename_i hc
                cases hv
                simp only [Bool.and_eq_true] at hc
                have hnm := Nat.eq_of_beq_eq_true hc.1
                have hl := hE.lies _ _ _ hc.2
                refine ⟨_, ?_, B, hB, rfl⟩
                have h1 := hE.run_und hus w
                have h2 := hE.run_und hud w
                have h3 := hE.run_size hq w
                have hsh : w.shape? B.block = some (el, arr.size) := by simp [World.shape?, harr]
                obtain ⟨ie, hie, hie2⟩ := hE.size hm
                have hco : P.cellsOf el = m + 1 := by simp [Program.cellsOf, hie, hie2]
                have hdiv : arr.size / P.cellsOf el = 1 := by
                  rw [hco, hsz, hnm]
                  exact Nat.div_self (by omega)
                have hva : (variablesAt ⟨B.block, B.off + o, none⟩ t 1).run P w = .ok true w := by
                  simp only [variablesAt, Sem.run_bind, run_program, run_shape, hsh, Result.andThen_ok, hdiv, hoff, Nat.zero_add, hl, Sem.run_pure]
                simp [convert, Conv.unsafePointer, Conv.seenAt, viewAt, h1, h2, h3, hsh, hva]
              · cases hv
            · cases hv
          · cases hv
        · cases hv
      · cases hv
    · cases hv
  · cases hv
end
end Go.Vai

/- Maps, type assertions, built-in functions; all operations that leave memory alone. -/
namespace Go.Vai
open Go
section
variable {E : Env} {P : Program} {base : Nat} {γ : Gam} {F : Tr AV} {n : Nat} {a : Act} {h : Heap} {w : World}

theorem sameKey_sound {kind : TypeDesc} {x y : AV} {X Y : Value} {r : Bool} (hX : RV γ x X) (hY : RV γ y Y) (hs : sameKey kind x y = some r) : Instr.sameNow kind X Y = some r := by
  unfold sameKey at hs
  split at hs
  · cases hX; cases hY
    split at hs
    · rename_i hk
      have := kindB_eq hk
      subst this
      cases hs
      simp [Instr.sameNow, beqI_eq]
    · cases hs
  · obtain ⟨rfl, hx⟩ := hX; obtain ⟨rfl, hy⟩ := hY
    cases hs
    simp only [Instr.sameNow, Option.some.injEq]
    rw [beqL_eq hx hy]
    show ((mkBytes _).data == (mkBytes _).data) = _
    rw [Bool.eq_iff_iff]
    simp [mkBytes]
  · cases hX; cases hY; cases hs; rfl
  · cases hs

theorem findKey_sound {kind : TypeDesc} {k : AV} {K : Value} (hK : RV γ k K) : ∀ {es : List (AV × AV × Nat)} {ms : List MapEntry} {i : Nat} {r : Option (Nat × AV)}, RE γ es ms →
    findKey kind k es i = some r → (r = none ∧ Instr.findNow kind K ms i = some none) ∨ ∃ j v V, r = some (j, v) ∧ Instr.findNow kind K ms i = some (some (j, V)) ∧ RV γ v V
  | [], [], i, r, hr, hf => by simp [findKey] at hf; subst hf; exact .inl ⟨rfl, rfl⟩
  | (k', v', b) :: es, m :: ms, i, r, hr, hf => by
    obtain ⟨h1, h2, h3, h4⟩ := hr
    simp only [findKey] at hf
    split at hf
    · rename_i hs
      cases hf
      have := sameKey_sound hK h1 hs
      exact .inr ⟨i, v', m.val, rfl, by simp [Instr.findNow, this], h2⟩
    · rename_i hs
      have := sameKey_sound hK h1 hs
      simp only [Instr.findNow, this]
      exact findKey_sound hK h4 hf
    · cases hf
  | [], _ :: _, i, r, hr, hf => hr.elim
  | _ :: _, [], i, r, hr, hf => by simp [RE] at hr

theorem plain_key {kind : TypeDesc} (hp : plainKind kind = true) {kt : Nat} (hU : ∀ w, (underlying kt).run P w = .ok kind w) (e : Bool) (m : Nat) (K : Value) :
    (Instr.checkKey e (m + 1) kt K).run P w = .ok () w := by
  unfold Instr.checkKey
  simp only [Sem.run_bind, hU, Result.andThen_ok]
  cases kind <;> simp [plainKind] at hp <;> rfl

theorem lookup_sound (hE : EnvOK E P) (hH : RH E base γ h w) {t : Nat} {m k v : AV} {M K : Value} {ok : Bool} (hM : RV γ m M) (hK : RV γ k K) (hv : lookup E h t m k ok = some v) :
    ∃ V, (Instr.lookup t M K ok).run P w = .ok V w ∧ RV γ v V := by
  unfold lookup at hv
  split at hv
  · rename_i kt et hu
    split at hv
    · cases hv
    · rename_i kind hk
      split at hv
      · cases hv
      · rename_i hp
        split at hv
        · cases hv
        · rename_i z hz
          obtain ⟨iz, Z, hiz, hizz, hZ⟩ := hE.zero hz
          have hZv : RV γ z Z := RV.of_value γ Z z hZ
          have hzr := run_zeroValue' hiz hizz w
          have hck := fun e => plain_key (P := P) (w := w) hp (fun w => hE.run_und hk w) e 9999 K
          have hf := fun (l : List MapEntry) (a : Option (Nat × Value)) (hh : Instr.findNow kind K l 0 = some a) => MapKept.run_findKey (P := P) (w := w) (hE.und hk) hh
          have fin : ∀ (q : AV) (Q : Value) (b : Bool), RV γ q Q → RV γ (if ok = true then .tup [q, .b b] else q) (if ok = true then .tuple #[Q, .bool b] else Q) := fun q Q b hq => by
            cases ok
            · simpa using hq
            · simp only [if_true]; exact ⟨[Q, .bool b], ⟨Q, _, hq, ⟨_, [], rfl, rfl, rfl⟩, rfl⟩, rfl⟩
          split at hv
          · cases hv; simp only [RV] at hM; subst hM
            refine ⟨_, ?_, fin z Z false hZv⟩
            have h1 : (Instr.findKey kt K []).run P w = .ok none w := hf [] none rfl
            simp only [Instr.lookup, Sem.run_bind, hE.run_und hu, Result.andThen_ok, Sem.run_pure, hck, h1, hzr]
          · rename_i i
            split at hv
            · rename_i es clock hi
              obtain ⟨B, hB, hb0, ms, hms, hRE⟩ := hH.blk _ _ hi
              obtain ⟨B', hB', rfl⟩ := hM
              rw [hB] at hB'; cases hB'
              have hg := MapKept.run_getObj_map (P := P) hms
              split at hv
              · cases hv
              · rename_i hfk
                cases hv
                rcases findKey_sound hK hRE hfk with ⟨_, h1⟩ | ⟨j, q, Q, h0, _⟩
                · have h2 := hf ms.toList none h1
                  refine ⟨_, ?_, fin z Z false hZv⟩
                  simp only [Instr.lookup, Sem.run_bind, hE.run_und hu, Result.andThen_ok, Sem.run_pure, hg, hck, h2, hzr]
                · cases h0
              · rename_i q hfk
                cases hv
                rcases findKey_sound hK hRE hfk with ⟨h0, _⟩ | ⟨j, q', Q, h0, h1, hq⟩
                · cases h0
                · cases h0
                  have h2 := hf ms.toList _ h1
                  refine ⟨_, ?_, fin q Q true hq⟩
                  simp only [Instr.lookup, Sem.run_bind, hE.run_und hu, Result.andThen_ok, Sem.run_pure, hg, hck, h2]
            · cases hv
          · cases hv
  · cases hv

theorem fold2_sound {f : AV → AV → Option AV} {g : Value → Value → Sem Value} (hfg : ∀ x y v X Y, RV γ x X → RV γ y Y → f x y = some v → ∃ V, (g X Y).run P w = .ok V w ∧ RV γ v V) :
    ∀ {ys : List AV} {Ys : List Value} {x v : AV} {X : Value}, RV γ x X → RVs γ ys Ys → fold2 f x ys = some v → ∃ V, (Ys.foldlM g X).run P w = .ok V w ∧ RV γ v V
  | [], Ys, x, v, X, hx, hy, hf => by simp only [RVs] at hy; subst hy; simp only [fold2, Option.some.injEq] at hf; subst hf; exact ⟨X, rfl, hx⟩
  | y :: ys, Ys, x, v, X, hx, hy, hf => by
    obtain ⟨Y, us, hY, hus, rfl⟩ := hy
    simp only [fold2] at hf
    split at hf
    · cases hf
    · rename_i z hz
      obtain ⟨Z, h1, h2⟩ := hfg _ _ _ _ _ hx hY hz
      obtain ⟨V, h3, h4⟩ := fold2_sound hfg h2 hus hf
      exact ⟨V, by simp only [List.foldlM_cons, Sem.run_bind, h1, Result.andThen_ok]; exact h3, h4⟩

theorem max2_sound {x y v : AV} {X Y : Value} (hX : RV γ x X) (hY : RV γ y Y) (hv : max2 x y = some v) : ∃ V, (Builtin.max2 X Y).run P w = .ok V w ∧ RV γ v V := by
  unfold max2 at hv
  split at hv
  · cases hX; cases hY; cases hv
    refine ⟨_, rfl, ?_⟩
    simp only [RV, ltI_eq]
    congr 1
    simp [decide_eq_true_eq]
  · cases hv
theorem min2_sound {x y v : AV} {X Y : Value} (hX : RV γ x X) (hY : RV γ y Y) (hv : min2 x y = some v) : ∃ V, (Builtin.min2 X Y).run P w = .ok V w ∧ RV γ v V := by
  unfold min2 at hv
  split at hv
  · cases hX; cases hY; cases hv
    refine ⟨_, rfl, ?_⟩
    simp only [RV, ltI_eq]
    congr 1
    simp [decide_eq_true_eq]
  · cases hv

theorem lenOf_sound (hE : EnvOK E P) (hH : RH E base γ h w) {t : Nat} {x v : AV} {X : Value} {ty : Nat} {ts : Array Nat} (ht : ts[0]? = some t) (hX : RV γ x X) (hv : lenOf E h t x = some v) :
    ∃ V, (Builtin.len_ ts ty #[X]).run P w = .ok V w ∧ RV γ v V := by
  unfold lenOf at hv
  have e0 : (#[X] : Array Value)[0]? = some X := rfl
  split at hv
  · rename_i hu
    split at hv
    · rename_i s
      cases hv
      obtain ⟨rfl, hs⟩ := hX
      exact ⟨_, by simp only [Builtin.len_, ht, e0, Sem.run_bind, hE.run_und hu, Result.andThen_ok]; rfl, by simp [RV, mkBytes_size, goInt]⟩
    · cases hv
  · rename_i m e hu
    cases hv
    exact ⟨_, by simp only [Builtin.len_, ht, e0, Sem.run_bind, hE.run_und hu, Result.andThen_ok]; rfl, rfl⟩
  · rename_i e hu
    split at hv
    · rename_i i o m c
      cases hv
      obtain ⟨A, cp, rfl⟩ : ∃ A cp, X = .slice A m cp := by
        cases c with
        | known c => obtain ⟨B, hB, rfl⟩ := hX; exact ⟨_, _, rfl⟩
        | rest c => obtain ⟨B, hB, rfl, _⟩ := hX; exact ⟨_, _, rfl⟩
      exact ⟨_, by simp only [Builtin.len_, ht, e0, Sem.run_bind, hE.run_und hu, Result.andThen_ok]; rfl, rfl⟩
    · cases hv
      simp only [RV] at hX; subst hX
      exact ⟨_, by simp only [Builtin.len_, ht, e0, Sem.run_bind, hE.run_und hu, Result.andThen_ok]; rfl, rfl⟩
    · cases hv
  · rename_i kt e hu
    split at hv
    · cases hv
      simp only [RV] at hX; subst hX
      exact ⟨_, by simp only [Builtin.len_, ht, e0, Sem.run_bind, hE.run_und hu, Result.andThen_ok]; rfl, rfl⟩
    · rename_i i
      split at hv
      · rename_i es clock hi
        cases hv
        obtain ⟨B, hB, hb0, ms, hms, hRE⟩ := hH.blk _ _ hi
        obtain ⟨B', hB', rfl⟩ := hX
        rw [hB] at hB'; cases hB'
        have hg := MapKept.run_getObj_map (P := P) hms
        have hl : ∀ {es : List (AV × AV × Nat)} {ms : List MapEntry}, RE γ es ms → ms.length = es.length := by
          intro es
          induction es with
          | nil => intro ms hr; cases ms with
            | nil => rfl
            | cons m ms => exact hr.elim
          | cons e es ih => intro ms hr; cases ms with
            | nil => simp [RE] at hr
            | cons m ms => obtain ⟨_, _, _, h4⟩ := hr; simp [ih h4]
        exact ⟨_, by simp only [Builtin.len_, ht, e0, Sem.run_bind, hE.run_und hu, Result.andThen_ok, hg]; rfl, by
          have := hl hRE
          simp only [RV, goInt]
          rw [← this]; simp⟩
      · cases hv
    · cases hv
  · cases hv

theorem sliceData_sound {x v : AV} {X : Value} {ts : Array Nat} {ty : Nat} (hX : RV γ x X) (hv : sliceData x = some v) : ∃ V, (Builtin.unsafeSliceData_ ts ty #[X]).run P w = .ok V w ∧ RV γ v V := by
  unfold sliceData at hv
  split at hv
  · cases hv; simp only [RV] at hX; subst hX; exact ⟨_, rfl, rfl⟩
  · cases hv
    obtain ⟨B, hB, rfl⟩ := hX
    exact ⟨_, rfl, B, hB, rfl⟩
  · cases hv
    obtain ⟨B, hB, rfl, hc⟩ := hX
    have key : ∀ (A : Addr) (m c : Nat), c ≠ 0 → (Builtin.unsafeSliceData_ ts ty #[.slice (some A) m c]).run P w = .ok (.pointer (some A)) w := fun A m c hc => by
      cases c with
      | zero => exact absurd rfl hc
      | succ c => rfl
    exact ⟨_, key _ _ _ (by omega), B, hB, rfl⟩
  · cases hv

theorem nilCheck_sound {x v : AV} {X : Value} (hX : RV γ x X) (hv : nilCheck x = some v) :
    v = x ∧ (∀ (f : String) (p c : Array Value), X ≠ .func (.method f) p c) ∧ X ≠ .pointer none ∧ X ≠ .nilIface ∧ X ≠ .nilFunc := by
  unfold nilCheck at hv
  split at hv
  · cases hv; obtain ⟨B, hB, rfl⟩ := hX; exact ⟨rfl, by simp, by simp, by simp, by simp⟩
  · cases hv; cases hX; exact ⟨rfl, by simp, by simp, by simp, by simp⟩
  · cases hv; obtain ⟨_, _, _, _, rfl⟩ := hX; exact ⟨rfl, by simp, by simp, by simp, by simp⟩
  · rename_i i o m c
    cases hv
    cases c with
    | known c => obtain ⟨B, hB, rfl⟩ := hX; exact ⟨rfl, by simp, by simp, by simp, by simp⟩
    | rest c => obtain ⟨B, hB, rfl, _⟩ := hX; exact ⟨rfl, by simp, by simp, by simp, by simp⟩
  · cases hv
end
end Go.Vai

/- All operations that leave memory alone. -/
namespace Go.Vai
open Go
section
variable {E : Env} {P : Program} {base : Nat} {γ : Gam} {F : Tr AV} {n : Nat} {a : Act} {h : Heap} {w : World}

theorem evalO_sound (r : RF γ F n a.tmps) {x : Option Operand} {v : Option AV} (hx : evalO F x = some v) : RO γ v (x.map a.eval) := by
  unfold evalO at hx
  split at hx
  · cases hx; rfl
  · split at hx
    · cases hx
    · rename_i u hu
      cases hx
      exact ⟨_, eval_sound r hu, rfl⟩

/-- What a call's operands resolve to. -/
theorem resolve_builtin {c : Call} {b : Builtin} (hc : c.callee = .builtin b) (ty : TypeId) :
    (do let d ← resolve a.eval c ty; invoke d.target d.args : Sem Next).run P w = (builtin b c.argTypes ty (c.args.map fun | .const _ => true | _ => false) (c.args.map a.eval)).run P w := by
  simp only [resolve, hc, Sem.run_bind, Sem.run_pure, Result.andThen_ok, invoke]
  rfl

theorem resolve_value {c : Call} {f : Operand} (hc : c.callee = .value f) (ty : TypeId) {fid : Nat} {A C : Array Value} (hf : a.eval f = .func (.func fid) A C) :
    (do let d ← resolve a.eval c ty; invoke d.target d.args : Sem Next).run P w = (callFunc fid (A ++ c.args.map a.eval ++ C)).run P w := by
  simp only [resolve, hc, hf, Deferred.ofValue, Sem.run_bind, Sem.run_pure, Result.andThen_ok, invoke]

theorem extCall_sound (hE : EnvOK E P) (hF : RF γ F n a.tmps) {c : Call} {ty : Nat} {v : AV} (hv : extCall E F c = some v) :
    ∃ V, (do let d ← resolve a.eval c ty; invoke d.target d.args : Sem Next).run P w = .ok (.value V) w ∧ RV γ v V := by
  unfold extCall at hv
  split at hv
  · rename_i f hc
    split at hv
    · rename_i fid as cap hf
      split at hv
      · cases hv
      · rename_i fn hfn
        split at hv
        · cases hv
        · rename_i hb
          split at hv
          · cases hv
          · rename_i k hk
            split at hv
            · cases hv
            · rename_i vs hvs
              obtain ⟨A, C, hA, hC, hfv⟩ := eval_sound hF hf
              have hargs := evals_sound hF hvs
              obtain ⟨U, h1, h2⟩ := hE.ext fid fn k _ v _ γ w hfn hb hk hv ((hA.append hargs).append hC)
              refine ⟨U, ?_, h2⟩
              rw [resolve_value hc ty hfv]
              have e : (A.toArray ++ c.args.map a.eval ++ C.toArray) = (A ++ c.args.toList.map a.eval ++ C).toArray := by
                apply Array.ext'; simp
              rw [e]
              exact h1
    · cases hv
  · cases hv

theorem array_one {α β : Type} {xs : Array α} {f : α → β} {Y : β} (h : xs.toList.map f = [Y]) : xs.map f = #[Y] := by
  apply Array.ext'; simpa using h

theorem quietBuiltin_sound (hE : EnvOK E P) (hF : RF γ F n a.tmps) (hH : RH E base γ h w) {b : Builtin} {ts : Array Nat} {xs : Array Operand} {ty : Nat} {cs : Array Bool} {v : AV}
    (hv : quietBuiltin E F h b ts.toList xs.toList = some v) : ∃ V, (builtin b ts ty cs (xs.map a.eval)).run P w = .ok (.value V) w ∧ RV γ v V := by
  unfold quietBuiltin at hv
  split at hv
  · split at hv
    · rename_i x t tl hx ht
      obtain ⟨X, us, hX, hus, he⟩ := evals_sound hF hx
      simp only [RVs] at hus; subst hus
      rw [array_one he]
      have ht' : ts[0]? = some t := by rw [← Array.getElem?_toList, ht]; rfl
      obtain ⟨V, h1, h2⟩ := lenOf_sound (w := w) (ty := ty) hE hH ht' hX hv
      exact ⟨V, by simp only [builtin, Sem.run_bind, h1, Result.andThen_ok, Sem.run_pure], h2⟩
    · cases hv
  · split at hv
    · rename_i x ys hx
      obtain ⟨X, us, hX, hus, he⟩ := evals_sound hF hx
      obtain ⟨V, h1, h2⟩ := fold2_sound (w := w) (P := P) (fun _ _ _ _ _ hX hY hv => max2_sound hX hY hv) hX hus hv
      refine ⟨V, ?_, h2⟩
      have hl : (xs.map a.eval).toList = X :: us := by simpa using he
      simp only [builtin, Builtin.max_, hl, Sem.run_bind, h1, Result.andThen_ok, Sem.run_pure]
    · cases hv
  · split at hv
    · rename_i x ys hx
      obtain ⟨X, us, hX, hus, he⟩ := evals_sound hF hx
      obtain ⟨V, h1, h2⟩ := fold2_sound (w := w) (P := P) (fun _ _ _ _ _ hX hY hv => min2_sound hX hY hv) hX hus hv
      refine ⟨V, ?_, h2⟩
      have hl : (xs.map a.eval).toList = X :: us := by simpa using he
      simp only [builtin, Builtin.min_, hl, Sem.run_bind, h1, Result.andThen_ok, Sem.run_pure]
    · cases hv
  · split at hv
    · rename_i x hx
      obtain ⟨X, us, hX, hus, he⟩ := evals_sound hF hx
      simp only [RVs] at hus; subst hus
      rw [array_one he]
      obtain ⟨V, h1, h2⟩ := sliceData_sound (w := w) (P := P) (ts := ts) (ty := ty) hX hv
      exact ⟨V, by simp only [builtin, Sem.run_bind, h1, Result.andThen_ok, Sem.run_pure], h2⟩
    · cases hv
  · cases hv

theorem typeAssert_sound (hE : EnvOK E P) {t xt : Nat} {x v : AV} {ok : Bool} {X : Value} (hX : RV γ x X)
    (hv : (match E.und t with
      | none => none
      | some (.interface _) => none
      | some _ => match some x with
        | some (.iface t' v) => match Nat.beq t' t with
          | true => some (if ok then .tup [v, .b true] else v)
          | false => match ok, E.zero t with
            | true, some z => some (.tup [z, .b false])
            | _, _ => none
        | some .inil => match ok, E.zero t with
          | true, some z => some (.tup [z, .b false])
          | _, _ => none
        | _ => none) = some v) : ∃ V, (Instr.typeAssert X xt t ok).run P w = .ok V w ∧ RV γ v V := by
  have hfail : ∀ z s d ms, E.zero t = some z → ok = true → ∃ V, (if ok = true then (do pure (.tuple #[← zeroValue t, .bool false])) else runtimePanic (.typeAssertion s d t ms) : Sem Value).run P w = .ok V w ∧ RV γ (.tup [z, .b false]) V := fun z s d ms hz ho => by
    obtain ⟨iz, Z, hiz, hizz, hZ⟩ := hE.zero hz
    exact ⟨.tuple #[Z, .bool false], by simp [ho, run_zeroValue' hiz hizz], ⟨[Z, .bool false], ⟨Z, _, RV.of_value γ Z z hZ, ⟨_, [], rfl, rfl, rfl⟩, rfl⟩, rfl⟩⟩
  split at hv
  · cases hv
  · cases hv
  · rename_i d hni hu
    have hU := hE.run_und hu w
    split at hv
    · rename_i t' u e
      cases e
      obtain ⟨U, hU', rfl⟩ := hX
      have hcase : (Instr.typeAssert (.iface t' U) xt t ok).run P w = (if t' = t then (pure (if ok then .tuple #[U, .bool true] else U) : Sem Value) else
          (if ok then (do pure (.tuple #[← zeroValue t, .bool false])) else runtimePanic (.typeAssertion (some xt) (some t') t ""))).run P w := by
        simp only [Instr.typeAssert, Sem.run_bind, hU, Result.andThen_ok]
      rw [hcase]
      split at hv
      · rename_i he
        have he := Nat.eq_of_beq_eq_true he
        cases hv
        rw [if_pos he]
        refine ⟨_, rfl, ?_⟩
        cases ok
        · simpa using hU'
        · simp only [if_true]; exact ⟨[U, .bool true], ⟨U, _, hU', ⟨_, [], rfl, rfl, rfl⟩, rfl⟩, rfl⟩
      · rename_i he
        have he := Nat.ne_of_beq_eq_false he
        rw [if_neg he]
        split at hv
        · rename_i z hz
          cases hv
          exact hfail z _ _ _ hz rfl
        · cases hv
    · rename_i e
      cases e
      cases hX
      have hcase : (Instr.typeAssert .nilIface xt t ok).run P w = (if ok then (do pure (.tuple #[← zeroValue t, .bool false])) else runtimePanic (.typeAssertion (some xt) none t "") : Sem Value).run P w := by
        simp only [Instr.typeAssert, Sem.run_bind, hU, Result.andThen_ok]
      rw [hcase]
      split at hv
      · rename_i z hz
        cases hv
        exact hfail z _ _ _ hz rfl
      · cases hv
    · cases hv

theorem quiet_sound (hE : EnvOK E P) (hF : RF γ F n a.tmps) (hH : RH E base γ h w) {o : Oper} {v : AV} (hq : quiet E F h o.op = some v) :
    ∃ V, (execOp a.eval o).run P w = .ok (.value V) w ∧ RV γ v V := by
  obtain ⟨dst, op, ty, pos, after, guard⟩ := o
  have hv : ∀ {s : Sem Value}, (∃ V, s.run P w = .ok V w ∧ RV γ v V) → ∃ V, (do pure (.value (← s)) : Sem Next).run P w = .ok (.value V) w ∧ RV γ v V := fun ⟨V, h1, h2⟩ =>
    ⟨V, by simp only [Sem.run_bind, h1, Result.andThen_ok, Sem.run_pure], h2⟩
  cases op <;> simp only [quiet] at hq <;> simp only [execOp]
  case move x => exact ⟨_, rfl, eval_sound hF hq⟩
  case assign x => exact ⟨_, rfl, eval_sound hF hq⟩
  case pick c x y =>
    split at hq
    · rename_i hc
      have h1 := eval_sound hF hc
      simp only [RV] at h1
      split at hq
      · cases hq
      · refine ⟨_, ?_, eval_sound hF hq⟩
        simp [h1, asBool]
    · rename_i hc
      have h1 := eval_sound hF hc
      simp only [RV] at h1
      split at hq
      · cases hq
      · refine ⟨_, ?_, eval_sound hF hq⟩
        simp [h1, asBool]
    · cases hq
  case load t x =>
    split at hq
    · cases hq
    · rename_i u hu
      exact hv (loadAt_sound hE hH (eval_sound hF hu) hq)
  case binOp op t x y yt =>
    split at hq
    · cases hq
    · rename_i p hp
      split at hq
      · cases hq
      · rename_i q hq'
        exact hv (binop_sound hE (eval_sound hF hp) (eval_sound hF hq') hq)
  case unOp op t x =>
    split at hq
    · cases hq
    · rename_i u hu
      exact hv (unop_sound (eval_sound hF hu) hq)
  case nilCheck x =>
    split at hq
    · cases hq
    · rename_i u hu
      have hX := eval_sound hF hu
      obtain ⟨rfl, h1, h2, h3, h4⟩ := nilCheck_sound hX hq
      refine ⟨_, ?_, hX⟩
      generalize a.eval x = X at *
      cases X with
      | pointer p => cases p with
        | none => exact absurd rfl h2
        | some p => rfl
      | nilIface => exact absurd rfl h3
      | nilFunc => exact absurd rfl h4
      | func f p c => cases f <;> first | rfl | exact absurd rfl (h1 _ _ _)
      | _ => rfl
  case fieldAddr s x f =>
    split at hq
    · cases hq
    · rename_i u hu
      exact hv (fieldAt_sound hE (eval_sound hF hu) hq)
  case field t x f =>
    split at hq
    · cases hq
    · rename_i u hu
      exact hv (field_sound hE (eval_sound hF hu) hq)
  case indexAddr t x i =>
    split at hq
    · cases hq
    · rename_i u hu
      split at hq
      · cases hq
      · rename_i j hj
        exact hv (indexAt_sound hE (eval_sound hF hu) (eval_sound hF hj) hq)
  case index t x i =>
    split at hq
    · cases hq
    · rename_i u hu
      split at hq
      · cases hq
      · rename_i j hj
        exact hv (index_sound hE (eval_sound hF hu) (eval_sound hF hj) hq)
  case extract x i =>
    split at hq
    · rename_i vs hvs
      obtain ⟨Vs, hVs, he⟩ := eval_sound hF hvs
      obtain ⟨V, h1, h2⟩ := hVs.get hq
      refine ⟨V, ?_, h2⟩
      rw [he]
      simp [Instr.extract, h1]
    · cases hq
  case build t ps =>
    split at hq
    · cases hq
    · rename_i vs hvs
      refine hv (build_sound (parts := vs) hE ?_ hq)
      have := evalParts_sound hF hvs
      simpa using this
  case slice t x lo hi mx =>
    split at hq
    · cases hq
    · rename_i u hu
      split at hq
      · cases hq
      · rename_i l hl
        split at hq
        · cases hq
        · rename_i hh hhh
          split at hq
          · cases hq
          · rename_i m hm
            exact hv (slice_sound hE (eval_sound hF hu) (evalO_sound hF hl) (evalO_sound hF hhh) (evalO_sound hF hm) hq)
  case convert s d x =>
    split at hq
    · cases hq
    · rename_i u hu
      unfold convertQ at hq
      split at hq
      · rename_i r hr
        cases hq
        exact hv (convertPure_sound hE (eval_sound hF hu) hr)
      · split at hq
        · rename_i r hr
          cases hq
          exact hv (convertRead_sound hE hH (eval_sound hF hu) hr)
        · exact hv (convertPtr_sound hE hH (eval_sound hF hu) hq)
  case makeInterface t x =>
    split at hq
    · cases hq
    · rename_i u hu
      split at hq
      · cases hq
      · cases hq
      · rename_i d hni hd
        cases hq
        refine hv ⟨.iface t (a.eval x), ?_, _, eval_sound hF hu, rfl⟩
        simp only [Instr.makeInterface, Sem.run_bind, hE.run_und hd, Result.andThen_ok]
        cases d <;> first | rfl | exact absurd rfl (hni _)
  case makeFunc f as cs =>
    split at hq
    · cases hq
    · rename_i us hus
      split at hq
      · cases hq
      · rename_i vs hvs
        cases hq
        refine hv ⟨_, rfl, _, _, evals_sound hF hus, evals_sound hF hvs, ?_⟩
        congr 1 <;> (apply Array.ext'; simp)
  case lookup t m k ok =>
    split at hq
    · cases hq
    · rename_i u hu
      split at hq
      · cases hq
      · rename_i j hj
        exact hv (lookup_sound hE hH (eval_sound hF hu) (eval_sound hF hj) hq)
  case typeAssert x xt t ok =>
    cases hx : eval F x with
    | none =>
      rw [hx] at hq
      split at hq
      · cases hq
      · cases hq
      · cases hq
    | some u =>
      rw [hx] at hq
      exact hv (typeAssert_sound hE (eval_sound hF hx) hq)
  case call c =>
    split at hq
    · rename_i b hc
      rw [resolve_builtin hc]
      exact quietBuiltin_sound hE hF hH hq
    · exact extCall_sound hE hF hq
    · cases hq
  all_goals cases hq
end
end Go.Vai
