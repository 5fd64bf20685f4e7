/- V1: part of the proof (own work of this claim). -/
import Derived.WalkKit
import Derived.Recover
set_option linter.unusedVariables false
set_option linter.unusedSimpArgs false
set_option linter.deprecated false
/- The values of the abstract interpreter, the trie that it keeps them in, and how an abstract value stands for a value of the model. -/
namespace Go.Vai
open Go

/-- A map from numbers, as a binary trie (least bit first). -/
inductive Tr (α : Type) where
  | nil
  | node (v : Option α) (l r : Tr α)

def Tr.get {α : Type} : Tr α → Nat → Option α
  | .nil, _ => none
  | .node v _ _, 0 => v
  | .node _ l r, k + 1 => match k % 2 with
    | 0 => l.get (k / 2)
    | _ + 1 => r.get (k / 2)

def Tr.setF {α : Type} : Nat → Tr α → Nat → Option α → Tr α
  | 0, t, _, _ => t
  | _ + 1, .nil, 0, x => .node x .nil .nil
  | _ + 1, .node _ l r, 0, x => .node x l r
  | f + 1, .nil, k + 1, x => match k % 2 with
    | 0 => .node none (Tr.setF f .nil (k / 2) x) .nil
    | _ + 1 => .node none .nil (Tr.setF f .nil (k / 2) x)
  | f + 1, .node v l r, k + 1, x => match k % 2 with
    | 0 => .node v (Tr.setF f l (k / 2) x) r
    | _ + 1 => .node v l (Tr.setF f r (k / 2) x)

def Tr.set {α : Type} (t : Tr α) (k : Nat) (x : Option α) : Tr α := Tr.setF (k + 1) t k x
def Tr.put {α : Type} (t : Tr α) (k : Nat) (x : α) : Tr α := t.set k (some x)

theorem Tr.get_setF {α : Type} : ∀ (f : Nat) (t : Tr α) (k : Nat) (x : Option α) (j : Nat), k < f →
    (Tr.setF f t k x).get j = if j = k then x else t.get j := by
  intro f
  induction f with
  | zero => intro t k x j h; omega
  | succ f ih =>
    intro t k x j h
    cases k with
    | zero =>
      cases t with
      | nil =>
        cases j with
        | zero => simp [Tr.setF, Tr.get]
        | succ j => simp only [Tr.setF, Tr.get]; split <;> simp
      | node v l r =>
        cases j with
        | zero => simp [Tr.setF, Tr.get]
        | succ j => simp [Tr.setF, Tr.get]
    | succ k =>
      have hk : k / 2 < f := by omega
      have e2 : ∀ m : Nat, m % 2 = 0 ∨ m % 2 = 1 := by omega
      cases t with
      | nil =>
        cases j with
        | zero =>
          rcases e2 k with h0 | h0 <;> simp [Tr.setF, Tr.get, h0]
        | succ j =>
          rcases e2 k with h0 | h0 <;> rcases e2 j with h1 | h1
          · simp only [Tr.setF, Tr.get, h0, h1, ih _ _ _ _ hk]
            by_cases e : j = k
            · subst e; simp
            · rw [if_neg (by omega), if_neg (by omega)]
          · simp only [Tr.setF, Tr.get, h0, h1]; rw [if_neg (by omega)]
          · simp only [Tr.setF, Tr.get, h0, h1]; rw [if_neg (by omega)]
          · simp only [Tr.setF, Tr.get, h0, h1, ih _ _ _ _ hk]
            by_cases e : j = k
            · subst e; simp
            · rw [if_neg (by omega), if_neg (by omega)]
      | node v l r =>
        cases j with
        | zero =>
          rcases e2 k with h0 | h0 <;> simp [Tr.setF, Tr.get, h0]
        | succ j =>
          rcases e2 k with h0 | h0 <;> rcases e2 j with h1 | h1
          · simp only [Tr.setF, Tr.get, h0, h1, ih _ _ _ _ hk]
            by_cases e : j = k
            · subst e; simp
            · rw [if_neg (by omega), if_neg (by omega)]
          · simp only [Tr.setF, Tr.get, h0, h1]; rw [if_neg (by omega)]
          · simp only [Tr.setF, Tr.get, h0, h1]; rw [if_neg (by omega)]
          · simp only [Tr.setF, Tr.get, h0, h1, ih _ _ _ _ hk]
            by_cases e : j = k
            · subst e; simp
            · rw [if_neg (by omega), if_neg (by omega)]

theorem Tr.get_set {α : Type} (t : Tr α) (k : Nat) (x : Option α) (j : Nat) : (t.set k x).get j = if j = k then x else t.get j :=
  Tr.get_setF (k + 1) t k x j (by omega)
theorem Tr.get_put {α : Type} (t : Tr α) (k : Nat) (x : α) (j : Nat) : (t.put k x).get j = if j = k then some x else t.get j := Tr.get_set t k _ j

/-- The capacity of a slice: known, or what its block has, less the elements that were cut off in front. -/
inductive Cap where
  | known (n : Nat)
  | rest (skip : Nat)

/-- Abstract values. Blocks have numbers of the interpreter's own. -/
inductive AV where
  | b (x : Bool)
  | n (k : IntKind) (x : Int)
  | s (bs : List Nat)
  | p (i o : Nat)
  | gp (g o : Nat)
  | pnil
  | sl (i o len : Nat) (c : Cap)
  | snil
  | m (i : Nat)
  | mnil
  | fn (f : Fn) (first captured : List AV)
  | fnil
  | iface (t : Nat) (v : AV)
  | inil
  | agg (cs : List AV)
  | tup (vs : List AV)

/-- Where a block of the interpreter's lies: the model's block, the cell at which it begins, and how many elements there is room for (of use only where a slice's capacity is not known). -/
structure Binf where
  block : Nat
  off : Nat
  cap : Nat

abbrev Gam := Nat → Option Binf

def mkBytes (bs : List Nat) : ByteArray := ⟨(bs.map UInt8.ofNat).toArray⟩

def Gam.le (γ γ' : Gam) : Prop := ∀ i b, γ i = some b → γ' i = some b

theorem Gam.le_refl (γ : Gam) : γ.le γ := fun _ _ h => h
theorem Gam.le_trans {γ γ' γ'' : Gam} (h : γ.le γ') (h' : γ'.le γ'') : γ.le γ'' := fun i b e => h' i b (h i b e)

mutual
/-- What an abstract value stands for. -/
def RV (γ : Gam) : AV → Value → Prop
  | .b x, V => V = .bool x
  | .n k x, V => V = .int k x
  | .s bs, V => V = .string (mkBytes bs) ∧ ∀ c ∈ bs, c < 256
  | .p i o, V => ∃ B, γ i = some B ∧ V = .pointer (some ⟨B.block, B.off + o, none⟩)
  | .gp g o, V => V = .pointer (some ⟨g, o, none⟩)
  | .pnil, V => V = .pointer none
  | .sl i o len (.known c), V => ∃ B, γ i = some B ∧ V = .slice (some ⟨B.block, B.off + o, none⟩) len c
  | .sl i o len (.rest k), V => ∃ B, γ i = some B ∧ V = .slice (some ⟨B.block, B.off + o, none⟩) len (B.cap - k) ∧ k + len ≤ B.cap
  | .snil, V => V = .slice none 0 0
  | .m i, V => ∃ B, γ i = some B ∧ V = .map (some B.block)
  | .mnil, V => V = .map none
  | .fn f a c, V => ∃ as cs, RVs γ a as ∧ RVs γ c cs ∧ V = .func f as.toArray cs.toArray
  | .fnil, V => V = .nilFunc
  | .iface t v, V => ∃ U, RV γ v U ∧ V = .iface t U
  | .inil, V => V = .nilIface
  | .agg cs, V => ∃ vs, RVs γ cs vs ∧ V = .agg vs.toArray
  | .tup cs, V => ∃ vs, RVs γ cs vs ∧ V = .tuple vs.toArray
def RVs (γ : Gam) : List AV → List Value → Prop
  | [], l => l = []
  | v :: vs, l => ∃ U us, RV γ v U ∧ RVs γ vs us ∧ l = U :: us
end

mutual
theorem RV.mono {γ γ' : Gam} (h : γ.le γ') : ∀ (v : AV) (V : Value), RV γ v V → RV γ' v V
  | .b x, V, r => r
  | .n k x, V, r => r
  | .s bs, V, r => r
  | .p i o, V, ⟨B, e, r⟩ => ⟨B, h _ _ e, r⟩
  | .gp g o, V, r => r
  | .pnil, V, r => r
  | .sl i o len (.known c), V, ⟨B, e, r⟩ => ⟨B, h _ _ e, r⟩
  | .sl i o len (.rest c), V, ⟨B, e, r⟩ => ⟨B, h _ _ e, r⟩
  | .snil, V, r => r
  | .m i, V, ⟨B, e, r⟩ => ⟨B, h _ _ e, r⟩
  | .mnil, V, r => r
  | .fn f a c, V, ⟨as, cs, ha, hc, r⟩ => ⟨as, cs, RVs.mono h a as ha, RVs.mono h c cs hc, r⟩
  | .fnil, V, r => r
  | .iface t v, V, ⟨U, hu, r⟩ => ⟨U, RV.mono h v U hu, r⟩
  | .inil, V, r => r
  | .agg cs, V, ⟨vs, hv, r⟩ => ⟨vs, RVs.mono h cs vs hv, r⟩
  | .tup cs, V, ⟨vs, hv, r⟩ => ⟨vs, RVs.mono h cs vs hv, r⟩
theorem RVs.mono {γ γ' : Gam} (h : γ.le γ') : ∀ (v : List AV) (V : List Value), RVs γ v V → RVs γ' v V
  | [], V, r => r
  | v :: vs, V, ⟨U, us, hu, hs, r⟩ => ⟨U, us, RV.mono h v U hu, RVs.mono h vs us hs, r⟩
end

theorem RVs.length {γ : Gam} : ∀ {v : List AV} {V : List Value}, RVs γ v V → V.length = v.length
  | [], V, r => by simp [RVs] at r; simp [r]
  | v :: vs, V, r => by
    obtain ⟨U, us, _, hs, rfl⟩ := r
    simp [RVs.length hs]

theorem RVs.get {γ : Gam} : ∀ {v : List AV} {V : List Value}, RVs γ v V → ∀ {i : Nat} {x : AV}, v[i]? = some x → ∃ X, V[i]? = some X ∧ RV γ x X
  | [], V, r, i, x, h => by simp at h
  | v :: vs, V, r, i, x, h => by
    obtain ⟨U, us, hu, hs, rfl⟩ := r
    cases i with
    | zero => simp at h; subst h; exact ⟨U, by simp, hu⟩
    | succ i => simp at h; simpa using RVs.get hs h

theorem RVs.append {γ : Gam} : ∀ {v : List AV} {V : List Value} {u : List AV} {U : List Value}, RVs γ v V → RVs γ u U → RVs γ (v ++ u) (V ++ U)
  | [], V, u, U, r, h => by simp [RVs] at r; subst r; simpa using h
  | v :: vs, V, u, U, r, h => by
    obtain ⟨X, us, hu, hs, rfl⟩ := r
    exact ⟨X, us ++ U, hu, RVs.append hs h, rfl⟩

mutual
/-- A value without addresses, as an abstract one. -/
def ofValue : Value → Option AV
  | .bool x => some (.b x)
  | .int k x => some (.n k x)
  | .string x => some (.s (x.data.toList.map UInt8.toNat))
  | .pointer none => some .pnil
  | .slice none 0 0 => some .snil
  | .map none => some .mnil
  | .nilFunc => some .fnil
  | .nilIface => some .inil
  | .iface t v => (ofValue v).map (.iface t)
  | .agg ⟨cs⟩ => (ofValues cs).map .agg
  | .tuple ⟨cs⟩ => (ofValues cs).map .tup
  | _ => none
def ofValues : List Value → Option (List AV)
  | [] => some []
  | v :: vs => match ofValue v with
    | none => none
    | some x => match ofValues vs with
      | none => none
      | some xs => some (x :: xs)
end

theorem mkBytes_toNat (x : ByteArray) : mkBytes (x.data.toList.map UInt8.toNat) = x := by
  unfold mkBytes
  rw [List.map_map]
  have : (UInt8.ofNat ∘ UInt8.toNat) = id := by funext c; simp
  rw [this]; simp

mutual
theorem RV.of_value (γ : Gam) : ∀ (V : Value) (v : AV), ofValue V = some v → RV γ v V
  | .bool x, v, h => by simp [ofValue] at h; subst h; rfl
  | .int k x, v, h => by simp [ofValue] at h; subst h; rfl
  | .string x, v, h => by
    simp [ofValue] at h; subst h
    refine ⟨by rw [mkBytes_toNat], fun c hc => ?_⟩
    obtain ⟨u, _, rfl⟩ := List.mem_map.1 hc
    exact u.toNat_lt
  | .pointer none, v, h => by simp [ofValue] at h; subst h; rfl
  | .pointer (some a), v, h => by simp [ofValue] at h
  | .slice none 0 0, v, h => by simp [ofValue] at h; subst h; rfl
  | .slice none 0 (_ + 1), v, h => by simp [ofValue] at h
  | .slice none (_ + 1) _, v, h => by simp [ofValue] at h
  | .slice (some a) _ _, v, h => by simp [ofValue] at h
  | .map none, v, h => by simp [ofValue] at h; subst h; rfl
  | .map (some r), v, h => by simp [ofValue] at h
  | .nilFunc, v, h => by simp [ofValue] at h; subst h; rfl
  | .nilIface, v, h => by simp [ofValue] at h; subst h; rfl
  | .iface t u, v, h => by
    simp only [ofValue, Option.map_eq_some_iff] at h
    obtain ⟨x, hx, rfl⟩ := h
    exact ⟨u, RV.of_value γ u x hx, rfl⟩
  | .agg ⟨cs⟩, v, h => by
    simp only [ofValue, Option.map_eq_some_iff] at h
    obtain ⟨x, hx, rfl⟩ := h
    exact ⟨cs, RVs.of_values γ cs x hx, rfl⟩
  | .tuple ⟨cs⟩, v, h => by
    simp only [ofValue, Option.map_eq_some_iff] at h
    obtain ⟨x, hx, rfl⟩ := h
    exact ⟨cs, RVs.of_values γ cs x hx, rfl⟩
  | .float _ _, v, h => by simp [ofValue] at h
  | .complex _ _ _, v, h => by simp [ofValue] at h
  | .chan _, v, h => by simp [ofValue] at h
  | .func _ _ _, v, h => by simp [ofValue] at h
theorem RVs.of_values (γ : Gam) : ∀ (V : List Value) (v : List AV), ofValues V = some v → RVs γ v V
  | [], v, h => by simp [ofValues] at h; subst h; rfl
  | V :: Vs, v, h => by
    simp only [ofValues] at h
    split at h
    · cases h
    · rename_i x hx
      split at h
      · cases h
      · rename_i xs hxs
        simp at h; subst h
        exact ⟨V, Vs, RV.of_value γ V x hx, RVs.of_values γ Vs xs hxs, rfl⟩
end

end Go.Vai

/- The abstract interpreter: what it computes. -/
namespace Go.Vai
open Go

/-- A block. 'cells': its element type, its known cells 0 .. n - 1; 'grow = some size': it lies at the end of a slice that append made (elements of that many cells), what lies behind is not known; cells below 'fz' may be frozen; 'ish': it must not be frozen any more. -/
inductive Blk where
  | cells (elem : Nat) (cs : Tr AV) (n : Nat) (grow : Option Nat) (fz : Nat) (ish : Bool)
  | map (es : List (AV × AV × Nat)) (clock : Nat)
  | iter (bs : List Nat) (pos : Nat)

structure Heap where
  nx : Nat
  bl : Tr Blk

structure Env where
  tys : Tr TypeInfo
  fns : Tr Func
  glob : Nat → Nat → Option AV
  ext : Tr Nat
  eqs : Tr Unit
  lies : List (Nat × Nat × Nat)

section
variable (E : Env)

def Env.und (t : Nat) : Option TypeDesc :=
  match E.tys.get t with
  | none => none
  | some i => match i.desc with
    | .named _ u => match E.tys.get u with
      | none => none
      | some j => some j.desc
    | d => some d

def Env.size (t : Nat) : Option Nat :=
  match E.tys.get t with
  | none => none
  | some i => some i.size

def Env.bytes (t : Nat) : Option Nat :=
  match E.tys.get t with
  | none => none
  | some i => some i.bytes

/-- The zero value's cells. -/
def Env.zero (t : Nat) : Option AV :=
  match E.tys.get t with
  | none => none
  | some i => match i.zero with
    | none => none
    | some z => ofValue z

def vcells : AV → List AV
  | .agg cs => cs
  | v => [v]

def scalar : AV → Bool
  | .agg _ => false
  | .tup _ => false
  | _ => true

/-- none: no such type; some true: a struct or an array. -/
def Env.agg (t : Nat) : Option Bool :=
  match E.und t with
  | none => none
  | some (.struct _) => some true
  | some (.array _ _) => some true
  | some _ => some false

def eval (F : Tr AV) : Operand → Option AV
  | .tmp t => F.get t
  | .const v => ofValue v
  | .global g => some (.gp g 0)
  | .func f => some (.fn (.func f) [] [])

def evals (F : Tr AV) : List Operand → Option (List AV)
  | [] => some []
  | x :: xs => match eval F x with
    | none => none
    | some v => match evals F xs with
      | none => none
      | some vs => some (v :: vs)

def evalParts (F : Tr AV) : List (Nat × Operand) → Option (List (Nat × AV))
  | [] => some []
  | (i, x) :: xs => match eval F x with
    | none => none
    | some v => match evalParts F xs with
      | none => none
      | some vs => some ((i, v) :: vs)

def evalO (F : Tr AV) : Option Operand → Option (Option AV)
  | none => some none
  | some x => match eval F x with
    | none => none
    | some v => some (some v)

def loadCells (cs : Tr AV) (o : Nat) : Nat → Option (List AV)
  | 0 => some []
  | n + 1 => match cs.get o with
    | none => none
    | some v => match loadCells cs (o + 1) n with
      | none => none
      | some vs => some (v :: vs)

def storeCells (cs : Tr AV) (o : Nat) : List AV → Option (Tr AV)
  | [] => some cs
  | v :: vs => match scalar v with
    | false => none
    | true => match cs.get o with
      | none => none
      | some _ => storeCells (cs.put o v) (o + 1) vs

def fillCells (cs : Tr AV) (o : Nat) : List AV → Tr AV
  | [] => cs
  | v :: vs => fillCells (cs.put o v) (o + 1) vs

def globCells (g o : Nat) : Nat → Option (List AV)
  | 0 => some []
  | n + 1 => match E.glob g o with
    | none => none
    | some v => match globCells g (o + 1) n with
      | none => none
      | some vs => some (v :: vs)

def Heap.alloc (h : Heap) (b : Blk) : Heap := ⟨h.nx + 1, h.bl.put h.nx b⟩
def Heap.row (h : Heap) (elem : Nat) (cs : List AV) : Heap := h.alloc (.cells elem (fillCells .nil 0 cs) cs.length none 0 false)

def loadAt (h : Heap) (t : Nat) (a : AV) : Option AV :=
  match a with
  | .p i o => match h.bl.get i with
    | some (.cells _ cs _ _ _ _) => match E.agg t with
      | none => none
      | some false => cs.get o
      | some true => match E.size t with
        | none => none
        | some n => match loadCells cs o n with
          | none => none
          | some vs => some (.agg vs)
    | _ => none
  | .gp g o => match E.agg t with
    | none => none
    | some false => E.glob g o
    | some true => match E.size t with
      | none => none
      | some n => match globCells E g o n with
        | none => none
        | some vs => some (.agg vs)
  | _ => none

def storeRaw (h : Heap) (i o : Nat) (vs : List AV) : Option Heap :=
  match h.bl.get i with
  | some (.cells e cs n gr fz ish) => match Nat.ble fz o with
    | false => none
    | true => match storeCells cs o vs with
      | none => none
      | some cs' => some ⟨h.nx, h.bl.put i (.cells e cs' n gr fz ish)⟩
  | _ => none

def storeAt (h : Heap) (t : Nat) (a v : AV) : Option Heap :=
  match a with
  | .p i o => match E.size t with
    | none => none
    | some n => match Nat.beq (vcells v).length n with
      | false => none
      | true => storeRaw h i o (vcells v)
  | _ => none

def overwrite (cells : List AV) (off : Nat) (vs : List AV) : List AV :=
  cells.take off ++ vs ++ cells.drop (off + vs.length)

def fill (place : Nat → Option (Nat × Nat)) (cells : List AV) : List (Nat × AV) → Option (List AV)
  | [] => some cells
  | (i, v) :: rest =>
    match place i with
    | none => none
    | some (off, size) => match Nat.beq (vcells v).length size with
      | false => none
      | true => match Nat.ble (off + (vcells v).length) cells.length with
        | false => none
        | true => fill place (overwrite cells off (vcells v)) rest

/-- Where the fields of a struct lie. -/
def places : List Field → Option (List (Nat × Nat))
  | [] => some []
  | f :: fs => match E.size f.type with
    | none => none
    | some n => match places fs with
      | none => none
      | some ps => some ((f.offset, n) :: ps)

/-- n times over. -/
def cycle (z : List AV) : Nat → List AV
  | 0 => []
  | n + 1 => z ++ cycle z n

def build (t : Nat) (parts : List (Nat × AV)) : Option AV :=
  match E.zero t with
  | none => none
  | some z => match E.und t with
    | some (.struct fields) => match places E fields.toList with
      | none => none
      | some ps => match fill (fun i => ps[i]?) (vcells z) parts with
        | none => none
        | some cs => some (.agg cs)
    | some (.array _ elem) => match E.size elem with
      | none => none
      | some n => match fill (fun i => some (i * n, n)) (vcells z) parts with
        | none => none
        | some cs => some (.agg cs)
    | _ => none

/-- The element type and the cells of a slice that is written out. -/
def buildSlice (t len : Nat) (parts : List (Nat × AV)) : Option (Nat × List AV) :=
  match E.und t with
  | some (.slice elem) => match E.size elem with
    | none => none
    | some n => match Nat.ble (len * n) 16777216 with
      | false => none
      | true => match E.zero elem with
        | none => none
        | some z => match Nat.beq (vcells z).length n with
          | false => none
          | true => match fill (fun i => some (i * n, n)) (cycle (vcells z) len) parts with
            | none => none
            | some cs => some (elem, cs)
  | _ => none

def part (t : Nat) (cs : List AV) (off : Nat) : Option AV :=
  match E.agg t with
  | none => none
  | some false => cs[off]?
  | some true => match E.size t with
    | none => none
    | some n => match Nat.ble (off + n) cs.length with
      | false => none
      | true => some (.agg ((cs.drop off).take n))

/-! ### Numbers and strings -/

def wrap (k : IntKind) (x : Int) : Int :=
  match x with
  | .ofNat n => match Nat.ble n 127 with
    | true => x
    | false => match k with
      | .i64 => match Nat.ble n 9223372036854775807 with
        | true => x
        | false => k.wrap x
      | _ => k.wrap x
  | .negSucc n => match k with
    | .i64 => match Nat.ble n 9223372036854775807 with
      | true => x
      | false => k.wrap x
    | _ => k.wrap x

def beqL : List Nat → List Nat → Bool
  | [], [] => true
  | a :: x, b :: y => match Nat.beq a b with
    | true => beqL x y
    | false => false
  | _, _ => false

def ltL : List Nat → List Nat → Bool
  | _, [] => false
  | [], _ :: _ => true
  | a :: x, b :: y => match Nat.blt a b with
    | true => true
    | false => match Nat.beq a b with
      | true => ltL x y
      | false => false

def beqI : Int → Int → Bool
  | .ofNat a, .ofNat b => Nat.beq a b
  | .negSucc a, .negSucc b => Nat.beq a b
  | _, _ => false

def ltI : Int → Int → Bool
  | .ofNat a, .ofNat b => Nat.blt a b
  | .negSucc a, .negSucc b => Nat.blt b a
  | .negSucc _, .ofNat _ => true
  | .ofNat _, .negSucc _ => false

def kindB : IntKind → IntKind → Bool
  | .i8, .i8 | .i16, .i16 | .i32, .i32 | .i64, .i64 | .u8, .u8 | .u16, .u16 | .u32, .u32 | .u64, .u64 => true
  | _, _ => false

def intOp (op : BinOp) (k : IntKind) (a b : Int) : Option AV :=
  match op with
  | .add => some (.n k (wrap k (a + b)))
  | .sub => some (.n k (wrap k (a - b)))
  | .mul => some (.n k (wrap k (a * b)))
  | .quo => match beqI b 0 with
    | true => none
    | false => some (.n k (wrap k (a.tdiv b)))
  | .rem => match beqI b 0 with
    | true => none
    | false => some (.n k (a.tmod b))
  | .and => some (.n k (k.wrap ((BitVec.ofInt k.bits a) &&& (BitVec.ofInt k.bits b)).toNat))
  | .or => some (.n k (k.wrap ((BitVec.ofInt k.bits a) ||| (BitVec.ofInt k.bits b)).toNat))
  | .xor => some (.n k (k.wrap ((BitVec.ofInt k.bits a) ^^^ (BitVec.ofInt k.bits b)).toNat))
  | .andNot => some (.n k (k.wrap ((BitVec.ofInt k.bits a) &&& ~~~(BitVec.ofInt k.bits b)).toNat))
  | .eql => some (.b (beqI a b))
  | .neq => some (.b (!beqI a b))
  | .lss => some (.b (ltI a b))
  | .leq => some (.b (!ltI b a))
  | .gtr => some (.b (ltI b a))
  | .geq => some (.b (!ltI a b))
  | _ => none

def shiftOp (op : BinOp) (k : IntKind) (a b : Int) : Option AV :=
  match b with
  | .negSucc _ => none
  | .ofNat n => match op with
    | .shl => some (.n k (wrap k (a * 2 ^ (min n k.bits))))
    | .shr => some (.n k (a.fdiv (2 ^ (min n k.bits))))
    | _ => none

def strOp (op : BinOp) (a b : List Nat) : Option AV :=
  match op with
  | .add => match Nat.ble (a.length + b.length) 9223372036854775807 with
    | true => some (.s (a ++ b))
    | false => none
  | .eql => some (.b (beqL a b))
  | .neq => some (.b (!beqL a b))
  | .lss => some (.b (ltL a b))
  | .leq => some (.b (ltL a b || beqL a b))
  | .gtr => some (.b (!(ltL a b || beqL a b)))
  | .geq => some (.b (!ltL a b))
  | _ => none

/-- Does the type name a struct whose '==' the model lets by? -/
def eqOk (t : Nat) : Bool :=
  match E.eqs.get t with
  | some _ => true
  | none => false

/-- The fields of two structs, one after the other. -/
def equalFields (eq : Nat → AV → AV → Option Bool) (xs ys : List AV) : List Field → Option Bool
  | [] => some true
  | f :: fs => match f.name == "_" with
    | true => equalFields eq xs ys fs
    | false => match part E f.type xs f.offset with
      | none => none
      | some x => match part E f.type ys f.offset with
        | none => none
        | some y => match eq f.type x y with
          | none => none
          | some false => some false
          | some true => equalFields eq xs ys fs

/-- '==' where it needs no memory: plain values; values of which one is nil; structs of such fields. -/
def equalIn : Nat → Nat → AV → AV → Option Bool
  | 0, _, _, _ => none
  | d + 1, t, x, y => match E.und t with
    | none => none
    | some u => match u, x, y with
      | .bool, .b a, .b b => some (a == b)
      | .int _, .n k a, .n k' b => match kindB k k' with
        | true => some (beqI a b)
        | false => none
      | .string, .s a, .s b => some (beqL a b)
      | .pointer _, .pnil, .pnil => some true
      | .pointer _, .pnil, .p _ _ => some false
      | .pointer _, .p _ _, .pnil => some false
      | .pointer e, .p i o, .p j q => match Nat.beq i j, E.size e with
        | true, some (_ + 1) => some (Nat.beq o q)
        | _, _ => none
      | .slice _, .snil, .snil => some true
      | .slice _, .snil, .sl _ _ _ _ => some false
      | .slice _, .sl _ _ _ _, .snil => some false
      | .map _ _, .mnil, .mnil => some true
      | .map _ _, .mnil, .m _ => some false
      | .map _ _, .m _, .mnil => some false
      | .func _ _ _, .fnil, .fnil => some true
      | .func _ _ _, .fnil, .fn _ _ _ => some false
      | .func _ _ _, .fn _ _ _, .fnil => some false
      | .interface _, .inil, .inil => some true
      | .interface _, .inil, .iface _ _ => some false
      | .interface _, .iface _ _, .inil => some false
      | .struct fields, .agg xs, .agg ys => match eqOk E t with
        | false => none
        | true => equalFields E (equalIn d) xs ys fields.toList
      | _, _, _ => none

def isAggV : AV → Bool
  | .agg _ => true
  | _ => false

def isConstOp : Operand → Bool
  | .const _ => true
  | _ => false

def bothNil : AV → AV → Bool
  | .inil, .inil => true
  | _, _ => false

def binop (op : BinOp) (t : Nat) (x y : Operand) (a b : AV) : Option AV :=
  match a, b with
  | .n k m, .n k' n => match op with
    | .shl => shiftOp .shl k m n
    | .shr => shiftOp .shr k m n
    | _ => match kindB k k' with
      | true => intOp op k m n
      | false => none
  | .s m, .s n => strOp op m n
  | _, _ => match op with
    | .eql => match (bothNil a b && !(isConstOp x || isConstOp y)) || (isAggV a && !eqOk E t) with
      | true => none
      | false => match equalIn E 8 t a b with
        | none => none
        | some r => some (.b r)
    | .neq => match (bothNil a b && !(isConstOp x || isConstOp y)) || (isAggV a && !eqOk E t) with
      | true => none
      | false => match equalIn E 8 t a b with
        | none => none
        | some r => some (.b (!r))
    | _ => none

def unop (op : UnOp) (x : AV) : Option AV :=
  match op, x with
  | .not, .b v => some (.b (!v))
  | .neg, .n k v => some (.n k (wrap k (0 - v)))
  | .xor, .n k v => intOp .xor k (if k.signed then -1 else k.max) v
  | _, _ => none

def bytesOf : List AV → Option (List Nat)
  | [] => some []
  | .n .u8 x :: vs => match bytesOf vs with
    | none => none
    | some bs => some (x.toNat % 256 :: bs)
  | _ => none

def toBytes : List Nat → List AV
  | [] => []
  | b :: bs => .n .u8 (Int.ofNat b) :: toBytes bs

/-- Conversions that make no memory and read none. -/
def convertPure (src dst : Nat) (x : AV) : Option AV :=
  match E.und src with
  | none => none
  | some us => match E.und dst with
    | none => none
    | some ud => match ud, x with
      | .int k, .n _ n => some (.n k (wrap k n))
      | .string, .s s => some (.s s)
      | .string, .n _ n => some (.s ((Utf8.encode n).data.toList.map UInt8.toNat))
      | _, _ => none

def sliceCells (h : Heap) (size n : Nat) : AV → Option (List AV)
  | .snil => some []
  | .sl i o len _ => match Nat.ble n len with
    | false => none
    | true => match h.bl.get i with
      | some (.cells _ cs _ _ _ _) => loadCells cs o (n * size)
      | _ => none
  | _ => none

/-! ### Slices, fields, indexes -/

def natOf : AV → Option Nat
  | .n _ (.ofNat n) => some n
  | _ => none

/-- A bound that may be left out. -/
def orNat (d : Nat) : Option AV → Option Nat
  | none => some d
  | some v => natOf v

def sliceStr (s : List Nat) (lo hi : Option AV) : Option AV :=
  match orNat 0 lo, orNat s.length hi with
  | some l, some h => match Nat.ble l h && Nat.ble h s.length with
    | true => some (.s ((s.take h).drop l))
    | false => none
  | _, _ => none

def sliceSl (size : Nat) (i o len : Nat) (c : Cap) (lo hi mx : Option AV) : Option AV :=
  match orNat 0 lo, orNat len hi with
  | some l, some h => match mx with
    | none => match c with
      | .known c => match Nat.ble l h && Nat.ble h c with
        | false => none
        | true => match Nat.beq c l with
          | true => some (.sl i o (h - l) (.known 0))
          | false => some (.sl i (o + l * size) (h - l) (.known (c - l)))
      | .rest k => match Nat.ble l h && Nat.ble h len with
        | false => none
        | true => match Nat.beq l 0 with
          | true => some (.sl i o h (.rest k))
          | false => match Nat.blt l len with
            | true => some (.sl i (o + l * size) (h - l) (.rest (k + l)))
            | false => none
    | some mv => match natOf mv with
      | none => none
      | some m => match Nat.ble l h && Nat.ble h m && (match c with | .known c => Nat.ble m c | .rest _ => Nat.ble m len) with
        | false => none
        | true => match hi.isSome with
          | false => none
          | true => match Nat.beq m l with
            | true => some (.sl i o (h - l) (.known 0))
            | false => some (.sl i (o + l * size) (h - l) (.known (m - l)))
  | _, _ => none

def nilOrZero (lo : Option AV) : Bool :=
  match lo with
  | none => true
  | some v => match natOf v with
    | some 0 => true
    | _ => false

def slice (t : Nat) (x : AV) (lo hi mx : Option AV) : Option AV :=
  match E.und t with
  | some .string => match x, mx with
    | .s s, none => sliceStr s lo hi
    | _, _ => none
  | some (.slice elem) => match E.size elem with
    | none => none
    | some n => match x with
      | .sl i o len c => sliceSl n i o len c lo hi mx
      | .snil => match nilOrZero lo && nilOrZero hi && mx.isNone with
        | true => some .snil
        | false => none
      | _ => none
  | _ => none

def fieldAt (s : Nat) (x : AV) (f : Nat) : Option AV :=
  match E.und s with
  | some (.struct fields) => match fields.toList[f]? with
    | none => none
    | some fd => match E.size fd.type with
      | some (_ + 1) => match x with
        | .p i o => some (.p i (o + fd.offset))
        | .gp g o => some (.gp g (o + fd.offset))
        | _ => none
      | _ => none
  | _ => none

def field (t : Nat) (x : AV) (f : Nat) : Option AV :=
  match E.und t with
  | some (.struct fields) => match fields.toList[f]? with
    | none => none
    | some fd => match x with
      | .agg cs => part E fd.type cs fd.offset
      | _ => none
  | _ => none

def indexAt (t : Nat) (x ix : AV) : Option AV :=
  match natOf ix with
  | none => none
  | some n => match E.und t with
    | some (.slice elem) => match E.size elem with
      | none => none
      | some sz => match x with
        | .sl i o len _ => match Nat.blt n len with
          | true => some (.p i (o + n * sz))
          | false => none
        | _ => none
    | some (.array len elem) => match E.size elem with
      | none => none
      | some sz => match Nat.blt n len with
        | false => none
        | true => match x with
          | .p i o => some (.p i (o + n * sz))
          | .gp g o => some (.gp g (o + n * sz))
          | _ => none
    | _ => none

def index (t : Nat) (x ix : AV) : Option AV :=
  match natOf ix with
  | none => none
  | some n => match E.und t with
    | some .string => match x with
      | .s s => match s[n]? with
        | some c => some (.n .u8 (Int.ofNat c))
        | none => none
      | _ => none
    | some (.array len elem) => match Nat.blt n len with
      | false => none
      | true => match E.size elem with
        | none => none
        | some sz => match x with
          | .agg cs => part E elem cs (n * sz)
          | _ => none
    | _ => none

def nilCheck : AV → Option AV
  | .p i o => some (.p i o)
  | .gp g o => some (.gp g o)
  | .fn (.func f) a c => some (.fn (.func f) a c)
  | .sl i o n c => some (.sl i o n c)
  | _ => none

/-! ### Maps -/

/-- Keys that are plain: numbers, strings, bools. -/
def sameKey (kind : TypeDesc) (a b : AV) : Option Bool :=
  match kind, a, b with
  | .int _, .n k x, .n k' y => match kindB k k' with
    | true => some (beqI x y)
    | false => none
  | .string, .s x, .s y => some (beqL x y)
  | .bool, .b x, .b y => some (x == y)
  | _, _, _ => none

def findKey (kind : TypeDesc) (k : AV) : List (AV × AV × Nat) → Nat → Option (Option (Nat × AV))
  | [], _ => some none
  | (k', v, _) :: es, i => match sameKey kind k k' with
    | some true => some (some (i, v))
    | some false => findKey kind k es (i + 1)
    | none => none

def plainKind : TypeDesc → Bool
  | .int _ => true
  | .string => true
  | .bool => true
  | _ => false

def lookup (h : Heap) (t : Nat) (m k : AV) (ok : Bool) : Option AV :=
  match E.und t with
  | some (.map kt et) => match E.und kt with
    | none => none
    | some kind => match plainKind kind with
      | false => none
      | true => match E.zero et with
        | none => none
        | some z => match m with
          | .mnil => some (if ok then .tup [z, .b false] else z)
          | .m i => match h.bl.get i with
            | some (.map es _) => match findKey kind k es 0 with
              | none => none
              | some none => some (if ok then .tup [z, .b false] else z)
              | some (some (_, v)) => some (if ok then .tup [v, .b true] else v)
            | _ => none
          | _ => none
  | _ => none

def setVal : List (AV × AV × Nat) → Nat → AV → AV → List (AV × AV × Nat)
  | [], _, _, _ => []
  | (_, _, b) :: es, 0, k, v => (k, v, b) :: es
  | e :: es, i + 1, k, v => e :: setVal es i k v

def mapUpdate (h : Heap) (t : Nat) (m k v : AV) : Option Heap :=
  match E.und t with
  | some (.map kt _) => match E.und kt with
    | none => none
    | some kind => match plainKind kind with
      | false => none
      | true => match m with
        | .m i => match h.bl.get i with
          | some (.map es clock) => match findKey kind k es 0 with
            | none => none
            | some none => some ⟨h.nx, h.bl.put i (.map (es ++ [(k, v, clock)]) (clock + 1))⟩
            | some (some (j, _)) => some ⟨h.nx, h.bl.put i (.map (setVal es j k v) clock)⟩
          | _ => none
        | _ => none
  | _ => none

/-! ### Built-in functions -/

def scalars : List AV → Bool
  | [] => true
  | v :: vs => match scalar v with
    | true => scalars vs
    | false => false

/-- The cells of what is appended, and of how many elements they are. -/
def source (h : Heap) (sz : Nat) (x : AV) : Option (List AV × Nat) :=
  match x with
  | .snil => some ([], 0)
  | .sl _ _ n _ => match sliceCells h sz n x with
    | none => none
    | some vs => some (vs, n)
  | .s bs => match Nat.beq sz 1 with
    | true => some (toBytes bs, bs.length)
    | false => none
  | _ => none

/-- A slice of a new block of its own, which append made. -/
def grown (h : Heap) (elem sz m : Nat) (vs : List AV) : AV × Heap :=
  (.sl h.nx 0 m (.rest 0), h.alloc (.cells elem (fillCells .nil 0 vs) vs.length (some sz) 0 false))

def append (h : Heap) (ts : List Nat) (s x : AV) : Option (AV × Heap) :=
  match ts with
  | st :: xt :: _ => match E.und st with
    | some (.slice elem) => match E.und xt with
      | none => none
      | some (.int _) => none
      | some _ => match E.size elem with
        | none => none
        | some sz => match E.bytes elem with
          | none => none
          | some by_ => match E.zero elem with
            | none => none
            | some z => match Nat.beq (vcells z).length sz with
              | false => none
              | true => match source h sz x with
                | none => none
                | some (new, n) => match s with
                  | .snil => match Nat.ble (n * by_) 140737488355328 && Nat.ble n 9223372036854775807 with
                    | false => none
                    | true => match n with
                      | 0 => some (.snil, h)
                      | _ => some (grown h elem sz n new)
                  | .sl i o len c => match Nat.ble ((len + n) * by_) 140737488355328 && Nat.ble (len + n) 9223372036854775807 with
                    | false => none
                    | true => match c with
                      | .known c => match Nat.ble (len + n) c with
                        | true => match storeRaw h i (o + len * sz) new with
                          | none => none
                          | some h' => some (.sl i o (len + n) (.known c), h')
                        | false => match sliceCells h sz len s with
                          | none => none
                          | some old => some (grown h elem sz (len + n) (old ++ new))
                      | .rest k => match n with
                        | 0 => some (.sl i o len (.rest k), h)
                        | _ => match h.bl.get i with
                          | some (.cells e cs _ (some sz') fz ish) => match Nat.beq sz sz' && Nat.beq e elem && Nat.ble fz (o + len * sz) && Nat.beq o (k * sz) && scalars new with
                            | false => none
                            | true => match loadCells cs o (len * sz) with
                              | none => none
                              | some old => some (.sl h.nx 0 (len + n) (.rest 0),
                                  ⟨h.nx + 1, (h.bl.set i none).put h.nx (.cells elem (fillCells .nil 0 (old ++ new)) (old ++ new).length (some sz) (fz - o) ish)⟩)
                          | _ => none
                  | _ => none
    | _ => none
  | _ => none

def lenOf (h : Heap) (t : Nat) (x : AV) : Option AV :=
  match E.und t with
  | some .string => match x with
    | .s s => some (.n .i64 (Int.ofNat s.length))
    | _ => none
  | some (.array n _) => some (.n .i64 (Int.ofNat n))
  | some (.slice _) => match x with
    | .sl _ _ n _ => some (.n .i64 (Int.ofNat n))
    | .snil => some (.n .i64 0)
    | _ => none
  | some (.map _ _) => match x with
    | .mnil => some (.n .i64 0)
    | .m i => match h.bl.get i with
      | some (.map es _) => some (.n .i64 (Int.ofNat es.length))
      | _ => none
    | _ => none
  | _ => none

def max2 : AV → AV → Option AV
  | .n k x, .n _ y => some (.n k (if ltI x y then y else x))
  | _, _ => none
def min2 : AV → AV → Option AV
  | .n k x, .n _ y => some (.n k (if ltI y x then y else x))
  | _, _ => none
def fold2 (f : AV → AV → Option AV) : AV → List AV → Option AV
  | x, [] => some x
  | x, y :: ys => match f x y with
    | none => none
    | some z => fold2 f z ys

def zeros (z : List AV) (n : Nat) : List AV := cycle z n

def clearSl (h : Heap) (t : Nat) (x : AV) : Option Heap :=
  match x with
  | .snil => some h
  | .sl i o n _ => match n with
    | 0 => some h
    | _ => match E.und t with
      | some (.slice elem) => match E.zero elem with
        | none => none
        | some z => match E.size elem with
          | none => none
          | some sz => match Nat.beq (vcells z).length sz with
            | false => none
            | true => storeRaw h i o (cycle (vcells z) n)
      | _ => none
  | _ => none

def copyLen : AV → Option Nat
  | .snil => some 0
  | .sl _ _ n _ => some n
  | .s bs => some bs.length
  | _ => none

def copySrc (h : Heap) (sz n : Nat) : AV → Option (List AV)
  | .s bs => some (toBytes (bs.take n))
  | s => sliceCells h sz n s

def copy (h : Heap) (t : Nat) (d s : AV) : Option (AV × Heap) :=
  match E.und t with
  | some (.slice elem) => match E.size elem with
    | none => none
    | some sz => match copyLen s with
      | none => none
      | some sn => match d with
        | .snil => some (.n .i64 0, h)
        | .sl i o dn _ => match copySrc h sz (Nat.min sn dn) s with
          | none => none
          | some cs => match storeRaw h i o cs with
            | none => none
            | some h' => some (.n .i64 (Int.ofNat (Nat.min sn dn)), h')
        | _ => none
  | _ => none

def makeSlice (h : Heap) (t : Nat) (l c : AV) : Option (AV × Heap) :=
  match E.und t with
  | some (.slice elem) => match natOf l with
    | none => none
    | some l => match natOf c with
      | none => none
      | some c => match E.bytes elem with
        | none => none
        | some by_ => match Nat.ble l c && Nat.ble (by_ * c) 140737488355328 && Nat.ble c 9223372036854775807 with
          | false => none
          | true => match E.size elem with
            | none => none
            | some sz => match E.zero elem with
              | none => none
              | some z => match Nat.beq (vcells z).length sz with
                | false => none
                | true => some (.sl h.nx 0 l (.known c), h.row elem (cycle (vcells z) c))
  | _ => none

/-- strings.Builder's String: unsafe.String(unsafe.SliceData(buf), len(buf)) over a buffer of bytes. -/
def sliceData (x : AV) : Option AV :=
  match x with
  | .snil => some .pnil
  | .sl i o (_ + 1) (.known (_ + 1)) => some (.p i o)
  | .sl i o (_ + 1) (.rest _) => some (.p i o)
  | _ => none

def isByte (t : Nat) : Bool :=
  match E.und t with
  | some (.int .u8) => true
  | _ => false

def unsafeString (h : Heap) (pt : Nat) (x n : AV) : Option (AV × Heap) :=
  match natOf n with
  | none => none
  | some 0 => match x with
    | .pnil => some (.s [], h)
    | .p _ _ => some (.s [], h)
    | _ => none
  | some n => match x with
    | .p i o => match E.und pt with
      | some (.pointer e) => match h.bl.get i with
        | some (.cells el cs m gr fz false) => match Nat.beq el e && isByte E e && (match E.size e with | some 1 => true | _ => false) && Nat.ble n 9223372036854775807 with
          | false => none
          | true => match loadCells cs o n with
            | none => none
            | some vs => match bytesOf vs with
              | none => none
              | some bs => some (.s bs, ⟨h.nx, h.bl.put i (.cells el cs m gr (Nat.max fz (o + n)) false)⟩)
        | _ => none
      | _ => none
    | _ => none

def convertMem (h : Heap) (src dst : Nat) (x : AV) : Option (AV × Heap) :=
  match E.und src with
  | none => none
  | some _ => match E.und dst with
    | some (.slice e) => match isByte E e with
      | false => none
      | true => match x with
        | .s bs => some (.sl h.nx 0 bs.length (.rest 0), h.alloc (.cells e (fillCells .nil 0 (toBytes bs)) bs.length (some 1) 0 true))
        | _ => none
    | _ => none

/-- string(b), b a slice of bytes. -/
def convertRead (h : Heap) (src dst : Nat) (x : AV) : Option AV :=
  match E.und src with
  | some (.slice e) => match isByte E e with
    | false => none
    | true => match E.und dst with
      | some .string => match x with
        | .snil => some (.s [])
        | .sl i o n _ => match h.bl.get i with
          | some (.cells _ cs _ _ _ _) => match loadCells cs o n with
            | none => none
            | some vs => match bytesOf vs with
              | none => none
              | some bs => some (.s bs)
          | _ => none
        | _ => none
      | _ => none
  | _ => none

def liesIn (e o u : Nat) : List (Nat × Nat × Nat) → Bool
  | [] => false
  | (a, b, c) :: l => (Nat.beq a e && Nat.beq b o && Nat.beq c u) || liesIn e o u l

/-- A pointer to a variable through unsafe.Pointer and back. -/
def convertPtr (h : Heap) (src dst : Nat) (x : AV) : Option AV :=
  match E.und src with
  | some (.pointer t) => match E.und dst with
    | some .unsafePointer => match E.size t with
      | some (_ + 1) => match x with
        | .p i o => match h.bl.get i with
          | some (.cells _ cs _ _ _ _) => match cs.get o with
            | some _ => some x
            | none => none
          | _ => none
        | _ => none
      | _ => none
    | _ => none
  | some .unsafePointer => match E.und dst with
    | some (.pointer t) => match E.size t with
      | some (_ + 1) => match x with
        | .p i o => match h.bl.get i with
          | some (.cells el _ n none _ _) => match E.size el with
            | some (m + 1) => match Nat.beq n (m + 1) && liesIn el o t E.lies with
              | true => some x
              | false => none
            | _ => none
          | _ => none
        | _ => none
      | _ => none
    | _ => none
  | _ => none

/-! ### Strings ranged over -/

def nextStr (h : Heap) (x : AV) : Option (AV × Heap) :=
  match x with
  | .p i 0 => match h.bl.get i with
    | some (.iter bs pos) => match Nat.blt pos bs.length with
      | false => some (.tup [.b false], h)
      | true => match bs[pos]? with
        | none => none
        | some c => match Nat.blt c 128 with
          | true => some (.tup [.b true, .n .i64 (Int.ofNat pos), .n .i32 (Int.ofNat c)], ⟨h.nx, h.bl.put i (.iter bs (pos + 1))⟩)
          | false => match Utf8.decode (mkBytes bs) pos with
            | (r, width) => some (.tup [.b true, .n .i64 (Int.ofNat pos), .n .i32 (Int.ofNat r)], ⟨h.nx, h.bl.put i (.iter bs (pos + width))⟩)
    | _ => none
  | _ => none

end
end Go.Vai

/- The abstract interpreter: operations, regions, code, calls. -/
namespace Go.Vai
open Go

/-- How the frame that called a deferred function stands: no such frame; it returns; it panics. -/
inductive Um where
  | none
  | ret
  | pan (v : AV) (recovered : Bool)

/-- What one operation yields. -/
inductive OR where
  | val (v : AV) (h : Heap)
  | skip (h : Heap)
  | enter (f : Nat) (args : List AV)
  | dfr (f : Nat) (args : List AV)
  | recover
  | pan (v : AV)

inductive CR where
  | ret (v : AV) (h : Heap)
  | pan (v : AV) (h : Heap)

inductive X where
  | normal
  | exit (id : Nat)
  | ret
  | pan (v : AV)

structure St where
  F : Tr AV
  h : Heap
  u : Um
  ds : List (Nat × List AV)

section
variable (E : Env)

def pureV (v : Option AV) (h : Heap) : Option OR :=
  match v with
  | none => none
  | some v => some (.val v h)
def memV (r : Option (AV × Heap)) : Option OR :=
  match r with
  | none => none
  | some (v, h) => some (.val v h)
def skipV (r : Option Heap) : Option OR :=
  match r with
  | none => none
  | some h => some (.skip h)

/-- The library's functions without a body: 1: abi.NoEscape; 2: bytealg.IndexByteString; 3: CountString. -/
def findByte (c : Nat) : List Nat → Nat → Option Nat
  | [], _ => none
  | b :: bs, i => match Nat.beq b c with
    | true => some i
    | false => findByte c bs (i + 1)

def countByte (c : Nat) : List Nat → Nat → Nat
  | [], n => n
  | b :: bs, n => match Nat.beq b c with
    | true => countByte c bs (n + 1)
    | false => countByte c bs n

def ext (k : Nat) (args : List AV) : Option AV :=
  match k, args with
  | 1, [x] => some x
  | 2, [.s bs, .n .u8 c] => match findByte (c.toNat % 256) bs 0 with
    | some i => some (.n .i64 (Int.ofNat i))
    | none => some (.n .i64 (-1))
  | 3, [.s bs, .n .u8 c] => some (.n .i64 (Int.ofNat (countByte (c.toNat % 256) bs 0)))
  | _, _ => none

/-- What a call of a function without a body yields. -/
def extCall (F : Tr AV) (c : Call) : Option AV :=
  match c.callee with
  | .value f => match eval F f with
    | some (.fn (.func f) a cap) => match E.fns.get f with
      | none => none
      | some fn => match fn.body with
        | some _ => none
        | none => match E.ext.get f with
          | none => none
          | some k => match evals F c.args.toList with
            | none => none
            | some vs => ext k (a ++ vs ++ cap)
    | _ => none
  | _ => none

def quietBuiltin (F : Tr AV) (h : Heap) (b : Builtin) (ts : List Nat) (xs : List Operand) : Option AV :=
  match b with
  | .len => match evals F xs, ts with
    | some [x], t :: _ => lenOf E h t x
    | _, _ => none
  | .max => match evals F xs with
    | some (x :: ys) => fold2 max2 x ys
    | _ => none
  | .min => match evals F xs with
    | some (x :: ys) => fold2 min2 x ys
    | _ => none
  | .unsafeSliceData => match evals F xs with
    | some [x] => sliceData x
    | _ => none
  | _ => none

def convertQ (h : Heap) (src dst : Nat) (v : AV) : Option AV :=
  match convertPure E src dst v with
  | some r => some r
  | none => match convertRead E h src dst v with
    | some r => some r
    | none => convertPtr E h src dst v

/-- The operations that leave memory alone. -/
def quiet (F : Tr AV) (h : Heap) (o : Op) : Option AV :=
  match o with
  | .move x => eval F x
  | .assign x => eval F x
  | .pick c a b => match eval F c with
    | some (.b true) => match eval F b with
      | none => none
      | some _ => eval F a
    | some (.b false) => match eval F a with
      | none => none
      | some _ => eval F b
    | _ => none
  | .load t a => match eval F a with
    | none => none
    | some a => loadAt E h t a
  | .binOp o t x y _ => match eval F x with
    | none => none
    | some a => match eval F y with
      | none => none
      | some b => binop E o t x y a b
  | .unOp o _ x => match eval F x with
    | none => none
    | some v => unop o v
  | .nilCheck x => match eval F x with
    | none => none
    | some v => nilCheck v
  | .fieldAddr s x f => match eval F x with
    | none => none
    | some v => fieldAt E s v f
  | .field t x f => match eval F x with
    | none => none
    | some v => field E t v f
  | .indexAddr t x i => match eval F x with
    | none => none
    | some v => match eval F i with
      | none => none
      | some i => indexAt E t v i
  | .index t x i => match eval F x with
    | none => none
    | some v => match eval F i with
      | none => none
      | some i => index E t v i
  | .extract x i => match eval F x with
    | some (.tup vs) => vs[i]?
    | _ => none
  | .build t ps => match evalParts F ps.toList with
    | none => none
    | some vs => build E t vs
  | .slice t x lo hi mx => match eval F x with
    | none => none
    | some v => match evalO F lo with
      | none => none
      | some lo => match evalO F hi with
        | none => none
        | some hi => match evalO F mx with
          | none => none
          | some mx => slice E t v lo hi mx
  | .convert s d x => match eval F x with
    | none => none
    | some v => convertQ E h s d v
  | .makeInterface t x => match eval F x with
    | none => none
    | some v => match E.und t with
      | none => none
      | some (.interface _) => none
      | some _ => some (.iface t v)
  | .makeFunc f a c => match evals F a.toList with
    | none => none
    | some as => match evals F c.toList with
      | none => none
      | some cs => some (.fn f as cs)
  | .lookup t m k ok => match eval F m with
    | none => none
    | some m => match eval F k with
      | none => none
      | some k => lookup E h t m k ok
  | .typeAssert x _ t ok => match E.und t with
    | none => none
    | some (.interface _) => none
    | some _ => match eval F x with
      | some (.iface t' v) => match Nat.beq t' t with
        | true => some (if ok then .tup [v, .b true] else v)
        | false => match ok, E.zero t with
          | true, some z => some (.tup [z, .b false])
          | _, _ => none
      | some .inil => match ok, E.zero t with
        | true, some z => some (.tup [z, .b false])
        | _, _ => none
      | _ => none
  | .call c => match c.callee with
    | .builtin b => quietBuiltin E F h b c.argTypes.toList c.args.toList
    | .value _ => extCall E F c
    | .invoke _ _ => none
  | _ => none

/-- The operations that make a block and read none: its contents, and how the value that they yield names it. -/
inductive Mk where
  | ptr
  | slice (n : Nat)
  | map

def Mk.val : Mk → Nat → AV
  | .ptr, i => .p i 0
  | .slice n, i => .sl i 0 n (.known n)
  | .map, i => .m i

def rowBlk (elem : Nat) (cs : List AV) : Blk := .cells elem (fillCells .nil 0 cs) cs.length none 0 false

def maker (F : Tr AV) (o : Op) : Option (Mk × Blk) :=
  match o with
  | .alloc t => match E.zero t with
    | none => none
    | some z => some (.ptr, rowBlk t (vcells z))
  | .box t x => match eval F x with
    | none => none
    | some v => some (.ptr, rowBlk t (vcells v))
  | .buildSlice t n ps => match evalParts F ps.toList with
    | none => none
    | some vs => match buildSlice E t n vs with
      | none => none
      | some (e, cs) => some (.slice n, rowBlk e cs)
  | .makeMap _ none => some (.map, .map [] 0)
  | .range t x => match E.und t with
    | some .string => match eval F x with
      | some (.s bs) => some (.ptr, .iter bs 0)
      | _ => none
    | _ => none
  | _ => none

def actBuiltin (F : Tr AV) (h : Heap) (b : Builtin) (ts : List Nat) (xs : List Operand) : Option OR :=
  match b with
  | .append => match evals F xs with
    | some [s, x] => memV (append E h ts s x)
    | _ => none
  | .copy => match evals F xs, ts with
    | some [d, s], t :: _ => memV (copy E h t d s)
    | _, _ => none
  | .clear => match evals F xs, ts with
    | some [x], t :: _ => match E.und t with
      | none => none
      | some _ => match clearSl E h t x with
        | none => none
        | some h' => some (.val (.tup []) h')
    | _, _ => none
  | .recover => some .recover
  | .unsafeString => match evals F xs, ts with
    | some [x, n], t :: _ => memV (unsafeString E h t x n)
    | _, _ => none
  | _ => none

/-- The function that a callee names, with all its arguments. -/
def target (F : Tr AV) (f : Operand) (xs : List Operand) : Option (Nat × List AV) :=
  match eval F f with
  | some (.fn (.func f) a cap) => match evals F xs with
    | none => none
    | some vs => match E.fns.get f with
      | none => none
      | some fn => match fn.body with
        | none => none
        | some _ => some (f, a ++ vs ++ cap)
  | _ => none

/-- All others. -/
def act (F : Tr AV) (h : Heap) (o : Op) : Option OR :=
  match o with
  | .store t a v => match eval F a with
    | none => none
    | some a => match eval F v with
      | none => none
      | some v => skipV (storeAt E h t a v)
  | .convert s d x => match eval F x with
    | none => none
    | some v => memV (convertMem E h s d v)
  | .makeSlice t l c => match eval F l with
    | none => none
    | some l => match eval F c with
      | none => none
      | some c => memV (makeSlice E h t l c)
  | .mapUpdate t m k v => match eval F m with
    | none => none
    | some m => match eval F k with
      | none => none
      | some k => match eval F v with
        | none => none
        | some v => skipV (mapUpdate E h t m k v)
  | .next x true => match eval F x with
    | none => none
    | some v => memV (nextStr h v)
  | .call c => match c.callee with
    | .builtin b => actBuiltin E F h b c.argTypes.toList c.args.toList
    | .value f => match target E F f c.args.toList with
      | none => none
      | some (f, vs) => some (.enter f vs)
    | .invoke _ _ => none
  | .defer c => match c.callee with
    | .value f => match target E F f c.args.toList with
      | none => none
      | some (f, vs) => some (.dfr f vs)
    | _ => none
  | .panic x => match eval F x with
    | some (.iface t v) => some (.pan (.iface t v))
    | _ => none
  | _ => none

def op (F : Tr AV) (h : Heap) (o : Op) : Option OR :=
  match quiet E F h o with
  | some v => some (.val v h)
  | none => match maker E F o with
    | some (m, b) => some (.val (m.val h.nx) (h.alloc b))
    | none => act E F h o

def putF (n : Nat) (F : Tr AV) (d : Option Nat) (v : AV) : Option (Tr AV) :=
  match d with
  | none => some F
  | some d => match Nat.blt d n with
    | true => some (F.put d v)
    | false => none

/-- Is the operation carried out? -/
def wantedA (ops : List Oper) (F : Tr AV) (g : Option (Nat × Bool)) : Option Bool :=
  match g with
  | none => some true
  | some (j, b) => match ops[j]? with
    | none => none
    | some o => match o.dst with
      | none => none
      | some d => match F.get d with
        | some (.b x) => some (x == b)
        | some _ => some false
        | none => none

/-- Calls, given by the interpreter one level less deep. -/
abbrev CallA := Nat → List AV → Heap → Option CR

def stepOp (call : CallA) (n : Nat) (o : Oper) (s : St) : Option (X × St) :=
  match op E s.F s.h o.op with
  | none => none
  | some (.val v h) => match putF n s.F o.dst v with
    | none => none
    | some F => some (.normal, { s with F, h })
  | some (.skip h) => match putF n s.F o.dst (.tup []) with
    | none => none
    | some F => some (.normal, { s with F, h })
  | some (.enter f args) => match call f args s.h with
    | none => none
    | some (.ret v h) => match putF n s.F o.dst v with
      | none => none
      | some F => some (.normal, { s with F, h })
    | some (.pan v h) => some (.pan v, { s with h })
  | some (.dfr f args) => match putF n s.F o.dst (.tup []) with
    | none => none
    | some F => some (.normal, { s with F, ds := (f, args) :: s.ds })
  | some .recover => match s.u with
    | .pan v false => match putF n s.F o.dst v with
      | none => none
      | some F => some (.normal, { s with F, u := .pan v true })
    | _ => match putF n s.F o.dst .inil with
      | none => none
      | some F => some (.normal, { s with F })
  | some (.pan v) => some (.pan v, s)

def runOps (call : CallA) (n : Nat) (ops : List Oper) : List Oper → St → Option (X × St)
  | [], s => some (.normal, s)
  | o :: rest, s => match wantedA ops s.F o.guard with
    | none => none
    | some false => match putF n s.F o.dst (.tup []) with
      | none => none
      | some F => runOps call n ops rest { s with F }
    | some true => match stepOp E call n o s with
      | some (.normal, s') => runOps call n ops rest s'
      | r => r

def loopN (step : St → Option (X × St)) : Nat → St → Option (X × St)
  | 0, _ => none
  | k + 1, s => match step s with
    | some (.normal, s') => loopN step k s'
    | r => r

def rounds : Nat := 100000

def code (call : CallA) (draw : List Oper → St → Option (X × St)) (n : Nat) : Code → St → Option (X × St)
  | .skip, s => some (.normal, s)
  | .label _, s => some (.normal, s)
  | .region _ ops d, s => match d with
    | false => runOps E call n ops.toList ops.toList s
    | true => draw ops.toList s
  | .seq a b, s => match code call draw n a s with
    | some (.normal, s') => code call draw n b s'
    | r => r
  | .cond c a b, s => match eval s.F c with
    | some (.b true) => code call draw n a s
    | some (.b false) => code call draw n b s
    | _ => none
  | .block id a, s => match code call draw n a s with
    | some (.exit i, s') => match Nat.beq i id with
      | true => some (.normal, s')
      | false => some (.exit i, s')
    | r => r
  | .loop a, s => loopN (code call draw n a) rounds s
  | .exit id, s => some (.exit id, s)
  | .ret, s => some (.ret, s)
  | _, _ => none

def resVals (h : Heap) (F : Tr AV) : List ResultVar → Option (List AV)
  | [] => some []
  | .tmp t :: rs => match F.get t with
    | none => none
    | some v => match resVals h F rs with
      | none => none
      | some vs => some (v :: vs)
  | .cell a t :: rs => match F.get a with
    | none => none
    | some p => match loadAt E h t p with
      | none => none
      | some v => match resVals h F rs with
        | none => none
        | some vs => some (v :: vs)

def resV (h : Heap) (F : Tr AV) (rs : List ResultVar) : Option AV :=
  match resVals E h F rs with
  | none => none
  | some [v] => some v
  | some vs => some (.tup vs)

def settleA : Um → Um
  | .pan _ true => .ret
  | u => u

/-- The deferred calls of a frame, the last first; then its end. -/
def leave (callD : Nat → List AV → Um → Heap → Option (Um × Heap)) (F : Tr AV) (rs : List ResultVar) : List (Nat × List AV) → Um → Heap → Option CR
  | [], .ret, h => match resV E h F rs with
    | none => none
    | some v => some (.ret v h)
  | [], .pan v false, h => some (.pan v h)
  | [], _, _ => none
  | (f, args) :: ds, u, h => match callD f args u h with
    | none => none
    | some (u', h') => leave callD F rs ds (settleA u') h'

def drawText (call : CallA) (n : Nat) (ops : List Oper) (s : St) : Option (X × St) := runOps E call n ops ops s

def frame0 (args : List AV) : Tr AV := fillCells .nil 0 args

/-- The end of a deferred function. -/
def endD (fn : Func) (s : St) : Option (Um × Heap) :=
  match s.ds with
  | [] => match resV E s.h s.F fn.results.toList with
    | none => none
    | some _ => some (s.u, s.h)
  | _ => none

section
variable (draw : CallA → Nat → List Oper → St → Option (X × St))

def bodyD (call : CallA) (f : Nat) (args : List AV) (u : Um) (h : Heap) : Option (Um × Heap) :=
  match E.fns.get f with
  | none => none
  | some fn => match fn.body with
    | none => none
    | some c => let n := Nat.max fn.ntmps args.length
      match code E call (draw call n) n c { F := frame0 args, h, u, ds := [] } with
      | some (.normal, s) => endD E fn s
      | some (.ret, s) => endD E fn s
      | _ => none

def body (call : CallA) (f : Nat) (args : List AV) (h : Heap) : Option CR :=
  match E.fns.get f with
  | none => none
  | some fn => match fn.body with
    | none => none
    | some c => let n := Nat.max fn.ntmps args.length
      match code E call (draw call n) n c { F := frame0 args, h, u := .none, ds := [] } with
      | some (.normal, s) => leave E (bodyD E draw call) s.F fn.results.toList s.ds .ret s.h
      | some (.ret, s) => leave E (bodyD E draw call) s.F fn.results.toList s.ds .ret s.h
      | some (.pan v, s) => leave E (bodyD E draw call) s.F fn.results.toList s.ds (.pan v false) s.h
      | _ => none

def run : Nat → CallA
  | 0 => fun _ _ _ => none
  | d + 1 => fun f args h => body E draw (run d) f args h
end
end
end Go.Vai

/- Regions whose order is drawn: what the interpreter does. -/
namespace Go.Vai
open Go

mutual
def eqAV : AV → AV → Bool
  | .b x, .b y => x == y
  | .n k x, .n j y => kindB k j && beqI x y
  | .s x, .s y => beqL x y
  | .p i o, .p j q => Nat.beq i j && Nat.beq o q
  | .gp i o, .gp j q => Nat.beq i j && Nat.beq o q
  | .pnil, .pnil => true
  | .sl i o n (.known c), .sl j q m (.known d) => Nat.beq i j && Nat.beq o q && Nat.beq n m && Nat.beq c d
  | .sl i o n (.rest c), .sl j q m (.rest d) => Nat.beq i j && Nat.beq o q && Nat.beq n m && Nat.beq c d
  | .snil, .snil => true
  | .m i, .m j => Nat.beq i j
  | .mnil, .mnil => true
  | .fn (.func f) a c, .fn (.func g) b d => Nat.beq f g && eqAVs a b && eqAVs c d
  | .fnil, .fnil => true
  | .iface t v, .iface u x => Nat.beq t u && eqAV v x
  | .inil, .inil => true
  | .agg a, .agg b => eqAVs a b
  | .tup a, .tup b => eqAVs a b
  | _, _ => false
def eqAVs : List AV → List AV → Bool
  | [], [] => true
  | a :: as, b :: bs => eqAV a b && eqAVs as bs
  | _, _ => false
end

def bindsA (e : Edge) : Bool :=
  match e.ground with
  | .textOnly _ => false
  | .gcOnly _ => false
  | _ => true

/-- Which operations must go ahead of operation i, as bits. -/
def maskOf (ms : Tr Nat) (i : Nat) : List Edge → Nat → Option Nat
  | [], acc => some acc
  | e :: es, acc => match bindsA e with
    | false => maskOf ms i es acc
    | true => match Nat.blt e.on i with
      | false => none
      | true => match ms.get e.on with
        | none => none
        | some m => maskOf ms i es (acc ||| (2 ^ e.on ||| m))

def masksOf : List Oper → Nat → Tr Nat → Option (Tr Nat)
  | [], _, ms => some ms
  | o :: os, i, ms => match maskOf ms i o.after.toList 0 with
    | none => none
    | some m => masksOf os (i + 1) (ms.put i m)

/-- Who writes a temporary: one operation at most. -/
def writersOf : List Oper → Nat → Tr Nat → Option (Tr Nat)
  | [], _, wr => some wr
  | o :: os, i, wr => match o.dst with
    | none => writersOf os (i + 1) wr
    | some d => match wr.get d with
      | some _ => none
      | none => writersOf os (i + 1) (wr.put d i)

inductive Cl where
  | q | m | c | no

def cls : Op → Cl
  | .alloc _ => .m
  | .box .. => .m
  | .buildSlice .. => .m
  | .makeMap .. => .m
  | .range .. => .m
  | .store .. => .c
  | .mapUpdate .. => .c
  | .makeSlice .. => .c
  | .next .. => .c
  | .defer _ => .no
  | .panic _ => .no
  | .select .. => .no
  | .call c => match c.callee with
    | .builtin .append => .c
    | .builtin .copy => .c
    | .builtin .clear => .c
    | .builtin .unsafeString => .c
    | .builtin .recover => .no
    | .builtin _ => .q
    | .value _ => .c
    | .invoke .. => .no
  | _ => .q

def tmpsOf : List Operand → List Nat
  | [] => []
  | .tmp t :: xs => t :: tmpsOf xs
  | _ :: xs => tmpsOf xs

def looksOf (ops : List Oper) (o : Oper) : List Nat :=
  match o.guard with
  | none => tmpsOf o.op.operands.toList
  | some (j, _) => match ops[j]? with
    | none => tmpsOf o.op.operands.toList
    | some p => match p.dst with
      | none => tmpsOf o.op.operands.toList
      | some d => d :: tmpsOf o.op.operands.toList

/-- What a temporary holds when operation i looks at it. -/
def slotOf (ms wr : Tr Nat) (F0 vals : Tr AV) (i m t : Nat) : Option (Option AV) :=
  match wr.get t with
  | none => some (F0.get t)
  | some j => match m.testBit j with
    | true => some (vals.get j)
    | false => match Nat.beq j i with
      | true => some (F0.get t)
      | false => match ms.get j with
        | none => none
        | some mj => match mj.testBit i with
          | true => some (F0.get t)
          | false => none

def frameOf (ms wr : Tr Nat) (F0 vals : Tr AV) (i m : Nat) : List Nat → Tr AV → Option (Tr AV)
  | [], acc => some acc
  | t :: ts, acc => match slotOf ms wr F0 vals i m t with
    | none => none
    | some none => frameOf ms wr F0 vals i m ts acc
    | some (some v) => frameOf ms wr F0 vals i m ts (acc.put t v)

/-- A step that has its place: the operation, the blocks that join the heap ahead of it, its value, the heap behind. -/
structure CStep where
  c : Nat
  fr : Tr AV
  js : List (Nat × Blk)
  v : AV
  h : Heap

def joinAll (nx0 : Nat) (bl : Tr Blk) : List (Nat × Blk) → Tr Blk
  | [] => bl
  | (i, b) :: l => joinAll nx0 (bl.put (nx0 + i) b) l

def pick (m : Nat) (want : Bool) : List (Nat × Blk) → List (Nat × Blk)
  | [] => []
  | p :: l => match m.testBit p.1 == want with
    | true => p :: pick m want l
    | false => pick m want l

section
variable (E : Env) (call : CallA) (ops : List Oper) (ms wr : Tr Nat) (F0 : Tr AV) (nx0 : Nat)

def quietStep (Fr : Tr AV) (h : Heap) (o : Oper) : Option AV :=
  match wantedA ops Fr o.guard with
  | none => none
  | some false => some (.tup [])
  | some true => quiet E Fr h o.op

def chainStep (Fr : Tr AV) (h : Heap) (o : Oper) : Option (AV × Heap) :=
  match wantedA ops Fr o.guard with
  | none => none
  | some false => some (.tup [], h)
  | some true => match op E Fr h o.op with
    | some (.val v h') => some (v, h')
    | some (.skip h') => some (.tup [], h')
    | some (.enter f args) => match call f args h with
      | some (.ret v h') => some (v, h')
      | _ => none
    | _ => none

def hasBit (m : Nat) : Option Nat → Bool
  | none => false
  | some x => m.testBit x

/-- Between two steps that have their place: whatever may go there yields what it is taken to yield. -/
def winOps (vals : Tr AV) (prev : Option Nat) (h : Heap) (next : Option Nat) : List Oper → Nat → Bool
  | [], _ => true
  | o :: os, i => match cls o.op with
    | .q => match ms.get i with
      | none => false
      | some m => match hasBit m next with
        | true => winOps vals prev h next os (i + 1)
        | false => match (match prev with
            | none => some false
            | some y => match ms.get y with
              | none => none
              | some my => some (my.testBit i)) with
          | none => false
          | some true => winOps vals prev h next os (i + 1)
          | some false => match frameOf ms wr F0 vals i m (looksOf ops o) .nil with
            | none => false
            | some Fr => match quietStep E ops Fr h o, vals.get i with
              | some v, some u => match eqAV v u with
                | true => winOps vals prev h next os (i + 1)
                | false => false
              | _, _ => false
    | _ => winOps vals prev h next os (i + 1)

def winAll (vals : Tr AV) (prev : Option Nat) (h : Heap) : List CStep → Bool
  | [] => winOps E ops ms wr F0 vals prev h none ops 0
  | s :: st => match winOps E ops ms wr F0 vals prev h (some s.c) ops 0 with
    | true => winAll vals (some s.c) s.h st
    | false => false

/-- Must operation i go ahead of all these steps? -/
def ordOK (i : Nat) : List CStep → Bool
  | [] => true
  | s :: st => match ms.get s.c with
    | none => false
    | some m => match m.testBit i with
      | true => ordOK i st
      | false => false

/-- The block that a store writes. -/
def storeBlock (Fr : Tr AV) (o : Oper) : Option Nat :=
  match wantedA ops Fr o.guard with
  | some true => match o.op with
    | .store _ a _ => match eval Fr a with
      | some (.p i _) => some i
      | _ => none
    | _ => none
  | _ => none

/-- Two stores at the end, of different blocks: either may go ahead. -/
def altOK (vals : Tr AV) (h : Heap) (i : Nat) (o : Oper) (Fr : Tr AV) (js : List (Nat × Blk)) : List CStep → Bool
  | [s] => match js, s.js with
    | [], [] => match ops[s.c]? with
      | none => false
      | some o2 => match storeBlock ops Fr o, storeBlock ops s.fr o2 with
        | some b1, some b2 => match Nat.beq b1 b2 with
          | true => false
          | false => match chainStep E call ops s.fr h o2 with
            | none => false
            | some (_, h2) => match chainStep E call ops Fr h2 o with
              | none => false
              | some (_, h1) => match winOps E ops ms wr F0 vals (some s.c) h2 (some i) ops 0 with
                | true => winOps E ops ms wr F0 vals (some i) h1 none ops 0
                | false => false
        | _, _ => false
    | _, _ => false
  | _ => false

/-- The operations in text order. -/
def pass : List Oper → Nat → Tr AV → Heap → List (Nat × Blk) → Option (Tr AV × List CStep × List (Nat × Blk))
  | [], _, vals, _, pend => some (vals, [], pend)
  | o :: os, i, vals, h, pend => match ms.get i with
    | none => none
    | some m => match frameOf ms wr F0 vals i m (looksOf ops o) .nil with
      | none => none
      | some Fr => match cls o.op with
        | .no => none
        | .q => match quietStep E ops Fr h o with
          | none => none
          | some v => pass os (i + 1) (vals.put i v) h pend
        | .m => match wantedA ops Fr o.guard with
          | none => none
          | some false => pass os (i + 1) (vals.put i (.tup [])) h pend
          | some true => match maker E Fr o.op with
            | none => none
            | some (k, b) => pass os (i + 1) (vals.put i (k.val (nx0 + i))) h ((i, b) :: pend)
        | .c => match chainStep E call ops Fr ⟨h.nx, joinAll nx0 h.bl (pick m true pend)⟩ o with
          | none => none
          | some (v, h') => match pass os (i + 1) (vals.put i v) h' (pick m false pend) with
            | none => none
            | some (vs, st, fin) => match ordOK ms i st || altOK E call ops ms wr F0 vs h i o Fr (pick m true pend) st with
              | false => none
              | true => some (vs, ⟨i, Fr, pick m true pend, v, h'⟩ :: st, fin)

def lastH (h : Heap) : List CStep → Heap
  | [] => h
  | s :: st => lastH s.h st

def putAll (n : Nat) (vals : Tr AV) : List Oper → Nat → Tr AV → Option (Tr AV)
  | [], _, F => some F
  | o :: os, i, F => match vals.get i with
    | none => none
    | some v => match putF n F o.dst v with
      | none => none
      | some F' => putAll n vals os (i + 1) F'
end

/-- A region whose order is drawn. -/
def drawV (E : Env) (call : CallA) (n : Nat) (ops : List Oper) (s : St) : Option (X × St) :=
  match masksOf ops 0 .nil with
  | none => none
  | some ms => match writersOf ops 0 .nil with
    | none => none
    | some wr => match pass E call ops ms wr s.F s.h.nx ops 0 .nil ⟨s.h.nx + ops.length, s.h.bl⟩ [] with
      | none => none
      | some (vals, st, fin) => match winAll E ops ms wr s.F vals none ⟨s.h.nx + ops.length, s.h.bl⟩ st with
        | false => none
        | true => match putAll n vals ops 0 s.F with
          | none => none
          | some F => match lastH ⟨s.h.nx + ops.length, s.h.bl⟩ st with
            | h => some (.normal, { s with F, h := ⟨h.nx, joinAll s.h.nx h.bl fin⟩ })
end Go.Vai
