/- V6: part of the proof (own work of this claim). -/
import Derived.Test.YtlhofngbhhdioaaGreatDoorV5
import Derived.Lib.Bytealg
set_option linter.unusedVariables false
set_option linter.unusedSimpArgs false
set_option linter.deprecated false
/- For the facts of a program: tries, and functions without a body. -/
namespace Go.Vai
open Go

/-- Everything in a trie. -/
def AllTr {α : Type} : (Nat → α → Prop) → Tr α → Prop
  | _, .nil => True
  | p, .node v l r => (match v with | none => True | some x => p 0 x) ∧ AllTr (fun k => p (2 * k + 1)) l ∧ AllTr (fun k => p (2 * k + 2)) r

theorem AllTr.get {α : Type} : ∀ {t : Tr α} {p : Nat → α → Prop}, AllTr p t → ∀ {k : Nat} {x : α}, t.get k = some x → p k x
  | .nil, p, h, k, x, hk => by simp [Tr.get] at hk
  | .node v l r, p, ⟨h1, h2, h3⟩, 0, x, hk => by
    simp only [Tr.get] at hk
    subst hk
    exact h1
  | .node v l r, p, ⟨h1, h2, h3⟩, k + 1, x, hk => by
    simp only [Tr.get] at hk
    split at hk
    · rename_i e
      have := h2.get hk
      rw [show k + 1 = 2 * (k / 2) + 1 by omega]
      exact this
    · rename_i m e
      have := h3.get hk
      rw [show k + 1 = 2 * (k / 2) + 2 by omega]
      exact this

theorem info_of {P : Program} {t : Nat} {i : TypeInfo} (h : P.types[t]? = some i) : P.info? t = some i := by
  have hlt := (Array.getElem?_eq_some_iff.1 h).1
  simp only [Tables.info?, hlt, if_true]
  exact h

theorem countByte_eq (c : Nat) (hc : c < 256) : ∀ (bs : List Nat) (n : Nat), (∀ b ∈ bs, b < 256) → countByte c bs n = n + Lib.countByte (bs.map UInt8.ofNat) (UInt8.ofNat c)
  | [], n, _ => by simp [countByte, Lib.countByte]
  | b :: bs, n, h => by
    have hb : b < 256 := h b (List.mem_cons_self ..)
    have hi : (UInt8.ofNat b == UInt8.ofNat c) = Nat.beq b c := by
      cases e : Nat.beq b c with
      | true => rw [Nat.eq_of_beq_eq_true e]; simp
      | false =>
        have hne : b ≠ c := fun h => by rw [h, Nat.beq_refl] at e; cases e
        simp only [beq_eq_false_iff_ne, ne_eq]
        exact fun h => hne ((ofNat_inj hb hc).1 h)
    simp only [countByte, Lib.countByte, List.map_cons, List.count_cons, hi]
    split
    · rename_i e
      rw [countByte_eq c hc bs (n + 1) fun b hb => h b (List.mem_cons_of_mem _ hb)]
      simp only [e, if_true, Lib.countByte]
      omega
    · rename_i e
      rw [countByte_eq c hc bs n fun b hb => h b (List.mem_cons_of_mem _ hb)]
      simp [e, Lib.countByte]

theorem findByte_eq (c : Nat) (hc : c < 256) : ∀ (bs : List Nat) (n : Nat), (∀ b ∈ bs, b < 256) →
    (match findByte c bs n with | some i => n ≤ i ∧ Lib.indexByte (bs.map UInt8.ofNat) (UInt8.ofNat c) = ((i - n : Nat) : Int) | none => Lib.indexByte (bs.map UInt8.ofNat) (UInt8.ofNat c) = -1)
  | [], n, _ => by simp [findByte, Lib.indexByte]
  | b :: bs, n, h => by
    have hb : b < 256 := h b (List.mem_cons_self ..)
    have hi : (UInt8.ofNat b == UInt8.ofNat c) = Nat.beq b c := by
      cases e : Nat.beq b c with
      | true => rw [Nat.eq_of_beq_eq_true e]; simp
      | false =>
        have hne : b ≠ c := fun h => by rw [h, Nat.beq_refl] at e; cases e
        simp only [beq_eq_false_iff_ne, ne_eq]
        exact fun h => hne ((ofNat_inj hb hc).1 h)
    have ih := findByte_eq c hc bs (n + 1) fun b hb => h b (List.mem_cons_of_mem _ hb)
    simp only [findByte, List.map_cons, Lib.indexByte, hi]
    cases e : Nat.beq b c with
    | true => simp
    | false =>
      simp only [Bool.false_eq_true, if_false]
      split at ih
      · rename_i i hi'
        obtain ⟨h1, h2⟩ := ih
        simp only [hi', h2]
        refine ⟨by omega, ?_⟩
        have : ((((i - (n + 1) : Nat) : Int)) == -1) = false := by
          rw [beq_eq_false_iff_ne]; omega
        rw [this]
        simp only [Bool.false_eq_true, if_false]
        omega
      · rename_i hi'
        simp only [hi', ih]
        rfl

/-- What the model lays behind the codes. -/
def extEntry : Nat → Array Value → Sem Value
  | 1 => Extern.AbiNoEscape.same
  | 2 => Extern.BytealgIndexByte.indexByte
  | 3 => Extern.BytealgCount.count
  | _ => fun _ => stuck ""

theorem ext_ok {P : Program} {γ : Gam} {k : Nat} {args : List AV} {v : AV} {V : List Value} (w : World) (h : ext k args = some v) (hv : RVs γ args V) :
    ∃ U, (extEntry k V.toArray).run P w = .ok U w ∧ RV γ v U := by
  unfold ext at h
  split at h
  · cases h
    obtain ⟨X, us, hX, hus, rfl⟩ := hv
    simp only [RVs] at hus; subst hus
    exact ⟨X, rfl, hX⟩
  · rename_i bs c
    obtain ⟨X, us, ⟨rfl, hbs⟩, ⟨Y, us', hY, hus, rfl⟩, rfl⟩ := hv
    simp only [RVs] at hus; subst hus
    simp only [RV] at hY; subst hY
    have hrun := Lib.run_indexByteString (P := P) (mkBytes bs) c w
    have hu : c.toNat.toUInt8 = UInt8.ofNat (c.toNat % 256) := UInt8.toNat_inj.1 (by simp)
    have he := findByte_eq (c.toNat % 256) (by omega) bs 0 hbs
    rw [mkBytes_data, hu] at hrun
    split at h
    · rename_i i hi
      cases h
      rw [hi] at he
      rw [he.2] at hrun
      exact ⟨_, hrun, by simp [RV]⟩
    · rename_i hi
      cases h
      rw [hi] at he
      simp only at he
      rw [he] at hrun
      exact ⟨_, hrun, rfl⟩
  · rename_i bs c
    cases h
    obtain ⟨X, us, ⟨rfl, hbs⟩, ⟨Y, us', hY, hus, rfl⟩, rfl⟩ := hv
    simp only [RVs] at hus; subst hus
    simp only [RV] at hY; subst hY
    have hrun := Lib.run_countString (P := P) (mkBytes bs) c w
    have hu : c.toNat.toUInt8 = UInt8.ofNat (c.toNat % 256) := UInt8.toNat_inj.1 (by simp)
    have he := countByte_eq (c.toNat % 256) (by omega) bs 0 hbs
    rw [mkBytes_data, hu] at hrun
    refine ⟨_, hrun, ?_⟩
    rw [he]
    simp [RV]
  · cases h

/-- The facts of a program, put together. -/
theorem envOK_of {E : Env} {P : Program} (h1 : AllTr (fun t i => P.info? t = some i) E.tys)
    (h2 : AllTr (fun f (fn : Func) => P.funcs[f]? = some fn ∧ ∀ c, fn.body = some c → ∀ args w, (callFunc f args).run P w = .ok (.enter f args) w) E.fns)
    (h3 : AllTr (fun t (_ : Unit) => P.eqGuardType P.depth t = false ∧ P.stoodInHeld t = false) E.eqs)
    (h4 : AllTr (fun f k => ∀ args w, (callFunc f args).run P w = ((extEntry k args).run P w).andThen fun v w' => .ok (.value v) w') E.ext)
    (h5 : ∀ e o u, liesIn e o u E.lies = true → liesAt P P.depth e 1 o u 1 = true) (h6 : P.follows .mixedOrders = true) : EnvOK E P where
  tys := fun t i h => h1.get h
  fns := fun f fn h => (h2.get h).1
  call := fun f fn c h hb args w => (h2.get h).2 c hb args w
  ext := fun f fn k args v V γ w _ _ hk hx hv => by
    obtain ⟨U, hu, hr⟩ := ext_ok (P := P) w hx hv
    exact ⟨U, by rw [h4.get hk, hu]; rfl, hr⟩
  eqs := fun t h => h3.get h
  lies := h5
  mixed := h6

/-- A call of a function without arguments, whatever the world. -/
theorem call_of_run {E : Env} {P : Program} (hE : EnvOK E P) (hg : ∀ g o, E.glob g o = none) {d f : Nat} {b : Bool} {h : Heap} (hr : run E (drawV E) d f [] ⟨0, .nil⟩ = some (.ret (.b b) h)) (w : World) :
    Calls P f #[] w fun e w' => e = .returned (.bool b) ∧ RowKit.Below w.heap.size w w' := by
  have hRH : RH E w.heap.size (fun _ => none) ⟨0, .nil⟩ w := ⟨fun _ _ => rfl, fun i A hi => by simp [Tr.get] at hi, fun i j A A' B B' hi => by simp [Tr.get] at hi, Nat.le_refl _, fun g o v hv => by rw [hg] at hv; cases hv⟩
  refine (runV_sound hE d f [] _ _ hr (fun _ => none) w [] hRH rfl).mono fun e w' ⟨γ', ⟨V, hV, he⟩, hfc, _⟩ => ?_
  simp only [RV] at hV; subst hV
  exact ⟨he, ⟨hfc.os, hfc.tape, hfc.output, hfc.size, fun k hk => hfc.keep k hk (fun ⟨i, A, B, hi, _⟩ => by simp [Tr.get] at hi)⟩⟩
end Go.Vai
