/- V3: part of the proof (own work of this claim). -/
import Derived.Test.YtlhofngbhhdioaaGreatDoorV2
import Derived.Lib.UnsafeStr
import Derived.Lib.ConvBytes
set_option linter.unusedVariables false
set_option linter.unusedSimpArgs false
set_option linter.deprecated false
/- Stores: they do what the interpreter says. -/
namespace Go.Vai
open Go

/-- A world that differs in one block alone. -/
structure OneOff (w w' : World) (b : Nat) : Prop where
  os : w'.os = w.os
  tape : w'.tape = w.tape
  output : w'.output = w.output
  size : w'.heap.size = w.heap.size
  keep : ∀ k, k ≠ b → w'.heap[k]? = w.heap[k]?

theorem OneOff.refl (w : World) (b : Nat) : OneOff w w b := ⟨rfl, rfl, rfl, rfl, fun _ _ => rfl⟩
theorem OneOff.trans {w w₁ w₂ : World} {b : Nat} (x : OneOff w w₁ b) (y : OneOff w₁ w₂ b) : OneOff w w₂ b :=
  ⟨y.os.trans x.os, y.tape.trans x.tape, y.output.trans x.output, y.size.trans x.size, fun k hk => (y.keep k hk).trans (x.keep k hk)⟩

theorem OneOff.setCell (w : World) (a : Addr) (v : Value) : OneOff w (w.setCell a v) a.block :=
  ⟨rfl, rfl, rfl, by simp, fun k hk => by simp only [World.setCell, Array.getElem?_modify]; rw [if_neg (Ne.symm hk)]⟩

theorem setCell_row {w : World} {b o e : Nat} {arr : Array Value} {fr : Nat × Nat} (hb : w.heap[b]? = some (.cells arr e fr)) (v : Value) :
    (w.setCell ⟨b, o, none⟩ v).heap[b]? = some (.cells (arr.setIfInBounds o v) e fr) := by
  simp [World.setCell, Array.getElem?_modify, hb]

section
variable {E : Env} {P : Program} {base : Nat} {γ : Gam} {F : Tr AV} {n : Nat} {a : Act} {h : Heap} {w : World}

theorem storeCells_run {b off o e fz : Nat} {fr : Nat × Nat} : ∀ (vs : List AV) (Vs : List Value) (k : Nat) (w : World) (arr : Array Value) (cs cs' : Tr AV),
    RVs γ vs Vs → Vai.storeCells cs (o + k) vs = some cs' → w.heap[b]? = some (.cells arr e fr) → RC γ off cs arr →
    (∀ j, off + fz ≤ j → j < arr.size → ¬ (fr.1 ≤ j ∧ j < fr.2)) → fz ≤ o + k →
    ∃ w' arr', (Go.storeCells ⟨b, off + o, none⟩ Vs k).run P w = .ok () w' ∧ OneOff w w' b ∧ w'.heap[b]? = some (.cells arr' e fr) ∧ arr'.size = arr.size ∧ RC γ off cs' arr'
  | [], Vs, k, w, arr, cs, cs', hv, hs, hb, hc, hz, hk => by
    simp only [RVs] at hv; subst hv
    simp only [Vai.storeCells, Option.some.injEq] at hs; subst hs
    exact ⟨w, arr, rfl, .refl w b, hb, rfl, hc⟩
  | v :: vs, Vs, k, w, arr, cs, cs', hv, hs, hb, hc, hz, hk => by
    obtain ⟨V, us, hV, hus, rfl⟩ := hv
    simp only [Vai.storeCells] at hs
    split at hs
    · cases hs
    · rename_i hsc
      split at hs
      · cases hs
      · rename_i u hu
        obtain ⟨U, h1, _⟩ := hc _ _ hu
        have hlt : off + (o + k) < arr.size := (Array.getElem?_eq_some_iff.1 h1).1
        have hcell : w.cell? ⟨b, off + o + k, none⟩ = some U := by
          rw [cell_of_row hb, Nat.add_assoc]; exact h1
        have hfro : w.frozen? ⟨b, off + o + k, none⟩ = false := by
          have := hz (off + (o + k)) (by omega) hlt
          obtain ⟨lo, hi⟩ := fr
          simp only at this
          simp only [World.frozen?, hb, Bool.and_eq_false_iff, decide_eq_false_iff_not]
          omega
        have hst : (store ((⟨b, off + o, none⟩ : Addr).add k) V).run P w = .ok () (w.setCell ⟨b, off + o + k, none⟩ V) := by
          rw [Addr.add_lit, run_store P w _ V _ (hV.scalar hsc), hcell]
          simp [hfro]
        have hb' := setCell_row (o := off + o + k) hb V
        have hc' : RC γ off (cs.put (o + k) v) (arr.setIfInBounds (off + o + k) V) := fun j q hj => by
          rw [Tr.get_put] at hj
          by_cases hjk : j = o + k
          · subst hjk
            simp at hj; subst hj
            exact ⟨V, by rw [← Nat.add_assoc, Array.getElem?_setIfInBounds_self_of_lt (by omega)], hV⟩
          · rw [if_neg hjk] at hj
            obtain ⟨Q, h2, h3⟩ := hc j q hj
            exact ⟨Q, by rw [Array.getElem?_setIfInBounds_ne (by omega)]; exact h2, h3⟩
        obtain ⟨w', arr', h2, h3, h4, h5, h6⟩ := storeCells_run vs us (k + 1) (w.setCell ⟨b, off + o + k, none⟩ V) _ _ cs' hus (by rw [show o + (k + 1) = o + k + 1 by omega]; exact hs) hb' hc'
          (by simpa using hz) (by omega)
        refine ⟨w', arr', ?_, (OneOff.setCell w ⟨b, off + o + k, none⟩ V).trans h3, h4, by simpa using h5, h6⟩
        simp only [Go.storeCells, Sem.run_bind, hst, Result.andThen_ok, h2]

theorem storeRaw_sound (hH : RH E base γ h w) {i o : Nat} {vs : List AV} {Vs : List Value} {h' : Heap} (hv : RVs γ vs Vs) (hs : storeRaw h i o vs = some h') :
    ∃ B w', γ i = some B ∧ (Go.storeCells ⟨B.block, B.off + o, none⟩ Vs).run P w = .ok () w' ∧ FC γ h w γ h' w' ∧ RH E base γ h' w' := by
  unfold storeRaw at hs
  split at hs
  · rename_i e cs n' gr fz ish hi
    split at hs
    · cases hs
    · rename_i hfz
      have hfz := Nat.le_of_ble_eq_true hfz
      split at hs
      · cases hs
      · rename_i cs' hcs
        cases hs
        obtain ⟨B, hB, hb0, arr, fr, harr, hRC, hz, hish, hgr⟩ := hH.blk _ _ hi
        obtain ⟨w', arr', h1, h2, h3, h4, h5⟩ := storeCells_run (P := P) vs Vs 0 w arr cs cs' hv (by simpa using hcs) harr hRC hz (by simpa using hfz)
        have hw := hH.write hi hB h2.os h2.tape h2.output h2.size h2.keep (A' := .cells e cs' n' gr fz ish)
          ⟨arr', fr, h3, h5, by rw [h4]; exact hz, hish, by cases gr <;> simpa [h4] using hgr⟩
        exact ⟨B, w', hB, h1, hw.1, hw.2⟩
  · cases hs

/-- What an operation's yield says of the model's run. -/
def Good (E : Env) (P : Program) (base : Nat) (γ : Gam) (h : Heap) (w : World) (v : AV) (h' : Heap) (r : Result Value) : Prop :=
  ∃ γ' w' V, r = .ok V w' ∧ RV γ' v V ∧ FC γ h w γ' h' w' ∧ RH E base γ' h' w'

theorem storeAt_sound (hE : EnvOK E P) (hH : RH E base γ h w) {t : Nat} {x v : AV} {X V : Value} {h' : Heap} (hX : RV γ x X) (hV : RV γ v V) (hs : storeAt E h t x v = some h') :
    ∃ w', (Instr.storeAt t X V).run P w = .ok () w' ∧ FC γ h w γ h' w' ∧ RH E base γ h' w' := by
  unfold storeAt at hs
  split at hs
  · rename_i i o
    split at hs
    · cases hs
    · rename_i m hm
      split at hs
      · cases hs
      · rename_i hl
        have hl := Nat.eq_of_beq_eq_true hl
        obtain ⟨B, w', hB, h1, h2, h3⟩ := storeRaw_sound (P := P) hH hV.cells hs
        obtain ⟨B', hB', rfl⟩ := hX
        rw [hB] at hB'; cases hB'
        refine ⟨w', ?_, h2, h3⟩
        have hsz : V.cells.size = m := by have := hV.cells.length; simpa [hl] using this
        simp only [Instr.storeAt, Instr.sureAddr, Sem.run_bind, Sem.run_pure, Result.andThen_ok, storeVar, hE.run_size hm, hsz, ne_eq, not_true_eq_false, if_false, h1]
  · cases hs

/-! ### Blocks of the interpreter's own -/

theorem fillCells_get : ∀ (vs : List AV) (cs : Tr AV) (o j : Nat) (v : AV), (fillCells cs o vs).get j = some v → (o ≤ j ∧ vs[j - o]? = some v) ∨ ((j < o ∨ o + vs.length ≤ j) ∧ cs.get j = some v)
  | [], cs, o, j, v, h => by
    simp only [fillCells] at h
    rcases Nat.lt_or_ge j o with h1 | h1
    · exact .inr ⟨.inl h1, h⟩
    · exact .inr ⟨.inr (by simpa using h1), h⟩
  | u :: vs, cs, o, j, v, h => by
    simp only [fillCells] at h
    rcases fillCells_get vs (cs.put o u) (o + 1) j v h with ⟨h1, h2⟩ | ⟨h1, h2⟩
    · left
      refine ⟨by omega, ?_⟩
      rw [show j - o = (j - (o + 1)) + 1 by omega]
      simpa using h2
    · rw [Tr.get_put] at h2
      by_cases hjo : j = o
      · subst hjo
        simp at h2; subst h2
        left; simp
      · rw [if_neg hjo] at h2
        right
        refine ⟨?_, h2⟩
        rcases h1 with h1 | h1
        · left; omega
        · right; simp; omega

theorem fillCells_nil {vs : List AV} {j : Nat} {v : AV} (h : (fillCells .nil 0 vs).get j = some v) : vs[j]? = some v := by
  rcases fillCells_get vs .nil 0 j v h with ⟨_, h2⟩ | ⟨_, h2⟩
  · simpa using h2
  · simp [Tr.get] at h2

/-- A row that begins with the cells of a list. -/
theorem RC.of_list {γ : Gam} {vs : List AV} {Vs : List Value} (hv : RVs γ vs Vs) (arr : Array Value) (off : Nat) (ha : ∀ j V, Vs[j]? = some V → arr[off + j]? = some V) : RC γ off (fillCells .nil 0 vs) arr := fun j v hj => by
  obtain ⟨V, h1, h2⟩ := hv.get (fillCells_nil hj)
  exact ⟨V, ha j V h1, h2⟩

theorem RB.row {γ : Gam} {w : World} {e : Nat} {vs : List AV} {Vs : List Value} (hv : RVs γ vs Vs) : ∀ γ', γ.le γ' → RB γ' ⟨w.heap.size, 0, 0⟩ (w.alloc (.cells Vs.toArray e)) (rowBlk e vs) := fun γ' hle => by
  refine ⟨Vs.toArray, (0, 0), (by show (w.heap.push _)[w.heap.size]? = _; simp), RC.of_list (RVs.mono hle _ _ hv) _ _ (fun j V hj => by simpa using hj), fun j _ _ => by simp, fun _ => by simp, rfl, ?_⟩
  simp [hv.length]

theorem newRow_sound (hH : RH E base γ h w) {e : Nat} {vs : List AV} {Vs : List Value} (hv : RVs γ vs Vs) :
    ∃ γ', (newRow e Vs.toArray).run P w = .ok ⟨w.heap.size, 0, none⟩ (w.alloc (.cells Vs.toArray e)) ∧ γ' h.nx = some ⟨w.heap.size, 0, 0⟩ ∧
      FC γ h w γ' (h.alloc (rowBlk e vs)) (w.alloc (.cells Vs.toArray e)) ∧ RH E base γ' (h.alloc (rowBlk e vs)) (w.alloc (.cells Vs.toArray e)) := by
  obtain ⟨γ', h1, h2, h3⟩ := hH.alloc (o := .cells Vs.toArray e) (A := rowBlk e vs) (B := ⟨w.heap.size, 0, 0⟩) rfl (RB.row hv)
  exact ⟨γ', rfl, h1, h2, h3⟩
end
end Go.Vai

/- The operations that make a block. -/
namespace Go.Vai
open Go

/-- The model's value that names block number i. -/
def Mk.conc : Mk → Nat → Value
  | .ptr, i => .pointer (some ⟨i, 0, none⟩)
  | .slice n, i => .slice (some ⟨i, 0, none⟩) n n
  | .map, i => .map (some i)

theorem Mk.rv {γ : Gam} {i : Nat} {B : Binf} (h : γ i = some B) (h0 : B.off = 0) : ∀ m : Mk, RV γ (m.val i) (m.conc B.block)
  | .ptr => ⟨B, h, by simp [Mk.conc, h0]⟩
  | .slice n => ⟨B, h, by simp [Mk.conc, h0]⟩
  | .map => ⟨B, h, rfl⟩

/-- The model's block is what the interpreter's block says. -/
def BlkOf (γ : Gam) (o : Obj) (b : Blk) : Prop := ∀ (w : World) (γ' : Gam) (B : Binf), γ.le γ' → w.heap[B.block]? = some o → B.off = 0 → RB γ' B w b

theorem RVs.of_get {γ : Gam} : ∀ {vs : List AV} {Vs : List Value}, vs.length = Vs.length → (∀ (j : Nat) (v : AV) (V : Value), vs[j]? = some v → Vs[j]? = some V → RV γ v V) → RVs γ vs Vs
  | [], [], _, _ => rfl
  | v :: vs, V :: Vs, hl, h => ⟨V, Vs, h 0 v V rfl rfl, RVs.of_get (by simpa using hl) (fun j u U hu hU => h (j + 1) u U (by simpa using hu) (by simpa using hU)), rfl⟩
  | [], _ :: _, hl, _ => by simp at hl
  | _ :: _, [], hl, _ => by simp at hl

theorem RVs.get' {γ : Gam} {vs : List AV} {Vs : List Value} (h : RVs γ vs Vs) {i : Nat} {X : Value} (hX : Vs[i]? = some X) : ∃ x, vs[i]? = some x ∧ RV γ x X := by
  have hlt : i < Vs.length := (List.getElem?_eq_some_iff.1 hX).1
  have hl := h.length
  have : i < vs.length := by omega
  obtain ⟨Y, h1, h2⟩ := h.get (i := i) (x := vs[i]) (by simp [this])
  rw [hX] at h1; cases h1
  exact ⟨vs[i], by simp [this], h2⟩

theorem cycle_length (z : List AV) : ∀ n, (cycle z n).length = n * z.length
  | 0 => by simp [cycle]
  | n + 1 => by simp [cycle, cycle_length z n, Nat.add_mul]; omega

theorem cycle_get (z : List AV) (hz : 0 < z.length) : ∀ n j, j < n * z.length → (cycle z n)[j]? = z[j % z.length]?
  | 0, j, h => by simp at h
  | n + 1, j, h => by
    simp only [cycle]
    rcases Nat.lt_or_ge j z.length with h1 | h1
    · rw [List.getElem?_append_left h1, Nat.mod_eq_of_lt h1]
    · rw [List.getElem?_append_right h1, cycle_get z hz n (j - z.length) (by rw [Nat.add_mul] at h; omega)]
      congr 1
      conv => rhs; rw [← Nat.sub_add_cancel h1]
      simp

theorem cycle_sound {γ : Gam} {z : List AV} {Z : Array Value} (h : RVs γ z Z.toList) (n : Nat) :
    RVs γ (cycle z n) ((Array.range (n * z.length)).map (Z[· % Z.size]!)).toList := by
  have hl : Z.size = z.length := by have := h.length; simpa using this
  by_cases h0 : z.length = 0
  · have : z = [] := List.length_eq_zero_iff.1 h0
    subst this
    have hc : ∀ n, cycle [] n = [] := by
      intro n
      induction n with
      | zero => rfl
      | succ n ih => simp [cycle, ih]
    simp [hc, RVs]
  · refine RVs.of_get (by simp [cycle_length]) (fun j v V hv hV => ?_)
    have hj : j < n * z.length := by
      have := (List.getElem?_eq_some_iff.1 hv).1
      rwa [cycle_length] at this
    rw [cycle_get z (by omega) n j hj] at hv
    obtain ⟨U, h1, h2⟩ := h.get hv
    have : V = U := by
      have hm : j % z.length < z.length := Nat.mod_lt _ (by omega)
      simp only [Array.toList_map, Array.toList_range, List.getElem?_map, List.getElem?_range hj, Option.map_some, Option.some.injEq] at hV
      rw [← hV]
      rw [hl]
      have hu : Z[j % z.length]? = some U := by simpa using h1
      rw [getElem!_def, hu]
    rw [this]; exact h2

section
variable {E : Env} {P : Program} {base : Nat} {γ : Gam} {F : Tr AV} {n : Nat} {a : Act} {h : Heap} {w : World}

theorem blkOf_row {e : Nat} {vs : List AV} {Vs : Array Value} (hv : RVs γ vs Vs.toList) : BlkOf γ (.cells Vs e) (rowBlk e vs) := fun w γ' B hle hb h0 => by
  refine ⟨Vs, (0, 0), hb, RC.of_list (RVs.mono hle _ _ hv) _ _ (fun j V hj => by simpa [h0] using hj), fun j _ _ => by simp, fun _ => by simp, h0, ?_⟩
  have := hv.length
  simpa using this

theorem maker_sound (hE : EnvOK E P) (hF : RF γ F n a.tmps) {o : Oper} {m : Mk} {b : Blk} (hm : maker E F o.op = some (m, b)) :
    ∃ ob, (∀ w, (execOp a.eval o).run P w = .ok (.value (m.conc w.heap.size)) (w.alloc ob)) ∧ BlkOf γ ob b := by
  obtain ⟨dst, op, ty, pos, after, guard⟩ := o
  cases op <;> simp only [maker] at hm <;> simp only [execOp]
  case alloc t =>
    split at hm
    · cases hm
    · rename_i z hz
      cases hm
      obtain ⟨i, Z, hi, hiz, hZ⟩ := hE.zero hz
      refine ⟨.cells Z.cells t, fun w => ?_, blkOf_row (RV.of_value γ Z z hZ).cells⟩
      simp only [Instr.alloc, Sem.run_bind, run_zeroValue' hi hiz, Result.andThen_ok]
      rfl
  case box t x =>
    split at hm
    · cases hm
    · rename_i v hv
      cases hm
      exact ⟨.cells (a.eval x).cells t, fun w => rfl, blkOf_row (eval_sound hF hv).cells⟩
  case buildSlice t len ps =>
    split at hm
    · cases hm
    · rename_i vs hvs
      split at hm
      · cases hm
      · rename_i e cs hcs
        cases hm
        unfold buildSlice at hcs
        split at hcs
        · rename_i elem hu
          split at hcs
          · cases hcs
          · rename_i sz hsz
            split at hcs
            · cases hcs
            · rename_i hle
              have hle := Nat.le_of_ble_eq_true hle
              split at hcs
              · cases hcs
              · rename_i z hz
                obtain ⟨i, Z, hi, hiz, hZ⟩ := hE.zero hz
                split at hcs
                · cases hcs
                · rename_i hzl
                  have hzl := Nat.eq_of_beq_eq_true hzl
                  split at hcs
                  · cases hcs
                  · rename_i ds hds
                    cases hcs
                    have hp : RP γ vs (ps.map fun (i, x) => (i, a.eval x)).toList := by
                      have := evalParts_sound hF hvs
                      simpa using this
                    have hZc := (RV.of_value γ Z z hZ).cells
                    have hcy := cycle_sound hZc len
                    rw [hzl] at hcy
                    obtain ⟨D, h1, h2⟩ := fill_sound _ hp hcy hds
                    refine ⟨.cells D e, fun w => ?_, blkOf_row h2⟩
                    have h24 : ¬ (len * sz > 2 ^ 24) := by omega
                    simp only [Instr.buildSlice, Sem.run_bind, hE.run_und hu, Result.andThen_ok, hE.run_size hsz, h24, if_false]
                    by_cases h0 : len * sz = 0
                    · simp only [h0, if_true, Sem.run_bind, Sem.run_pure, Result.andThen_ok]
                      simp only [h0] at h1
                      have e0 : ((Array.range 0).map fun x => (#[] : Array Value)[x % (#[] : Array Value).size]!) = (Array.range 0).map (Z.cells[· % Z.cells.size]!) := by simp [Array.range_zero']
                      rw [e0, h1]
                      rfl
                    · simp only [h0, if_false, Sem.run_bind, run_zeroValue' hi hiz, Sem.run_pure, Result.andThen_ok, h1]
                      rfl
        · cases hcs
  case makeMap t r =>
    cases r with
    | some r => simp at hm
    | none =>
      simp only [Option.some.injEq, Prod.mk.injEq] at hm
      obtain ⟨rfl, rfl⟩ := hm
      refine ⟨.map #[] 0, fun w => rfl, fun w γ' B hle hb h0 => ⟨#[], hb, trivial⟩⟩
  case range t x =>
    split at hm
    · rename_i hu
      split at hm
      · rename_i bs hx
        cases hm
        obtain ⟨hX, hbs⟩ := eval_sound hF hx
        refine ⟨.stringIter (mkBytes bs) 0, fun w => ?_, fun w γ' B hle hb h0 => ⟨hb, hbs, h0⟩⟩
        simp only [Instr.range, hX, Sem.run_bind, hE.run_und hu, Result.andThen_ok]
        rfl
      · cases hm
    · cases hm
  all_goals cases hm

theorem maker_good (hE : EnvOK E P) (hF : RF γ F n a.tmps) (hH : RH E base γ h w) {o : Oper} {m : Mk} {b : Blk} (hm : maker E F o.op = some (m, b)) :
    ∃ γ' w' V, (execOp a.eval o).run P w = .ok (.value V) w' ∧ RV γ' (m.val h.nx) V ∧ FC γ h w γ' (h.alloc b) w' ∧ RH E base γ' (h.alloc b) w' := by
  obtain ⟨ob, h1, h2⟩ := maker_sound hE hF hm
  obtain ⟨γ', h3, h4, h5⟩ := hH.alloc (o := ob) (A := b) (B := ⟨w.heap.size, 0, 0⟩) rfl (fun γ' hle => h2 _ γ' _ hle (by show (w.heap.push _)[w.heap.size]? = _; simp) rfl)
  exact ⟨γ', _, _, h1 w, Mk.rv h3 rfl m, h4, h5⟩
end
end Go.Vai

/- append: it does what the interpreter says. -/
namespace Go.Vai
open Go

theorem toBytes_sound {γ : Gam} : ∀ bs : List Nat, (∀ c ∈ bs, c < 256) → RVs γ (toBytes bs) (bs.map fun b => Value.int .u8 (UInt8.ofNat b).toNat)
  | [], _ => rfl
  | b :: bs, h => ⟨_, _, by
      have := h b (by simp)
      simp only [RV]
      congr 1
      simp [UInt8.toNat_ofNat', Nat.mod_eq_of_lt this], toBytes_sound bs (fun c hc => h c (by simp [hc])), rfl⟩

theorem toBytes_length : ∀ bs : List Nat, (toBytes bs).length = bs.length
  | [] => rfl
  | b :: bs => by simp [toBytes, toBytes_length bs]

section
variable {E : Env} {P : Program} {base : Nat} {γ : Gam} {F : Tr AV} {n : Nat} {a : Act} {h : Heap} {w : World}

/-- What is read of a slice, in every world that has the same blocks. -/
theorem sliceCells_sound (hH : RH E base γ h w) {sz m : Nat} {x : AV} {X : Value} {vs : List AV} (hX : RV γ x X) (hs : sliceCells h sz m x = some vs) :
    ∃ Vs, RVs γ vs Vs ∧ (∀ w', (∀ ad, w'.cell? ad = w.cell? ad) → (Builtin.firstCells sz m X).run P w' = .ok Vs.toArray w') ∧
      (vs.length = m * sz ∨ (x = .snil ∧ vs = [])) := by
  unfold sliceCells at hs
  split at hs
  · cases hs; simp only [RV] at hX; subst hX
    exact ⟨[], rfl, fun w' _ => rfl, .inr ⟨rfl, rfl⟩⟩
  · rename_i i o len c
    split at hs
    · cases hs
    · split at hs
      · rename_i e cs n' gr fz ish hi
        obtain ⟨B, hB, hb0, arr, fr, harr, hRC, _⟩ := hH.blk _ _ hi
        obtain ⟨cp, rfl⟩ : ∃ cp, X = .slice (some ⟨B.block, B.off + o, none⟩) len cp := by
          cases c with
          | known c => obtain ⟨B', hB', rfl⟩ := hX; rw [hB] at hB'; cases hB'; exact ⟨_, rfl⟩
          | rest c => obtain ⟨B', hB', rfl, _⟩ := hX; rw [hB] at hB'; cases hB'; exact ⟨_, rfl⟩
        obtain ⟨Vs, h1, h2⟩ := hRC.list hs
        have hlen := loadCells_length hs
        refine ⟨Vs, h1, fun w' hw' => ?_, .inl hlen⟩
        refine run_firstCells_some w' sz m _ len cp Vs (by rw [h1.length, hlen]) (fun j V hj => ?_)
        rw [Addr.add_lit, hw', cell_of_row harr]
        exact h2 j V hj
      · cases hs
  · cases hs

theorem source_sound (hH : RH E base γ h w) {sz k : Nat} {x : AV} {X : Value} {vs : List AV} (hX : RV γ x X) (hs : source h sz x = some (vs, k)) :
    ∃ Vs, RVs γ vs Vs ∧ (∀ w', (∀ ad, w'.cell? ad = w.cell? ad) → (Builtin.firstCells sz k X).run P w' = .ok Vs.toArray w') ∧
      (∀ w', (Builtin.lenOf X).run P w' = .ok k w') ∧ vs.length = k * sz := by
  unfold source at hs
  split at hs
  · cases hs; simp only [RV] at hX; subst hX
    exact ⟨[], rfl, fun w' _ => rfl, fun w' => rfl, by simp⟩
  · rename_i i o m c
    split at hs
    · cases hs
    · rename_i us hus
      cases hs
      obtain ⟨Vs, h1, h2, h3⟩ := sliceCells_sound (P := P) hH hX hus
      refine ⟨Vs, h1, h2, fun w' => ?_, ?_⟩
      · cases c with
        | known c => obtain ⟨B', hB', rfl⟩ := hX; rfl
        | rest c => obtain ⟨B', hB', rfl, _⟩ := hX; rfl
      · rcases h3 with h3 | ⟨h3, _⟩
        · exact h3
        · cases h3
  · rename_i bs
    split at hs
    · rename_i h1
      have h1 := Nat.eq_of_beq_eq_true h1
      cases hs
      subst h1
      obtain ⟨rfl, hb⟩ := hX
      refine ⟨_, toBytes_sound bs hb, fun w' _ => ?_, fun w' => ?_, by rw [toBytes_length]; omega⟩
      · simp only [Builtin.firstCells, Sem.run_pure]
        congr 1
        apply Array.ext'
        have e : (mkBytes bs).extract 0 bs.length = mkBytes bs := by
          rw [← mkBytes_size bs]; simp
        rw [e]
        simp [mkBytes]
      · simp [Builtin.lenOf, mkBytes_size]
    · cases hs
  · cases hs

theorem scalars_mem : ∀ {vs : List AV}, scalars vs = true → ∀ v ∈ vs, scalar v = true
  | [], _, v, hv => by cases hv
  | u :: vs, h, v, hv => by
    simp only [scalars] at h
    split at h
    · rename_i hu
      rcases List.mem_cons.1 hv with rfl | hv
      · exact hu
      · exact scalars_mem h v hv
    · cases h

/-- Cells laid side by side into a row, whatever lies there. -/
theorem storeCells_over {b off e : Nat} {fr : Nat × Nat} : ∀ (vs : List AV) (Vs : List Value) (k : Nat) (w : World) (arr : Array Value),
    RVs γ vs Vs → scalars vs = true → w.heap[b]? = some (.cells arr e fr) → off + k + Vs.length ≤ arr.size → (∀ j, off + k ≤ j → j < arr.size → ¬ (fr.1 ≤ j ∧ j < fr.2)) →
    ∃ w' arr', (Go.storeCells ⟨b, off, none⟩ Vs k).run P w = .ok () w' ∧ OneOff w w' b ∧ w'.heap[b]? = some (.cells arr' e fr) ∧ arr'.size = arr.size ∧
      (∀ j, j < off + k → arr'[j]? = arr[j]?) ∧ (∀ j V, Vs[j]? = some V → arr'[off + k + j]? = some V)
  | [], Vs, k, w, arr, hv, hs, hb, hl, hz => by
    simp only [RVs] at hv; subst hv
    exact ⟨w, arr, rfl, .refl w b, hb, rfl, fun _ _ => rfl, fun j V hj => by simp at hj⟩
  | v :: vs, Vs, k, w, arr, hv, hs, hb, hl, hz => by
    obtain ⟨V, us, hV, hus, rfl⟩ := hv
    simp only [scalars] at hs
    split at hs
    · rename_i hsc
      simp only [List.length_cons] at hl
      have hlt : off + k < arr.size := by omega
      have hcell : w.cell? ⟨b, off + k, none⟩ = some arr[off + k] := by
        rw [cell_of_row hb]; simp [hlt]
      have hfro : w.frozen? ⟨b, off + k, none⟩ = false := by
        have := hz (off + k) (Nat.le_refl _) hlt
        obtain ⟨lo, hi⟩ := fr
        simp only at this
        simp only [World.frozen?, hb, Bool.and_eq_false_iff, decide_eq_false_iff_not]
        omega
      have hst : (store ((⟨b, off, none⟩ : Addr).add k) V).run P w = .ok () (w.setCell ⟨b, off + k, none⟩ V) := by
        rw [Addr.add_lit, run_store P w _ V _ (hV.scalar hsc), hcell]
        simp [hfro]
      have hb' := setCell_row (o := off + k) hb V
      obtain ⟨w', arr', h2, h3, h4, h5, h6, h7⟩ := storeCells_over (b := b) (off := off) vs us (k + 1) (w.setCell ⟨b, off + k, none⟩ V) _ hus hs hb' (by simp; omega) (fun j h1 h2 => hz j (by omega) (by simpa using h2))
      refine ⟨w', arr', ?_, (OneOff.setCell w ⟨b, off + k, none⟩ V).trans h3, h4, by simpa using h5, fun j hj => ?_, fun j U hU => ?_⟩
      · simp only [Go.storeCells, Sem.run_bind, hst, Result.andThen_ok, h2]
      · rw [h6 j (by omega), Array.getElem?_setIfInBounds_ne (by omega)]
      · cases j with
        | zero =>
          simp at hU; subst hU
          rw [h6 (off + k + 0) (by omega)]
          simp [hlt]
        | succ j =>
          simp at hU
          have := h7 j U hU
          rw [show off + k + (j + 1) = off + (k + 1) + j by omega]; exact this
    · cases hs

/-- The model's append. -/
theorem run_append_room {ts : Array Nat} {ty st xt elem sz k m c : Nat} {d : TypeDesc} (h0 : ts[0]? = some st) (h1 : ts[1]? = some xt) (hu : ∀ w, (underlying st).run P w = .ok (.slice elem) w)
    (hx : ∀ w, (underlying xt).run P w = .ok d w) (hd : ∀ k, d ≠ .int k) (hsz : ∀ w, (sizeOf elem).run P w = .ok sz w) {X : Value} {Vs : List Value} {A : Option Addr} {w' : World}
    (hl : ∀ w', (Builtin.lenOf X).run P w' = .ok k w') (hf : (Builtin.firstCells sz k X).run P w = .ok Vs.toArray w) (hroom : m + k ≤ c)
    (hst : ∀ ad, A = some ad → (Go.storeCells (ad.add (m * sz)) Vs).run P w = .ok () w') (hnone : A = none → w' = w) :
    (Builtin.append_ ts ty #[.slice A m c, X]).run P w = .ok (.slice A (m + k) c) w' := by
  have e0 : (#[Value.slice A m c, X] : Array Value)[0]? = some (.slice A m c) := rfl
  have e1 : (#[Value.slice A m c, X] : Array Value)[1]? = some X := rfl
  have hz' : (match (generalizing := false) d with | .int _ => true | _ => false) = false := by cases d <;> first | rfl | exact absurd rfl (hd _)
  cases A with
  | none =>
    have := hnone rfl; subst this
    simp [Builtin.append_, h0, h1, hu, hx, hz', hsz, hl, hroom, hf]
  | some ad =>
    have := hst ad rfl
    simp [Builtin.append_, h0, h1, hu, hx, hz', hsz, hl, hroom, hf, this]

theorem run_append_new {ts : Array Nat} {ty st xt elem sz by_ k m c : Nat} {d : TypeDesc} {Z : Value} (h0 : ts[0]? = some st) (h1 : ts[1]? = some xt) (hu : ∀ w, (underlying st).run P w = .ok (.slice elem) w)
    (hx : ∀ w, (underlying xt).run P w = .ok d w) (hd : ∀ k, d ≠ .int k) (hsz : ∀ w, (sizeOf elem).run P w = .ok sz w) {i : TypeInfo} (hi : ∀ w, (typeInfo elem).run P w = .ok i w) (hby : i.bytes = by_)
    (hZ : ∀ w, (zeroValue elem).run P w = .ok Z w) {X : Value} {Os Vs : List Value} {A : Option Addr}
    (hl : ∀ w', (Builtin.lenOf X).run P w' = .ok k w') (hf : ∀ w', (∀ ad, w'.cell? ad = w.cell? ad) → (Builtin.firstCells sz k X).run P w' = .ok Vs.toArray w')
    (ho : ∀ w', (∀ ad, w'.cell? ad = w.cell? ad) → (Builtin.firstCells sz m (.slice A m c)).run P w' = .ok Os.toArray w')
    (hroom : c < m + k) (hb1 : (m + k) * by_ ≤ 140737488355328) (hb2 : m + k ≤ 9223372036854775807) :
    ∃ cap, m + k ≤ cap ∧ (Builtin.append_ ts ty #[.slice A m c, X]).run P w =
      .ok (.slice (some ⟨w.heap.size, 0, none⟩) (m + k) cap) (w.drew.alloc (.cells (Os.toArray ++ Vs.toArray ++ Builtin.zeroCells Z.cells (cap - (m + k))) elem)) := by
  refine ⟨(Question.appendCap (m + k) c elem).cut (w.tape w.drawn (.appendCap (m + k) c elem)), by simp [Question.cut], ?_⟩
  have e0 : (#[Value.slice A m c, X] : Array Value)[0]? = some (.slice A m c) := rfl
  have e1 : (#[Value.slice A m c, X] : Array Value)[1]? = some X := rfl
  have hfit := growslice_fits (bytes := by_) hroom hb1
  have n1 : ¬ (m + k ≤ c) := by omega
  have n2 : ¬ (((m + k : Nat) : Int) > IntKind.i64.max ∧ ((false : Bool) = true ∨ i.bytes = 0)) := by
    rw [IntKind.max_i64]; omega
  have n3 : ¬ (Builtin.nextslicecap (m + k) c * i.bytes > 2 ^ 48) := by rw [hby]; omega
  have hf' := hf w.drew (fun _ => rfl)
  have ho' := ho w.drew (fun _ => rfl)
  have n2' : ¬ (9223372036854775807 < (m : Int) + (k : Int)) := by omega
  have n3' : ¬ (281474976710656 < Builtin.nextslicecap (m + k) c * i.bytes) := by rw [hby]; omega
  have fin : ∀ X : Array Value, Os.toArray ++ (Vs.toArray ++ X) = (Os ++ Vs).toArray ++ X := fun X => by apply Array.ext'; simp
  have hz' : (match (generalizing := false) d with | .int _ => true | _ => false) = false := by cases d <;> first | rfl | exact absurd rfl (hd _)
  simp [Builtin.append_, h0, h1, hu, hx, hz', hsz, hl, n1, hi, n2', n3', Question.forced, hf', ho', hZ, newRow, fin]
end
end Go.Vai

/- append, the interpreter's side. -/
namespace Go.Vai
open Go
section
variable {E : Env} {P : Program} {base : Nat} {γ : Gam} {F : Tr AV} {n : Nat} {a : Act} {h : Heap} {w : World}

/-- A block gives way to one that lies in the same block of the model. -/
theorem RH.replace (r : RH E base γ h w) {i : Nat} {A A' : Blk} {B B' : Binf} {w' : World} (hi : h.bl.get i = some A) (hB : γ i = some B) (hbe : B'.block = B.block)
    (h1 : OneOff w w' B.block) (hA : ∀ γ', γ.le γ' → RB γ' B' w' A') :
    ∃ γ', γ' h.nx = some B' ∧ FC γ h w γ' ⟨h.nx + 1, (h.bl.set i none).put h.nx A'⟩ w' ∧ RH E base γ' ⟨h.nx + 1, (h.bl.set i none).put h.nx A'⟩ w' := by
  have hfresh := r.fresh h.nx (Nat.le_refl _)
  have hle : γ.le (fun j => if j = h.nx then some B' else γ j) := fun j b e => by
    by_cases hj : j = h.nx
    · subst hj; rw [hfresh] at e; cases e
    · simp [hj, e]
  have hget : ∀ j A1, ((h.bl.set i none).put h.nx A').get j = some A1 → (j = h.nx ∧ A1 = A') ∨ (j ≠ h.nx ∧ j ≠ i ∧ h.bl.get j = some A1) := fun j A1 hj => by
    rw [Tr.get_put] at hj
    split at hj
    · rename_i e; exact .inl ⟨e, by simpa using hj.symm⟩
    · rename_i e
      rw [Tr.get_set] at hj
      split at hj
      · cases hj
      · rename_i e'; exact .inr ⟨e, e', hj⟩
  obtain ⟨B0, hB0, hbase, hRB⟩ := r.blk i A hi
  rw [hB] at hB0; cases hB0
  have hne : ∀ j A1 b, j ≠ i → h.bl.get j = some A1 → γ j = some b → b.block ≠ B.block := fun j A1 b hj h2 h3 e => hj (r.inj j i A1 A b B h2 hi h3 hB e)
  refine ⟨fun j => if j = h.nx then some B' else γ j, by simp, ⟨hle, by simp, fun j b h2 h3 => ?_, by rw [h1.size]; exact Nat.le_refl _, h1.os, h1.tape, h1.output, fun k hk ho => ?_, fun k hk => ?_⟩, ⟨fun j hj => ?_, fun j A1 hj => ?_, fun j j' A1 A2 B1 B2 hj hj' hb1 hb2 hbe' => ?_, by rw [h1.size]; exact r.low, fun g o v hv => ?_⟩⟩
  · by_cases hj : j = h.nx
    · subst hj; simp
    · simp only [hj, if_false] at h2; rw [h2] at h3; cases h3
  · exact h1.keep k (fun e => ho ⟨i, A, B, hi, hB, e.symm⟩)
  · obtain ⟨j, A1, b, h2, h3, h4⟩ := hk
    rcases hget j A1 h2 with ⟨rfl, rfl⟩ | ⟨hj, hji, h5⟩
    · simp at h3; subst h3
      exact .inl ⟨i, A, B, hi, hB, by rw [← hbe]; exact h4⟩
    · simp only [hj, if_false] at h3
      exact .inl ⟨j, A1, b, h5, h3, h4⟩
  · have : j ≠ h.nx := by simp only at hj; omega
    simp only [this, if_false]
    exact r.fresh j (by simp only at hj; omega)
  · rcases hget j A1 hj with ⟨rfl, rfl⟩ | ⟨hjn, hji, h5⟩
    · exact ⟨B', by simp, by rw [hbe]; exact hbase, hA _ hle⟩
    · obtain ⟨B1, h2, h3, h4⟩ := r.blk j A1 h5
      exact ⟨B1, by simp [hjn, h2], h3, h4.keep hle (h1.keep _ (hne j A1 B1 hji h5 h2))⟩
  · rcases hget j A1 hj with ⟨rfl, rfl⟩ | ⟨hjn, hji, h5⟩
    · rcases hget j' A2 hj' with ⟨rfl, rfl⟩ | ⟨hjn', hji', h5'⟩
      · rfl
      · simp at hb1; subst hb1
        simp only [hjn', if_false] at hb2
        exact absurd (by rw [← hbe', hbe]) (hne j' A2 B2 hji' h5' hb2)
    · simp only [hjn, if_false] at hb1
      rcases hget j' A2 hj' with ⟨rfl, rfl⟩ | ⟨hjn', hji', h5'⟩
      · simp at hb2; subst hb2
        exact absurd (by rw [hbe', hbe]) (hne j A1 B1 hji h5 hb1)
      · simp only [hjn', if_false] at hb2
        exact r.inj j j' A1 A2 B1 B2 h5 h5' hb1 hb2 hbe'
  · obtain ⟨h2, V, h3, h4⟩ := r.glob g o v hv
    refine ⟨h2, V, ?_, h4⟩
    unfold World.cell? at h3 ⊢
    simp only at h3 ⊢
    rw [h1.keep g (by omega)]
    exact h3

/-- A block is dropped. -/
theorem RH.drop (r : RH E base γ h w) (i : Nat) : FC γ h w γ ⟨h.nx, h.bl.set i none⟩ w ∧ RH E base γ ⟨h.nx, h.bl.set i none⟩ w := by
  have hget : ∀ j A1, (h.bl.set i none).get j = some A1 → h.bl.get j = some A1 := fun j A1 hj => by
    rw [Tr.get_set] at hj
    split at hj
    · cases hj
    · exact hj
  refine ⟨⟨γ.le_refl, Nat.le_refl _, fun j b h1 h2 => (by rw [h1] at h2; cases h2), Nat.le_refl _, rfl, rfl, rfl, fun _ _ _ => rfl, fun k ⟨j, A, b, h1, h2, h3⟩ => .inl ⟨j, A, b, hget j A h1, h2, h3⟩⟩,
    ⟨r.fresh, fun j A hj => r.blk j A (hget j A hj), fun j j' A1 A2 B1 B2 h1 h2 => r.inj j j' A1 A2 B1 B2 (hget _ _ h1) (hget _ _ h2), r.low, r.glob⟩⟩

theorem zeroCells_size (z : Array Value) (n : Nat) : (Builtin.zeroCells z n).size = n * z.size := by simp [Builtin.zeroCells]

/-- The block that append makes. -/
theorem grown_sound (hH : RH E base γ h w) {elem sz m cap : Nat} {vs : List AV} {Vs : List Value} {Z : Value} (hv : RVs γ vs Vs) (hl : vs.length = m * sz) (hz : Z.cells.size = sz) (hc : m ≤ cap) :
    ∃ γ', RV γ' (grown h elem sz m vs).1 (.slice (some ⟨w.heap.size, 0, none⟩) m cap) ∧
      FC γ h w γ' (grown h elem sz m vs).2 (w.drew.alloc (.cells (Vs.toArray ++ Builtin.zeroCells Z.cells (cap - m)) elem)) ∧
      RH E base γ' (grown h elem sz m vs).2 (w.drew.alloc (.cells (Vs.toArray ++ Builtin.zeroCells Z.cells (cap - m)) elem)) := by
  have hlV := hv.length
  obtain ⟨γ', h1, h2, h3⟩ := hH.drew.alloc (o := .cells (Vs.toArray ++ Builtin.zeroCells Z.cells (cap - m)) elem) (A := .cells elem (fillCells .nil 0 vs) vs.length (some sz) 0 false) (B := ⟨w.heap.size, 0, cap⟩) rfl
    (fun γ' hle => ⟨Vs.toArray ++ Builtin.zeroCells Z.cells (cap - m), (0, 0), (by show (w.heap.push _)[w.heap.size]? = _; simp), RC.of_list (RVs.mono hle _ _ hv) _ _ (fun j V hj => by
        have hlt : j < Vs.length := (List.getElem?_eq_some_iff.1 hj).1
        rw [Array.getElem?_append_left (by simp; omega)]
        simpa using hj), fun j _ _ => by simp, fun _ => by simp, by
        simp only [Nat.zero_add, Array.size_append, List.size_toArray, zeroCells_size, hz, hlV, hl]
        rw [← Nat.add_mul]
        exact Nat.mul_le_mul_right _ (by omega)⟩)
  exact ⟨γ', ⟨_, h1, by simp, by simpa using hc⟩, (FC.drew γ h w).trans h2, h3⟩

theorem append_sound (hE : EnvOK E P) (hH : RH E base γ h w) {ts : Array Nat} {ty : Nat} {s x v : AV} {S X : Value} {h' : Heap} (hS : RV γ s S) (hX : RV γ x X)
    (hs : append E h ts.toList s x = some (v, h')) : Good E P base γ h w v h' ((Builtin.append_ ts ty #[S, X]).run P w) := by
  unfold append at hs
  split at hs
  · rename_i st xt tl ht
    have t0 : ts[0]? = some st := by rw [← Array.getElem?_toList, ht]; rfl
    have t1 : ts[1]? = some xt := by rw [← Array.getElem?_toList, ht]; rfl
    split at hs
    · rename_i elem hu
      split at hs
      · cases hs
      · cases hs
      · rename_i d hni hx
        split at hs
        · cases hs
        · rename_i sz hsz
          split at hs
          · cases hs
          · rename_i by_ hby
            split at hs
            · cases hs
            · rename_i z hz
              split at hs
              · cases hs
              · rename_i hzl
                have hzl := Nat.eq_of_beq_eq_true hzl
                obtain ⟨iz, Z, hiz, hizz, hZ⟩ := hE.zero hz
                have hZl : Z.cells.size = sz := by
                  have := (RV.of_value γ Z z hZ).cells.length
                  simpa [hzl] using this
                obtain ⟨ib, hib, hib2⟩ := hE.bytes_ hby
                split at hs
                · cases hs
                · rename_i new k hnew
                  obtain ⟨Vs, hVs, hf, hl, hlen⟩ := source_sound (P := P) hH hX hnew
                  have hu' := fun w => hE.run_und hu w
                  have hx' := fun w => hE.run_und hx w
                  have hd : ∀ k, d ≠ .int k := fun k e => hni k e
                  have hsz' := fun w => hE.run_size hsz w
                  have newcase : ∀ {A : Option Addr} {m c : Nat} {old : List AV} {Os : List Value}, RVs γ old Os → old.length = m * sz →
                      (∀ w', (∀ ad, w'.cell? ad = w.cell? ad) → (Builtin.firstCells sz m (.slice A m c)).run P w' = .ok Os.toArray w') → c < m + k →
                      (m + k) * by_ ≤ 140737488355328 → m + k ≤ 9223372036854775807 → S = .slice A m c →
                      Good E P base γ h w (grown h elem sz (m + k) (old ++ new)).1 (grown h elem sz (m + k) (old ++ new)).2 ((Builtin.append_ ts ty #[S, X]).run P w) := by
                    intro A m c old Os hOs hol ho hroom hb1 hb2 hSe
                    subst hSe
                    obtain ⟨cap, hcap, hrun⟩ := run_append_new (P := P) (ty := ty) t0 t1 hu' hx' hd hsz' (fun w => run_typeInfo' hib w) hib2 (fun w => run_zeroValue' hiz hizz w) hl hf ho hroom hb1 hb2
                    obtain ⟨γ', h1, h2, h3⟩ := grown_sound (E := E) (base := base) hH (elem := elem) (sz := sz) (m := m + k) (cap := cap) (Z := Z) (hOs.append hVs) (by simp [hol, hlen, Nat.add_mul]) hZl hcap
                    refine ⟨γ', _, _, hrun, h1, ?_, ?_⟩
                    · have e : Os.toArray ++ Vs.toArray = (Os ++ Vs).toArray := by simp
                      rw [e]; exact h2
                    · have e : Os.toArray ++ Vs.toArray = (Os ++ Vs).toArray := by simp
                      rw [e]; exact h3
                  split at hs
                  · simp only [RV] at hS; subst hS
                    split at hs
                    · cases hs
                    · rename_i hb
                      simp only [Bool.and_eq_true] at hb
                      have hb1 := Nat.le_of_ble_eq_true hb.1
                      have hb2 := Nat.le_of_ble_eq_true hb.2
                      split at hs
                      · cases hs
                        exact ⟨γ, w, _, run_append_room (m := 0) t0 t1 hu' hx' hd hsz' hl (hf w fun _ => rfl) (by omega) (fun ad e => by cases e) (fun _ => rfl), rfl, FC.refl _ _ _, hH⟩
                      · rename_i hk0
                        simp only [Option.some.injEq] at hs
                        rw [show v = (grown h elem sz k new).1 by rw [hs], show h' = (grown h elem sz k new).2 by rw [hs]]
                        have := newcase (A := none) (m := 0) (c := 0) (old := []) (Os := []) rfl (by simp) (fun w' _ => rfl) (by have : k ≠ 0 := hk0; omega) (by simpa using hb1) (by simpa using hb2) rfl
                        simpa using this
                  · rename_i i o m c
                    split at hs
                    · cases hs
                    · rename_i hb
                      simp only [Bool.and_eq_true] at hb
                      have hb1 := Nat.le_of_ble_eq_true hb.1
                      have hb2 := Nat.le_of_ble_eq_true hb.2
                      split at hs
                      · rename_i c
                        split at hs
                        · rename_i hroom
                          have hroom := Nat.le_of_ble_eq_true hroom
                          split at hs
                          · cases hs
                          · rename_i h1 hst
                            cases hs
                            obtain ⟨B, w', hB, h2, h3, h4⟩ := storeRaw_sound (P := P) hH hVs hst
                            obtain ⟨B', hB', rfl⟩ := hS
                            rw [hB] at hB'; cases hB'
                            refine ⟨γ, w', _, run_append_room (w' := w') t0 t1 hu' hx' hd hsz' hl (hf w fun _ => rfl) hroom (fun ad e => ?_) (fun e => by cases e), ⟨B, hB, rfl⟩, h3, h4⟩
                            cases e
                            rw [Addr.add_lit, Nat.add_assoc]; exact h2
                        · rename_i hroom
                          have hroom : ¬ (m + k ≤ c) := fun e => by rw [Nat.ble_eq_true_of_le e] at hroom; cases hroom
                          split at hs
                          · cases hs
                          · rename_i old hold
                            simp only [Option.some.injEq] at hs
                            rw [show v = (grown h elem sz (m + k) (old ++ new)).1 by rw [hs], show h' = (grown h elem sz (m + k) (old ++ new)).2 by rw [hs]]
                            obtain ⟨Os, hOs, ho, hol⟩ := sliceCells_sound (P := P) hH hS hold
                            obtain ⟨B', hB', rfl⟩ := hS
                            have hol' : old.length = m * sz := by
                              rcases hol with e | ⟨e, _⟩
                              · exact e
                              · cases e
                            exact newcase hOs hol' ho (by omega) hb1 hb2 rfl
                      · rename_i q
                        split at hs
                        · cases hs
                          obtain ⟨B', hB', rfl, hcap⟩ := hS
                          have e0 : Vs = [] := by
                            have := hVs.length
                            rw [hlen] at this
                            simpa using this
                          subst e0
                          exact ⟨γ, w, _, run_append_room (w' := w) t0 t1 hu' hx' hd hsz' hl (hf w fun _ => rfl) (by omega) (fun ad e => rfl) (fun e => by cases e), ⟨B', hB', rfl, by omega⟩, FC.refl _ _ _, hH⟩
                        · rename_i hk0
                          have hk0 : k ≠ 0 := hk0
                          split at hs
                          · rename_i e cs nn sz' fz ish hi
                            split at hs
                            · cases hs
                            · rename_i hc
                              simp only [Bool.and_eq_true] at hc
                              obtain ⟨⟨⟨⟨c1, c2⟩, c3⟩, c4⟩, c5⟩ := hc
                              have c1 := Nat.eq_of_beq_eq_true c1
                              have c2 := Nat.eq_of_beq_eq_true c2
                              have c3 := Nat.le_of_ble_eq_true c3
                              have c4 := Nat.eq_of_beq_eq_true c4
                              subst c1; subst c2
                              split at hs
                              · cases hs
                              · rename_i old hold
                                cases hs
                                obtain ⟨B, hB, hb0, arr, fr, harr, hRC, hfz, hish, hgr⟩ := hH.blk _ _ hi
                                obtain ⟨B', hB', rfl, hcap⟩ := hS
                                rw [hB] at hB'; cases hB'
                                obtain ⟨Os, hOs, hO2⟩ := hRC.list hold
                                have hol := loadCells_length hold
                                by_cases hroom : m + k ≤ B.cap - q
                                · -- room
                                  have hcells : B.off + o + m * sz + Vs.length ≤ arr.size := by
                                    have h1 : Vs.length = k * sz := by rw [hVs.length, hlen]
                                    have h2 : (q + (m + k)) * sz ≤ B.cap * sz := Nat.mul_le_mul_right _ (by omega)
                                    rw [Nat.add_mul, Nat.add_mul] at h2
                                    simp only at hgr
                                    omega
                                  obtain ⟨w', arr', h1, h2, h3, h4, h5, h6⟩ := storeCells_over (P := P) (b := B.block) (off := B.off + o + m * sz) (e := e) (fr := fr) new Vs 0 w arr hVs c5 harr (by simpa using hcells)
                                    (fun j j1 j2 => hfz j (by omega) j2)
                                  obtain ⟨γ', h7, h8, h9⟩ := hH.replace (A' := .cells e (fillCells .nil 0 (old ++ new)) (old ++ new).length (some sz) (fz - o) ish) (B' := ⟨B.block, B.off + o, B.cap - q⟩) hi hB rfl h2
                                    (fun γ' hle => ⟨arr', fr, h3, RC.of_list (RVs.mono hle _ _ (hOs.append hVs)) _ _ (fun j V hj => by
                                        have hOl : Os.length = m * sz := by rw [hOs.length, hol]
                                        rcases Nat.lt_or_ge j Os.length with hj1 | hj1
                                        · rw [List.getElem?_append_left hj1] at hj
                                          show arr'[B.off + o + j]? = _
                                          rw [h5 _ (by omega)]
                                          exact hO2 j V hj
                                        · rw [List.getElem?_append_right hj1] at hj
                                          have := h6 _ V hj
                                          show arr'[B.off + o + j]? = _
                                          rw [show B.off + o + j = B.off + o + m * sz + 0 + (j - Os.length) by omega]
                                          exact this),
                                      fun j j1 j2 => hfz j (by show B.off + fz ≤ j; have : B.off + o + (fz - o) ≤ j := j1; omega) (by rw [h4] at j2; exact j2),
                                      fun hi' => by have := hish hi'; show fr.2 ≤ B.off + o + (fz - o); omega, by
                                      show B.off + o + (B.cap - q) * sz ≤ arr'.size
                                      rw [h4]
                                      have h2 : (q + (B.cap - q)) * sz = B.cap * sz := by congr 1; omega
                                      rw [Nat.add_mul] at h2
                                      simp only at hgr
                                      omega⟩)
                                  refine ⟨γ', w', _, run_append_room (w' := w') t0 t1 hu' hx' hd hsz' hl (hf w fun _ => rfl) hroom (fun ad e => ?_) (fun e => by cases e), ⟨_, h7, by simp, by simpa using hroom⟩, h8, h9⟩
                                  cases e
                                  rw [Addr.add_lit]; exact h1
                                · -- a new block
                                  have hd2 := hH.drop i
                                  have hOl : old.length = m * sz := hol
                                  obtain ⟨cap, hcap', hrun⟩ := run_append_new (P := P) (ty := ty) (Os := Os) t0 t1 hu' hx' hd hsz' (fun w => run_typeInfo' hib w) hib2 (fun w => run_zeroValue' hiz hizz w) hl hf
                                    (m := m) (c := B.cap - q) (A := some ⟨B.block, B.off + o, none⟩) (fun w' hw' => run_firstCells_some w' sz m _ m _ Os (by rw [hOs.length, hol]) (fun j V hj => by
                                      rw [Addr.add_lit, hw', cell_of_row harr]; exact hO2 j V hj)) (by omega) hb1 hb2
                                  have hvv := hOs.append hVs
                                  have hlV := hvv.length
                                  obtain ⟨γ', h1, h2, h3⟩ := hd2.2.drew.alloc (o := .cells ((Os ++ Vs).toArray ++ Builtin.zeroCells Z.cells (cap - (m + k))) e) (A := .cells e (fillCells .nil 0 (old ++ new)) (old ++ new).length (some sz) (fz - o) ish) (B := ⟨w.heap.size, 0, cap⟩) rfl
                                    (fun γ' hle => ⟨(Os ++ Vs).toArray ++ Builtin.zeroCells Z.cells (cap - (m + k)), (0, 0), (by show (w.heap.push _)[w.heap.size]? = _; simp), RC.of_list (RVs.mono hle _ _ hvv) _ _ (fun j V hj => by
                                        have hlt : j < (Os ++ Vs).length := (List.getElem?_eq_some_iff.1 hj).1
                                        rw [Array.getElem?_append_left (by simpa using hlt)]
                                        simpa using hj), fun j _ _ => by simp, fun _ => by simp, by
                                        simp only [Nat.zero_add, Array.size_append, List.size_toArray, zeroCells_size, hZl, hlV, List.length_append, hOl, hlen]
                                        rw [← Nat.add_mul, ← Nat.add_mul]
                                        exact Nat.mul_le_mul_right _ (by omega)⟩)
                                  refine ⟨γ', _, _, hrun, ⟨_, h1, by simp, by simpa using hcap'⟩, ?_, ?_⟩
                                  · have e : Os.toArray ++ Vs.toArray = (Os ++ Vs).toArray := by simp
                                    rw [e]; exact hd2.1.trans ((FC.drew γ _ w).trans h2)
                                  · have e : Os.toArray ++ Vs.toArray = (Os ++ Vs).toArray := by simp
                                    rw [e]; exact h3
                          · cases hs
                  · cases hs
    · cases hs
  · cases hs
end
end Go.Vai

/- The other operations that write or make memory. -/
namespace Go.Vai
open Go

theorem RE.length {γ : Gam} : ∀ {es : List (AV × AV × Nat)} {ms : List MapEntry}, RE γ es ms → ms.length = es.length
  | [], [], _ => rfl
  | (k, v, b) :: es, m :: ms, ⟨_, _, _, h⟩ => by simp [RE.length h]
  | [], _ :: _, h => h.elim
  | _ :: _, [], h => by simp [RE] at h

theorem RE.snoc {γ : Gam} {k v : AV} {b : Nat} {m : MapEntry} (h1 : RV γ k m.key) (h2 : RV γ v m.val) (h3 : m.born = b) : ∀ {es : List (AV × AV × Nat)} {ms : List MapEntry}, RE γ es ms → RE γ (es ++ [(k, v, b)]) (ms ++ [m])
  | [], [], _ => ⟨h1, h2, h3, trivial⟩
  | (_, _, _) :: es, _ :: ms, ⟨a1, a2, a3, a4⟩ => ⟨a1, a2, a3, RE.snoc h1 h2 h3 a4⟩
  | [], _ :: _, h => h.elim
  | _ :: _, [], h => by simp [RE] at h

theorem RE.setVal {γ : Gam} {k v : AV} {K V : Value} (h1 : RV γ k K) (h2 : RV γ v V) : ∀ {es : List (AV × AV × Nat)} {ms : List MapEntry} (i : Nat), RE γ es ms →
    RE γ (setVal es i k v) (ms.modify i fun e => { e with key := K, val := V })
  | [], [], i, _ => by simp [Vai.setVal, RE]
  | (_, _, _) :: es, m :: ms, 0, ⟨a1, a2, a3, a4⟩ => by
    simp only [Vai.setVal, List.modify_zero_cons]
    exact ⟨h1, h2, a3, a4⟩
  | (_, _, _) :: es, m :: ms, i + 1, ⟨a1, a2, a3, a4⟩ => by
    simp only [Vai.setVal, List.modify_succ_cons]
    exact ⟨a1, a2, a3, RE.setVal h1 h2 i a4⟩
  | [], _ :: _, _, h => h.elim
  | _ :: _, [], _, h => by simp [RE] at h

section
variable {E : Env} {P : Program} {base : Nat} {γ : Gam} {F : Tr AV} {n : Nat} {a : Act} {h : Heap} {w : World}

theorem setObj_oneOff {b : Nat} {o : Obj} (hb : b < w.heap.size) : OneOff w { w with heap := w.heap.setIfInBounds b o } b ∧ ({ w with heap := w.heap.setIfInBounds b o } : World).heap[b]? = some o :=
  ⟨⟨rfl, rfl, rfl, by simp, fun k hk => by simp [Ne.symm hk]⟩, by simp [hb]⟩

/-- A key that is found in its place is the same key: it stays. -/
theorem sameBits_of_sameNow {kind : TypeDesc} {x y : Value} (h : Instr.sameNow kind x y = some true) : ∀ m, Instr.sameBits (m + 1) y x = true ∧ Instr.sameBits (m + 1) x y = true := by
  intro m
  unfold Instr.sameNow at h
  split at h
  · split at h
    · rename_i hk
      subst hk
      simp at h; subst h
      constructor <;> simp [Instr.sameBits]
    · cases h
  · have e : ∀ p q : ByteArray, (p == q) = true → p = q := fun p q hpq => by
      have h1 : (p.data == q.data) = true := hpq
      exact ByteArray.ext (by simpa using h1)
    have := e _ _ (by simpa using h)
    subst this
    have h2 : ∀ p : ByteArray, (p == p) = true := fun p => by show (p.data == p.data) = true; simp
    constructor <;> simp [Instr.sameBits, h2]
  · simp at h; subst h
    constructor <;> simp [Instr.sameBits]
  · cases h

theorem findNow_some {kind : TypeDesc} {K V : Value} : ∀ {ms : List MapEntry} {i j : Nat}, Instr.findNow kind K ms i = some (some (j, V)) →
    i ≤ j ∧ ∃ m, ms[j - i]? = some m ∧ Instr.sameNow kind K m.key = some true
  | [], i, j, h => by simp [Instr.findNow] at h
  | m :: ms, i, j, h => by
    simp only [Instr.findNow] at h
    split at h
    · rename_i hs
      simp at h
      obtain ⟨rfl, _⟩ := h
      exact ⟨Nat.le_refl _, m, by simp, hs⟩
    · obtain ⟨h1, m', h2, h3⟩ := findNow_some h
      refine ⟨by omega, m', ?_, h3⟩
      rw [show j - i = (j - (i + 1)) + 1 by omega]
      simpa using h2
    · cases h

theorem mapUpdate_sound (hE : EnvOK E P) (hH : RH E base γ h w) {t : Nat} {m k v : AV} {M K V : Value} {h' : Heap} (hM : RV γ m M) (hK : RV γ k K) (hV : RV γ v V)
    (hs : mapUpdate E h t m k v = some h') : ∃ w', (Instr.mapUpdate t M K V).run P w = .ok () w' ∧ FC γ h w γ h' w' ∧ RH E base γ h' w' := by
  unfold mapUpdate at hs
  split at hs
  · rename_i kt et hu
    split at hs
    · cases hs
    · rename_i kind hk
      split at hs
      · cases hs
      · rename_i hp
        split at hs
        · rename_i i
          split at hs
          · rename_i es clock hi
            obtain ⟨B, hB, hb0, ms, hms, hRE⟩ := hH.blk _ _ hi
            obtain ⟨B', hB', rfl⟩ := hM
            rw [hB] at hB'; cases hB'
            have hg := MapKept.run_getObj_map (P := P) hms
            have hck := plain_key (P := P) (w := w) hp (fun w => hE.run_und hk w) false 9999 K
            have hlt : B.block < w.heap.size := (Array.getElem?_eq_some_iff.1 hms).1
            have hso := fun o => MapKept.run_setObj_map (P := P) o hms
            split at hs
            · cases hs
            · rename_i hfk
              cases hs
              rcases findKey_sound hK hRE hfk with ⟨_, h1⟩ | ⟨j, q, Q, h0, _⟩
              · have h2 := MapKept.run_findKey (P := P) (w := w) (hE.und hk) h1
                obtain ⟨h3, h4⟩ := setObj_oneOff (w := w) (o := .map (ms.push { key := K, val := V, born := clock }) (clock + 1)) hlt
                have hw := hH.write hi hB h3.os h3.tape h3.output h3.size h3.keep (A' := .map (es ++ [(k, v, clock)]) (clock + 1)) ⟨_, h4, by simpa using RE.snoc (m := { key := K, val := V, born := clock }) hK hV rfl hRE⟩
                refine ⟨_, ?_, hw.1, hw.2⟩
                simp only [Instr.mapUpdate, Sem.run_bind, hE.run_und hu, Result.andThen_ok, hg, hck, h2, hso]
              · cases h0
            · rename_i j q hfk
              cases hs
              rcases findKey_sound hK hRE hfk with ⟨h0, _⟩ | ⟨j', q', Q, h0, h1, hq⟩
              · cases h0
              · cases h0
                have h2 := MapKept.run_findKey (P := P) (w := w) (hE.und hk) h1
                obtain ⟨_, m', hm', hsn⟩ := findNow_some h1
                have hm'' : ms[j]? = some m' := by simpa using hm'
                have hst : (Instr.keyThatStays (((ms[j]?).map (·.key)).getD K) K).run P w = .ok K w := by
                  rw [hm'']
                  have := (sameBits_of_sameNow hsn 9999).1
                  simp only [Option.map_some, Option.getD_some, Instr.keyThatStays, this, if_true, Sem.run_pure]
                obtain ⟨h3, h4⟩ := setObj_oneOff (w := w) (o := .map (ms.modify j fun e => { e with key := K, val := V }) clock) hlt
                have hw := hH.write hi hB h3.os h3.tape h3.output h3.size h3.keep (A' := .map (setVal es j k v) clock) ⟨_, h4, by simpa using RE.setVal hK hV j hRE⟩
                refine ⟨_, ?_, hw.1, hw.2⟩
                simp only [Instr.mapUpdate, Sem.run_bind, hE.run_und hu, Result.andThen_ok, hg, hck, h2, hst, hso]
          · cases hs
        · cases hs
  · cases hs

theorem nextStr_sound (hH : RH E base γ h w) {x v : AV} {X : Value} {ty : Nat} {h' : Heap} (hX : RV γ x X) (hs : nextStr h x = some (v, h')) :
    Good E P base γ h w v h' ((Instr.next X true ty).run P w) := by
  unfold nextStr at hs
  split at hs
  · rename_i i
    split at hs
    · rename_i bs pos hi
      obtain ⟨B, hB, hb0, hit, hbs, hoff⟩ := hH.blk _ _ hi
      obtain ⟨B', hB', rfl⟩ := hX
      rw [hB] at hB'; cases hB'
      have hlt : B.block < w.heap.size := (Array.getElem?_eq_some_iff.1 hit).1
      have hg : (getObj B.block).run P w = .ok (.stringIter (mkBytes bs) pos) w := by simp [getObj, Sem.run, hit]
      have hso : ∀ o, (setObj B.block o).run P w = .ok () { w with heap := w.heap.setIfInBounds B.block o } := fun o => by simp [setObj, Sem.run, hit]
      have hwr : ∀ p, ∃ w', w' = { w with heap := w.heap.setIfInBounds B.block (.stringIter (mkBytes bs) p) } ∧ FC γ h w γ ⟨h.nx, h.bl.put i (.iter bs p)⟩ w' ∧ RH E base γ ⟨h.nx, h.bl.put i (.iter bs p)⟩ w' := fun p => by
        obtain ⟨h3, h4⟩ := setObj_oneOff (w := w) (o := .stringIter (mkBytes bs) p) hlt
        have hw := hH.write hi hB h3.os h3.tape h3.output h3.size h3.keep (A' := .iter bs p) ⟨h4, hbs, hoff⟩
        exact ⟨_, rfl, hw.1, hw.2⟩
      have key : ∀ c wd, Utf8.decode (mkBytes bs) pos = (c, wd) → pos < bs.length → ∃ w', (Instr.next (.pointer (some ⟨B.block, B.off + 0, none⟩)) true ty).run P w = .ok (.tuple #[.bool true, goInt pos, .int .i32 c]) w' ∧
          FC γ h w γ ⟨h.nx, h.bl.put i (.iter bs (pos + wd))⟩ w' ∧ RH E base γ ⟨h.nx, h.bl.put i (.iter bs (pos + wd))⟩ w' := fun c wd hd hl => by
        obtain ⟨w', hw', h5, h6⟩ := hwr (pos + wd)
        refine ⟨w', ?_, h5, h6⟩
        rw [hoff]
        have hsz : pos < (mkBytes bs).size := by rw [mkBytes_size]; exact hl
        simp only [Instr.next, Nat.add_zero, Sem.run_bind, hg, Result.andThen_ok, hsz, if_true, hd, hso, Sem.run_pure, hw']
      split at hs
      · rename_i hle
        have hle : ¬ pos < bs.length := fun e => by
          have h2 : Nat.blt pos bs.length = true := Nat.ble_eq_true_of_le e
          rw [h2] at hle; cases hle
        cases hs
        refine ⟨γ, w, .tuple #[.bool false], ?_, ⟨[.bool false], ⟨_, [], rfl, rfl, rfl⟩, rfl⟩, FC.refl _ _ _, hH⟩
        have hsz : ¬ pos < (mkBytes bs).size := by rw [mkBytes_size]; exact hle
        rw [hoff]
        simp only [Instr.next, Nat.add_zero, Sem.run_bind, hg, Result.andThen_ok, hsz, if_false, Sem.run_pure]
      · rename_i hle
        have hle : pos < bs.length := Nat.le_of_ble_eq_true hle
        split at hs
        · cases hs
        · rename_i c hc
          split at hs
          · rename_i h128
            have h128 : c < 128 := Nat.le_of_ble_eq_true h128
            cases hs
            have hdec : Utf8.decode (mkBytes bs) pos = (c, 1) := by
              have h0 : ((mkBytes bs).get! (pos + 0)).toNat = c := by
                show ((mkBytes bs).data[pos]!).toNat = c
                have h1 : (mkBytes bs).data[pos]? = some (UInt8.ofNat c) := by simp [mkBytes, hc]
                rw [getElem!_def, h1]
                simp [UInt8.toNat_ofNat', Nat.mod_eq_of_lt (show c < 256 by omega)]
              simp only [Utf8.decode, h0]
              rw [if_pos (by omega)]
            obtain ⟨w', h1, h2, h3⟩ := key c 1 hdec hle
            exact ⟨γ, w', _, h1, ⟨[.bool true, goInt pos, .int .i32 c], ⟨_, _, rfl, ⟨_, _, rfl, ⟨_, [], rfl, rfl, rfl⟩, rfl⟩, rfl⟩, rfl⟩, h2, h3⟩
          · split at hs
            rename_i r wd hd
            cases hs
            obtain ⟨w', h1, h2, h3⟩ := key r wd hd hle
            exact ⟨γ, w', _, h1, ⟨[.bool true, goInt pos, .int .i32 r], ⟨_, _, rfl, ⟨_, _, rfl, ⟨_, [], rfl, rfl, rfl⟩, rfl⟩, rfl⟩, rfl⟩, h2, h3⟩
    · cases hs
  · cases hs

theorem copyLen_sound {s : AV} {S : Value} {sn : Nat} (hS : RV γ s S) (hsn : copyLen s = some sn) : (Builtin.lenOf S).run P w = .ok sn w := by
  unfold copyLen at hsn
  split at hsn
  · cases hsn; simp only [RV] at hS; subst hS; rfl
  · rename_i i o m c
    cases hsn
    cases c with
    | known c => obtain ⟨B, hB, rfl⟩ := hS; rfl
    | rest c => obtain ⟨B, hB, rfl, _⟩ := hS; rfl
  · cases hsn; obtain ⟨rfl, _⟩ := hS; simp [Builtin.lenOf, mkBytes_size]
  · cases hsn

theorem firstCells_zero {s : AV} {S : Value} {sn sz : Nat} (hS : RV γ s S) (hsn : copyLen s = some sn) : (Builtin.firstCells sz 0 S).run P w = .ok #[] w := by
  have hl : ∀ A : Addr, (Go.loadCells A 0).run P w = .ok #[] w := fun A => rfl
  unfold copyLen at hsn
  split at hsn
  · simp only [RV] at hS; subst hS; rfl
  · rename_i i o m c
    cases c with
    | known c => obtain ⟨B, hB, rfl⟩ := hS; simp only [Builtin.firstCells, Nat.zero_mul]; exact hl _
    | rest c => obtain ⟨B, hB, rfl, _⟩ := hS; simp only [Builtin.firstCells, Nat.zero_mul]; exact hl _
  · obtain ⟨rfl, _⟩ := hS
    simp [Builtin.firstCells]
  · cases hsn

theorem copySrc_sound (hH : RH E base γ h w) {s : AV} {S : Value} {sz m : Nat} {cs : List AV} (hS : RV γ s S) (hcs : copySrc h sz m s = some cs) :
    ∃ Vs, RVs γ cs Vs ∧ (Builtin.firstCells sz m S).run P w = .ok Vs.toArray w := by
  unfold copySrc at hcs
  split at hcs
  · rename_i bs
    obtain ⟨rfl, hb⟩ := hS
    cases hcs
    refine ⟨_, toBytes_sound (bs.take m) (fun c hc => hb c (List.mem_of_mem_take hc)), ?_⟩
    simp only [Builtin.firstCells, Sem.run_pure]
    congr 1
    apply Array.ext'
    rw [Array.toList_map, Lib.extract_data]
    simp only [mkBytes, List.map_take, Nat.sub_zero, List.drop_zero, List.map_map]
    rfl
  · obtain ⟨Vs, h2, h3, _⟩ := sliceCells_sound (P := P) hH hS hcs
    exact ⟨Vs, h2, h3 w fun _ => rfl⟩

theorem copy_sound (hE : EnvOK E P) (hH : RH E base γ h w) {t ty : Nat} {ts : Array Nat} {d s v : AV} {D S : Value} {h' : Heap} (ht : ts[0]? = some t) (hD : RV γ d D) (hS : RV γ s S)
    (hs : copy E h t d s = some (v, h')) : Good E P base γ h w v h' ((Builtin.copy_ ts ty #[D, S]).run P w) := by
  unfold copy at hs
  have e0 : (#[D, S] : Array Value)[0]? = some D := rfl
  have e1 : (#[D, S] : Array Value)[1]? = some S := rfl
  split at hs
  · rename_i elem hu
    split at hs
    · cases hs
    · rename_i sz hsz
      split at hs
      · cases hs
      · rename_i sn hsn
        have hlen := copyLen_sound (P := P) (w := w) hS hsn
        split at hs
        · simp only [RV] at hD; subst hD
          cases hs
          have hz := firstCells_zero (P := P) (w := w) (sz := sz) hS hsn
          refine ⟨γ, w, _, ?_, rfl, FC.refl _ _ _, hH⟩
          have e : Nat.min sn 0 = 0 := Nat.min_zero _
          simp only [Builtin.copy_, ht, e0, e1, Sem.run_bind, hE.run_und hu, Result.andThen_ok, hlen, hE.run_size hsz, e, hz, Sem.run_pure]
          rfl
        · rename_i i o dn c
          split at hs
          · cases hs
          · rename_i cs hcs
            split at hs
            · cases hs
            · rename_i h1 hst
              cases hs
              obtain ⟨Vs, hVs, hf⟩ := copySrc_sound (P := P) hH hS hcs
              obtain ⟨B, w', hB, h2, h3, h4⟩ := storeRaw_sound (P := P) hH hVs hst
              obtain ⟨cp, rfl⟩ : ∃ cp, D = .slice (some ⟨B.block, B.off + o, none⟩) dn cp := by
                cases c with
                | known c => obtain ⟨B', hB', rfl⟩ := hD; rw [hB] at hB'; cases hB'; exact ⟨_, rfl⟩
                | rest c => obtain ⟨B', hB', rfl, _⟩ := hD; rw [hB] at hB'; cases hB'; exact ⟨_, rfl⟩
              refine ⟨γ, w', _, ?_, rfl, h3, h4⟩
              simp only [Builtin.copy_, ht, e0, e1, Sem.run_bind, hE.run_und hu, Result.andThen_ok, hlen, hE.run_size hsz, hf, Sem.run_pure, h2]
              rfl
        · cases hs
  · cases hs

theorem clear_sound (hE : EnvOK E P) (hH : RH E base γ h w) {t ty : Nat} {ts : Array Nat} {x : AV} {X : Value} {h' : Heap} (ht : ts[0]? = some t) (hX : RV γ x X)
    (hs : clearSl E h t x = some h') (hu0 : ∃ d, E.und t = some d) : Good E P base γ h w (.tup []) h' ((Builtin.clear_ ts ty #[X]).run P w) := by
  obtain ⟨d0, hu0⟩ := hu0
  have e0 : (#[X] : Array Value)[0]? = some X := rfl
  unfold clearSl at hs
  split at hs
  · cases hs; simp only [RV] at hX; subst hX
    refine ⟨γ, w, _, ?_, ⟨[], rfl, rfl⟩, FC.refl _ _ _, hH⟩
    simp only [Builtin.clear_, ht, e0, Sem.run_bind, hE.run_und hu0, Result.andThen_ok, Sem.run_pure]
  · rename_i i o m c
    split at hs
    · cases hs
      obtain ⟨A, cp, rfl⟩ : ∃ A cp, X = .slice A 0 cp := by
        cases c with
        | known c => obtain ⟨B, hB, rfl⟩ := hX; exact ⟨_, _, rfl⟩
        | rest c => obtain ⟨B, hB, rfl, _⟩ := hX; exact ⟨_, _, rfl⟩
      refine ⟨γ, w, _, ?_, ⟨[], rfl, rfl⟩, FC.refl _ _ _, hH⟩
      cases A <;> simp only [Builtin.clear_, ht, e0, Sem.run_bind, hE.run_und hu0, Result.andThen_ok, Sem.run_pure]
    · rename_i hm0
      split at hs
      · rename_i elem hu
        split at hs
        · cases hs
        · rename_i z hz
          split at hs
          · cases hs
          · rename_i sz hsz
            split at hs
            · cases hs
            · rename_i hzl
              have hzl := Nat.eq_of_beq_eq_true hzl
              obtain ⟨iz, Z, hiz, hizz, hZ⟩ := hE.zero hz
              have hZc := (RV.of_value γ Z z hZ).cells
              have hcy := cycle_sound hZc m
              obtain ⟨B, w', hB, h2, h3, h4⟩ := storeRaw_sound (P := P) hH hcy hs
              obtain ⟨cp, rfl⟩ : ∃ cp, X = .slice (some ⟨B.block, B.off + o, none⟩) m cp := by
                cases c with
                | known c => obtain ⟨B', hB', rfl⟩ := hX; rw [hB] at hB'; cases hB'; exact ⟨_, rfl⟩
                | rest c => obtain ⟨B', hB', rfl, _⟩ := hX; rw [hB] at hB'; cases hB'; exact ⟨_, rfl⟩
              refine ⟨γ, w', _, ?_, ⟨[], rfl, rfl⟩, h3, h4⟩
              have hZs : Z.cells.size = (vcells z).length := by have := hZc.length; simpa using this
              have hzc : (Builtin.zeroCells Z.cells m).toList = ((Array.range (m * (vcells z).length)).map (Z.cells[· % Z.cells.size]!)).toList := by
                simp only [Builtin.zeroCells, hZs]
              cases m with
              | zero => exact absurd rfl hm0
              | succ m =>
                simp only [Builtin.clear_, ht, e0, Sem.run_bind, hE.run_und hu, Result.andThen_ok, run_zeroValue' hiz hizz, hzc, h2, Sem.run_pure]
      · cases hs
  · cases hs

theorem makeSlice_sound (hE : EnvOK E P) (hH : RH E base γ h w) {t : Nat} {l c v : AV} {L C : Value} {h' : Heap} (hL : RV γ l L) (hC : RV γ c C)
    (hs : makeSlice E h t l c = some (v, h')) : Good E P base γ h w v h' ((Instr.makeSlice t L C).run P w) := by
  unfold makeSlice at hs
  split at hs
  · rename_i elem hu
    split at hs
    · cases hs
    · rename_i l' hl
      split at hs
      · cases hs
      · rename_i c' hc
        obtain ⟨k1, rfl⟩ := natOf_sound hL hl
        obtain ⟨k2, rfl⟩ := natOf_sound hC hc
        split at hs
        · cases hs
        · rename_i by_ hby
          obtain ⟨ib, hib, hib2⟩ := hE.bytes_ hby
          split at hs
          · cases hs
          · rename_i hle
            simp only [Bool.and_eq_true] at hle
            have hle1 := Nat.le_of_ble_eq_true hle.1.1
            have hle2 := Nat.le_of_ble_eq_true hle.1.2
            have hle3 := Nat.le_of_ble_eq_true hle.2
            split at hs
            · cases hs
            · rename_i sz hsz
              split at hs
              · cases hs
              · rename_i z hz
                split at hs
                · cases hs
                · rename_i hzl
                  have hzl := Nat.eq_of_beq_eq_true hzl
                  cases hs
                  obtain ⟨iz, Z, hiz, hizz, hZ⟩ := hE.zero hz
                  have hZc := (RV.of_value γ Z z hZ).cells
                  have hcy := cycle_sound hZc c'
                  rw [hzl] at hcy
                  obtain ⟨γ', _, h2, h3, h4⟩ := newRow_sound (P := P) (e := elem) hH hcy
                  obtain ⟨is, his, his2⟩ := hE.size hsz
                  rw [hiz] at his; cases his
                  rw [hib] at hiz; cases hiz
                  have hby2 : ((ib.bytes : Nat) : Int) * (c' : Int) ≤ 281474976710656 := by
                    have : ((ib.bytes * c' : Nat) : Int) ≤ 140737488355328 := by rw [hib2]; exact Int.ofNat_le.2 hle2
                    rw [Int.natCast_mul] at this
                    omega
                  have hr := run_make (P := P) w t elem ib Z (hE.und hu) hib hizz k1 k2 (l' : Int) (c' : Int) (by omega) (by omega) hby2 (by omega)
                  simp only [Int.toNat_natCast] at hr
                  rw [Array.toArray_toList] at h3 h4
                  refine ⟨γ', _, .slice (some ⟨w.heap.size, 0, none⟩) l' c', hr, ⟨_, h2, by simp⟩, ?_, ?_⟩
                  · rw [his2]
                    exact h3
                  · rw [his2]
                    exact h4
  · cases hs
end
end Go.Vai

/- Conversions to bytes and back; all other operations. -/
namespace Go.Vai
open Go
section
variable {E : Env} {P : Program} {base : Nat} {γ : Gam} {F : Tr AV} {n : Nat} {a : Act} {h : Heap} {w : World}

theorem push_modify (a : Array Obj) (x : Obj) (f : Obj → Obj) : (a.push x).modify a.size f = a.push (f x) := by
  apply Array.ext
  · simp
  · intro i h1 h2
    simp only [Array.getElem_modify, Array.getElem_push]
    by_cases h : a.size = i
    · subst h
      simp
    · have hi : i < a.size := by simp at h1; omega
      simp [h, hi]

theorem bytesWorld_eq (e : TypeId) (s : ByteArray) :
    Lib.bytesWorld w e s = w.drew.alloc (.cells (Lib.bytesCells w e s) e ((Lib.bytesCells w e s).size, (Lib.bytesCells w e s).size + 1)) := by
  unfold Lib.bytesWorld World.freeze
  rw [if_neg (by decide)]
  show ({ w.drew.alloc (.cells (Lib.bytesCells w e s) e) with heap := (w.heap.push (.cells (Lib.bytesCells w e s) e)).modify w.heap.size _ } : World) = _
  rw [push_modify]
  rfl

theorem convertMem_sound (hE : EnvOK E P) (hH : RH E base γ h w) {src dst : Nat} {x v : AV} {X : Value} {h' : Heap} (hX : RV γ x X)
    (hs : convertMem E h src dst x = some (v, h')) : Good E P base γ h w v h' ((convert src dst X).run P w) := by
  unfold convertMem at hs
  split at hs
  · cases hs
  · rename_i u hu
    split at hs
    · rename_i e hd
      split at hs
      · cases hs
      · rename_i hb
        split at hs
        · rename_i bs
          cases hs
          obtain ⟨rfl, hbs⟩ := hX
          have hrun := Lib.run_convert_string_bytes (P := P) w src dst e (mkBytes bs) (hE.und hu) (hE.und hd) (hE.und (isByte_und hb))
          rw [bytesWorld_eq, mkBytes_size] at hrun
          have hcap : bs.length ≤ grownCap w bs.length 0 e := by
            unfold grownCap Question.cut; simp
          have hv := toBytes_sound (γ := γ) bs hbs
          obtain ⟨γ', h1, h2, h3⟩ := hH.drew.alloc (o := .cells (Lib.bytesCells w e (mkBytes bs)) e ((Lib.bytesCells w e (mkBytes bs)).size, (Lib.bytesCells w e (mkBytes bs)).size + 1))
            (A := .cells e (fillCells .nil 0 (toBytes bs)) bs.length (some 1) 0 true) (B := ⟨w.heap.size, 0, grownCap w bs.length 0 e⟩) rfl
            (fun γ' hle => by
              refine ⟨Lib.bytesCells w e (mkBytes bs), ((Lib.bytesCells w e (mkBytes bs)).size, (Lib.bytesCells w e (mkBytes bs)).size + 1), ?_, RC.of_list (RVs.mono hle _ _ hv) _ _ (fun j V hj => ?_), fun j _ hj => ?_, fun hf => Bool.noConfusion hf, ?_⟩
              · show (w.heap.push _)[w.heap.size]? = _
                simp
              · have hlt : j < bs.length := by
                  have := (List.getElem?_eq_some_iff.1 hj).1
                  simpa using this
                simp only [Lib.bytesCells, Nat.zero_add]
                rw [Array.getElem?_append_left (by simp [mkBytes, hlt])]
                simp only [mkBytes, List.map_toArray, List.getElem?_toArray, List.map_map]
                exact hj
              · omega
              · simp only [Lib.bytesCells, mkBytes_size, Array.size_append, Array.size_map, Array.size_replicate, Nat.zero_add, Nat.mul_one]
                have : (mkBytes bs).data.size = bs.length := by simp [mkBytes]
                omega)
          exact ⟨γ', _, _, hrun, ⟨_, h1, by simp, by simpa using hcap⟩, (FC.drew γ h w).trans h2, h3⟩
        · cases hs
    · cases hs

/-- In a row of 'count' bytes, n of them lie side by side from any place on. -/
theorem liesAt_bytes_off {e : TypeId} (hc : P.cellsOf e = 1) (count o n : Nat) (hn : o + n ≤ count) : liesAt P P.depth e count o e n = true := by
  have hd : P.depth = (2 * (P.types.size + Made.depth) + 1) + 1 := rfl
  rw [hd]
  simp only [liesAt, Bool.or_eq_true]
  left
  rw [hd]
  simp [rowAt, hc, hn, sameLayout, Nat.mod_one]

theorem run_loadBytes' : ∀ (ns : List Int) (a : Addr) (acc : ByteArray), (∀ j x, ns[j]? = some x → w.cell? (a.add j) = some (.int .u8 x)) →
    (loadBytes a acc ns.length).run P w = .ok ⟨acc.data ++ (ns.map fun n => n.toNat.toUInt8).toArray⟩ w
  | [], a, acc, _ => by simp [loadBytes]
  | x :: l, a, acc, h => by
    have h0 : w.cell? a = some (.int .u8 x) := by
      have := h 0 x rfl
      simpa [Addr.add] using this
    have ih := run_loadBytes' l (a.add 1) (acc.push x.toNat.toUInt8) (fun j y hy => by
      have := h (j + 1) y (by simpa using hy)
      have e : (a.add 1).add j = a.add (j + 1) := by
        unfold Addr.add
        by_cases hj : j = 0
        · subst hj; simp
        · simp [hj]; omega
      rw [e]; exact this)
    simp only [List.length_cons, loadBytes, Sem.run_bind, run_load, h0, Result.andThen]
    rw [ih]
    congr 1
    apply ByteArray.ext
    simp [ByteArray.push]

theorem run_unsafeString_off (w : World) (pt it ty e : TypeId) (hp : P.underlying pt = some (.pointer e)) (hc : P.cellsOf e = 1) (g o cells : Nat) (hsh : w.shape? g = some (e, cells)) (l : List Int) (h0 : l ≠ []) (hn : o + l.length ≤ cells) (h63 : l.length ≤ 9223372036854775807) (k : IntKind)
    (hcell : ∀ j x, l[j]? = some x → w.cell? ((⟨g, o, none⟩ : Addr).add j) = some (.int .u8 x)) (ts : Array Nat) (ht : ts[0]? = some pt) :
    (Builtin.unsafeString_ ts ty #[.pointer (some ⟨g, o, none⟩), .int k l.length]).run P w = .ok (.string ⟨(l.map fun n => n.toNat.toUInt8).toArray⟩) (w.freeze ⟨g, o, none⟩ l.length) := by
  have hl : l.length ≠ 0 := by simpa using h0
  have hlb := run_loadBytes' (P := P) (w := w) l ⟨g, o, none⟩ .empty hcell
  have hlies := liesAt_bytes_off (P := P) hc (cells / P.cellsOf e) o l.length (by rw [hc]; simpa using hn)
  have h63' : ¬ (9223372036854775807 : Int) < (l.length : Int) := by omega
  obtain ⟨m0, m1, m2, m3, hdef⟩ : ∃ (m0 : String) (m1 : String) (m2 : String) (m3 : String), Builtin.unsafeString_ ts ty #[.pointer (some ⟨g, o, none⟩), .int k l.length] =
      (do
        let n ← asInt (.int k l.length)
        let some pt := ts[0]? | stuck m0
        if n < 0 then runtimePanic (.error m1)
        if n > IntKind.i64.max then unsupported (.unsafePointer m2)
        if n = 0 then pure (.string .empty)
        else if ← variablesAt ⟨g, o, none⟩ (← elemOf pt) n.toNat then do
          let s ← loadBytes ⟨g, o, none⟩ .empty n.toNat
          freeze ⟨g, o, none⟩ n.toNat
          pure (.string s)
        else unsupported (.unsafePointer m3)) := ⟨_, _, _, _, rfl⟩
  rw [hdef]
  have hmax : IntKind.i64.max = 9223372036854775807 := rfl
  have hneg : ¬ (l.length : Int) < 0 := by omega
  simp [ht, asInt, asIntOf, hmax, h63', hneg, hl, variablesAt, hsh, elemOf, run_underlying hp, hlies, hlb]

theorem run_unsafeString_zero (w : World) (pt ty : TypeId) (p : Option Addr) (k : IntKind) (ts : Array Nat) (ht : ts[0]? = some pt) :
    (Builtin.unsafeString_ ts ty #[.pointer p, .int k 0]).run P w = .ok (.string .empty) w := by
  have hmax : IntKind.i64.max = 9223372036854775807 := rfl
  cases p with
  | none =>
    obtain ⟨m0, m1, m2, m3, hdef⟩ : ∃ (m0 : String) (m1 : String) (m2 : String) (m3 : String), Builtin.unsafeString_ ts ty #[.pointer none, .int k 0] =
        (do
          let n ← asInt (.int k 0)
          let some pt := ts[0]? | stuck m0
          if n < 0 then runtimePanic (.error m1)
          if n > IntKind.i64.max then unsupported (.unsafePointer m2)
          if n = 0 then pure (.string .empty)
          else runtimePanic (.error m3)) := ⟨_, _, _, _, rfl⟩
    rw [hdef]
    simp [ht, asInt, asIntOf, hmax]
  | some a =>
    obtain ⟨m0, m1, m2, m3, hdef⟩ : ∃ (m0 : String) (m1 : String) (m2 : String) (m3 : String), Builtin.unsafeString_ ts ty #[.pointer (some a), .int k 0] =
        (do
          let n ← asInt (.int k 0)
          let some pt := ts[0]? | stuck m0
          if n < 0 then runtimePanic (.error m1)
          if n > IntKind.i64.max then unsupported (.unsafePointer m2)
          if n = 0 then pure (.string .empty)
          else if ← variablesAt a (← elemOf pt) n.toNat then do
            let s ← loadBytes a .empty n.toNat
            freeze a n.toNat
            pure (.string s)
          else unsupported (.unsafePointer m3)) := ⟨_, _, _, _, rfl⟩
    rw [hdef]
    simp [ht, asInt, asIntOf, hmax]

theorem freeze_off {b o k e : Nat} {arr : Array Value} {fr : Nat × Nat} (hk : k ≠ 0) (hb : w.heap[b]? = some (.cells arr e fr)) :
    OneOff w (w.freeze ⟨b, o, none⟩ k) b ∧ (w.freeze ⟨b, o, none⟩ k).heap[b]? = some (.cells arr e (if fr.1 == fr.2 then (o, o + k) else (min fr.1 o, max fr.2 (o + k)))) := by
  unfold World.freeze
  rw [if_neg hk]
  refine ⟨⟨rfl, rfl, rfl, by simp, fun j hj => by simp only [Array.getElem?_modify]; rw [if_neg (Ne.symm hj)]⟩, ?_⟩
  simp only [Array.getElem?_modify, if_true, hb, Option.map_some]

theorem unsafeString_sound (hE : EnvOK E P) (hH : RH E base γ h w) {pt ty : Nat} {ts : Array Nat} {x m v : AV} {X M : Value} {h' : Heap} (ht : ts[0]? = some pt) (hX : RV γ x X) (hM : RV γ m M)
    (hs : unsafeString E h pt x m = some (v, h')) : Good E P base γ h w v h' ((Builtin.unsafeString_ ts ty #[X, M]).run P w) := by
  unfold unsafeString at hs
  split at hs
  · cases hs
  · rename_i hm
    obtain ⟨k, rfl⟩ := natOf_sound hM hm
    have key : ∀ p, X = .pointer p → v = .s [] ∧ h' = h → Good E P base γ h w v h' ((Builtin.unsafeString_ ts ty #[X, .int k ((0 : Nat) : Int)]).run P w) := fun p hp ⟨h1, h2⟩ => by
      subst hp; subst h1; subst h2
      exact ⟨γ, w, _, run_unsafeString_zero w pt ty p k ts ht, ⟨rfl, by simp⟩, FC.refl _ _ _, hH⟩
    split at hs
    · cases hs; simp only [RV] at hX; exact key _ hX ⟨rfl, rfl⟩
    · cases hs; obtain ⟨B, _, hX⟩ := hX; exact key _ hX ⟨rfl, rfl⟩
    · cases hs
  · rename_i k' hm0 hm
    obtain ⟨k, rfl⟩ := natOf_sound hM hm
    split at hs
    · rename_i i o
      split at hs
      · rename_i e hu
        split at hs
        · rename_i el cs nn gr fz hi
          split at hs
          · cases hs
          · rename_i hc
            simp only [Bool.and_eq_true] at hc
            obtain ⟨⟨⟨c1, c2⟩, c3⟩, c4⟩ := hc
            have c1 := Nat.eq_of_beq_eq_true c1
            subst c1
            have c4 := Nat.le_of_ble_eq_true c4
            split at hs
            · cases hs
            · rename_i vs hvs
              split at hs
              · cases hs
              · rename_i bs hbs
                cases hs
                obtain ⟨B, hB, hb0, arr, fr, harr, hRC, hfz, hish, hgr⟩ := hH.blk _ _ hi
                obtain ⟨B', hB', rfl⟩ := hX
                rw [hB] at hB'; cases hB'
                have hcell1 : P.cellsOf el = 1 := by
                  split at c3
                  · rename_i hsz
                    obtain ⟨ii, h1, h2⟩ := hE.size hsz
                    simp [Program.cellsOf, h1, h2]
                  · cases c3
                obtain ⟨Vs, h4, h5⟩ := hRC.list hvs
                obtain ⟨ns, h6, h7⟩ := bytesOf_sound h4 hbs
                have hvl := loadCells_length hvs
                have hnl : ns.length = k' := by
                  have := h4.length
                  rw [h6] at this; simpa [hvl] using this
                subst hnl
                have hk0 : ns.length ≠ 0 := fun e => hm0 e
                have hbound : B.off + o + ns.length ≤ arr.size := by
                  obtain ⟨q, hq⟩ : ∃ q, ns[ns.length - 1]? = some q := ⟨ns[ns.length - 1], by simp⟩
                  have := h5 (ns.length - 1) (.int .u8 q) (by rw [h6]; simp [hq])
                  have := (Array.getElem?_eq_some_iff.1 this).1
                  omega
                have hsh : w.shape? B.block = some (el, arr.size) := by simp [World.shape?, harr]
                have hrun := run_unsafeString_off w pt 0 ty el (hE.und hu) hcell1 B.block (B.off + o) arr.size hsh ns (fun e => hk0 (by rw [e]; rfl)) hbound c4 k (fun j x hj => by
                  rw [Addr.add_lit, cell_of_row harr]
                  exact h5 j _ (by rw [h6]; simp [hj])) ts ht
                obtain ⟨h8, h9⟩ := freeze_off (o := B.off + o) hk0 harr
                have hish := hish rfl
                have hwr := hH.write hi hB h8.os h8.tape h8.output h8.size h8.keep (A' := .cells el cs nn gr (Nat.max fz (o + ns.length)) false)
                  ⟨arr, _, h9, hRC, fun j j1 j2 => by
                    have hmx : o + ns.length ≤ Nat.max fz (o + ns.length) := Nat.le_max_right _ _
                    have hmx2 : fz ≤ Nat.max fz (o + ns.length) := Nat.le_max_left _ _
                    have hmx3 : fr.2 ≤ B.off + Nat.max fz (o + ns.length) := by omega
                    have hmx4 : B.off + o + ns.length ≤ B.off + Nat.max fz (o + ns.length) := by omega
                    split
                    · show _ ; simp only; omega
                    · show _ ; simp only; omega, fun _ => by
                    have hmx : o + ns.length ≤ Nat.max fz (o + ns.length) := Nat.le_max_right _ _
                    have hmx2 : fz ≤ Nat.max fz (o + ns.length) := Nat.le_max_left _ _
                    have hmx3 : fr.2 ≤ B.off + Nat.max fz (o + ns.length) := by omega
                    have hmx4 : B.off + o + ns.length ≤ B.off + Nat.max fz (o + ns.length) := by omega
                    split
                    · show _ ; simp only; omega
                    · show _ ; simp only; omega, hgr⟩
                refine ⟨γ, _, _, hrun, ⟨?_, fun c hc => ?_⟩, hwr.1, hwr.2⟩
                · rw [h7]
                  congr 1
                  simp only [mkBytes, List.map_map]
                  congr 2
                  apply List.map_congr_left
                  intro b _
                  apply UInt8.toNat_inj.1
                  simp
                · rw [h7] at hc
                  obtain ⟨q, _, rfl⟩ := List.mem_map.1 hc
                  omega
        · cases hs
      · cases hs
    · cases hs
end
end Go.Vai

/- Every operation does what the interpreter says. -/
namespace Go.Vai
open Go

/-- What the yield of an operation says of the model's run. -/
def OpOK (E : Env) (P : Program) (base : Nat) (γ : Gam) (h : Heap) (w : World) (r : Result Next) : OR → Prop
  | .val v h' => ∃ γ' w' V, r = .ok (.value V) w' ∧ RV γ' v V ∧ FC γ h w γ' h' w' ∧ RH E base γ' h' w'
  | .skip h' => ∃ w', r = .ok .skip w' ∧ FC γ h w γ h' w' ∧ RH E base γ h' w'
  | .enter f args => ∃ Args : List Value, r = .ok (.enter f Args.toArray) w ∧ RVs γ args Args ∧ ∃ fn c, E.fns.get f = some fn ∧ fn.body = some c
  | .dfr f args => ∃ d cap, ∃ Args : List Value, r = .ok (.defer d) w ∧ d.target = .fn (.func f) cap ∧ RVs γ args Args ∧ d.args ++ cap = Args.toArray ∧ ∃ fn c, E.fns.get f = some fn ∧ fn.body = some c
  | .recover => r = .ok .recover w
  | .pan v => ∃ V, r = .halt (.panic V) w ∧ RV γ v V

section
variable {E : Env} {P : Program} {base : Nat} {γ : Gam} {F : Tr AV} {n : Nat} {a : Act} {h : Heap} {w : World}

theorem target_sound (hF : RF γ F n a.tmps) {f : Operand} {xs : Array Operand} {fid : Nat} {vs : List AV} (ht : target E F f xs.toList = some (fid, vs)) :
    ∃ A C : List Value, ∃ Args : List Value, a.eval f = .func (.func fid) A.toArray C.toArray ∧ RVs γ vs Args ∧ A.toArray ++ xs.map a.eval ++ C.toArray = Args.toArray ∧
      ∃ fn c, E.fns.get fid = some fn ∧ fn.body = some c := by
  unfold target at ht
  split at ht
  · rename_i f' as cap hf
    split at ht
    · cases ht
    · rename_i us hus
      split at ht
      · cases ht
      · rename_i fn hfn
        split at ht
        · cases ht
        · rename_i c hc
          cases ht
          obtain ⟨A, C, hA, hC, hfv⟩ := eval_sound hF hf
          have hargs := evals_sound hF hus
          exact ⟨A, C, A ++ xs.toList.map a.eval ++ C, hfv, (hA.append hargs).append hC, by apply Array.ext'; simp, fn, c, hfn, hc⟩
  · cases ht

theorem memV_sound {r : Option (AV × Heap)} {o : OR} (hr : memV r = some o) {s : Sem Value} (hs : ∀ v h', r = some (v, h') → Good E P base γ h w v h' (s.run P w)) :
    OpOK E P base γ h w ((do pure (.value (← s)) : Sem Next).run P w) o := by
  unfold memV at hr
  split at hr
  · cases hr
  · rename_i v h'
    cases hr
    obtain ⟨γ', w', V, h1, h2, h3, h4⟩ := hs _ _ rfl
    exact ⟨γ', w', V, by simp only [Sem.run_bind, h1, Result.andThen_ok, Sem.run_pure], h2, h3, h4⟩

theorem skipV_sound {r : Option Heap} {o : OR} (hr : skipV r = some o) {s : Sem Unit} (hs : ∀ h', r = some h' → ∃ w', s.run P w = .ok () w' ∧ FC γ h w γ h' w' ∧ RH E base γ h' w') :
    OpOK E P base γ h w ((do s; pure .skip : Sem Next).run P w) o := by
  unfold skipV at hr
  split at hr
  · cases hr
  · rename_i h'
    cases hr
    obtain ⟨w', h1, h2, h3⟩ := hs _ rfl
    exact ⟨w', by simp only [Sem.run_bind, h1, Result.andThen_ok, Sem.run_pure], h2, h3⟩

theorem array_two {α β : Type} {xs : Array α} {f : α → β} {X Y : β} (h : xs.toList.map f = [X, Y]) : xs.map f = #[X, Y] := by
  apply Array.ext'; simpa using h

theorem actBuiltin_sound (hE : EnvOK E P) (hF : RF γ F n a.tmps) (hH : RH E base γ h w) {b : Builtin} {ts : Array Nat} {xs : Array Operand} {ty : Nat} {cs : Array Bool} {o : OR}
    (hv : actBuiltin E F h b ts.toList xs.toList = some o) : OpOK E P base γ h w ((builtin b ts ty cs (xs.map a.eval)).run P w) o := by
  unfold actBuiltin at hv
  split at hv
  · split at hv
    · rename_i s x hx
      obtain ⟨S, us, hS, ⟨X, us', hX, hus, rfl⟩, he⟩ := evals_sound hF hx
      simp only [RVs] at hus; subst hus
      rw [array_two he]
      simp only [builtin]
      exact memV_sound hv fun v h' hr => append_sound hE hH hS hX hr
    · cases hv
  · split at hv
    · rename_i d s t tl hx ht
      obtain ⟨S, us, hS, ⟨X, us', hX, hus, rfl⟩, he⟩ := evals_sound hF hx
      simp only [RVs] at hus; subst hus
      have ht' : ts[0]? = some t := by rw [← Array.getElem?_toList, ht]; rfl
      rw [array_two he]
      simp only [builtin]
      exact memV_sound hv fun v h' hr => copy_sound hE hH ht' hS hX hr
    · cases hv
  · split at hv
    · rename_i x t tl hx ht
      obtain ⟨X, us, hX, hus, he⟩ := evals_sound hF hx
      simp only [RVs] at hus; subst hus
      have ht' : ts[0]? = some t := by rw [← Array.getElem?_toList, ht]; rfl
      rw [array_one he]
      split at hv
      · cases hv
      · rename_i d hd
        split at hv
        · cases hv
        · rename_i h' hc
          cases hv
          simp only [builtin]
          exact memV_sound (r := some (.tup [], h')) rfl fun v h'' hr => by
            cases hr
            exact clear_sound hE hH ht' hX hc ⟨d, hd⟩
    · cases hv
  · cases hv; rfl
  · split at hv
    · rename_i x m t tl hx ht
      obtain ⟨S, us, hS, ⟨X, us', hX, hus, rfl⟩, he⟩ := evals_sound hF hx
      simp only [RVs] at hus; subst hus
      have ht' : ts[0]? = some t := by rw [← Array.getElem?_toList, ht]; rfl
      rw [array_two he]
      simp only [builtin]
      exact memV_sound hv fun v h' hr => unsafeString_sound hE hH ht' hS hX hr
    · cases hv
  · cases hv

theorem act_sound (hE : EnvOK E P) (hF : RF γ F n a.tmps) (hH : RH E base γ h w) {o : Oper} {r : OR} (hv : act E F h o.op = some r) :
    OpOK E P base γ h w ((execOp a.eval o).run P w) r := by
  obtain ⟨dst, op, ty, pos, after, guard⟩ := o
  cases op <;> simp only [act] at hv <;> (try (cases hv; done)) <;> simp only [execOp]
  case store t x y =>
    split at hv
    · cases hv
    · rename_i p hp
      split at hv
      · cases hv
      · rename_i q hq
        exact skipV_sound hv fun h' hr => storeAt_sound hE hH (eval_sound hF hp) (eval_sound hF hq) hr
  case convert s d x =>
    split at hv
    · cases hv
    · rename_i p hp
      exact memV_sound hv fun v h' hr => convertMem_sound hE hH (eval_sound hF hp) hr
  case makeSlice t l c =>
    split at hv
    · cases hv
    · rename_i p hp
      split at hv
      · cases hv
      · rename_i q hq
        exact memV_sound hv fun v h' hr => makeSlice_sound hE hH (eval_sound hF hp) (eval_sound hF hq) hr
  case mapUpdate t m k x =>
    split at hv
    · cases hv
    · rename_i p hp
      split at hv
      · cases hv
      · rename_i q hq
        split at hv
        · cases hv
        · rename_i z hz
          exact skipV_sound hv fun h' hr => mapUpdate_sound hE hH (eval_sound hF hp) (eval_sound hF hq) (eval_sound hF hz) hr
  case next x isS =>
    cases isS with
    | false => simp at hv
    | true =>
      simp only at hv
      split at hv
      · cases hv
      · rename_i p hp
        exact memV_sound hv fun v h' hr => nextStr_sound hH (eval_sound hF hp) hr
  case call c =>
    split at hv
    · rename_i b hc
      rw [resolve_builtin hc]
      exact actBuiltin_sound hE hF hH hv
    · rename_i f hc
      split at hv
      · cases hv
      · rename_i fid vs ht
        cases hv
        obtain ⟨A, C, Args, h1, h2, h3, fn, cd, h4, h5⟩ := target_sound hF ht
        refine ⟨Args, ?_, h2, fn, cd, h4, h5⟩
        rw [resolve_value hc ty h1, h3]
        exact hE.call fid fn cd h4 h5 Args.toArray w
    · cases hv
  case defer c =>
    split at hv
    · rename_i f hc
      split at hv
      · cases hv
      · rename_i fid vs ht
        cases hv
        obtain ⟨A, C, Args, h1, h2, h3, h4⟩ := target_sound hF ht
        refine ⟨{ target := .fn (.func fid) C.toArray, args := A.toArray ++ c.args.map a.eval }, C.toArray, Args, ?_, rfl, h2, h3, h4⟩
        simp only [resolve, hc, h1, Deferred.ofValue, Sem.run_bind, Sem.run_pure, Result.andThen_ok]
    · cases hv
  case panic x =>
    split at hv
    · rename_i t v hx
      cases hv
      obtain ⟨U, hU, hX⟩ := eval_sound hF hx
      refine ⟨_, ?_, ⟨U, hU, rfl⟩⟩
      rw [hX]
      rfl
    · cases hv

theorem op_sound (hE : EnvOK E P) (hF : RF γ F n a.tmps) (hH : RH E base γ h w) {o : Oper} {r : OR} (hv : op E F h o.op = some r) :
    OpOK E P base γ h w ((execOp a.eval o).run P w) r := by
  unfold op at hv
  split at hv
  · rename_i v hq
    cases hv
    obtain ⟨V, h1, h2⟩ := quiet_sound hE hF hH hq
    exact ⟨γ, w, V, h1, h2, FC.refl _ _ _, hH⟩
  · split at hv
    · rename_i m b hm
      cases hv
      obtain ⟨γ', w', V, h1, h2, h3, h4⟩ := maker_good hE hF hH hm
      exact ⟨γ', w', V, h1, h2, h3, h4⟩
    · exact act_sound hE hF hH hv
end
end Go.Vai
