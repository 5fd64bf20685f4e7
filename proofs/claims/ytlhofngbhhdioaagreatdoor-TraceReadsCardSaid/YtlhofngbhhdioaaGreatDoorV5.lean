/- V5: part of the proof (own work of this claim). -/
import Derived.Test.YtlhofngbhhdioaaGreatDoorV4
import Derived.Test.YtlhofngbhhdioaaGreatDoorV1
import Derived.Orders
set_option linter.unusedVariables false
set_option linter.unusedSimpArgs false
set_option linter.deprecated false
/- Regions whose order is drawn: masks, writers, frames. -/
namespace Go.Vai
open Go

theorem beqL_sound : ∀ {x y : List Nat}, beqL x y = true → x = y
  | [], [], _ => rfl
  | a :: x, b :: y, h => by
    simp only [beqL] at h
    split at h
    · rename_i hb
      rw [Nat.eq_of_beq_eq_true hb, beqL_sound h]
    · cases h
  | [], _ :: _, h => by simp [beqL] at h
  | _ :: _, [], h => by simp [beqL] at h

mutual
theorem eqAV_sound : ∀ {x y : AV}, eqAV x y = true → x = y
  | .b x, y, h => by cases y <;> simp_all [eqAV]
  | .n k x, y, h => by
    cases y <;> simp only [eqAV, Bool.false_eq_true] at h
    rename_i j y
    simp only [Bool.and_eq_true] at h
    have h1 := kindB_eq h.1
    have h2 := h.2
    rw [beqI_eq] at h2
    simp at h2
    rw [h1, h2]
  | .s x, y, h => by
    cases y <;> simp only [eqAV, Bool.false_eq_true] at h
    rw [beqL_sound h]
  | .p i o, y, h => by cases y <;> simp_all [eqAV]
  | .gp i o, y, h => by cases y <;> simp_all [eqAV]
  | .pnil, y, h => by cases y <;> simp_all [eqAV]
  | .sl i o n (.known c), y, h => by
    cases y with
    | sl j q m d => cases d <;> simp_all [eqAV]
    | _ => simp [eqAV] at h
  | .sl i o n (.rest c), y, h => by
    cases y with
    | sl j q m d => cases d <;> simp_all [eqAV]
    | _ => simp [eqAV] at h
  | .snil, y, h => by cases y <;> simp_all [eqAV]
  | .m i, y, h => by cases y <;> simp_all [eqAV]
  | .mnil, y, h => by cases y <;> simp_all [eqAV]
  | .fn (.func f) a c, y, h => by
    cases y with
    | fn g b d =>
      cases g with
      | func g =>
        simp only [eqAV, Bool.and_eq_true] at h
        rw [Nat.eq_of_beq_eq_true h.1.1, eqAVs_sound h.1.2, eqAVs_sound h.2]
      | _ => simp [eqAV] at h
    | _ => simp [eqAV] at h
  | .fn (.method f) a c, y, h => by simp [eqAV] at h
  | .fn (.methodOf f g) a c, y, h => by simp [eqAV] at h
  | .fnil, y, h => by cases y <;> simp_all [eqAV]
  | .iface t v, y, h => by
    cases y <;> simp only [eqAV, Bool.false_eq_true] at h
    simp only [Bool.and_eq_true] at h
    rw [Nat.eq_of_beq_eq_true h.1, eqAV_sound h.2]
  | .inil, y, h => by cases y <;> simp_all [eqAV]
  | .agg a, y, h => by
    cases y <;> simp only [eqAV, Bool.false_eq_true] at h
    rw [eqAVs_sound h]
  | .tup a, y, h => by
    cases y <;> simp only [eqAV, Bool.false_eq_true] at h
    rw [eqAVs_sound h]
theorem eqAVs_sound : ∀ {x y : List AV}, eqAVs x y = true → x = y
  | [], y, h => by cases y <;> simp_all [eqAVs]
  | a :: x, y, h => by
    cases y <;> simp only [eqAVs, Bool.false_eq_true] at h
    simp only [Bool.and_eq_true] at h
    rw [eqAV_sound h.1, eqAVs_sound h.2]
end

theorem bindsA_eq (e : Edge) : bindsA e = Region.binds .any e := by
  unfold bindsA Region.binds
  cases e.ground <;> rfl

/-- Operation j must go ahead of operation i. -/
def Pred (ms : Tr Nat) (i j : Nat) : Prop := ∃ m, ms.get i = some m ∧ m.testBit j = true

/-- What the masks say is what the edges say. -/
structure MaskOK (ops : Array Oper) (ms : Tr Nat) : Prop where
  dom : ∀ i o, ops[i]? = some o → ∃ m, ms.get i = some m
  low : ∀ i o e, ops[i]? = some o → e ∈ o.after → bindsA e = true → e.on < i
  why : ∀ i j, Pred ms i j → ∃ o e, ops[i]? = some o ∧ e ∈ o.after ∧ bindsA e = true ∧ (j = e.on ∨ Pred ms e.on j)

theorem maskOf_sound {ms : Tr Nat} {i : Nat} : ∀ {es : List Edge} {acc m : Nat}, maskOf ms i es acc = some m →
    (∀ e ∈ es, bindsA e = true → e.on < i) ∧ ∀ j, m.testBit j = true → acc.testBit j = true ∨ ∃ e ∈ es, bindsA e = true ∧ (j = e.on ∨ Pred ms e.on j)
  | [], acc, m, h => by simp only [maskOf, Option.some.injEq] at h; subst h; exact ⟨by simp, fun j hj => .inl hj⟩
  | e :: es, acc, m, h => by
    simp only [maskOf] at h
    split at h
    · rename_i hb
      obtain ⟨h1, h2⟩ := maskOf_sound h
      refine ⟨fun e' he' hb' => ?_, fun j hj => ?_⟩
      · rcases List.mem_cons.1 he' with rfl | he'
        · rw [hb] at hb'; cases hb'
        · exact h1 e' he' hb'
      · rcases h2 j hj with h3 | ⟨e', he', h3⟩
        · exact .inl h3
        · exact .inr ⟨e', List.mem_cons_of_mem _ he', h3⟩
    · rename_i hb
      split at h
      · cases h
      · rename_i hlt
        have hlt : e.on < i := Nat.le_of_ble_eq_true hlt
        split at h
        · cases h
        · rename_i m' hm'
          obtain ⟨h1, h2⟩ := maskOf_sound h
          refine ⟨fun e' he' hb' => ?_, fun j hj => ?_⟩
          · rcases List.mem_cons.1 he' with rfl | he'
            · exact hlt
            · exact h1 e' he' hb'
          · rcases h2 j hj with h3 | ⟨e', he', h3⟩
            · simp only [Nat.testBit_or, Bool.or_eq_true] at h3
              rcases h3 with h3 | h3 | h3
              · exact .inl h3
              · have : e.on = j := by simpa [Nat.testBit_two_pow] using h3
                exact .inr ⟨e, List.mem_cons_self .., hb, .inl this.symm⟩
              · exact .inr ⟨e, List.mem_cons_self .., hb, .inr ⟨m', hm', h3⟩⟩
            · exact .inr ⟨e', List.mem_cons_of_mem _ he', h3⟩

theorem masksOf_sound {ops : Array Oper} : ∀ {os : List Oper} {i : Nat} {ms ms' : Tr Nat}, masksOf os i ms = some ms' → ops.toList.drop i = os →
    (∀ k m, ms.get k = some m → k < i) → (∀ k o, k < i → ops[k]? = some o → ∃ m, ms.get k = some m) →
    (∀ k o e, k < i → ops[k]? = some o → e ∈ o.after → bindsA e = true → e.on < k) →
    (∀ k j, Pred ms k j → ∃ o e, ops[k]? = some o ∧ e ∈ o.after ∧ bindsA e = true ∧ (j = e.on ∨ Pred ms e.on j)) → MaskOK ops ms'
  | [], i, ms, ms', h, hd, h1, h2, h3, h4 => by
    simp only [masksOf, Option.some.injEq] at h; subst h
    have hsz : ops.size ≤ i := by
      have := List.drop_eq_nil_iff.1 hd
      simpa using this
    have hlt : ∀ k o, ops[k]? = some o → k < i := fun k o ho => Nat.lt_of_lt_of_le (Array.getElem?_eq_some_iff.1 ho).1 hsz
    exact ⟨fun k o ho => h2 k o (hlt k o ho) ho, fun k o e ho => h3 k o e (hlt k o ho) ho, h4⟩
  | o :: os, i, ms, ms', h, hd, h1, h2, h3, h4 => by
    simp only [masksOf] at h
    split at h
    · cases h
    · rename_i m hm
      have ho : ops[i]? = some o := by
        rw [← Array.getElem?_toList]
        have : (ops.toList.drop i)[0]? = some o := by rw [hd]; rfl
        simpa using this
      have hd' : ops.toList.drop (i + 1) = os := by rw [← List.drop_drop, hd]; rfl
      obtain ⟨g1, g2⟩ := maskOf_sound hm
      have hput : ∀ k, k < i → (ms.put i m).get k = ms.get k := fun k hk => by rw [Tr.get_put, if_neg (by omega)]
      refine masksOf_sound h hd' (fun k q hk => ?_) (fun k o' hk hok => ?_) (fun k o' e hk hok => ?_) (fun k j hp => ?_)
      · rw [Tr.get_put] at hk
        split at hk
        · omega
        · have := h1 k q hk; omega
      · rcases Nat.lt_or_ge k i with hki | hki
        · rw [hput k hki]; exact h2 k o' hki hok
        · have : k = i := by omega
          subst this
          exact ⟨m, by rw [Tr.get_put, if_pos rfl]⟩
      · rcases Nat.lt_or_ge k i with hki | hki
        · exact h3 k o' e hki hok
        · have : k = i := by omega
          subst this
          rw [ho] at hok; cases hok
          intro he hb
          exact g1 e (by simpa using he) hb
      · obtain ⟨q, hq, hqj⟩ := hp
        rw [Tr.get_put] at hq
        split at hq
        · rename_i hki
          subst hki
          cases hq
          rcases g2 j hqj with h0 | ⟨e, he, hb, hj⟩
          · simp at h0
          · refine ⟨o, e, ho, by simpa using he, hb, hj.imp id fun ⟨q', hq', hqj'⟩ => ⟨q', ?_, hqj'⟩⟩
            rw [hput _ (g1 e he hb)]; exact hq'
        · obtain ⟨o', e, hok, he, hb, hj⟩ := h4 k j ⟨q, hq, hqj⟩
          have hk := h1 k q hq
          refine ⟨o', e, hok, he, hb, hj.imp id fun ⟨q', hq', hqj'⟩ => ⟨q', ?_, hqj'⟩⟩
          have := h1 e.on q' hq'
          rw [hput _ this]; exact hq'

/-- Who writes a temporary. -/
def WrOK (ops : Array Oper) (wr : Tr Nat) : Prop :=
  ∀ t, (wr.get t = none → ∀ (k : Nat) o, ops[k]? = some o → o.dst ≠ some t) ∧
    ∀ j, wr.get t = some j → (∃ o, ops[j]? = some o ∧ o.dst = some t) ∧ ∀ (k : Nat) o, ops[k]? = some o → o.dst = some t → k = j

theorem writersOf_sound {ops : Array Oper} : ∀ {os : List Oper} {i : Nat} {wr wr' : Tr Nat}, writersOf os i wr = some wr' → ops.toList.drop i = os →
    (∀ t, (wr.get t = none → ∀ (k : Nat) o, k < i → ops[k]? = some o → o.dst ≠ some t) ∧
      ∀ j, wr.get t = some j → (∃ o, ops[j]? = some o ∧ o.dst = some t) ∧ ∀ (k : Nat) o, k < i → ops[k]? = some o → o.dst = some t → k = j) → WrOK ops wr'
  | [], i, wr, wr', h, hd, h1 => by
    simp only [writersOf, Option.some.injEq] at h; subst h
    have hsz : ops.size ≤ i := by
      have := List.drop_eq_nil_iff.1 hd
      simpa using this
    have hlt : ∀ (k : Nat) o, ops[k]? = some o → k < i := fun k o ho => Nat.lt_of_lt_of_le (Array.getElem?_eq_some_iff.1 ho).1 hsz
    exact fun t => ⟨fun hn k o ho => (h1 t).1 hn k o (hlt k o ho) ho, fun j hj => ⟨((h1 t).2 j hj).1, fun k o ho => ((h1 t).2 j hj).2 k o (hlt k o ho) ho⟩⟩
  | o :: os, i, wr, wr', h, hd, h1 => by
    have ho : ops[i]? = some o := by
      rw [← Array.getElem?_toList]
      have : (ops.toList.drop i)[0]? = some o := by rw [hd]; rfl
      simpa using this
    have hd' : ops.toList.drop (i + 1) = os := by rw [← List.drop_drop, hd]; rfl
    simp only [writersOf] at h
    split at h
    · rename_i hdst
      refine writersOf_sound h hd' fun t => ⟨fun hn k o' hk hok => ?_, fun j hj => ⟨((h1 t).2 j hj).1, fun k o' hk hok hot => ?_⟩⟩
      · rcases Nat.lt_or_ge k i with hki | hki
        · exact (h1 t).1 hn k o' hki hok
        · have : k = i := by omega
          subst this
          rw [ho] at hok; cases hok
          rw [hdst]; simp
      · rcases Nat.lt_or_ge k i with hki | hki
        · exact ((h1 t).2 j hj).2 k o' hki hok hot
        · have : k = i := by omega
          subst this
          rw [ho] at hok; cases hok
          rw [hdst] at hot; cases hot
    · rename_i d hdst
      split at h
      · cases h
      · rename_i hnone
        refine writersOf_sound h hd' fun t => ?_
        rw [Tr.get_put]
        by_cases htd : t = d
        · subst htd
          rw [if_pos rfl]
          refine ⟨by simp, fun j hj => ?_⟩
          cases hj
          refine ⟨⟨o, ho, hdst⟩, fun k o' hk hok hot => ?_⟩
          rcases Nat.lt_or_ge k i with hki | hki
          · exact absurd hot ((h1 t).1 hnone k o' hki hok)
          · omega
        · rw [if_neg htd]
          refine ⟨fun hn k o' hk hok => ?_, fun j hj => ⟨((h1 t).2 j hj).1, fun k o' hk hok hot => ?_⟩⟩
          · rcases Nat.lt_or_ge k i with hki | hki
            · exact (h1 t).1 hn k o' hki hok
            · have : k = i := by omega
              subst this
              rw [ho] at hok; cases hok
              rw [hdst]; simp; exact fun e => htd e.symm
          · rcases Nat.lt_or_ge k i with hki | hki
            · exact ((h1 t).2 j hj).2 k o' hki hok hot
            · have : k = i := by omega
              subst this
              rw [ho] at hok; cases hok
              rw [hdst] at hot
              exact absurd (by simpa using hot.symm) htd

/-- What operation i sees in its temporaries. -/
def FrOK (ops : Array Oper) (ms : Tr Nat) (F0 vals : Tr AV) (i : Nat) (Fr : Tr AV) : Prop :=
  ∀ t v, Fr.get t = some v → (∃ j o, ops[j]? = some o ∧ o.dst = some t ∧ Pred ms i j ∧ vals.get j = some v) ∨
    ((∀ (j : Nat) o, ops[j]? = some o → o.dst = some t → j = i ∨ Pred ms j i) ∧ F0.get t = some v)

theorem FrOK.mono {ops : Array Oper} {ms F0 vals vals' : Tr _} {i : Nat} {Fr : Tr AV} (h : FrOK ops ms F0 vals i Fr) (hv : ∀ j v, vals.get j = some v → vals'.get j = some v) : FrOK ops ms F0 vals' i Fr :=
  fun t v ht => (h t v ht).imp (fun ⟨j, o, h1, h2, h3, h4⟩ => ⟨j, o, h1, h2, h3, hv j v h4⟩) id

theorem slotOf_sound {ops : Array Oper} {ms wr : Tr Nat} {F0 vals : Tr AV} {i m t : Nat} {v : AV} (hw : WrOK ops wr) (hm : ms.get i = some m) (h : slotOf ms wr F0 vals i m t = some (some v)) :
    (∃ j o, ops[j]? = some o ∧ o.dst = some t ∧ Pred ms i j ∧ vals.get j = some v) ∨
    ((∀ (j : Nat) o, ops[j]? = some o → o.dst = some t → j = i ∨ Pred ms j i) ∧ F0.get t = some v) := by
  unfold slotOf at h
  split at h
  · rename_i hn
    simp only [Option.some.injEq] at h
    exact .inr ⟨fun j o ho hd => absurd hd ((hw t).1 hn j o ho), h⟩
  · rename_i j hj
    obtain ⟨⟨o, h1, h2⟩, h3⟩ := (hw t).2 j hj
    split at h
    · rename_i hb
      simp only [Option.some.injEq] at h
      exact .inl ⟨j, o, h1, h2, ⟨m, hm, hb⟩, h⟩
    · split at h
      · rename_i hji
        simp only [Option.some.injEq] at h
        exact .inr ⟨fun k o' ho hd => .inl ((h3 k o' ho hd).trans (Nat.eq_of_beq_eq_true hji)), h⟩
      · split at h
        · cases h
        · rename_i mj hmj
          split at h
          · rename_i hb
            simp only [Option.some.injEq] at h
            exact .inr ⟨fun k o' ho hd => .inr (by rw [h3 k o' ho hd]; exact ⟨mj, hmj, hb⟩), h⟩
          · cases h

theorem frameOf_sound {ops : Array Oper} {ms wr : Tr Nat} {F0 vals : Tr AV} {i m : Nat} (hw : WrOK ops wr) (hm : ms.get i = some m) : ∀ {ts : List Nat} {acc Fr : Tr AV}, frameOf ms wr F0 vals i m ts acc = some Fr →
    FrOK ops ms F0 vals i acc → FrOK ops ms F0 vals i Fr
  | [], acc, Fr, h, ha => by simp only [frameOf, Option.some.injEq] at h; subst h; exact ha
  | t :: ts, acc, Fr, h, ha => by
    simp only [frameOf] at h
    split at h
    · cases h
    · exact frameOf_sound hw hm h ha
    · rename_i v hv
      refine frameOf_sound hw hm h fun t' v' ht' => ?_
      rw [Tr.get_put] at ht'
      split at ht'
      · rename_i e
        subst e
        cases ht'
        exact slotOf_sound hw hm hv
      · exact ha t' v' ht'

theorem FrOK.nil {ops : Array Oper} {ms : Tr Nat} {F0 vals : Tr AV} {i : Nat} : FrOK ops ms F0 vals i .nil := fun t v h => by simp [Tr.get] at h
end Go.Vai

/- Regions whose order is drawn: what the pass in text order says. -/
namespace Go.Vai
open Go

theorem pick_eq (m : Nat) (w : Bool) : ∀ l, pick m w l = l.filter (fun p => m.testBit p.1 == w)
  | [] => rfl
  | p :: l => by
    simp only [pick]
    split
    · rename_i h; rw [List.filter_cons_of_pos (by exact h), pick_eq m w l]
    · rename_i h; rw [List.filter_cons_of_neg (by rw [h]; simp), pick_eq m w l]

def later (fin : List (Nat × Blk)) : List CStep → List (Nat × Blk)
  | [] => fin
  | s :: r => s.js ++ later fin r

/-- Heaps alike. -/
def HX (h h' : Heap) : Prop := h'.nx = h.nx ∧ ∀ i, h'.bl.get i = h.bl.get i

section
variable (E : Env) (call : CallA) (ops : Array Oper) (ms : Tr Nat) (F0 : Tr AV) (nx0 : Nat) (vals : Tr AV)

def Win (prev : Option Nat) (H : Heap) (next : Option Nat) : Prop :=
  ∀ (i : Nat) o, ops[i]? = some o → cls o.op = .q → (∀ x, next = some x → ¬ Pred ms i x) → (∀ y, prev = some y → ¬ Pred ms y i) →
    ∃ Fr v, FrOK ops ms F0 vals i Fr ∧ vals.get i = some v ∧ quietStep E ops.toList Fr H o = some v

def CV (H : Heap) (s : CStep) : Prop :=
  ∃ o m, ops[s.c]? = some o ∧ cls o.op = .c ∧ ms.get s.c = some m ∧ (∀ p ∈ s.js, m.testBit p.1 = true) ∧ FrOK ops ms F0 vals s.c s.fr ∧
    chainStep E call ops.toList s.fr ⟨H.nx, joinAll nx0 H.bl s.js⟩ o = some (s.v, s.h) ∧ vals.get s.c = some s.v

def Alt (H : Heap) (s : CStep) (rest : List CStep) : Prop :=
  ∃ s2 t2 t1, rest = [s2] ∧ s.js = [] ∧ s2.js = [] ∧ t2.js = [] ∧ t1.js = [] ∧ t2.c = s2.c ∧ t1.c = s.c ∧ CV E call ops ms F0 nx0 vals H t2 ∧ Win E ops ms F0 vals (some s2.c) t2.h (some s.c) ∧
    CV E call ops ms F0 nx0 vals t2.h t1 ∧ Win E ops ms F0 vals (some s.c) t1.h none ∧ HX t1.h s2.h

def Chn : Heap → List CStep → Prop
  | _, [] => True
  | H, s :: rest => CV E call ops ms F0 nx0 vals H s ∧ ((∀ s' ∈ rest, Pred ms s'.c s.c) ∨ Alt E call ops ms F0 nx0 vals H s rest) ∧ Chn s.h rest

def WinAll : Option Nat → Heap → List CStep → Prop
  | prev, H, [] => Win E ops ms F0 vals prev H none
  | prev, H, s :: rest => Win E ops ms F0 vals prev H (some s.c) ∧ WinAll (some s.c) s.h rest
end

section
variable {E : Env} {call : CallA} {ops : Array Oper} {ms wr : Tr Nat} {F0 : Tr AV} {nx0 : Nat} {vals : Tr AV}

theorem winOps_sound (hw : WrOK ops wr) {prev next : Option Nat} {H : Heap} : ∀ {os : List Oper} {i : Nat}, winOps E ops.toList ms wr F0 vals prev H next os i = true → ops.toList.drop i = os →
    ∀ (j : Nat) o, i ≤ j → ops[j]? = some o → cls o.op = .q → (∀ x, next = some x → ¬ Pred ms j x) → (∀ y, prev = some y → ¬ Pred ms y j) →
    ∃ Fr v, FrOK ops ms F0 vals j Fr ∧ vals.get j = some v ∧ quietStep E ops.toList Fr H o = some v
  | [], i, h, hd, j, o, hij, ho, _, _, _ => by
    have hsz : ops.size ≤ i := by
      have := List.drop_eq_nil_iff.1 hd
      simpa using this
    have := (Array.getElem?_eq_some_iff.1 ho).1
    omega
  | p :: os, i, h, hd, j, o, hij, ho, hq, hn, hp => by
    have hi : ops[i]? = some p := by
      rw [← Array.getElem?_toList]
      have : (ops.toList.drop i)[0]? = some p := by rw [hd]; rfl
      simpa using this
    have hd' : ops.toList.drop (i + 1) = os := by rw [← List.drop_drop, hd]; rfl
    have rec1 : winOps E ops.toList ms wr F0 vals prev H next os (i + 1) = true → i ≠ j → ∃ Fr v, FrOK ops ms F0 vals j Fr ∧ vals.get j = some v ∧ quietStep E ops.toList Fr H o = some v :=
      fun h' hne => winOps_sound hw h' hd' j o (by omega) ho hq hn hp
    simp only [winOps] at h
    split at h
    · rename_i hc
      split at h
      · cases h
      · rename_i m hm
        split at h
        · rename_i hb
          refine rec1 h fun e => ?_
          subst e
          cases next with
          | none => cases hb
          | some x => exact hn x rfl ⟨m, hm, hb⟩
        · split at h
          · cases h
          · rename_i hb
            refine rec1 h fun e => ?_
            subst e
            cases prev with
            | none => cases hb
            | some y =>
              simp only at hb
              split at hb
              · cases hb
              · rename_i my hmy
                simp only [Option.some.injEq] at hb
                exact hp y rfl ⟨my, hmy, hb⟩
          · split at h
            · cases h
            · rename_i Fr hFr
              split at h
              · rename_i v u hv hu
                split at h
                · rename_i he
                  have he := eqAV_sound he
                  subst he
                  by_cases e : i = j
                  · subst e
                    rw [hi] at ho; cases ho
                    exact ⟨Fr, v, frameOf_sound hw hm hFr FrOK.nil, hu, hv⟩
                  · exact rec1 h e
                · cases h
              · cases h
    · rename_i hc
      refine rec1 h fun e => ?_
      subst e
      rw [hi] at ho; cases ho
      exact hc hq

theorem win_sound (hw : WrOK ops wr) {prev next : Option Nat} {H : Heap} (h : winOps E ops.toList ms wr F0 vals prev H next ops.toList 0 = true) : Win E ops ms F0 vals prev H next :=
  fun i o ho hq hn hp => winOps_sound hw h rfl i o (Nat.zero_le _) ho hq hn hp

theorem winAll_sound (hw : WrOK ops wr) : ∀ {st : List CStep} {prev : Option Nat} {H : Heap}, winAll E ops.toList ms wr F0 vals prev H st = true → WinAll E ops ms F0 vals prev H st
  | [], prev, H, h => win_sound hw h
  | s :: st, prev, H, h => by
    simp only [winAll] at h
    split at h
    · rename_i h1
      exact ⟨win_sound hw h1, winAll_sound hw h⟩
    · cases h

theorem ordOK_sound {i : Nat} : ∀ {st : List CStep}, ordOK ms i st = true → ∀ s' ∈ st, Pred ms s'.c i
  | [], _, s', hs => by cases hs
  | s :: st, h, s', hs => by
    simp only [ordOK] at h
    split at h
    · cases h
    · rename_i m hm
      split at h
      · rename_i hb
        rcases List.mem_cons.1 hs with rfl | hs
        · exact ⟨m, hm, hb⟩
        · exact ordOK_sound h s' hs
      · cases h

theorem store_shape {Fr : Tr AV} {o : Oper} {b : Nat} (hb : storeBlock ops.toList Fr o = some b) {h h' : Heap} {v : AV} (hs : chainStep E call ops.toList Fr h o = some (v, h')) :
    v = .tup [] ∧ ∃ blk, h' = ⟨h.nx, h.bl.put b blk⟩ ∧ ∀ g g' v', g.bl.get b = h.bl.get b → chainStep E call ops.toList Fr g o = some (v', g') → v' = .tup [] ∧ g' = ⟨g.nx, g.bl.put b blk⟩ := by
  unfold storeBlock at hb
  split at hb
  · rename_i hw
    split at hb
    · rename_i t x y hop
      split at hb
      · rename_i i o' hx
        cases hb
        have hop' : ∀ g, op E Fr g o.op = (match eval Fr y with | none => none | some q => skipV (storeAt E g t (.p b o') q)) := fun g => by
          rw [hop]
          have : op E Fr g (.store t x y) = act E Fr g (.store t x y) := rfl
          rw [this]
          simp only [act, hx]
          cases eval Fr y <;> rfl
        have key : ∀ g g' v', chainStep E call ops.toList Fr g o = some (v', g') → ∃ q, eval Fr y = some q ∧ v' = .tup [] ∧ storeAt E g t (.p b o') q = some g' := fun g g' v' hc => by
          simp only [chainStep, hw, hop'] at hc
          split at hc
          · rename_i v1 h1 he
            split at he
            · cases he
            · unfold skipV at he
              split at he <;> cases he
          · rename_i h1 he
            split at he
            · cases he
            · rename_i q hq
              unfold skipV at he
              split at he
              · cases he
              · rename_i g1 hg1
                cases he
                cases hc
                exact ⟨q, hq, rfl, hg1⟩
          · rename_i f args he
            split at he
            · cases he
            · unfold skipV at he
              split at he <;> cases he
          · cases hc
        obtain ⟨q, hq, hv, hst⟩ := key h h' v hs
        refine ⟨hv, ?_⟩
        unfold storeAt at hst
        simp only at hst
        split at hst
        · cases hst
        · rename_i sz hsz
          split at hst
          · cases hst
          · rename_i hl
            unfold storeRaw at hst
            split at hst
            · rename_i e cs n' gr fz ish hi
              split at hst
              · cases hst
              · rename_i hfz
                split at hst
                · cases hst
                · rename_i cs' hcs
                  cases hst
                  refine ⟨_, rfl, fun g g' v' hg hc => ?_⟩
                  obtain ⟨q', hq', hv', hst'⟩ := key g g' v' hc
                  rw [hq] at hq'; cases hq'
                  refine ⟨hv', ?_⟩
                  simp only [storeAt, hsz, hl, storeRaw, hg, hi, hfz, hcs, Option.some.injEq] at hst'
                  exact hst'.symm
            · cases hst
      · cases hb
    · cases hb
  · cases hb

theorem storeBlock_chain {Fr : Tr AV} {o : Oper} {b : Nat} (hb : storeBlock ops.toList Fr o = some b) : cls o.op = .c := by
  unfold storeBlock at hb
  split at hb
  · split at hb
    · rename_i hop; rw [hop]; rfl
    · cases hb
  · cases hb

/-- What the pass says. -/
structure PassOK (E : Env) (call : CallA) (ops : Array Oper) (ms : Tr Nat) (F0 : Tr AV) (nx0 : Nat) (vals : Tr AV) (h : Heap) (pend : List (Nat × Blk)) (i : Nat) (vs : Tr AV) (st : List CStep) (fin : List (Nat × Blk)) : Prop where
  mono : ∀ j v, vals.get j = some v → vs.get j = some v
  no : ∀ (j : Nat) o, i ≤ j → ops[j]? = some o → cls o.op ≠ .no
  m : ∀ (j : Nat) o, i ≤ j → ops[j]? = some o → cls o.op = .m → ∃ Fr, FrOK ops ms F0 vs j Fr ∧ ((wantedA ops.toList Fr o.guard = some false ∧ vs.get j = some (.tup [])) ∨
    ∃ k b, wantedA ops.toList Fr o.guard = some true ∧ maker E Fr o.op = some (k, b) ∧ vs.get j = some (k.val (nx0 + j)) ∧ (j, b) ∈ later fin st)
  c : ∀ (j : Nat) o, i ≤ j → ops[j]? = some o → cls o.op = .c → ∃ s ∈ st, s.c = j
  low : ∀ s ∈ st, i ≤ s.c
  snd : (st.map CStep.c).Nodup
  chn : Chn E call ops ms F0 nx0 vs h st
  nd : ((later fin st).map Prod.fst).Nodup
  sub : ∀ p ∈ later fin st, p ∈ pend ∨ (i ≤ p.1 ∧ ∃ o k, ops[p.1]? = some o ∧ cls o.op = .m ∧ vs.get p.1 = some (Mk.val k (nx0 + p.1)))
  sup : ∀ p ∈ pend, p ∈ later fin st

theorem pass_sound (hw : WrOK ops wr) : ∀ {os : List Oper} {i : Nat} {vals : Tr AV} {h : Heap} {pend : List (Nat × Blk)} {vs : Tr AV} {st : List CStep} {fin : List (Nat × Blk)},
    pass E call ops.toList ms wr F0 nx0 os i vals h pend = some (vs, st, fin) → ops.toList.drop i = os → (∀ j v, vals.get j = some v → j < i) → (∀ p ∈ pend, p.1 < i) → (pend.map Prod.fst).Nodup →
    PassOK E call ops ms F0 nx0 vals h pend i vs st fin
  | [], i, vals, h, pend, vs, st, fin, hp, hd, hv, hpe, hnd => by
    simp only [pass, Option.some.injEq, Prod.mk.injEq] at hp
    obtain ⟨rfl, rfl, rfl⟩ := hp
    have hsz : ops.size ≤ i := by
      have := List.drop_eq_nil_iff.1 hd
      simpa using this
    have hlt : ∀ (k : Nat) o, ops[k]? = some o → k < i := fun k o ho => Nat.lt_of_lt_of_le (Array.getElem?_eq_some_iff.1 ho).1 hsz
    exact ⟨fun _ _ h => h, fun j o hij ho => absurd (hlt j o ho) (by omega), fun j o hij ho => absurd (hlt j o ho) (by omega), fun j o hij ho => absurd (hlt j o ho) (by omega), by simp, by simp, trivial, hnd, fun p hp => .inl hp, fun p hp => hp⟩
  | o :: os, i, vals, h, pend, vs, st, fin, hp, hd, hv, hpe, hnd => by
    have ho : ops[i]? = some o := by
      rw [← Array.getElem?_toList]
      have : (ops.toList.drop i)[0]? = some o := by rw [hd]; rfl
      simpa using this
    have hd' : ops.toList.drop (i + 1) = os := by rw [← List.drop_drop, hd]; rfl
    have hput : ∀ v j u, (vals.put i v).get j = some u → j < i + 1 := fun v j u hj => by
      rw [Tr.get_put] at hj
      split at hj
      · omega
      · have := hv j u hj; omega
    have hkeep : ∀ v j u, vals.get j = some u → (vals.put i v).get j = some u := fun v j u hj => by
      rw [Tr.get_put, if_neg (by have := hv j u hj; omega)]; exact hj
    have hpe' : ∀ p ∈ pend, p.1 < i + 1 := fun p hp => by have := hpe p hp; omega
    -- what is the same whatever the operation
    have lift : ∀ {v : AV} {h' : Heap} {pend' : List (Nat × Blk)}, PassOK E call ops ms F0 nx0 (vals.put i v) h' pend' (i + 1) vs st fin → cls o.op ≠ .no →
        (cls o.op = .m → ∃ Fr, FrOK ops ms F0 vs i Fr ∧ ((wantedA ops.toList Fr o.guard = some false ∧ vs.get i = some (.tup [])) ∨
          ∃ k b, wantedA ops.toList Fr o.guard = some true ∧ maker E Fr o.op = some (k, b) ∧ vs.get i = some (k.val (nx0 + i)) ∧ (i, b) ∈ later fin st)) →
        (cls o.op ≠ .c) → h' = h → (∀ p ∈ pend', p ∈ pend ∨ (p.1 = i ∧ cls o.op = .m ∧ ∃ k, vs.get i = some (Mk.val k (nx0 + i)))) → (∀ p ∈ pend, p ∈ pend') →
        PassOK E call ops ms F0 nx0 vals h pend i vs st fin := fun {v h' pend'} r hno hm hc hh hp1 hp2 => by
      subst hh
      have split : ∀ (j : Nat) o', i ≤ j → ops[j]? = some o' → (j = i ∧ o' = o) ∨ i + 1 ≤ j := fun j o' hij hoj => by
        rcases Nat.lt_or_ge i j with h1 | h1
        · exact .inr h1
        · have : j = i := by omega
          subst this
          rw [ho] at hoj; cases hoj
          exact .inl ⟨rfl, rfl⟩
      refine ⟨fun j u hj => r.mono j u (hkeep v j u hj), fun j o' hij hoj => ?_, fun j o' hij hoj hcl => ?_, fun j o' hij hoj hcl => ?_, fun s hs => by have := r.low s hs; omega, r.snd, r.chn, r.nd, fun p hp => ?_, fun p hp => r.sup p (hp2 p hp)⟩
      · rcases split j o' hij hoj with ⟨rfl, rfl⟩ | h1
        · exact hno
        · exact r.no j o' h1 hoj
      · rcases split j o' hij hoj with ⟨rfl, rfl⟩ | h1
        · exact hm hcl
        · exact r.m j o' h1 hoj hcl
      · rcases split j o' hij hoj with ⟨rfl, rfl⟩ | h1
        · exact absurd hcl hc
        · exact r.c j o' h1 hoj hcl
      · rcases r.sub p hp with h1 | ⟨h1, h2⟩
        · rcases hp1 p h1 with h3 | ⟨h3, h4, k, h5⟩
          · exact .inl h3
          · exact .inr ⟨by omega, o, k, by rw [h3]; exact ho, h4, by rw [h3]; exact h5⟩
        · exact .inr ⟨by omega, h2⟩
    simp only [pass] at hp
    split at hp
    · cases hp
    · rename_i m hm
      split at hp
      · cases hp
      · rename_i Fr hFr
        have hFr0 : FrOK ops ms F0 vals i Fr := frameOf_sound hw hm hFr FrOK.nil
        split at hp
        · cases hp
        · rename_i hcl
          split at hp
          · cases hp
          · rename_i v hq
            have r := pass_sound hw hp hd' (hput v) hpe' hnd
            exact lift r (by rw [hcl]; simp) (by rw [hcl]; simp) (by rw [hcl]; simp) rfl (fun p hp => .inl hp) (fun p hp => hp)
        · rename_i hcl
          split at hp
          · cases hp
          · rename_i hwt
            have r := pass_sound hw hp hd' (hput _) hpe' hnd
            refine lift r (by rw [hcl]; simp) (fun _ => ⟨Fr, hFr0.mono fun j v hj => r.mono j v (hkeep _ j v hj), .inl ⟨hwt, r.mono i _ (by rw [Tr.get_put, if_pos rfl])⟩⟩) (by rw [hcl]; simp) rfl (fun p hp => .inl hp) (fun p hp => hp)
          · rename_i hwt
            split at hp
            · cases hp
            · rename_i k b hmk
              have r := pass_sound hw hp hd' (hput _) (fun p hp => by
                rcases List.mem_cons.1 hp with rfl | hp
                · simp
                · exact hpe' p hp) (by
                simp only [List.map_cons, List.nodup_cons]
                refine ⟨fun hmem => ?_, hnd⟩
                obtain ⟨p, hp, hpi⟩ := List.mem_map.1 hmem
                have := hpe p hp
                omega)
              refine lift r (by rw [hcl]; simp) (fun _ => ⟨Fr, hFr0.mono fun j v hj => r.mono j v (hkeep _ j v hj), .inr ⟨k, b, hwt, hmk, r.mono i _ (by rw [Tr.get_put, if_pos rfl]), r.sup _ (List.mem_cons_self ..)⟩⟩) (by rw [hcl]; simp) rfl (fun p hp => ?_) (fun p hp => List.mem_cons_of_mem _ hp)
              rcases List.mem_cons.1 hp with rfl | hp
              · exact .inr ⟨rfl, hcl, k, r.mono i _ (by rw [Tr.get_put, if_pos rfl])⟩
              · exact .inl hp
        · rename_i hcl
          split at hp
          · cases hp
          · rename_i v h' hcs
            split at hp
            · cases hp
            · rename_i vs' st' fin' hps
              split at hp
              · cases hp
              · rename_i hok
                simp only [Option.some.injEq, Prod.mk.injEq] at hp
                obtain ⟨rfl, rfl, rfl⟩ := hp
                have mem1 : ∀ p ∈ pick m true pend, p ∈ pend ∧ m.testBit p.1 = true := fun p hp => by
                  rw [pick_eq] at hp
                  have := List.mem_filter.1 hp
                  exact ⟨this.1, by simpa using this.2⟩
                have mem2 : ∀ p ∈ pick m false pend, p ∈ pend ∧ m.testBit p.1 = false := fun p hp => by
                  rw [pick_eq] at hp
                  have := List.mem_filter.1 hp
                  exact ⟨this.1, by simpa using this.2⟩
                have nd1 : ∀ w, ((pick m w pend).map Prod.fst).Nodup := fun w => by
                  rw [pick_eq]
                  exact List.Nodup.sublist (List.filter_sublist.map _) hnd
                have r := pass_sound hw hps hd' (hput v) (fun p hp => hpe' p (mem2 p hp).1) (nd1 false)
                have hcv : CV E call ops ms F0 nx0 vs' h ⟨i, Fr, pick m true pend, v, h'⟩ :=
                  ⟨o, m, ho, hcl, hm, fun p hp => (mem1 p hp).2, hFr0.mono fun j v hj => r.mono j v (hkeep _ j v hj), hcs, r.mono i _ (by rw [Tr.get_put, if_pos rfl])⟩
                have split : ∀ (j : Nat) o', i ≤ j → ops[j]? = some o' → (j = i ∧ o' = o) ∨ i + 1 ≤ j := fun j o' hij hoj => by
                  rcases Nat.lt_or_ge i j with h1 | h1
                  · exact .inr h1
                  · have : j = i := by omega
                    subst this
                    rw [ho] at hoj; cases hoj
                    exact .inl ⟨rfl, rfl⟩
                have hlater : ∀ p ∈ later fin' st', p ∈ pick m false pend ∨ i < p.1 := fun p hp => (r.sub p hp).imp id fun h => by have := h.1; omega
                refine ⟨fun j u hj => r.mono j u (hkeep v j u hj), fun j o' hij hoj => ?_, fun j o' hij hoj hcl' => ?_, fun j o' hij hoj hcl' => ?_, fun s hs => ?_, ?_, ⟨hcv, ?_, r.chn⟩, ?_, fun p hp => ?_, fun p hp => ?_⟩
                · rcases split j o' hij hoj with ⟨rfl, rfl⟩ | h1
                  · rw [hcl]; simp
                  · exact r.no j o' h1 hoj
                · rcases split j o' hij hoj with ⟨rfl, rfl⟩ | h1
                  · rw [hcl] at hcl'; cases hcl'
                  · obtain ⟨Fr', g1, g2⟩ := r.m j o' h1 hoj hcl'
                    refine ⟨Fr', g1, g2.imp id fun ⟨k, b, g3, g4, g5, g6⟩ => ⟨k, b, g3, g4, g5, ?_⟩⟩
                    exact List.mem_append_right _ g6
                · rcases split j o' hij hoj with ⟨rfl, rfl⟩ | h1
                  · exact ⟨_, List.mem_cons_self .., rfl⟩
                  · obtain ⟨s, hs, hsj⟩ := r.c j o' h1 hoj hcl'
                    exact ⟨s, List.mem_cons_of_mem _ hs, hsj⟩
                · rcases List.mem_cons.1 hs with rfl | hs
                  · exact Nat.le_refl _
                  · have := r.low s hs; omega
                · simp only [List.map_cons, List.nodup_cons]
                  refine ⟨fun hm => ?_, r.snd⟩
                  obtain ⟨s, hs, hsi⟩ := List.mem_map.1 hm
                  have := r.low s hs
                  omega
                · simp only [Bool.or_eq_true] at hok
                  rcases hok with hok | hok
                  · exact .inl (ordOK_sound hok)
                  · refine .inr ?_
                    unfold altOK at hok
                    split at hok
                    · rename_i s2
                      split at hok
                      · rename_i hj1 hj2
                        split at hok
                        · cases hok
                        · rename_i o2 ho2
                          split at hok
                          · rename_i b1 b2 hb1 hb2
                            split at hok
                            · cases hok
                            · rename_i hne
                              have hne : b1 ≠ b2 := fun e => by rw [e, Nat.beq_refl] at hne; cases hne
                              split at hok
                              · cases hok
                              · rename_i v2 h2 hc2
                                split at hok
                                · cases hok
                                · rename_i v1 h1 hc1
                                  split at hok
                                  · rename_i hwin
                                    have ho2' : ops[s2.c]? = some o2 := by rw [← Array.getElem?_toList]; exact ho2
                                    have hFr1' : FrOK ops ms F0 vs' i Fr := hFr0.mono fun j v hj => r.mono j v (hkeep _ j v hj)
                                    rw [hj1] at hcs
                                    have hcs : chainStep E call ops.toList Fr h o = some (v, h') := hcs
                                    obtain ⟨rfl, blk1, rfl, halt1⟩ := store_shape hb1 hcs
                                    obtain ⟨rfl, blk2, rfl, halt2⟩ := store_shape hb2 hc2
                                    obtain ⟨⟨o2', m2', g1, g2, g3, g4, g5, g6, g7⟩, _, _⟩ := r.chn
                                    rw [ho2'] at g1; cases g1
                                    rw [hj2] at g6
                                    have g6 : chainStep E call ops.toList s2.fr ⟨h.nx, h.bl.put b1 blk1⟩ o2 = some (s2.v, s2.h) := g6
                                    obtain ⟨e1, e2⟩ := halt2 _ _ _ (by show (h.bl.put b1 blk1).get b2 = _; rw [Tr.get_put, if_neg (Ne.symm hne)]) g6
                                    obtain ⟨e3, e4⟩ := halt1 _ _ _ (by show (h.bl.put b2 blk2).get b1 = _; rw [Tr.get_put, if_neg hne]) hc1
                                    subst e3; subst e4
                                    refine ⟨s2, ⟨s2.c, s2.fr, [], .tup [], ⟨h.nx, h.bl.put b2 blk2⟩⟩, ⟨i, Fr, [], .tup [], ⟨h.nx, (h.bl.put b2 blk2).put b1 blk1⟩⟩, rfl, hj1, hj2, rfl, rfl, rfl, rfl,
                                      ⟨o2, m2', ho2', g2, g3, by simp, g5, hc2, by rw [← e1]; exact g7⟩, win_sound hw hwin, ⟨o, m, ho, hcl, hm, by simp, hFr1', hc1, r.mono i _ (by rw [Tr.get_put, if_pos rfl])⟩, win_sound hw hok, ?_⟩
                                    rw [e2]
                                    refine ⟨rfl, fun k => ?_⟩
                                    show ((h.bl.put b1 blk1).put b2 blk2).get k = ((h.bl.put b2 blk2).put b1 blk1).get k
                                    simp only [Tr.get_put]
                                    by_cases k1 : k = b1
                                    · by_cases k2 : k = b2
                                      · exact absurd (k1.symm.trans k2) hne
                                      · simp [k1, hne]
                                    · simp [k1]
                                  · cases hok
                          · cases hok
                      · cases hok
                    · cases hok
                · simp only [later, List.map_append, List.nodup_append]
                  refine ⟨nd1 true, r.nd, fun a ha b hb hab => ?_⟩
                  subst hab
                  obtain ⟨p, hp, rfl⟩ := List.mem_map.1 ha
                  obtain ⟨q, hq, hqp⟩ := List.mem_map.1 hb
                  rcases hlater q hq with h1 | h1
                  · have e1 := (mem1 p hp).2
                    have e2 := (mem2 q h1).2
                    rw [hqp, e1] at e2; cases e2
                  · have := hpe p (mem1 p hp).1
                    omega
                · rcases List.mem_append.1 hp with h1 | h1
                  · exact .inl (mem1 p h1).1
                  · rcases r.sub p h1 with h2 | ⟨h2, h3⟩
                    · exact .inl (mem2 p h2).1
                    · exact .inr ⟨by omega, h3⟩
                · cases hb : m.testBit p.1 with
                  | true => exact List.mem_append_left _ (by rw [pick_eq]; exact List.mem_filter.2 ⟨hp, by simp [hb]⟩)
                  | false => exact List.mem_append_right _ (r.sup p (by rw [pick_eq]; exact List.mem_filter.2 ⟨hp, by simp [hb]⟩))
end
end Go.Vai

/- Regions whose order is drawn: blocks that join the heap. -/
namespace Go.Vai
open Go
section
variable {E : Env} {P : Program} {base : Nat} {γ γ0 : Gam} {H h0 : Heap} {w w0 : World}

/-- A block that lies there joins the heap. -/
theorem RH.put (r : RH E base γ H w) {k : Nat} {B : Binf} {A : Blk} (hk : γ k = some B) (hlow : base ≤ B.block) (ho : ¬ Owns γ H B.block) (hA : RB γ B w A) :
    RH E base γ ⟨H.nx, H.bl.put k A⟩ w ∧ ∀ b, Owns γ ⟨H.nx, H.bl.put k A⟩ b → Owns γ H b ∨ b = B.block := by
  have hget : ∀ j A1, (H.bl.put k A).get j = some A1 → (j = k ∧ A1 = A) ∨ (j ≠ k ∧ H.bl.get j = some A1) := fun j A1 hj => by
    simp only [Tr.get_put] at hj
    split at hj
    · rename_i e; exact .inl ⟨e, by simpa using hj.symm⟩
    · rename_i e; exact .inr ⟨e, hj⟩
  refine ⟨⟨r.fresh, fun j A1 hj => ?_, fun j j' A1 A2 B1 B2 hj hj' h1 h2 h3 => ?_, r.low, r.glob⟩, fun b ⟨j, A1, B1, hj, h1, h2⟩ => ?_⟩
  · rcases hget j A1 hj with ⟨rfl, rfl⟩ | ⟨_, h1⟩
    · exact ⟨B, hk, hlow, hA⟩
    · exact r.blk j A1 h1
  · rcases hget j A1 hj with ⟨rfl, rfl⟩ | ⟨e1, g1⟩
    · rcases hget j' A2 hj' with ⟨rfl, rfl⟩ | ⟨e2, g2⟩
      · rfl
      · rw [hk] at h1; cases h1
        exact absurd ⟨j', A2, B2, g2, h2, h3.symm⟩ ho
    · rcases hget j' A2 hj' with ⟨rfl, rfl⟩ | ⟨e2, g2⟩
      · rw [hk] at h2; cases h2
        exact absurd ⟨j, A1, B1, g1, h1, h3⟩ ho
      · exact r.inj j j' A1 A2 B1 B2 g1 g2 h1 h2 h3
  · rcases hget j A1 hj with ⟨rfl, rfl⟩ | ⟨_, g1⟩
    · rw [hk] at h1; cases h1
      exact .inr h2.symm
    · exact .inl ⟨j, A1, B1, g1, h1, h2⟩

theorem FC.owns {H' : Heap} (f : FC γ0 h0 w0 γ H w) (hnx : H'.nx = H.nx) (hf : ∀ b, Owns γ H' b → Owns γ H b ∨ w0.heap.size ≤ b) : FC γ0 h0 w0 γ H' w :=
  ⟨f.le, by rw [hnx]; exact f.nx, fun i b h1 h2 => by rw [hnx]; exact f.new i b h1 h2, f.size, f.os, f.tape, f.output, f.keep, fun b hb => (hf b hb).elim (f.foot b) .inr⟩

theorem join_sound {nx0 : Nat} : ∀ (l : List (Nat × Blk)) {H : Heap}, RH E base γ H w → FC γ0 h0 w0 γ H w →
    (∀ p ∈ l, ∃ B ob, γ (nx0 + p.1) = some B ∧ B.off = 0 ∧ base ≤ B.block ∧ w0.heap.size ≤ B.block ∧ ¬ Owns γ H B.block ∧ w.heap[B.block]? = some ob ∧ BlkOf γ ob p.2) →
    (l.map Prod.fst).Nodup → (∀ p ∈ l, ∀ q ∈ l, ∀ B B', γ (nx0 + p.1) = some B → γ (nx0 + q.1) = some B' → B.block = B'.block → p.1 = q.1) →
    RH E base γ ⟨H.nx, joinAll nx0 H.bl l⟩ w ∧ FC γ0 h0 w0 γ ⟨H.nx, joinAll nx0 H.bl l⟩ w ∧
      ∀ b, Owns γ ⟨H.nx, joinAll nx0 H.bl l⟩ b → Owns γ H b ∨ ∃ p ∈ l, ∃ B, γ (nx0 + p.1) = some B ∧ B.block = b
  | [], H, r, f, _, _, _ => ⟨r, f, fun b hb => .inl hb⟩
  | p :: l, H, r, f, hl, hnd, hinj => by
    obtain ⟨B, ob, h1, h2, h3, h4, h5, h6, h7⟩ := hl p (List.mem_cons_self ..)
    obtain ⟨r1, o1⟩ := r.put h1 h3 h5 (h7 w γ B γ.le_refl h6 h2)
    have f1 : FC γ0 h0 w0 γ ⟨H.nx, H.bl.put (nx0 + p.1) p.2⟩ w := f.owns rfl fun b hb => (o1 b hb).imp id fun e => by rw [e]; exact h4
    simp only [List.map_cons, List.nodup_cons] at hnd
    have key := join_sound l (H := ⟨H.nx, H.bl.put (nx0 + p.1) p.2⟩) r1 f1 (fun q hq => by
      obtain ⟨B', ob', g1, g2, g3, g4, g5, g6, g7⟩ := hl q (List.mem_cons_of_mem _ hq)
      refine ⟨B', ob', g1, g2, g3, g4, fun ho => ?_, g6, g7⟩
      rcases o1 _ ho with h | h
      · exact g5 h
      · have := hinj q (List.mem_cons_of_mem _ hq) p (List.mem_cons_self ..) B' B g1 h1 h
        exact hnd.1 (by rw [← this]; exact List.mem_map.2 ⟨q, hq, rfl⟩)) hnd.2
      (fun q hq q' hq' => hinj q (List.mem_cons_of_mem _ hq) q' (List.mem_cons_of_mem _ hq'))
    obtain ⟨k1, k2, k3⟩ := key
    refine ⟨k1, k2, fun b hb => ?_⟩
    rcases k3 b hb with h | ⟨q, hq, h⟩
    · rcases o1 b h with h | h
      · exact .inl h
      · exact .inr ⟨p, List.mem_cons_self .., B, h1, h.symm⟩
    · exact .inr ⟨q, List.mem_cons_of_mem _ hq, h⟩

theorem joinAll_alike (nx0 : Nat) : ∀ (l : List (Nat × Blk)) {b b' : Tr Blk}, (∀ i, b'.get i = b.get i) → ∀ i, (joinAll nx0 b' l).get i = (joinAll nx0 b l).get i
  | [], b, b', h, i => h i
  | p :: l, b, b', h, i => joinAll_alike nx0 l (fun j => by simp only [Tr.get_put, h]) i

theorem Owns.alike {H' : Heap} (hx : HX H H') {b : Nat} (h : Owns γ H' b) : Owns γ H b := by
  obtain ⟨i, A, B, h1, h2, h3⟩ := h
  rw [hx.2] at h1
  exact ⟨i, A, B, h1, h2, h3⟩

theorem RH.alike {H' : Heap} (hx : HX H H') (r : RH E base γ H w) : RH E base γ H' w :=
  ⟨fun i hi => r.fresh i (by rw [← hx.1]; exact hi), fun i A hi => r.blk i A (by rw [← hx.2]; exact hi),
   fun i j A A' B B' hi hj => r.inj i j A A' B B' (by rw [← hx.2]; exact hi) (by rw [← hx.2]; exact hj), r.low, r.glob⟩

theorem FC.alike {H' : Heap} (hx : HX H H') (f : FC γ0 h0 w0 γ H w) : FC γ0 h0 w0 γ H' w := f.owns hx.1 fun _ hb => .inl (hb.alike hx)

/-- A block is made and does not join the heap yet. -/
theorem RH.float (r : RH E base γ H w) {k : Nat} (hk : γ k = none) (hlt : k < H.nx) (ob : Obj) :
    ∃ γ', γ'= (fun i => if i = k then some ⟨w.heap.size, 0, 0⟩ else γ i) ∧ γ.le γ' ∧ RH E base γ' H (w.alloc ob) ∧ (∀ b, Owns γ' H b → Owns γ H b) ∧
      ∀ j, j < w.heap.size → (w.alloc ob).heap[j]? = w.heap[j]? := by
  have hle : γ.le (fun i => if i = k then some ⟨w.heap.size, 0, 0⟩ else γ i) := fun i b e => by
    by_cases hi : i = k
    · subst hi; rw [hk] at e; cases e
    · simp [hi, e]
  have hold : ∀ j, j < w.heap.size → (w.alloc ob).heap[j]? = w.heap[j]? := fun j hj => by
    simp only [World.alloc, Array.getElem?_push]; rw [if_neg (by omega)]
  have hne : ∀ i A, H.bl.get i = some A → i ≠ k := fun i A hi e => by
    subst e
    obtain ⟨B, h1, _⟩ := r.blk i A hi
    rw [hk] at h1; cases h1
  refine ⟨_, rfl, hle, ⟨fun i hi => ?_, fun i A hi => ?_, fun i j A A' B B' hi hj h1 h2 h3 => ?_, by have := r.low; simp; omega, fun g o v hv => ?_⟩, fun b ⟨i, A, B, h1, h2, h3⟩ => ?_, hold⟩
  · have : i ≠ k := by omega
    simp only [this, if_false]
    exact r.fresh i hi
  · obtain ⟨B, h1, h2, h3⟩ := r.blk i A hi
    exact ⟨B, by simp [hne i A hi, h1], h2, h3.keep hle (hold _ h3.lt)⟩
  · simp only [hne i A hi, if_false] at h1
    simp only [hne j A' hj, if_false] at h2
    exact r.inj i j A A' B B' hi hj h1 h2 h3
  · obtain ⟨h1, V, h2, h3⟩ := r.glob g o v hv
    refine ⟨h1, V, ?_, h3⟩
    rw [World.cell?_alloc_lt _ _ _ (by have := r.low; exact Nat.lt_of_lt_of_le h1 this)]
    exact h2
  · simp only [hne i A h1, if_false] at h2
    exact ⟨i, A, B, h1, h2, h3⟩

theorem BlkOf.mono {γ γ' : Gam} (h : γ.le γ') {o : Obj} {b : Blk} (hb : BlkOf γ o b) : BlkOf γ' o b :=
  fun w γ'' B hle => hb w γ'' B (Gam.le_trans h hle)

theorem owns_lt (r : RH E base γ H w) {b : Nat} (h : Owns γ H b) : b < w.heap.size := by
  obtain ⟨i, A, B, h1, h2, h3⟩ := h
  obtain ⟨B', g1, _, g3⟩ := r.blk i A h1
  rw [h2] at g1; cases g1
  rw [← h3]; exact g3.lt

theorem count_set (p p' : Nat → Bool) {i : Nat} (hp : p i = true) (hp' : p' i = false) (h : ∀ j, j ≠ i → p' j = p j) : ∀ n, (i < n → (List.range n).countP p = (List.range n).countP p' + 1) ∧ (n ≤ i → (List.range n).countP p = (List.range n).countP p')
  | 0 => by simp
  | n + 1 => by
    obtain ⟨h1, h2⟩ := count_set p p' hp hp' h n
    simp only [List.range_succ, List.countP_append, List.countP_singleton]
    refine ⟨fun hlt => ?_, fun hle => ?_⟩
    · rcases Nat.lt_or_ge i n with hin | hin
      · rw [h1 hin, h n (by omega)]; omega
      · have : i = n := by omega
        subst this
        rw [h2 (Nat.le_refl _), hp, hp']
        simp
    · rw [h2 (by omega), h n (by omega)]
end
end Go.Vai

/- Regions whose order is drawn: every order comes to the same end. -/
namespace Go.Vai
open Go

theorem nodup_inj : ∀ {l : List (Nat × Blk)}, (l.map Prod.fst).Nodup → ∀ p ∈ l, ∀ q ∈ l, p.1 = q.1 → p = q
  | [], _, p, hp, _, _, _ => by cases hp
  | x :: l, h, p, hp, q, hq, e => by
    simp only [List.map_cons, List.nodup_cons] at h
    rcases List.mem_cons.1 hp with rfl | hp
    · rcases List.mem_cons.1 hq with rfl | hq
      · rfl
      · exact (h.1 (List.mem_map.2 ⟨q, by assumption, e.symm⟩)).elim
    · rcases List.mem_cons.1 hq with rfl | hq
      · exact (h.1 (List.mem_map.2 ⟨p, by assumption, e⟩)).elim
      · exact nodup_inj h.2 p hp q hq e

/-- What stays fixed while a region runs. -/
structure Fix (E : Env) (P : Program) (base n : Nat) (call : CallA) (ops : Array Oper) (ms wr : Tr Nat) (F0 : Tr AV) (nx0 : Nat) (vals : Tr AV) (stA : List CStep) (fin : List (Nat × Blk)) (HA : Heap) : Prop where
  env : EnvOK E P
  call : CallOK E P base call
  mask : MaskOK ops ms
  wr : WrOK ops wr
  no : ∀ (j : Nat) o, ops[j]? = some o → cls o.op ≠ .no
  m : ∀ (j : Nat) o, ops[j]? = some o → cls o.op = .m → ∃ Fr, FrOK ops ms F0 vals j Fr ∧ ((wantedA ops.toList Fr o.guard = some false ∧ vals.get j = some (.tup [])) ∨
    ∃ k b, wantedA ops.toList Fr o.guard = some true ∧ maker E Fr o.op = some (k, b) ∧ vals.get j = some (k.val (nx0 + j)) ∧ (j, b) ∈ later fin stA)
  sub : ∀ p ∈ later fin stA, ∃ o k, ops[p.1]? = some o ∧ cls o.op = .m ∧ vals.get p.1 = some (Mk.val k (nx0 + p.1))
  nd : ((later fin stA).map Prod.fst).Nodup
  dst : ∀ (j : Nat) o d, ops[j]? = some o → o.dst = some d → d < n

/-- Where the run stands. -/
structure GI (E : Env) (P : Program) (base n : Nat) (call : CallA) (ops : Array Oper) (ms : Tr Nat) (F0 : Tr AV) (nx0 : Nat) (vals : Tr AV) (stA : List CStep) (fin : List (Nat × Blk)) (HA : Heap)
    (γ0 : Gam) (h0 : Heap) (w0 : World) (ds : List Deferred) (L : Array Bool) (γ : Gam) (prev : Option Nat) (H : Heap) (st : List CStep) (a : Act) (w : World) : Prop where
  cl : ∀ i j, L.getD i false = true → Pred ms i j → L.getD j false = true
  chn : Chn E call ops ms F0 nx0 vals H st
  win : WinAll E ops ms F0 vals prev H st
  last : HX (lastH H st) HA
  pv : ∀ y, prev = some y → L.getD y false = true
  un : ∀ s ∈ st, L.getD s.c false = false
  allc : ∀ (j : Nat) o, ops[j]? = some o → cls o.op = .c → L.getD j false = true ∨ ∃ s ∈ st, s.c = j
  rh : RH E base γ H w
  fc : FC γ0 h0 w0 γ H w
  low0 : base ≤ w0.heap.size
  nx : nx0 + ops.size ≤ H.nx
  hn0 : h0.nx = nx0
  sz : L.size = ops.size
  tsz : a.tmps.size = n
  fi1 : ∀ (j : Nat) o d v, L.getD j false = true → ops[j]? = some o → o.dst = some d → vals.get j = some v → ∃ V, a.tmps[d]? = some V ∧ RV γ v V
  fi2 : ∀ d v, (∀ (j : Nat) o, L.getD j false = true → ops[j]? = some o → o.dst ≠ some d) → F0.get d = some v → ∃ V, a.tmps[d]? = some V ∧ RV γ v V
  r1 : ∀ i B, i < ops.size → γ (nx0 + i) = some B → B.off = 0 ∧ w0.heap.size ≤ B.block ∧ B.block < w.heap.size
  r2 : ∀ i k B B', i < ops.size → k < ops.size → γ (nx0 + i) = some B → γ (nx0 + k) = some B' → B.block = B'.block → i = k
  r3 : ∀ i, i < ops.size → L.getD i false = false → γ (nx0 + i) = none
  fl : ∀ p ∈ later fin st, L.getD p.1 false = true → ∃ B ob, γ (nx0 + p.1) = some B ∧ ¬ Owns γ H B.block ∧ w.heap[B.block]? = some ob ∧ BlkOf γ ob p.2
  flm : ∀ p ∈ later fin stA, p ∈ later fin st ∨ L.getD p.1 false = true
  flsub : ∀ p ∈ later fin st, p ∈ later fin stA
  flnd : ((later fin st).map Prod.fst).Nodup
  snd : (st.map CStep.c).Nodup
  hds : a.defers = ds

section
variable {E : Env} {P : Program} {base n : Nat} {call : CallA} {ops : Array Oper} {ms wr : Tr Nat} {F0 : Tr AV} {nx0 : Nat} {vals : Tr AV} {stA : List CStep} {fin : List (Nat × Blk)} {HA : Heap}
  {γ0 : Gam} {h0 : Heap} {w0 : World} {ds : List Deferred} {L : Array Bool} {γ : Gam} {prev : Option Nat} {H : Heap} {st : List CStep} {a : Act} {w : World}

theorem wr_one (hw : WrOK ops wr) {j k : Nat} {o o' : Oper} {d : Nat} (h1 : ops[j]? = some o) (h2 : ops[k]? = some o') (d1 : o.dst = some d) (d2 : o'.dst = some d) : j = k := by
  cases hg : wr.get d with
  | none => exact absurd d1 ((hw d).1 hg j o h1)
  | some i => rw [((hw d).2 i hg).2 j o h1 d1, ((hw d).2 i hg).2 k o' h2 d2]

/-- What an operation that may go next knows. -/
structure Next (ops : Array Oper) (ms : Tr Nat) (L : Array Bool) (i : Nat) (o : Oper) : Prop where
  at_ : ops[i]? = some o
  un : L.getD i false = false
  lt : i < L.size
  pre : ∀ j, Pred ms i j → L.getD j false = true

theorem getD_set (L : Array Bool) {i : Nat} (hi : i < L.size) (j : Nat) (d : Bool) : (L.setIfInBounds i true).getD j d = if j = i then true else L.getD j d := by
  by_cases h : j = i
  · subst h; simp [hi]
  · rw [if_neg h, getD_set_ne d (Ne.symm h)]

theorem next_of_ready (g : Fix E P base n call ops ms wr F0 nx0 vals stA fin HA) (h : GI E P base n call ops ms F0 nx0 vals stA fin HA γ0 h0 w0 ds L γ prev H st a w) {i : Nat} (hi : i ∈ Region.ready .any ops L) :
    ∃ o, Next ops ms L i o := by
  obtain ⟨h1, o, ho, he⟩ := mem_ready.1 hi
  have hlt : i < L.size := by rw [h.sz]; exact (Array.getElem?_eq_some_iff.1 ho).1
  refine ⟨o, ho, ?_, hlt, fun j hj => ?_⟩
  · simp [hlt] at h1 ⊢; exact h1
  · obtain ⟨o', e, ho', hem, hb, hje⟩ := g.mask.why i j hj
    rw [ho] at ho'; cases ho'
    have := he e hem (by rw [← bindsA_eq]; exact hb)
    rcases hje with rfl | hje
    · exact this
    · exact h.cl _ _ this hje

/-- The frame as the operation sees it. -/
theorem GI.frame (h : GI E P base n call ops ms F0 nx0 vals stA fin HA γ0 h0 w0 ds L γ prev H st a w) {i : Nat} {o : Oper} (hn : Next ops ms L i o) {Fr : Tr AV} (hf : FrOK ops ms F0 vals i Fr) : RF γ Fr n a.tmps := by
  refine ⟨h.tsz, fun t v ht => ?_⟩
  rcases hf t v ht with ⟨j, o', h1, h2, h3, h4⟩ | ⟨h1, h2⟩
  · exact h.fi1 j o' t v (hn.pre j h3) h1 h2 h4
  · refine h.fi2 t v (fun j o' hj ho' hd => ?_) h2
    rcases h1 j o' ho' hd with rfl | h3
    · rw [hn.un] at hj; cases hj
    · have := h.cl j i hj h3
      rw [hn.un] at this; cases this

theorem fi_put (g : Fix E P base n call ops ms wr F0 nx0 vals stA fin HA) (h : GI E P base n call ops ms F0 nx0 vals stA fin HA γ0 h0 w0 ds L γ prev H st a w) {i : Nat} {o : Oper} (hn : Next ops ms L i o) {γ' : Gam} (hle : γ.le γ') {v : AV} {V : Value} (hV : RV γ' v V) (hv : vals.get i = some v) :
    (∀ (j : Nat) o' d u, (L.setIfInBounds i true).getD j false = true → ops[j]? = some o' → o'.dst = some d → vals.get j = some u → ∃ U, (a.put o.dst V).tmps[d]? = some U ∧ RV γ' u U) ∧
    (∀ d u, (∀ (j : Nat) o', (L.setIfInBounds i true).getD j false = true → ops[j]? = some o' → o'.dst ≠ some d) → F0.get d = some u → ∃ U, (a.put o.dst V).tmps[d]? = some U ∧ RV γ' u U) := by
  have hother : ∀ d, o.dst ≠ some d → (a.put o.dst V).tmps[d]? = a.tmps[d]? := fun d hd => by
    cases ho : o.dst with
    | none => rfl
    | some e =>
      simp only [Act.put]
      rw [Array.getElem?_setIfInBounds_ne (fun x => hd (by rw [ho, x]))]
  refine ⟨fun j o' d u hj hoj hd hu => ?_, fun d u hno hu => ?_⟩
  · rw [getD_set L hn.lt] at hj
    by_cases hji : j = i
    · subst hji
      rw [hn.at_] at hoj; cases hoj
      rw [hv] at hu; cases hu
      refine ⟨V, ?_, hV⟩
      simp only [hd, Act.put]
      rw [Array.getElem?_setIfInBounds_self_of_lt (by rw [h.tsz]; exact g.dst j o d hn.at_ hd)]
    · rw [if_neg hji] at hj
      obtain ⟨U, h1, h2⟩ := h.fi1 j o' d u hj hoj hd hu
      exact ⟨U, by rw [hother d fun e => hji (wr_one g.wr hoj hn.at_ hd e)]; exact h1, h2.mono hle⟩
  · have h1 : o.dst ≠ some d := hno i o (by rw [getD_set L hn.lt, if_pos rfl]) hn.at_
    obtain ⟨U, h2, h3⟩ := h.fi2 d u (fun j o' hj hoj => hno j o' (by rw [getD_set L hn.lt]; split; rfl; exact hj) hoj) hu
    exact ⟨U, by rw [hother d h1]; exact h2, h3.mono hle⟩

theorem put_size (a : Act) (d : Option Tmp) (V : Value) : (a.put d V).tmps.size = a.tmps.size := by cases d <;> simp [Act.put]

theorem cl_set (h : GI E P base n call ops ms F0 nx0 vals stA fin HA γ0 h0 w0 ds L γ prev H st a w) {i : Nat} {o : Oper} (hn : Next ops ms L i o) :
    ∀ k j, (L.setIfInBounds i true).getD k false = true → Pred ms k j → (L.setIfInBounds i true).getD j false = true := fun k j hk hp => by
  rw [getD_set L hn.lt] at hk ⊢
  split
  · rfl
  · split at hk
    · rename_i hki; subst hki; exact hn.pre j hp
    · exact h.cl k j hk hp

/-- An operation that leaves memory alone. -/
theorem GI.mark (g : Fix E P base n call ops ms wr F0 nx0 vals stA fin HA) (h : GI E P base n call ops ms F0 nx0 vals stA fin HA γ0 h0 w0 ds L γ prev H st a w) {i : Nat} {o : Oper} (hn : Next ops ms L i o) {v : AV} {V : Value} (hV : RV γ v V) (hv : vals.get i = some v)
    (hc : cls o.op ≠ .c) (hl : ∀ p ∈ later fin st, p.1 ≠ i) :
    GI E P base n call ops ms F0 nx0 vals stA fin HA γ0 h0 w0 ds (L.setIfInBounds i true) γ prev H st (a.put o.dst V) w := by
  obtain ⟨f1, f2⟩ := fi_put g h hn γ.le_refl hV hv
  have hg := fun j d => getD_set L hn.lt j d
  refine ⟨cl_set h hn, h.chn, h.win, h.last, fun y hy => ?_, fun s hs => ?_, fun j o' hoj hcl => ?_, h.rh, h.fc, h.low0, h.nx, h.hn0, by simp [h.sz], by rw [put_size]; exact h.tsz, f1, f2, h.r1, h.r2, fun k hk hu => ?_, fun p hp hu => ?_, fun p hp => ?_, h.flsub, h.flnd, h.snd, by rw [Act.put_defers]; exact h.hds⟩
  · rw [hg]; split; rfl; exact h.pv y hy
  · rw [hg]
    split
    · rename_i e
      have hcs : ∀ s ∈ st, ∃ o', ops[s.c]? = some o' ∧ cls o'.op = .c := by
        have key : ∀ (st : List CStep) (H : Heap), Chn E call ops ms F0 nx0 vals H st → ∀ s ∈ st, ∃ o', ops[s.c]? = some o' ∧ cls o'.op = .c := by
          intro st
          induction st with
          | nil => intro H _ s hs; cases hs
          | cons s1 r ih =>
            intro H hch s hs
            rcases List.mem_cons.1 hs with rfl | hs
            · obtain ⟨o', m, g1, g2, _⟩ := hch.1; exact ⟨o', g1, g2⟩
            · exact ih _ hch.2.2 s hs
        exact key st H h.chn
      obtain ⟨o', g1, g2⟩ := hcs s hs
      rw [e, hn.at_] at g1; cases g1
      exact absurd g2 hc
    · exact h.un s hs
  · rw [hg]
    split
    · exact .inl rfl
    · exact h.allc j o' hoj hcl
  · rw [hg] at hu
    split at hu
    · cases hu
    · exact h.r3 k hk hu
  · rw [hg, if_neg (hl p hp)] at hu
    exact h.fl p hp hu
  · rw [hg]
    split
    · exact .inr rfl
    · exact h.flm p hp

theorem WinAll.win {prev : Option Nat} {H : Heap} : ∀ {st : List CStep}, WinAll E ops ms F0 vals prev H st → Win E ops ms F0 vals prev H (match st with | [] => none | s :: _ => some s.c)
  | [], h => h
  | s :: st, h => h.1

/-- A quiet operation. -/
theorem quiet_step {Q : Exit → Act → World → Prop} {K : Act → World → Prop} (g : Fix E P base n call ops ms wr F0 nx0 vals stA fin HA) (h : GI E P base n call ops ms F0 nx0 vals stA fin HA γ0 h0 w0 ds L γ prev H st a w) {i : Nat} {o : Oper} (hn : Next ops ms L i o) (hq : cls o.op = .q)
    (hK : ∀ a', GI E P base n call ops ms F0 nx0 vals stA fin HA γ0 h0 w0 ds (L.setIfInBounds i true) γ prev H st a' w → K a' w) : wpOp P ops Q i K a w := by
  obtain ⟨Fr, v, h1, h2, h3⟩ := h.win.win i o hn.at_ hq (fun x hx hp => by
    have := hn.pre x hp
    cases st with
    | nil => cases hx
    | cons s st =>
      cases hx
      rw [h.un s (List.mem_cons_self ..)] at this; cases this) (fun y hy hp => by
    have := h.cl y i (h.pv y hy) hp
    rw [hn.un] at this; cases this)
  have hF := h.frame hn h1
  have hl : ∀ p ∈ later fin st, p.1 ≠ i := fun p hp e => by
    obtain ⟨o', k, g1, g2, _⟩ := g.sub p (h.flsub p hp)
    rw [e, hn.at_] at g1; cases g1
    rw [hq] at g2; cases g2
  unfold wpOp
  simp only [hn.at_]
  unfold quietStep at h3
  split at h3
  · cases h3
  · rename_i hw
    cases h3
    rw [wanted_sound hF hw]
    simp only [Bool.false_eq_true, if_false]
    exact hK _ (h.mark g hn (RV.noResult γ) h2 (by rw [hq]; simp) hl)
  · rename_i hw
    rw [wanted_sound hF hw]
    obtain ⟨V, h4, h5⟩ := quiet_sound g.env hF h.rh h3
    simp only [if_true, Oper.wp, h4, Oper.upon_value]
    exact .inl (hK _ (h.mark g hn h5 h2 (by rw [hq]; simp) hl))

/-- An operation that makes a block. -/
theorem maker_step {Q : Exit → Act → World → Prop} {K : Act → World → Prop} (g : Fix E P base n call ops ms wr F0 nx0 vals stA fin HA) (h : GI E P base n call ops ms F0 nx0 vals stA fin HA γ0 h0 w0 ds L γ prev H st a w) {i : Nat} {o : Oper} (hn : Next ops ms L i o) (hm : cls o.op = .m)
    (hK : ∀ γ' a' w', GI E P base n call ops ms F0 nx0 vals stA fin HA γ0 h0 w0 ds (L.setIfInBounds i true) γ' prev H st a' w' → K a' w') : wpOp P ops Q i K a w := by
  obtain ⟨Fr, h1, h2⟩ := g.m i o hn.at_ hm
  have hF := h.frame hn h1
  have hlt : i < ops.size := by rw [← h.sz]; exact hn.lt
  unfold wpOp
  simp only [hn.at_]
  rcases h2 with ⟨hw, hv⟩ | ⟨k, b, hw, hmk, hv, hmem⟩
  · rw [wanted_sound hF hw]
    simp only [Bool.false_eq_true, if_false]
    refine hK _ _ _ (h.mark g hn (RV.noResult γ) hv (by rw [hm]; simp) fun p hp e => ?_)
    obtain ⟨o', k, _, _, g3⟩ := g.sub p (h.flsub p hp)
    rw [e, hv] at g3
    cases k <;> cases g3
  · rw [wanted_sound hF hw]
    obtain ⟨ob, h3, h4⟩ := maker_sound g.env hF hmk
    simp only [if_true, Oper.wp, h3 w, Oper.upon_value]
    refine .inl ?_
    have hnone := h.r3 i hlt hn.un
    obtain ⟨γ', he, hle, hr', ho', hold⟩ := h.rh.float hnone (by have := h.nx; omega) ob
    have hat : γ' (nx0 + i) = some ⟨w.heap.size, 0, 0⟩ := by rw [he]; simp
    have hoth : ∀ x, x ≠ nx0 + i → γ' x = γ x := fun x hx => by rw [he]; simp [hx]
    have hsz : (w.alloc ob).heap.size = w.heap.size + 1 := by simp
    obtain ⟨f1, f2⟩ := fi_put g h hn hle (Mk.rv hat rfl k) hv
    have hg := fun j d => getD_set L hn.lt j d
    have hmk' : GI E P base n call ops ms F0 nx0 vals stA fin HA γ0 h0 w0 ds (L.setIfInBounds i true) γ' prev H st (a.put o.dst (k.conc w.heap.size)) (w.alloc ob) := by
      refine ⟨cl_set h hn, h.chn, h.win, h.last, fun y hy => ?_, fun s hs => ?_, fun j o' hoj hcl => ?_, hr', ?_, h.low0, h.nx, h.hn0, by simp [h.sz], by rw [put_size]; exact h.tsz, f1, f2, fun x B hx hB => ?_, fun x y B B' hx hy hB hB' hbe => ?_, fun x hx hu => ?_, fun p hp hu => ?_, fun p hp => ?_, h.flsub, h.flnd, h.snd, by rw [Act.put_defers]; exact h.hds⟩
      · rw [hg]; split; rfl; exact h.pv y hy
      · rw [hg]
        split
        · rename_i e
          have key : ∀ (st : List CStep) (H : Heap), Chn E call ops ms F0 nx0 vals H st → ∀ s ∈ st, ∃ o', ops[s.c]? = some o' ∧ cls o'.op = .c := by
            intro st
            induction st with
            | nil => intro H _ s hs; cases hs
            | cons s1 r ih =>
              intro H hch s hs
              rcases List.mem_cons.1 hs with rfl | hs
              · obtain ⟨o', m, g1, g2, _⟩ := hch.1; exact ⟨o', g1, g2⟩
              · exact ih _ hch.2.2 s hs
          obtain ⟨o', g1, g2⟩ := key st H h.chn s hs
          rw [e, hn.at_] at g1; cases g1
          rw [hm] at g2; cases g2
        · exact h.un s hs
      · rw [hg]
        split
        · exact .inl rfl
        · exact h.allc j o' hoj hcl
      · have f := h.fc
        refine ⟨Gam.le_trans f.le hle, f.nx, fun x B hx hx0 => ?_, by rw [hsz]; have := f.size; omega, f.os, f.tape, f.output, fun B hB ho => ?_, fun B hB => f.foot B (ho' B hB)⟩
        · by_cases hxi : x = nx0 + i
          · subst hxi
            have := h.nx
            have := h.hn0
            omega
          · rw [hoth x hxi] at hx; exact f.new x B hx hx0
        · rw [hold B (Nat.lt_of_lt_of_le hB f.size)]
          exact f.keep B hB ho
      · by_cases hxi : x = i
        · subst hxi
          rw [hat] at hB; cases hB
          have := h.fc.size
          exact ⟨rfl, this, by rw [hsz]; exact Nat.lt_succ_self _⟩
        · rw [hoth _ (by omega)] at hB
          obtain ⟨g1, g2, g3⟩ := h.r1 x B hx hB
          exact ⟨g1, g2, by rw [hsz]; omega⟩
      · by_cases hxi : x = i
        · by_cases hyi : y = i
          · omega
          · subst hxi
            rw [hat] at hB; cases hB
            rw [hoth _ (by omega)] at hB'
            have := (h.r1 y B' hy hB').2.2
            simp only at hbe
            omega
        · rw [hoth _ (by omega)] at hB
          by_cases hyi : y = i
          · subst hyi
            rw [hat] at hB'; cases hB'
            have := (h.r1 x B hx hB).2.2
            simp only at hbe
            omega
          · rw [hoth _ (by omega)] at hB'
            exact h.r2 x y B B' hx hy hB hB' hbe
      · rw [hg] at hu
        split at hu
        · cases hu
        · rename_i hxi
          rw [hoth _ (by omega)]
          exact h.r3 x hx hu
      · by_cases hpi : p.1 = i
        · have hpb : p = (i, b) := by
            have hp' := h.flsub p hp
            have hnd := g.nd
            have : p.2 = b := by
              have := nodup_inj hnd _ hp' _ hmem hpi
              rw [this]
            rw [← hpi, ← this]
          subst hpb
          refine ⟨_, ob, hat, fun ho => ?_, by show (w.heap.push ob)[w.heap.size]? = _; simp, h4.mono hle⟩
          have := owns_lt h.rh (ho' _ ho)
          exact Nat.lt_irrefl _ this
        · rw [hg, if_neg hpi] at hu
          obtain ⟨B, ob', g1, g2, g3, g4⟩ := h.fl p hp hu
          have hBlt : B.block < w.heap.size := (Array.getElem?_eq_some_iff.1 g3).1
          exact ⟨B, ob', hle _ _ g1, fun ho => g2 (ho' _ ho), by rw [hold _ hBlt]; exact g3, g4.mono hle⟩
      · rw [hg]
        split
        · exact .inr rfl
        · exact h.flm p hp
    exact hK _ _ _ hmk'

theorem Chn.cls {H : Heap} : ∀ {st : List CStep} {H : Heap}, Chn E call ops ms F0 nx0 vals H st → ∀ s ∈ st, ∃ o', ops[s.c]? = some o' ∧ cls o'.op = .c
  | [], H, _, s, hs => by cases hs
  | s1 :: r, H, hch, s, hs => by
    rcases List.mem_cons.1 hs with rfl | hs
    · obtain ⟨o', m, g1, g2, _⟩ := hch.1; exact ⟨o', g1, g2⟩
    · exact Chn.cls (H := H) hch.2.2 s hs

/-- Behind a step that has its place. -/
theorem GI.step (g : Fix E P base n call ops ms wr F0 nx0 vals stA fin HA) (h : GI E P base n call ops ms F0 nx0 vals stA fin HA γ0 h0 w0 ds L γ prev H st a w) {o : Oper} {s : CStep} (hn : Next ops ms L s.c o) (hc : cls o.op = .c)
    {st' : List CStep} (hjs : later fin st = s.js ++ later fin st') (hpj : ∀ p ∈ s.js, Pred ms s.c p.1) (hv : vals.get s.c = some s.v)
    (hch : Chn E call ops ms F0 nx0 vals s.h st') (hwin : WinAll E ops ms F0 vals (some s.c) s.h st') (hlast : HX (lastH s.h st') HA)
    (hun : ∀ s' ∈ st', s'.c ≠ s.c ∧ ∃ s'' ∈ st, s''.c = s'.c) (hall : ∀ s'' ∈ st, s''.c = s.c ∨ ∃ s' ∈ st', s'.c = s''.c) (hsnd : (st'.map CStep.c).Nodup)
    {Hc : Heap} (hnx : Hc.nx = H.nx) (hfc0 : FC γ0 h0 w0 γ Hc w) (hown : ∀ b, Owns γ Hc b → Owns γ H b ∨ ∃ p ∈ s.js, ∃ B, γ (nx0 + p.1) = some B ∧ B.block = b)
    {γ' : Gam} {w' : World} {V : Value} (hV : RV γ' s.v V) (hfc : FC γ Hc w γ' s.h w') (hrh : RH E base γ' s.h w') :
    GI E P base n call ops ms F0 nx0 vals stA fin HA γ0 h0 w0 ds (L.setIfInBounds s.c true) γ' (some s.c) s.h st' (a.put o.dst V) w' := by
  obtain ⟨f1, f2⟩ := fi_put g h hn hfc.le hV hv
  have hg := fun j d => getD_set L hn.lt j d
  have hmono : ∀ x, x < ops.size → γ' (nx0 + x) = γ (nx0 + x) := fun x hx => by
    cases e : γ (nx0 + x) with
    | some B => exact hfc.le _ _ e
    | none =>
      cases e' : γ' (nx0 + x) with
      | none => rfl
      | some B =>
        have := (hfc.new _ _ e' e).1
        have := h.nx
        omega
  have hpn : ∀ p ∈ later fin st, p.1 ≠ s.c := fun p hp e => by
    obtain ⟨o', k, g1, g2, _⟩ := g.sub p (h.flsub p hp)
    rw [e, hn.at_] at g1; cases g1
    rw [hc] at g2; cases g2
  have hlt : ∀ p ∈ later fin st, p.1 < ops.size := fun p hp => by
    obtain ⟨o', k, g1, g2, _⟩ := g.sub p (h.flsub p hp)
    exact (Array.getElem?_eq_some_iff.1 g1).1
  refine ⟨cl_set h hn, hch, hwin, hlast, fun y hy => ?_, fun s' hs => ?_, fun j o' hoj hcl => ?_, hrh, hfc0.trans hfc, h.low0, by have := hfc.nx; have := h.nx; omega, h.hn0, by simp [h.sz], by rw [put_size]; exact h.tsz, f1, f2, fun x B hx hB => ?_, fun x y B B' hx hy hB hB' hbe => ?_, fun x hx hu => ?_, fun p hp hu => ?_, fun p hp => ?_, fun p hp => ?_, ?_, hsnd, by rw [Act.put_defers]; exact h.hds⟩
  · cases hy
    rw [hg, if_pos rfl]
  · obtain ⟨h1, s'', h2, h3⟩ := hun s' hs
    rw [hg, if_neg h1, ← h3]
    exact h.un s'' h2
  · rw [hg]
    split
    · exact .inl rfl
    · rename_i hne
      rcases h.allc j o' hoj hcl with h1 | ⟨s'', h2, h3⟩
      · exact .inl h1
      · rcases hall s'' h2 with h4 | ⟨s', h4, h5⟩
        · exact absurd (h3.symm.trans h4) hne
        · exact .inr ⟨s', h4, h5.trans h3⟩
  · rw [hmono x hx] at hB
    obtain ⟨g1, g2, g3⟩ := h.r1 x B hx hB
    exact ⟨g1, g2, Nat.lt_of_lt_of_le g3 hfc.size⟩
  · rw [hmono x hx] at hB
    rw [hmono y hy] at hB'
    exact h.r2 x y B B' hx hy hB hB' hbe
  · rw [hg] at hu
    split at hu
    · cases hu
    · rw [hmono x hx]; exact h.r3 x hx hu
  · have hp' : p ∈ later fin st := by rw [hjs]; exact List.mem_append_right _ hp
    rw [hg, if_neg (hpn p hp')] at hu
    obtain ⟨B, ob, g1, g2, g3, g4⟩ := h.fl p hp' hu
    have hBlt : B.block < w.heap.size := (Array.getElem?_eq_some_iff.1 g3).1
    have hnc : ¬ Owns γ Hc B.block := fun ho => by
      rcases hown _ ho with h1 | ⟨q, hq, B', h2, h3⟩
      · exact g2 h1
      · have hq' : q ∈ later fin st := by rw [hjs]; exact List.mem_append_left _ hq
        have := h.r2 q.1 p.1 B' B (hlt q hq') (hlt p hp') h2 g1 h3
        have hnd := h.flnd
        rw [hjs, List.map_append, List.nodup_append] at hnd
        exact hnd.2.2 q.1 (List.mem_map.2 ⟨q, hq, rfl⟩) p.1 (List.mem_map.2 ⟨p, hp, rfl⟩) this
    refine ⟨B, ob, hfc.le _ _ g1, fun ho => ?_, by rw [hfc.keep _ hBlt hnc]; exact g3, g4.mono hfc.le⟩
    rcases hfc.foot _ ho with h1 | h1
    · exact hnc h1
    · omega
  · rcases h.flm p hp with h1 | h1
    · rw [hjs] at h1
      rcases List.mem_append.1 h1 with h2 | h2
      · right
        rw [hg]
        split
        · rfl
        · exact hn.pre _ (hpj p h2)
      · exact .inl h2
    · right
      rw [hg]
      split
      · rfl
      · exact h1
  · exact h.flsub p (by rw [hjs]; exact List.mem_append_right _ hp)
  · have hnd := h.flnd
    rw [hjs, List.map_append, List.nodup_append] at hnd
    exact hnd.2.1

/-- One step that has its place, on the machine. -/
theorem chain_run {Q : Exit → Act → World → Prop} {K : Act → World → Prop} (g : Fix E P base n call ops ms wr F0 nx0 vals stA fin HA) (h : GI E P base n call ops ms F0 nx0 vals stA fin HA γ0 h0 w0 ds L γ prev H st a w) {o : Oper} {s : CStep} (hn : Next ops ms L s.c o)
    (hcv : CV E call ops ms F0 nx0 vals H s) {st' : List CStep} (hjs : later fin st = s.js ++ later fin st')
    (hch : Chn E call ops ms F0 nx0 vals s.h st') (hwin : WinAll E ops ms F0 vals (some s.c) s.h st') (hlast : HX (lastH s.h st') HA)
    (hun : ∀ s' ∈ st', s'.c ≠ s.c ∧ ∃ s'' ∈ st, s''.c = s'.c) (hall : ∀ s'' ∈ st, s''.c = s.c ∨ ∃ s' ∈ st', s'.c = s''.c) (hsnd : (st'.map CStep.c).Nodup)
    (hK : ∀ γ' prev' H' st' a' w', GI E P base n call ops ms F0 nx0 vals stA fin HA γ0 h0 w0 ds (L.setIfInBounds s.c true) γ' prev' H' st' a' w' → K a' w') : wpOp P ops Q s.c K a w := by
  obtain ⟨o', m, c1, c2, c3, c4, c5, c6, c7⟩ := hcv
  rw [hn.at_] at c1; cases c1
  have hF := h.frame hn c5
  have hpj : ∀ p ∈ s.js, Pred ms s.c p.1 := fun p hp => ⟨m, c3, c4 p hp⟩
  have hmem : ∀ p ∈ s.js, p ∈ later fin st := fun p hp => by rw [hjs]; exact List.mem_append_left _ hp
  have hlt : ∀ p ∈ later fin st, p.1 < ops.size := fun p hp => by
    obtain ⟨o', k, g1, g2, _⟩ := g.sub p (h.flsub p hp)
    exact (Array.getElem?_eq_some_iff.1 g1).1
  obtain ⟨j1, j2, j3⟩ := join_sound (nx0 := nx0) s.js h.rh h.fc (fun p hp => by
    obtain ⟨B, ob, g1, g2, g3, g4⟩ := h.fl p (hmem p hp) (hn.pre _ (hpj p hp))
    obtain ⟨g5, g6, g7⟩ := h.r1 p.1 B (hlt p (hmem p hp)) g1
    exact ⟨B, ob, g1, g5, Nat.le_trans h.low0 g6, g6, g2, g3, g4⟩) (by
    have hnd := h.flnd
    rw [hjs, List.map_append, List.nodup_append] at hnd
    exact hnd.1) (fun p hp q hq B B' h1 h2 h3 => h.r2 p.1 q.1 B B' (hlt p (hmem p hp)) (hlt q (hmem q hq)) h1 h2 h3)
  have fin_ : ∀ {γ' : Gam} {w' : World} {V : Value}, RV γ' s.v V → FC γ ⟨H.nx, joinAll nx0 H.bl s.js⟩ w γ' s.h w' → RH E base γ' s.h w' → K (a.put o.dst V) w' := fun hV hfc hrh =>
    hK _ _ _ _ _ _ (h.step g hn c2 hjs hpj c7 hch hwin hlast hun hall hsnd (Hc := ⟨H.nx, joinAll nx0 H.bl s.js⟩) rfl j2 j3 hV hfc hrh)
  unfold wpOp
  simp only [hn.at_]
  unfold chainStep at c6
  split at c6
  · cases c6
  · rename_i hw
    simp only [Option.some.injEq, Prod.mk.injEq] at c6
    rw [wanted_sound hF hw]
    simp only [Bool.false_eq_true, if_false]
    exact fin_ (by rw [← c6.1]; exact RV.noResult γ) (by rw [← c6.2]; exact FC.refl _ _ _) (by rw [← c6.2]; exact j1)
  · rename_i hw
    rw [wanted_sound hF hw]
    simp only [if_true, Oper.wp]
    refine .inl ?_
    split at c6
    · rename_i v h' hop
      simp only [Option.some.injEq, Prod.mk.injEq] at c6
      obtain ⟨γ', w', V, h1, h2, h3, h4⟩ := op_sound g.env hF j1 hop
      rw [h1, Oper.upon_value]
      exact fin_ (by rw [← c6.1]; exact h2) (by rw [← c6.2]; exact h3) (by rw [← c6.2]; exact h4)
    · rename_i h' hop
      simp only [Option.some.injEq, Prod.mk.injEq] at c6
      obtain ⟨w', h1, h3, h4⟩ := op_sound g.env hF j1 hop
      rw [h1, Oper.upon_skip]
      exact fin_ (γ' := γ) (by rw [← c6.1]; exact RV.noResult γ) (by rw [← c6.2]; exact h3) (by rw [← c6.2]; exact h4)
    · rename_i f args hop
      obtain ⟨Args, h1, h2, _⟩ := op_sound g.env hF j1 hop
      rw [h1, Oper.upon_enter]
      split at c6
      · rename_i v h' hcl
        simp only [Option.some.injEq, Prod.mk.injEq] at c6
        refine Calls.mono (g.call f args _ _ hcl γ w Args j1 h2) fun e w' ⟨γ', ⟨V, hV, he⟩, hfc, hrh⟩ => ?_
        subst he
        exact fin_ (by rw [← c6.1]; exact hV) (by rw [← c6.2]; exact hfc) (by rw [← c6.2]; exact hrh)
      · cases c6
    · cases c6

/-- A step that has its place. -/
theorem chain_step {Q : Exit → Act → World → Prop} {K : Act → World → Prop} (g : Fix E P base n call ops ms wr F0 nx0 vals stA fin HA) (h : GI E P base n call ops ms F0 nx0 vals stA fin HA γ0 h0 w0 ds L γ prev H st a w) {i : Nat} {o : Oper} (hn : Next ops ms L i o) (hc : cls o.op = .c)
    (hK : ∀ γ' prev' H' st' a' w', GI E P base n call ops ms F0 nx0 vals stA fin HA γ0 h0 w0 ds (L.setIfInBounds i true) γ' prev' H' st' a' w' → K a' w') : wpOp P ops Q i K a w := by
  rcases h.allc i o hn.at_ hc with h1 | ⟨s, hs, hsi⟩
  · rw [hn.un] at h1; cases h1
  · cases st with
    | nil => cases hs
    | cons s1 rest =>
      have hch := h.chn
      have hwin := h.win
      have hlast := h.last
      have hun := h.un
      have hsnd := h.snd
      simp only [List.map_cons, List.nodup_cons] at hsnd
      rcases List.mem_cons.1 hs with rfl | hs'
      · subst hsi
        refine chain_run g h hn hch.1 (st' := rest) rfl hch.2.2 hwin.2 hlast (fun s' hs' => ⟨fun e => hsnd.1 (List.mem_map.2 ⟨s', hs', e⟩), s', List.mem_cons_of_mem _ hs', rfl⟩) (fun s'' hs'' => ?_) hsnd.2 hK
        rcases List.mem_cons.1 hs'' with rfl | h1
        · exact .inl rfl
        · exact .inr ⟨s'', h1, rfl⟩
      · rcases hch.2.1 with hord | ⟨s2, t2, t1, e1, e2, e3, e4, e5, e6, e7, e8, e9, e10, e11, e12⟩
        · have := hn.pre s1.c (by rw [← hsi]; exact hord s hs')
          rw [h.un s1 (List.mem_cons_self ..)] at this; cases this
        · subst e1
          simp only [List.mem_singleton] at hs'
          subst hs'
          have hi : t2.c = i := e6.trans hsi
          subst hi
          refine chain_run g h hn e8 (st' := [t1]) ?_ ?_ ?_ ?_ ?_ ?_ (by simp) hK
          · simp [later, e2, e3, e4, e5]
          · exact ⟨e10, .inl (by simp), trivial⟩
          · exact ⟨by rw [e6, e7]; exact e9, by rw [e7]; exact e11⟩
          · exact ⟨hlast.1.trans e12.1, fun k => (hlast.2 k).trans (e12.2 k)⟩
          · intro s' hs'
            simp only [List.mem_singleton] at hs'
            subst hs'
            refine ⟨fun e => hsnd.1 (List.mem_map.2 ⟨s, List.mem_singleton.2 rfl, ?_⟩), s1, List.mem_cons_self .., e7.symm⟩
            rw [← e6, ← e, e7]
          · intro s'' hs''
            rcases List.mem_cons.1 hs'' with rfl | h1
            · exact .inr ⟨t1, List.mem_singleton.2 rfl, e7⟩
            · simp only [List.mem_singleton] at h1
              subst h1
              exact .inl e6.symm

/-- The whole region. -/
theorem game {Q : Exit → Act → World → Prop} (g : Fix E P base n call ops ms wr F0 nx0 vals stA fin HA)
    (hQ : ∀ {L : Array Bool} {γ : Gam} {prev : Option Nat} {H : Heap} {st : List CStep} {a : Act} {w : World}, GI E P base n call ops ms F0 nx0 vals stA fin HA γ0 h0 w0 ds L γ prev H st a w → (∀ i, i < ops.size → L.getD i false = true) → Q .normal a w) :
    ∀ (fuel : Nat) {L : Array Bool} {γ : Gam} {prev : Option Nat} {H : Heap} {st : List CStep} {a : Act} {w : World}, GI E P base n call ops ms F0 nx0 vals stA fin HA γ0 h0 w0 ds L γ prev H st a w →
      (List.range ops.size).countP (fun i => !L.getD i false) ≤ fuel → wpAny P .any ops Q fuel L a w := by
  have hdone : ∀ {L : Array Bool} {γ : Gam} {prev : Option Nat} {H : Heap} {st : List CStep} {a : Act} {w : World}, GI E P base n call ops ms F0 nx0 vals stA fin HA γ0 h0 w0 ds L γ prev H st a w →
      Region.ready .any ops L = [] → ∀ i, i < ops.size → L.getD i false = true := by
    intro L γ prev H st a w h hr i
    induction i using Nat.strongRecOn with
    | _ i ih =>
      intro hi
      cases hL : L.getD i false with
      | true => rfl
      | false =>
        exfalso
        have hlt : i < L.size := by rw [h.sz]; exact hi
        have : i ∈ Region.ready .any ops L := mem_ready.2 ⟨by simp [hlt] at hL ⊢; exact hL, ops[i], by simp [hi], fun e he hb => by
          rw [← bindsA_eq] at hb
          have := g.mask.low i ops[i] e (by simp [hi]) he hb
          exact ih e.on this (by omega)⟩
        rw [hr] at this; cases this
  intro fuel
  induction fuel with
  | zero =>
    intro L γ prev H st a w h hc
    have hall : ∀ i, i < ops.size → L.getD i false = true := fun i hi => by
      have h0 : (List.range ops.size).countP (fun i => !L.getD i false) = 0 := by omega
      have := List.countP_eq_zero.1 h0 i (List.mem_range.2 hi)
      simpa using this
    refine ⟨?_, hQ h hall⟩
    cases hr : Region.ready .any ops L with
    | nil => rfl
    | cons i r =>
      obtain ⟨o, hn⟩ := next_of_ready g h (i := i) (by rw [hr]; exact List.mem_cons_self ..)
      have := hall i (by rw [← h.sz]; exact hn.lt)
      rw [hn.un] at this; cases this
  | succ fuel ih =>
    intro L γ prev H st a w h hc
    refine ⟨fun hr => hQ h (hdone h hr), fun i hi => ?_⟩
    obtain ⟨o, hn⟩ := next_of_ready g h hi
    have hlt : i < ops.size := by rw [← h.sz]; exact hn.lt
    have hcount : (List.range ops.size).countP (fun j => !(L.setIfInBounds i true).getD j false) ≤ fuel := by
      have := (count_set (fun j => !L.getD j false) (fun j => !(L.setIfInBounds i true).getD j false) (i := i) (by show (!L.getD i false) = true; rw [hn.un]; rfl)
        (by show (!(L.setIfInBounds i true).getD i false) = false; rw [getD_set L hn.lt, if_pos rfl]; rfl) (fun j hj => by show (!(L.setIfInBounds i true).getD j false) = (!L.getD j false); rw [getD_set L hn.lt, if_neg hj]) ops.size).1 hlt
      omega
    cases hcl : cls o.op with
    | q => exact quiet_step g h hn hcl fun a' h' => ih h' hcount
    | m => exact maker_step g h hn hcl fun γ' a' w' h' => ih h' hcount
    | c => exact chain_step g h hn hcl fun γ' prev' H' st' a' w' h' => ih h' hcount
    | no => exact absurd hcl (g.no i o hn.at_)

theorem putAll_sound : ∀ {os : List Oper} {i : Nat} {F F' : Tr AV}, putAll n vals os i F = some F' → ops.toList.drop i = os →
    (∀ (j : Nat) o d, i ≤ j → ops[j]? = some o → o.dst = some d → d < n) ∧
    ∀ d v, F'.get d = some v → (∃ (j : Nat) (o : Oper), i ≤ j ∧ ops[j]? = some o ∧ o.dst = some d ∧ vals.get j = some v) ∨ ((∀ (j : Nat) o, i ≤ j → ops[j]? = some o → o.dst ≠ some d) ∧ F.get d = some v)
  | [], i, F, F', h, hd => by
    simp only [putAll, Option.some.injEq] at h; subst h
    have hsz : ops.size ≤ i := by
      have := List.drop_eq_nil_iff.1 hd
      simpa using this
    have hlt : ∀ (k : Nat) o, ops[k]? = some o → k < i := fun k o ho => Nat.lt_of_lt_of_le (Array.getElem?_eq_some_iff.1 ho).1 hsz
    exact ⟨fun j o d hij ho => absurd (hlt j o ho) (by omega), fun d v hv => .inr ⟨fun j o hij ho => absurd (hlt j o ho) (by omega), hv⟩⟩
  | o :: os, i, F, F', h, hd => by
    have ho : ops[i]? = some o := by
      rw [← Array.getElem?_toList]
      have : (ops.toList.drop i)[0]? = some o := by rw [hd]; rfl
      simpa using this
    have hd' : ops.toList.drop (i + 1) = os := by rw [← List.drop_drop, hd]; rfl
    simp only [putAll] at h
    split at h
    · cases h
    · rename_i u hu
      split at h
      · cases h
      · rename_i F1 hF1
        obtain ⟨g1, g2⟩ := putAll_sound h hd'
        have split : ∀ (j : Nat) o', i ≤ j → ops[j]? = some o' → (j = i ∧ o' = o) ∨ i + 1 ≤ j := fun j o' hij hoj => by
          rcases Nat.lt_or_ge i j with h1 | h1
          · exact .inr h1
          · have : j = i := by omega
            subst this
            rw [ho] at hoj; cases hoj
            exact .inl ⟨rfl, rfl⟩
        refine ⟨fun j o' d hij hoj hdd => ?_, fun d v hv => ?_⟩
        · rcases split j o' hij hoj with ⟨rfl, rfl⟩ | h1
          · simp only [putF, hdd] at hF1
            split at hF1
            · rename_i hlt; exact Nat.le_of_ble_eq_true hlt
            · cases hF1
          · exact g1 j o' d h1 hoj hdd
        · rcases g2 d v hv with ⟨j, o', h1, h2, h3, h4⟩ | ⟨h1, h2⟩
          · exact .inl ⟨j, o', by omega, h2, h3, h4⟩
          · cases hdst : o.dst with
            | none =>
              simp only [putF, hdst, Option.some.injEq] at hF1
              subst hF1
              refine .inr ⟨fun j o' hij hoj => ?_, h2⟩
              rcases split j o' hij hoj with ⟨rfl, rfl⟩ | h3
              · rw [hdst]; simp
              · exact h1 j o' h3 hoj
            | some e =>
              simp only [putF, hdst] at hF1
              split at hF1
              · simp only [Option.some.injEq] at hF1
                subst hF1
                rw [Tr.get_put] at h2
                split at h2
                · rename_i hde
                  subst hde
                  cases h2
                  exact .inl ⟨i, o, Nat.le_refl _, ho, hdst, hu⟩
                · rename_i hde
                  refine .inr ⟨fun j o' hij hoj => ?_, h2⟩
                  rcases split j o' hij hoj with ⟨rfl, rfl⟩ | h3
                  · rw [hdst]; simp; exact fun x => hde x.symm
                  · exact h1 j o' h3 hoj
              · cases hF1

/-- Regions whose order is drawn come to where the interpreter says. -/
theorem drawV_sound (hE : EnvOK E P) (hcall : CallOK E P base call) : DrawOK E P base n (drawV E call n) := by
  intro ops id c₀ cs₀ b k γ s a cs w r hr hs hb
  unfold drawV at hr
  split at hr
  · cases hr
  · rename_i ms hms
    split at hr
    · cases hr
    · rename_i wr hwr
      split at hr
      · cases hr
      · rename_i vals st fin hpass
        split at hr
        · cases hr
        · rename_i hwin
          split at hr
          · cases hr
          · rename_i F hput
            have hmask : MaskOK ops ms := masksOf_sound hms rfl (fun k m h => by simp [Tr.get] at h) (fun k o h => by omega) (fun k o e h => by omega) (fun k j ⟨m, h, _⟩ => by simp [Tr.get] at h)
            have hw : WrOK ops wr := writersOf_sound hwr rfl fun t => ⟨fun _ k o h => by omega, fun j h => by simp [Tr.get] at h⟩
            have hlen : ops.toList.length = ops.size := by simp
            rw [hlen] at hpass hwin
            have hp := pass_sound hw hpass rfl (fun j v h => by simp [Tr.get] at h) (fun p hp => by cases hp) (by simp)
            obtain ⟨p1, p2⟩ := putAll_sound hput rfl
            have g : Fix E P base n call ops ms wr s.F s.h.nx vals st fin (lastH ⟨s.h.nx + ops.size, s.h.bl⟩ st) := ⟨hE, hcall, hmask, hw, fun j o ho => hp.no j o (Nat.zero_le _) ho, fun j o ho hm => hp.m j o (Nat.zero_le _) ho hm,
              fun p hpp => by
                rcases hp.sub p hpp with h | ⟨_, h⟩
                · cases h
                · exact h, hp.nd, fun j o d ho => p1 j o d (Nat.zero_le _) ho⟩
            have h0 : HX ⟨s.h.nx, s.h.bl⟩ s.h := ⟨rfl, fun _ => rfl⟩
            have hRH0 : RH E base γ ⟨s.h.nx + ops.size, s.h.bl⟩ w.drew := ⟨fun i hi => hs.h.fresh i (by simp only at hi; omega), hs.h.drew.blk, hs.h.inj, hs.h.low, hs.h.drew.glob⟩
            have hFC0 : FC γ s.h w.drew γ ⟨s.h.nx + ops.size, s.h.bl⟩ w.drew :=
              ⟨γ.le_refl, by simp, fun i b h1 h2 => (by rw [h1] at h2; cases h2), Nat.le_refl _, rfl, rfl, rfl, fun _ _ _ => rfl, fun B h => .inl h⟩
            have hL : ∀ j d, (Array.replicate ops.size false).getD j d = if j < ops.size then false else d := fun j d => by
              simp only [Array.getD_eq_getD_getElem?, Array.getElem?_replicate]
              split <;> rfl
            have hLf : ∀ j, (Array.replicate ops.size false).getD j false = false := fun j => by rw [hL]; split <;> rfl
            have g0 : GI E P base n call ops ms s.F s.h.nx vals st fin (lastH ⟨s.h.nx + ops.size, s.h.bl⟩ st) γ s.h w.drew a.defers (Array.replicate ops.size false) γ none ⟨s.h.nx + ops.size, s.h.bl⟩ st a w.drew := by
              refine ⟨fun i j hi => ?_, hp.chn, winAll_sound hw hwin, ⟨rfl, fun _ => rfl⟩, fun y hy => (by cases hy), fun s' _ => hLf _, fun j o ho hc => .inr (hp.c j o (Nat.zero_le _) ho hc), hRH0, hFC0, hs.h.low, Nat.le_refl _, rfl, by simp, hs.f.size, fun j o d v hj => ?_, fun d v _ hv => hs.f.get d v hv,
                fun i B hi hB => ?_, fun i k B B' hi _ hB => ?_, fun i hi _ => hs.h.fresh _ (by omega), fun p _ hu => ?_, fun p hpp => .inl hpp, fun p hpp => hpp, hp.nd, hp.snd, rfl⟩
              · rw [hLf] at hi; cases hi
              · rw [hLf] at hj; cases hj
              · rw [hs.h.fresh _ (by omega)] at hB; cases hB
              · rw [hs.h.fresh _ (by omega)] at hB; cases hB
              · rw [hLf] at hu; cases hu
            have hcount : (List.range ops.size).countP (fun i => !(Array.replicate ops.size false).getD i false) ≤ ops.size := by
              have := List.countP_le_length (p := fun i => !(Array.replicate ops.size false).getD i false) (l := List.range ops.size)
              simpa using this
            simp only [Option.some.injEq] at hr
            subst hr
            have hwp := wp_region_any (P := P) (id := id) (a := a) (w := w) (Q := fun e a' w' => e = .normal ∧ ∃ γ', SR E base n c₀ cs₀ γ' { s with F := F, h := ⟨(lastH ⟨s.h.nx + ops.size, s.h.bl⟩ st).nx, joinAll s.h.nx (lastH ⟨s.h.nx + ops.size, s.h.bl⟩ st).bl fin⟩ } a' cs w' ∧
                FC γ s.h w γ' ⟨(lastH ⟨s.h.nx + ops.size, s.h.bl⟩ st).nx, joinAll s.h.nx (lastH ⟨s.h.nx + ops.size, s.h.bl⟩ st).bl fin⟩ w') hE.mixed (game g (fun {L γ' prev H st' a' w'} h hall => by
              refine ⟨rfl, γ', ?_⟩
              have hst : st' = [] := by
                cases st' with
                | nil => rfl
                | cons s1 r =>
                  have h1 := h.un s1 (List.mem_cons_self ..)
                  obtain ⟨o', h2, _⟩ := Chn.cls (H := H) h.chn s1 (List.mem_cons_self ..)
                  rw [hall _ (Array.getElem?_eq_some_iff.1 h2).1] at h1; cases h1
              subst hst
              have hlt : ∀ p ∈ fin, p.1 < ops.size := fun p hpp => by
                obtain ⟨o', k, g1, g2, _⟩ := g.sub p (h.flsub p hpp)
                exact (Array.getElem?_eq_some_iff.1 g1).1
              obtain ⟨j1, j2, j3⟩ := join_sound (nx0 := s.h.nx) fin h.rh h.fc (fun p hpp => by
                obtain ⟨B, ob, g1, g2, g3, g4⟩ := h.fl p hpp (hall _ (hlt p hpp))
                obtain ⟨g5, g6, g7⟩ := h.r1 p.1 B (hlt p hpp) g1
                exact ⟨B, ob, g1, g5, Nat.le_trans h.low0 g6, g6, g2, g3, g4⟩) h.flnd (fun p hp' q hq B B' h1 h2 h3 => h.r2 p.1 q.1 B B' (hlt p hp') (hlt q hq) h1 h2 h3)
              have hx : HX ⟨H.nx, joinAll s.h.nx H.bl fin⟩ ⟨(lastH ⟨s.h.nx + ops.size, s.h.bl⟩ st).nx, joinAll s.h.nx (lastH ⟨s.h.nx + ops.size, s.h.bl⟩ st).bl fin⟩ :=
                ⟨h.last.1, joinAll_alike s.h.nx fin h.last.2⟩
              have hfc := (FC.drew γ s.h w).trans (j2.alike hx)
              refine ⟨⟨⟨h.tsz, fun d v hv => ?_⟩, j1.alike hx, hs.c.mono hfc.le, by rw [h.hds]; exact hs.d.mono hfc.le⟩, hfc⟩
              rcases p2 d v hv with ⟨j, o, _, h2, h3, h4⟩ | ⟨h1, h2⟩
              · exact h.fi1 j o d v (hall j (Array.getElem?_eq_some_iff.1 h2).1) h2 h3 h4
              · exact h.fi2 d v (fun j o _ ho => h1 j o (Nat.zero_le _) ho) h2) ops.size g0 hcount)
            obtain ⟨e, a', w', ⟨rfl, γ', h1, h2⟩, harr⟩ := hwp b k cs
            exact ⟨γ', .normal, a', cs, w', rfl, h1, h2, rfl, harr⟩

/-- The interpreter, drawn regions and all. -/
theorem runV_sound (hE : EnvOK E P) (d : Nat) : CallOK E P base (run E (drawV E) d) :=
  run_sound hE (fun call hc n => drawV_sound hE hc) d
end
end Go.Vai
