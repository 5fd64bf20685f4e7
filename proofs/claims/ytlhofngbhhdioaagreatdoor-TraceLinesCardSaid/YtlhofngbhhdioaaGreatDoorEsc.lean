/- Esc: part of the proof (own work of this claim). -/
import Derived.Lib.Replace
import Derived.Lib.CountLaws
set_option linter.unusedVariables false
set_option linter.unusedSimpArgs false
set_option linter.deprecated false
/- Plain lists: every apostrophe written as four bytes. -/
namespace Go.Proofs.YtlhofngbhhdioaaGreatDoor
open Go

def escB (b : UInt8) : List UInt8 := if b = 39 then [39, 92, 39, 39] else [b]

theorem index39_hit (l : List UInt8) : Lib.index (39 :: l) [39] = ((0 : Nat) : Int) := by
  unfold Lib.index
  simp [List.isPrefixOf]

theorem index39_miss (b : UInt8) (hb : b ≠ 39) (l : List UInt8) : Lib.index (b :: l) [39] = if Lib.index l [39] == -1 then -1 else Lib.index l [39] + 1 := by
  conv => lhs; unfold Lib.index
  have : List.isPrefixOf [39] (b :: l) = false := by simp [List.isPrefixOf, Ne.symm hb]
  rw [this]
  simp

theorem repl_cons39 (new l : List UInt8) : Lib.replaceK [39] new (Lib.count (39 :: l) [39]) (39 :: l) = new ++ Lib.replaceK [39] new (Lib.count l [39]) l := by
  have hc := Lib.count_hit (s := 39 :: l) (sub := [39]) (i := 0) (by simp) (index39_hit l)
  simp only [Nat.zero_add, List.length_singleton, List.drop_succ_cons, List.drop_zero] at hc
  rw [hc, Nat.add_comm, Lib.replaceK_hit [39] new _ _ 0 (index39_hit l)]
  simp

theorem repl_cons (b : UInt8) (hb : b ≠ 39) (new l : List UInt8) : Lib.replaceK [39] new (Lib.count (b :: l) [39]) (b :: l) = b :: Lib.replaceK [39] new (Lib.count l [39]) l := by
  have hi := index39_miss b hb l
  by_cases hm : Lib.index l [39] = -1
  · rw [hm] at hi
    simp only [beq_self_eq_true, if_true] at hi
    rw [Lib.count_miss hi, Lib.count_miss hm]
    rfl
  · have hge := Lib.index_ge l [39]
    obtain ⟨i, hi'⟩ : ∃ i : Nat, Lib.index l [39] = i := ⟨(Lib.index l [39]).toNat, by omega⟩
    have hne : (Lib.index l [39] == -1) = false := by rw [beq_eq_false_iff_ne]; exact hm
    rw [hne] at hi
    simp only [Bool.false_eq_true, if_false] at hi
    have hi2 : Lib.index (b :: l) [39] = ((i + 1 : Nat) : Int) := by rw [hi, hi']; simp
    have hc := Lib.count_hit (s := b :: l) (sub := [39]) (i := i + 1) (by simp) hi2
    have hc2 := Lib.count_hit (s := l) (sub := [39]) (i := i) (by simp) hi'
    simp only [List.length_singleton, List.drop_succ_cons] at hc hc2
    rw [hc, hc2, Nat.add_comm 1, Lib.replaceK_hit [39] new _ _ _ hi2, Lib.replaceK_hit [39] new _ _ _ hi']
    simp

theorem replK_eq : ∀ l : List UInt8, Lib.replaceK [39] [39, 92, 39, 39] (Lib.count l [39]) l = l.flatMap escB
  | [] => by
    have : Lib.count ([] : List UInt8) [39] = 0 := Lib.count_miss (by unfold Lib.index; rfl)
    rw [this]; rfl
  | b :: l => by
    by_cases hb : b = 39
    · subst hb
      rw [repl_cons39, replK_eq l]
      simp [escB]
    · rw [repl_cons b hb, replK_eq l]
      simp [escB, hb]

theorem repl_eq (l : List UInt8) : Lib.replaceAll l [39] [39, 92, 39, 39] = l.flatMap escB := by
  unfold Lib.replaceAll Lib.replace Lib.replaceNum
  have : (([39] : List UInt8) == [39, 92, 39, 39]) = false := by decide
  rw [this]
  simp only [Bool.false_eq_true, if_false]
  rw [if_pos (Or.inl (by decide)), replK_eq]

theorem esc_len : ∀ l : List UInt8, (l.flatMap escB).length ≤ 4 * l.length
  | [] => by simp
  | b :: l => by
    have := esc_len l
    simp only [List.flatMap_cons, List.length_append, List.length_cons]
    have h : (escB b).length ≤ 4 := by unfold escB; split <;> simp
    omega
end Go.Proofs.YtlhofngbhhdioaaGreatDoor
