/- Plain: part of the proof (own work of this claim). -/
import Derived.Test.YtlhofngbhhdioaaGreatDoorGA
import Derived.Lib.OthersKept
import Derived.WalkKit
import Derived.BigCall
set_option linter.unusedVariables false
set_option linter.unusedSimpArgs false
set_option linter.deprecated false
namespace Go.Proofs.YtlhofngbhhdioaaGreatDoor
open Go Go.RowKit PTraceLines

def letterB (c : Int) : Bool := decide ((97 ≤ c ∧ c ≤ 122) ∨ (65 ≤ c ∧ c ≤ 90))
def digitB (c : Int) : Bool := decide (48 ≤ c ∧ c ≤ 57)
def harmB (c : Int) : Bool := decide (c = 95 ∨ c = 45 ∨ c = 46 ∨ c = 47 ∨ c = 44 ∨ c = 58 ∨ c = 43 ∨ c = 37 ∨ c = 64 ∨ c = 94)
def okB (c : Int) : Bool := letterB c || digitB c || harmB c

theorem letter_eq (c : Int) : chars_isLetter.f c = some (letterB c) := by
  unfold chars_isLetter.f letterB
  repeat' split
  all_goals (congr 1; rw [Bool.eq_iff_iff]; simp; try omega)
theorem digit_eq (c : Int) : chars_isDigit.f c = some (digitB c) := by
  unfold chars_isDigit.f digitB
  repeat' split
  all_goals (simp; try omega)
theorem harm_eq (c : Int) : chars_harmless.f c = some (harmB c) := by
  unfold chars_harmless.f harmB
  repeat' split
  all_goals (simp [*])

/-- chars.Plain, from place pos on. -/
def plainFrom (s : ByteArray) : Nat → Nat → Bool
  | 0, _ => true
  | f + 1, pos => if pos < s.size then (if okB (Utf8.decode s pos).1 then plainFrom s f (pos + (Utf8.decode s pos).2) else false) else true
def plainS (s : ByteArray) : Bool := plainFrom s s.size 0 && !s.toList.isEmpty

theorem width_pos (s : ByteArray) (pos : Nat) (h : pos < s.size) : 1 ≤ (Utf8.decode s pos).2 := by
  by_cases ha : (s[pos]'h).toNat < 128
  · rw [decode_ascii s pos h ha]
    exact Nat.le_refl _
  · exact (decode_high s pos h (by omega)).2

theorem plainFrom_end (s : ByteArray) (fuel pos : Nat) (h : ¬ pos < s.size) : plainFrom s fuel pos = true := by
  cases fuel with
  | zero => rfl
  | succ f => simp [plainFrom, h]

theorem below_drewN {B : Nat} {a w : World} (h : Below B a w) (n : Nat) : Below B a (w.drewN n) := h.trans ⟨rfl, rfl, rfl, Nat.le_refl _, fun _ _ => rfl⟩

set_option maxHeartbeats 4000000 in
set_option maxRecDepth 1000000 in
theorem plain_walk (s : ByteArray) (w : World) (hs : s.size ≤ 35184372088832) :
    Calls Tryz.prog 41 #[.string s] w fun e w' => e = .returned (.bool (plainS s)) ∧ Below w.heap.size w w' := by
  go_enter Tryz.func41, Tryz.ntmps41
  go_wp2
  go_loopw [] (fun wr => ∃ (pos fuel : Nat), wr.heap[w.heap.size]? = some (.stringIter s pos) ∧ Below w.heap.size w wr ∧ plainFrom s fuel pos = plainFrom s s.size 0 ∧ s.size ≤ pos + fuel) (fun wr => s.size - wr.iterPos w.heap.size)
  case atStart =>
    refine ⟨0, s.size, ?_, (Below.refl _ w).alloc (Nat.le_refl _) _, rfl, by omega⟩
    have := World.iter_heap w s 0
    simpa using this
  case round =>
    obtain ⟨pos, fuel, hit, hbw, hpl, hfu⟩ := hrel
    have hsz : w.heap.size < wr.heap.size := (Array.getElem?_eq_some_iff.1 hit).1
    by_cases hp : pos < s.size
    · have hnx : ∀ ty, (Instr.next (.pointer (some ⟨w.heap.size, 0, none⟩)) true ty).run Tryz.prog wr = _ := fun ty => Lib.run_next_any_at wr w.heap.size s pos ty hit hp
      have hwd := width_pos s pos hp
      have hd1 := decode_le s pos
      have hit2 := Lib.iterAt_heap wr w.heap.size s pos (pos + (Utf8.decode s pos).2) hit
      have hbw2 := Lib.below_iterAt hbw (k := w.heap.size) (by omega) s (pos + (Utf8.decode s pos).2)
      obtain ⟨f, rfl⟩ : ∃ f, fuel = f + 1 := ⟨fuel - 1, by omega⟩
      have hpf : plainFrom s (f + 1) pos = if okB (Utf8.decode s pos).1 then plainFrom s f (pos + (Utf8.decode s pos).2) else false := by simp [plainFrom, hp]
      have heap2 : ∀ n, ((wr.iterAt w.heap.size s (pos + (Utf8.decode s pos).2)).drewN n).heap[w.heap.size]? = some (.stringIter s (pos + (Utf8.decode s pos).2)) := fun n => by simpa using hit2
      cases hl : letterB (Utf8.decode s pos).1 with
      | true =>
        go_wp2_with (go_at_call 57; refine (chars_isLetter.calls _ _ _ ((letter_eq _).trans (by rw [hl]))).mono ?_)
        rintro e W1 ⟨rfl, ⟨n1, rfl⟩⟩
        go_wp2
        go_roundw
        case rel => exact ⟨pos + (Utf8.decode s pos).2, f, heap2 _, below_drewN hbw2 _, by rw [← hpl, hpf]; simp [okB, hl], by omega⟩
        case measure =>
          simp only [World.iterPos, heap2, hit]
          omega
      | false =>
        go_wp2_with (go_at_call 57; refine (chars_isLetter.calls _ _ _ ((letter_eq _).trans (by rw [hl]))).mono ?_)
        rintro e W1 ⟨rfl, ⟨n1, rfl⟩⟩
        cases hd : digitB (Utf8.decode s pos).1 with
        | true =>
          go_wp2_with (go_at_call 58; refine (chars_isDigit.calls _ _ _ ((digit_eq _).trans (by rw [hd]))).mono ?_)
          rintro e W1 ⟨rfl, ⟨n2, rfl⟩⟩
          go_wp2
          go_roundw
          case rel => exact ⟨pos + (Utf8.decode s pos).2, f, heap2 _, below_drewN hbw2 _, by rw [← hpl, hpf]; simp [okB, hd], by omega⟩
          case measure =>
            simp only [World.iterPos, heap2, hit]
            omega
        | false =>
          go_wp2_with (go_at_call 58; refine (chars_isDigit.calls _ _ _ ((digit_eq _).trans (by rw [hd]))).mono ?_)
          rintro e W1 ⟨rfl, ⟨n2, rfl⟩⟩
          cases hh : harmB (Utf8.decode s pos).1 with
          | true =>
            go_wp2_with (go_at_call 59; refine (chars_harmless.calls _ _ _ ((harm_eq _).trans (by rw [hh]))).mono ?_)
            rintro e W1 ⟨rfl, ⟨n3, rfl⟩⟩
            go_wp2
            go_roundw
            case rel => exact ⟨pos + (Utf8.decode s pos).2, f, heap2 _, below_drewN hbw2 _, by rw [← hpl, hpf]; simp [okB, hh], by omega⟩
            case measure =>
              simp only [World.iterPos, heap2, hit]
              omega
          | false =>
            go_wp2_with (go_at_call 59; refine (chars_harmless.calls _ _ _ ((harm_eq _).trans (by rw [hh]))).mono ?_)
            rintro e W1 ⟨rfl, ⟨n3, rfl⟩⟩
            go_wp2
            go_ret
            have : plainS s = false := by unfold plainS; rw [← hpl, hpf]; simp [okB, hl, hd, hh]
            rw [this]
            exact ⟨rfl, below_drewN hbw2 _⟩
    · have hnx : ∀ ty, (Instr.next (.pointer (some ⟨w.heap.size, 0, none⟩)) true ty).run Tryz.prog wr = _ := fun ty => Lib.run_next_end_at wr w.heap.size s pos ty hit hp
      go_wp2
      go_ret
      have : plainS s = !s.toList.isEmpty := by unfold plainS; rw [← hpl, plainFrom_end s fuel pos hp]; simp
      rw [this]
      exact ⟨rfl, hbw⟩
end Go.Proofs.YtlhofngbhhdioaaGreatDoor
