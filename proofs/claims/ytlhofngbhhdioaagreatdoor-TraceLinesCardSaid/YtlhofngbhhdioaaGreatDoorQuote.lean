/- Quote: part of the proof (own work of this claim). -/
import Derived.Test.YtlhofngbhhdioaaGreatDoorPlain
import Derived.Test.YtlhofngbhhdioaaGreatDoorEsc
import Derived.Test.YtlhofngbhhdioaaGreatDoorShelf
set_option linter.unusedVariables false
set_option linter.unusedSimpArgs false
set_option linter.deprecated false
namespace Go.Proofs.YtlhofngbhhdioaaGreatDoor
open Go Go.RowKit PTraceLines

/-- chars.Quote's bytes. -/
def quoteL (s : ByteArray) : List UInt8 := if plainS s then s.data.toList else 39 :: (s.data.toList.flatMap escB ++ [39])
def quoteB (s : ByteArray) : ByteArray := ⟨(quoteL s).toArray⟩

theorem below_cell {B : Nat} {w w' : World} (h : Below B w w') (a : Addr) (ha : a.block < B) : w'.cell? a = w.cell? a := by
  unfold World.cell?
  rw [h.block a.block ha]

theorem quote_len (s : ByteArray) : (quoteB s).size ≤ 4 * s.size + 2 := by
  show (quoteL s).toArray.size ≤ _
  have h1 := esc_len s.data.toList
  have h2 : s.data.toList.length = s.size := rfl
  unfold quoteL
  split
  · simp only [List.size_toArray]; omega
  · simp only [List.size_toArray, List.length_cons, List.length_append, List.length_nil]; omega

theorem repl_walk (s : ByteArray) (w : World) (hs : s.size ≤ 1000) (m : Int) (hm : w.cell? ⟨0, 0, none⟩ = some (.int .i64 m)) :
    Calls Tryz.prog 42 #[.string s, .string ⟨#[39]⟩, .string ⟨#[39, 92, 39, 39]⟩] w fun e w' => e = .returned (.string ⟨(s.data.toList.flatMap escB).toArray⟩) ∧ Below w.heap.size w w' := by
  have hlen : s.size + Lib.countB s ⟨#[39]⟩ * (⟨#[39, 92, 39, 39]⟩ : ByteArray).size ≤ 140737488355328 := by
    have h1 : Lib.countB s ⟨#[39]⟩ ≤ s.data.toList.length + 1 := Lib.count_le _ _
    have h2 : s.data.toList.length = s.size := rfl
    have h3 : (⟨#[39, 92, 39, 39]⟩ : ByteArray).size = 4 := rfl
    rw [h3]; omega
  have h := Tryz.strings_ReplaceAll s ⟨#[39]⟩ ⟨#[39, 92, 39, 39]⟩ m w (by omega) hm (by decide) hlen
  have he : Lib.replaceAll s.data.toList (⟨#[39]⟩ : ByteArray).data.toList (⟨#[39, 92, 39, 39]⟩ : ByteArray).data.toList = s.data.toList.flatMap escB := repl_eq s.data.toList
  rw [he] at h
  exact h

set_option maxHeartbeats 4000000 in
set_option maxRecDepth 1000000 in
theorem quote_walk (s : ByteArray) (w : World) (hs : s.size ≤ 1000) (m : Int) (hm : w.cell? ⟨0, 0, none⟩ = some (.int .i64 m)) (h0 : 0 < w.heap.size) :
    Calls Tryz.prog 24 #[.string s] w fun e w' => e = .returned (.string (quoteB s)) ∧ Below w.heap.size w w' := by
  go_enter Tryz.func24, Tryz.ntmps24
  go_wp2_with (go_at_call 41; refine (plain_walk s _ (by omega)).mono ?_)
  rintro e W1 ⟨rfl, b1⟩
  have hq : quoteL s = if plainS s then s.data.toList else 39 :: (s.data.toList.flatMap escB ++ [39]) := rfl
  have hm1 : W1.cell? ⟨0, 0, none⟩ = some (.int .i64 m) := by rw [below_cell b1 _ h0]; exact hm
  cases hp : plainS s with
  | true =>
    rw [hp] at hq
    go_wp2
    go_ret
    have : quoteB s = s := by unfold quoteB; rw [hq]; simp
    rw [this]
    exact ⟨rfl, b1⟩
  | false =>
    rw [hp] at hq
    have hel := esc_len s.data.toList
    have h2 : s.data.toList.length = s.size := rfl
    have hb1 : 1 + (⟨(s.data.toList.flatMap escB).toArray⟩ : ByteArray).size ≤ 9223372036854775807 := by
      show 1 + (s.data.toList.flatMap escB).toArray.size ≤ _
      simp only [List.size_toArray]; omega
    generalize hg : (⟨(s.data.toList.flatMap escB).toArray⟩ : ByteArray) = r at hb1
    have hr : r.size ≤ 4000 := by
      rw [← hg]
      show (s.data.toList.flatMap escB).toArray.size ≤ _
      simp only [List.size_toArray]; omega
    have hb2 : ((⟨#[39]⟩ : ByteArray) ++ r).size + 1 ≤ 9223372036854775807 := by rw [ByteArray.size_append]; show 1 + r.size + 1 ≤ _; omega
    have hcall := repl_walk s W1 hs m hm1
    rw [hg] at hcall
    have hfin : quoteB s = (⟨#[39]⟩ : ByteArray) ++ r ++ (⟨#[39]⟩ : ByteArray) := by
      rw [← hg]
      apply ByteArray.ext
      unfold quoteB
      rw [hq]
      simp
    clear hg hel h2
    go_wp2_with (go_at_call 42; refine hcall.mono ?_)
    rintro e W2 ⟨rfl, b2⟩
    go_wp2
    go_ret
    rw [hfin]
    exact ⟨rfl, b1.trans (b2.mono b1.size)⟩
end Go.Proofs.YtlhofngbhhdioaaGreatDoor
