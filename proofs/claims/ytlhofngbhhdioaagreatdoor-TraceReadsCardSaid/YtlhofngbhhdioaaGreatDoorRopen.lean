/- Ropen: part of the proof (own work of this claim). -/
import Derived.Deep.Slices
import Derived.ChangeShapes
import Derived.Test.YtlhofngbhhdioaaGreatDoorPTraceReadsx0
set_option linter.unusedVariables false
set_option linter.unusedSimpArgs false
set_option linter.deprecated false
/- An argument of type []event, opened. -/
namespace Go.Proofs.YtlhofngbhhdioaaGreatDoor
open Go Go.ChangeShapes Go.WideShapes Go.RowKit PTraceReads
open Go.Proofs.YtlhofngbhhdioaaGreatDoorW.PrintWords

theorem field_cell {cs : List Value} (j : Nat) (h : cs.length = 5) (hj : j < 5) : (cs.drop j).take 1 = [cs[j]] := by
  rw [List.drop_eq_getElem_cons (by omega)]
  rfl

set_option maxRecDepth 100000 in
/-- One event's five cells. -/
theorem open_event {H : Type} {enc : TypeId × Value → H} {w : World} {base : Nat} {spare : Nat → Bool} {held : Bool} {fuel : Nat} {cs : List Value} {x : DataW H × List MemPlace}
    (h : DataW.trod enc Tryz.prog w base spare held fuel 46 cs = some x) : ∃ e : S46, cs = [.int .i64 e.f0, .int .i64 e.f1, .int .i64 e.f2, .int .i64 e.f3, .string e.f4] := by
  obtain ⟨xs, n, _, _, hl, hxl, hf⟩ := DataW.trod_struct Tryz.underlying46 h
  have hl5 : cs.length = 5 := hl.trans (by kernel_rfl)
  have hx5 : xs.length = 5 := hxl
  have c3 : Tryz.prog.cellsOf 3 = 1 := by kernel_rfl
  have c9 : Tryz.prog.cellsOf 9 = 1 := by kernel_rfl
  have g0 : DataW.trod enc Tryz.prog w base spare held n 3 ((cs.drop 0).take (Tryz.prog.cellsOf 3)) = xs[0]? := hf 0 _ rfl
  have g1 : DataW.trod enc Tryz.prog w base spare held n 3 ((cs.drop 1).take (Tryz.prog.cellsOf 3)) = xs[1]? := hf 1 _ rfl
  have g2 : DataW.trod enc Tryz.prog w base spare held n 3 ((cs.drop 2).take (Tryz.prog.cellsOf 3)) = xs[2]? := hf 2 _ rfl
  have g3 : DataW.trod enc Tryz.prog w base spare held n 3 ((cs.drop 3).take (Tryz.prog.cellsOf 3)) = xs[3]? := hf 3 _ rfl
  have g4 : DataW.trod enc Tryz.prog w base spare held n 9 ((cs.drop 4).take (Tryz.prog.cellsOf 9)) = xs[4]? := hf 4 _ rfl
  rw [c3] at g0 g1 g2 g3
  rw [c9] at g4
  rw [field_cell 0 hl5 (by omega), List.getElem?_eq_getElem (by omega)] at g0
  rw [field_cell 1 hl5 (by omega), List.getElem?_eq_getElem (by omega)] at g1
  rw [field_cell 2 hl5 (by omega), List.getElem?_eq_getElem (by omega)] at g2
  rw [field_cell 3 hl5 (by omega), List.getElem?_eq_getElem (by omega)] at g3
  rw [field_cell 4 hl5 (by omega), List.getElem?_eq_getElem (by omega)] at g4
  obtain ⟨a0, e0, _⟩ := DataW.trod_int Tryz.underlying3 g0
  obtain ⟨a1, e1, _⟩ := DataW.trod_int Tryz.underlying3 g1
  obtain ⟨a2, e2, _⟩ := DataW.trod_int Tryz.underlying3 g2
  obtain ⟨a3, e3, _⟩ := DataW.trod_int Tryz.underlying3 g3
  obtain ⟨a4, e4, _⟩ := DataW.trod_string Tryz.underlying9 g4
  simp only [List.cons.injEq, and_true] at e0 e1 e2 e3 e4
  refine ⟨⟨a0, a1, a2, a3, a4⟩, ?_⟩
  match cs, hl5 with
  | [v0, v1, v2, v3, v4], _ =>
    simp only [List.getElem_cons_zero, List.getElem_cons_succ] at e0 e1 e2 e3 e4
    rw [e0, e1, e2, e3, e4]

theorem open_events {H : Type} {enc : TypeId × Value → H} {w : World} {base : Nat} {spare : Nat → Bool} {held : Bool} {fuel : Nat} {A : Option Addr} {len cap : Nat} {x : DataW H × List MemPlace}
    (h : DataW.trod enc Tryz.prog w base spare held fuel 26 [.slice A len cap] = some x) : ∃ l : List S46, l.length = len ∧ Kd.C k46 w A l.length l ∧ l.length ≤ cap := by
  rcases Go.Deep.open_slice Tryz.underlying26 h with ⟨hcs, _⟩ | ⟨a, len', cap', m, n, D, Pl, hcs, hb, hlc, hcap, hm, _, hx⟩
  · simp only [List.cons.injEq, Value.slice.injEq, and_true] at hcs
    obtain ⟨rfl, rfl, rfl⟩ := hcs
    exact ⟨[], rfl, ⟨rfl, by simp, fun h => absurd h (by simp)⟩, by simp⟩
  · simp only [List.cons.injEq, Value.slice.injEq, and_true] at hcs
    obtain ⟨rfl, rfl, rfl⟩ := hcs
    have hc : Tryz.prog.cellsOf 46 = 5 := by kernel_rfl
    have hlm : len ≤ m := by rw [hm]; split <;> omega
    have each : ∀ i, i < len → ∃ e : S46, w.cells? base (a.add (i * 5)) 5 = some [.int .i64 e.f0, .int .i64 e.f1, .int .i64 e.f2, .int .i64 e.f3, .string e.f4] := fun i hi => by
      obtain ⟨cs', h1, h2⟩ := hx i (by omega)
      obtain ⟨e, he⟩ := open_event h2
      rw [hc] at h1
      exact ⟨e, by rw [h1, he]⟩
    haveI : Inhabited S46 := ⟨z46⟩
    obtain ⟨q, hq⟩ := Go.Deep.choose_lt each
    have hcap' : cap ≤ 9223372036854775807 := by simp only [maxLen] at hcap; omega
    refine ⟨(List.range len).map q, by simp, ⟨rfl, by simp; omega, fun _ => ⟨a, rfl, fun j p hp => ?_⟩⟩, by simp; omega⟩
    have hj : j < len := by
      rcases Nat.lt_or_ge j len with h | h
      · exact h
      · rw [List.getElem?_eq_none (by simpa using h)] at hp; cases hp
    have hp' : p = q j := by simpa [List.getElem?_range hj] using hp.symm
    subst hp'
    obtain ⟨_, _, hcell⟩ := World.cells?_some (hq j hj)
    refine ⟨_, rfl, k46_mk w (q j), fun i u hu => ?_⟩
    have hi : i < 5 := by
      rcases Nat.lt_or_ge i 5 with h | h
      · exact h
      · rw [List.getElem?_eq_none (by simpa using h)] at hu; cases hu
    have := hcell i hi
    rw [Go.Deep.add_add] at this
    exact this.trans hu
end Go.Proofs.YtlhofngbhhdioaaGreatDoor
