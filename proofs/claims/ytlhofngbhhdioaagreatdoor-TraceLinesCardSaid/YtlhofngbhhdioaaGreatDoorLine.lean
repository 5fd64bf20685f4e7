/- Line: part of the proof (own work of this claim). -/
import Derived.Test.YtlhofngbhhdioaaGreatDoorQuote
import Derived.Test.YtlhofngbhhdioaaGreatDoorBuilder
set_option linter.unusedVariables false
set_option linter.unusedSimpArgs false
set_option linter.deprecated false
namespace Go.Proofs.YtlhofngbhhdioaaGreatDoor
open Go Go.RowKit PTraceLines
open Go.Proofs.YtlhofngbhhdioaaGreatDoorW.PrintWords

/-- trace.Line's bytes. -/
def lineL (l : List ByteArray) : List UInt8 := 43 :: l.flatMap (fun s => 32 :: quoteL s)

theorem lineL_take (l : List ByteArray) (i : Nat) (hi : i < l.length) : lineL (l.take (i + 1)) = lineL (l.take i) ++ 32 :: quoteL l[i] := by
  unfold lineL
  rw [List.take_succ_eq_append_getElem hi, List.flatMap_append]
  simp

theorem lineL_len (l : List ByteArray) (hs : ∀ s ∈ l, s.size ≤ 1000) : (lineL l).length ≤ 1 + 4003 * l.length := by
  unfold lineL
  induction l with
  | nil => simp
  | cons s l ih =>
    have h1 := quote_len s
    have h2 := hs s (List.mem_cons_self ..)
    have h3 : (quoteL s).length ≤ 4 * s.size + 2 := h1
    have h4 := ih fun s hs' => hs s (List.mem_cons_of_mem _ hs')
    simp only [List.length_cons, List.flatMap_cons, List.length_append] at h4 ⊢
    omega

theorem ownsRow_below {B e size n : Nat} {v : Value} {xs : List Value} {w w' : World} (h : w.ownsRow B e size v n xs) (hb : Below w.heap.size w w') : w'.ownsRow B e size v n xs := by
  obtain ⟨h1, h2⟩ := h
  refine ⟨h1, h2.imp id ?_⟩
  rintro ⟨g, cap, cur, e1, e2, e3, e4⟩
  have hlt := (Array.getElem?_eq_some_iff.1 e3).1
  exact ⟨g, cap, cur, e1, e2, by rw [hb.block g hlt]; exact e3, e4⟩

theorem isBuilder_below {T e B b : Nat} {bs : List Value} {w w' : World} (h : Lib.IsBuilder T e B b bs w) (hb : Below w.heap.size w w') : Lib.IsBuilder T e B b bs w' := by
  have key : ∀ p, Lib.BuilderAt T e B b p bs w → Lib.BuilderAt T e B b p bs w' := fun p ⟨h1, v, h2, h3, h4⟩ =>
    ⟨h1, v, by rw [hb.block b (Array.getElem?_eq_some_iff.1 h2).1]; exact h2, ownsRow_below h3 hb, h4⟩
  exact h.imp (key _) (key _)

theorem byteCells_cons_quote (s : ByteArray) : Lib.strCells ((⟨#[32]⟩ : ByteArray) ++ quoteB s) = Lib.byteCells (32 :: quoteL s) := by
  rw [Lib.strCells_eq]
  congr 1

set_option maxHeartbeats 4000000 in
set_option maxRecDepth 1000000 in
theorem line_walk (A0 : Option Addr) (c0 : Nat) (l : List ByteArray) (w : World) (hr0 : Kd.C Kd.string w A0 l.length l) (hs : ∀ s ∈ l, s.size ≤ 1000) (hl : l.length ≤ 1000)
    (m : Int) (hm : w.cell? ⟨0, 0, none⟩ = some (.int .i64 m)) (h0 : 0 < w.heap.size) :
    Calls Tryz.prog 8 #[.slice A0 l.length c0] w fun e w' => e = .returned (.string ⟨(lineL l).toArray⟩) ∧ Below w.heap.size w w' := by
  go_enter Tryz.func8, Tryz.ntmps8
  have hB0 := Lib.fresh_isBuilder 50 5 w
  go_wp2_with (go_at_call 22; refine (writeByte_walk w.heap.size w.heap.size [] 43 _ hB0 (by simp) (by simp)).mono ?_)
  rintro e W1 ⟨rfl, h1, b1⟩
  have b01 : Below w.heap.size w W1 := ((Below.refl _ w).alloc (Nat.le_refl _) _).trans b1
  go_wp2
  go_loopw [9] (fun v9 wr => ∃ i : Nat, v9 = .int .i64 (i : Int) ∧ i ≤ l.length ∧ Lib.IsBuilder 50 5 w.heap.size w.heap.size (Lib.byteCells (lineL (l.take i))) wr ∧ Below w.heap.size w wr) (fun v9 wr => l.length - (intOf v9).toNat)
  case atStart => exact ⟨0, rfl, Nat.zero_le _, .inr h1, b01⟩
  case round =>
    obtain ⟨i, rfl, hi, hI, hbw⟩ := hrel
    have hC := Kd.C_below hr0 hbw
    have hmr : wr.cell? ⟨0, 0, none⟩ = some (.int .i64 m) := by rw [below_cell hbw _ h0]; exact hm
    have h0r : 0 < wr.heap.size := Nat.lt_of_lt_of_le h0 hbw.size
    by_cases hlt : i < l.length
    · have hd : decide ((i : Int) < (l.length : Int)) = true := by simp; exact hlt
      obtain ⟨ad, rfl, hc⟩ := Kd.at_string hC (i : Int) (by omega) (by omega)
      have hg : rdOf ByteArray.empty l (i : Int) = l[i] := by simp [rdOf, hlt]
      rw [hg, Int.toNat_natCast] at hc
      have hsz := hs l[i] (List.getElem_mem hlt)
      go_wp2_with (go_at_call 24; refine (quote_walk l[i] wr hsz m hmr h0r).mono ?_)
      rintro e W2 ⟨rfl, b2⟩
      have hI2 := isBuilder_below hI b2
      have hq := quote_len l[i]
      have hb1 : 1 + (quoteB l[i]).size ≤ 9223372036854775807 := by omega
      have hlen := lineL_len (l.take i) (fun s hs' => hs s (List.mem_of_mem_take hs'))
      rw [List.length_take] at hlen
      have hw : (Lib.byteCells (lineL (l.take i))).length + ((⟨#[32]⟩ : ByteArray) ++ quoteB l[i]).size ≤ 140737488355328 := by
        rw [Lib.byteCells_length, ByteArray.size_append]
        have : (⟨#[32]⟩ : ByteArray).size = 1 := rfl
        have : Nat.min i l.length ≤ 1000 := Nat.le_trans (Nat.min_le_right _ _) hl
        have : min i l.length ≤ 1000 := this
        omega
      have hB2 : w.heap.size ≤ W2.heap.size := Nat.le_trans hbw.size b2.size
      have hwr := writeString_walk w.heap.size w.heap.size _ _ W2 hI2 hw hB2
      rw [byteCells_cons_quote, ← Lib.byteCells_append, ← lineL_take l i hlt] at hwr
      go_wp2_with (go_at_call 23; refine hwr.mono ?_)
      rintro e W3 ⟨rfl, h3, b3⟩
      go_wp2
      go_roundw
      case rel => exact ⟨i + 1, by simp, hlt, .inr h3, (hbw.trans (b2.mono hbw.size)).trans b3⟩
      case measure => simp [intOf]; omega
    · have hd : decide ((i : Int) < (l.length : Int)) = false := by simp; omega
      have hi' : i = l.length := by omega
      subst hi'
      rw [List.take_length] at hI
      go_wp2_with (go_at_call 25; refine (Tryz.Builder_String_any w.heap.size w.heap.size (lineL l) wr hI hbw.size).mono ?_)
      rintro e W2 ⟨rfl, b2⟩
      go_wp2
      go_ret
      exact ⟨rfl, hbw.trans b2⟩
end Go.Proofs.YtlhofngbhhdioaaGreatDoor
