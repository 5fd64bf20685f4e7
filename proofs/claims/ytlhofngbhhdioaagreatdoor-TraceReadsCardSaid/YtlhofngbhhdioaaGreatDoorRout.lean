/- Rout: part of the proof (own work of this claim). -/
import Derived.Test.YtlhofngbhhdioaaGreatDoorBuilder
import Derived.Test.YtlhofngbhhdioaaGreatDoorShelb
import Derived.Test.YtlhofngbhhdioaaGreatDoorPTraceReadsx0
set_option linter.unusedVariables false
set_option linter.unusedSimpArgs false
set_option linter.deprecated false
/- trace.Output, walked. -/
namespace Go.Proofs.YtlhofngbhhdioaaGreatDoor
open Go Go.RowKit PTraceReads
open Go.Proofs.YtlhofngbhhdioaaGreatDoorW.PrintWords Go.Proofs.YtlhofngbhhdioaaGreatDoorW.PrintLast Go.Proofs.YtlhofngbhhdioaaGreatDoorW.PrintMore

/-- trace.Output's bytes. -/
def outE (pid : Int) (e : S46) : List UInt8 := if e.f1 = 6 ∧ e.f0 = pid ∧ e.f3 = 1 then e.f4.data.toList else []
def outL (pid : Int) (l : List S46) : List UInt8 := l.flatMap (outE pid)

theorem outL_take (pid : Int) (l : List S46) (i : Nat) (hi : i < l.length) : outL pid (l.take (i + 1)) = outL pid (l.take i) ++ outE pid l[i] := by
  unfold outL
  rw [List.take_succ_eq_append_getElem hi, List.flatMap_append]
  simp

theorem outE_len (pid : Int) (e : S46) (h : e.f4.size ≤ 1000) : (outE pid e).length ≤ 1000 := by
  unfold outE
  split
  · simpa using h
  · simp

theorem outL_len (pid : Int) (l : List S46) (hs : ∀ e ∈ l, e.f4.size ≤ 1000) : (outL pid l).length ≤ 1000 * l.length := by
  unfold outL
  induction l with
  | nil => simp
  | cons s l ih =>
    have h1 := outE_len pid s (hs s (List.mem_cons_self ..))
    have h4 := ih fun s hs' => hs s (List.mem_cons_of_mem _ hs')
    simp only [List.length_cons, List.flatMap_cons, List.length_append] at h4 ⊢
    omega

theorem ownsRow_below {B e size n : Nat} {v : Value} {xs : List Value} {w w' : World} (h : w.ownsRow B e size v n xs) (hb : Below w.heap.size w w') : w'.ownsRow B e size v n xs := by
  obtain ⟨h1, h2⟩ := h
  refine ⟨h1, h2.imp id ?_⟩
  rintro ⟨g, cap, cur, e1, e2, e3, e4⟩
  have hlt := (Array.getElem?_eq_some_iff.1 e3).1
  exact ⟨g, cap, cur, e1, e2, by rw [hb.block g hlt]; exact e3, e4⟩

theorem isBuilder_below {T e B b : Nat} {bs : List Value} {w w' : World} (h : Lib.IsBuilder T e B b bs w) (hb : Below w.heap.size w w') : Lib.IsBuilder T e B b bs w' := by
  have key : ∀ p, Lib.BuilderAt T e B b p bs w → Lib.BuilderAt T e B b p bs w' := fun p ⟨h1, v, h2, h3, h4⟩ =>
    ⟨h1, v, by rw [hb.block b (Array.getElem?_eq_some_iff.1 h2).1]; exact h2, ownsRow_below h3 hb, h4⟩
  exact h.imp (key _) (key _)

theorem rd46 (l : List S46) (i : Nat) (h : i < l.length) : rd_T46 l (i : Int) = l[i] := by simp [rd_T46, h]

set_option maxHeartbeats 4000000 in
set_option maxRecDepth 1000000 in
theorem output_walk (A0 : Option Addr) (c0 : Nat) (l : List S46) (pid : Int) (w : World) (hr0 : Kd.C k46 w A0 l.length l) (hs : ∀ e ∈ l, e.f4.size ≤ 1000) (hl : l.length ≤ 1000) :
    Calls Tryz.prog 18 #[.slice A0 l.length c0, .int .i64 pid] w fun e w' => e = .returned (.string ⟨(outL pid l).toArray⟩) ∧ Below w.heap.size w w' := by
  have hu46 := Tryz.underlying46
  go_enter Tryz.func18, Tryz.ntmps18
  have hB0 := Lib.fresh_isBuilder 50 5 w
  have b00 := (Below.refl _ w).alloc (Nat.le_refl _)
  go_wp2
  go_loopw [10] (fun v10 wr => ∃ i : Nat, v10 = .int .i64 (i : Int) ∧ i ≤ l.length ∧ Lib.IsBuilder 50 5 w.heap.size w.heap.size (Lib.byteCells (outL pid (l.take i))) wr ∧ Below w.heap.size w wr) (fun v10 wr => l.length - (intOf v10).toNat)
  case atStart => exact ⟨0, rfl, Nat.zero_le _, hB0, b00 _⟩
  case round =>
    obtain ⟨i, rfl, hi, hI, hbw⟩ := hrel
    have hC := Kd.C_below hr0 hbw
    by_cases hlt : i < l.length
    · have hd : decide ((i : Int) < (l.length : Int)) = true := by simp; exact hlt
      obtain ⟨ad, rfl, hx0, hx1, hx2, hx3, hx4⟩ := at_T46 hC (i : Int) (by omega) (by omega)
      rw [rd46 l i hlt] at hx0 hx1 hx2 hx3 hx4
      rw [Int.toNat_natCast] at hx0 hx1 hx2 hx3 hx4
      have hsz := hs l[i] (List.getElem_mem hlt)
      by_cases c1 : l[i].f1 = 6
      · have c1b : (l[i].f1 == 6) = true := beq_iff_eq.mpr c1
        by_cases c2 : l[i].f0 = pid
        · have c2b : (l[i].f0 == pid) = true := beq_iff_eq.mpr c2
          by_cases c3 : l[i].f3 = 1
          · have c3b : (l[i].f3 == 1) = true := beq_iff_eq.mpr c3
            have hE : outE pid l[i] = l[i].f4.data.toList := if_pos ⟨c1, c2, c3⟩
            clear c1 c2 c3
            go_wp2_with (first | ((with_reducible refine gate_dst (N := 7) rfl ?_); refine box_event ?hg (N := 7) ?hd (cs := #[.int .i64 0, .int .i64 0, .int .i64 0, .int .i64 0, .string (⟨#[]⟩ : ByteArray)]) (t := 46) ?hr ?_; (case hd => rfl); (case hg => rfl); (case hr => first | (go_simp; done) | (go_simp; rfl)); intro gb hg w10 hbox hb; have hge : wr.heap.size ≤ gb := Nat.le_of_eq hg.symm; have cz0 : w10.cell? ⟨gb, 0, none⟩ = some (.int .i64 0) := (blk_cell hbox 0).trans rfl; have cz1 : w10.cell? ⟨gb, 1, none⟩ = some (.int .i64 0) := (blk_cell hbox 1).trans rfl; have cz2 : w10.cell? ⟨gb, 2, none⟩ = some (.int .i64 0) := (blk_cell hbox 2).trans rfl; have cz3 : w10.cell? ⟨gb, 3, none⟩ = some (.int .i64 0) := (blk_cell hbox 3).trans rfl; have cz4 : w10.cell? ⟨gb, 4, none⟩ = some (.string (⟨#[]⟩ : ByteArray)) := (blk_cell hbox 4).trans rfl; have fz0 := blk_frozen hbox 0; have fz1 := blk_frozen hbox 1; have fz2 := blk_frozen hbox 2; have fz3 := blk_frozen hbox 3; have fz4 := blk_frozen hbox 4; clear hg) | (go_at_call 23; have b5 : Below wr.heap.size wr _ := below_set (below_set (below_set (below_set (below_set hb hge (j := 0) (v := .int .i64 l[i].f0)) hge (j := 1) (v := .int .i64 l[i].f1)) hge (j := 2) (v := .int .i64 l[i].f2)) hge (j := 3) (v := .int .i64 l[i].f3)) hge (j := 4) (v := .string l[i].f4); refine (writeString_walk w.heap.size w.heap.size _ l[i].f4 _ (isBuilder_below hI b5) ?hw (Nat.le_trans hbw.size b5.size)).mono ?_))
            · rw [Lib.byteCells_length]; have := outL_len pid (l.take i) (fun e he => hs e (List.mem_of_mem_take he)); rw [List.length_take] at this; omega
            rintro e W3 ⟨rfl, h3, b3⟩
            rw [Lib.strCells_eq, ← Lib.byteCells_append, ← hE, ← outL_take pid l i hlt] at h3
            go_wp2
            go_roundw
            case rel => exact ⟨i + 1, by simp, hlt, .inr h3, (hbw.trans (b5.mono hbw.size)).trans b3⟩
            case measure => simp [intOf]; omega
          · have c3b : (l[i].f3 == 1) = false := beq_eq_false_iff_ne.mpr c3
            have hE : outE pid l[i] = [] := if_neg fun h => c3 h.2.2
            clear c1 c2 c3
            go_wp2_with (first | ((with_reducible refine gate_dst (N := 7) rfl ?_); refine box_event ?hg (N := 7) ?hd (cs := #[.int .i64 0, .int .i64 0, .int .i64 0, .int .i64 0, .string (⟨#[]⟩ : ByteArray)]) (t := 46) ?hr ?_; (case hd => rfl); (case hg => rfl); (case hr => first | (go_simp; done) | (go_simp; rfl)); intro gb hg w10 hbox hb; have hge : wr.heap.size ≤ gb := Nat.le_of_eq hg.symm; have cz0 : w10.cell? ⟨gb, 0, none⟩ = some (.int .i64 0) := (blk_cell hbox 0).trans rfl; have cz1 : w10.cell? ⟨gb, 1, none⟩ = some (.int .i64 0) := (blk_cell hbox 1).trans rfl; have cz2 : w10.cell? ⟨gb, 2, none⟩ = some (.int .i64 0) := (blk_cell hbox 2).trans rfl; have cz3 : w10.cell? ⟨gb, 3, none⟩ = some (.int .i64 0) := (blk_cell hbox 3).trans rfl; have cz4 : w10.cell? ⟨gb, 4, none⟩ = some (.string (⟨#[]⟩ : ByteArray)) := (blk_cell hbox 4).trans rfl; have fz0 := blk_frozen hbox 0; have fz1 := blk_frozen hbox 1; have fz2 := blk_frozen hbox 2; have fz3 := blk_frozen hbox 3; have fz4 := blk_frozen hbox 4; clear hg))
            go_roundw
            case rel =>
              have b5 : Below wr.heap.size wr _ := below_set (below_set (below_set (below_set (below_set hb hge (j := 0) (v := .int .i64 l[i].f0)) hge (j := 1) (v := .int .i64 l[i].f1)) hge (j := 2) (v := .int .i64 l[i].f2)) hge (j := 3) (v := .int .i64 l[i].f3)) hge (j := 4) (v := .string l[i].f4)
              have hI2 := isBuilder_below hI b5
              refine ⟨i + 1, by simp, hlt, ?_, hbw.trans (b5.mono hbw.size)⟩
              rw [outL_take pid l i hlt, hE, List.append_nil]
              exact hI2
            case measure => simp [intOf]; omega
        · have c2b : (l[i].f0 == pid) = false := beq_eq_false_iff_ne.mpr c2
          have hE : outE pid l[i] = [] := if_neg fun h => c2 h.2.1
          clear c1 c2
          go_wp2_with (first | ((with_reducible refine gate_dst (N := 7) rfl ?_); refine box_event ?hg (N := 7) ?hd (cs := #[.int .i64 0, .int .i64 0, .int .i64 0, .int .i64 0, .string (⟨#[]⟩ : ByteArray)]) (t := 46) ?hr ?_; (case hd => rfl); (case hg => rfl); (case hr => first | (go_simp; done) | (go_simp; rfl)); intro gb hg w10 hbox hb; have hge : wr.heap.size ≤ gb := Nat.le_of_eq hg.symm; have cz0 : w10.cell? ⟨gb, 0, none⟩ = some (.int .i64 0) := (blk_cell hbox 0).trans rfl; have cz1 : w10.cell? ⟨gb, 1, none⟩ = some (.int .i64 0) := (blk_cell hbox 1).trans rfl; have cz2 : w10.cell? ⟨gb, 2, none⟩ = some (.int .i64 0) := (blk_cell hbox 2).trans rfl; have cz3 : w10.cell? ⟨gb, 3, none⟩ = some (.int .i64 0) := (blk_cell hbox 3).trans rfl; have cz4 : w10.cell? ⟨gb, 4, none⟩ = some (.string (⟨#[]⟩ : ByteArray)) := (blk_cell hbox 4).trans rfl; have fz0 := blk_frozen hbox 0; have fz1 := blk_frozen hbox 1; have fz2 := blk_frozen hbox 2; have fz3 := blk_frozen hbox 3; have fz4 := blk_frozen hbox 4; clear hg))
          go_roundw
          case rel =>
            have b5 : Below wr.heap.size wr _ := below_set (below_set (below_set (below_set (below_set hb hge (j := 0) (v := .int .i64 l[i].f0)) hge (j := 1) (v := .int .i64 l[i].f1)) hge (j := 2) (v := .int .i64 l[i].f2)) hge (j := 3) (v := .int .i64 l[i].f3)) hge (j := 4) (v := .string l[i].f4)
            have hI2 := isBuilder_below hI b5
            refine ⟨i + 1, by simp, hlt, ?_, hbw.trans (b5.mono hbw.size)⟩
            rw [outL_take pid l i hlt, hE, List.append_nil]
            exact hI2
          case measure => simp [intOf]; omega
      · have c1b : (l[i].f1 == 6) = false := beq_eq_false_iff_ne.mpr c1
        have hE : outE pid l[i] = [] := if_neg fun h => c1 h.1
        clear c1
        go_wp2_with (first | ((with_reducible refine gate_dst (N := 7) rfl ?_); refine box_event ?hg (N := 7) ?hd (cs := #[.int .i64 0, .int .i64 0, .int .i64 0, .int .i64 0, .string (⟨#[]⟩ : ByteArray)]) (t := 46) ?hr ?_; (case hd => rfl); (case hg => rfl); (case hr => first | (go_simp; done) | (go_simp; rfl)); intro gb hg w10 hbox hb; have hge : wr.heap.size ≤ gb := Nat.le_of_eq hg.symm; have cz0 : w10.cell? ⟨gb, 0, none⟩ = some (.int .i64 0) := (blk_cell hbox 0).trans rfl; have cz1 : w10.cell? ⟨gb, 1, none⟩ = some (.int .i64 0) := (blk_cell hbox 1).trans rfl; have cz2 : w10.cell? ⟨gb, 2, none⟩ = some (.int .i64 0) := (blk_cell hbox 2).trans rfl; have cz3 : w10.cell? ⟨gb, 3, none⟩ = some (.int .i64 0) := (blk_cell hbox 3).trans rfl; have cz4 : w10.cell? ⟨gb, 4, none⟩ = some (.string (⟨#[]⟩ : ByteArray)) := (blk_cell hbox 4).trans rfl; have fz0 := blk_frozen hbox 0; have fz1 := blk_frozen hbox 1; have fz2 := blk_frozen hbox 2; have fz3 := blk_frozen hbox 3; have fz4 := blk_frozen hbox 4; clear hg))
        go_roundw
        case rel =>
          have b5 : Below wr.heap.size wr _ := below_set (below_set (below_set (below_set (below_set hb hge (j := 0) (v := .int .i64 l[i].f0)) hge (j := 1) (v := .int .i64 l[i].f1)) hge (j := 2) (v := .int .i64 l[i].f2)) hge (j := 3) (v := .int .i64 l[i].f3)) hge (j := 4) (v := .string l[i].f4)
          have hI2 := isBuilder_below hI b5
          refine ⟨i + 1, by simp, hlt, ?_, hbw.trans (b5.mono hbw.size)⟩
          rw [outL_take pid l i hlt, hE, List.append_nil]
          exact hI2
        case measure => simp [intOf]; omega
    · have hd : decide ((i : Int) < (l.length : Int)) = false := by simp; omega
      have hi' : i = l.length := by omega
      subst hi'
      rw [List.take_length] at hI
      go_wp2_with (go_at_call 25; refine (Tryz.Builder_String_any w.heap.size w.heap.size (outL pid l) wr hI hbw.size).mono ?_)
      rintro e W2 ⟨rfl, b2⟩
      go_wp2
      go_ret
      exact ⟨rfl, hbw.trans b2⟩
end Go.Proofs.YtlhofngbhhdioaaGreatDoor
