/- Law: part of the proof (own work of this claim). -/
import Derived.Test.YtlhofngbhhdioaaGreatDoorPure
import Derived.Test.YtlhofngbhhdioaaGreatDoorV6
import Derived.Test.YtlhofngbhhdioaaGreatDoorEnv
import Derived.Test.YtlhofngbhhdioaaGreatDoorRun
set_option linter.unusedVariables false
set_option linter.unusedSimpArgs false
set_option linter.deprecated false
/- TraceLines, walked. -/
namespace Go.Proofs.YtlhofngbhhdioaaGreatDoor
open Go Go.RowKit PTraceLines
open Go.Proofs.YtlhofngbhhdioaaGreatDoorW.PrintWords

theorem rline_eq (l : List ByteArray) (hs : ∀ s ∈ l, s.size ≤ 1000) (hl : l.length ≤ 1000) : ∀ (d k i : Nat) (acc : ByteArray), i ≤ l.length → l.length - i = d → d + 1100 ≤ k → acc.size ≤ 1 + 4003 * i →
    jobshellref49_Line.l0 k acc l (l.length : Int) (i : Int) = some (acc ++ ⟨((l.drop i).flatMap (fun s => 32 :: quoteL s)).toArray⟩)
  | 0, k, i, acc, hi, hd, hk, ha => by
    obtain ⟨k, rfl⟩ : ∃ m, k = m + 1 := ⟨k - 1, by omega⟩
    have : l.drop i = [] := List.drop_eq_nil_iff.2 (by omega)
    simp only [jobshellref49_Line.l0]
    rw [if_neg (by omega), this]
    congr 1
    apply ByteArray.ext
    simp [ByteArray.data_append]
  | d + 1, k, i, acc, hi, hd, hk, ha => by
    obtain ⟨k, rfl⟩ : ∃ m, k = m + 1 := ⟨k - 1, by omega⟩
    have hlt : i < l.length := by omega
    have hsi := hs l[i] (List.getElem_mem hlt)
    have hq := quote_len l[i]
    have hone : (⟨#[32]⟩ : ByteArray).size = 1 := rfl
    have hg : rdOf ByteArray.empty l (i : Int) = l[i] := by simp [rdOf, hlt]
    have hsz : ((⟨#[32]⟩ : ByteArray) ++ quoteB l[i]).size = 1 + (quoteB l[i]).size := by rw [ByteArray.size_append, hone]
    simp only [jobshellref49_Line.l0]
    rw [if_pos (by omega), if_pos (by omega), if_pos (by omega), hg, rquote l[i] hsi k (by omega), wrap_nat i (by omega)]
    simp only [Option.bind_some]
    rw [if_pos (by omega), if_pos (by rw [hsz]; omega), rline_eq l hs hl d k (i + 1) _ (by omega) (by omega) (by omega) (by rw [ByteArray.size_append, hsz]; omega)]
    have hfl : (l.drop i).flatMap (fun s => 32 :: quoteL s) = 32 :: (quoteL l[i] ++ (l.drop (i + 1)).flatMap (fun s => 32 :: quoteL s)) := by
      rw [List.drop_eq_getElem_cons hlt]; simp only [List.flatMap_cons, List.cons_append]
    rw [hfl]
    congr 1
    apply ByteArray.ext
    simp [ByteArray.data_append, quoteB]

theorem rline (l : List ByteArray) (hs : ∀ s ∈ l, s.size ≤ 1000) (hl : l.length ≤ 1000) : jobshellref49_Line.f (l.length + 1100) l = some ⟨(lineL l).toArray⟩ := by
  unfold jobshellref49_Line.f
  have h := rline_eq l hs hl l.length (l.length + 1100) 0 ⟨#[43]⟩ (by omega) (by omega) (by omega) (by decide)
  rw [show ((0 : Nat) : Int) = 0 from rfl] at h
  rw [h]
  congr 1

theorem isTrue_some {r : Option Vai.CR} (h : isTrue r = true) : ∃ h', r = some (.ret (.b true) h') := by
  unfold isTrue at h
  split at h
  · exact ⟨_, rfl⟩
  · cases h

theorem ex_walk (w : World) : Calls Tryz.prog 7 #[] w fun e w' => e = .returned (.bool true) ∧ Below w.heap.size w w' := by
  obtain ⟨h', hr⟩ := isTrue_some Tryz.ex49
  exact Vai.call_of_run Tryz.vok (fun _ _ => rfl) hr w

set_option maxHeartbeats 4000000 in
set_option maxRecDepth 1000000 in
theorem law_walk (A0 : Option Addr) (c0 : Nat) (l : List ByteArray) (w : World) (hr0 : Kd.C Kd.string w A0 l.length l) (hc0 : l.length ≤ c0)
    (m : Int) (hm : w.cell? ⟨0, 0, none⟩ = some (.int .i64 m)) (h0 : 0 < w.heap.size) :
    Calls Tryz.prog 3 #[.slice A0 l.length c0] w fun e w' => e = .returned (.bool true) ∧ Below w.heap.size w w' := by
  go_enter Tryz.func3, Tryz.ntmps3
  by_cases hl : l.length ≤ 30
  · have hd : decide ((l.length : Int) > 30) = false := by simp; omega
    go_wp2
    go_loopw [11] (fun v11 wr => ∃ i : Nat, v11 = .int .i64 (i : Int) ∧ i ≤ l.length ∧ (∀ s ∈ l.take i, s.size ≤ 200) ∧ Below w.heap.size w wr) (fun v11 wr => l.length - (intOf v11).toNat)
    case atStart => exact ⟨0, rfl, Nat.zero_le _, by simp, Below.refl _ _⟩
    case round =>
      obtain ⟨i, rfl, hi, hsm, hbw⟩ := hrel
      have hC := Kd.C_below hr0 hbw
      by_cases hlt : i < l.length
      · have hd2 : decide ((i : Int) < (l.length : Int)) = true := by simp; exact hlt
        obtain ⟨ad, rfl, hc⟩ := Kd.at_string hC (i : Int) (by omega) (by omega)
        have hg : rdOf ByteArray.empty l (i : Int) = l[i] := by simp [rdOf, hlt]
        rw [hg, Int.toNat_natCast] at hc
        by_cases hsz : l[i].size ≤ 200
        · have hd3 : decide ((l[i].size : Int) > 200) = false := by simp; omega
          go_wp2
          go_roundw
          case rel =>
            refine ⟨i + 1, by simp, hlt, fun s h => ?_, hbw⟩
            rw [List.take_succ_eq_append_getElem hlt] at h
            rcases List.mem_append.1 h with h | h
            · exact hsm s h
            · simp only [List.mem_singleton] at h; subst h; exact hsz
          case measure => simp [intOf]; omega
        · have hd3 : decide ((l[i].size : Int) > 200) = true := by simp; omega
          go_wp2_with (go_at_call 7; refine (ex_walk wr).mono ?_)
          rintro e W1 ⟨rfl, b1⟩
          go_wp2
          go_ret
          exact ⟨rfl, hbw.trans (b1.mono hbw.size)⟩
      · have hd2 : decide ((i : Int) < (l.length : Int)) = false := by simp; omega
        have hi' : i = l.length := by omega
        subst hi'
        rw [List.take_length] at hsm
        have hs1 : ∀ s ∈ l, s.size ≤ 1000 := fun s h => Nat.le_trans (hsm s h) (by omega)
        have hmr : wr.cell? ⟨0, 0, none⟩ = some (.int .i64 m) := by rw [below_cell hbw _ h0]; exact hm
        have h0r : 0 < wr.heap.size := Nat.lt_of_lt_of_le h0 hbw.size
        go_wp2_with (go_at_call 8; refine (line_walk A0 c0 l wr hC hs1 (by omega) m hmr h0r).mono ?_)
        rintro e W1 ⟨rfl, b1⟩
        go_wp2_with (go_at_call 9; refine (jobshellref49_Line.calls _ A0 c0 l _ W1 (Kd.C_below hC b1) hc0 (rline l hs1 (by omega))).mono ?_)
        rintro e W2 ⟨rfl, ⟨n2, rfl⟩⟩
        go_wp2_with (go_at_call 7; refine (ex_walk _).mono ?_)
        rintro e W3 ⟨rfl, b3⟩
        go_wp2
        go_ret
        have hb1 : Below w.heap.size w W1 := hbw.trans (b1.mono hbw.size)
        have hb2 : Below w.heap.size w (W1.drewN n2) := below_drewN hb1 n2
        exact ⟨rfl, hb2.trans (b3.mono hb2.size)⟩
  · have hd : decide ((l.length : Int) > 30) = true := by simp; omega
    go_wp2_with (go_at_call 7; refine (ex_walk w).mono ?_)
    rintro e W1 ⟨rfl, b1⟩
    go_wp2
    go_ret
    exact ⟨rfl, b1⟩
end Go.Proofs.YtlhofngbhhdioaaGreatDoor
