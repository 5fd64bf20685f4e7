/- Rlaw: part of the proof (own work of this claim). -/
import Derived.Test.YtlhofngbhhdioaaGreatDoorRpure
import Derived.Test.YtlhofngbhhdioaaGreatDoorPTraceReadsx13
import Derived.Test.YtlhofngbhhdioaaGreatDoorV6
import Derived.Test.YtlhofngbhhdioaaGreatDoorEnv
import Derived.Test.YtlhofngbhhdioaaGreatDoorRun
set_option linter.unusedVariables false
set_option linter.unusedSimpArgs false
set_option linter.deprecated false
/- TraceReads, walked. -/
namespace Go.Proofs.YtlhofngbhhdioaaGreatDoor
open Go Go.RowKit PTraceReads
open Go.Proofs.YtlhofngbhhdioaaGreatDoorW.PrintWords

theorem isTrue_some {r : Option Vai.CR} (h : isTrue r = true) : ∃ h', r = some (.ret (.b true) h') := by
  unfold isTrue at h
  split at h
  · exact ⟨_, rfl⟩
  · cases h

theorem ex_walk (w : World) : Calls Tryz.prog 7 #[] w fun e w' => e = .returned (.bool true) ∧ Below w.heap.size w w' := by
  obtain ⟨h', hr⟩ := isTrue_some Tryz.ex49
  exact Vai.call_of_run Tryz.vok (fun _ _ => rfl) hr w

set_option maxHeartbeats 4000000 in
set_option maxRecDepth 1000000 in
theorem reads_walk (A0 : Option Addr) (c0 : Nat) (l : List S46) (pid : Int) (w : World) (hr0 : Kd.C k46 w A0 l.length l) (hc0 : l.length ≤ c0) :
    Calls Tryz.prog 6 #[.slice A0 l.length c0, .int .i64 pid] w fun e w' => e = .returned (.bool true) ∧ Below w.heap.size w w' := by
  obtain ⟨b, hf, hfew⟩ := few_f l
  go_enter Tryz.func6, Tryz.ntmps6
  go_wp2_with (go_at_call 10; refine (jobshelllaw49_few.calls _ A0 c0 l _ w hr0 hc0 hf).mono ?_)
  rintro e W1 ⟨rfl, b1⟩
  cases b with
  | false =>
    go_wp2_with (go_at_call 7; refine (ex_walk W1).mono ?_)
    rintro e W2 ⟨rfl, b2⟩
    go_wp2
    go_ret
    exact ⟨rfl, b1.trans (b2.mono b1.size)⟩
  | true =>
    obtain ⟨hl, hs⟩ := hfew rfl
    obtain ⟨rc, hc1, hc2, hrc⟩ := com_f l hl
    obtain ⟨rk, hk1, hk2⟩ := check_f l hl
    have ho := out_f pid l hl hs
    have C1 := Kd.C_below hr0 b1
    go_wp2_with (go_at_call 16; refine (trace_Commands.calls _ A0 c0 l _ W1 C1 hc0 hc1).mono ?_)
    rintro e W2 ⟨v1, rfl, r1, b2⟩
    have B2 := b1.trans (b2.mono b1.size)
    have C2 := Kd.C_below hr0 B2
    go_wp2_with (go_at_call 17; refine (jobshellref49_Commands.calls _ A0 c0 l _ W2 C2 hc0 hc2).mono ?_)
    rintro e W3 ⟨v2, rfl, r2, b3⟩
    have B3 := B2.trans (b3.mono B2.size)
    have C3 := Kd.C_below hr0 B3
    have r1' := Kd.R_below r1 b3
    obtain ⟨A1, c1, e1⟩ := Kd.R_slice r1'
    obtain ⟨A2, c2, e2⟩ := Kd.R_slice r2
    subst e1 e2
    go_wp2_with (go_at_call 15; refine (jobshelllaw49_texts.calls _ A1 c1 rc A2 c2 rc _ W3 (Kd.R_reads' r1').2.2 (Kd.R_reads' r1').2.1 (Kd.R_reads' r2).2.2 (Kd.R_reads' r2).2.1 (texts_f rc hrc)).mono ?_)
    rintro e W4 ⟨rfl, ⟨n4, rfl⟩⟩
    have B4 := below_drewN B3 n4
    have C4 := Kd.C_below hr0 B4
    go_wp2_with (go_at_call 18; refine (output_walk A0 c0 l pid _ C4 (fun e he => Nat.le_trans (hs e he) (by omega)) (by omega)).mono ?_)
    rintro e W5 ⟨rfl, b5⟩
    have B5 := B4.trans (b5.mono B4.size)
    have C5 := Kd.C_below hr0 B5
    go_wp2_with (go_at_call 19; refine (jobshellref49_Output.calls _ A0 c0 l pid _ _ C5 hc0 ho).mono ?_)
    rintro e W6 ⟨rfl, b6⟩
    have B6 := B5.trans (b6.mono B5.size)
    have C6 := Kd.C_below hr0 B6
    go_wp2_with (go_at_call 20; refine (trace_Check.calls _ A0 c0 l _ _ C6 hc0 hk1).mono ?_)
    rintro e W7 ⟨rfl, b7⟩
    have B7 := B6.trans (b7.mono B6.size)
    have C7 := Kd.C_below hr0 B7
    go_wp2_with (go_at_call 21; refine (jobshellref49_Check.calls _ A0 c0 l _ _ C7 hc0 hk2).mono ?_)
    rintro e W8 ⟨rfl, b8⟩
    have B8 := B7.trans (b8.mono B7.size)
    go_wp2_with (go_at_call 7; refine (ex_walk _).mono ?_)
    rintro e W9 ⟨rfl, b9⟩
    go_wp2
    go_ret
    exact ⟨rfl, B8.trans (b9.mono B8.size)⟩
end Go.Proofs.YtlhofngbhhdioaaGreatDoor
