-- PRINTED BY print.sh 35421559b90ae4d0a3588c463048766b98c2df88dd9212a6774a882060cdf62d: not written by this session
import Derived.Test.YtlhofngbhhdioaaGreatDoorPTraceReadsx0
import Derived.Test.YtlhofngbhhdioaaGreatDoorPTraceReadsx13
namespace Go.Proofs.YtlhofngbhhdioaaGreatDoor.PTraceReads
open Go.RowKit Go.Proofs.YtlhofngbhhdioaaGreatDoorW.PrintWords Go.Proofs.YtlhofngbhhdioaaGreatDoorW.PrintLast Go.Proofs.YtlhofngbhhdioaaGreatDoorW.PrintMore
attribute [local go_sem] max2_int min2_int max_two min_two max_three min_three max_four min_four   -- for this text's walks alone
set_option linter.unusedVariables false
set_option linter.unusedSimpArgs false

/-! ### jobshellref49_Check: function 21 -/
mutual
def jobshellref49_Check.l0 : Nat → List Int → List Int → List (S46) → Int → Int → Option (Int)
  | 0, _, _, _, _, _ => none
  | k + 1, x3, x4, x10, x11, x12 => if x12 < x11 then (if 0 ≤ x12 then (if x12 < (x10.length : Int) then (if ((rd_T46 x10 x12).f1) < 1 then (jobshellref49_Check.j1 k x3 x4 x10 x11 x12 true ((rd_T46 x10 x12).f0) ((rd_T46 x10 x12).f1) ((rd_T46 x10 x12).f2) ((rd_T46 x10 x12).f3) ((rd_T46 x10 x12).f4)) else (jobshellref49_Check.j1 k x3 x4 x10 x11 x12 (decide (((rd_T46 x10 x12).f1) > 6)) ((rd_T46 x10 x12).f0) ((rd_T46 x10 x12).f1) ((rd_T46 x10 x12).f2) ((rd_T46 x10 x12).f3) ((rd_T46 x10 x12).f4))) else (none)) else (none)) else (some 0)
def jobshellref49_Check.j1 : Nat → List Int → List Int → List (S46) → Int → Int → Bool → Int → Int → Int → Int → ByteArray → Option (Int)
  | 0, _, _, _, _, _, _, _, _, _, _, _ => none
  | k + 1, x3, x4, x10, x11, x12, x23, x400000, x400001, x400002, x400003, x400004 => if x23 = true then (some 1) else ((jobshellref49_has.f k x3 x400000).bind fun t400 => (if t400 = true then ((jobshellref49_has.f k x4 x400000).bind fun t401 => (jobshellref49_Check.j2 k x3 x4 x10 x11 x12 t401 x400000 x400001 x400002 x400003 x400004)) else (jobshellref49_Check.j2 k x3 x4 x10 x11 x12 true x400000 x400001 x400002 x400003 x400004)))
def jobshellref49_Check.j2 : Nat → List Int → List Int → List (S46) → Int → Int → Bool → Int → Int → Int → Int → ByteArray → Option (Int)
  | 0, _, _, _, _, _, _, _, _, _, _, _ => none
  | k + 1, x3, x4, x10, x11, x12, x34, x400000, x400001, x400002, x400003, x400004 => if x34 = true then (some 21) else (if x400001 = 3 then ((jobshellref49_has.f k x3 x400003).bind fun t402 => (if t402 = true then (some 9) else (if x3.length < 17592186044416 then ((some (x3 ++ [x400003] : List Int)).bind fun y403 => (if x400001 = 4 then (if x4.length < 17592186044416 then (jobshellref49_Check.l0 k y403 (x4 ++ [x400000]) x10 x11 (wrap64 (x12 + 1))) else (none)) else (jobshellref49_Check.l0 k y403 x4 x10 x11 (wrap64 (x12 + 1))))) else (none)))) else (if x400001 = 4 then (if x4.length < 17592186044416 then (jobshellref49_Check.l0 k x3 (x4 ++ [x400000]) x10 x11 (wrap64 (x12 + 1))) else (none)) else (jobshellref49_Check.l0 k x3 x4 x10 x11 (wrap64 (x12 + 1)))))
end
def jobshellref49_Check.f (k : Nat) (l0 : List (S46)) : Option (Int) := if ([] : List Int).length < 17592186044416 then (jobshellref49_Check.l0 k (([] : List Int) ++ [2]) ([] : List Int) l0 (l0.length : Int) 0) else (none)
theorem jobshellref49_Check.mono_l : ∀ k, (∀ y0 y1 y2 y3 y4, LeO (jobshellref49_Check.l0 k y0 y1 y2 y3 y4) (jobshellref49_Check.l0 (k + 1) y0 y1 y2 y3 y4)) ∧ (∀ y0 y1 y2 y3 y4 y5 y6 y7 y8 y9 y10, LeO (jobshellref49_Check.j1 k y0 y1 y2 y3 y4 y5 y6 y7 y8 y9 y10) (jobshellref49_Check.j1 (k + 1) y0 y1 y2 y3 y4 y5 y6 y7 y8 y9 y10)) ∧ (∀ y0 y1 y2 y3 y4 y5 y6 y7 y8 y9 y10, LeO (jobshellref49_Check.j2 k y0 y1 y2 y3 y4 y5 y6 y7 y8 y9 y10) (jobshellref49_Check.j2 (k + 1) y0 y1 y2 y3 y4 y5 y6 y7 y8 y9 y10))
  | 0 => ⟨fun _ _ _ _ _ r h => by simp [jobshellref49_Check.l0] at h, fun _ _ _ _ _ _ _ _ _ _ _ r h => by simp [jobshellref49_Check.j1] at h, fun _ _ _ _ _ _ _ _ _ _ _ r h => by simp [jobshellref49_Check.j2] at h⟩
  | k + 1 => by
    obtain ⟨ih0, ih1, ih2⟩ := jobshellref49_Check.mono_l k
    refine ⟨?_, ?_, ?_⟩
    · intro y0 y1 y2 y3 y4
      unfold jobshellref49_Check.l0
      repeat' first
      | (with_reducible exact ih0 _ _ _ _ _)
      | (with_reducible exact ih1 _ _ _ _ _ _ _ _ _ _ _)
      | (with_reducible exact ih2 _ _ _ _ _ _ _ _ _ _ _)
      | (with_reducible exact jobshellref49_has.mono _ _ _)
      | (with_reducible exact LeO.refl _)
      | (with_reducible exact LeO.none _)
      | (with_reducible refine LeO.ite ?_ ?_)
      | (with_reducible refine LeO.bind ?_ (fun _ => ?_))
      | exact ih0 _ _ _ _ _
      | exact ih1 _ _ _ _ _ _ _ _ _ _ _
      | exact ih2 _ _ _ _ _ _ _ _ _ _ _
      | exact jobshellref49_has.mono _ _ _
      | exact LeO.none _
      | refine LeO.ite ?_ ?_
      | refine LeO.bind ?_ (fun _ => ?_)
    · intro y0 y1 y2 y3 y4 y5 y6 y7 y8 y9 y10
      unfold jobshellref49_Check.j1
      repeat' first
      | (with_reducible exact ih0 _ _ _ _ _)
      | (with_reducible exact ih1 _ _ _ _ _ _ _ _ _ _ _)
      | (with_reducible exact ih2 _ _ _ _ _ _ _ _ _ _ _)
      | (with_reducible exact jobshellref49_has.mono _ _ _)
      | (with_reducible exact LeO.refl _)
      | (with_reducible exact LeO.none _)
      | (with_reducible refine LeO.ite ?_ ?_)
      | (with_reducible refine LeO.bind ?_ (fun _ => ?_))
      | exact ih0 _ _ _ _ _
      | exact ih1 _ _ _ _ _ _ _ _ _ _ _
      | exact ih2 _ _ _ _ _ _ _ _ _ _ _
      | exact jobshellref49_has.mono _ _ _
      | exact LeO.none _
      | refine LeO.ite ?_ ?_
      | refine LeO.bind ?_ (fun _ => ?_)
    · intro y0 y1 y2 y3 y4 y5 y6 y7 y8 y9 y10
      unfold jobshellref49_Check.j2
      repeat' first
      | (with_reducible exact ih0 _ _ _ _ _)
      | (with_reducible exact ih1 _ _ _ _ _ _ _ _ _ _ _)
      | (with_reducible exact ih2 _ _ _ _ _ _ _ _ _ _ _)
      | (with_reducible exact jobshellref49_has.mono _ _ _)
      | (with_reducible exact LeO.refl _)
      | (with_reducible exact LeO.none _)
      | (with_reducible refine LeO.ite ?_ ?_)
      | (with_reducible refine LeO.bind ?_ (fun _ => ?_))
      | exact ih0 _ _ _ _ _
      | exact ih1 _ _ _ _ _ _ _ _ _ _ _
      | exact ih2 _ _ _ _ _ _ _ _ _ _ _
      | exact jobshellref49_has.mono _ _ _
      | exact LeO.none _
      | refine LeO.ite ?_ ?_
      | refine LeO.bind ?_ (fun _ => ?_)
theorem jobshellref49_Check.mono : ∀ a0 k, LeO (jobshellref49_Check.f k a0) (jobshellref49_Check.f (k + 1) a0) := by
  intro a0 k
  obtain ⟨ih0, ih1, ih2⟩ := jobshellref49_Check.mono_l k
  unfold jobshellref49_Check.f
  repeat' first
      | (with_reducible exact ih0 _ _ _ _ _)
      | (with_reducible exact ih1 _ _ _ _ _ _ _ _ _ _ _)
      | (with_reducible exact ih2 _ _ _ _ _ _ _ _ _ _ _)
      | (with_reducible exact jobshellref49_has.mono _ _ _)
      | (with_reducible exact LeO.refl _)
      | (with_reducible exact LeO.none _)
      | (with_reducible refine LeO.ite ?_ ?_)
      | (with_reducible refine LeO.bind ?_ (fun _ => ?_))
      | exact ih0 _ _ _ _ _
      | exact ih1 _ _ _ _ _ _ _ _ _ _ _
      | exact ih2 _ _ _ _ _ _ _ _ _ _ _
      | exact jobshellref49_has.mono _ _ _
      | exact LeO.none _
      | refine LeO.ite ?_ ?_
      | refine LeO.bind ?_ (fun _ => ?_)
set_option maxHeartbeats 8000000 in
set_option maxRecDepth 100000 in
theorem jobshellref49_Check.calls (k : Nat) (A0 : Option Addr) (c0 : Nat) (l0 : List (S46)) (r : Int) (w : World) (hr0 : Kd.C k46 w A0 l0.length l0) (hc0 : l0.length ≤ c0) (h : jobshellref49_Check.f k l0 = some r) :
    Calls Tryz.prog 21 #[.slice A0 l0.length c0] w fun e w' => e = .returned (.int .i64 r) ∧ Below w.heap.size w w' := by
  have hu46 := Tryz.underlying46
  have HR0 := Aside0.mk hr0
  have HC0 := Aside0.mk hc0
  clear hr0 hc0
  have HB := Aside0.mk (Below.refl w.heap.size w)
  have H : (if ([] : List Int).length < 17592186044416 then (jobshellref49_Check.l0 k (([] : List Int) ++ [2]) ([] : List Int) l0 (l0.length : Int) 0) else (none)) = some r := h
  clear h
  by_cases c2 : ([] : List Int).length < 17592186044416
  · rw [if_pos c2] at H
    have LMc2 := Aside0.mk c2
    clear c2
    obtain ⟨y395, hy395⟩ : ∃ y_ : List Int, y_ = (([] : List Int) ++ [2]) := ⟨_, rfl⟩
    replace H : (jobshellref49_Check.l0 k y395 ([] : List Int) l0 (l0.length : Int) 0) = some r := by first | (rw [hy395]; with_reducible exact H) | (have H2_ := (Option.bind_some _ _).symm.trans H; rw [hy395]; with_reducible exact H2_) | (have H2_ := (Option.bind_some _ _).symm.trans H; with_reducible exact H2_) | with_reducible exact H | (rw [hy395]; exact H) | exact H
    have Ny395 := Aside0.mk hy395
    clear hy395
    have H' := Aside0.mk H
    clear H
    go_enter Tryz.func21, Tryz.ntmps21
    go_wp2_with (first | ((with_reducible refine gate_builtin (b := .append) (xs := #[.tmp 7, .tmp 8]) rfl ?_); at_builtin; refine Kd.R_append (Kd.int .i64) (w0 := w) w.heap.size rfl (.tmp 7) (.tmp 8) 28 3 (.int .i64 0) 8 rfl Tryz.underlying28 info3 rfl (by decide) (by omega) (.slice none 0 0) ([] : List Int) 2 [.int .i64 2] (fun _ => True) (fun _ => False) rfl rfl ?aP (fun _ hk => hk.elim) ?aF ?aO ?aB ?aS ?aL ?_; (case aP => exact rfl); (case aB => exact (by repeat (first | (with_reducible first | exact HB.out | apply below_alloc | apply pw_below_drewN | apply below_drew1) | exact HB.out))); (case aF => exact (fun _ _ => trivial)); (case aO => exact ((Kd.R_nil _ _ _ _ (fun _ => True)))); (case aS => exact (below_size (by repeat (first | (with_reducible first | exact HB.out | apply below_alloc | apply pw_below_drewN | apply below_drew1) | exact HB.out)))); (case aL => have := LMc2.out; omega); intro v396 w3 ho hb hg hat; rw [← Ny395.out] at ho; have n0_ := Aside0.mk (hb); have n1_ := Aside0.mk (ho); clear HB; have HB := n0_; have HO397 := n1_; clear n0_ n1_; clear ho hb hg hat))
    go_loopg [3, 4, 12] k (fun kq v3 v4 v12 w' => ∃ (x3_1 : List Int) (x4_1 : List Int) (x12_1 : Int), v12 = .int .i64 x12_1 ∧ Aside0 (jobshellref49_Check.l0 kq x3_1 x4_1 l0 (l0.length : Int) x12_1 = some r) ∧ Aside0 (kq ≤ k) ∧ Aside0 (Kd.R (Kd.int .i64) 3 w' w.heap.size (fun k_ => some k_ ≠ (v4 : Value).ownBlock) v3 x3_1) ∧ Aside0 (Kd.R (Kd.int .i64) 3 w' w.heap.size (fun k_ => some k_ ≠ (v3 : Value).ownBlock) v4 x4_1) ∧ Aside0 (Below w.heap.size w w'))
    case atStart => exact ⟨(y395), (([] : List Int)), (0), (by first | rfl | (simp; done) | (simp [*]; done)), H', ⟨Nat.le_refl _⟩, ⟨by (with_reducible repeat (first | apply Kd.R_alloc | apply Kd.R_drewN | apply Kd.R_drew)); exact Kd.R_mono HO397.out (fun _ hk => (by simp [Value.ownBlock]))⟩, ⟨by first | exact Kd.R_nil _ _ _ _ _ | exact Kd.N_nil _ _ _ _ _ | exact Kd.V_nil _ _ _ _ _ | exact Kd.Q_nil _ _ _ _ _ | exact Kd.S_nil _ _ _ _ _⟩, ⟨by repeat (first | (with_reducible first | exact HB.out | apply below_alloc | apply pw_below_drewN | apply below_drew1) | exact HB.out)⟩⟩
    case round =>
      clear H'
      try clear c2
      try clear p2
      obtain ⟨x3_1, x4_1, x12_1, rfl, HA, HK1, HO_3, HO_4, HB⟩ := hrel
      cases gk with
      | zero => exact absurd HA.out (by simp [jobshellref49_Check.l0])
      | succ k1 =>
        have H := HA.out
        clear HA
        simp only [jobshellref49_Check.l0] at H
        by_cases c4 : x12_1 < (l0.length : Int)
        · rw [if_pos c4] at H
          have c4b0 : decide (x12_1 < (l0.length : Int)) = true := decide_eq_true c4
          clear c4
          by_cases c5 : 0 ≤ x12_1
          · rw [if_pos c5] at H
            have c5b0 : decide (0 ≤ x12_1) = true := decide_eq_true c5
            clear c5
            by_cases c6 : x12_1 < (l0.length : Int)
            · rw [if_pos c6] at H
              have c6b0 : decide (x12_1 < (l0.length : Int)) = true := decide_eq_true c6
              clear c6
              have HC7 := Aside0.mk H
              clear H
              have p398 : 0 ≤ (x12_1 : Int) := of_decide_eq_true (by first | (with_reducible assumption) | assumption)
              have q398 : x12_1 < (l0.length : Int) := of_decide_eq_true (by first | (with_reducible assumption) | assumption)
              obtain ⟨ad398, e398, hx398_0, hx398_1, hx398_2, hx398_3, hx398_4⟩ := at_T46 HR0.out x12_1 p398 q398
              cases e398
              replace hx398_0 := (HB.out.cell (World.block_lt_of_cell? w _ hx398_0)).trans hx398_0
              replace hx398_1 := (HB.out.cell (World.block_lt_of_cell? w _ hx398_1)).trans hx398_1
              replace hx398_2 := (HB.out.cell (World.block_lt_of_cell? w _ hx398_2)).trans hx398_2
              replace hx398_3 := (HB.out.cell (World.block_lt_of_cell? w _ hx398_3)).trans hx398_3
              replace hx398_4 := (HB.out.cell (World.block_lt_of_cell? w _ hx398_4)).trans hx398_4
              replace p398 := eq_true p398
              replace q398 := eq_true q398
              go_upto_region 6 with (first | ((with_reducible refine gate_dst (N := 6) rfl ?_); refine box_event ?hg (N := 6) ?hd (cs := #[.int .i64 0, .int .i64 0, .int .i64 0, .int .i64 0, .string (⟨#[]⟩ : ByteArray)]) (t := 46) ?hr ?_; (case hd => rfl); (case hg => rfl); (case hr => first | (go_simp; done) | (go_simp; rfl)); intro gb399 hg w8 hbox hb; have n0_ := Aside0.mk (Kd.R_below (by (with_reducible repeat (first | apply Kd.R_alloc | apply Kd.R_drewN | apply Kd.R_drew)); exact HO_3.out) hb); have n1_ := Aside0.mk (Kd.R_below (by (with_reducible repeat (first | apply Kd.R_alloc | apply Kd.R_drewN | apply Kd.R_drew)); exact HO_4.out) hb); have n2_ := Aside0.mk (below_step (by repeat (first | (with_reducible first | exact HB.out | apply below_alloc | apply pw_below_drewN | apply below_drew1) | exact HB.out)) hb); have n3_ := Aside0.mk (hbox); have n4_ := Aside0.mk ((by rw [hg]; exact (below_size (by repeat (first | (with_reducible first | exact HB.out | apply below_alloc | apply pw_below_drewN | apply below_drew1) | exact HB.out))) : w.heap.size ≤ gb399)); have n5_ := Aside0.mk ((by rw [hg]; exact (below_size (by repeat (first | (with_reducible first | exact HB.out | apply below_alloc | apply pw_below_drewN | apply below_drew1) | exact HB.out))) : w.heap.size ≤ gb399)); clear HO_3; clear HO_4; clear HB; have HO_3 := n0_; have HO_4 := n1_; have HB := n2_; have BK399 := n3_; have GW399 := n4_; have GE399 := n5_; clear n0_ n1_ n2_ n3_ n4_ n5_; clear hb hbox hg; have hcz9_0 : w8.cell? ⟨gb399, 0, none⟩ = some (.int .i64 0) := (blk_cell BK399.out 0).trans rfl; have hcz9_1 : w8.cell? ⟨gb399, 1, none⟩ = some (.int .i64 0) := (blk_cell BK399.out 1).trans rfl; have hcz9_2 : w8.cell? ⟨gb399, 2, none⟩ = some (.int .i64 0) := (blk_cell BK399.out 2).trans rfl; have hcz9_3 : w8.cell? ⟨gb399, 3, none⟩ = some (.int .i64 0) := (blk_cell BK399.out 3).trans rfl; have hcz9_4 : w8.cell? ⟨gb399, 4, none⟩ = some (.string (⟨#[]⟩ : ByteArray)) := (blk_cell BK399.out 4).trans rfl; have hfz9_0 := blk_frozen BK399.out 0; have hfz9_1 := blk_frozen BK399.out 1; have hfz9_2 := blk_frozen BK399.out 2; have hfz9_3 := blk_frozen BK399.out 3; have hfz9_4 := blk_frozen BK399.out 4))
              (try simp only [Act.put, List.setIfInBounds_toArray, List.set_cons_zero, List.set_cons_succ])
              go_cut [23] (fun v23 wc => ∃ (kq : Nat) (x23_6 : Bool), v23 = .bool x23_6 ∧ Aside0 (jobshellref49_Check.j1 kq x3_1 x4_1 l0 (l0.length : Int) x12_1 x23_6 ((rd_T46 l0 x12_1).f0) ((rd_T46 l0 x12_1).f1) ((rd_T46 l0 x12_1).f2) ((rd_T46 l0 x12_1).f3) ((rd_T46 l0 x12_1).f4) = some r) ∧ Aside0 (kq ≤ k1) ∧ Aside0 (Kd.R (Kd.int .i64) 3 wc w.heap.size (fun k_ => some k_ ≠ (u4 : Value).ownBlock) u3 x3_1) ∧ Aside0 (Kd.R (Kd.int .i64) 3 wc w.heap.size (fun k_ => some k_ ≠ (u3 : Value).ownBlock) u4 x4_1) ∧ Aside0 (wc.heap[gb399]? = some (.cells #[.int .i64 ((rd_T46 l0 x12_1).f0), .int .i64 ((rd_T46 l0 x12_1).f1), .int .i64 ((rd_T46 l0 x12_1).f2), .int .i64 ((rd_T46 l0 x12_1).f3), .string ((rd_T46 l0 x12_1).f4)] 46 (0, 0))) ∧ Aside0 (Below w.heap.size w wc))
              case first =>
                have H := HC7.out
                clear HC7
                by_cases c10 : ((rd_T46 l0 x12_1).f1) < 1
                · rw [if_pos c10] at H
                  have c10b0 : decide (((rd_T46 l0 x12_1).f1) < 1) = true := decide_eq_true c10
                  clear c10
                  (first | rw [c10b0] | (simp only [i64_w, i32_w]; rw [c10b0]) | skip)
                  have H' := Aside0.mk H
                  clear H
                  have hcz11_0 : w8.cell? ⟨gb399, 0, none⟩ = some (.int .i64 0) := (blk_cell BK399.out 0).trans rfl
                  have hcz11_1 : w8.cell? ⟨gb399, 1, none⟩ = some (.int .i64 0) := (blk_cell BK399.out 1).trans rfl
                  have hcz11_2 : w8.cell? ⟨gb399, 2, none⟩ = some (.int .i64 0) := (blk_cell BK399.out 2).trans rfl
                  have hcz11_3 : w8.cell? ⟨gb399, 3, none⟩ = some (.int .i64 0) := (blk_cell BK399.out 3).trans rfl
                  have hcz11_4 : w8.cell? ⟨gb399, 4, none⟩ = some (.string (⟨#[]⟩ : ByteArray)) := (blk_cell BK399.out 4).trans rfl
                  have hfz11_0 := blk_frozen BK399.out 0
                  have hfz11_1 := blk_frozen BK399.out 1
                  have hfz11_2 := blk_frozen BK399.out 2
                  have hfz11_3 := blk_frozen BK399.out 3
                  have hfz11_4 := blk_frozen BK399.out 4
                  go_wp2
                  go_meet
                  case rel => exact ⟨_, (true), (by first | rfl | (simp; done) | (simp [*]; done)), H', ⟨by have := HK1.out; first | omega | exact Nat.le_refl _⟩, ⟨by (with_reducible repeat (first | apply Kd.R_alloc | apply Kd.R_drewN | apply Kd.R_drew)); exact Kd.R_mono (Kd.R_far (p := ⟨gb399, 4, none⟩) (Kd.R_far (p := ⟨gb399, 3, none⟩) (Kd.R_far (p := ⟨gb399, 2, none⟩) (Kd.R_far (p := ⟨gb399, 1, none⟩) (Kd.R_far (p := ⟨gb399, 0, none⟩) (Kd.R_types HO_3.out BK399.out (by decide)) (fun _ hk => hk.2) (.int .i64 ((rd_T46 l0 x12_1).f0))) (fun _ hk => hk.2) (.int .i64 ((rd_T46 l0 x12_1).f1))) (fun _ hk => hk.2) (.int .i64 ((rd_T46 l0 x12_1).f2))) (fun _ hk => hk.2) (.int .i64 ((rd_T46 l0 x12_1).f3))) (fun _ hk => hk.2) (.string ((rd_T46 l0 x12_1).f4))) (fun _ hk => hk.1)⟩, ⟨by (with_reducible repeat (first | apply Kd.R_alloc | apply Kd.R_drewN | apply Kd.R_drew)); exact Kd.R_mono (Kd.R_far (p := ⟨gb399, 4, none⟩) (Kd.R_far (p := ⟨gb399, 3, none⟩) (Kd.R_far (p := ⟨gb399, 2, none⟩) (Kd.R_far (p := ⟨gb399, 1, none⟩) (Kd.R_far (p := ⟨gb399, 0, none⟩) (Kd.R_types HO_4.out BK399.out (by decide)) (fun _ hk => hk.2) (.int .i64 ((rd_T46 l0 x12_1).f0))) (fun _ hk => hk.2) (.int .i64 ((rd_T46 l0 x12_1).f1))) (fun _ hk => hk.2) (.int .i64 ((rd_T46 l0 x12_1).f2))) (fun _ hk => hk.2) (.int .i64 ((rd_T46 l0 x12_1).f3))) (fun _ hk => hk.2) (.string ((rd_T46 l0 x12_1).f4))) (fun _ hk => hk.1)⟩, ⟨by (with_reducible repeat (first | refine blk_drewN ?_ _ | refine blk_drew ?_ | refine blk_alloc ?_ _)); refine blk_put (cs := #[.int .i64 ((rd_T46 l0 x12_1).f0), .int .i64 ((rd_T46 l0 x12_1).f1), .int .i64 ((rd_T46 l0 x12_1).f2), .int .i64 ((rd_T46 l0 x12_1).f3), .string (⟨#[]⟩ : ByteArray)]) ?_ 4 _ rfl; (with_reducible repeat (first | refine blk_drewN ?_ _ | refine blk_drew ?_ | refine blk_alloc ?_ _)); refine blk_put (cs := #[.int .i64 ((rd_T46 l0 x12_1).f0), .int .i64 ((rd_T46 l0 x12_1).f1), .int .i64 ((rd_T46 l0 x12_1).f2), .int .i64 0, .string (⟨#[]⟩ : ByteArray)]) ?_ 3 _ rfl; (with_reducible repeat (first | refine blk_drewN ?_ _ | refine blk_drew ?_ | refine blk_alloc ?_ _)); refine blk_put (cs := #[.int .i64 ((rd_T46 l0 x12_1).f0), .int .i64 ((rd_T46 l0 x12_1).f1), .int .i64 0, .int .i64 0, .string (⟨#[]⟩ : ByteArray)]) ?_ 2 _ rfl; (with_reducible repeat (first | refine blk_drewN ?_ _ | refine blk_drew ?_ | refine blk_alloc ?_ _)); refine blk_put (cs := #[.int .i64 ((rd_T46 l0 x12_1).f0), .int .i64 0, .int .i64 0, .int .i64 0, .string (⟨#[]⟩ : ByteArray)]) ?_ 1 _ rfl; (with_reducible repeat (first | refine blk_drewN ?_ _ | refine blk_drew ?_ | refine blk_alloc ?_ _)); refine blk_put (cs := #[.int .i64 0, .int .i64 0, .int .i64 0, .int .i64 0, .string (⟨#[]⟩ : ByteArray)]) ?_ 0 _ rfl; (with_reducible repeat (first | refine blk_drewN ?_ _ | refine blk_drew ?_ | refine blk_alloc ?_ _)); exact BK399.out⟩, ⟨by repeat (first | (with_reducible first | exact HB.out | apply below_alloc | apply pw_below_drewN | apply below_drew1 | refine below_set ?_ GE399.out) | exact HB.out)⟩⟩
                · rw [if_neg c10] at H
                  have c10b0 : decide (((rd_T46 l0 x12_1).f1) < 1) = false := decide_eq_false c10
                  clear c10
                  (first | rw [c10b0] | (simp only [i64_w, i32_w]; rw [c10b0]) | skip)
                  have H' := Aside0.mk H
                  clear H
                  have hcz12_0 : w8.cell? ⟨gb399, 0, none⟩ = some (.int .i64 0) := (blk_cell BK399.out 0).trans rfl
                  have hcz12_1 : w8.cell? ⟨gb399, 1, none⟩ = some (.int .i64 0) := (blk_cell BK399.out 1).trans rfl
                  have hcz12_2 : w8.cell? ⟨gb399, 2, none⟩ = some (.int .i64 0) := (blk_cell BK399.out 2).trans rfl
                  have hcz12_3 : w8.cell? ⟨gb399, 3, none⟩ = some (.int .i64 0) := (blk_cell BK399.out 3).trans rfl
                  have hcz12_4 : w8.cell? ⟨gb399, 4, none⟩ = some (.string (⟨#[]⟩ : ByteArray)) := (blk_cell BK399.out 4).trans rfl
                  have hfz12_0 := blk_frozen BK399.out 0
                  have hfz12_1 := blk_frozen BK399.out 1
                  have hfz12_2 := blk_frozen BK399.out 2
                  have hfz12_3 := blk_frozen BK399.out 3
                  have hfz12_4 := blk_frozen BK399.out 4
                  go_wp2
                  go_meet
                  case rel => exact ⟨_, (decide (((rd_T46 l0 x12_1).f1) > 6)), (by first | rfl | (simp; done) | (simp [*]; done)), H', ⟨by have := HK1.out; first | omega | exact Nat.le_refl _⟩, ⟨by (with_reducible repeat (first | apply Kd.R_alloc | apply Kd.R_drewN | apply Kd.R_drew)); exact Kd.R_mono (Kd.R_far (p := ⟨gb399, 4, none⟩) (Kd.R_far (p := ⟨gb399, 3, none⟩) (Kd.R_far (p := ⟨gb399, 2, none⟩) (Kd.R_far (p := ⟨gb399, 1, none⟩) (Kd.R_far (p := ⟨gb399, 0, none⟩) (Kd.R_types HO_3.out BK399.out (by decide)) (fun _ hk => hk.2) (.int .i64 ((rd_T46 l0 x12_1).f0))) (fun _ hk => hk.2) (.int .i64 ((rd_T46 l0 x12_1).f1))) (fun _ hk => hk.2) (.int .i64 ((rd_T46 l0 x12_1).f2))) (fun _ hk => hk.2) (.int .i64 ((rd_T46 l0 x12_1).f3))) (fun _ hk => hk.2) (.string ((rd_T46 l0 x12_1).f4))) (fun _ hk => hk.1)⟩, ⟨by (with_reducible repeat (first | apply Kd.R_alloc | apply Kd.R_drewN | apply Kd.R_drew)); exact Kd.R_mono (Kd.R_far (p := ⟨gb399, 4, none⟩) (Kd.R_far (p := ⟨gb399, 3, none⟩) (Kd.R_far (p := ⟨gb399, 2, none⟩) (Kd.R_far (p := ⟨gb399, 1, none⟩) (Kd.R_far (p := ⟨gb399, 0, none⟩) (Kd.R_types HO_4.out BK399.out (by decide)) (fun _ hk => hk.2) (.int .i64 ((rd_T46 l0 x12_1).f0))) (fun _ hk => hk.2) (.int .i64 ((rd_T46 l0 x12_1).f1))) (fun _ hk => hk.2) (.int .i64 ((rd_T46 l0 x12_1).f2))) (fun _ hk => hk.2) (.int .i64 ((rd_T46 l0 x12_1).f3))) (fun _ hk => hk.2) (.string ((rd_T46 l0 x12_1).f4))) (fun _ hk => hk.1)⟩, ⟨by (with_reducible repeat (first | refine blk_drewN ?_ _ | refine blk_drew ?_ | refine blk_alloc ?_ _)); refine blk_put (cs := #[.int .i64 ((rd_T46 l0 x12_1).f0), .int .i64 ((rd_T46 l0 x12_1).f1), .int .i64 ((rd_T46 l0 x12_1).f2), .int .i64 ((rd_T46 l0 x12_1).f3), .string (⟨#[]⟩ : ByteArray)]) ?_ 4 _ rfl; (with_reducible repeat (first | refine blk_drewN ?_ _ | refine blk_drew ?_ | refine blk_alloc ?_ _)); refine blk_put (cs := #[.int .i64 ((rd_T46 l0 x12_1).f0), .int .i64 ((rd_T46 l0 x12_1).f1), .int .i64 ((rd_T46 l0 x12_1).f2), .int .i64 0, .string (⟨#[]⟩ : ByteArray)]) ?_ 3 _ rfl; (with_reducible repeat (first | refine blk_drewN ?_ _ | refine blk_drew ?_ | refine blk_alloc ?_ _)); refine blk_put (cs := #[.int .i64 ((rd_T46 l0 x12_1).f0), .int .i64 ((rd_T46 l0 x12_1).f1), .int .i64 0, .int .i64 0, .string (⟨#[]⟩ : ByteArray)]) ?_ 2 _ rfl; (with_reducible repeat (first | refine blk_drewN ?_ _ | refine blk_drew ?_ | refine blk_alloc ?_ _)); refine blk_put (cs := #[.int .i64 ((rd_T46 l0 x12_1).f0), .int .i64 0, .int .i64 0, .int .i64 0, .string (⟨#[]⟩ : ByteArray)]) ?_ 1 _ rfl; (with_reducible repeat (first | refine blk_drewN ?_ _ | refine blk_drew ?_ | refine blk_alloc ?_ _)); refine blk_put (cs := #[.int .i64 0, .int .i64 0, .int .i64 0, .int .i64 0, .string (⟨#[]⟩ : ByteArray)]) ?_ 0 _ rfl; (with_reducible repeat (first | refine blk_drewN ?_ _ | refine blk_drew ?_ | refine blk_alloc ?_ _)); exact BK399.out⟩, ⟨by repeat (first | (with_reducible first | exact HB.out | apply below_alloc | apply pw_below_drewN | apply below_drew1 | refine below_set ?_ GE399.out) | exact HB.out)⟩⟩
              case rest =>
                clear HC7
                try clear c1
                try clear c2
                try clear p2
                try clear p3
                try clear q3
                try clear hx3
                try clear c4
                try clear c4b0
                try clear c5
                try clear c5b0
                try clear c6
                try clear c6b0
                try clear c10
                try clear c10b0
                try clear hcz11_0
                try clear hcz11_1
                try clear hcz11_2
                try clear hcz11_3
                try clear hcz11_4
                try clear hcz12_0
                try clear hcz12_1
                try clear hcz12_2
                try clear hcz12_3
                try clear hcz12_4
                try clear hcz9_0
                try clear hcz9_1
                try clear hcz9_2
                try clear hcz9_3
                try clear hcz9_4
                try clear hfz11_0
                try clear hfz11_1
                try clear hfz11_2
                try clear hfz11_3
                try clear hfz11_4
                try clear hfz12_0
                try clear hfz12_1
                try clear hfz12_2
                try clear hfz12_3
                try clear hfz12_4
                try clear hfz9_0
                try clear hfz9_1
                try clear hfz9_2
                try clear hfz9_3
                try clear hfz9_4
                try clear hx398_0
                try clear hx398_1
                try clear hx398_2
                try clear hx398_3
                try clear hx398_4
                try clear p2
                try clear p398
                try clear q398
                obtain ⟨kq, x23_6, rfl, HA, HJ6, HO_3, HO_4, BK399, HB⟩ := hcut
                cases kq with
                | zero => exact absurd HA.out (by simp [jobshellref49_Check.j1])
                | succ kj6 =>
                  have H := HA.out
                  clear HA
                  simp only [jobshellref49_Check.j1] at H
                  by_cases c13 : x23_6 = true
                  · subst c13
                    have H1 : (some 1) = some r := by rw [if_pos rfl] at H; exact H
                    clear H
                    have H := H1
                    clear H1
                    obtain rfl := Option.some.inj H
                    go_wp2
                    go_ret
                    exact ⟨by first | rfl | (simp [errW_none, errW_some] <;> rfl) | (simp [*, errW_none, errW_some] <;> rfl), by repeat (first | (with_reducible first | exact HB.out | apply below_alloc | apply pw_below_drewN | apply below_drew1 | refine below_set ?_ GE399.out) | exact HB.out)⟩
                  · replace c13 := Bool.eq_false_iff.mpr c13
                    subst c13
                    have H1 : ((jobshellref49_has.f kj6 x3_1 ((rd_T46 l0 x12_1).f0)).bind fun t400 => (if t400 = true then ((jobshellref49_has.f kj6 x4_1 ((rd_T46 l0 x12_1).f0)).bind fun t401 => (jobshellref49_Check.j2 kj6 x3_1 x4_1 l0 (l0.length : Int) x12_1 t401 ((rd_T46 l0 x12_1).f0) ((rd_T46 l0 x12_1).f1) ((rd_T46 l0 x12_1).f2) ((rd_T46 l0 x12_1).f3) ((rd_T46 l0 x12_1).f4))) else (jobshellref49_Check.j2 kj6 x3_1 x4_1 l0 (l0.length : Int) x12_1 true ((rd_T46 l0 x12_1).f0) ((rd_T46 l0 x12_1).f1) ((rd_T46 l0 x12_1).f2) ((rd_T46 l0 x12_1).f3) ((rd_T46 l0 x12_1).f4)))) = some r := by rw [if_neg (show ¬ (false = true) by decide)] at H; exact H
                    clear H
                    have H := H1
                    clear H1
                    have HC14 := Aside0.mk H
                    clear H
                    go_upto_region 8 with (fail)
                    go_cut [34] (fun v34 wc => ∃ (kq : Nat) (x34_13 : Bool), v34 = .bool x34_13 ∧ Aside0 (jobshellref49_Check.j2 kq x3_1 x4_1 l0 (l0.length : Int) x12_1 x34_13 ((rd_T46 l0 x12_1).f0) ((rd_T46 l0 x12_1).f1) ((rd_T46 l0 x12_1).f2) ((rd_T46 l0 x12_1).f3) ((rd_T46 l0 x12_1).f4) = some r) ∧ Aside0 (kq ≤ kj6) ∧ Aside0 (Kd.R (Kd.int .i64) 3 wc w.heap.size (fun k_ => some k_ ≠ (u4 : Value).ownBlock) u3 x3_1) ∧ Aside0 (Kd.R (Kd.int .i64) 3 wc w.heap.size (fun k_ => some k_ ≠ (u3 : Value).ownBlock) u4 x4_1) ∧ Aside0 (wc.heap[gb399]? = some (.cells #[.int .i64 ((rd_T46 l0 x12_1).f0), .int .i64 ((rd_T46 l0 x12_1).f1), .int .i64 ((rd_T46 l0 x12_1).f2), .int .i64 ((rd_T46 l0 x12_1).f3), .string ((rd_T46 l0 x12_1).f4)] 46 (0, 0))) ∧ Aside0 (Below w.heap.size w wc))
                    case first =>
                      have H := HC14.out
                      clear HC14
                      replace H := Option.bind_eq_some_iff.mp H
                      obtain ⟨t400, A150, H⟩ := H
                      replace H : (if t400 = true then ((jobshellref49_has.f kj6 x4_1 ((rd_T46 l0 x12_1).f0)).bind fun t401 => (jobshellref49_Check.j2 kj6 x3_1 x4_1 l0 (l0.length : Int) x12_1 t401 ((rd_T46 l0 x12_1).f0) ((rd_T46 l0 x12_1).f1) ((rd_T46 l0 x12_1).f2) ((rd_T46 l0 x12_1).f3) ((rd_T46 l0 x12_1).f4))) else (jobshellref49_Check.j2 kj6 x3_1 x4_1 l0 (l0.length : Int) x12_1 true ((rd_T46 l0 x12_1).f0) ((rd_T46 l0 x12_1).f1) ((rd_T46 l0 x12_1).f2) ((rd_T46 l0 x12_1).f3) ((rd_T46 l0 x12_1).f4))) = some r := H
                      have A15 := Aside0.mk A150
                      clear A150
                      by_cases c16 : t400 = true
                      · subst c16
                        have H1 : ((jobshellref49_has.f kj6 x4_1 ((rd_T46 l0 x12_1).f0)).bind fun t401 => (jobshellref49_Check.j2 kj6 x3_1 x4_1 l0 (l0.length : Int) x12_1 t401 ((rd_T46 l0 x12_1).f0) ((rd_T46 l0 x12_1).f1) ((rd_T46 l0 x12_1).f2) ((rd_T46 l0 x12_1).f3) ((rd_T46 l0 x12_1).f4))) = some r := by rw [if_pos rfl] at H; exact H
                        clear H
                        have H := H1
                        clear H1
                        replace H := Option.bind_eq_some_iff.mp H
                        obtain ⟨t401, A170, H⟩ := H
                        replace H : (jobshellref49_Check.j2 kj6 x3_1 x4_1 l0 (l0.length : Int) x12_1 t401 ((rd_T46 l0 x12_1).f0) ((rd_T46 l0 x12_1).f1) ((rd_T46 l0 x12_1).f2) ((rd_T46 l0 x12_1).f3) ((rd_T46 l0 x12_1).f4)) = some r := H
                        have A17 := Aside0.mk A170
                        clear A170
                        have H' := Aside0.mk H
                        clear H
                        have hcz18_0 : wc.cell? ⟨gb399, 0, none⟩ = some (.int .i64 ((rd_T46 l0 x12_1).f0)) := (blk_cell BK399.out 0).trans rfl
                        have hcz18_1 : wc.cell? ⟨gb399, 1, none⟩ = some (.int .i64 ((rd_T46 l0 x12_1).f1)) := (blk_cell BK399.out 1).trans rfl
                        have hcz18_2 : wc.cell? ⟨gb399, 2, none⟩ = some (.int .i64 ((rd_T46 l0 x12_1).f2)) := (blk_cell BK399.out 2).trans rfl
                        have hcz18_3 : wc.cell? ⟨gb399, 3, none⟩ = some (.int .i64 ((rd_T46 l0 x12_1).f3)) := (blk_cell BK399.out 3).trans rfl
                        have hcz18_4 : wc.cell? ⟨gb399, 4, none⟩ = some (.string ((rd_T46 l0 x12_1).f4)) := (blk_cell BK399.out 4).trans rfl
                        have hfz18_0 := blk_frozen BK399.out 0
                        have hfz18_1 := blk_frozen BK399.out 1
                        have hfz18_2 := blk_frozen BK399.out 2
                        have hfz18_3 := blk_frozen BK399.out 3
                        have hfz18_4 := blk_frozen BK399.out 4
                        obtain ⟨Ao19, co19, eo19⟩ := Kd.R_slice HO_3.out
                        subst eo19
                        go_wp2_with (first | ((with_reducible refine gate_callee (f := 39) rfl ?_); refine goesL_ (some 27) rfl rfl Tryz.func39 (by kernel_rfl) rfl #[.slice Ao19 x3_1.length co19, .int .i64 ((rd_T46 l0 x12_1).f0)] rfl (by (try simp only [List.map_toArray, List.map_cons, List.map_nil]); first | done | rfl | (simp only [List.length_drop, List.length_take]; rfl)) ?_; (with_reducible refine (jobshellref49_has.calls kj6 _ _ x3_1 ((rd_T46 l0 x12_1).f0) true _ ?side1 ?side2 A15.out).mono ?_); (case side1 => repeat (first | exact (Kd.R_reads' HO_3.out).2.2 | (with_reducible refine Kd.C_alloc ?_ _) | (with_reducible refine Kd.C_drewN ?_ _) | (with_reducible refine Kd.C_drew ?_))); (case side2 => exact (Kd.R_reads' HO_3.out).2.1); rintro e w' ⟨rfl, ⟨nd, rfl⟩⟩; refine ⟨_, rfl, ?_⟩; obtain ⟨Ao20, co20, eo20⟩ := Kd.R_slice HO_4.out; subst eo20) | (go_at_call 39; (with_reducible refine (jobshellref49_has.calls kj6 _ _ x4_1 ((rd_T46 l0 x12_1).f0) t401 _ ?side1 ?side2 A17.out).mono ?_); (case side1 => repeat (first | exact (Kd.R_reads' HO_4.out).2.2 | (with_reducible refine Kd.C_alloc ?_ _) | (with_reducible refine Kd.C_drewN ?_ _) | (with_reducible refine Kd.C_drew ?_))); (case side2 => exact (Kd.R_reads' HO_4.out).2.1); rintro e w' ⟨rfl, ⟨nd, rfl⟩⟩))
                        go_meet
                        case rel => exact ⟨_, (t401), (by first | rfl | (simp; done) | (simp [*]; done)), H', ⟨by have := HK1.out; have := HJ6.out; first | omega | exact Nat.le_refl _⟩, ⟨by (with_reducible repeat (first | apply Kd.R_alloc | apply Kd.R_drewN | apply Kd.R_drew)); exact HO_3.out⟩, ⟨by (with_reducible repeat (first | apply Kd.R_alloc | apply Kd.R_drewN | apply Kd.R_drew)); exact HO_4.out⟩, ⟨by (with_reducible repeat (first | refine blk_drewN ?_ _ | refine blk_drew ?_ | refine blk_alloc ?_ _)); exact BK399.out⟩, ⟨by repeat (first | (with_reducible first | exact HB.out | apply below_alloc | apply pw_below_drewN | apply below_drew1 | refine below_set ?_ GE399.out) | exact HB.out)⟩⟩
                      · replace c16 := Bool.eq_false_iff.mpr c16
                        subst c16
                        have H1 : (jobshellref49_Check.j2 kj6 x3_1 x4_1 l0 (l0.length : Int) x12_1 true ((rd_T46 l0 x12_1).f0) ((rd_T46 l0 x12_1).f1) ((rd_T46 l0 x12_1).f2) ((rd_T46 l0 x12_1).f3) ((rd_T46 l0 x12_1).f4)) = some r := by rw [if_neg (show ¬ (false = true) by decide)] at H; exact H
                        clear H
                        have H := H1
                        clear H1
                        have H' := Aside0.mk H
                        clear H
                        have hcz21_0 : wc.cell? ⟨gb399, 0, none⟩ = some (.int .i64 ((rd_T46 l0 x12_1).f0)) := (blk_cell BK399.out 0).trans rfl
                        have hcz21_1 : wc.cell? ⟨gb399, 1, none⟩ = some (.int .i64 ((rd_T46 l0 x12_1).f1)) := (blk_cell BK399.out 1).trans rfl
                        have hcz21_2 : wc.cell? ⟨gb399, 2, none⟩ = some (.int .i64 ((rd_T46 l0 x12_1).f2)) := (blk_cell BK399.out 2).trans rfl
                        have hcz21_3 : wc.cell? ⟨gb399, 3, none⟩ = some (.int .i64 ((rd_T46 l0 x12_1).f3)) := (blk_cell BK399.out 3).trans rfl
                        have hcz21_4 : wc.cell? ⟨gb399, 4, none⟩ = some (.string ((rd_T46 l0 x12_1).f4)) := (blk_cell BK399.out 4).trans rfl
                        have hfz21_0 := blk_frozen BK399.out 0
                        have hfz21_1 := blk_frozen BK399.out 1
                        have hfz21_2 := blk_frozen BK399.out 2
                        have hfz21_3 := blk_frozen BK399.out 3
                        have hfz21_4 := blk_frozen BK399.out 4
                        obtain ⟨Ao22, co22, eo22⟩ := Kd.R_slice HO_3.out
                        subst eo22
                        go_wp2_with (first | ((with_reducible refine gate_callee (f := 39) rfl ?_); refine goesL_ (some 27) rfl rfl Tryz.func39 (by kernel_rfl) rfl #[.slice Ao22 x3_1.length co22, .int .i64 ((rd_T46 l0 x12_1).f0)] rfl (by (try simp only [List.map_toArray, List.map_cons, List.map_nil]); first | done | rfl | (simp only [List.length_drop, List.length_take]; rfl)) ?_; (with_reducible refine (jobshellref49_has.calls kj6 _ _ x3_1 ((rd_T46 l0 x12_1).f0) false _ ?side1 ?side2 A15.out).mono ?_); (case side1 => repeat (first | exact (Kd.R_reads' HO_3.out).2.2 | (with_reducible refine Kd.C_alloc ?_ _) | (with_reducible refine Kd.C_drewN ?_ _) | (with_reducible refine Kd.C_drew ?_))); (case side2 => exact (Kd.R_reads' HO_3.out).2.1); rintro e w' ⟨rfl, ⟨nd, rfl⟩⟩; refine ⟨_, rfl, ?_⟩))
                        go_meet
                        case rel => exact ⟨_, (true), (by first | rfl | (simp; done) | (simp [*]; done)), H', ⟨by have := HK1.out; have := HJ6.out; first | omega | exact Nat.le_refl _⟩, ⟨by (with_reducible repeat (first | apply Kd.R_alloc | apply Kd.R_drewN | apply Kd.R_drew)); exact HO_3.out⟩, ⟨by (with_reducible repeat (first | apply Kd.R_alloc | apply Kd.R_drewN | apply Kd.R_drew)); exact HO_4.out⟩, ⟨by (with_reducible repeat (first | refine blk_drewN ?_ _ | refine blk_drew ?_ | refine blk_alloc ?_ _)); exact BK399.out⟩, ⟨by repeat (first | (with_reducible first | exact HB.out | apply below_alloc | apply pw_below_drewN | apply below_drew1 | refine below_set ?_ GE399.out) | exact HB.out)⟩⟩
                    case rest =>
                      clear HC14
                      try clear c1
                      try clear c2
                      try clear p2
                      try clear c3
                      try clear p3
                      try clear q3
                      try clear hx3
                      try clear c4
                      try clear c4b0
                      try clear c5
                      try clear c5b0
                      try clear c6
                      try clear c6b0
                      try clear c10
                      try clear c10b0
                      try clear c13
                      try clear c16
                      try clear c21
                      try clear hcz11_0
                      try clear hcz11_1
                      try clear hcz11_2
                      try clear hcz11_3
                      try clear hcz11_4
                      try clear hcz12_0
                      try clear hcz12_1
                      try clear hcz12_2
                      try clear hcz12_3
                      try clear hcz12_4
                      try clear hcz18_0
                      try clear hcz18_1
                      try clear hcz18_2
                      try clear hcz18_3
                      try clear hcz18_4
                      try clear hcz21_0
                      try clear hcz21_1
                      try clear hcz21_2
                      try clear hcz21_3
                      try clear hcz21_4
                      try clear hcz9_0
                      try clear hcz9_1
                      try clear hcz9_2
                      try clear hcz9_3
                      try clear hcz9_4
                      try clear hfz11_0
                      try clear hfz11_1
                      try clear hfz11_2
                      try clear hfz11_3
                      try clear hfz11_4
                      try clear hfz12_0
                      try clear hfz12_1
                      try clear hfz12_2
                      try clear hfz12_3
                      try clear hfz12_4
                      try clear hfz18_0
                      try clear hfz18_1
                      try clear hfz18_2
                      try clear hfz18_3
                      try clear hfz18_4
                      try clear hfz21_0
                      try clear hfz21_1
                      try clear hfz21_2
                      try clear hfz21_3
                      try clear hfz21_4
                      try clear hfz9_0
                      try clear hfz9_1
                      try clear hfz9_2
                      try clear hfz9_3
                      try clear hfz9_4
                      try clear hx398_0
                      try clear hx398_1
                      try clear hx398_2
                      try clear hx398_3
                      try clear hx398_4
                      try clear p2
                      try clear p3
                      try clear p398
                      try clear q3
                      try clear q398
                      obtain ⟨kq, x34_13, rfl, HA, HJ13, HO_3, HO_4, BK399, HB⟩ := hcut
                      cases kq with
                      | zero => exact absurd HA.out (by simp [jobshellref49_Check.j2])
                      | succ kj13 =>
                        have H := HA.out
                        clear HA
                        simp only [jobshellref49_Check.j2] at H
                        by_cases c23 : x34_13 = true
                        · subst c23
                          have H1 : (some 21) = some r := by rw [if_pos rfl] at H; exact H
                          clear H
                          have H := H1
                          clear H1
                          obtain rfl := Option.some.inj H
                          go_wp2
                          go_ret
                          exact ⟨by first | rfl | (simp [errW_none, errW_some] <;> rfl) | (simp [*, errW_none, errW_some] <;> rfl), by repeat (first | (with_reducible first | exact HB.out | apply below_alloc | apply pw_below_drewN | apply below_drew1 | refine below_set ?_ GE399.out) | exact HB.out)⟩
                        · replace c23 := Bool.eq_false_iff.mpr c23
                          subst c23
                          have H1 : (if ((rd_T46 l0 x12_1).f1) = 3 then ((jobshellref49_has.f kj13 x3_1 ((rd_T46 l0 x12_1).f3)).bind fun t402 => (if t402 = true then (some 9) else (if x3_1.length < 17592186044416 then ((some (x3_1 ++ [((rd_T46 l0 x12_1).f3)] : List Int)).bind fun y403 => (if ((rd_T46 l0 x12_1).f1) = 4 then (if x4_1.length < 17592186044416 then (jobshellref49_Check.l0 kj13 y403 (x4_1 ++ [((rd_T46 l0 x12_1).f0)]) l0 (l0.length : Int) (wrap64 (x12_1 + 1))) else (none)) else (jobshellref49_Check.l0 kj13 y403 x4_1 l0 (l0.length : Int) (wrap64 (x12_1 + 1))))) else (none)))) else (if ((rd_T46 l0 x12_1).f1) = 4 then (if x4_1.length < 17592186044416 then (jobshellref49_Check.l0 kj13 x3_1 (x4_1 ++ [((rd_T46 l0 x12_1).f0)]) l0 (l0.length : Int) (wrap64 (x12_1 + 1))) else (none)) else (jobshellref49_Check.l0 kj13 x3_1 x4_1 l0 (l0.length : Int) (wrap64 (x12_1 + 1))))) = some r := by rw [if_neg (show ¬ (false = true) by decide)] at H; exact H
                          clear H
                          have H := H1
                          clear H1
                          by_cases c24 : ((rd_T46 l0 x12_1).f1) = 3
                          · rw [if_pos c24] at H
                            have c24b0 : (((rd_T46 l0 x12_1).f1) == 3) = true := beq_iff_eq.mpr c24
                            have c24b1 : (((rd_T46 l0 x12_1).f1) != 3) = false := bne_eq_false_iff_eq.mpr c24
                            clear c24
                            replace H := Option.bind_eq_some_iff.mp H
                            obtain ⟨t402, A250, H⟩ := H
                            replace H : (if t402 = true then (some 9) else (if x3_1.length < 17592186044416 then ((some (x3_1 ++ [((rd_T46 l0 x12_1).f3)] : List Int)).bind fun y403 => (if ((rd_T46 l0 x12_1).f1) = 4 then (if x4_1.length < 17592186044416 then (jobshellref49_Check.l0 kj13 y403 (x4_1 ++ [((rd_T46 l0 x12_1).f0)]) l0 (l0.length : Int) (wrap64 (x12_1 + 1))) else (none)) else (jobshellref49_Check.l0 kj13 y403 x4_1 l0 (l0.length : Int) (wrap64 (x12_1 + 1))))) else (none))) = some r := H
                            have A25 := Aside0.mk A250
                            clear A250
                            by_cases c26 : t402 = true
                            · subst c26
                              have H1 : (some 9) = some r := by rw [if_pos rfl] at H; exact H
                              clear H
                              have H := H1
                              clear H1
                              obtain rfl := Option.some.inj H
                              have hcz27_0 : wc.cell? ⟨gb399, 0, none⟩ = some (.int .i64 ((rd_T46 l0 x12_1).f0)) := (blk_cell BK399.out 0).trans rfl
                              have hcz27_1 : wc.cell? ⟨gb399, 1, none⟩ = some (.int .i64 ((rd_T46 l0 x12_1).f1)) := (blk_cell BK399.out 1).trans rfl
                              have hcz27_2 : wc.cell? ⟨gb399, 2, none⟩ = some (.int .i64 ((rd_T46 l0 x12_1).f2)) := (blk_cell BK399.out 2).trans rfl
                              have hcz27_3 : wc.cell? ⟨gb399, 3, none⟩ = some (.int .i64 ((rd_T46 l0 x12_1).f3)) := (blk_cell BK399.out 3).trans rfl
                              have hcz27_4 : wc.cell? ⟨gb399, 4, none⟩ = some (.string ((rd_T46 l0 x12_1).f4)) := (blk_cell BK399.out 4).trans rfl
                              have hfz27_0 := blk_frozen BK399.out 0
                              have hfz27_1 := blk_frozen BK399.out 1
                              have hfz27_2 := blk_frozen BK399.out 2
                              have hfz27_3 := blk_frozen BK399.out 3
                              have hfz27_4 := blk_frozen BK399.out 4
                              obtain ⟨Ao28, co28, eo28⟩ := Kd.R_slice HO_3.out
                              subst eo28
                              go_wp2_with (first | ((with_reducible refine gate_callee (f := 39) rfl ?_); refine goesL_ (some 41) rfl rfl Tryz.func39 (by kernel_rfl) rfl #[.slice Ao28 x3_1.length co28, .int .i64 ((rd_T46 l0 x12_1).f3)] rfl (by (try simp only [List.map_toArray, List.map_cons, List.map_nil]); first | done | rfl | (simp only [List.length_drop, List.length_take]; rfl)) ?_; (with_reducible refine (jobshellref49_has.calls kj13 _ _ x3_1 ((rd_T46 l0 x12_1).f3) true _ ?side1 ?side2 A25.out).mono ?_); (case side1 => repeat (first | exact (Kd.R_reads' HO_3.out).2.2 | (with_reducible refine Kd.C_alloc ?_ _) | (with_reducible refine Kd.C_drewN ?_ _) | (with_reducible refine Kd.C_drew ?_))); (case side2 => exact (Kd.R_reads' HO_3.out).2.1); rintro e w' ⟨rfl, ⟨nd, rfl⟩⟩; refine ⟨_, rfl, ?_⟩))
                              go_ret
                              exact ⟨by first | rfl | (simp [errW_none, errW_some] <;> rfl) | (simp [*, errW_none, errW_some] <;> rfl), by repeat (first | (with_reducible first | exact HB.out | apply below_alloc | apply pw_below_drewN | apply below_drew1 | refine below_set ?_ GE399.out) | exact HB.out)⟩
                            · replace c26 := Bool.eq_false_iff.mpr c26
                              subst c26
                              have H1 : (if x3_1.length < 17592186044416 then ((some (x3_1 ++ [((rd_T46 l0 x12_1).f3)] : List Int)).bind fun y403 => (if ((rd_T46 l0 x12_1).f1) = 4 then (if x4_1.length < 17592186044416 then (jobshellref49_Check.l0 kj13 y403 (x4_1 ++ [((rd_T46 l0 x12_1).f0)]) l0 (l0.length : Int) (wrap64 (x12_1 + 1))) else (none)) else (jobshellref49_Check.l0 kj13 y403 x4_1 l0 (l0.length : Int) (wrap64 (x12_1 + 1))))) else (none)) = some r := by rw [if_neg (show ¬ (false = true) by decide)] at H; exact H
                              clear H
                              have H := H1
                              clear H1
                              by_cases c29 : x3_1.length < 17592186044416
                              · rw [if_pos c29] at H
                                have LMc29 := Aside0.mk c29
                                clear c29
                                obtain ⟨y403, hy403⟩ : ∃ y_ : List Int, y_ = (x3_1 ++ [((rd_T46 l0 x12_1).f3)]) := ⟨_, rfl⟩
                                replace H : (if ((rd_T46 l0 x12_1).f1) = 4 then (if x4_1.length < 17592186044416 then (jobshellref49_Check.l0 kj13 y403 (x4_1 ++ [((rd_T46 l0 x12_1).f0)]) l0 (l0.length : Int) (wrap64 (x12_1 + 1))) else (none)) else (jobshellref49_Check.l0 kj13 y403 x4_1 l0 (l0.length : Int) (wrap64 (x12_1 + 1)))) = some r := by first | (rw [hy403]; with_reducible exact H) | (have H2_ := (Option.bind_some _ _).symm.trans H; rw [hy403]; with_reducible exact H2_) | (have H2_ := (Option.bind_some _ _).symm.trans H; with_reducible exact H2_) | with_reducible exact H | (rw [hy403]; exact H) | exact H
                                have Ny403 := Aside0.mk hy403
                                clear hy403
                                by_cases c30 : ((rd_T46 l0 x12_1).f1) = 4
                                · rw [if_pos c30] at H
                                  have c30b0 : (((rd_T46 l0 x12_1).f1) == 4) = true := beq_iff_eq.mpr c30
                                  have c30b1 : (((rd_T46 l0 x12_1).f1) != 4) = false := bne_eq_false_iff_eq.mpr c30
                                  clear c30
                                  by_cases c31 : x4_1.length < 17592186044416
                                  · rw [if_pos c31] at H
                                    have LMc31 := Aside0.mk c31
                                    clear c31
                                    obtain ⟨y406, hy406⟩ : ∃ y_ : List Int, y_ = (x4_1 ++ [((rd_T46 l0 x12_1).f0)]) := ⟨_, rfl⟩
                                    replace H : (jobshellref49_Check.l0 kj13 y403 y406 l0 (l0.length : Int) (wrap64 (x12_1 + 1))) = some r := by first | (rw [hy406]; with_reducible exact H) | (have H2_ := (Option.bind_some _ _).symm.trans H; rw [hy406]; with_reducible exact H2_) | (have H2_ := (Option.bind_some _ _).symm.trans H; with_reducible exact H2_) | with_reducible exact H | (rw [hy406]; exact H) | exact H
                                    have Ny406 := Aside0.mk hy406
                                    clear hy406
                                    have H' := Aside0.mk H
                                    clear H
                                    have hcz32_0 : wc.cell? ⟨gb399, 0, none⟩ = some (.int .i64 ((rd_T46 l0 x12_1).f0)) := (blk_cell BK399.out 0).trans rfl
                                    have hcz32_1 : wc.cell? ⟨gb399, 1, none⟩ = some (.int .i64 ((rd_T46 l0 x12_1).f1)) := (blk_cell BK399.out 1).trans rfl
                                    have hcz32_2 : wc.cell? ⟨gb399, 2, none⟩ = some (.int .i64 ((rd_T46 l0 x12_1).f2)) := (blk_cell BK399.out 2).trans rfl
                                    have hcz32_3 : wc.cell? ⟨gb399, 3, none⟩ = some (.int .i64 ((rd_T46 l0 x12_1).f3)) := (blk_cell BK399.out 3).trans rfl
                                    have hcz32_4 : wc.cell? ⟨gb399, 4, none⟩ = some (.string ((rd_T46 l0 x12_1).f4)) := (blk_cell BK399.out 4).trans rfl
                                    have hfz32_0 := blk_frozen BK399.out 0
                                    have hfz32_1 := blk_frozen BK399.out 1
                                    have hfz32_2 := blk_frozen BK399.out 2
                                    have hfz32_3 := blk_frozen BK399.out 3
                                    have hfz32_4 := blk_frozen BK399.out 4
                                    obtain ⟨Ao33, co33, eo33⟩ := Kd.R_slice HO_3.out
                                    subst eo33
                                    go_wp2_with (first | ((with_reducible refine gate_callee (f := 39) rfl ?_); refine goesL_ (some 41) rfl rfl Tryz.func39 (by kernel_rfl) rfl #[.slice Ao33 x3_1.length co33, .int .i64 ((rd_T46 l0 x12_1).f3)] rfl (by (try simp only [List.map_toArray, List.map_cons, List.map_nil]); first | done | rfl | (simp only [List.length_drop, List.length_take]; rfl)) ?_; (with_reducible refine (jobshellref49_has.calls kj13 _ _ x3_1 ((rd_T46 l0 x12_1).f3) false _ ?side1 ?side2 A25.out).mono ?_); (case side1 => repeat (first | exact (Kd.R_reads' HO_3.out).2.2 | (with_reducible refine Kd.C_alloc ?_ _) | (with_reducible refine Kd.C_drewN ?_ _) | (with_reducible refine Kd.C_drew ?_))); (case side2 => exact (Kd.R_reads' HO_3.out).2.1); rintro e w' ⟨rfl, ⟨nd, rfl⟩⟩; refine ⟨_, rfl, ?_⟩) | ((with_reducible refine gate_builtin (b := .append) (xs := #[.tmp 42, .tmp 45]) rfl ?_); at_builtin; refine Kd.R_append (Kd.int .i64) (w0 := w) w.heap.size rfl (.tmp 42) (.tmp 45) 28 3 (.int .i64 0) 8 rfl Tryz.underlying28 info3 rfl (by decide) (by omega) (.slice Ao33 x3_1.length co33) x3_1 ((rd_T46 l0 x12_1).f3) [.int .i64 ((rd_T46 l0 x12_1).f3)] (fun k_ => some k_ ≠ (u4 : Value).ownBlock) (fun _ => False) rfl rfl ?aP (fun _ hk => hk.elim) ?aF ?aO ?aB ?aS ?aL ?_; (case aP => exact rfl); (case aB => exact (by repeat (first | (with_reducible first | exact HB.out | apply below_alloc | apply pw_below_drewN | apply below_drew1 | refine below_set ?_ GE399.out) | exact HB.out))); (case aF => exact (fun k_ hk => Kd.fresh' (Kd.R_lt (by (with_reducible repeat (first | apply Kd.R_alloc | apply Kd.R_drewN | apply Kd.R_drew)); exact HO_4.out)) k_ hk)); (case aO => exact (by (with_reducible repeat (first | apply Kd.R_alloc | apply Kd.R_drewN | apply Kd.R_drew)); exact HO_3.out)); (case aS => exact (below_size (by repeat (first | (with_reducible first | exact HB.out | apply below_alloc | apply pw_below_drewN | apply below_drew1 | refine below_set ?_ GE399.out) | exact HB.out)))); (case aL => have := LMc29.out; omega); intro v404 w34 ho hb hg hat; rw [← Ny403.out] at ho; have n0_ := Aside0.mk (Kd.R_after (ok := (fun _ => True)) (by (with_reducible repeat (first | apply Kd.R_alloc | apply Kd.R_drewN | apply Kd.R_drew)); exact Kd.R_mono HO_4.out (fun _ hk => ⟨trivial, hk⟩)) hg hat); have n1_ := Aside0.mk (blk_grown (g := gb399) (o := .cells #[.int .i64 ((rd_T46 l0 x12_1).f0), .int .i64 ((rd_T46 l0 x12_1).f1), .int .i64 ((rd_T46 l0 x12_1).f2), .int .i64 ((rd_T46 l0 x12_1).f3), .string ((rd_T46 l0 x12_1).f4)] 46 (0, 0)) (by (with_reducible repeat (first | refine blk_drewN ?_ _ | refine blk_drew ?_ | refine blk_alloc ?_ _)); exact BK399.out) hg (Kd.R_ne HO_3.out BK399.out (by decide))); have n2_ := Aside0.mk (hb); have n3_ := Aside0.mk (ho); clear HO_4; clear BK399; clear HB; clear HO_3; have HO_4 := n0_; have BK399 := n1_; have HB := n2_; have HO405 := n3_; clear n0_ n1_ n2_ n3_; clear ho hb hg hat; have hcz35_0 : w34.cell? ⟨gb399, 0, none⟩ = some (.int .i64 ((rd_T46 l0 x12_1).f0)) := (blk_cell BK399.out 0).trans rfl; have hcz35_1 : w34.cell? ⟨gb399, 1, none⟩ = some (.int .i64 ((rd_T46 l0 x12_1).f1)) := (blk_cell BK399.out 1).trans rfl; have hcz35_2 : w34.cell? ⟨gb399, 2, none⟩ = some (.int .i64 ((rd_T46 l0 x12_1).f2)) := (blk_cell BK399.out 2).trans rfl; have hcz35_3 : w34.cell? ⟨gb399, 3, none⟩ = some (.int .i64 ((rd_T46 l0 x12_1).f3)) := (blk_cell BK399.out 3).trans rfl; have hcz35_4 : w34.cell? ⟨gb399, 4, none⟩ = some (.string ((rd_T46 l0 x12_1).f4)) := (blk_cell BK399.out 4).trans rfl; have hfz35_0 := blk_frozen BK399.out 0; have hfz35_1 := blk_frozen BK399.out 1; have hfz35_2 := blk_frozen BK399.out 2; have hfz35_3 := blk_frozen BK399.out 3; have hfz35_4 := blk_frozen BK399.out 4) | ((with_reducible refine gate_builtin (b := .append) (xs := #[.tmp 50, .tmp 53]) rfl ?_); at_builtin; refine Kd.R_append (Kd.int .i64) (w0 := w) w.heap.size rfl (.tmp 50) (.tmp 53) 28 3 (.int .i64 0) 8 rfl Tryz.underlying28 info3 rfl (by decide) (by omega) u4 x4_1 ((rd_T46 l0 x12_1).f0) [.int .i64 ((rd_T46 l0 x12_1).f0)] (fun k_ => some k_ ≠ (v404 : Value).ownBlock) (fun _ => False) rfl rfl ?aP (fun _ hk => hk.elim) ?aF ?aO ?aB ?aS ?aL ?_; (case aP => exact rfl); (case aB => exact (by repeat (first | (with_reducible first | exact HB.out | apply below_alloc | apply pw_below_drewN | apply below_drew1 | refine below_set ?_ GE399.out) | exact HB.out))); (case aF => exact (fun k_ hk => Kd.fresh' (Kd.R_lt (by (with_reducible repeat (first | apply Kd.R_alloc | apply Kd.R_drewN | apply Kd.R_drew)); exact HO405.out)) k_ hk)); (case aO => exact (by (with_reducible repeat (first | apply Kd.R_alloc | apply Kd.R_drewN | apply Kd.R_drew)); exact Kd.R_mono HO_4.out (fun _ hk => hk.2))); (case aS => exact (below_size (by repeat (first | (with_reducible first | exact HB.out | apply below_alloc | apply pw_below_drewN | apply below_drew1 | refine below_set ?_ GE399.out) | exact HB.out)))); (case aL => have := LMc31.out; omega); intro v407 w36 ho hb hg hat; rw [← Ny406.out] at ho; have n0_ := Aside0.mk (blk_grown (g := gb399) (o := .cells #[.int .i64 ((rd_T46 l0 x12_1).f0), .int .i64 ((rd_T46 l0 x12_1).f1), .int .i64 ((rd_T46 l0 x12_1).f2), .int .i64 ((rd_T46 l0 x12_1).f3), .string ((rd_T46 l0 x12_1).f4)] 46 (0, 0)) (by (with_reducible repeat (first | refine blk_drewN ?_ _ | refine blk_drew ?_ | refine blk_alloc ?_ _)); exact BK399.out) hg (Kd.R_ne HO_4.out BK399.out (by decide))); have n1_ := Aside0.mk (Kd.R_after (ok := (fun _ => True)) (by (with_reducible repeat (first | apply Kd.R_alloc | apply Kd.R_drewN | apply Kd.R_drew)); exact Kd.R_mono HO405.out (fun _ hk => ⟨trivial, hk⟩)) hg hat); have n2_ := Aside0.mk (hb); have n3_ := Aside0.mk (ho); clear BK399; clear HO405; clear HB; clear HO_4; have BK399 := n0_; have HO405 := n1_; have HB := n2_; have HO408 := n3_; clear n0_ n1_ n2_ n3_; clear ho hb hg hat))
                                    go_roundg kj13
                                    case measure => have := HK1.out; have := HJ6.out; have := HJ13.out; omega
                                    case rel => exact ⟨(y403), (y406), (wrap64 (x12_1 + 1)), (by first | rfl | (simp; done) | (simp [*]; done)), H', ⟨by have := HK1.out; have := HJ6.out; have := HJ13.out; omega⟩, ⟨by (with_reducible repeat (first | apply Kd.R_alloc | apply Kd.R_drewN | apply Kd.R_drew)); exact Kd.R_mono HO405.out (fun _ hk => hk.2)⟩, ⟨by (with_reducible repeat (first | apply Kd.R_alloc | apply Kd.R_drewN | apply Kd.R_drew)); exact HO408.out⟩, ⟨by repeat (first | (with_reducible first | exact HB.out | apply below_alloc | apply pw_below_drewN | apply below_drew1 | refine below_set ?_ GE399.out) | exact HB.out)⟩⟩
                                  · rw [if_neg c31] at H
                                    exact absurd H (by simp)
                                · rw [if_neg c30] at H
                                  have c30b0 : (((rd_T46 l0 x12_1).f1) == 4) = false := beq_eq_false_iff_ne.mpr c30
                                  have c30b1 : (((rd_T46 l0 x12_1).f1) != 4) = true := bne_iff_ne.mpr c30
                                  have H' := Aside0.mk H
                                  clear H
                                  have hcz37_0 : wc.cell? ⟨gb399, 0, none⟩ = some (.int .i64 ((rd_T46 l0 x12_1).f0)) := (blk_cell BK399.out 0).trans rfl
                                  have hcz37_1 : wc.cell? ⟨gb399, 1, none⟩ = some (.int .i64 ((rd_T46 l0 x12_1).f1)) := (blk_cell BK399.out 1).trans rfl
                                  have hcz37_2 : wc.cell? ⟨gb399, 2, none⟩ = some (.int .i64 ((rd_T46 l0 x12_1).f2)) := (blk_cell BK399.out 2).trans rfl
                                  have hcz37_3 : wc.cell? ⟨gb399, 3, none⟩ = some (.int .i64 ((rd_T46 l0 x12_1).f3)) := (blk_cell BK399.out 3).trans rfl
                                  have hcz37_4 : wc.cell? ⟨gb399, 4, none⟩ = some (.string ((rd_T46 l0 x12_1).f4)) := (blk_cell BK399.out 4).trans rfl
                                  have hfz37_0 := blk_frozen BK399.out 0
                                  have hfz37_1 := blk_frozen BK399.out 1
                                  have hfz37_2 := blk_frozen BK399.out 2
                                  have hfz37_3 := blk_frozen BK399.out 3
                                  have hfz37_4 := blk_frozen BK399.out 4
                                  obtain ⟨Ao38, co38, eo38⟩ := Kd.R_slice HO_3.out
                                  subst eo38
                                  go_wp2_with (first | ((with_reducible refine gate_callee (f := 39) rfl ?_); refine goesL_ (some 41) rfl rfl Tryz.func39 (by kernel_rfl) rfl #[.slice Ao38 x3_1.length co38, .int .i64 ((rd_T46 l0 x12_1).f3)] rfl (by (try simp only [List.map_toArray, List.map_cons, List.map_nil]); first | done | rfl | (simp only [List.length_drop, List.length_take]; rfl)) ?_; (with_reducible refine (jobshellref49_has.calls kj13 _ _ x3_1 ((rd_T46 l0 x12_1).f3) false _ ?side1 ?side2 A25.out).mono ?_); (case side1 => repeat (first | exact (Kd.R_reads' HO_3.out).2.2 | (with_reducible refine Kd.C_alloc ?_ _) | (with_reducible refine Kd.C_drewN ?_ _) | (with_reducible refine Kd.C_drew ?_))); (case side2 => exact (Kd.R_reads' HO_3.out).2.1); rintro e w' ⟨rfl, ⟨nd, rfl⟩⟩; refine ⟨_, rfl, ?_⟩) | ((with_reducible refine gate_builtin (b := .append) (xs := #[.tmp 42, .tmp 45]) rfl ?_); at_builtin; refine Kd.R_append (Kd.int .i64) (w0 := w) w.heap.size rfl (.tmp 42) (.tmp 45) 28 3 (.int .i64 0) 8 rfl Tryz.underlying28 info3 rfl (by decide) (by omega) (.slice Ao38 x3_1.length co38) x3_1 ((rd_T46 l0 x12_1).f3) [.int .i64 ((rd_T46 l0 x12_1).f3)] (fun k_ => some k_ ≠ (u4 : Value).ownBlock) (fun _ => False) rfl rfl ?aP (fun _ hk => hk.elim) ?aF ?aO ?aB ?aS ?aL ?_; (case aP => exact rfl); (case aB => exact (by repeat (first | (with_reducible first | exact HB.out | apply below_alloc | apply pw_below_drewN | apply below_drew1 | refine below_set ?_ GE399.out) | exact HB.out))); (case aF => exact (fun k_ hk => Kd.fresh' (Kd.R_lt (by (with_reducible repeat (first | apply Kd.R_alloc | apply Kd.R_drewN | apply Kd.R_drew)); exact HO_4.out)) k_ hk)); (case aO => exact (by (with_reducible repeat (first | apply Kd.R_alloc | apply Kd.R_drewN | apply Kd.R_drew)); exact HO_3.out)); (case aS => exact (below_size (by repeat (first | (with_reducible first | exact HB.out | apply below_alloc | apply pw_below_drewN | apply below_drew1 | refine below_set ?_ GE399.out) | exact HB.out)))); (case aL => have := LMc29.out; omega); intro v404 w39 ho hb hg hat; rw [← Ny403.out] at ho; have n0_ := Aside0.mk (Kd.R_after (ok := (fun _ => True)) (by (with_reducible repeat (first | apply Kd.R_alloc | apply Kd.R_drewN | apply Kd.R_drew)); exact Kd.R_mono HO_4.out (fun _ hk => ⟨trivial, hk⟩)) hg hat); have n1_ := Aside0.mk (blk_grown (g := gb399) (o := .cells #[.int .i64 ((rd_T46 l0 x12_1).f0), .int .i64 ((rd_T46 l0 x12_1).f1), .int .i64 ((rd_T46 l0 x12_1).f2), .int .i64 ((rd_T46 l0 x12_1).f3), .string ((rd_T46 l0 x12_1).f4)] 46 (0, 0)) (by (with_reducible repeat (first | refine blk_drewN ?_ _ | refine blk_drew ?_ | refine blk_alloc ?_ _)); exact BK399.out) hg (Kd.R_ne HO_3.out BK399.out (by decide))); have n2_ := Aside0.mk (hb); have n3_ := Aside0.mk (ho); clear HO_4; clear BK399; clear HB; clear HO_3; have HO_4 := n0_; have BK399 := n1_; have HB := n2_; have HO405 := n3_; clear n0_ n1_ n2_ n3_; clear ho hb hg hat; have hcz40_0 : w39.cell? ⟨gb399, 0, none⟩ = some (.int .i64 ((rd_T46 l0 x12_1).f0)) := (blk_cell BK399.out 0).trans rfl; have hcz40_1 : w39.cell? ⟨gb399, 1, none⟩ = some (.int .i64 ((rd_T46 l0 x12_1).f1)) := (blk_cell BK399.out 1).trans rfl; have hcz40_2 : w39.cell? ⟨gb399, 2, none⟩ = some (.int .i64 ((rd_T46 l0 x12_1).f2)) := (blk_cell BK399.out 2).trans rfl; have hcz40_3 : w39.cell? ⟨gb399, 3, none⟩ = some (.int .i64 ((rd_T46 l0 x12_1).f3)) := (blk_cell BK399.out 3).trans rfl; have hcz40_4 : w39.cell? ⟨gb399, 4, none⟩ = some (.string ((rd_T46 l0 x12_1).f4)) := (blk_cell BK399.out 4).trans rfl; have hfz40_0 := blk_frozen BK399.out 0; have hfz40_1 := blk_frozen BK399.out 1; have hfz40_2 := blk_frozen BK399.out 2; have hfz40_3 := blk_frozen BK399.out 3; have hfz40_4 := blk_frozen BK399.out 4))
                                  go_roundg kj13
                                  case measure => have := HK1.out; have := HJ6.out; have := HJ13.out; omega
                                  case rel => exact ⟨(y403), (x4_1), (wrap64 (x12_1 + 1)), (by first | rfl | (simp; done) | (simp [*]; done)), H', ⟨by have := HK1.out; have := HJ6.out; have := HJ13.out; omega⟩, ⟨by (with_reducible repeat (first | apply Kd.R_alloc | apply Kd.R_drewN | apply Kd.R_drew)); exact HO405.out⟩, ⟨by (with_reducible repeat (first | apply Kd.R_alloc | apply Kd.R_drewN | apply Kd.R_drew)); exact Kd.R_mono HO_4.out (fun _ hk => hk.2)⟩, ⟨by repeat (first | (with_reducible first | exact HB.out | apply below_alloc | apply pw_below_drewN | apply below_drew1 | refine below_set ?_ GE399.out) | exact HB.out)⟩⟩
                              · rw [if_neg c29] at H
                                exact absurd H (by simp)
                          · rw [if_neg c24] at H
                            have c24b0 : (((rd_T46 l0 x12_1).f1) == 3) = false := beq_eq_false_iff_ne.mpr c24
                            have c24b1 : (((rd_T46 l0 x12_1).f1) != 3) = true := bne_iff_ne.mpr c24
                            by_cases c41 : ((rd_T46 l0 x12_1).f1) = 4
                            · rw [if_pos c41] at H
                              have c41b0 : (((rd_T46 l0 x12_1).f1) == 4) = true := beq_iff_eq.mpr c41
                              have c41b1 : (((rd_T46 l0 x12_1).f1) != 4) = false := bne_eq_false_iff_eq.mpr c41
                              clear c41
                              by_cases c42 : x4_1.length < 17592186044416
                              · rw [if_pos c42] at H
                                have LMc42 := Aside0.mk c42
                                clear c42
                                obtain ⟨y409, hy409⟩ : ∃ y_ : List Int, y_ = (x4_1 ++ [((rd_T46 l0 x12_1).f0)]) := ⟨_, rfl⟩
                                replace H : (jobshellref49_Check.l0 kj13 x3_1 y409 l0 (l0.length : Int) (wrap64 (x12_1 + 1))) = some r := by first | (rw [hy409]; with_reducible exact H) | (have H2_ := (Option.bind_some _ _).symm.trans H; rw [hy409]; with_reducible exact H2_) | (have H2_ := (Option.bind_some _ _).symm.trans H; with_reducible exact H2_) | with_reducible exact H | (rw [hy409]; exact H) | exact H
                                have Ny409 := Aside0.mk hy409
                                clear hy409
                                have H' := Aside0.mk H
                                clear H
                                have hcz43_0 : wc.cell? ⟨gb399, 0, none⟩ = some (.int .i64 ((rd_T46 l0 x12_1).f0)) := (blk_cell BK399.out 0).trans rfl
                                have hcz43_1 : wc.cell? ⟨gb399, 1, none⟩ = some (.int .i64 ((rd_T46 l0 x12_1).f1)) := (blk_cell BK399.out 1).trans rfl
                                have hcz43_2 : wc.cell? ⟨gb399, 2, none⟩ = some (.int .i64 ((rd_T46 l0 x12_1).f2)) := (blk_cell BK399.out 2).trans rfl
                                have hcz43_3 : wc.cell? ⟨gb399, 3, none⟩ = some (.int .i64 ((rd_T46 l0 x12_1).f3)) := (blk_cell BK399.out 3).trans rfl
                                have hcz43_4 : wc.cell? ⟨gb399, 4, none⟩ = some (.string ((rd_T46 l0 x12_1).f4)) := (blk_cell BK399.out 4).trans rfl
                                have hfz43_0 := blk_frozen BK399.out 0
                                have hfz43_1 := blk_frozen BK399.out 1
                                have hfz43_2 := blk_frozen BK399.out 2
                                have hfz43_3 := blk_frozen BK399.out 3
                                have hfz43_4 := blk_frozen BK399.out 4
                                go_wp2_with (first | ((with_reducible refine gate_builtin (b := .append) (xs := #[.tmp 50, .tmp 53]) rfl ?_); at_builtin; refine Kd.R_append (Kd.int .i64) (w0 := w) w.heap.size rfl (.tmp 50) (.tmp 53) 28 3 (.int .i64 0) 8 rfl Tryz.underlying28 info3 rfl (by decide) (by omega) u4 x4_1 ((rd_T46 l0 x12_1).f0) [.int .i64 ((rd_T46 l0 x12_1).f0)] (fun k_ => some k_ ≠ (u3 : Value).ownBlock) (fun _ => False) rfl rfl ?aP (fun _ hk => hk.elim) ?aF ?aO ?aB ?aS ?aL ?_; (case aP => exact rfl); (case aB => exact (by repeat (first | (with_reducible first | exact HB.out | apply below_alloc | apply pw_below_drewN | apply below_drew1 | refine below_set ?_ GE399.out) | exact HB.out))); (case aF => exact (fun k_ hk => Kd.fresh' (Kd.R_lt (by (with_reducible repeat (first | apply Kd.R_alloc | apply Kd.R_drewN | apply Kd.R_drew)); exact HO_3.out)) k_ hk)); (case aO => exact (by (with_reducible repeat (first | apply Kd.R_alloc | apply Kd.R_drewN | apply Kd.R_drew)); exact HO_4.out)); (case aS => exact (below_size (by repeat (first | (with_reducible first | exact HB.out | apply below_alloc | apply pw_below_drewN | apply below_drew1 | refine below_set ?_ GE399.out) | exact HB.out)))); (case aL => have := LMc42.out; omega); intro v410 w44 ho hb hg hat; rw [← Ny409.out] at ho; have n0_ := Aside0.mk (Kd.R_after (ok := (fun _ => True)) (by (with_reducible repeat (first | apply Kd.R_alloc | apply Kd.R_drewN | apply Kd.R_drew)); exact Kd.R_mono HO_3.out (fun _ hk => ⟨trivial, hk⟩)) hg hat); have n1_ := Aside0.mk (blk_grown (g := gb399) (o := .cells #[.int .i64 ((rd_T46 l0 x12_1).f0), .int .i64 ((rd_T46 l0 x12_1).f1), .int .i64 ((rd_T46 l0 x12_1).f2), .int .i64 ((rd_T46 l0 x12_1).f3), .string ((rd_T46 l0 x12_1).f4)] 46 (0, 0)) (by (with_reducible repeat (first | refine blk_drewN ?_ _ | refine blk_drew ?_ | refine blk_alloc ?_ _)); exact BK399.out) hg (Kd.R_ne HO_4.out BK399.out (by decide))); have n2_ := Aside0.mk (hb); have n3_ := Aside0.mk (ho); clear HO_3; clear BK399; clear HB; clear HO_4; have HO_3 := n0_; have BK399 := n1_; have HB := n2_; have HO411 := n3_; clear n0_ n1_ n2_ n3_; clear ho hb hg hat))
                                go_roundg kj13
                                case measure => have := HK1.out; have := HJ6.out; have := HJ13.out; omega
                                case rel => exact ⟨(x3_1), (y409), (wrap64 (x12_1 + 1)), (by first | rfl | (simp; done) | (simp [*]; done)), H', ⟨by have := HK1.out; have := HJ6.out; have := HJ13.out; omega⟩, ⟨by (with_reducible repeat (first | apply Kd.R_alloc | apply Kd.R_drewN | apply Kd.R_drew)); exact Kd.R_mono HO_3.out (fun _ hk => hk.2)⟩, ⟨by (with_reducible repeat (first | apply Kd.R_alloc | apply Kd.R_drewN | apply Kd.R_drew)); exact HO411.out⟩, ⟨by repeat (first | (with_reducible first | exact HB.out | apply below_alloc | apply pw_below_drewN | apply below_drew1 | refine below_set ?_ GE399.out) | exact HB.out)⟩⟩
                              · rw [if_neg c42] at H
                                exact absurd H (by simp)
                            · rw [if_neg c41] at H
                              have c41b0 : (((rd_T46 l0 x12_1).f1) == 4) = false := beq_eq_false_iff_ne.mpr c41
                              have c41b1 : (((rd_T46 l0 x12_1).f1) != 4) = true := bne_iff_ne.mpr c41
                              have H' := Aside0.mk H
                              clear H
                              have hcz45_0 : wc.cell? ⟨gb399, 0, none⟩ = some (.int .i64 ((rd_T46 l0 x12_1).f0)) := (blk_cell BK399.out 0).trans rfl
                              have hcz45_1 : wc.cell? ⟨gb399, 1, none⟩ = some (.int .i64 ((rd_T46 l0 x12_1).f1)) := (blk_cell BK399.out 1).trans rfl
                              have hcz45_2 : wc.cell? ⟨gb399, 2, none⟩ = some (.int .i64 ((rd_T46 l0 x12_1).f2)) := (blk_cell BK399.out 2).trans rfl
                              have hcz45_3 : wc.cell? ⟨gb399, 3, none⟩ = some (.int .i64 ((rd_T46 l0 x12_1).f3)) := (blk_cell BK399.out 3).trans rfl
                              have hcz45_4 : wc.cell? ⟨gb399, 4, none⟩ = some (.string ((rd_T46 l0 x12_1).f4)) := (blk_cell BK399.out 4).trans rfl
                              have hfz45_0 := blk_frozen BK399.out 0
                              have hfz45_1 := blk_frozen BK399.out 1
                              have hfz45_2 := blk_frozen BK399.out 2
                              have hfz45_3 := blk_frozen BK399.out 3
                              have hfz45_4 := blk_frozen BK399.out 4
                              go_wp2
                              go_roundg kj13
                              case measure => have := HK1.out; have := HJ6.out; have := HJ13.out; omega
                              case rel => exact ⟨(x3_1), (x4_1), (wrap64 (x12_1 + 1)), (by first | rfl | (simp; done) | (simp [*]; done)), H', ⟨by have := HK1.out; have := HJ6.out; have := HJ13.out; omega⟩, ⟨by (with_reducible repeat (first | apply Kd.R_alloc | apply Kd.R_drewN | apply Kd.R_drew)); exact HO_3.out⟩, ⟨by (with_reducible repeat (first | apply Kd.R_alloc | apply Kd.R_drewN | apply Kd.R_drew)); exact HO_4.out⟩, ⟨by repeat (first | (with_reducible first | exact HB.out | apply below_alloc | apply pw_below_drewN | apply below_drew1 | refine below_set ?_ GE399.out) | exact HB.out)⟩⟩
            · rw [if_neg c6] at H
              exact absurd H (by simp)
          · rw [if_neg c5] at H
            exact absurd H (by simp)
        · rw [if_neg c4] at H
          have c4b0 : decide (x12_1 < (l0.length : Int)) = false := decide_eq_false c4
          clear c4
          obtain rfl := Option.some.inj H
          go_wp2
          go_ret
          exact ⟨by first | rfl | (simp [errW_none, errW_some] <;> rfl) | (simp [*, errW_none, errW_some] <;> rfl), by repeat (first | (with_reducible first | exact HB.out | apply below_alloc | apply pw_below_drewN | apply below_drew1) | exact HB.out)⟩
  · rw [if_neg c2] at H
    exact absurd H (by simp)

-- NOT PRINTED: function 6 (jobshelllaw49_TraceReads)

end Go.Proofs.YtlhofngbhhdioaaGreatDoor.PTraceReads
