/- Rpure: part of the proof (own work of this claim). -/
import Derived.Test.YtlhofngbhhdioaaGreatDoorRout
import Derived.Test.YtlhofngbhhdioaaGreatDoorPTraceReadsx12
import Derived.Test.YtlhofngbhhdioaaGreatDoorPTraceReadsx14
set_option linter.unusedVariables false
set_option linter.unusedSimpArgs false
set_option linter.deprecated false
/- The plain law of TraceReads. -/
namespace Go.Proofs.YtlhofngbhhdioaaGreatDoor
open Go Go.RowKit PTraceReads
open Go.Proofs.YtlhofngbhhdioaaGreatDoorW.PrintWords

theorem wrap_nat (i : Nat) (h : i < 1000000) : wrap64 ((i : Int) + 1) = ((i + 1 : Nat) : Int) := by unfold wrap64; omega

theorem few_l (l : List S46) (hl : l.length ≤ 60) : ∀ (d k i : Nat), i ≤ l.length → l.length - i = d → d + 1 ≤ k →
    ∃ b, jobshelllaw49_few.l0 k l (l.length : Int) (i : Int) = some b ∧ (b = true → ∀ e ∈ l.drop i, e.f4.size ≤ 200)
  | d, k, i, hi, hd, hk => by
    obtain ⟨k, rfl⟩ : ∃ m, k = m + 1 := ⟨k - 1, by omega⟩
    simp only [jobshelllaw49_few.l0]
    by_cases h : i < l.length
    · obtain ⟨d, rfl⟩ : ∃ m, d = m + 1 := ⟨d - 1, by omega⟩
      rw [if_pos (by omega), if_pos (by omega), if_pos (by omega), rd46 l i h, wrap_nat i (by omega)]
      by_cases hs : ((l[i].f4.size : Nat) : Int) > 200
      · rw [if_pos hs]
        exact ⟨_, rfl, fun h => by cases h⟩
      · rw [if_neg hs]
        obtain ⟨b, hb, hb2⟩ := few_l l hl d k (i + 1) (by omega) (by omega) (by omega)
        refine ⟨b, hb, fun hb3 e he => ?_⟩
        rw [List.drop_eq_getElem_cons h] at he
        rcases List.mem_cons.1 he with rfl | he
        · omega
        · exact hb2 hb3 e he
    · rw [if_neg (by omega)]
      exact ⟨true, rfl, fun _ e he => by rw [List.drop_eq_nil_of_le (by omega)] at he; cases he⟩

theorem few_f (l : List S46) : ∃ b, jobshelllaw49_few.f 100 l = some b ∧ (b = true → l.length ≤ 60 ∧ ∀ e ∈ l, e.f4.size ≤ 200) := by
  unfold jobshelllaw49_few.f
  by_cases h : (l.length : Int) > 60
  · rw [if_pos h]; exact ⟨_, rfl, fun h => by cases h⟩
  · rw [if_neg h]
    obtain ⟨b, hb, hb2⟩ := few_l l (by omega) l.length 100 0 (by omega) (by omega) (by omega)
    exact ⟨b, hb, fun h2 => ⟨by omega, fun e he => hb2 h2 e (by simpa using he)⟩⟩

theorem com_l (l : List S46) (hl : l.length ≤ 60) : ∀ (d k i : Nat) (acc : List ByteArray), i ≤ l.length → l.length - i = d → d + 1 ≤ k → acc.length ≤ i →
    ∃ r, trace_Commands.l0 k acc l (l.length : Int) (i : Int) = some r ∧ jobshellref49_Commands.l0 k acc l (l.length : Int) (i : Int) = some r ∧ r.length ≤ l.length
  | d, k, i, acc, hi, hd, hk, ha => by
    obtain ⟨k, rfl⟩ : ∃ m, k = m + 1 := ⟨k - 1, by omega⟩
    simp only [trace_Commands.l0, jobshellref49_Commands.l0]
    by_cases h : i < l.length
    · obtain ⟨d, rfl⟩ : ∃ m, d = m + 1 := ⟨d - 1, by omega⟩
      have g0 : (0 : Int) ≤ (i : Int) := by omega
      have g1 : (i : Int) < (l.length : Int) := by omega
      have g2 : acc.length < 8796093022208 := by omega
      simp only [if_pos g0, if_pos g1, rd46 l i h, wrap_nat i (by omega)]
      by_cases hs : l[i].f1 = 2
      · simp only [if_pos hs, if_pos g2]
        exact com_l l hl d k (i + 1) _ (by omega) (by omega) (by omega) (by simp; omega)
      · simp only [if_neg hs]
        exact com_l l hl d k (i + 1) _ (by omega) (by omega) (by omega) (by omega)
    · have g1 : ¬ (i : Int) < (l.length : Int) := by omega
      simp only [if_neg g1]
      exact ⟨acc, rfl, rfl, by omega⟩

theorem com_f (l : List S46) (hl : l.length ≤ 60) : ∃ r, trace_Commands.f 100 l = some r ∧ jobshellref49_Commands.f 100 l = some r ∧ r.length ≤ 60 := by
  obtain ⟨r, h1, h2, h3⟩ := com_l l hl l.length 100 0 [] (by omega) (by omega) (by omega) (by simp)
  exact ⟨r, h1, h2, by omega⟩

theorem texts_l (l : List ByteArray) (hl : l.length ≤ 60) : ∀ (d k i : Nat), i ≤ l.length → l.length - i = d → d + 1 ≤ k →
    jobshelllaw49_texts.l0 k l l (l.length : Int) (i : Int) = some true
  | d, k, i, hi, hd, hk => by
    obtain ⟨k, rfl⟩ : ∃ m, k = m + 1 := ⟨k - 1, by omega⟩
    simp only [jobshelllaw49_texts.l0]
    by_cases h : i < l.length
    · obtain ⟨d, rfl⟩ : ∃ m, d = m + 1 := ⟨d - 1, by omega⟩
      rw [if_pos (by omega), if_pos (by omega), if_pos (by omega), if_pos (by omega), if_pos trivial, wrap_nat i (by omega)]
      exact texts_l l hl d k (i + 1) (by omega) (by omega) (by omega)
    · rw [if_neg (by omega)]

theorem texts_f (l : List ByteArray) (hl : l.length ≤ 60) : jobshelllaw49_texts.f 100 l l = some true := by
  unfold jobshelllaw49_texts.f
  rw [if_pos rfl]
  exact texts_l l hl l.length 100 0 (by omega) (by omega) (by omega)

theorem out_l (pid : Int) (l : List S46) (hl : l.length ≤ 60) (hs : ∀ e ∈ l, e.f4.size ≤ 200) : ∀ (d k i : Nat) (acc : ByteArray), i ≤ l.length → l.length - i = d → d + 1 ≤ k → acc.size ≤ 1000 * i →
    jobshellref49_Output.l0 k pid acc l (l.length : Int) (i : Int) = some (acc ++ ⟨(outL pid (l.drop i)).toArray⟩)
  | d, k, i, acc, hi, hd, hk, ha => by
    obtain ⟨k, rfl⟩ : ∃ m, k = m + 1 := ⟨k - 1, by omega⟩
    simp only [jobshellref49_Output.l0]
    by_cases h : i < l.length
    · obtain ⟨d, rfl⟩ : ∃ m, d = m + 1 := ⟨d - 1, by omega⟩
      have hsz := hs l[i] (List.getElem_mem h)
      have hdr : outL pid (l.drop i) = outE pid l[i] ++ outL pid (l.drop (i + 1)) := by
        rw [List.drop_eq_getElem_cons h]; simp only [outL, List.flatMap_cons]
      have no : ¬ (l[i].f1 = 6 ∧ l[i].f0 = pid ∧ l[i].f3 = 1) → jobshellref49_Output.l0 k pid acc l (l.length : Int) ((i + 1 : Nat) : Int) = some (acc ++ ⟨(outL pid (l.drop i)).toArray⟩) := fun hn => by
        rw [out_l pid l hl hs d k (i + 1) acc (by omega) (by omega) (by omega) (by omega), hdr, outE, if_neg hn, List.nil_append]
      rw [if_pos (by omega), if_pos (by omega), if_pos (by omega), rd46 l i h, wrap_nat i (by omega)]
      by_cases c1 : l[i].f1 = 6
      · rw [if_pos c1]
        by_cases c2 : l[i].f0 = pid
        · rw [if_pos c2]
          by_cases c3 : l[i].f3 = 1
          · rw [if_pos c3, if_pos (by omega), out_l pid l hl hs d k (i + 1) _ (by omega) (by omega) (by omega) (by rw [ByteArray.size_append]; omega), hdr, outE, if_pos ⟨c1, c2, c3⟩]
            congr 1
            apply ByteArray.ext
            simp only [ByteArray.data_append, Array.append_assoc]
            congr 1
            apply Array.toList_inj.1
            simp
          · rw [if_neg c3]; exact no fun h => c3 h.2.2
        · rw [if_neg c2]; exact no fun h => c2 h.2.1
      · rw [if_neg c1]; exact no fun h => c1 h.1
    · rw [if_neg (by omega), List.drop_eq_nil_of_le (by omega)]
      congr 1
      apply ByteArray.ext
      simp [outL, ByteArray.data_append]

theorem out_f (pid : Int) (l : List S46) (hl : l.length ≤ 60) (hs : ∀ e ∈ l, e.f4.size ≤ 200) : jobshellref49_Output.f 100 l pid = some ⟨(outL pid l).toArray⟩ := by
  unfold jobshellref49_Output.f
  have h := out_l pid l hl hs l.length 100 0 ⟨#[]⟩ (by omega) (by omega) (by omega) (by decide)
  rw [show ((0 : Nat) : Int) = 0 from rfl] at h
  rw [h]
  congr 1

theorem idx_l (x : List Int) (n : Int) (hx : x.length ≤ 100) : ∀ (d k i : Nat), i ≤ x.length → x.length - i = d → d + 1 ≤ k →
    ∃ r : Int, slices_Index_int_int.l0 k x n (x.length : Int) (i : Int) = some r ∧ (r ≥ 0 ↔ n ∈ x.drop i)
  | d, k, i, hi, hd, hk => by
    obtain ⟨k, rfl⟩ : ∃ m, k = m + 1 := ⟨k - 1, by omega⟩
    simp only [slices_Index_int_int.l0]
    by_cases h : i < x.length
    · obtain ⟨d, rfl⟩ : ∃ m, d = m + 1 := ⟨d - 1, by omega⟩
      have hr : rd x (i : Int) = x[i] := by simp [rd, h]
      rw [if_pos (by omega), if_pos (by omega), if_pos (by omega), hr, wrap_nat i (by omega), List.drop_eq_getElem_cons h]
      by_cases c : n = x[i]
      · rw [if_pos c]
        exact ⟨_, rfl, fun _ => by rw [c]; exact List.mem_cons_self .., fun _ => by omega⟩
      · rw [if_neg c]
        obtain ⟨r, h1, h2⟩ := idx_l x n hx d k (i + 1) (by omega) (by omega) (by omega)
        exact ⟨r, h1, by rw [h2, List.mem_cons]; exact ⟨.inr, fun h => h.resolve_left c⟩⟩
    · rw [if_neg (by omega), List.drop_eq_nil_of_le (by omega)]
      exact ⟨_, rfl, by simp⟩

theorem con_f (x : List Int) (n : Int) (k : Nat) (hx : x.length ≤ 100) (hk : 101 ≤ k) : slices_Contains_int_int.f k x n = some (decide (n ∈ x)) := by
  unfold slices_Contains_int_int.f slices_Index_int_int.f
  obtain ⟨r, h1, h2⟩ := idx_l x n hx x.length k 0 (by omega) (by omega) (by omega)
  rw [show ((0 : Nat) : Int) = 0 from rfl] at h1
  rw [h1]
  simp only [Option.bind_some]
  congr 1
  simpa using h2

theorem has_l (x : List Int) (n : Int) (hx : x.length ≤ 100) : ∀ (d k i : Nat), i ≤ x.length → x.length - i = d → d + 1 ≤ k →
    jobshellref49_has.l0 k n x (x.length : Int) (i : Int) = some (decide (n ∈ x.drop i))
  | d, k, i, hi, hd, hk => by
    obtain ⟨k, rfl⟩ : ∃ m, k = m + 1 := ⟨k - 1, by omega⟩
    simp only [jobshellref49_has.l0]
    by_cases h : i < x.length
    · obtain ⟨d, rfl⟩ : ∃ m, d = m + 1 := ⟨d - 1, by omega⟩
      have hr : rd x (i : Int) = x[i] := by simp [rd, h]
      rw [if_pos (by omega), if_pos (by omega), if_pos (by omega), hr, wrap_nat i (by omega), List.drop_eq_getElem_cons h]
      by_cases c : x[i] = n
      · rw [if_pos c]
        congr 1
        exact (decide_eq_true (by rw [c]; exact List.mem_cons_self ..)).symm
      · rw [if_neg c, has_l x n hx d k (i + 1) (by omega) (by omega) (by omega)]
        congr 1
        have c' : n ≠ x[i] := fun h => c h.symm
        simp only [List.mem_cons, c', false_or]
    · rw [if_neg (by omega), List.drop_eq_nil_of_le (by omega)]
      simp

theorem has_f (x : List Int) (n : Int) (k : Nat) (hx : x.length ≤ 100) (hk : 101 ≤ k) : jobshellref49_has.f k x n = some (decide (n ∈ x)) := by
  unfold jobshellref49_has.f
  have h := has_l x n hx x.length k 0 (by omega) (by omega) (by omega)
  rw [show ((0 : Nat) : Int) = 0 from rfl] at h
  rw [h]
  simp

set_option maxRecDepth 100000 in
theorem check_l (l : List S46) (hl : l.length ≤ 60) : ∀ (d k1 k2 i : Nat) (x y : List Int), i ≤ l.length → l.length - i = d → 4 * d + 200 ≤ k1 → 4 * d + 200 ≤ k2 → x.length ≤ i + 1 → y.length ≤ i →
    ∃ r, trace_Check.l0 k1 x y l (l.length : Int) (i : Int) = some r ∧ jobshellref49_Check.l0 k2 x y l (l.length : Int) (i : Int) = some r
  | d, k1, k2, i, x, y, hi, hd, hk1, hk2, hx, hy => by
    obtain ⟨k1, rfl⟩ : ∃ m, k1 = m + 4 := ⟨k1 - 4, by omega⟩
    obtain ⟨k2, rfl⟩ : ∃ m, k2 = m + 4 := ⟨k2 - 4, by omega⟩
    simp only [trace_Check.l0, jobshellref49_Check.l0]
    by_cases h : i < l.length
    · obtain ⟨d, rfl⟩ : ∃ m, d = m + 1 := ⟨d - 1, by omega⟩
      have g0 : (0 : Int) ≤ (i : Int) := by omega
      have g1 : (i : Int) < (l.length : Int) := by omega
      have hw := wrap_nat i (by omega)
      have n1 : x.length < 17592186044416 := by omega
      have n2 : y.length < 17592186044416 := by omega
      simp only [trace_Check.j1, jobshellref49_Check.j1, trace_Check.j2, jobshellref49_Check.j2, trace_Check.j3, con_f x _ _ (by omega) (show 101 ≤ k1 + 2 by omega), con_f x _ _ (by omega) (show 101 ≤ k1 + 1 by omega), con_f y _ _ (by omega) (show 101 ≤ k1 + 2 by omega),
        has_f x _ _ (by omega) (show 101 ≤ k2 + 2 by omega), has_f x _ _ (by omega) (show 101 ≤ k2 + 1 by omega), has_f y _ _ (by omega) (show 101 ≤ k2 + 2 by omega), Option.bind_some, hw, if_pos g0, if_pos g1, if_pos n1, if_pos n2, rd46 l i h, decide_eq_true_eq]
      have ih := fun x y hx hy => check_l l hl d k1 (k2 + 1) (i + 1) x y (by omega) (by omega) (by omega) (by omega) hx hy
      by_cases c1 : l[i].f1 < 1
      · simp only [if_pos c1, if_true]; exact ⟨_, rfl, rfl⟩
      by_cases c2 : l[i].f1 > 6
      · simp only [if_neg c1, if_pos c2]; exact ⟨_, rfl, rfl⟩
      by_cases c3 : l[i].f0 ∈ x
      · by_cases c4 : l[i].f0 ∈ y
        · simp only [if_neg c1, if_neg c2, if_pos c3, if_pos c4]; exact ⟨_, rfl, rfl⟩
        · by_cases c5 : l[i].f1 = 3
          · have c7 : ¬ l[i].f1 = 4 := by omega
            by_cases c6 : l[i].f3 ∈ x
            · simp only [if_neg c1, if_neg c2, if_pos c3, if_neg c4, if_pos c5, if_pos c6]; exact ⟨_, rfl, rfl⟩
            · simp only [if_neg c1, if_neg c2, if_pos c3, if_neg c4, if_pos c5, if_neg c6, if_neg c7]
              exact ih _ _ (by simp; omega) (by omega)
          · by_cases c6 : l[i].f1 = 4
            · simp only [if_neg c1, if_neg c2, if_pos c3, if_neg c4, if_neg c5, if_pos c6, if_false, Bool.false_eq_true]
              exact ih _ _ (by omega) (by simp; omega)
            · simp only [if_neg c1, if_neg c2, if_pos c3, if_neg c4, if_neg c5, if_neg c6, if_false, Bool.false_eq_true]
              exact ih _ _ (by omega) (by omega)
      · simp only [if_neg c1, if_neg c2, if_neg c3, if_true]; exact ⟨_, rfl, rfl⟩
    · have g1 : ¬ (i : Int) < (l.length : Int) := by omega
      simp only [if_neg g1]
      exact ⟨_, rfl, rfl⟩

theorem check_f (l : List S46) (hl : l.length ≤ 60) : ∃ r, trace_Check.f 600 l = some r ∧ jobshellref49_Check.f 600 l = some r := by
  obtain ⟨r, h1, h2⟩ := check_l l hl l.length 600 600 0 [2] [] (by omega) (by omega) (by omega) (by omega) (by simp) (by simp)
  refine ⟨r, h1, ?_⟩
  unfold jobshellref49_Check.f
  rw [if_pos (by simp)]
  exact h2
end Go.Proofs.YtlhofngbhhdioaaGreatDoor
