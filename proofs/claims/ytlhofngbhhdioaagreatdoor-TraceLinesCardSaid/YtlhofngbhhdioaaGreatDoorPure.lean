/- Pure: part of the proof (own work of this claim). -/
import Derived.Test.YtlhofngbhhdioaaGreatDoorLine
import Derived.Test.YtlhofngbhhdioaaGreatDoorGB
set_option linter.unusedVariables false
set_option linter.unusedSimpArgs false
set_option linter.deprecated false
/- The plain law: the two Lines are one. -/
namespace Go.Proofs.YtlhofngbhhdioaaGreatDoor
open Go Go.RowKit PTraceLines
open Go.Proofs.YtlhofngbhhdioaaGreatDoorW.PrintWords

theorem rletter_eq (c : Int) : jobshellref01_Letter.f c = some (letterB c) := by
  unfold jobshellref01_Letter.f letterB
  repeat' split
  all_goals (congr 1; rw [Bool.eq_iff_iff]; simp; try omega)
theorem rdigit_eq (c : Int) : jobshellref01_Digit.f c = some (digitB c) := by
  unfold jobshellref01_Digit.f digitB
  repeat' split
  all_goals (simp; try omega)
theorem rword_eq (c : Int) : jobshellref01_Word.f c = some (letterB c || digitB c || decide (c = 95)) := by
  unfold jobshellref01_Word.f
  rw [rletter_eq, rdigit_eq]
  cases letterB c <;> cases digitB c <;> simp
  rw [Bool.eq_iff_iff]; simp

theorem rhas_eq (k : Nat) (c : Int) : jobshellref01_Has.f (k + 10) (⟨#[45, 46, 47, 44, 58, 43, 37, 64, 94]⟩ : ByteArray) c =
    some (decide (c = 45 ∨ c = 46 ∨ c = 47 ∨ c = 44 ∨ c = 58 ∨ c = 43 ∨ c = 37 ∨ c = 64 ∨ c = 94)) := by
  have w0 : wrap64 (0 + 1) = 1 := by unfold wrap64; rfl
  have w1 : wrap64 (1 + 1) = 2 := by unfold wrap64; rfl
  have w2 : wrap64 (2 + 1) = 3 := by unfold wrap64; rfl
  have w3 : wrap64 (3 + 1) = 4 := by unfold wrap64; rfl
  have w4 : wrap64 (4 + 1) = 5 := by unfold wrap64; rfl
  have w5 : wrap64 (5 + 1) = 6 := by unfold wrap64; rfl
  have w6 : wrap64 (6 + 1) = 7 := by unfold wrap64; rfl
  have w7 : wrap64 (7 + 1) = 8 := by unfold wrap64; rfl
  have w8 : wrap64 (8 + 1) = 9 := by unfold wrap64; rfl
  have hs : ((⟨#[45, 46, 47, 44, 58, 43, 37, 64, 94]⟩ : ByteArray).size : Int) = 9 := rfl
  have b0 : bt (⟨#[45, 46, 47, 44, 58, 43, 37, 64, 94]⟩ : ByteArray) 0 = 45 := by decide
  have b1 : bt (⟨#[45, 46, 47, 44, 58, 43, 37, 64, 94]⟩ : ByteArray) 1 = 46 := by decide
  have b2 : bt (⟨#[45, 46, 47, 44, 58, 43, 37, 64, 94]⟩ : ByteArray) 2 = 47 := by decide
  have b3 : bt (⟨#[45, 46, 47, 44, 58, 43, 37, 64, 94]⟩ : ByteArray) 3 = 44 := by decide
  have b4 : bt (⟨#[45, 46, 47, 44, 58, 43, 37, 64, 94]⟩ : ByteArray) 4 = 58 := by decide
  have b5 : bt (⟨#[45, 46, 47, 44, 58, 43, 37, 64, 94]⟩ : ByteArray) 5 = 43 := by decide
  have b6 : bt (⟨#[45, 46, 47, 44, 58, 43, 37, 64, 94]⟩ : ByteArray) 6 = 37 := by decide
  have b7 : bt (⟨#[45, 46, 47, 44, 58, 43, 37, 64, 94]⟩ : ByteArray) 7 = 64 := by decide
  have b8 : bt (⟨#[45, 46, 47, 44, 58, 43, 37, 64, 94]⟩ : ByteArray) 8 = 94 := by decide
  unfold jobshellref01_Has.f
  simp only [jobshellref01_Has.l0, hs, w0, w1, w2, w3, w4, w5, w6, w7, w8, b0, b1, b2, b3, b4, b5, b6, b7, b8]
  simp only [Int.reduceLT, Int.reduceLE, if_true, if_false]
  repeat' split
  all_goals first | (exfalso; omega) | (congr 1; symm; rw [decide_eq_true_iff]; omega) | (congr 1; symm; rw [decide_eq_false_iff_not]; omega)

theorem rhas_eq' (k : Nat) (hk : 10 ≤ k) (c : Int) : jobshellref01_Has.f k (⟨#[45, 46, 47, 44, 58, 43, 37, 64, 94]⟩ : ByteArray) c =
    some (decide (c = 45 ∨ c = 46 ∨ c = 47 ∨ c = 44 ∨ c = 58 ∨ c = 43 ∨ c = 37 ∨ c = 64 ∨ c = 94)) := by
  obtain ⟨m, rfl⟩ : ∃ m, k = m + 10 := ⟨k - 10, by omega⟩
  exact rhas_eq m c

/-- All bytes fit for a plain word. -/
def okL (l : List UInt8) : Bool := l.all fun b => okB b.toNat

theorem okB_high (c : Int) (h : 128 ≤ c) : okB c = false := by
  unfold okB letterB digitB harmB
  simp
  omega

theorem plainFrom_eq (s : ByteArray) : ∀ (fuel pos : Nat), s.size ≤ pos + fuel → plainFrom s fuel pos = okL (s.data.toList.drop pos)
  | 0, pos, h => by
    have : s.data.toList.drop pos = [] := List.drop_eq_nil_iff.2 (by have : s.data.toList.length = s.size := rfl; omega)
    rw [this]; rfl
  | fuel + 1, pos, h => by
    by_cases hp : pos < s.size
    · have hlen : s.data.toList.length = s.size := rfl
      have hd : s.data.toList.drop pos = s[pos] :: s.data.toList.drop (pos + 1) := by
        rw [List.drop_eq_getElem_cons (by omega)]
        rfl
      rw [hd]
      simp only [plainFrom, hp, if_true, okL, List.all_cons]
      by_cases ha : (s[pos]'hp).toNat < 128
      · rw [decode_ascii s pos hp ha]
        have ih := plainFrom_eq s fuel (pos + 1) (by omega)
        simp only [okL] at ih
        simp only [ih]
        cases okB ((s[pos].toNat : Nat) : Int) <;> simp
      · have hh := decode_high s pos hp (by omega)
        have h1 : okB ((Utf8.decode s pos).1 : Int) = false := okB_high _ (by have := hh.1; omega)
        have h2 : okB ((s[pos].toNat : Nat) : Int) = false := okB_high _ (by omega)
        rw [h1, h2]
        simp
    · rw [plainFrom_end s _ pos hp]
      have : s.data.toList.drop pos = [] := List.drop_eq_nil_iff.2 (by have : s.data.toList.length = s.size := rfl; omega)
      rw [this]; rfl

theorem rbyte_eq (c : Int) : (letterB c || digitB c || decide (c = 95) || decide (c = 45 ∨ c = 46 ∨ c = 47 ∨ c = 44 ∨ c = 58 ∨ c = 43 ∨ c = 37 ∨ c = 64 ∨ c = 94)) = okB c := by
  unfold okB harmB
  rw [Bool.eq_iff_iff]
  simp only [Bool.or_eq_true, decide_eq_true_eq]
  constructor
  · rintro (((h | h) | h) | h)
    · exact .inl (.inl h)
    · exact .inl (.inr h)
    · exact .inr (.inl h)
    · exact .inr (.inr (by omega))
  · rintro ((h | h) | h)
    · exact .inl (.inl (.inl h))
    · exact .inl (.inl (.inr h))
    · rcases h with h | h
      · exact .inl (.inr h)
      · exact .inr (by omega)

theorem wrap_nat (i : Nat) (h : i < 1000000) : wrap64 ((i : Int) + 1) = ((i + 1 : Nat) : Int) := by unfold wrap64; omega

theorem bt_nat (s : ByteArray) (i : Nat) (h : i < s.size) : bt s (i : Int) = (s[i].toNat : Int) := by simp [bt, h]

theorem drop_cons (s : ByteArray) (i : Nat) (h : i < s.size) : s.data.toList.drop i = s[i] :: s.data.toList.drop (i + 1) := by
  have hlen : s.data.toList.length = s.size := rfl
  rw [List.drop_eq_getElem_cons (by omega)]
  rfl

theorem rplain_eq (s : ByteArray) (hs : s.size ≤ 1000) : ∀ (d k i : Nat), i ≤ s.size → s.size - i = d → d + 20 ≤ k → jobshellref01_Plain.l0 k s (i : Int) = some (okL (s.data.toList.drop i) && (s.toList != []))
  | 0, k, i, hi, hd, hk => by
    obtain ⟨k, rfl⟩ : ∃ m, k = m + 1 := ⟨k - 1, by omega⟩
    have hlen : s.data.toList.length = s.size := rfl
    have : s.data.toList.drop i = [] := List.drop_eq_nil_iff.2 (by omega)
    simp only [jobshellref01_Plain.l0]
    rw [if_neg (by omega), this]
    simp [okL]
  | d + 1, k, i, hi, hd, hk => by
    obtain ⟨k, rfl⟩ : ∃ m, k = m + 1 := ⟨k - 1, by omega⟩
    have hlt : i < s.size := by omega
    have ih := rplain_eq s hs d k (i + 1) (by omega) (by omega) (by omega)
    simp only [jobshellref01_Plain.l0]
    rw [if_pos (by omega), if_pos (by omega), bt_nat s i hlt, rword_eq, rhas_eq' k (by omega), wrap_nat i (by omega), ih, drop_cons s i hlt]
    simp only [Option.bind_some, okL, List.all_cons]
    have hb := rbyte_eq (s[i].toNat : Int)
    rw [← hb]
    cases h1 : (letterB (s[i].toNat : Int) || digitB (s[i].toNat : Int) || decide ((s[i].toNat : Int) = 95)) with
    | true => simp
    | false =>
      simp only [Bool.false_or, Bool.false_eq_true, if_false]
      split
      · rename_i h2; simp [h2]
      · rename_i h2; simp [h2]

theorem rplain (s : ByteArray) (hs : s.size ≤ 1000) (k : Nat) (hk : s.size + 20 ≤ k) : jobshellref01_Plain.f k s = some (plainS s) := by
  unfold jobshellref01_Plain.f
  have := rplain_eq s hs s.size k 0 (by omega) (by omega) (by omega)
  rw [show ((0 : Nat) : Int) = 0 from rfl] at this
  rw [this]
  unfold plainS
  rw [plainFrom_eq s s.size 0 (by omega)]
  congr 2
  cases s.toList <;> rfl

theorem rquote_eq (s : ByteArray) (hs : s.size ≤ 1000) : ∀ (d k i : Nat) (acc : ByteArray), i ≤ s.size → s.size - i = d → d + 1 ≤ k → acc.size ≤ 1 + 4 * i →
    jobshellref01_Quote.l0 k s acc (i : Int) = some (acc ++ ⟨((s.data.toList.drop i).flatMap escB ++ [39]).toArray⟩)
  | 0, k, i, acc, hi, hd, hk, ha => by
    obtain ⟨k, rfl⟩ : ∃ m, k = m + 1 := ⟨k - 1, by omega⟩
    have hlen : s.data.toList.length = s.size := rfl
    have : s.data.toList.drop i = [] := List.drop_eq_nil_iff.2 (by omega)
    simp only [jobshellref01_Quote.l0]
    rw [if_neg (by omega), this, if_pos (by omega)]
    simp
  | d + 1, k, i, acc, hi, hd, hk, ha => by
    obtain ⟨k, rfl⟩ : ∃ m, k = m + 1 := ⟨k - 1, by omega⟩
    have hlt : i < s.size := by omega
    simp only [jobshellref01_Quote.l0]
    rw [if_pos (by omega), if_pos (by omega), bt_nat s i hlt, wrap_nat i (by omega), drop_cons s i hlt]
    by_cases h39 : ((s[i].toNat : Nat) : Int) = 39
    · have hb' : s[i].toNat = 39 := by omega
      have hb : s[i] = 39 := UInt8.toNat_inj.1 (hb'.trans rfl)
      have hsz : (acc ++ (⟨#[39, 92, 39, 39]⟩ : ByteArray)).size = acc.size + 4 := by rw [ByteArray.size_append]; rfl
      rw [if_pos h39, if_pos (by omega), rquote_eq s hs d k (i + 1) _ (by omega) (by omega) (by omega) (by rw [hsz]; omega)]
      congr 1
      apply ByteArray.ext
      simp [hb, escB, ByteArray.data_append]
    · have hb : s[i] ≠ 39 := fun e => h39 (by rw [e]; rfl)
      have he : (s.extract ((i : Int)).toNat (((i + 1 : Nat) : Int)).toNat) = ⟨#[s[i]]⟩ := by
        apply ByteArray.ext
        rw [ByteArray.data_extract]
        simp only [Int.toNat_natCast]
        apply Array.ext'
        rw [Array.toList_extract]
        have hlen : s.data.toList.length = s.size := rfl
        rw [List.extract_eq_drop_take]
        rw [drop_cons s i hlt]
        simp
      have hone : (⟨#[s[i]]⟩ : ByteArray).size = 1 := rfl
      have hsz : (acc ++ (⟨#[s[i]]⟩ : ByteArray)).size = acc.size + 1 := by rw [ByteArray.size_append]; rfl
      rw [if_neg h39, if_pos (by omega), if_pos (by omega), he, if_pos (by rw [hone]; omega), rquote_eq s hs d k (i + 1) _ (by omega) (by omega) (by omega) (by rw [hsz]; omega)]
      congr 1
      apply ByteArray.ext
      simp [hb, escB, ByteArray.data_append]

theorem rquote (s : ByteArray) (hs : s.size ≤ 1000) (k : Nat) (hk : s.size + 20 ≤ k) : jobshellref01_Quote.f k s = some (quoteB s) := by
  unfold jobshellref01_Quote.f
  rw [rplain s hs k hk]
  simp only [Option.bind_some]
  have h := rquote_eq s hs s.size k 0 ⟨#[39]⟩ (by omega) (by omega) (by omega) (by decide)
  rw [show ((0 : Nat) : Int) = 0 from rfl] at h
  unfold quoteB quoteL
  split
  · simp
  · rw [h]
    congr 1
end Go.Proofs.YtlhofngbhhdioaaGreatDoor
