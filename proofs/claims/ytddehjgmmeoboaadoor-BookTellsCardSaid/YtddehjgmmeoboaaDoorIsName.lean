/- The walk of the reference's IsName. -/
import Derived.Test.YtddehjgmmeoboaaDoorLess
namespace Go.Proofs.YtddehjgmmeoboaaDoor
open Go.RowKit
set_option maxRecDepth 8000

theorem okc_bools (b : UInt8) : ((decide (97 ≤ b.toNat) && decide (b.toNat ≤ 122)) || (decide (48 ≤ b.toNat) && decide (b.toNat ≤ 57)) || decide (b.toNat = 45)) = okc b := rfl
theorem all_take_succ {l : List UInt8} {i : Nat} (h : i < l.length) (p : UInt8 → Bool) : (l.take (i + 1)).all p = ((l.take i).all p && p l[i]) := by
  rw [List.take_add_one, List.getElem?_eq_getElem h, List.all_append]; simp

set_option maxHeartbeats 1000000 in
theorem isName_any (s : ByteArray) (w : World) (hs : s.size ≤ maxLen) :
    Calls Tryd.prog 67 #[.string s] w fun e w' => e = .returned (.bool (named s.data.toList)) ∧ w = w' := by
  have hsl : s.data.toList.length = s.size := by simp
  go_enter Tryd.func67, Tryd.ntmps67
  go_wp2_with fail
  go_loopw [3] (fun si wr => ∃ (i : Nat), i ≤ s.size ∧ si = .int .i64 i ∧ w = wr ∧ Hid ((s.data.toList.take i).all okc = true)) (fun si _ => s.size - (intOf si).toNat)
  case atStart => exact ⟨0, Nat.zero_le _, rfl, rfl, rfl⟩
  case round =>
    obtain ⟨i, his, rfl, rfl, hall⟩ := hrel
    by_cases h1 : i < s.size
    · have hi1 : i < s.data.toList.length := by omega
      have hst := all_take_succ hi1 okc
      have HST := Lib.hid hst; clear hst
      have hw : wrap64 ((i : Int) + 1) = ((i + 1 : Nat) : Int) := by
        have : s.size ≤ 9223372036854775807 := hs
        rw [← IntWalk.i64_left, IntWalk.i64_in _ (by omega)]; simp
      go_wp2_with fail
      all_goals first
        | (have hk : okc s[i] = true := by
             simp only [okc, Bool.or_eq_true, Bool.and_eq_true, decide_eq_true_eq]
             simp only [Bool.not_eq_true', Bool.not_eq_false', decide_eq_false_iff_not, decide_eq_true_eq, beq_iff_eq, beq_eq_false_iff_ne, ne_eq, Int.not_le, Int.not_lt] at *
             omega
           have hall' : (s.data.toList.take (i + 1)).all okc = true := by
             rw [HST.out, hall.out, Bool.true_and]; exact hk
           exact ⟨⟨i + 1, by omega, by rw [hw], trivial, hall'⟩, by rw [hw]; simp [intOf]; omega⟩)
        | (have hk : okc s[i] = false := by
             rw [Bool.eq_false_iff]
             intro h
             simp only [okc, Bool.or_eq_true, Bool.and_eq_true, decide_eq_true_eq] at h
             simp only [Bool.not_eq_true', Bool.not_eq_false', decide_eq_false_iff_not, decide_eq_true_eq, beq_iff_eq, beq_eq_false_iff_ne, ne_eq, Int.not_le, Int.not_lt] at *
             omega
           go_ret
           refine ⟨ret_bool ?_, rfl⟩
           have : s.data.toList.all okc = false := by
             rw [List.all_eq_false]
             exact ⟨s.data.toList[i], List.getElem_mem hi1, by rw [show okc s.data.toList[i] = false from hk]; simp⟩
           unfold named
           rw [this, Bool.and_false])
    · obtain rfl : i = s.size := by omega
      have hall2 : s.data.toList.all okc = true := by
        have h := hall.out
        rwa [List.take_of_length_le (by omega)] at h
      go_wp2_with fail
      all_goals go_ret
      all_goals refine ⟨ret_bool ?_, rfl⟩
      all_goals (unfold named; rw [hall2, Bool.and_true, hsl, Bool.eq_iff_iff]; simp <;> omega)
end Go.Proofs.YtddehjgmmeoboaaDoor
