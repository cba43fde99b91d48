/- The walk of the reference's Less. -/
import Derived.Test.YtddehjgmmeoboaaDoorBk
import Derived.Test.YtddehjgmmeoboaaDoorNamed
import Derived.Deep.QuietTactic
import Derived.BigQuiet
namespace Go.Proofs.YtddehjgmmeoboaaDoor
open Go.RowKit
set_option maxRecDepth 8000

theorem less_step {a b : List UInt8} {i : Nat} (ha : i < a.length) (hb : i < b.length) :
    Bk.less (a.drop i) (b.drop i) = if a[i] = b[i] then Bk.less (a.drop (i + 1)) (b.drop (i + 1)) else decide (a[i].toNat < b[i].toNat) := by
  rw [List.drop_eq_getElem_cons ha, List.drop_eq_getElem_cons hb, Bk.less]
theorem less_end {a b : List UInt8} {i : Nat} (h : a.length ≤ i ∨ b.length ≤ i) (hi : i ≤ a.length) (hi' : i ≤ b.length) : Bk.less (a.drop i) (b.drop i) = decide (a.length < b.length) := by
  rcases h with h | h
  · have e : a.drop i = [] := List.drop_eq_nil_of_le h
    rw [e]
    by_cases hlt : a.length < b.length
    · rw [List.drop_eq_getElem_cons (show i < b.length by omega)]
      simp [Bk.less, hlt]
    · rw [List.drop_eq_nil_of_le (show b.length ≤ i by omega)]
      simp [Bk.less, hlt]
  · have e : b.drop i = [] := List.drop_eq_nil_of_le h
    rw [e]
    have : ¬ a.length < b.length := by omega
    by_cases hlt : i < a.length
    · rw [List.drop_eq_getElem_cons hlt]; simp [Bk.less, this]
    · rw [List.drop_eq_nil_of_le (show a.length ≤ i by omega)]; simp [Bk.less, this]

set_option maxHeartbeats 1000000 in
theorem refLess_any (s t : ByteArray) (w : World) (hs : s.size ≤ maxLen) (ht : t.size ≤ maxLen) :
    Calls Tryd.prog 68 #[.string s, .string t] w fun e w' => e = .returned (.bool (Bk.less s.data.toList t.data.toList)) ∧ ∃ n, w' = w.drewN n := by
  have hsl : s.data.toList.length = s.size := by simp
  have htl : t.data.toList.length = t.size := by simp
  go_enter Tryd.func68, Tryd.ntmps68
  go_wp2_with fail
  go_loopw [5] (fun si wr => ∃ (i : Nat), i ≤ s.size ∧ i ≤ t.size ∧ si = .int .i64 i ∧ (∃ n, wr = w.drewN n) ∧ Hid (Bk.less s.data.toList t.data.toList = Bk.less (s.data.toList.drop i) (t.data.toList.drop i))) (fun si _ => s.size - (intOf si).toNat)
  case atStart => exact ⟨0, Nat.zero_le _, Nat.zero_le _, rfl, ⟨0, rfl⟩, rfl⟩
  case round =>
    obtain ⟨i, his, hit, rfl, ⟨n, rfl⟩, hless⟩ := hrel
    by_cases h1 : i < s.size
    · by_cases h2 : i < t.size
      · have hi1 : i < s.data.toList.length := by omega
        have hi2 : i < t.data.toList.length := by omega
        have hst := less_step hi1 hi2
        have HST := Lib.hid hst; clear hst
        go_wp2_with fail
        go_quiet (fail)
        go_wp2_with fail
        · have hne : s.data.toList[i] ≠ t.data.toList[i] := by
            intro e
            have e2 : s[i] = t[i] := e
            have h : ((s[i].toNat : Int) != (t[i].toNat : Int)) = true := by assumption
            rw [e2] at h; simp at h
          go_quiet (fail)
          go_wp2_with fail
          go_ret
          refine ⟨ret_bool ?_, _, by rw [World.drewN_drewN, World.drewN_drewN]⟩
          rw [hless.out, HST.out, if_neg hne]
          show decide _ = decide ((s[i].toNat) < (t[i].toNat))
          exact decide_eq_decide.2 (by omega)
        · have heq : s.data.toList[i] = t.data.toList[i] := by
            have h : ((s[i].toNat : Int) != (t[i].toNat : Int)) = false := by assumption
            have h2 : s[i].toNat = t[i].toNat := by
              have h3 : (s[i].toNat : Int) = (t[i].toNat : Int) := by simpa using h
              omega
            exact UInt8.toNat_inj.1 h2
          have hw : wrap64 ((i : Int) + 1) = ((i + 1 : Nat) : Int) := by
            have : s.size ≤ 9223372036854775807 := hs
            rw [← IntWalk.i64_left, IntWalk.i64_in _ (by omega)]; simp
          refine ⟨⟨i + 1, by omega, by omega, by rw [hw], ⟨_, rfl⟩, ?_⟩, ?_⟩
          · show _ = _
            rw [hless.out, HST.out, if_pos heq]
          · rw [hw]; simp [intOf]; omega
      · go_wp2_with fail
        go_ret
        have := less_end (a := s.data.toList) (b := t.data.toList) (i := i) (by omega) (by omega) (by omega)
        exact ⟨ret_bool (by rw [hless.out, this, hsl, htl]), n, rfl⟩
    · go_wp2_with fail
      go_ret
      have := less_end (a := s.data.toList) (b := t.data.toList) (i := i) (by omega) (by omega) (by omega)
      exact ⟨ret_bool (by rw [hless.out, this, hsl, htl]), n, rfl⟩
end Go.Proofs.YtddehjgmmeoboaaDoor
