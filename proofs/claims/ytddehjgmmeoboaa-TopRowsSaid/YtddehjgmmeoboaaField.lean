/- The walks of package field: each function computes what Gf says. -/
import Derived.Test.YtddehjgmmeoboaaGf
import Derived.Test.YtddehjgmmeoboaaMem
import Derived.WalkKit
import Derived.WalkSpells
import Derived.WalkLawsBesides
namespace Go.Proofs.Ytddehjgmmeoboaa
open Go.RowKit

theorem ret_int {k : IntKind} {a b : Int} (h : a = b) : Ending.returned (.int k a) = .returned (.int k b) := by rw [h]
theorem bxor (a b : UInt8) : bits .xor .u8 (a.toNat : Int) (b.toNat : Int) = ((a ^^^ b).toNat : Int) := by
  rw [u8_xor_nat _ _ a.toNat_lt b.toNat_lt, UInt8.toNat_xor]
theorem band1 (a : UInt8) : bits .and .u8 (a.toNat : Int) 1 = ((a &&& 1).toNat : Int) := by
  have := u8_and_nat a.toNat 1 a.toNat_lt (by omega)
  rw [UInt8.toNat_and]; exact this

set_option maxHeartbeats 400000 in
theorem add_any (a b : UInt8) (w : World) : Calls Try.prog 21 #[B a, B b] w fun e w' => e = .returned (B (a ^^^ b)) ∧ w = w' := by
  go_enter Try.func21, Try.ntmps21
  go_wp2
  go_ret
  exact ⟨ret_int (bxor a b), rfl⟩

theorem dbl_hi (a : UInt8) : (bits .and .u8 (a.toNat : Int) 128 != 0) = true → bits .xor .u8 ((a.toNat : Int) * 2 % 256) 27 = ((Gf.dbl a).toNat : Int) := by
  have h : Gf.ckAll (fun a => !(bits .and .u8 (a.toNat : Int) 128 != 0) || bits .xor .u8 ((a.toNat : Int) * 2 % 256) 27 == ((Gf.dbl a).toNat : Int)) 256 = true := by decide +kernel
  have := Gf.all_of h a
  intro h1
  simpa [h1] using this
theorem dbl_lo (a : UInt8) : (bits .and .u8 (a.toNat : Int) 128 != 0) = false → (a.toNat : Int) * 2 % 256 = ((Gf.dbl a).toNat : Int) := by
  have h : Gf.ckAll (fun a => (bits .and .u8 (a.toNat : Int) 128 != 0) || (a.toNat : Int) * 2 % 256 == ((Gf.dbl a).toNat : Int)) 256 = true := by decide +kernel
  have := Gf.all_of h a
  intro h1
  simpa [h1] using this
set_option maxHeartbeats 400000 in
theorem double_any (a : UInt8) (w : World) : Calls Try.prog 26 #[B a] w fun e w' => e = .returned (B (Gf.dbl a)) ∧ w = w' := by
  go_enter Try.func26, Try.ntmps26
  go_wp2
  · go_ret
    exact ⟨ret_int (dbl_hi a (by assumption)), rfl⟩
  · go_ret
    exact ⟨ret_int (dbl_lo a (by assumption)), rfl⟩

theorem mul_step {k : Nat} {x y p : UInt8} (h : y ≠ 0) : Gf.mulN (k + 1) x y p = Gf.mulN k (Gf.dbl x) (y >>> 1) (if y &&& 1 = 1 then p ^^^ x else p) := by
  simp [Gf.mulN, h]
theorem mul_done {k : Nat} {x y p : UInt8} (h : y = 0) : Gf.mulN k x y p = p := by
  cases k <;> simp [Gf.mulN, h]
theorem shr1 (y : UInt8) : (y.toNat : Int) / (2 : Int) = ((y >>> 1).toNat : Int) := by
  have : (y >>> 1).toNat = y.toNat / 2 := by rw [UInt8.toNat_shiftRight]; simp [Nat.shiftRight_eq_div_pow]
  rw [this]; omega
theorem shr1_lt {y : UInt8} {k : Nat} (h : y.toNat < 2 ^ (k + 1)) : (y >>> 1).toNat < 2 ^ k := by
  have := shr1 y
  rw [Nat.pow_succ] at h; omega
theorem and1_yes {y : UInt8} (h : (bits BinOp.and IntKind.u8 (y.toNat : Int) 1 == 1) = true) : y &&& 1 = 1 := by
  rw [band1] at h
  have h2 := eq_of_beq h
  exact UInt8.toNat_inj.1 (by simpa using (by exact_mod_cast h2 : (y &&& 1).toNat = 1))
theorem and1_no {y : UInt8} (h : (bits BinOp.and IntKind.u8 (y.toNat : Int) 1 == 1) = false) : ¬ y &&& 1 = 1 := by
  intro e
  rw [band1, e] at h
  simp at h
set_option maxHeartbeats 400000 in
theorem mul_any (a b : UInt8) (w : World) : Calls Try.prog 22 #[B a, B b] w fun e w' => e = .returned (B (Gf.mul a b)) ∧ w = w' := by
  go_enter Try.func22, Try.ntmps22
  go_wp2
  go_loop [0, 1, 5] (fun s t u => ∃ (k : Nat) (x y p : UInt8), y.toNat < 2 ^ k ∧ Hid (Gf.mulN k x y p = Gf.mul a b) ∧ s = B x ∧ t = B y ∧ u = B p) (fun _ t _ => (intOf t).toNat)
  case atStart => exact ⟨8, a, b, 0, b.toNat_lt, rfl, rfl, rfl, rfl⟩
  case round =>
    obtain ⟨k, x, y, p, hk, H, rfl, rfl, rfl⟩ := hrel
    go_wp2_with (go_at_call 26; refine (double_any _ _).mono ?_; rintro e w' ⟨rfl, rfl⟩)
    · have hy : 0 < y.toNat := by assumption
      have hb := and1_yes (by assumption)
      have hne : y ≠ 0 := by rintro rfl; simp at hy
      obtain ⟨k, rfl⟩ : ∃ m, k = m + 1 := ⟨k - 1, by cases k with | zero => simp at hk; omega | succ k => omega⟩
      have H2 := H.out
      rw [mul_step hne, if_pos hb] at H2
      exact ⟨⟨k, _, _, _, shr1_lt hk, H2, rfl, by rw [shr1], by rw [bxor]⟩, by simp [intOf]; omega⟩
    · have hy : 0 < y.toNat := by assumption
      have hb := and1_no (by assumption)
      have hne : y ≠ 0 := by rintro rfl; simp at hy
      obtain ⟨k, rfl⟩ : ∃ m, k = m + 1 := ⟨k - 1, by cases k with | zero => simp at hk; omega | succ k => omega⟩
      have H2 := H.out
      rw [mul_step hne, if_neg hb] at H2
      exact ⟨⟨k, _, _, _, shr1_lt hk, H2, rfl, by rw [shr1], rfl⟩, by simp [intOf]; omega⟩
    · go_ret
      have hy : y = 0 := UInt8.toNat_inj.1 (by simp; omega)
      have H2 := H.out
      rw [mul_done hy] at H2
      exact ⟨by rw [← H2]; rfl, rfl⟩

theorem pow_step {k : Nat} {x p : UInt8} {n : Nat} (h : n ≠ 0) : Gf.powN (k + 1) x n p = Gf.powN k (Gf.mul x x) (n / 2) (if n % 2 = 1 then Gf.mul p x else p) := by
  simp [Gf.powN, h]
theorem pow_done {k : Nat} {x p : UInt8} : Gf.powN k x 0 p = p := by
  cases k <;> simp [Gf.powN]
theorem ofInt_i64 (a : Nat) (ha : a < 9223372036854775808) : (BitVec.ofInt 64 (a : Int)).toNat = a := by
  rw [BitVec.ofInt_natCast, BitVec.toNat_ofNat]; exact Nat.mod_eq_of_lt (by omega)
theorem i64_and_nat (a b : Nat) (ha : a < 9223372036854775808) (hb : b < 9223372036854775808) : bits .and .i64 (a : Int) (b : Int) = ((a &&& b : Nat) : Int) := by
  have hx : a &&& b < 2 ^ 63 := Nat.and_lt_two_pow _ (by omega)
  show IntKind.i64.wrap ((BitVec.ofInt 64 (a : Int) &&& BitVec.ofInt 64 (b : Int)).toNat : Int) = _
  rw [BitVec.toNat_and, ofInt_i64 a ha, ofInt_i64 b hb, IntKind.wrap_i64]
  omega
theorem i64_and1 (n : Nat) (h : n < 9223372036854775808) : bits .and .i64 (n : Int) 1 = ((n % 2 : Nat) : Int) := by
  have := i64_and_nat n 1 h (by omega)
  rw [Nat.and_one_is_mod] at this; exact this
set_option maxHeartbeats 400000 in
theorem power_any (a : UInt8) (n k : Nat) (hn : n < 2 ^ k) (h63 : n < 9223372036854775808) (w : World) : Calls Try.prog 28 #[B a, .int .i64 n] w fun e w' => e = .returned (B (Gf.powN k a n 1)) ∧ w = w' := by
  go_enter Try.func28, Try.ntmps28
  go_wp2
  go_loop [0, 1, 5] (fun s t u => ∃ (l : Nat) (x p : UInt8) (m : Nat), m < 2 ^ l ∧ m < 9223372036854775808 ∧ Hid (Gf.powN l x m p = Gf.powN k a n 1) ∧ s = B x ∧ t = .int .i64 m ∧ u = B p) (fun _ t _ => (intOf t).toNat)
  case atStart => exact ⟨k, a, 1, n, hn, h63, rfl, rfl, rfl, rfl⟩
  case round =>
    obtain ⟨l, x, p, m, hl, hm, H, rfl, rfl, rfl⟩ := hrel
    have e1 := i64_and1 m hm
    go_wp2_with (go_at_call 22; refine (mul_any _ _ _).mono ?_; rintro e w' ⟨rfl, rfl⟩)
    · have hpos : 0 < m := by assumption
      have hodd : m % 2 = 1 := by
        have h : ((m : Int) % 2 == 1) = true := by assumption
        have := eq_of_beq h; omega
      obtain ⟨l, rfl⟩ : ∃ j, l = j + 1 := ⟨l - 1, by cases l with | zero => simp at hl; omega | succ l => omega⟩
      have H2 := H.out
      rw [pow_step (by omega), if_pos hodd] at H2
      exact ⟨⟨l, _, _, m / 2, by rw [Nat.pow_succ] at hl; omega, by omega, H2, rfl, by go_num, rfl⟩, by simp [intOf]; omega⟩
    · have hpos : 0 < m := by assumption
      have hodd : ¬ m % 2 = 1 := by
        have h : ((m : Int) % 2 == 1) = false := by assumption
        have := beq_eq_false_iff_ne.1 h; omega
      obtain ⟨l, rfl⟩ : ∃ j, l = j + 1 := ⟨l - 1, by cases l with | zero => simp at hl; omega | succ l => omega⟩
      have H2 := H.out
      rw [pow_step (by omega), if_neg hodd] at H2
      exact ⟨⟨l, _, _, m / 2, by rw [Nat.pow_succ] at hl; omega, by omega, H2, rfl, by go_num, rfl⟩, by simp [intOf]; omega⟩
    · go_ret
      obtain rfl : m = 0 := by omega
      have H2 := H.out
      rw [pow_done] at H2
      exact ⟨by rw [← H2]; rfl, rfl⟩

set_option maxHeartbeats 400000 in
theorem inv_any (a : UInt8) (h : a ≠ 0) (w : World) : Calls Try.prog 25 #[B a] w fun e w' => e = .returned (.tuple #[B (Gf.inv a), .nilIface]) ∧ w = w' := by
  have h0 : ((a.toNat : Int) == 0) = false := by
    rw [beq_eq_false_iff_ne]; intro e; exact h (UInt8.toNat_inj.1 (by simp; omega))
  go_enter Try.func25, Try.ntmps25
  go_wp2_with (go_at_call 28; refine (power_any _ 254 8 (by omega) (by omega) _).mono ?_; rintro e w' ⟨rfl, rfl⟩)
  go_ret2
  exact ⟨rfl, rfl⟩
end Go.Proofs.Ytddehjgmmeoboaa
