/- The walks of octet.Put in four bytes and of octet.Num. -/
import Derived.Test.YtddehjgmmeoboaaField
import Derived.LoopN
namespace Go.Proofs.Ytddehjgmmeoboaa
open Go.RowKit

def put4 (m : Nat) : List UInt8 := [UInt8.ofNat (m / 16777216), UInt8.ofNat (m / 65536), UInt8.ofNat (m / 256), UInt8.ofNat m]
abbrev errno (n : Int) : Value := .iface 46 (.int .i64 n)

set_option maxHeartbeats 400000 in
theorem put_bad (n : Int) (h : n < 0 ∨ 4294967296 ≤ n) (h63 : n ≤ 9223372036854775807) (w : World) :
    Calls Try.prog 11 #[.int .i64 n, .int .i64 4] w fun e w' => e = .returned (.tuple #[.slice none 0 0, errno 2]) ∧ w = w' := by
  rcases h with h | h
  · go_enter Try.func11, Try.ntmps11
    go_wp2
    go_ret2
    exact ⟨rfl, rfl⟩
  · have h0 : 0 ≤ n := by omega
    have h1 : 0 < n / 4294967296 := by omega
    go_enter Try.func11, Try.ntmps11
    go_wp2
    go_ret2
    exact ⟨rfl, rfl⟩

set_option maxHeartbeats 400000 in
theorem put_good (m : Nat) (h : m < 4294967296) (w : World) :
    Calls Try.prog 11 #[.int .i64 m, .int .i64 4] w fun e w' => ∃ v, e = .returned (.tuple #[v, .nilIface]) ∧ w'.ownsRow w.heap.size 5 1 v 4 ((put4 m).map B) ∧ Below w.heap.size w w' := by
  have h1 : ¬ 0 < (m : Int) / 4294967296 := by omega
  have hmk : ∀ w, (Instr.makeSlice 26 (.int .i64 4) (.int .i64 4)).run Try.prog w = .ok (.slice (some ⟨w.heap.size, 0, none⟩) 4 4) (w.alloc (.cells #[.int .u8 0, .int .u8 0, .int .u8 0, .int .u8 0] 5)) := fun _ => by kernel_rfl
  go_enter Try.func11, Try.ntmps11
  go_wp2
  refine wp_loop_rounds 5 ?_
  rw [rounds_succ]
  go_wp2
  rw [rounds_succ]
  go_wp2
  rw [rounds_succ]
  go_wp2
  rw [rounds_succ]
  go_wp2
  rw [rounds_succ]
  go_wp2
  have e : (#[.int .u8 ((m : Int) / 16777216), .int .u8 ((m : Int) / 65536 % 256), .int .u8 ((m : Int) / 256 % 256), .int .u8 ((m : Int) % 256)] : Array Value) = ((put4 m).map B).toArray := by
    have t : ∀ x : Nat, ((UInt8.ofNat x).toNat : Int) = (x : Int) % 256 := fun x => by rw [UInt8.toNat_ofNat']; omega
    simp only [put4, List.map_cons, List.map_nil, B, t]
    have e1 : ((m / 16777216 : Nat) : Int) % 256 = (m : Int) / 16777216 := by omega
    have e2 : ((m / 65536 : Nat) : Int) = (m : Int) / 65536 := by omega
    have e3 : ((m / 256 : Nat) : Int) = (m : Int) / 256 := by omega
    rw [e1, e2, e3]
  go_ret2
  refine ⟨_, rfl, ?_, (Below.refl _ _).alloc (Nat.le_refl _) _⟩
  rw [e]
  exact World.ownsRow_lit w _ 4 (Nat.le_refl _) (by unfold maxLen; omega) (by simp [put4])

theorem i64_or_nat (a b : Nat) (ha : a < 9223372036854775808) (hb : b < 9223372036854775808) : bits .or .i64 (a : Int) (b : Int) = ((a ||| b : Nat) : Int) := by
  have hx : a ||| b < 2 ^ 63 := Nat.or_lt_two_pow (by omega) (by omega)
  show IntKind.i64.wrap ((BitVec.ofInt 64 (a : Int) ||| BitVec.ofInt 64 (b : Int)).toNat : Int) = _
  rw [BitVec.toNat_or, ofInt_i64 a ha, ofInt_i64 b hb, IntKind.wrap_i64]
  omega
def numOf (l : List UInt8) : Nat := l.foldl (fun a b => a * 256 + b.toNat) 0
theorem numOf_snoc (l : List UInt8) (b : UInt8) : numOf (l ++ [b]) = numOf l * 256 + b.toNat := by unfold numOf; rw [List.foldl_append]; rfl
theorem numOf_lt (l : List UInt8) : numOf l < 256 ^ l.length := by
  have h : ∀ (k : Nat) (l : List UInt8), l.length = k → numOf l < 256 ^ k := by
    intro k
    induction k with
    | zero => intro l hl; rw [List.eq_nil_of_length_eq_zero hl]; decide
    | succ k ih =>
      intro l hl
      obtain ⟨l', b, rfl⟩ : ∃ l' b, l = l' ++ [b] := ⟨l.dropLast, l.getLast (by intro e; subst e; simp at hl), (List.dropLast_concat_getLast _).symm⟩
      rw [numOf_snoc, Nat.pow_succ]
      have := ih l' (by simpa using hl)
      have := b.toNat_lt
      omega
  exact h _ l rfl
theorem numOf_take (l : List UInt8) {k : Nat} (h : k < l.length) : numOf (l.take (k + 1)) = numOf (l.take k) * 256 + (l.getD k 0).toNat := by
  rw [List.take_add_one, List.getElem?_eq_getElem h, List.getD_eq_getElem?_getD, List.getElem?_eq_getElem h]
  exact numOf_snoc _ _
theorem or_byte (a b : Nat) (ha : a < 281474976710656) (hb : b < 256) : bits .or .i64 ((a : Int) * 256) (b : Int) = ((a * 256 + b : Nat) : Int) := by
  have h := i64_or_nat (a * 256) b (by omega) (by omega)
  have e : a * 256 ||| b = a * 256 + b := by
    have := Nat.shiftLeft_add_eq_or_of_lt (i := 8) (b := b) (by omega) a
    rw [Nat.shiftLeft_eq] at this
    simpa using this.symm
  rw [e] at h
  rw [← h]
  congr 1
set_option maxHeartbeats 400000 in
theorem num_any (l : List UInt8) (A : Option Addr) (n c : Nat) (w : World) (h1 : 1 ≤ n) (h7 : n ≤ 6) (hr : Rd w 1 A n c (l.map B)) :
    Calls Try.prog 13 #[.slice A n c] w fun e w' => e = .returned (.tuple #[.int .i64 (numOf l), .nilIface]) ∧ w = w' := by
  have hlen : l.length = n := by have := hr.len; simpa using this
  have hlt : ∀ k, k ≤ n → numOf (l.take k) < 281474976710656 := by
    intro k hk
    have h2 := numOf_lt (l.take k)
    have h3 : (256 : Nat) ^ (l.take k).length ≤ 256 ^ 6 := Nat.pow_le_pow_right (by omega) (by rw [List.length_take]; omega)
    omega
  have h8 : ((n : Int) == 8) = false := by rw [beq_eq_false_iff_ne]; omega
  have HLEN := Lib.hid hlen; clear hlen
  have HLT := Lib.hid hlt; clear hlt
  go_enter Try.func13, Try.ntmps13
  go_wp2
  go_loop [4, 29] (fun s i => ∃ k : Nat, k ≤ n ∧ i = .int .i64 k ∧ s = .int .i64 (numOf (l.take k))) (fun _ i => n - (intOf i).toNat)
  case atStart => exact ⟨0, Nat.zero_le _, rfl, rfl⟩
  case round =>
    obtain ⟨k, hk, rfl, rfl⟩ := hrel
    by_cases hkn : k < n
    · obtain ⟨ad, rfl, hab, hc⟩ := hr.byte hkn
      have hkl : k < l.length := by rw [HLEN.out]; exact hkn
      have hnt := Lib.hid (numOf_take l hkl)
      generalize hy : l.getD k 0 = y at *
      have HY := Lib.hid hy; clear hy
      have hb := y.toNat_lt
      have ha := HLT.out k (by omega)
      generalize hz : numOf (l.take k) = z at *
      have HZ := Lib.hid hz; clear hz
      have eo := or_byte z y.toNat ha hb
      go_wp2
      go_round
      case rel => exact ⟨k + 1, by omega, by go_num, by rw [hnt.out]; go_num⟩
      case measure => simp [intOf]; omega
    · obtain rfl : k = n := by omega
      go_wp2
      go_ret2
      have e : l.take k = l := List.take_of_length_le (by rw [HLEN.out]; exact Nat.le_refl _)
      exact ⟨by rw [e]; rfl, rfl⟩
end Go.Proofs.Ytddehjgmmeoboaa
