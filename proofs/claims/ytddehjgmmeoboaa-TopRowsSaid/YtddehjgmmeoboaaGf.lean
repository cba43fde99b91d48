/- plain: the field of 256. -/
namespace Go.Proofs.Ytddehjgmmeoboaa
namespace Gf
def dbl (a : UInt8) : UInt8 := if a &&& 128 ≠ 0 then (a <<< 1) ^^^ 27 else a <<< 1
def mulN : Nat → UInt8 → UInt8 → UInt8 → UInt8
  | 0, _, _, p => p
  | n + 1, a, b, p => if b = 0 then p else mulN n (dbl a) (b >>> 1) (if b &&& 1 = 1 then p ^^^ a else p)
def mul (a b : UInt8) : UInt8 := mulN 8 a b 0
def ckAll (f : UInt8 → Bool) : Nat → Bool
  | 0 => true
  | n + 1 => f (UInt8.ofNat n) && ckAll f n
theorem of_ckAll {f : UInt8 → Bool} : ∀ {n : Nat}, ckAll f n = true → ∀ a : UInt8, a.toNat < n → f a = true
  | 0, _, a, h => absurd h (by omega)
  | n + 1, h, a, ha => by
    simp only [ckAll, Bool.and_eq_true] at h
    by_cases e : a.toNat = n
    · have : a = UInt8.ofNat n := by rw [← e]; exact (UInt8.ofNat_toNat).symm
      rw [this]; exact h.1
    · exact of_ckAll h.2 a (by omega)
theorem all_of {f : UInt8 → Bool} (h : ckAll f 256 = true) (a : UInt8) : f a = true := of_ckAll h a a.toNat_lt

theorem xor4 (a b c d : UInt8) : (a ^^^ b) ^^^ (c ^^^ d) = (a ^^^ c) ^^^ (b ^^^ d) := by
  rw [UInt8.xor_assoc, UInt8.xor_assoc, ← UInt8.xor_assoc b c d, ← UInt8.xor_assoc c b d, UInt8.xor_comm b c]

def sel (c : Bool) (a : UInt8) : UInt8 := if c then a else 0
theorem sel_xor (c d : Bool) (a : UInt8) : sel (c ^^ d) a = sel c a ^^^ sel d a := by cases c <;> cases d <;> simp [sel]
theorem sel_add (c : Bool) (a b : UInt8) : sel c (a ^^^ b) = sel c a ^^^ sel c b := by cases c <;> simp [sel]

def bit (i : Nat) (a : UInt8) : Bool := a.toNat.testBit i
theorem bit_xor (i : Nat) (a b : UInt8) : bit i (a ^^^ b) = (bit i a ^^ bit i b) := by simp [bit]
theorem dbl_eq (a : UInt8) : dbl a = (a <<< 1) ^^^ sel (bit 7 a) 27 := by
  have h : ckAll (fun a => dbl a == ((a <<< 1) ^^^ sel (bit 7 a) 27)) 256 = true := by decide +kernel
  simpa using all_of h a
theorem shl_xor (a b : UInt8) : (a ^^^ b) <<< 1 = (a <<< 1) ^^^ (b <<< 1) := by
  apply UInt8.toBitVec_inj.1; simp [BitVec.shiftLeft_xor_distrib]
theorem shr_xor (a b : UInt8) : (a ^^^ b) >>> 1 = (a >>> 1) ^^^ (b >>> 1) := by
  apply UInt8.toBitVec_inj.1; simp [BitVec.ushiftRight_xor_distrib]
theorem dbl_xor (a b : UInt8) : dbl (a ^^^ b) = dbl a ^^^ dbl b := by
  rw [dbl_eq, dbl_eq, dbl_eq, shl_xor, bit_xor, sel_xor, xor4]

def ml : Nat → UInt8 → UInt8 → UInt8
  | 0, _, _ => 0
  | n + 1, a, b => sel (bit 0 b) a ^^^ ml n (dbl a) (b >>> 1)
theorem ml_zero_right : ∀ (n : Nat) (a : UInt8), ml n a 0 = 0
  | 0, _ => rfl
  | n + 1, a => by
    have h : (0 : UInt8) >>> 1 = 0 := rfl
    simp only [ml]; rw [h, ml_zero_right n]; simp [sel, bit]
theorem bit0_iff (b : UInt8) : (b &&& 1 = 1) = (bit 0 b = true) := by
  have h : ckAll (fun b => decide (b &&& 1 = 1) == bit 0 b) 256 = true := by decide +kernel
  have := all_of h b
  simp only [beq_iff_eq] at this
  rw [← this]; simp
theorem mulN_ml : ∀ (n : Nat) (a b p : UInt8), mulN n a b p = p ^^^ ml n a b
  | 0, a, b, p => by simp [mulN, ml]
  | n + 1, a, b, p => by
    by_cases hb : b = 0
    · subst hb; rw [ml_zero_right]; simp [mulN]
    · simp only [mulN, if_neg hb, ml, bit0_iff]
      rw [mulN_ml n]
      cases bit 0 b <;> simp [sel, UInt8.xor_assoc]
theorem mul_ml (a b : UInt8) : mul a b = ml 8 a b := by rw [mul, mulN_ml]; simp
theorem ml_xor_left : ∀ (n : Nat) (a a' b : UInt8), ml n (a ^^^ a') b = ml n a b ^^^ ml n a' b
  | 0, _, _, _ => by simp [ml]
  | n + 1, a, a', b => by simp only [ml]; rw [dbl_xor, ml_xor_left n, sel_add, xor4]
theorem ml_xor_right : ∀ (n : Nat) (a b b' : UInt8), ml n a (b ^^^ b') = ml n a b ^^^ ml n a b'
  | 0, _, _, _ => by simp [ml]
  | n + 1, a, b, b' => by simp only [ml]; rw [shr_xor, ml_xor_right n, bit_xor, sel_xor, xor4]
theorem add_mul (a b c : UInt8) : mul (a ^^^ b) c = mul a c ^^^ mul b c := by simp only [mul_ml, ml_xor_left]
theorem mul_add (a b c : UInt8) : mul a (b ^^^ c) = mul a b ^^^ mul a c := by simp only [mul_ml, ml_xor_right]

/-- Additive maps that agree at the eight powers of two agree. -/
theorem ext_of_basis {f g : UInt8 → UInt8} (hf : ∀ a b, f (a ^^^ b) = f a ^^^ f b) (hg : ∀ a b, g (a ^^^ b) = g a ^^^ g b)
    (h : ∀ i : Fin 8, f ((1 : UInt8) <<< UInt8.ofNat i.val) = g ((1 : UInt8) <<< UInt8.ofNat i.val)) (a : UInt8) : f a = g a := by
  have f0 : f 0 = 0 := by have := hf 0 0; simpa using this
  have g0 : g 0 = 0 := by have := hg 0 0; simpa using this
  have hs : ∀ (c : Bool) (i : Fin 8), f (sel c ((1 : UInt8) <<< UInt8.ofNat i.val)) = g (sel c ((1 : UInt8) <<< UInt8.ofNat i.val)) := by
    intro c i
    cases c
    · show f 0 = g 0
      rw [f0, g0]
    · exact h i
  have hk : ckAll (fun a => a == (sel (bit 0 a) 1 ^^^ sel (bit 1 a) 2 ^^^ sel (bit 2 a) 4 ^^^ sel (bit 3 a) 8 ^^^ sel (bit 4 a) 16 ^^^ sel (bit 5 a) 32 ^^^ sel (bit 6 a) 64 ^^^ sel (bit 7 a) 128)) 256 = true := by decide +kernel
  have e := all_of hk a
  simp only [beq_iff_eq] at e
  rw [e]
  simp only [hf, hg]
  have h0 := hs (bit 0 a) 0; have h1 := hs (bit 1 a) 1; have h2 := hs (bit 2 a) 2; have h3 := hs (bit 3 a) 3
  have h4 := hs (bit 4 a) 4; have h5 := hs (bit 5 a) 5; have h6 := hs (bit 6 a) 6; have h7 := hs (bit 7 a) 7
  have cg : ∀ {a b c d : UInt8}, a = b → c = d → a ^^^ c = b ^^^ d := fun h k => by rw [h, k]
  exact cg (cg (cg (cg (cg (cg (cg h0 h1) h2) h3) h4) h5) h6) h7

theorem mul_comm (a b : UInt8) : mul a b = mul b a := by
  refine ext_of_basis (f := fun a => mul a b) (g := fun a => mul b a) (fun x y => add_mul x y b) (fun x y => mul_add b x y) (fun i => ?_) a
  refine ext_of_basis (f := fun b => mul _ b) (g := fun b => mul b _) (fun x y => mul_add _ x y) (fun x y => add_mul x y _) (fun j => ?_) b
  revert i j
  decide +kernel
theorem mul_assoc (a b c : UInt8) : mul (mul a b) c = mul a (mul b c) := by
  refine ext_of_basis (f := fun a => mul (mul a b) c) (g := fun a => mul a (mul b c)) (fun x y => by simp only [add_mul]) (fun x y => by simp only [add_mul]) (fun i => ?_) a
  refine ext_of_basis (f := fun b => mul (mul _ b) c) (g := fun b => mul _ (mul b c)) (fun x y => by simp only [add_mul, mul_add]) (fun x y => by simp only [add_mul, mul_add]) (fun j => ?_) b
  refine ext_of_basis (f := fun c => mul (mul _ _) c) (g := fun c => mul _ (mul _ c)) (fun x y => by simp only [mul_add]) (fun x y => by simp only [mul_add]) (fun k => ?_) c
  revert i j k
  decide +kernel
theorem mul_one (a : UInt8) : mul a 1 = a := by
  have h : ckAll (fun a => mul a 1 == a) 256 = true := by decide +kernel
  simpa using all_of h a
theorem one_mul (a : UInt8) : mul 1 a = a := by rw [mul_comm, mul_one]
theorem mul_zero (a : UInt8) : mul a 0 = 0 := by rw [mul_ml, ml_zero_right]
theorem zero_mul (a : UInt8) : mul 0 a = 0 := by rw [mul_comm, mul_zero]

/-- A byte taken so many times, as the program reckons it: 'power'. -/
def powN : Nat → UInt8 → Nat → UInt8 → UInt8
  | 0, _, _, p => p
  | k + 1, a, n, p => if n = 0 then p else powN k (mul a a) (n / 2) (if n % 2 = 1 then mul p a else p)
def inv (a : UInt8) : UInt8 := powN 8 a 254 1
theorem mul_inv {a : UInt8} (h : a ≠ 0) : mul a (inv a) = 1 := by
  have hk : ckAll (fun a => a == 0 || mul a (inv a) == 1) 256 = true := by decide +kernel
  have := all_of hk a
  simpa [h] using this
end Gf
end Go.Proofs.Ytddehjgmmeoboaa
