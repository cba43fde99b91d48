/- plain: polynomials over the field of 256, and LAGRANGE's sums. -/
import Derived.Test.YtddehjgmmeoboaaGf
namespace Go.Proofs.Ytddehjgmmeoboaa
namespace Gf
def eval (c : List UInt8) (x : UInt8) : UInt8 := c.foldr (fun a v => mul v x ^^^ a) 0
theorem eval_nil (x : UInt8) : eval [] x = 0 := rfl
theorem eval_cons (a : UInt8) (c : List UInt8) (x : UInt8) : eval (a :: c) x = mul (eval c x) x ^^^ a := rfl
theorem xor_cancel {a b : UInt8} (h : a ^^^ b = 0) : a = b := by
  have : (a ^^^ b) ^^^ b = 0 ^^^ b := by rw [h]
  simpa [UInt8.xor_assoc] using this
theorem mul_eq_zero {a b : UInt8} (h : mul a b = 0) (hb : b ≠ 0) : a = 0 := by
  have : mul (mul a b) (inv b) = mul 0 (inv b) := by rw [h]
  rwa [mul_assoc, mul_inv hb, mul_one, zero_mul] at this

def PolyLt (k : Nat) (f : UInt8 → UInt8) : Prop := ∃ c : List UInt8, c.length ≤ k ∧ ∀ x, f x = eval c x
theorem PolyLt.zero (k : Nat) : PolyLt k (fun _ => 0) := ⟨[], Nat.zero_le _, fun _ => rfl⟩
theorem PolyLt.const (a : UInt8) : PolyLt 1 (fun _ => a) := ⟨[a], Nat.le_refl _, fun x => by simp [eval_cons, eval_nil, zero_mul]⟩
theorem PolyLt.mono {k l : Nat} {f : UInt8 → UInt8} (h : PolyLt k f) (hk : k ≤ l) : PolyLt l f := by
  obtain ⟨c, hc, he⟩ := h
  exact ⟨c, by omega, he⟩
theorem eval_scale (a : UInt8) : ∀ (c : List UInt8) (x : UInt8), eval (c.map (mul a)) x = mul a (eval c x)
  | [], x => by simp [eval_nil, mul_zero]
  | b :: c, x => by rw [List.map_cons, eval_cons, eval_scale a c, eval_cons, mul_add, mul_assoc]
def addL : List UInt8 → List UInt8 → List UInt8
  | [], d => d
  | a :: c, [] => a :: c
  | a :: c, b :: d => (a ^^^ b) :: addL c d
theorem addL_length : ∀ (c d : List UInt8) (k : Nat), c.length ≤ k → d.length ≤ k → (addL c d).length ≤ k
  | [], d, k, _, h => h
  | a :: c, [], k, h, _ => h
  | a :: c, b :: d, k, h, g => by
    simp only [List.length_cons] at h g
    have := addL_length c d (k - 1) (by omega) (by omega)
    simp only [addL, List.length_cons]; omega
theorem eval_addL : ∀ (c d : List UInt8) (x : UInt8), eval (addL c d) x = eval c x ^^^ eval d x
  | [], d, x => by simp [addL, eval_nil]
  | a :: c, [], x => by simp [addL, eval_nil]
  | a :: c, b :: d, x => by
    simp only [addL, eval_cons]; rw [eval_addL c d, add_mul, xor4]
theorem PolyLt.add {k : Nat} {f g : UInt8 → UInt8} (hf : PolyLt k f) (hg : PolyLt k g) : PolyLt k (fun x => f x ^^^ g x) := by
  obtain ⟨c, hc, he⟩ := hf
  obtain ⟨d, hd, hd'⟩ := hg
  exact ⟨addL c d, addL_length c d k hc hd, fun x => by show f x ^^^ g x = _; rw [eval_addL, he, hd']⟩
theorem PolyLt.smul {k : Nat} {f : UInt8 → UInt8} (hf : PolyLt k f) (a : UInt8) : PolyLt k (fun x => mul (f x) a) := by
  obtain ⟨c, hc, he⟩ := hf
  exact ⟨c.map (mul a), by simpa using hc, fun x => by show mul (f x) a = _; rw [eval_scale, he, mul_comm]⟩
theorem PolyLt.lin {k : Nat} {f : UInt8 → UInt8} (hf : PolyLt k f) (b d : UInt8) : PolyLt (k + 1) (fun x => mul (f x) (mul (x ^^^ b) d)) := by
  have h1 : PolyLt (k + 1) (fun x => mul (f x) x) := by
    obtain ⟨c, hc, he⟩ := hf
    exact ⟨0 :: c, by simpa using hc, fun x => by show mul (f x) x = _; rw [eval_cons, he]; simp⟩
  have h2 : PolyLt (k + 1) (fun x => mul (f x) b) := (hf.smul b).mono (by omega)
  obtain ⟨c, hc, he⟩ := (h1.add h2).smul d
  exact ⟨c, hc, fun x => by show mul (f x) (mul (x ^^^ b) d) = _; rw [← he, ← mul_assoc, mul_add]⟩
theorem div_root (r : UInt8) : ∀ c : List UInt8, ∃ q : List UInt8, q.length ≤ c.length - 1 ∧ ∀ x, eval c x = mul (eval q x) (x ^^^ r) ^^^ eval c r
  | [] => ⟨[], by simp, fun x => by simp [eval_nil, zero_mul]⟩
  | a :: c => by
    obtain ⟨q, hq, he⟩ := div_root r c
    by_cases hc : c = []
    · subst hc
      exact ⟨[], by simp, fun x => by simp [eval_cons, eval_nil, zero_mul]⟩
    · have hpos : 0 < c.length := List.length_pos_iff.2 hc
      refine ⟨eval c r :: q, by simp only [List.length_cons]; omega, fun x => ?_⟩
      rw [eval_cons, eval_cons, eval_cons, he x]
      have e1 : mul (mul (eval q x) (x ^^^ r) ^^^ eval c r) x = mul (mul (eval q x) x) (x ^^^ r) ^^^ mul (eval c r) x := by
        rw [add_mul, mul_assoc, mul_comm (x ^^^ r) x, ← mul_assoc]
      rw [e1, add_mul, mul_add (eval c r) x r]
      generalize mul (mul (eval q x) x) (x ^^^ r) = A
      generalize mul (eval c r) x = B
      generalize mul (eval c r) r = C
      have : ∀ A B C a : UInt8, A ^^^ B ^^^ a = A ^^^ (B ^^^ C) ^^^ (C ^^^ a) := by
        intro A B C a
        rw [UInt8.xor_assoc, UInt8.xor_assoc, UInt8.xor_assoc, ← UInt8.xor_assoc C C a, UInt8.xor_self, UInt8.zero_xor]
      exact this A B C a
theorem roots : ∀ (xs c : List UInt8), xs.Nodup → c.length ≤ xs.length → (∀ x ∈ xs, eval c x = 0) → ∀ x, eval c x = 0
  | [], c, _, hc, _, x => by
    have : c = [] := List.eq_nil_of_length_eq_zero (by simpa using hc)
    subst this; rfl
  | r :: xs, c, hn, hc, hz, x => by
    obtain ⟨q, hq, he⟩ := div_root r c
    have hr : eval c r = 0 := hz r (by simp)
    have hn' := List.nodup_cons.1 hn
    have hq0 := roots xs q hn'.2 (by simp only [List.length_cons] at hc; omega) (fun y hy => by
      have h0 := hz y (by simp [hy])
      rw [he y, hr, UInt8.xor_zero] at h0
      exact mul_eq_zero h0 (fun e => hn'.1 (by rw [← xor_cancel e]; exact hy)))
    rw [he x, hr, hq0 x, zero_mul]; rfl
theorem PolyLt.unique {k : Nat} {f g : UInt8 → UInt8} (hf : PolyLt k f) (hg : PolyLt k g) (xs : List UInt8) (hn : xs.Nodup) (hk : k ≤ xs.length) (h : ∀ x ∈ xs, f x = g x) (x : UInt8) : f x = g x := by
  obtain ⟨c, hc, he⟩ := hf.add hg
  have := roots xs c hn (by omega) (fun y hy => by rw [← he y]; show f y ^^^ g y = 0; rw [h y hy, UInt8.xor_self]) x
  rw [← he x] at this
  exact xor_cancel this

/-- What place j counts for place i at x. -/
def factor (at_ : List UInt8) (x : UInt8) (i j : Nat) : UInt8 := mul (x ^^^ at_.getD j 0) (inv (at_.getD i 0 ^^^ at_.getD j 0))
def wstep (at_ : List UInt8) (x : UInt8) (i : Nat) (w : UInt8) (j : Nat) : UInt8 := if j = i then w else mul w (factor at_ x i j)
def weight (at_ : List UInt8) (x : UInt8) (i : Nat) : UInt8 := (List.range at_.length).foldl (wstep at_ x i) 1
def through (at_ vs : List UInt8) (x : UInt8) : UInt8 := (List.range at_.length).foldl (fun s i => s ^^^ mul (weight at_ x i) (vs.getD i 0)) 0

theorem fold_poly (at_ : List UInt8) (i : Nat) : ∀ (js : List Nat) (k : Nat) (f : UInt8 → UInt8), PolyLt k f → PolyLt (k + (js.filter (· ≠ i)).length) (fun x => js.foldl (wstep at_ x i) (f x))
  | [], k, f, h => by simpa using h
  | j :: js, k, f, h => by
    by_cases e : j = i
    · have := fold_poly at_ i js k f h
      simpa [wstep, e] using this
    · have := fold_poly at_ i js (k + 1) (fun x => wstep at_ x i (f x) j) (by simpa [wstep, e, factor] using h.lin _ _)
      have e2 : ((j :: js).filter (· ≠ i)).length = (js.filter (· ≠ i)).length + 1 := by simp [e]
      rw [e2, show k + ((js.filter (· ≠ i)).length + 1) = k + 1 + (js.filter (· ≠ i)).length from by omega]
      exact this
theorem range_ne' : ∀ (n i : Nat), ((List.range n).filter (· ≠ i)).length = if i < n then n - 1 else n
  | 0, i => by simp
  | n + 1, i => by
    rw [List.range_succ, List.filter_append, List.length_append, range_ne' n i]
    by_cases h : i < n
    · have e : n ≠ i := by omega
      rw [if_pos h, if_pos (by omega)]; simp [e]; omega
    · by_cases e : n = i
      · subst e; simp
      · rw [if_neg h, if_neg (by omega)]; simp [e]
theorem range_ne (n i : Nat) (hi : i < n) : ((List.range n).filter (· ≠ i)).length = n - 1 := by rw [range_ne', if_pos hi]
theorem weight_poly (at_ : List UInt8) (i : Nat) (hi : i < at_.length) : PolyLt at_.length (fun x => weight at_ x i) := by
  have := fold_poly at_ i (List.range at_.length) 1 (fun _ => 1) (PolyLt.const 1)
  rw [range_ne _ _ hi] at this
  exact this.mono (by omega)
theorem fold_zero (at_ : List UInt8) (x : UInt8) (i : Nat) : ∀ js : List Nat, js.foldl (wstep at_ x i) 0 = 0
  | [] => rfl
  | j :: js => by
    have : wstep at_ x i 0 j = 0 := by unfold wstep; split <;> simp [zero_mul]
    rw [List.foldl_cons, this, fold_zero]
theorem fold_hits (at_ : List UInt8) (i m : Nat) (hm : m ≠ i) : ∀ (js : List Nat) (w : UInt8), m ∈ js → js.foldl (wstep at_ (at_.getD m 0) i) w = 0
  | [], _, h => by simp at h
  | j :: js, w, h => by
    rw [List.foldl_cons]
    by_cases e : j = m
    · subst e
      have : wstep at_ (at_.getD j 0) i w j = 0 := by unfold wstep factor; rw [if_neg hm, UInt8.xor_self, zero_mul, mul_zero]
      rw [this, fold_zero]
    · exact fold_hits at_ i m hm js _ (by simpa [Ne.symm e] using h)
theorem fold_one (at_ : List UInt8) (i : Nat) (hd : ∀ j, j < at_.length → j ≠ i → at_.getD j 0 ≠ at_.getD i 0) : ∀ (js : List Nat), (∀ j ∈ js, j < at_.length) → js.foldl (wstep at_ (at_.getD i 0) i) 1 = 1
  | [], _ => rfl
  | j :: js, h => by
    have : wstep at_ (at_.getD i 0) i 1 j = 1 := by
      unfold wstep factor
      split
      · rfl
      · rename_i hne
        rw [one_mul, mul_inv (fun e => hd j (h j (by simp)) hne (xor_cancel e).symm)]
    rw [List.foldl_cons, this]
    exact fold_one at_ i hd js (fun k hk => h k (by simp [hk]))
theorem getD_ne {l : List UInt8} (hn : l.Nodup) {i j : Nat} (hi : i < l.length) (hj : j < l.length) (h : j ≠ i) : l.getD j 0 ≠ l.getD i 0 := by
  rw [List.getD_eq_getElem?_getD, List.getD_eq_getElem?_getD, List.getElem?_eq_getElem hi, List.getElem?_eq_getElem hj]
  intro e
  simp only [Option.getD_some] at e
  rcases Nat.lt_or_gt_of_ne h with hl | hl
  · exact (List.pairwise_iff_getElem.1 hn) j i hj hi hl e
  · exact (List.pairwise_iff_getElem.1 hn) i j hi hj hl e.symm
theorem weight_at (at_ : List UInt8) (hn : at_.Nodup) (i m : Nat) (hi : i < at_.length) (hm : m < at_.length) : weight at_ (at_.getD m 0) i = if m = i then 1 else 0 := by
  unfold weight
  split
  · rename_i e; subst e
    exact fold_one at_ m (fun j hj hne => getD_ne hn hm hj hne) _ (fun j hj => List.mem_range.1 hj)
  · rename_i hne
    exact fold_hits at_ i m hne _ _ (List.mem_range.2 hm)
theorem sum_poly (at_ vs : List UInt8) : ∀ (js : List Nat) (k : Nat) (f : UInt8 → UInt8), (∀ j ∈ js, j < at_.length) → at_.length = k → PolyLt k f →
    PolyLt k (fun x => js.foldl (fun s i => s ^^^ mul (weight at_ x i) (vs.getD i 0)) (f x))
  | [], _, _, _, _, h => h
  | j :: js, k, f, hj, hk, h => sum_poly at_ vs js k _ (fun i hi => hj i (by simp [hi])) hk (h.add (by
      have := (weight_poly at_ j (hj j (by simp))).smul (vs.getD j 0)
      rwa [hk] at this))
theorem through_poly (at_ vs : List UInt8) : PolyLt at_.length (through at_ vs) :=
  sum_poly at_ vs _ _ (fun _ => 0) (fun _ hj => List.mem_range.1 hj) rfl (PolyLt.zero _)
theorem sum_at (at_ vs : List UInt8) (hn : at_.Nodup) (m : Nat) (hm : m < at_.length) : ∀ (js : List Nat) (s : UInt8), (∀ j ∈ js, j < at_.length) → js.Nodup →
    js.foldl (fun s i => s ^^^ mul (weight at_ (at_.getD m 0) i) (vs.getD i 0)) s = if m ∈ js then s ^^^ vs.getD m 0 else s
  | [], s, _, _ => by simp
  | j :: js, s, hj, hd => by
    have hd' := List.nodup_cons.1 hd
    rw [List.foldl_cons, sum_at at_ vs hn m hm js _ (fun i hi => hj i (by simp [hi])) hd'.2, weight_at at_ hn j m (hj j (by simp)) hm]
    by_cases e : m = j
    · subst e
      rw [if_neg hd'.1, if_pos rfl, one_mul, if_pos (by simp)]
    · rw [if_neg e, zero_mul]
      simp [e]
theorem through_at (at_ vs : List UInt8) (hn : at_.Nodup) (m : Nat) (hm : m < at_.length) : through at_ vs (at_.getD m 0) = vs.getD m 0 := by
  unfold through
  rw [sum_at at_ vs hn m hm _ _ (fun j hj => List.mem_range.1 hj) List.nodup_range, if_pos (List.mem_range.2 hm)]
  simp
/-- LAGRANGE: a polynomial with no more numbers than there are places is told again, everywhere. -/
theorem through_tells {k : Nat} {f : UInt8 → UInt8} (hf : PolyLt k f) (at_ vs : List UInt8) (hn : at_.Nodup) (hk : k ≤ at_.length) (hv : ∀ m, m < at_.length → vs.getD m 0 = f (at_.getD m 0)) (x : UInt8) : through at_ vs x = f x :=
  PolyLt.unique (through_poly at_ vs) (hf.mono hk) at_ hn (Nat.le_refl _) (fun y hy => by
    obtain ⟨m, hm, rfl⟩ := List.mem_iff_getElem.1 hy
    have e : at_[m] = at_.getD m 0 := by rw [List.getD_eq_getElem?_getD, List.getElem?_eq_getElem hm]; rfl
    rw [e, through_at at_ vs hn m hm, hv m hm]) x
end Gf
end Go.Proofs.Ytddehjgmmeoboaa
