/- Slices of contacts as rows of cells; what a book without a fault is. -/
import Derived.Test.YtddehjgmmeoboaaDoorKnown
namespace Go.Proofs.YtddehjgmmeoboaaDoor
open Go.RowKit
set_option maxRecDepth 8000

def conCells (xs : List Con) : List Value := xs.flatMap Con.c
theorem conCells_len {xs : List Con} (h : ∀ x ∈ xs, x.K.length = 32) : (conCells xs).length = xs.length * 34 := by
  induction xs with
  | nil => rfl
  | cons x xs ih =>
    unfold conCells at *
    rw [List.flatMap_cons, List.length_append, x.len (h x (by simp)), ih (fun y hy => h y (by simp [hy]))]
    simp; omega
theorem conCells_get {xs : List Con} (h : ∀ x ∈ xs, x.K.length = 32) : ∀ (i j : Nat), i < xs.length → j < 34 → (conCells xs)[i * 34 + j]? = (xs.getD i Con.z).c[j]? := by
  induction xs with
  | nil => intro i j hi; simp at hi
  | cons x xs ih =>
    intro i j hi hj
    have hx := x.len (h x (by simp))
    have e : conCells (x :: xs) = x.c ++ conCells xs := rfl
    rw [e]
    cases i with
    | zero => rw [List.getElem?_append_left (by omega)]; simp
    | succ i =>
      rw [List.getElem?_append_right (by omega), show (i + 1) * 34 + j - x.c.length = i * 34 + j by omega, ih (fun y hy => h y (by simp [hy])) i j (by simpa using hi) hj]
      simp
theorem conCells_one (xs : List Con) : ∀ u ∈ conCells xs, u.oneCell' = true := by
  intro u hu
  obtain ⟨x, _, hx⟩ := List.mem_flatMap.1 hu
  exact x.one u hx
theorem conCells_append (xs ys : List Con) : conCells (xs ++ ys) = conCells xs ++ conCells ys := by unfold conCells; simp
theorem conCells_single (x : Con) : conCells [x] = x.c := by unfold conCells; simp
theorem Rd.cons {w : World} {A : Option Addr} {n c : Nat} {xs : List Con} (h : Rd w 34 A n c (conCells xs)) (hk : ∀ x ∈ xs, x.K.length = 32) : RdCons w A n xs := by
  have hl := h.len
  rw [conCells_len hk] at hl
  have hn : xs.length = n := by omega
  refine ⟨hn, hk, fun i hi => ?_⟩
  obtain ⟨ad, e, hb, hc⟩ := h.at_ (by omega)
  refine ⟨ad, e, hb, fun j v hv => ?_⟩
  have hj : j < 34 := by
    have h1 := (List.getElem?_eq_some_iff.1 hv).1
    have h2 : (xs.getD i Con.z).K.length = 32 := by
      rw [List.getD_eq_getElem?_getD, List.getElem?_eq_getElem (by omega)]
      exact hk _ (List.getElem_mem (by omega))
    rwa [Con.len _ h2] at h1
  rw [add_add]
  exact hc _ _ ((conCells_get hk i j (by omega) hj).trans hv)
theorem RdCons.rd {w : World} {A : Option Addr} {n c : Nat} {xs : List Con} (h : RdCons w A n xs) (hn : n ≤ c) (hc : c ≤ maxLen) (h0 : A = none → c = 0) : Rd w 34 A n c (conCells xs) := by
  refine ⟨hn, hc, h0, by rw [conCells_len h.keys, h.len], fun hp => ?_⟩
  obtain ⟨ad, e, hb, _⟩ := h.at_ 0 hp
  refine ⟨ad, e, hb, fun j u hu => ?_⟩
  have hj := (List.getElem?_eq_some_iff.1 hu).1
  rw [conCells_len h.keys, h.len] at hj
  have hi : j / 34 < n := by omega
  have e1 : j = j / 34 * 34 + j % 34 := by omega
  obtain ⟨ad2, e2, _, h2⟩ := h.at_ _ hi
  rw [e] at e2
  injection e2 with e2; subst e2
  have := h2 (j % 34) u (by rw [← conCells_get h.keys _ _ (by rw [h.len]; exact hi) (by omega), ← e1]; exact hu)
  rw [add_add, ← e1] at this
  exact this
/-- The book behind its first contact. -/
theorem RdCons.tail {w : World} {ad : Addr} {n : Nat} {x : Con} {xs : List Con} (h : RdCons w (some ad) (n + 1) (x :: xs)) (A : Option Addr) (hA : 0 < n → A = some ⟨ad.block, ad.off + 34, none⟩) : RdCons w A n xs := by
  have hl := h.len
  refine ⟨by simpa using hl, fun y hy => h.keys y (by simp [hy]), fun i hi => ?_⟩
  obtain ⟨ad2, e2, hb, hc⟩ := h.at_ (i + 1) (by omega)
  injection e2 with e2; subst e2
  refine ⟨_, hA (by omega), hb, fun j v hv => ?_⟩
  have := hc j v (by simpa using hv)
  rw [add_add] at this
  have e3 : (⟨ad.block, ad.off + 34, none⟩ : Addr) = ad.add 34 := by rw [add_at _ 34 (by omega)]
  rw [e3, add_add, add_add, show 34 + (i * 34 + j) = (i + 1) * 34 + j by omega]
  exact this
theorem rd_con1 (w : World) (x : Con) (hK : x.K.length = 32) : Rd (w.alloc (.cells x.c.toArray 59)) 34 (some ⟨w.heap.size, 0, none⟩) 1 1 (conCells [x]) := by
  have h := Blk.new w 59 x.c
  refine ⟨Nat.le_refl _, by unfold maxLen; omega, (fun h => by cases h), by rw [conCells_single, x.len hK], fun _ => ⟨_, rfl, h.lt, fun j u hu => ?_⟩⟩
  rw [Addr.add_mid, h.cell]
  rw [conCells_single] at hu
  simpa using hu
theorem foldl_set (xs : List Value) : ∀ (k : Nat) (Z : Array Value), k + xs.length = Z.size → (xs.zipIdx k).foldl (fun cs x => cs.setIfInBounds x.snd x.fst) Z = (Z.toList.take k ++ xs).toArray := by
  induction xs with
  | nil => intro k Z h; simp at h; subst h; rw [List.zipIdx_nil, List.foldl_nil, List.append_nil, List.take_of_length_le (by simp)]
  | cons x xs ih =>
    intro k Z h
    simp only [List.length_cons] at h
    rw [List.zipIdx_cons, List.foldl_cons, ih (k + 1) _ (by simp; omega)]
    congr 1
    rw [Array.toList_setIfInBounds]
    have hk : k < Z.toList.length := by simp; omega
    rw [List.take_add_one, List.take_set_of_le (Nat.le_refl _), List.getElem?_set_self (by simpa using hk)]
    simp
theorem built_con (x : Con) (hK : x.K.length = 32) (Z : Array Value) (hZ : Z.size = 34) : x.c.zipIdx.foldl (fun cs x => cs.setIfInBounds x.snd x.fst) Z = x.c.toArray := by
  have := foldl_set x.c 0 Z (by rw [x.len hK]; omega)
  simpa using this
theorem rd_built (w : World) (x : Con) (hK : x.K.length = 32) (Z : Array Value) (hZ : Z.size = 34) : Rd (w.alloc (.cells (x.c.zipIdx.foldl (fun cs x => cs.setIfInBounds x.snd x.fst) Z) 59)) 34 (some ⟨w.heap.size, 0, none⟩) 1 1 (conCells [x]) := by
  rw [built_con x hK Z hZ]; exact rd_con1 w x hK
theorem Tryd.infoConA : (Tryd.prog.info? 59).map (fun i => (i.zero, i.size, i.bytes)) = some (some (.agg conZ.toArray), 34, 56) := by kernel_rfl

/-- Of a book without a fault. -/
structure Sound (xs : List Con) : Prop where
  few : xs.length ≤ 40
  srt : Bk.Sorted cname xs
  nm : ∀ x ∈ xs, named (cname x) = true
  lv : ∀ x ∈ xs, 1 ≤ x.l ∧ x.l ≤ 4
theorem faultFrom_all {xs : List Con} : ∀ (k i : Nat), faultFrom xs i k = 0 → ∀ j, i ≤ j → j < i + k → faultAt xs j = 0
  | 0, i, _, j, h1, h2 => by omega
  | k + 1, i, h, j, h1, h2 => by
    rw [faultFrom] at h
    by_cases h0 : faultAt xs i = 0
    · rw [if_pos h0] at h
      by_cases e : j = i
      · rw [e]; exact h0
      · exact faultFrom_all k (i + 1) h j (by omega) (by omega)
    · rw [if_neg h0] at h; exact absurd h h0
theorem faultAt_zero {xs : List Con} {i : Nat} (h : faultAt xs i = 0) : named (cname (xs.getD i Con.z)) = true ∧ (0 < i → Bk.less (cname (xs.getD (i - 1) Con.z)) (cname (xs.getD i Con.z)) = true) ∧ 1 ≤ (xs.getD i Con.z).l ∧ (xs.getD i Con.z).l ≤ 4 := by
  unfold faultAt at h
  by_cases h1 : named (xs.getD i Con.z).s.data.toList = false
  · rw [if_pos h1] at h; cases h
  · rw [if_neg h1] at h
    by_cases h2 : 0 < i ∧ Bk.less (xs.getD (i - 1) Con.z).s.data.toList (xs.getD i Con.z).s.data.toList = false
    · rw [if_pos h2] at h; cases h
    · rw [if_neg h2] at h
      by_cases h3 : (xs.getD i Con.z).l < 1 ∨ 4 < (xs.getD i Con.z).l
      · rw [if_pos h3] at h; cases h
      · refine ⟨by simpa [cname] using h1, fun h0 => ?_, by omega, by omega⟩
        cases h4 : Bk.less (cname (xs.getD (i - 1) Con.z)) (cname (xs.getD i Con.z))
        · exact absurd ⟨h0, h4⟩ h2
        · rfl
theorem sound_of {xs : List Con} (h : fault xs = 0) : Sound xs := by
  unfold fault at h
  by_cases h40 : 40 < xs.length
  · rw [if_pos h40] at h; cases h
  · rw [if_neg h40] at h
    have hall : ∀ i, i < xs.length → faultAt xs i = 0 := fun i hi => faultFrom_all _ _ h i (by omega) (by omega)
    have hg : ∀ i (hi : i < xs.length), xs.getD i Con.z = xs[i] := fun i hi => by rw [List.getD_eq_getElem?_getD, List.getElem?_eq_getElem hi]; rfl
    refine ⟨by omega, ?_, fun x hx => ?_, fun x hx => ?_⟩
    · have key : ∀ (d i : Nat) (hd : i + d + 1 < xs.length), Bk.less (cname (xs.getD i Con.z)) (cname (xs.getD (i + d + 1) Con.z)) = true := by
        intro d
        induction d with
        | zero => intro i hd; have := (faultAt_zero (hall (i + 1) hd)).2.1 (by omega); simpa using this
        | succ d ih =>
          intro i hd
          have h1 := ih i (by omega)
          have h2 := (faultAt_zero (hall (i + (d + 1) + 1) hd)).2.1 (by omega)
          rw [show i + (d + 1) + 1 - 1 = i + d + 1 by omega] at h2
          exact Bk.less_trans h1 h2
      refine List.pairwise_iff_getElem.2 fun i j hi hj hij => ?_
      have := key (j - i - 1) i (by omega)
      rw [show i + (j - i - 1) + 1 = j by omega, hg i hi, hg j hj] at this
      exact this
    · obtain ⟨i, hi, rfl⟩ := List.mem_iff_getElem.1 hx
      rw [← hg i hi]; exact (faultAt_zero (hall i hi)).1
    · obtain ⟨i, hi, rfl⟩ := List.mem_iff_getElem.1 hx
      rw [← hg i hi]; exact (faultAt_zero (hall i hi)).2.2
theorem Sound.tail {x : Con} {xs : List Con} (h : Sound (x :: xs)) : Sound xs :=
  ⟨by have := h.few; simp at this; omega, (List.pairwise_cons.1 h.srt).2, fun y hy => h.nm y (by simp [hy]), fun y hy => h.lv y (by simp [hy])⟩
theorem named_ne {l : List UInt8} (h : named l = true) : l ≠ [] := by
  intro e; subst e; simp [named] at h
abbrev mrg (xs ys : List Con) : List Con := Bk.merge cname oneCon xs ys
theorem mrg_keys : ∀ (xs ys : List Con), (∀ x ∈ xs, x.K.length = 32) → (∀ y ∈ ys, y.K.length = 32) → ∀ z ∈ mrg xs ys, z.K.length = 32 := by
  intro xs ys
  induction xs, ys using Bk.merge.induct cname with
  | case1 ys => intro _ hy z hz; rw [mrg, Bk.merge_nil_left] at hz; exact hy z hz
  | case2 x a => intro hx _ z hz; rw [mrg, Bk.merge_nil_right] at hz; exact hx z hz
  | case3 x a y b h ih =>
    intro hx hy z hz
    rw [mrg, Bk.merge, if_pos h] at hz
    rcases List.mem_cons.1 hz with rfl | hz
    · exact hx _ (by simp)
    · exact ih (fun u hu => hx u (by simp [hu])) hy z hz
  | case4 x a y b h h2 ih =>
    intro hx hy z hz
    rw [mrg, Bk.merge, if_neg h, if_pos h2] at hz
    rcases List.mem_cons.1 hz with rfl | hz
    · exact hy _ (by simp)
    · exact ih hx (fun u hu => hy u (by simp [hu])) z hz
  | case5 x a y b h h2 ih =>
    intro hx hy z hz
    rw [mrg, Bk.merge, if_neg h, if_neg h2] at hz
    rcases List.mem_cons.1 hz with rfl | hz
    · exact oneCon_key (hx x (by simp)) (hy y (by simp))
    · exact ih (fun u hu => hx u (by simp [hu])) (fun u hu => hy u (by simp [hu])) z hz
theorem mrg_len : ∀ (xs ys : List Con), (mrg xs ys).length ≤ xs.length + ys.length := by
  intro xs ys
  induction xs, ys using Bk.merge.induct cname with
  | case1 ys => rw [mrg, Bk.merge_nil_left]; simp
  | case2 x a => rw [mrg, Bk.merge_nil_right]; simp
  | case3 x a y b h ih => rw [mrg, Bk.merge, if_pos h]; unfold mrg at ih; simp only [List.length_cons] at *; omega
  | case4 x a y b h h2 ih => rw [mrg, Bk.merge, if_neg h, if_pos h2]; unfold mrg at ih; simp only [List.length_cons] at *; omega
  | case5 x a y b h h2 ih => rw [mrg, Bk.merge, if_neg h, if_neg h2]; unfold mrg at ih; simp only [List.length_cons] at *; omega
/-- What is wrong with a join; 0: nothing. -/
def joinFault (xs ys : List Con) : Int := if fault xs ≠ 0 then fault xs else if fault ys ≠ 0 then fault ys else if 40 < (mrg xs ys).length then 4 else 0
def joinOf (xs ys : List Con) : List Con := if joinFault xs ys = 0 then mrg xs ys else []
end Go.Proofs.YtddehjgmmeoboaaDoor
