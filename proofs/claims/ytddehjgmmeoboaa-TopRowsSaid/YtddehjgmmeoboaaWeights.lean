/- The walks of share.Weights and share.Through. -/
import Derived.Test.YtddehjgmmeoboaaGfi
import Derived.Test.YtddehjgmmeoboaaField
import Derived.StillTailTactics
namespace Go.Proofs.Ytddehjgmmeoboaa
open Go.RowKit

theorem foldl_range_succ {α : Type} (f : α → Nat → α) (a : α) (k : Nat) : (List.range (k + 1)).foldl f a = f ((List.range k).foldl f a) k := by
  rw [List.range_succ, List.foldl_append]; rfl

def WS (at_ : List UInt8) (x : UInt8) (i j : Nat) : UInt8 := (List.range j).foldl (Gf.wstep at_ x i) 1
theorem WS_zero (at_ : List UInt8) (x : UInt8) (i : Nat) : WS at_ x i 0 = 1 := rfl
theorem WS_same (at_ : List UInt8) (x : UInt8) (i : Nat) : WS at_ x i (i + 1) = WS at_ x i i := by
  unfold WS; rw [foldl_range_succ]; simp [Gf.wstep]
theorem WS_next {at_ : List UInt8} (x : UInt8) {i j : Nat} (h : j ≠ i) (hj : j < at_.length) (hi : i < at_.length) : WS at_ x i (j + 1) = Gf.mul (WS at_ x i j) (Gf.mul (x ^^^ at_[j]) (Gf.inv (at_[i] ^^^ at_[j]))) := by
  unfold WS; rw [foldl_range_succ]
  simp [Gf.wstep, Gf.factor, h, List.getD_eq_getElem?_getD, hj, hi]
theorem WS_weight {at_ : List UInt8} {n : Nat} (h : at_.length = n) (x : UInt8) (i : Nat) : WS at_ x i n = Gf.weight at_ x i := by
  unfold WS Gf.weight; rw [h]
theorem xor_ne {at_ : List UInt8} (hd : at_.Nodup) {i j : Nat} (hi : i < at_.length) (hj : j < at_.length) (h : j ≠ i) : at_[i] ^^^ at_[j] ≠ 0 := by
  intro e
  have e2 := Gf.xor_cancel e
  rcases Nat.lt_or_gt_of_ne h with hl | hl
  · exact (List.pairwise_iff_getElem.1 hd) j i hj hi hl e2.symm
  · exact (List.pairwise_iff_getElem.1 hd) i j hi hj hl e2
theorem int_beq (a b : Nat) : ((a : Int) == (b : Int)) = decide (a = b) := by
  by_cases h : a = b
  · subst h; simp
  · rw [decide_eq_false h, beq_eq_false_iff_ne]; omega
set_option maxHeartbeats 400000 in
theorem weights_any (at_ : List UInt8) (x : UInt8) (A : Option Addr) (n c : Nat) (w : World) (hn : at_.length = n) (hd : at_.Nodup) (hl : n ≤ 1000) (hr : Rd w 1 A n c (at_.map B)) :
    Calls Try.prog 20 #[.slice A n c, B x] w fun e w' => ∃ v, e = .returned v ∧ w'.ownsRow w.heap.size 5 1 v n ((List.range n).map fun i => B (Gf.weight at_ x i)) ∧ Below w.heap.size w w' := by
  obtain ⟨i0, hi, hz0, hz1, hz2⟩ := info_parts Try.infoU8
  have hN := Lib.hid hn; clear hn
  have hD := Lib.hid hd; clear hd
  go_enter Try.func20, Try.ntmps20
  go_wp2
  go_loopw [5, 15] (fun v i wr => ∃ k : Nat, k ≤ n ∧ i = .int .i64 k ∧ wr.ownsRow w.heap.size 5 1 v k ((List.range k).map fun i => B (Gf.weight at_ x i)) ∧ Below w.heap.size w wr) (fun _ i _ => n - (intOf i).toNat)
  case atStart => exact ⟨0, Nat.zero_le _, rfl, World.ownsRow_nil _ _ _ _, Below.refl _ _⟩
  case round =>
    obtain ⟨k, hk, rfl, hown, hb⟩ := hrel
    by_cases hlt : k < n
    · have hkl : k < at_.length := by rw [hN.out]; exact hlt
      obtain ⟨ad, rfl, hab, hcell⟩ := hr.cell (j := k) (by simpa using hkl)
      have hc : wr.cell? (ad.add k) = some (B at_[k]) := (hb.cell (by rw [addr_block]; exact hab)).trans (by rw [hcell]; simp)
      clear hcell
      go_wp2_with fail
      go_loop [8, 22] (fun v j => ∃ m : Nat, m ≤ n ∧ j = .int .i64 m ∧ v = B (WS at_ x k m)) (fun _ j => n - (intOf j).toNat)
      case atStart => exact ⟨0, Nat.zero_le _, rfl, rfl⟩
      case round =>
        obtain ⟨m, hm, rfl, rfl⟩ := hrel
        by_cases hml : m < n
        · have hmL : m < at_.length := by rw [hN.out]; exact hml
          obtain ⟨ad', e', _, hcell⟩ := hr.cell (j := m) (by simpa using hmL)
          injection e' with e'; subst e'
          have hcm : wr.cell? (ad.add m) = some (B at_[m]) := (hb.cell (by rw [addr_block]; exact hab)).trans (by rw [hcell]; simp)
          clear hcell
          by_cases he : m = k
          · subst he
            go_wp2
            go_round
            case rel => exact ⟨m + 1, by omega, by go_num, by rw [WS_same]⟩
            case measure => simp [intOf]; omega
          · have hq : ((m : Int) == (k : Int)) = false := by rw [int_beq]; simpa using he
            have hx := Lib.hid (xor_ne hD.out hkl hmL he)
            go_wp2_with fail
            refine (add_any _ _ _).mono ?_
            rintro e w' ⟨rfl, rfl⟩
            go_wp2_with fail
            refine (inv_any _ hx.out _).mono ?_
            rintro e w' ⟨rfl, rfl⟩
            go_wp2_with fail
            refine (add_any _ _ _).mono ?_
            rintro e w' ⟨rfl, rfl⟩
            go_wp2_with fail
            refine (mul_any _ _ _).mono ?_
            rintro e w' ⟨rfl, rfl⟩
            go_wp2_with fail
            refine (mul_any _ _ _).mono ?_
            rintro e w' ⟨rfl, rfl⟩
            go_wp2_with fail
            go_round
            case rel => exact ⟨m + 1, by omega, by go_num, by rw [WS_next x he hmL hkl]⟩
            case measure => simp [intOf]; omega
        · obtain rfl : m = n := by omega
          go_wp2_with (at_builtin; go_must (refine app1 (by rfl) _ _ _ (by rfl) w.heap.size 5 i0 _ 1 Try.underlying26 hi hz0 hz1 hz2 rfl _ k _ (B (WS at_ x k m)) (by rfl) hown (by rfl) rfl (by unfold maxLen; omega) (by omega) hb.size ?_); intro v1 w1 hown1 hb1 _ _)
          go_roundw
          case rel => exact ⟨k + 1, by omega, by go_num, by rw [List.range_succ, List.map_append, List.map_singleton, ← WS_weight hN.out]; exact hown1, hb.trans hb1⟩
          case measure => simp [intOf]; omega
    · obtain rfl : k = n := by omega
      go_wp2_with fail
      go_ret
      exact ⟨_, rfl, hown, hb⟩

/-- The sum over the first i places, at column q. -/
def TP (at_ : List UInt8) (rows : List (List UInt8)) (x : UInt8) (i q : Nat) : UInt8 := (List.range i).foldl (fun s j => s ^^^ Gf.mul (Gf.weight at_ x j) ((rows.getD j []).getD q 0)) 0
theorem TP_succ (at_ : List UInt8) (rows : List (List UInt8)) (x : UInt8) (i q : Nat) : TP at_ rows x (i + 1) q = TP at_ rows x i q ^^^ Gf.mul (Gf.weight at_ x i) ((rows.getD i []).getD q 0) := by
  unfold TP; rw [foldl_range_succ]
/-- What 'out' holds when k columns of row i are in. -/
def TO (at_ : List UInt8) (rows : List (List UInt8)) (x : UInt8) (m i k : Nat) : List Value := (List.range m).map fun q => B (TP at_ rows x (if q < k then i + 1 else i) q)
theorem TO_next (at_ : List UInt8) (rows : List (List UInt8)) (x : UInt8) (m i : Nat) : TO at_ rows x m i m = TO at_ rows x m (i + 1) 0 := by
  unfold TO
  refine List.map_congr_left fun q hq => ?_
  have := List.mem_range.1 hq
  rw [if_pos this, if_neg (by omega)]
theorem TO_get (at_ : List UInt8) (rows : List (List UInt8)) (x : UInt8) {m i k : Nat} (hk : k < m) : (TO at_ rows x m i k)[k]? = some (B (TP at_ rows x i k)) := by
  unfold TO
  simp [hk]
theorem TO_set (at_ : List UInt8) (rows : List (List UInt8)) (x : UInt8) {m i k : Nat} : (TO at_ rows x m i k).set k (B (TP at_ rows x (i + 1) k)) = TO at_ rows x m i (k + 1) := by
  unfold TO
  refine List.ext_getElem (by simp) fun q h1 h2 => ?_
  simp only [List.length_set, List.length_map, List.length_range] at h1
  rw [List.getElem_set]
  by_cases e : k = q
  · subst e; simp
  · rw [if_neg e]
    simp only [List.getElem_map, List.getElem_range]
    by_cases h : q < k
    · rw [if_pos h, if_pos (by omega)]
    · rw [if_neg h, if_neg (by omega)]
theorem madeCells_u8 (m : Nat) (at_ : List UInt8) (rows : List (List UInt8)) (x : UInt8) : (madeCells (Value.cells (.int .u8 0)) (m * 1)).toList = TO at_ rows x m 0 0 := by
  rw [Nat.mul_one]
  have := toList_madeCells_one (.int .u8 0) m
  simp only [Value.cells]
  rw [this]
  unfold TO
  refine List.ext_getElem (by simp) fun q h1 h2 => ?_
  simp [TP]

set_option maxHeartbeats 400000 in
theorem through_any (at_ : List UInt8) (rows : List (List UInt8)) (x : UInt8) (A A2 : Option Addr) (n c c2 m : Nat) (w : World) (hn : at_.length = n) (hrn : rows.length = n) (hd : at_.Nodup) (hpos : 0 < n) (hl : n ≤ 1000) (hm : m ≤ 140737488351232)
    (hrows : ∀ r ∈ rows, r.length = m) (hr : Rd w 1 A n c (at_.map B)) (hrr : RdM w A2 n c2 (rows.map (·.map B))) :
    Calls Try.prog 15 #[.slice A n c, .slice A2 n c2, B x] w fun e w' => ∃ v, e = .returned v ∧ w'.ownsRow w.heap.size 5 1 v m ((List.range m).map fun q => B (Gf.through at_ (rows.map (·.getD q 0)) x)) ∧ Below w.heap.size w w' := by
  obtain ⟨i0, hi, hz0, hz1, hz2⟩ := info_parts Try.infoU8
  have row : ∀ (i : Nat), i < n → ∃ ad A' c', A2 = some ad ∧ ad.block < w.heap.size ∧ w.cell? (ad.add i) = some (.slice A' m c') ∧ Rd w 1 A' m c' ((rows.getD i []).map B) := by
    intro i hin
    have hil : i < rows.length := by omega
    obtain ⟨ad, A', c', e1, e2, e3, e4⟩ := hrr.at_ i (by simpa using hil)
    have e5 : (rows.map (·.map B))[i]'(by simpa using hil) = (rows.getD i []).map B := by simp [List.getD_eq_getElem?_getD, hil]
    have e6 : ((rows.getD i []).map B).length = m := by
      rw [List.length_map, List.getD_eq_getElem?_getD, List.getElem?_eq_getElem hil]; exact hrows _ (List.getElem_mem hil)
    rw [e5, e6] at e3 e4
    exact ⟨ad, A', c', e1, e2, e3, e4⟩
  have hN := Lib.hid hn; clear hn
  have hD := Lib.hid hd; clear hd
  have hRN := Lib.hid hrn; clear hrn
  have hRW := Lib.hid hrows; clear hrows
  have hROW := Lib.hid row; clear row
  obtain ⟨ad2, A0, c0, rfl, hab2, hc20, hr0⟩ := hROW.out 0 hpos
  go_enter Try.func15, Try.ntmps15
  go_wp2_with fail
  refine (weights_any at_ x A n c _ hN.out hD.out hl hr).mono ?_
  rintro e w1 ⟨vw, rfl, hownw, hb1⟩
  have hc1 : w1.cell? ad2 = some (.slice A0 m c0) := (hb1.cell hab2).trans (by simpa [Addr.add] using hc20)
  obtain ⟨Aw, cw, rfl, hrw⟩ := own_rd hownw
  have row1 : ∀ (i : Nat), i < n → ∃ A' c', w1.cell? (ad2.add i) = some (.slice A' m c') ∧ Rd w1 1 A' m c' ((rows.getD i []).map B) := by
    intro i hin
    obtain ⟨ad, A', c', e1, e2, e3, e4⟩ := hROW.out i hin
    injection e1 with e1; subst e1
    exact ⟨A', c', (hb1.cell (by rw [addr_block]; exact hab2)).trans e3, e4.below' hb1⟩
  have hab1 : ad2.block < w1.heap.size := Nat.lt_of_lt_of_le hab2 hb1.size
  have hROW1 := Lib.hid row1; clear row1
  have hs1 := hb1.size
  go_wp2_with (at_make; go_must (refine wpList_make_full _ (by rfl) _ _ _ (by rfl) w1.heap.size 5 i0 _ 1 Try.underlying26 hi hz0 hz1 _ _ _ _ m (by rfl) (by rfl) rfl rfl (by rw [hz2]; omega) (by unfold maxLen; omega) (Nat.le_refl _) ?_); intro w2 howno hg2)
  rw [madeCells_u8 m at_ rows x] at howno
  go_loopw [23] (fun si wr => ∃ i : Nat, i ≤ n ∧ si = .int .i64 i ∧ wr.ownsRow w1.heap.size 5 1 (.slice (some ⟨w1.heap.size, 0, none⟩) m m) m (TO at_ rows x m i 0) ∧ Below w1.heap.size w1 wr) (fun si _ => n - (intOf si).toNat)
  case atStart => exact ⟨0, Nat.zero_le _, rfl, howno, (Below.refl _ _).grown hg2 (Nat.le_refl _) (fun k h => by cases h)⟩
  case round =>
    obtain ⟨i, hin, rfl, hown, hb⟩ := hrel
    by_cases hlt : i < n
    · obtain ⟨A', c', hci, hri⟩ := hROW1.out i hlt
      have hci' : wr.cell? (ad2.add i) = some (.slice A' m c') := (hb.cell (by rw [addr_block]; exact hab1)).trans hci
      clear hci
      go_wp2_with fail
      obtain ⟨wo, rfl⟩ : ∃ wo : World, wo = wr := ⟨_, rfl⟩
      go_loopw [30] (fun sk wr => ∃ k : Nat, k ≤ m ∧ sk = .int .i64 k ∧ wr.ownsRow w1.heap.size 5 1 (.slice (some ⟨w1.heap.size, 0, none⟩) m m) m (TO at_ rows x m i k) ∧ Below w1.heap.size w1 wr) (fun sk _ => m - (intOf sk).toNat)
      case atStart => exact ⟨0, Nat.zero_le _, rfl, hown, hb⟩
      case round =>
        clear hown hb hci'
        obtain ⟨k, hkm, rfl, hown, hb⟩ := hrel
        by_cases hkl : k < m
        · obtain ⟨ak, rfl, hak, hck⟩ := hri.byte hkl
          generalize hR : rows.getD i [] = R at *
          have hck' : wr.cell? (ak.add k) = some (B (R.getD k 0)) := (hb.cell (by rw [addr_block]; exact hak)).trans hck
          generalize hbk : R.getD k 0 = bk at *
          have hBK := Lib.hid hbk; clear hbk
          have hRR := Lib.hid hR; clear hR
          obtain ⟨aw, rfl, haw, hcw⟩ := hrw.cell (j := i) (by simpa using hlt)
          have hcw' : wr.cell? (aw.add i) = some (B (Gf.weight at_ x i)) := (hb.cell (by rw [addr_block]; exact haw)).trans (by rw [hcw]; simp)
          have hco : wr.cell? ⟨w1.heap.size, k, none⟩ = some (B (TP at_ rows x i k)) := by
            rw [hown.cellAt k (by omega)]; exact TO_get at_ rows x hkl
          have hfo : wr.frozen? ⟨w1.heap.size, k, none⟩ = false := hown.frozenAt k
          have k0 : (0 : Int) ≤ (k : Int) := by omega
          have k1 : (k : Int) < (m : Int) := by omega
          have i1 : (i : Int) < (n : Int) := by omega
          clear hck hcw
          go_wp2_with fail
          go_still_tail 14, (by kernel_rfl)
          still_call ((mul_any _ _ _).mono (fun _ _ h => ⟨h.1, h.2.symm⟩))
          repeat still_step
          still_call ((add_any _ _ _).mono (fun _ _ h => ⟨h.1, h.2.symm⟩))
          repeat still_step
          refine wpStill_nil ?_
          change wpList _ _ _ _ _ wr.drew
          go_wp2
          go_roundw
          case rel =>
            have e : Value.int IntKind.u8 (((TP at_ rows x i k).toNat ^^^ (Gf.mul (Gf.weight at_ x i) bk).toNat : Nat) : Int) = B (TP at_ rows x (i + 1) k) := by
              rw [TP_succ, hRR.out, hBK.out]; simp
            have hst := hown.stored k (B (TP at_ rows x (i + 1) k))
            rw [TO_set] at hst
            rw [e]
            exact ⟨k + 1, by omega, by go_num, hst.1, (hb.setCell (Nat.le_refl _) _).drew⟩
          case measure => simp [intOf]; omega
        · obtain rfl : k = m := by omega
          go_wp2
          go_roundw
          case rel =>
            rw [TO_next] at hown
            exact ⟨i + 1, by omega, by go_num, hown, hb⟩
          case measure => simp [intOf]; omega
    · obtain rfl : i = n := by omega
      go_wp2
      go_ret
      refine ⟨_, rfl, ?_, hb1.trans (hb.mono hs1)⟩
      have e : TO at_ rows x m i 0 = (List.range m).map fun q => B (Gf.through at_ (rows.map (·.getD q 0)) x) := by
        unfold TO
        refine List.map_congr_left fun q _ => ?_
        rw [if_neg (by omega)]
        unfold TP Gf.through
        rw [hN.out]
        congr 1
        have hf : ∀ (l : List Nat) (a : UInt8), (∀ j ∈ l, j < i) → l.foldl (fun s j => s ^^^ Gf.mul (Gf.weight at_ x j) ((rows.getD j []).getD q 0)) a = l.foldl (fun s j => s ^^^ Gf.mul (Gf.weight at_ x j) ((rows.map (·.getD q 0)).getD j 0)) a := by
          intro l
          induction l with
          | nil => intro a _; rfl
          | cons j l ih =>
            intro a hj
            have hjr : j < rows.length := by rw [hRN.out]; exact hj j (by simp)
            have : (rows.map (·.getD q 0)).getD j 0 = (rows.getD j []).getD q 0 := by
              simp [List.getD_eq_getElem?_getD, hjr]
            rw [List.foldl_cons, List.foldl_cons, this]
            exact ih _ (fun t ht => hj t (by simp [ht]))
        exact hf _ _ (fun j hj => List.mem_range.1 hj)
      rw [e] at hown
      exact own_base hown hs1
end Go.Proofs.Ytddehjgmmeoboaa
