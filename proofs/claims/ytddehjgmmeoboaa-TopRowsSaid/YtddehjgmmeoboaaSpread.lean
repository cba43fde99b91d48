/- The walk of code.Spread. -/
import Derived.Test.YtddehjgmmeoboaaMat
import Derived.Test.YtddehjgmmeoboaaSlices
import Derived.Test.YtddehjgmmeoboaaWeights
namespace Go.Proofs.Ytddehjgmmeoboaa
open Go.RowKit

def places (n : Nat) : List UInt8 := (List.range n).map UInt8.ofNat
theorem places_len (n : Nat) : (places n).length = n := by simp [places]
theorem places_succ (n : Nat) : places (n + 1) = places n ++ [UInt8.ofNat n] := by simp [places, List.range_succ]
theorem places_nodup {n : Nat} (h : n ≤ 256) : (places n).Nodup := by
  unfold places
  rw [List.nodup_iff_pairwise_ne, List.pairwise_map]
  refine List.Pairwise.imp_of_mem ?_ (List.nodup_iff_pairwise_ne.1 List.nodup_range)
  intro a b ha hb hne e
  have ha := List.mem_range.1 ha
  have hb := List.mem_range.1 hb
  have := congrArg UInt8.toNat e
  rw [UInt8.toNat_ofNat', UInt8.toNat_ofNat'] at this
  omega
/-- The row of place i that Spread tells. -/
def rowAt (ats : List UInt8) (rows : List (List UInt8)) (m : Nat) (x : UInt8) : List UInt8 := (List.range m).map fun q => Gf.through ats (rows.map (·.getD q 0)) x
def spreadTo (rows : List (List UInt8)) (m k : Nat) : List (List UInt8) := rows ++ (List.range (k - rows.length)).map fun d => rowAt (places rows.length) rows m (UInt8.ofNat (rows.length + d))
theorem spreadTo_self (rows : List (List UInt8)) (m : Nat) : spreadTo rows m rows.length = rows := by simp [spreadTo]
theorem spreadTo_succ (rows : List (List UInt8)) (m : Nat) {k : Nat} (h : rows.length ≤ k) : spreadTo rows m (k + 1) = spreadTo rows m k ++ [rowAt (places rows.length) rows m (UInt8.ofNat k)] := by
  unfold spreadTo
  rw [show k + 1 - rows.length = (k - rows.length) + 1 from by omega, List.range_succ, List.map_append, List.append_assoc]
  have e : rows.length + (k - rows.length) = k := by omega
  rw [List.map_singleton, e]
theorem spreadTo_len (rows : List (List UInt8)) (m : Nat) {k : Nat} (h : rows.length ≤ k) : (spreadTo rows m k).length = k := by
  simp [spreadTo]; omega
theorem spreadTo_row (rows : List (List UInt8)) (m k : Nat) (h : ∀ r ∈ rows, r.length = m) : ∀ r ∈ spreadTo rows m k, r.length = m := by
  intro r hr
  rcases List.mem_append.1 hr with h1 | h1
  · exact h r h1
  · obtain ⟨d, _, rfl⟩ := List.mem_map.1 h1
    simp [rowAt]

set_option maxHeartbeats 400000 in
theorem spread_bad (n : Nat) (N : Int) (A : Option Addr) (c : Nat) (w : World) (h : n = 0 ∨ N < n ∨ 20 < N) (hc : n ≤ 70368744177664) :
    Calls Try.prog 8 #[.slice A n c, .int .i64 N] w fun e w' => e = .returned (.tuple #[.slice none 0 0, .iface 46 (.int .i64 2)]) ∧ w = w' := by
  rcases h with h | h | h
  · subst h
    go_enter Try.func8, Try.ntmps8
    go_wp2
    go_ret2
    exact ⟨rfl, rfl⟩
  · go_enter Try.func8, Try.ntmps8
    go_wp2
    all_goals go_ret2
    all_goals exact ⟨rfl, rfl⟩
  · go_enter Try.func8, Try.ntmps8
    go_wp2
    all_goals go_ret2
    all_goals exact ⟨rfl, rfl⟩

set_option maxHeartbeats 1000000 in
theorem spread_good (rows : List (List UInt8)) (n N m : Nat) (A : Option Addr) (c : Nat) (w : World) (hn : rows.length = n) (h1 : 1 ≤ n) (hnN : n ≤ N) (hN : N ≤ 20) (hm1 : 1 ≤ m) (hm : m ≤ 100) (hrows : ∀ r ∈ rows, r.length = m)
    (hr : RdM w A n c (rows.map (·.map B))) :
    Calls Try.prog 8 #[.slice A n c, .int .i64 N] w fun e w' => ∃ v, e = .returned (.tuple #[v, .nilIface]) ∧ (∃ vs, w'.ownsRow w.heap.size 26 1 v N vs ∧ RdRows w' vs ((spreadTo rows m N).map (·.map B)) (fun _ => False)) ∧ Below w.heap.size w w' := by
  obtain ⟨i0, hi, hz0, hz1, hz2⟩ := info_parts Try.infoU8
  obtain ⟨i1, hj, hy0, hy1, hy2⟩ := info_parts Try.infoSl
  have row : ∀ (k : Nat), k < n → ∃ ad A' c', A = some ad ∧ ad.block < w.heap.size ∧ w.cell? (ad.add k) = some (.slice A' m c') ∧ Rd w 1 A' m c' ((rows.getD k []).map B) := by
    intro k hk
    have hkl : k < rows.length := by omega
    obtain ⟨ad, A', c', e1, e2, e3, e4⟩ := hr.at_ k (by simpa using hkl)
    have e5 : (rows.map (·.map B))[k]'(by simpa using hkl) = (rows.getD k []).map B := by simp [List.getD_eq_getElem?_getD, hkl]
    have e6 : ((rows.getD k []).map B).length = m := by
      rw [List.length_map, List.getD_eq_getElem?_getD, List.getElem?_eq_getElem hkl]; exact hrows _ (List.getElem_mem hkl)
    rw [e5, e6] at e3 e4
    exact ⟨ad, A', c', e1, e2, e3, e4⟩
  have HROW := Lib.hid row; clear row
  have HN := Lib.hid hn; clear hn
  have HRW := Lib.hid hrows; clear hrows
  obtain ⟨ad, A0, c0, rfl, hab, hc00, hr0⟩ := HROW.out 0 h1
  have hc0 : w.cell? ad = some (.slice A0 m c0) := by simpa [Addr.add] using hc00
  clear hc00
  have hd18 : decide (N < n) = false := decide_eq_false (by omega)
  go_enter Try.func8, Try.ntmps8
  go_wp2_with fail
  go_loopw [6, 7, 33] (fun va vo si wr => ∃ (k : Nat) (vs : List Value), k ≤ n ∧ si = .int .i64 k ∧ Two wr w.heap.size va vo (places k) ((rows.take k).map (·.map B)) vs ∧ Below w.heap.size w wr) (fun _ _ si _ => n - (intOf si).toNat)
  case atStart => exact ⟨0, [], Nat.zero_le _, rfl, Two.start _ _, Below.refl _ _⟩
  case round =>
    obtain ⟨k, vs, hk, rfl, hT, hb⟩ := hrel
    have hc0' := (hb.cell hab).trans hc0
    by_cases hlt : k < n
    · obtain ⟨ad', Ak, ck, e', _, hck0, hrk0⟩ := HROW.out k hlt
      injection e' with e'; subst e'
      have hck : wr.cell? (ad.add k) = some (.slice Ak m ck) := (hb.cell (by rw [addr_block]; exact hab)).trans hck0
      have hrk := hrk0.below' hb
      clear hck0 hrk0
      have hpos : Hid (∀ r ∈ (rows.take k).map (·.map B), 0 < r.length) := by
        intro r hr
        obtain ⟨r', hr', rfl⟩ := List.mem_map.1 hr
        rw [List.length_map, HRW.out _ (List.mem_of_mem_take hr')]; exact hm1
      have hpl : (places k).length + 1 ≤ 1000 := by rw [places_len]; omega
      have hrl : ((rows.take k).map (·.map B)).length + 1 ≤ 1000 := by simp; omega
      have ek : Hid ((.int .u8 (k : Int) : Value) = B (UInt8.ofNat k)) := by
        show _ = _
        simp only [B, UInt8.toNat_ofNat']; congr 1; omega
      have hkl : k < rows.length := by rw [HN.out]; exact hlt
      go_wp2_with (first
        | (show wpList _ _ _ (⟨_, Op.call { callee := Callee.builtin Builtin.append, args := #[Operand.tmp 46, _], argTypes := _ }, _, _, _, _⟩ :: _) _ _
           go_must (refine app1 (by rfl) _ _ _ (by rfl) w.heap.size 5 i0 _ 1 Try.underlying26 hi hz0 hz1 hz2 rfl _ _ _ (.int .u8 k) (by rfl) hT.oat (by rfl) rfl (by unfold maxLen; omega) (by omega) hb.size ?_)
           intro va1 W1 hown1 hbl1 hg1 hat1
           rw [ek.out] at hown1
           have hT1 := hT.at_append hpos.out hown1 hg1 (hat1.imp id fun h => ⟨_, by omega, h⟩)
           have hb1 := hb.trans (hbl1.mono (Nat.le_refl _))
           have hr1 : Rd W1 1 Ak m ck ((rows.getD k []).map B) := by
             obtain ⟨ad', Ak', ck', e', _, hck0, hrk0⟩ := HROW.out k hlt
             injection e' with e'; subst e'
             have h2 := (hb.cell (by rw [addr_block]; exact hab)).trans hck0
             rw [hck] at h2; injection h2 with h2; injection h2 with e1 e2 e3; subst e1; subst e3
             exact hrk0.below' hb1
           clear hown1 hat1 hg1)
        | (go_at_call 14
           go_must (refine (clone_any (rows.getD k []) _ _ _ _ (by omega) hr1).mono ?_)
           rintro e W2 ⟨v3, rfl, hown3, hb2⟩
           obtain ⟨A3, c3, rfl, hr3, hge3⟩ := own_rd_base hown3
           have hT2 := hT1.below hb2
           have hb2' := hb1.trans (hb2.mono hb1.size)
           clear hown3)
        | (show wpList _ _ _ (⟨_, Op.call { callee := Callee.builtin Builtin.append, args := #[Operand.tmp 51, _], argTypes := _ }, _, _, _, _⟩ :: _) _ _
           go_must (refine app1 (by rfl) _ _ _ (by rfl) w.heap.size 26 i1 _ 24 Try.underlying37 hj hy0 hy1 hy2 rfl _ _ _ (.slice A3 m c3) (by rfl) hT2.out (by rfl) rfl (by unfold maxLen; omega) (by omega) hb2'.size ?_)
           intro vo1 W3 hown4 hbl3 hg3 hat3))
      go_roundw
      case rel =>
        have ht : (rows.take (k + 1)).map (·.map B) = (rows.take k).map (·.map B) ++ [(rows.getD k []).map B] := by
          rw [List.take_add_one, List.getElem?_eq_getElem hkl, List.map_append, List.getD_eq_getElem?_getD, List.getElem?_eq_getElem hkl]; rfl
        have hrel' : Two W3 w.heap.size va1 vo1 (places (k + 1)) ((rows.take (k + 1)).map (·.map B)) (vs ++ [.slice A3 m c3]) := by
          rw [ht, places_succ]
          exact hT2.out_append hpos.out hr3 (fun a ha => hT2.fresh_lt hT1 (hge3 a ha)) (by have := hr3.len; omega) hown4 hg3 (hat3.imp id fun h => ⟨_, by omega, h⟩)
        exact ⟨k + 1, vs ++ [.slice A3 m c3], by omega, by go_num, hrel', hb2'.trans (hbl3.mono (Nat.le_refl _))⟩
      case measure => simp [intOf]; omega
    · obtain rfl : k = n := by omega
      have ht : rows.take k = rows := List.take_of_length_le (by rw [HN.out]; exact Nat.le_refl _)
      rw [ht] at hT
      have HT := Lib.hid ht; clear ht
      go_wp2_with fail
      go_loopw [7, 10] (fun vo si wr => ∃ (i : Nat) (vs : List Value), k ≤ i ∧ i ≤ N ∧ si = .int .i64 i ∧ Two wr w.heap.size u6 vo (places k) ((spreadTo rows m i).map (·.map B)) vs ∧ Below w.heap.size w wr) (fun _ si _ => N - (intOf si).toNat)
      case atStart =>
        refine ⟨k, vs, Nat.le_refl _, hnN, rfl, ?_, hb⟩
        have : spreadTo rows m k = rows := by rw [← HN.out]; exact spreadTo_self rows m
        rw [this]; exact hT
      case round =>
        clear hT hb hc0'
        obtain ⟨i, vs', hki, hiN, rfl, hT, hb⟩ := hrel
        by_cases hltN : i < N
        · have hpos : Hid (∀ r ∈ (spreadTo rows m i).map (·.map B), 0 < r.length) := by
            intro r hr
            obtain ⟨r', hr', rfl⟩ := List.mem_map.1 hr
            rw [List.length_map, spreadTo_row rows m i HRW.out _ hr']; exact hm1
          have hsl : ((spreadTo rows m i).map (·.map B)).length + 1 ≤ 1000 := by
            rw [List.length_map, spreadTo_len rows m (by rw [HN.out]; exact hki)]; omega
          have ek : Hid ((.int .u8 (i : Int) : Value) = B (UInt8.ofNat i)) := by
            show _ = _
            simp only [B, UInt8.toNat_ofNat']; congr 1; omega
          obtain ⟨Aa, ca, e6, hra⟩ := own_rd hT.oat
          rw [places_len k] at e6 hra
          subst e6
          have hrm := hr.below hb (Nat.le_refl _)
          go_wp2_with fail
          rw [ek.out]
          refine (through_any (places k) rows (UInt8.ofNat i) Aa (some ad) k ca c m wr (places_len k) HN.out (places_nodup (by omega)) (by omega) (by omega) (by omega) HRW.out hra hrm).mono ?_
          rintro e W2 ⟨v3, rfl, hown3, hb2⟩
          obtain ⟨A3, c3, rfl, hr3, hge3⟩ := own_rd_base hown3
          have hT2 := hT.below hb2
          have hb2' := hb.trans (hb2.mono hb.size)
          clear hown3
          go_wp2_with (show wpList _ _ _ (⟨_, Op.call { callee := Callee.builtin Builtin.append, args := #[Operand.tmp 64, _], argTypes := _ }, _, _, _, _⟩ :: _) _ _
                       go_must (refine app1 (by rfl) _ _ _ (by rfl) w.heap.size 26 i1 _ 24 Try.underlying37 hj hy0 hy1 hy2 rfl _ _ _ (.slice A3 m c3) (by rfl) hT2.out (by rfl) rfl (by unfold maxLen; omega) (by omega) hb2'.size ?_)
                       intro vo1 W3 hown4 hbl3 hg3 hat3)
          have hrel' : Two W3 w.heap.size (.slice Aa k ca) vo1 (places k) ((spreadTo rows m (i + 1)).map (·.map B)) (vs' ++ [.slice A3 m c3]) := by
            rw [spreadTo_succ rows m (by rw [HN.out]; exact hki), List.map_append, HN.out]
            have hrow : (List.range m).map (fun q => B (Gf.through (places k) (rows.map (·.getD q 0)) (UInt8.ofNat i))) = (rowAt (places k) rows m (UInt8.ofNat i)).map B := by
              simp [rowAt]
            rw [hrow] at hr3
            exact hT2.out_append hpos.out hr3 (fun a ha hb => hT.fresh (hge3 a ha) hb) (by have := hr3.len; omega) hown4 hg3 (hat3.imp id fun h => ⟨_, by omega, h⟩)
          go_roundw
          case rel => first
            | exact ⟨i + 1, vs' ++ [.slice A3 m c3], by omega, by omega, by go_num, hrel', hb2'.trans (hbl3.mono (Nat.le_refl _))⟩
            | ((repeat apply Exists.intro); exact ⟨⟨i + 1, vs' ++ [.slice A3 m c3], by omega, by omega, by go_num, hrel', hb2'.trans (hbl3.mono (Nat.le_refl _))⟩, rfl⟩)
          case measure => simp [intOf]; omega
        · obtain rfl : i = N := by omega
          go_wp2
          go_ret2
          have ho := hT.out
          have hl : ((spreadTo rows m i).map (·.map B)).length = i := by rw [List.length_map, spreadTo_len rows m (by rw [HN.out]; exact hki)]
          rw [hl] at ho
          refine ⟨_, rfl, ⟨vs', ho, hT.rd.1, fun j hj => ?_⟩, hb⟩
          obtain ⟨A', c', e', hr', _⟩ := hT.rd.2 j hj
          exact ⟨A', c', e', hr', fun _ _ h => h⟩
end Go.Proofs.Ytddehjgmmeoboaa
