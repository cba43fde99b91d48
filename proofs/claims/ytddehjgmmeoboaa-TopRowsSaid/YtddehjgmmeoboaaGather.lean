/- The walk of code.Gather. -/
import Derived.Test.YtddehjgmmeoboaaSpread
import Derived.Deep.RegionHeld3
import Derived.Deep.QuietTactic
import Derived.BigQuiet
namespace Go.Proofs.Ytddehjgmmeoboaa
open Go.RowKit

/-- A slice of shares: places and rows. -/
structure RdSh (w : World) (A : Option Addr) (n c : Nat) (ats : List UInt8) (rows : List (List UInt8)) : Prop where
  cap : n ≤ c
  lid : c ≤ maxLen
  la : ats.length = n
  lr : rows.length = n
  at_ : ∀ i, i < n → ∃ ad A' c', A = some ad ∧ ad.block < w.heap.size ∧ w.cell? (ad.add (i * 2)) = some (B (ats.getD i 0)) ∧ w.cell? (ad.add (i * 2 + 1)) = some (.slice A' (rows.getD i []).length c') ∧ Rd w 1 A' (rows.getD i []).length c' ((rows.getD i []).map B)

/-- The first i rows that Gather tells. -/
def gathered (ats : List UInt8) (rows : List (List UInt8)) (m i : Nat) : List (List UInt8) := (List.range i).map fun j => rowAt ats rows m (UInt8.ofNat j)
theorem gathered_len (ats : List UInt8) (rows : List (List UInt8)) (m i : Nat) : (gathered ats rows m i).length = i := by simp [gathered]
theorem gathered_succ (ats : List UInt8) (rows : List (List UInt8)) (m i : Nat) : gathered ats rows m (i + 1) = gathered ats rows m i ++ [rowAt ats rows m (UInt8.ofNat i)] := by
  simp [gathered, List.range_succ]
theorem gathered_row (ats : List UInt8) (rows : List (List UInt8)) (m i : Nat) : ∀ r ∈ gathered ats rows m i, r.length = m := by
  intro r hr
  obtain ⟨j, _, rfl⟩ := List.mem_map.1 hr
  simp [rowAt]

set_option maxHeartbeats 1000000 in
theorem gather_good (ats : List UInt8) (rows : List (List UInt8)) (n m : Nat) (A : Option Addr) (c : Nat) (w : World) (h1 : 1 ≤ n) (hn : n ≤ 20) (hm1 : 1 ≤ m) (hm : m ≤ 1000) (hats : ∀ a ∈ ats, a.toNat < 20) (hnd : ats.Nodup) (hrows : ∀ r ∈ rows, r.length = m)
    (hr : RdSh w A n c ats rows) :
    Calls Try.prog 9 #[.slice A n c, .int .i64 n] w fun e w' => ∃ v, e = .returned (.tuple #[v, .nilIface]) ∧ (∃ vs, w'.ownsRow w.heap.size 26 1 v n vs ∧ RdRows w' vs ((gathered ats rows m n).map (·.map B)) (fun _ => False)) ∧ Below w.heap.size w w' := by
  obtain ⟨i0, hi, hz0, hz1, hz2⟩ := info_parts Try.infoU8
  obtain ⟨i1, hj, hy0, hy1, hy2⟩ := info_parts Try.infoSl
  have hla := hr.la
  have hlr := hr.lr
  have hcap := hr.cap
  have HLID := Lib.hid hr.lid
  have row : ∀ (k : Nat), k < n → ∃ ad A' c', A = some ad ∧ ad.block < w.heap.size ∧ w.cell? (ad.add (k * 2)) = some (B (ats.getD k 0)) ∧ w.cell? (ad.add (k * 2 + 1)) = some (.slice A' m c') ∧ Rd w 1 A' m c' ((rows.getD k []).map B) := by
    intro k hk
    obtain ⟨ad, A', c', e1, e2, e3, e4, e5⟩ := hr.at_ k hk
    have e6 : (rows.getD k []).length = m := by
      rw [List.getD_eq_getElem?_getD, List.getElem?_eq_getElem (by omega)]; exact hrows _ (List.getElem_mem (by omega))
    rw [e6] at e4 e5
    exact ⟨ad, A', c', e1, e2, e3, e4, e5⟩
  have HROW := Lib.hid row; clear row
  have HLA := Lib.hid hla; clear hla
  have HLR := Lib.hid hlr; clear hlr
  have HRW := Lib.hid hrows; clear hrows
  have HATS := Lib.hid hats; clear hats
  have HND := Lib.hid hnd; clear hnd
  obtain ⟨ad, A0, c0, rfl, hab, hca0, hcs0, hr0⟩ := HROW.out 0 h1
  have hs0 : w.cell? (ad.add 1) = some (.slice A0 m c0) := by simpa using hcs0
  clear hcs0 hca0
  go_enter Try.func9, Try.ntmps9
  go_wp2_with fail
  go_loopw [6, 7, 28] (fun va vo si wr => ∃ (k : Nat) (vs : List Value), k ≤ n ∧ si = .int .i64 k ∧ Two wr w.heap.size va vo (ats.take k) ((rows.take k).map (·.map B)) vs ∧ Below w.heap.size w wr) (fun _ _ si _ => n - (intOf si).toNat)
  case atStart => exact ⟨0, [], Nat.zero_le _, rfl, Two.start _ _, Below.refl _ _⟩
  case round =>
    obtain ⟨k, vs, hk, rfl, hT, hb⟩ := hrel
    have hs0' := (hb.cell (by rw [addr_block]; exact hab)).trans hs0
    by_cases hlt : k < n
    · obtain ⟨ad', Ak, ck, e', _, hcka, hcks, hrk0⟩ := HROW.out k hlt
      injection e' with e'; subst e'
      have hka : wr.cell? (ad.add (k * 2)) = some (B (ats.getD k 0)) := (hb.cell (by rw [addr_block]; exact hab)).trans hcka
      have hks : wr.cell? (ad.add (k * 2 + 1)) = some (.slice Ak m ck) := (hb.cell (by rw [addr_block]; exact hab)).trans hcks
      have hrk := hrk0.below' hb
      rw [add_next] at hks
      clear hcka hcks
      have hkl : k < ats.length := by rw [HLA.out]; exact hlt
      have ha20 : (ats.getD k 0).toNat < 20 := HATS.out _ (by rw [List.getD_eq_getElem?_getD, List.getElem?_eq_getElem hkl]; exact List.getElem_mem hkl)
      generalize hx : ats.getD k 0 = x at *
      have HX := Lib.hid hx; clear hx
      obtain ⟨Aa, ca, e6, hra⟩ := own_rd hT.oat
      have etk : (ats.take k).length = k := by rw [List.length_take]; omega
      rw [etk] at e6 hra
      clear etk
      subst e6
      have hnot : Hid (decide (x ∈ ats.take k) = false) := by
        show _ = _
        rw [decide_eq_false_iff_not]
        intro hmem
        obtain ⟨j, hj, e⟩ := List.mem_take_iff_getElem.1 hmem
        have hx2 := HX.out
        rw [List.getD_eq_getElem?_getD, List.getElem?_eq_getElem hkl] at hx2
        have hjk : j < k := by omega
        exact (List.pairwise_iff_getElem.1 (List.nodup_iff_pairwise_ne.1 HND.out)) j k (by omega) hkl hjk (e.trans hx2.symm)
      have hb0s := hb.size
      go_wp2_with fail
      refine (contains_any _ x _ _ _ _ (by omega) (hra.below' ((Below.refl _ _).alloc (Nat.le_refl _) _))).mono ?_
      rintro e W1 ⟨he, hW⟩
      rw [hnot.out] at he
      subst he
      have hbl : Below wr.heap.size wr W1 := by rw [← hW]; exact (Below.refl _ _).alloc (Nat.le_refl _) _
      have hT1 := hT.below hbl
      have hb1 := hb.trans (hbl.mono hb.size)
      have hk0 : W1.cell? ⟨wr.heap.size, 0, none⟩ = some (B x) := by rw [← hW]; simp
      have hk1 : W1.cell? ⟨wr.heap.size, 1, none⟩ = some (.slice Ak m ck) := by rw [← hW]; simp
      have hlt1 : wr.heap.size < W1.heap.size := by rw [← hW]; simp
      have hs1 : W1.cell? ⟨ad.block, ad.off + 1, none⟩ = some (.slice A0 m c0) := by
        rw [← add_pos ad (by omega)]; exact (hbl.cell (by rw [addr_block]; omega)).trans hs0'
      have hrk1 := hrk.below' hbl
      have hvn : Hid (∀ g, Value.ownBlock (.slice Aa k ca) = some g → g < wr.heap.size) := fun g hg => (hT.oat.lt g hg).2
      have hvo : Hid (∀ g, Value.ownBlock u7 = some g → g < wr.heap.size) := fun g hg => (hT.out.lt g hg).2
      clear hW hT hrk hka hks hs0' hra hbl
      go_wp2_with fail
      go_quiet (fail)
      go_wp2_with fail
      have hT2 := hT1.drewN nq
      have hb2 : Below w.heap.size w (W1.drewN nq) := ⟨hb1.os, hb1.tape, hb1.output, hb1.size, hb1.block⟩
      have hrk2 := hrk1.drewN nq
      have hk02 : (W1.drewN nq).cell? ⟨wr.heap.size, 0, none⟩ = some (B x) := hk0
      have hk12 : (W1.drewN nq).cell? ⟨wr.heap.size, 1, none⟩ = some (.slice Ak m ck) := hk1
      have hlt2 : wr.heap.size < (W1.drewN nq).heap.size := hlt1
      clear hT1 hb1 hrk1 hk0 hk1 hlt1 hs1
      generalize W1.drewN nq = W2 at *
      have hpos : Hid (∀ r ∈ (rows.take k).map (·.map B), 0 < r.length) := by
        intro r hr
        obtain ⟨r', hr', rfl⟩ := List.mem_map.1 hr
        rw [List.length_map, HRW.out _ (List.mem_of_mem_take hr')]; exact hm1
      have T1 : Hid (Two (W2.alloc (.cells #[.int .u8 x.toNat] 5)).drew w.heap.size (.slice Aa k ca) u7 (ats.take k) ((rows.take k).map (·.map B)) vs) := (hT2.below ((Below.refl _ _).alloc (Nat.le_refl _) _)).drew
      have T2 : Hid (Two ((W2.alloc (.cells #[.int .u8 x.toNat] 5)).alloc (.cells #[.slice Ak m ck] 26)).drew w.heap.size (.slice Aa k ca) u7 (ats.take k) ((rows.take k).map (·.map B)) vs) := (hT2.below (((Below.refl _ _).alloc (Nat.le_refl _) _).alloc (by simp) _)).drew
      have T3 : Hid (Two ((W2.alloc (.cells #[.slice Ak m ck] 26)).alloc (.cells #[.int .u8 x.toNat] 5)).drew w.heap.size (.slice Aa k ca) u7 (ats.take k) ((rows.take k).map (·.map B)) vs) := (hT2.below (((Below.refl _ _).alloc (Nat.le_refl _) _).alloc (by simp) _)).drew
      have R1 : Hid (Rd (W2.alloc (.cells #[.int .u8 x.toNat] 5)).drew 1 (some ⟨W2.heap.size, 0, none⟩) 1 1 [B x]) := (rd_cell1 W2 (B x) _).drew
      have R2 : Hid (Rd ((W2.alloc (.cells #[.int .u8 x.toNat] 5)).alloc (.cells #[.slice Ak m ck] 26)).drew 1 (some ⟨W2.heap.size, 0, none⟩) 1 1 [B x]) := ((rd_cell1 W2 (B x) _).below' ((Below.refl _ _).alloc (Nat.le_refl _) _)).drew
      have R3 : Hid (Rd ((W2.alloc (.cells #[.slice Ak m ck] 26)).alloc (.cells #[.int .u8 x.toNat] 5)).drew 1 (some ⟨W2.heap.size + 1, 0, none⟩) 1 1 [B x]) := by
        have h := (rd_cell1 (W2.alloc (.cells #[.slice Ak m ck] 26)) (B x) 5).drew
        rw [World.size_alloc] at h; exact h
      have Q2 : Hid (Rd ((W2.alloc (.cells #[.int .u8 x.toNat] 5)).alloc (.cells #[.slice Ak m ck] 26)).drew 1 (some ⟨W2.heap.size + 1, 0, none⟩) 1 1 [.slice Ak m ck]) := by
        have h := (rd_cell1 (W2.alloc (.cells #[.int .u8 x.toNat] 5)) (.slice Ak m ck) 26).drew
        rw [World.size_alloc] at h; exact h
      have Q3 : Hid (Rd ((W2.alloc (.cells #[.slice Ak m ck] 26)).alloc (.cells #[.int .u8 x.toNat] 5)).drew 1 (some ⟨W2.heap.size, 0, none⟩) 1 1 [.slice Ak m ck]) := ((rd_cell1 W2 (.slice Ak m ck) _).below' ((Below.refl _ _).alloc (Nat.le_refl _) _)).drew
      have BV1 : Hid (Below w.heap.size w (W2.alloc (.cells #[.int .u8 x.toNat] 5)).drew) := (hb2.alloc (by omega) _).drew
      have BV2 : Hid (Below w.heap.size w ((W2.alloc (.cells #[.int .u8 x.toNat] 5)).alloc (.cells #[.slice Ak m ck] 26)).drew) := ((hb2.alloc (by omega) _).alloc (by simp; omega) _).drew
      have BV3 : Hid (Below w.heap.size w ((W2.alloc (.cells #[.slice Ak m ck] 26)).alloc (.cells #[.int .u8 x.toNat] 5)).drew) := ((hb2.alloc (by omega) _).alloc (by simp; omega) _).drew
      have hrl : Hid ((rows.getD k []).length = m) := by
        show _ = _
        have h := hrk2.len; simpa using h
      clear hrk2
      have ht : Hid ((rows.take (k + 1)).map (·.map B) = (rows.take k).map (·.map B) ++ [(rows.getD k []).map B]) := by
        show _ = _
        have hkr : k < rows.length := by rw [HLR.out]; exact hlt
        rw [List.take_add_one, List.getElem?_eq_getElem hkr, List.map_append, List.getD_eq_getElem?_getD, List.getElem?_eq_getElem hkr]; rfl
      have hta : Hid (ats.take (k + 1) = ats.take k ++ [x]) := by
        show _ = _
        have hx2 := HX.out
        rw [List.getD_eq_getElem?_getD, List.getElem?_eq_getElem hkl] at hx2
        have hx3 : ats[k] = x := hx2
        rw [List.take_add_one, List.getElem?_eq_getElem hkl, hx3]; rfl
      go_region_held3 (fun w' => w'.cell? ⟨wr.heap.size, 0, none⟩ = some (B x) ∧ w'.cell? ⟨wr.heap.size, 1, none⟩ = some (.slice Ak m ck)) (first | exact ⟨s40, s41⟩ | exact ⟨s30, s31⟩ | go_keep)
        (first
           | (rw [if_pos (by rfl)]
              refine wp_app (.tmp 54) _ _ (by rfl) w.heap.size 5 i0 _ 1 1 Try.underlying26 hi hz0 hz1 hz2 rfl (by omega) (.slice Aa k ca) _ _ (by rfl) T1.out.oat _ 1 1 [B x] (by rfl) R1.out (by intro u hu; simp at hu; subst hu; rfl) (by unfold maxLen; rw [List.length_take]; omega) (by rw [List.length_take]; omega) BV1.out.size ?_
              intro va1 W3 hown3 hbl3 hg3 hat3
              have hT3 := T1.out.at_append hpos.out hown3 hg3 (hat3.imp id fun h => ⟨_, Nat.le_refl _, h⟩)
              have hz3 : W2.heap.size < W3.heap.size := Nat.lt_of_lt_of_le (by first | (simp; done) | (simp; omega)) hbl3.size
              have s30 : W3.cell? ⟨wr.heap.size, 0, none⟩ = some (B x) := hg3.cell ((World.cell?_alloc_lt _ _ _ hlt2).trans hk02) (fun e => Nat.lt_irrefl _ (hvn.out _ e.symm))
              have s31 : W3.cell? ⟨wr.heap.size, 1, none⟩ = some (.slice Ak m ck) := hg3.cell ((World.cell?_alloc_lt _ _ _ hlt2).trans hk12) (fun e => Nat.lt_irrefl _ (hvn.out _ e.symm))
              have hb3 : Below w.heap.size w W3 := BV1.out.trans hbl3
              clear hown3 hbl3 hg3 hat3)
           | (rw [if_pos (by rfl)]
              refine wp_app (.tmp 54) _ _ (by rfl) w.heap.size 5 i0 _ 1 1 Try.underlying26 hi hz0 hz1 hz2 rfl (by omega) (.slice Aa k ca) _ _ (by rfl) T2.out.oat _ 1 1 [B x] (by rfl) R2.out (by intro u hu; simp at hu; subst hu; rfl) (by unfold maxLen; rw [List.length_take]; omega) (by rw [List.length_take]; omega) BV2.out.size ?_
              intro va1 W3 hown3 hbl3 hg3 hat3
              have hT3 := T2.out.at_append hpos.out hown3 hg3 (hat3.imp id fun h => ⟨_, Nat.le_refl _, h⟩)
              have hz3 : W2.heap.size < W3.heap.size := Nat.lt_of_lt_of_le (by first | (simp; done) | (simp; omega)) hbl3.size
              have s30 : W3.cell? ⟨wr.heap.size, 0, none⟩ = some (B x) := hg3.cell ((World.cell?_alloc_lt _ _ _ (by first | (simp; done) | (simp; omega))).trans ((World.cell?_alloc_lt _ _ _ hlt2).trans hk02)) (fun e => Nat.lt_irrefl _ (hvn.out _ e.symm))
              have s31 : W3.cell? ⟨wr.heap.size, 1, none⟩ = some (.slice Ak m ck) := hg3.cell ((World.cell?_alloc_lt _ _ _ (by first | (simp; done) | (simp; omega))).trans ((World.cell?_alloc_lt _ _ _ hlt2).trans hk12)) (fun e => Nat.lt_irrefl _ (hvn.out _ e.symm))
              have hb3 : Below w.heap.size w W3 := BV2.out.trans hbl3
              have hq3 := Q2.out.grown_ hg3 (fun e => by have := hvn.out _ e.symm; simp at this; omega)
              clear hown3 hbl3 hg3 hat3)
           | (rw [if_pos (by rfl)]
              refine wp_app (.tmp 54) _ _ (by rfl) w.heap.size 5 i0 _ 1 1 Try.underlying26 hi hz0 hz1 hz2 rfl (by omega) (.slice Aa k ca) _ _ (by rfl) T3.out.oat _ 1 1 [B x] (by rfl) R3.out (by intro u hu; simp at hu; subst hu; rfl) (by unfold maxLen; rw [List.length_take]; omega) (by rw [List.length_take]; omega) BV3.out.size ?_
              intro va1 W3 hown3 hbl3 hg3 hat3
              have hT3 := T3.out.at_append hpos.out hown3 hg3 (hat3.imp id fun h => ⟨_, Nat.le_refl _, h⟩)
              have hz3 : W2.heap.size < W3.heap.size := Nat.lt_of_lt_of_le (by first | (simp; done) | (simp; omega)) hbl3.size
              have s30 : W3.cell? ⟨wr.heap.size, 0, none⟩ = some (B x) := hg3.cell ((World.cell?_alloc_lt _ _ _ (by first | (simp; done) | (simp; omega))).trans ((World.cell?_alloc_lt _ _ _ hlt2).trans hk02)) (fun e => Nat.lt_irrefl _ (hvn.out _ e.symm))
              have s31 : W3.cell? ⟨wr.heap.size, 1, none⟩ = some (.slice Ak m ck) := hg3.cell ((World.cell?_alloc_lt _ _ _ (by first | (simp; done) | (simp; omega))).trans ((World.cell?_alloc_lt _ _ _ hlt2).trans hk12)) (fun e => Nat.lt_irrefl _ (hvn.out _ e.symm))
              have hb3 : Below w.heap.size w W3 := BV3.out.trans hbl3
              have hq3 := Q3.out.grown_ hg3 (fun e => by have := hvn.out _ e.symm; simp at this; omega)
              clear hown3 hbl3 hg3 hat3)
           | (rw [if_pos (by rfl)]
              refine wp_app (.tmp 59) _ _ (by rfl) w.heap.size 26 i1 _ 1 24 Try.underlying37 hj hy0 hy1 hy2 rfl (by omega) u7 _ _ (by rfl) hT3.out _ 1 1 [.slice Ak m ck] (by rfl) hq3 (by intro u hu; simp at hu; subst hu; rfl) (by unfold maxLen; rw [List.length_map, List.length_take]; omega) (by rw [List.length_map, List.length_take]; omega) hb3.size ?_
              intro vo1 W4 hown4 hbl4 hg4 hat4
              have hrel' := hT3.out_append hpos.out (hrk0.below' hb3) (fun a ha => by subst ha; exact hT3.not_old (hrk0.block_lt (by omega))) (by rw [List.length_map, hrl.out]; exact hm1) hown4 hg4 (hat4.imp id fun h => ⟨_, Nat.le_refl _, h⟩)
              have hbF : Below w.heap.size w W4 := hb3.trans hbl4
              have s40 : W4.cell? ⟨wr.heap.size, 0, none⟩ = some (B x) := hg4.cell s30 (fun e => Nat.lt_irrefl _ (hvo.out _ e.symm))
              have s41 : W4.cell? ⟨wr.heap.size, 1, none⟩ = some (.slice Ak m ck) := hg4.cell s31 (fun e => Nat.lt_irrefl _ (hvo.out _ e.symm))
              clear hown4 hbl4 hg4 hat4)
           | (rw [if_pos (by rfl)]
              refine wp_app (.tmp 59) _ _ (by rfl) w.heap.size 26 i1 _ 1 24 Try.underlying37 hj hy0 hy1 hy2 rfl (by omega) u7 _ _ (by rfl) (hT3.below ((Below.refl _ _).alloc (Nat.le_refl _) _)).out _ 1 1 [.slice Ak m ck] (by rfl) (rd_cell1 W3 (.slice Ak m ck) _) (by intro u hu; simp at hu; subst hu; rfl) (by unfold maxLen; rw [List.length_map, List.length_take]; omega) (by rw [List.length_map, List.length_take]; omega) (hb3.alloc hb3.size _).size ?_
              intro vo1 W4 hown4 hbl4 hg4 hat4
              have hrel' := (hT3.below ((Below.refl _ _).alloc (Nat.le_refl _) _)).out_append hpos.out (hrk0.below' (hb3.alloc hb3.size _)) (fun a ha => by subst ha; exact hT3.not_old (hrk0.block_lt (by omega))) (by rw [List.length_map, hrl.out]; exact hm1) hown4 hg4 (hat4.imp id fun h => ⟨_, Nat.le_refl _, h⟩)
              have hbF : Below w.heap.size w W4 := (hb3.alloc hb3.size _).trans hbl4
              have s40 : W4.cell? ⟨wr.heap.size, 0, none⟩ = some (B x) := hg4.cell ((World.cell?_alloc_lt _ _ _ (World.block_lt_of_cell? _ _ s30)).trans s30) (fun e => Nat.lt_irrefl _ (hvo.out _ e.symm))
              have s41 : W4.cell? ⟨wr.heap.size, 1, none⟩ = some (.slice Ak m ck) := hg4.cell ((World.cell?_alloc_lt _ _ _ (World.block_lt_of_cell? _ _ s31)).trans s31) (fun e => Nat.lt_irrefl _ (hvo.out _ e.symm))
              clear hown4 hbl4 hg4 hat4))
      all_goals go_wp2_with fail
      all_goals go_roundw
      all_goals first
        | exact ⟨k + 1, _, by omega, by go_num, by rw [hta.out, ht.out]; exact hrel', hbF⟩
        | ((repeat apply Exists.intro); exact ⟨⟨k + 1, _, by omega, by go_num, by rw [hta.out, ht.out]; exact hrel', hbF⟩, rfl⟩)
        | (simp [intOf]; omega)
    · obtain rfl : k = n := by omega
      rename World => w1
      have ht : rows.take k = rows := List.take_of_length_le (by rw [HLR.out]; exact Nat.le_refl _)
      have hta : ats.take k = ats := List.take_of_length_le (by rw [HLA.out]; exact Nat.le_refl _)
      rw [ht, hta] at hT
      clear ht hta hs0'
      obtain ⟨Aa, ca, e6, hra⟩ := own_rd hT.oat
      obtain ⟨Ao, co, e7, hro, _⟩ := RdRows.rdm hT.rd hT.out
      rw [HLA.out] at e6 hra
      rw [List.length_map, HLR.out] at e7 hro
      subst e6; subst e7
      clear hT
      go_wp2_with fail
      go_loopw [10, 66] (fun vo si wr => ∃ (i : Nat) (vs : List Value), i ≤ k ∧ si = .int .i64 i ∧ Two wr w1.heap.size (.slice none 0 0) vo [] ((gathered ats rows m i).map (·.map B)) vs ∧ Below w1.heap.size w1 wr) (fun _ si _ => k - (intOf si).toNat)
      case atStart => exact ⟨0, [], Nat.zero_le _, rfl, Two.start _ _, Below.refl _ _⟩
      case round =>
        obtain ⟨i, vs', hik, rfl, hT, hb2⟩ := hrel
        have hpos : Hid (∀ r ∈ (gathered ats rows m i).map (·.map B), 0 < r.length) := by
          intro r hr
          obtain ⟨r', hr', rfl⟩ := List.mem_map.1 hr
          rw [List.length_map, gathered_row ats rows m i _ hr']; exact hm1
        have hsl : ((gathered ats rows m i).map (·.map B)).length = i := by rw [List.length_map, gathered_len]
        by_cases hlt2 : i < k
        · have ek : Hid ((.int .u8 (i : Int) : Value) = B (UInt8.ofNat i)) := by
            show _ = _
            simp only [B, UInt8.toNat_ofNat']; congr 1; omega
          have hra2 := hra.below' hb2
          have hrm := hro.below hb2 (Nat.le_refl _)
          go_wp2_with fail
          rw [ek.out]
          refine (through_any ats rows (UInt8.ofNat i) Aa Ao k ca co m wr HLA.out HLR.out HND.out (by omega) (by omega) (by omega) HRW.out hra2 hrm).mono ?_
          rintro e W2 ⟨v3, rfl, hown3, hb3⟩
          obtain ⟨A3, c3, rfl, hr3, hge3⟩ := own_rd_base hown3
          have hT2 := hT.below hb3
          have hb3' := hb2.trans (hb3.mono hb2.size)
          clear hown3
          have hsl2 : ((gathered ats rows m i).map (·.map B)).length + 1 ≤ 1000 := by omega
          clear hsl
          go_wp2_with (show wpList _ _ _ (⟨_, Op.call { callee := Callee.builtin Builtin.append, args := #[Operand.tmp 69, _], argTypes := _ }, _, _, _, _⟩ :: _) _ _
                       go_must (refine app1 (by rfl) _ _ _ (by rfl) w1.heap.size 26 i1 _ 24 Try.underlying37 hj hy0 hy1 hy2 rfl _ _ _ (.slice A3 m c3) (by rfl) hT2.out (by rfl) rfl (by unfold maxLen; omega) (by omega) hb3'.size ?_)
                       intro vo1 W3 hown4 hbl3 hg3 hat3)
          have hrel' : Two W3 w1.heap.size (.slice none 0 0) vo1 [] ((gathered ats rows m (i + 1)).map (·.map B)) (vs' ++ [.slice A3 m c3]) := by
            rw [gathered_succ, List.map_append]
            have hrow : (List.range m).map (fun q => B (Gf.through ats (rows.map (·.getD q 0)) (UInt8.ofNat i))) = (rowAt ats rows m (UInt8.ofNat i)).map B := by
              simp [rowAt]
            rw [hrow] at hr3
            exact hT2.out_append hpos.out hr3 (fun a ha hb => hT.fresh (hge3 a ha) hb) (by have := hr3.len; omega) hown4 hg3 (hat3.imp id fun h => ⟨_, by omega, h⟩)
          go_roundw
          case rel => first
            | exact ⟨i + 1, vs' ++ [.slice A3 m c3], by omega, by go_num, hrel', hb3'.trans (hbl3.mono (Nat.le_refl _))⟩
            | ((repeat apply Exists.intro); exact ⟨⟨i + 1, vs' ++ [.slice A3 m c3], by omega, by go_num, hrel', hb3'.trans (hbl3.mono (Nat.le_refl _))⟩, rfl⟩)
          case measure => simp [intOf]; omega
        · obtain rfl : i = k := by omega
          go_wp2
          go_ret2
          have ho := own_base hT.out hb.size
          rw [hsl] at ho
          refine ⟨_, rfl, ⟨vs', ho, hT.rd.1, fun j hj => ?_⟩, hb.trans (hb2.mono hb.size)⟩
          obtain ⟨A', c', e', hr', _⟩ := hT.rd.2 j hj
          exact ⟨A', c', e', hr', fun _ _ h => h⟩
end Go.Proofs.Ytddehjgmmeoboaa
