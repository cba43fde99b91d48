/- The walk of the reference's BookFault. -/
import Derived.Test.YtddehjgmmeoboaaDoorFault
import Derived.Test.YtddehjgmmeoboaaDoorIsName
import Derived.Test.YtddehjgmmeoboaaDoorNothing
import Derived.Deep.RegionHeld3
namespace Go.Proofs.YtddehjgmmeoboaaDoor
open Go.RowKit
set_option maxRecDepth 8000

theorem Con.c0 (x : Con) : x.c[0]? = some (.string x.s) := rfl
theorem Con.c33 (x : Con) (h : x.K.length = 32) : x.c[33]? = some (.int .i64 x.l) := by
  unfold Con.c; rw [List.getElem?_cons_succ, List.getElem?_append_right (by simp [h])]; simp [h]
theorem Con.cK (x : Con) (h : x.K.length = 32) : ∀ j v, (x.K.map B)[j]? = some v → x.c[1 + j]? = some v := by
  intro j v hv
  have hj := (List.getElem?_eq_some_iff.1 hv).1
  unfold Con.c; rw [Nat.add_comm, List.getElem?_cons_succ, List.getElem?_append_left hj]; exact hv
theorem add_add (ad : Addr) (p q : Nat) : (ad.add p).add q = ad.add (p + q) := by
  unfold Addr.add
  by_cases hp : p = 0
  · subst hp; simp
  · by_cases hq : q = 0
    · subst hq; simp [hp]
    · simp [hp, hq]; omega
theorem add_at (ad : Addr) (j : Nat) (h : 0 < j) : ad.add j = ⟨ad.block, ad.off + j, none⟩ := by unfold Addr.add; rw [if_neg (by omega)]
theorem RdCons.str {w : World} {A : Option Addr} {n : Nat} {xs : List Con} (h : RdCons w A n xs) {i : Nat} (hi : i < n) : ∃ ad, A = some ad ∧ ad.block < w.heap.size ∧ w.cell? (ad.add (i * 34)) = some (.string (xs.getD i Con.z).s) ∧ w.cell? ⟨(ad.add (i * 34)).block, (ad.add (i * 34)).off + 33, none⟩ = some (.int .i64 (xs.getD i Con.z).l) ∧ w.rangeAt (ad.add (i * 34)).block ((ad.add (i * 34)).off + 1) ((xs.getD i Con.z).K.map B) := by
  obtain ⟨ad, e, h1, h2⟩ := h.at_ i hi
  refine ⟨ad, e, h1, ?_, ?_, fun j v hv => ?_⟩
  · have := h2 0 _ (Con.c0 _); rwa [show (ad.add (i * 34)).add 0 = ad.add (i * 34) from by simp [Addr.add]] at this
  · have := h2 33 _ (Con.c33 _ (h.key hi)); rwa [add_at _ 33 (by omega)] at this
  · have := h2 _ _ (Con.cK _ (h.key hi) j v hv); rw [add_at _ (1 + j) (by omega), ← Nat.add_assoc] at this; exact this
theorem Tryd.digGuard : Tryd.prog.eqGuardType Tryd.prog.depth 23 = false := by kernel_rfl
theorem run_eq_dig {u v : List UInt8} (w : World) (hu : u.length = 32) (hv : v.length = 32) : (Op.equalIn 10000 23 (.agg (u.map B).toArray) (.agg (v.map B).toArray)).run Tryd.prog w = .ok (u == v) w :=
  run_equalIn_bytes (P := Tryd.prog) w 9998 23 5 32 Tryd.underlying23 Tryd.underlying5 Tryd.u8Size u v hu hv

section
variable {xs : List Con} {i : Nat} {x : Con}
theorem faultAt_1 (hx : xs.getD i Con.z = x) (h : named x.s.data.toList = false) : faultAt xs i = 1 := by
  unfold faultAt; rw [hx, if_pos h]
theorem faultAt_7 (hx : xs.getD i Con.z = x) (h : named x.s.data.toList = true) (h0 : 0 < i) (h7 : Bk.less (xs.getD (i - 1) Con.z).s.data.toList x.s.data.toList = false) : faultAt xs i = 7 := by
  unfold faultAt; rw [hx, if_neg (by rw [h]; simp), if_pos ⟨h0, h7⟩]
theorem faultAt_2 (hx : xs.getD i Con.z = x) (h : named x.s.data.toList = true) (h7 : 0 < i → Bk.less (xs.getD (i - 1) Con.z).s.data.toList x.s.data.toList = true) (h2 : x.l < 1 ∨ 4 < x.l) : faultAt xs i = 2 := by
  unfold faultAt; rw [hx, if_neg (by rw [h]; simp), if_neg (by rintro ⟨a, b⟩; rw [h7 a] at b; cases b), if_pos h2]
theorem faultAt_9 (hx : xs.getD i Con.z = x) (h : named x.s.data.toList = true) (h7 : 0 < i → Bk.less (xs.getD (i - 1) Con.z).s.data.toList x.s.data.toList = true) (h2 : ¬ (x.l < 1 ∨ 4 < x.l)) (h9 : x.zero ≠ decide (x.l = 2 ∨ x.l = 4)) : faultAt xs i = 9 := by
  unfold faultAt; rw [hx, if_neg (by rw [h]; simp), if_neg (by rintro ⟨a, b⟩; rw [h7 a] at b; cases b), if_neg h2, if_pos h9]
theorem faultAt_0 (hx : xs.getD i Con.z = x) (h : named x.s.data.toList = true) (h7 : 0 < i → Bk.less (xs.getD (i - 1) Con.z).s.data.toList x.s.data.toList = true) (h2 : ¬ (x.l < 1 ∨ 4 < x.l)) (h9 : x.zero = decide (x.l = 2 ∨ x.l = 4)) : faultAt xs i = 0 := by
  unfold faultAt; rw [hx, if_neg (by rw [h]; simp), if_neg (by rintro ⟨a, b⟩; rw [h7 a] at b; cases b), if_neg h2, if_neg (by rw [h9]; simp)]
end

theorem tst2 (l : Int) (b t : Bool) (h : (!(l == 2 || l == 4) == b) = t) : decide (l = 2 ∨ l = 4) = (b != t) := by
  by_cases e2 : l = 2
  · subst e2; cases b <;> cases t <;> simp_all
  · by_cases e4 : l = 4
    · subst e4; cases b <;> cases t <;> simp_all
    · cases b <;> cases t <;> simp_all
set_option maxHeartbeats 1000000 in
theorem bookFault_any (xs : List Con) (n c : Nat) (A : Option Addr) (w : World) (h : RdCons w A n xs) (hs : ∀ x ∈ xs, x.s.size ≤ maxLen) :
    Calls Tryd.prog 19 #[.slice A n c] w fun e w' => e = .returned (.int .i64 (fault xs)) ∧ Below w.heap.size w w' := by
  have hl := h.len
  have HL := Lib.hid hl; clear hl
  by_cases h40 : 40 < n
  · have hfin : fault xs = 4 := by unfold fault; rw [HL.out, if_pos h40]
    go_enter Tryd.func19, Tryd.ntmps19
    go_wp2_with fail
    go_ret
    exact ⟨by rw [hfin]; rfl, Below.refl _ _⟩
  · go_enter Tryd.func19, Tryd.ntmps19
    go_wp2_with fail
    go_loopw [3] (fun si wr => ∃ (i : Nat), i ≤ n ∧ si = .int .i64 i ∧ Below w.heap.size w wr ∧ Hid (fault xs = faultFrom xs i (n - i))) (fun si _ => n - (intOf si).toNat)
    case atStart => exact ⟨0, Nat.zero_le _, rfl, Below.refl _ _, by show _ = _; unfold fault; rw [HL.out, if_neg h40]; rfl⟩
    case round =>
      obtain ⟨i, hi, rfl, hb, hf⟩ := hrel
      by_cases hlt : i < n
      · have hstep : fault xs = if faultAt xs i = 0 then faultFrom xs (i + 1) (n - (i + 1)) else faultAt xs i := by
          rw [hf.out, show n - i = n - (i + 1) + 1 by omega, faultFrom]
        have HST := Lib.hid hstep; clear hstep hf
        obtain ⟨ad, rfl, hab, hs0, hs33, hsK⟩ := (h.below hb (Nat.le_refl _)).str hlt
        have kx := h.key hlt
        have hss : (xs.getD i Con.z).s.size ≤ maxLen := by
          have hl : i < xs.length := by rw [HL.out]; exact hlt
          rw [List.getD_eq_getElem?_getD, List.getElem?_eq_getElem hl]
          exact hs _ (List.getElem_mem hl)
        have hlt' : (i : Int) < n := by omega
        have HSK := Lib.hid hsK; clear hsK
        generalize hx : xs.getD i Con.z = x at *
        have HX := Lib.hid hx; clear hx
        go_wp2_with fail
        refine (isName_any x.s _ hss).mono ?_
        rintro e W1 ⟨rfl, rfl⟩
        by_cases hn : named x.s.data.toList = false
        · have hfin : fault xs = 1 := by rw [HST.out, faultAt_1 HX.out hn, if_neg (by decide)]
          rw [hn]
          go_wp2_with fail
          go_ret
          exact ⟨by rw [hfin]; rfl, hb⟩
        · have hn' : named x.s.data.toList = true := by simpa using hn
          rw [hn']
          have HN := Lib.hid hn'; clear hn hn'
          by_cases hbad : 0 < i ∧ Bk.less (xs.getD (i - 1) Con.z).s.data.toList x.s.data.toList = false
          · obtain ⟨hi0, hless⟩ := hbad
            have hfin : fault xs = 7 := by rw [HST.out, faultAt_7 HX.out HN.out hi0 hless, if_neg (by decide)]
            have HF := Lib.hid hfin; clear hfin
            obtain ⟨ad2, e2, _, hp0, _, _⟩ := (h.below hb (Nat.le_refl _)).str (show i - 1 < n by omega)
            injection e2 with e2; subst e2
            have hss2 : (xs.getD (i - 1) Con.z).s.size ≤ maxLen := by
              have hl : i - 1 < xs.length := by rw [HL.out]; omega
              rw [List.getD_eq_getElem?_getD, List.getElem?_eq_getElem hl]
              exact hs _ (List.getElem_mem hl)
            generalize (xs.getD (i - 1) Con.z).s = s2 at *
            have hi0' : (0 : Int) < i := by omega
            have hi1 : ((i : Int) - 1).toNat = i - 1 := by omega
            have hi2 : IntKind.i64.wrap ((i : Int) - 1) = (i : Int) - 1 := IntWalk.i64_in _ (by unfold maxLen at *; omega)
            have hi3 : (0 : Int) ≤ (i : Int) - 1 := by omega
            have hi4 : (i : Int) - 1 < n := by omega
            go_wp2_with fail
            go_quiet ((go_at_call 68; exact Calls.quiet_of (refLess_any _ _ _ hss2 hss)))
            rw [hless]
            go_wp2_with fail
            go_ret
            exact ⟨by rw [HF.out]; rfl, below_draws hb _⟩
          · have hord : Hid (0 < i → Bk.less (xs.getD (i - 1) Con.z).s.data.toList x.s.data.toList = true) := fun a => by
              cases hq : Bk.less (xs.getD (i - 1) Con.z).s.data.toList x.s.data.toList
              · exact absurd ⟨a, hq⟩ hbad
              · rfl
            by_cases hi0 : 0 < i
            focus
              have hless := hord.out hi0
              obtain ⟨ad2, e2, _, hp0, _, _⟩ := (h.below hb (Nat.le_refl _)).str (show i - 1 < n by omega)
              injection e2 with e2; subst e2
              have hss2 : (xs.getD (i - 1) Con.z).s.size ≤ maxLen := by
                  have hl : i - 1 < xs.length := by rw [HL.out]; omega
                  rw [List.getD_eq_getElem?_getD, List.getElem?_eq_getElem hl]
                  exact hs _ (List.getElem_mem hl)
              have HO := Lib.hid hord.out; clear hord
              generalize hs2 : (xs.getD (i - 1) Con.z).s = s2 at *
              have HS2 := Lib.hid hs2; clear hs2 hbad
              have hi0' : (0 : Int) < i := by omega
              have hi1 : ((i : Int) - 1).toNat = i - 1 := by omega
              have hi2 : IntKind.i64.wrap ((i : Int) - 1) = (i : Int) - 1 := IntWalk.i64_in _ (by unfold maxLen at *; omega)
              have hi3 : (0 : Int) ≤ (i : Int) - 1 := by omega
              have hi4 : (i : Int) - 1 < n := by omega
              go_wp2_with fail
              go_quiet ((go_at_call 68; exact Calls.quiet_of (refLess_any _ _ _ hss2 hss)))
              rw [hless]
              clear hi0' hi1 hi2 hi3 hi4 hless hp0 hss2
            rotate_left 1
            focus
              have HO := hord; clear hord hbad
              have hd0 : decide ((0 : Int) < i) = false := decide_eq_false (by omega)
              go_wp2_with fail
              go_quiet (fail)
              clear hd0
            all_goals (
              by_cases h2 : x.l < 1 ∨ 4 < x.l
              · have hfin : fault xs = 2 := by rw [HST.out, faultAt_2 HX.out HN.out (by first | exact HO.out | (rw [HS2.out]; exact HO.out)) h2, if_neg (by decide)]
                have HF := Lib.hid hfin; clear hfin
                by_cases h1 : x.l < 1
                · have hd1 : decide (x.l < 1) = true := decide_eq_true h1
                  clear h1 h2
                  go_wp2_with fail
                  go_ret
                  exact ⟨by rw [HF.out]; rfl, below_draws hb _⟩
                · have hd1 : decide (x.l < 1) = false := decide_eq_false h1
                  have hd2 : decide (4 < x.l) = true := decide_eq_true (by omega)
                  clear h1 h2
                  go_wp2_with fail
                  go_ret
                  exact ⟨by rw [HF.out]; rfl, below_draws hb _⟩
              · have hd1 : decide (x.l < 1) = false := decide_eq_false (by omega)
                have hd2 : decide (4 < x.l) = false := decide_eq_false (by omega)
                have HN2 := Lib.hid h2; clear h2
                have hu := Tryd.underlying23
                have hi0 : (Tryd.prog.info? 23).map (·.size) = some (x.K.map B).length := by rw [List.length_map, kx]; exact Tryd.infoDig
                have heq : ∀ W : World, (Op.equalIn 10000 23 (.agg (x.K.map B).toArray) (.agg (zero32.map B).toArray)).run Tryd.prog W = .ok (x.K == zero32) W := fun W => run_eq_dig W kx rfl
                go_wp2_with fail
                all_goals
                  have hS : (wr.drewN nq).drew.rangeAt (ad.add (i * 34)).block ((ad.add (i * 34)).off + 1) (x.K.map B) := HSK.out
                  go_region_held3 (fun W => W.rangeAt (ad.add (i * 34)).block ((ad.add (i * 34)).off + 1) (x.K.map B)) (first | exact hS2.out | exact hS)
                    (first
                     | (go_at_call 69
                        refine (nothing_any _).mono ?_
                        rintro e W1 ⟨rfl, hb1⟩
                        have hbX : Hid (Below w.heap.size w W1) := (below_draws hb (nq + 1)).trans (hb1.mono hb.size)
                        have hS2 : Hid (W1.rangeAt (ad.add (i * 34)).block ((ad.add (i * 34)).off + 1) (x.K.map B)) := fun j v hv => (hb1.cell (by rw [addr_block]; exact hab)).trans (HSK.out j v hv))
)
                  cases hz : (x.K == zero32)
                  all_goals go_wp2_with fail
                  all_goals first
                    | (have h9 : x.zero ≠ decide (x.l = 2 ∨ x.l = 4) := by
                         first
                         | (rw [show x.zero = _ from hz, tst2 _ _ true (by assumption)]; decide)
                         | (have e2 : x.l = 2 := by assumption
                            have e3 : (!false) = true := by assumption
                            rw [show x.zero = false from hz, e2]; decide)
                       have hfin : fault xs = 9 := by rw [HST.out, faultAt_9 HX.out HN.out (by first | exact HO.out | (rw [HS2.out]; exact HO.out)) HN2.out h9, if_neg (by decide)]
                       go_ret
                       exact ⟨by rw [hfin]; rfl, hbX.out⟩)
                    | (have h9 : x.zero = decide (x.l = 2 ∨ x.l = 4) := by
                         first
                         | (rw [show x.zero = _ from hz, tst2 _ _ false (by assumption)]; decide)
                         | (have e2 : x.l = 2 := by assumption
                            have e3 : (!true) = false := by assumption
                            rw [show x.zero = true from hz, e2]; decide)
                       have hfin : fault xs = faultFrom xs (i + 1) (n - (i + 1)) := by rw [HST.out, faultAt_0 HX.out HN.out (by first | exact HO.out | (rw [HS2.out]; exact HO.out)) HN2.out h9, if_pos rfl]
                       exact ⟨⟨i + 1, by omega, by go_num, hbX.out, hfin⟩, by simp [intOf]; omega⟩))
      · obtain rfl : i = n := by omega
        have hfin : fault xs = 0 := by rw [hf.out, Nat.sub_self]; rfl
        go_wp2_with fail
        go_ret
        exact ⟨by rw [hfin]; rfl, hb⟩
end Go.Proofs.YtddehjgmmeoboaaDoor
