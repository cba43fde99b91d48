/- The walk of book.Check. -/
import Derived.Test.YtddehjgmmeoboaaDoorBFault
import Derived.Test.YtddehjgmmeoboaaDoorTold
namespace Go.Proofs.YtddehjgmmeoboaaDoor
open Go.RowKit
set_option maxRecDepth 8000

theorem bytesLess_eq : ∀ a b : List UInt8, Op.bytesLess a b = Bk.less a b
  | [], [] => rfl
  | [], _ :: _ => rfl
  | _ :: _, [] => rfl
  | a :: l, b :: m => by
    unfold Op.bytesLess Bk.less
    by_cases h : a = b
    · subst h; simp [bytesLess_eq l m]
    · rw [if_neg h]
      simp [h, UInt8.lt_iff_toNat_lt]
theorem leq_less (s t : ByteArray) : (Op.bytesLess s.toList t.toList || s.toList == t.toList) = !Bk.less t.data.toList s.data.toList := by
  rw [ByteArray.toList_eq, ByteArray.toList_eq, bytesLess_eq]
  rcases Bk.less_total s.data.toList t.data.toList with h | h | h
  · rw [h, Bk.less_asymm h]; rfl
  · rw [h, Bk.less_irrefl]; simp
  · rw [Bk.less_asymm h, h]
    have hne : s.data ≠ t.data := fun e => by rw [e, Bk.less_irrefl] at h; cases h
    simp [hne]
def conZ : List Value := Con.z.c
theorem conZ_len : conZ.length = 34 := rfl
/-- An error of a number; none of 0. -/
def errOf (f : Int) : Option Int := if f = 0 then none else some f
theorem blk_con {w : World} {b : Nat} {T : TypeId} {x : Con} (h : Blk w b T x.c) (hK : x.K.length = 32) : w.cell? ⟨b, 0, none⟩ = some (.string x.s) ∧ w.cell? ⟨b, 33, none⟩ = some (.int .i64 x.l) ∧ w.rangeAt b 1 (x.K.map B) :=
  ⟨by rw [h.cell]; exact x.c0, by rw [h.cell]; exact x.c33 hK, fun j v hv => by rw [h.cell]; exact x.cK hK j v hv⟩

section
variable {C : World → Prop} {o : Oper} {a : Act} {K : Act → Prop}
theorem quiet_load_mid {P : Program} (ty : TypeId) (x : Operand) (ho : o.op = .load ty x) (b p : Nat) (hx : a.eval x = .pointer (some ⟨b, p, none⟩)) (cs : List Value) (d : TypeDesc)
    (hS : ∀ w, C w → w.rangeAt b p cs) (hu : P.underlying ty = some d) (hd : d.isRow = true) (hi : (P.info? ty).map (·.size) = some cs.length)
    (hk : K (a.put o.dst (.agg cs.toArray))) : o.quiet P a C K := by
  refine ⟨_, fun w hw => ?_, hk⟩
  unfold Oper.quietAt execOp
  simp only [ho, hx, Instr.loadAt, Instr.sureAddr, Sem.run_bind, Sem.run_pure, Result.andThen_ok, run_loadVar_mid w b p ty cs d (hS w hw) hu hd hi]
  exact ⟨rfl, rfl⟩
theorem quiet_eql_dig (x y : Operand) (t2 : TypeId) (ho : o.op = .binOp .eql 23 x y t2) (u v : List UInt8) (hu : u.length = 32) (hv : v.length = 32)
    (hx : a.eval x = .agg (u.map B).toArray) (hy : a.eval y = .agg (v.map B).toArray) (hk : K (a.put o.dst (.bool (u == v)))) : o.quiet Tryd.prog a C K := by
  refine ⟨_, fun w _ => ?_, hk⟩
  unfold Oper.quietAt execOp
  simp only [ho, hx, hy, Sem.run_bind, run_eqGuard_agg w _ _ _ _ _ _ Tryd.digGuard, Result.andThen_ok, run_eql_struct, run_eq_dig w hu hv, Sem.run_pure]
  exact ⟨rfl, rfl⟩
end
set_option maxHeartbeats 1000000 in
theorem check_any (xs : List Con) (n c : Nat) (A : Option Addr) (w : World) (h : RdCons w A n xs) (hs : ∀ x ∈ xs, x.s.size ≤ maxLen) :
    Calls Tryd.prog 18 #[.slice A n c] w fun e w' => e = .returned (errV (errOf (fault xs))) ∧ Below w.heap.size w w' := by
  have hl := h.len
  have HL := Lib.hid hl; clear hl
  by_cases h40 : 40 < n
  · have hfin : fault xs = 4 := by unfold fault; rw [HL.out, if_pos h40]
    go_enter Tryd.func18, Tryd.ntmps18
    go_wp2_with fail
    go_ret
    exact ⟨by rw [hfin]; rfl, Below.refl _ _⟩
  · go_enter Tryd.func18, Tryd.ntmps18
    go_wp2_with (show wpList _ _ _ (⟨_, Op.store _ _ _, _, _, _, _⟩ :: _) _ _
                 go_must (refine store_blk (by rfl) 23 _ _ (by rfl) w.heap.size 0 23 (zero32.map B) (zero32.map B) (by rfl) (by rfl) (Blk.at_new _ _ _ _ _ (by rfl) (by rfl)) (by rw [zero32_len]; exact Tryd.infoDig) (mapB_one _) (by rw [zero32_len]; omega) ?_)
                 intro W2 hB2 hG2
                 rw [spl_all _ _ rfl] at hB2
                 have hb2 : Below w.heap.size w W2 := ((Below.refl _ _).alloc (Nat.le_refl _) _).grown hG2 (by simp) (fun k hk => by cases hk; omega))
    clear hG2
    go_loopw [13] (fun si wr => ∃ (i : Nat), i ≤ n ∧ si = .int .i64 i ∧ Below W2.heap.size W2 wr ∧ Hid (fault xs = faultFrom xs i (n - i))) (fun si _ => n - (intOf si).toNat)
    case atStart => exact ⟨0, Nat.zero_le _, rfl, Below.refl _ _, by show _ = _; unfold fault; rw [HL.out, if_neg h40]; rfl⟩
    case round =>
      obtain ⟨i, hi, rfl, hb, hf⟩ := hrel
      have hbw : Below w.heap.size w wr := hb2.trans (hb.mono hb2.size)
      have hN : Blk wr w.heap.size 23 (zero32.map B) := hB2.below hb hB2.lt
      by_cases hlt : i < n
      · have hstep : fault xs = if faultAt xs i = 0 then faultFrom xs (i + 1) (n - (i + 1)) else faultAt xs i := by
          rw [hf.out, show n - i = n - (i + 1) + 1 by omega, faultFrom]
        have HST := Lib.hid hstep; clear hstep hf
        obtain ⟨ad, rfl, hab, hcx⟩ := (h.below hbw (Nat.le_refl _)).at_ i hlt
        have kx := h.key hlt
        have hss : (xs.getD i Con.z).s.size ≤ maxLen := by
          have hl : i < xs.length := by rw [HL.out]; exact hlt
          rw [List.getD_eq_getElem?_getD, List.getElem?_eq_getElem hl]
          exact hs _ (List.getElem_mem hl)
        have hlt' : (i : Int) < n := by omega
        generalize hx : xs.getD i Con.z = x at *
        have HX := Lib.hid hx; clear hx
        have HCX := Lib.hid hcx; clear hcx
        have hx34 := Lib.hid (x.len kx)
        have hsz : w.heap.size < wr.heap.size := hN.lt
        go_wp2_with (first
          | (show wpList _ _ _ (⟨_, Op.load 59 _, _, _, _, _⟩ :: _) _ _
             go_must (refine load_at (by rfl) 59 _ (by rfl) (ad.add (i * 34)) (by rfl) x.c _ HCX.out Tryd.underlying59 rfl (by rw [hx34.out]; exact Tryd.infoCon) ?_))
          | (show wpList _ _ _ (⟨_, Op.store 59 _ _, _, _, _, _⟩ :: _) _ _
             go_must (refine store_blk (by rfl) 59 _ _ (by rfl) wr.heap.size 0 59 conZ x.c (by rfl) (by rfl) (Blk.at_new _ _ _ _ _ (by rfl) (by rfl)) (by rw [hx34.out]; exact Tryd.infoCon) x.one (by rw [hx34.out, conZ_len]; omega) ?_)
             intro W3 hB3 hG3
             rw [spl_all _ _ (by rw [hx34.out]; rfl)] at hB3
             have hb3 : Below wr.heap.size wr W3 := ((Below.refl _ _).alloc (Nat.le_refl _) _).grown hG3 (by simp) (fun k hk => by cases hk; omega)
             obtain ⟨hs0, hs33, hsK⟩ := blk_con hB3 kx
             have HSK := Lib.hid hsK
             have HN3 := Lib.hid (hN.below hb3 hN.lt)
             clear hG3 hsK))
        have hbw3 : Below w.heap.size w W3 := hbw.trans (hb3.mono hbw.size)
        refine (named_any x.s _).mono ?_
        rintro e W4 ⟨rfl, hb4⟩
        have hbw4 : Below w.heap.size w W4 := hbw3.trans (hb4.mono hbw3.size)
        have hB4 := hB3.below hb4 hB3.lt
        have hb4X := Lib.hid (hb3.trans (hb4.mono hb3.size))
        have HN4 := Lib.hid (HN3.out.below hb4 HN3.out.lt)
        obtain ⟨hs0', hs33', hsK'⟩ := blk_con hB4 kx
        have HSK' := Lib.hid hsK'
        clear hsK' hs0 hs33 HSK HN3 hB3 hb3 hbw3 hbw
        by_cases hn : named x.s.data.toList = false
        · have hfin : fault xs = 1 := by rw [HST.out, faultAt_1 HX.out hn, if_neg (by decide)]
          rw [hn]
          go_wp2_with fail
          go_ret
          exact ⟨by rw [hfin]; rfl, hbw4⟩
        · have hn' : named x.s.data.toList = true := by simpa using hn
          rw [hn']
          have HN := Lib.hid hn'; clear hn hn'
          by_cases hbad : 0 < i ∧ Bk.less (xs.getD (i - 1) Con.z).s.data.toList x.s.data.toList = false
          · obtain ⟨hi0, hless⟩ := hbad
            have hfin : fault xs = 7 := by rw [HST.out, faultAt_7 HX.out HN.out hi0 hless, if_neg (by decide)]
            have HF := Lib.hid hfin; clear hfin
            obtain ⟨ad2, e2, _, hp0, _, _⟩ := (h.below hbw4 (Nat.le_refl _)).str (show i - 1 < n by omega)
            injection e2 with e2; subst e2
            generalize (xs.getD (i - 1) Con.z).s = s2 at *
            have hle := leq_less x.s s2
            rw [hless] at hle
            have hi0' : (0 : Int) < i := by omega
            have hi1 : ((i : Int) - 1).toNat = i - 1 := by omega
            have hi2 : IntKind.i64.wrap ((i : Int) - 1) = (i : Int) - 1 := IntWalk.i64_in _ (by unfold maxLen at *; omega)
            have hi3 : (0 : Int) ≤ (i : Int) - 1 := by omega
            have hi4 : (i : Int) - 1 < n := by omega
            go_wp2_with fail
            go_quiet (fail)
            go_wp2_with fail
            go_ret
            exact ⟨by rw [HF.out]; rfl, below_draws hbw4 _⟩
          · have hord : Hid (0 < i → Bk.less (xs.getD (i - 1) Con.z).s.data.toList x.s.data.toList = true) := fun a => by
              cases hq : Bk.less (xs.getD (i - 1) Con.z).s.data.toList x.s.data.toList
              · exact absurd ⟨a, hq⟩ hbad
              · rfl
            by_cases hi0 : 0 < i
            focus
              have hless := hord.out hi0
              obtain ⟨ad2, e2, _, hp0, _, _⟩ := (h.below hbw4 (Nat.le_refl _)).str (show i - 1 < n by omega)
              injection e2 with e2; subst e2
              have HO := Lib.hid hord.out; clear hord
              generalize hs2 : (xs.getD (i - 1) Con.z).s = s2 at *
              have HS2 := Lib.hid hs2; clear hs2 hbad
              have hle := leq_less x.s s2
              rw [hless] at hle
              clear hless
              have hi0' : (0 : Int) < i := by omega
              have hi1 : ((i : Int) - 1).toNat = i - 1 := by omega
              have hi2 : IntKind.i64.wrap ((i : Int) - 1) = (i : Int) - 1 := IntWalk.i64_in _ (by unfold maxLen at *; omega)
              have hi3 : (0 : Int) ≤ (i : Int) - 1 := by omega
              have hi4 : (i : Int) - 1 < n := by omega
              go_wp2_with fail
              go_quiet (fail)
              clear hi0' hi1 hi2 hi3 hi4 hle hp0
            rotate_left 1
            focus
              have HO := hord; clear hord hbad
              have hd0 : decide ((0 : Int) < i) = false := decide_eq_false (by omega)
              go_wp2_with fail
              go_quiet (fail)
              clear hd0
            all_goals (
              by_cases h2 : x.l < 1 ∨ 4 < x.l
              · have hfin : fault xs = 2 := by rw [HST.out, faultAt_2 HX.out HN.out (by first | exact HO.out | (rw [HS2.out]; exact HO.out)) h2, if_neg (by decide)]
                have HF := Lib.hid hfin; clear hfin
                by_cases h1 : x.l < 1
                · have hd1 : decide (x.l < 1) = true := decide_eq_true h1
                  clear h1 h2
                  go_wp2_with fail
                  go_ret
                  exact ⟨by rw [HF.out]; rfl, below_draws hbw4 _⟩
                · have hd1 : decide (x.l < 1) = false := decide_eq_false h1
                  have hd2 : decide (4 < x.l) = true := decide_eq_true (by omega)
                  clear h1 h2
                  go_wp2_with fail
                  go_ret
                  exact ⟨by rw [HF.out]; rfl, below_draws hbw4 _⟩
              · have HN2 := Lib.hid h2
                have hl4 : x.l = 1 ∨ x.l = 2 ∨ x.l = 3 ∨ x.l = 4 := by omega
                clear h2
                have HKX := Lib.hid kx; clear kx
                have hu := Tryd.underlying23
                have hi0 : (Tryd.prog.info? 23).map (·.size) = some (x.K.map B).length := by rw [List.length_map, HKX.out]; exact Tryd.infoDig
                have hi1 : (Tryd.prog.info? 23).map (·.size) = some (zero32.map B).length := by rw [zero32_len]; exact Tryd.infoDig
                have heq : ∀ W : World, (Op.equalIn 10000 23 (.agg (x.K.map B).toArray) (.agg (zero32.map B).toArray)).run Tryd.prog W = .ok (x.K == zero32) W := fun W => run_eq_dig W HKX.out rfl
                rcases hl4 with e | e | e | e
                · have HE := Lib.hid e
                  rw [e] at hs33'
                  clear e
                  go_wp2_with fail
                  refine wp_region_quiet_lit (by kernel_rfl) (by kernel_rfl) ?_
                  repeat (go_big_quiet_step (fail))
                  go_big_quiet_want
                  refine quiet_load_mid 23 _ rfl _ _ (by rfl) (x.K.map B) _ (by rintro _ ⟨q, rfl⟩; exact HSK'.out) hu rfl hi0 ?_
                  go_big_quiet_on
                  simp only [Act.put, List.setIfInBounds_toArray, List.set_cons_zero, List.set_cons_succ]
                  repeat (go_big_quiet_step (fail))
                  go_big_quiet_want
                  refine quiet_load_mid 23 _ rfl _ _ (by rfl) (zero32.map B) _ (by rintro _ ⟨q, rfl⟩; exact HN4.out.range 0 32) hu rfl hi1 ?_
                  go_big_quiet_on
                  simp only [Act.put, List.setIfInBounds_toArray, List.set_cons_zero, List.set_cons_succ]
                  go_big_quiet_want
                  refine quiet_eql_dig _ _ _ rfl x.K zero32 HKX.out rfl (by rfl) (by rfl) ?_
                  go_big_quiet_on
                  simp only [Act.put, List.setIfInBounds_toArray, List.set_cons_zero, List.set_cons_succ]
                  repeat (go_big_quiet_step (fail))
                  refine wpQuiet_nil ?_
                  intro _ hw'
                  obtain ⟨nq2, hw''⟩ := hw'
                  subst hw''
                  cases hz : (x.K == zero32)
                  all_goals go_wp2_with fail
                  all_goals first
                    | (have h9 : x.zero ≠ decide (x.l = 2 ∨ x.l = 4) := by rw [show x.zero = _ from hz, HE.out]; decide
                       have hfin : fault xs = 9 := by rw [HST.out, faultAt_9 HX.out HN.out (by first | exact HO.out | (rw [HS2.out]; exact HO.out)) HN2.out h9, if_neg (by decide)]
                       go_ret
                       exact ⟨by rw [hfin]; rfl, by first | exact below_draws hbw4 _ | (rw [World.drewN_drewN]; exact below_draws hbw4 _)⟩)
                    | (have h9 : x.zero = decide (x.l = 2 ∨ x.l = 4) := by rw [show x.zero = _ from hz, HE.out]; decide
                       have hfin : fault xs = faultFrom xs (i + 1) (n - (i + 1)) := by rw [HST.out, faultAt_0 HX.out HN.out (by first | exact HO.out | (rw [HS2.out]; exact HO.out)) HN2.out h9, if_pos rfl]
                       exact ⟨⟨i + 1, by omega, by go_num, by first | exact below_draws (hb.trans (hb4X.out.mono hb.size)) _ | (rw [World.drewN_drewN]; exact below_draws (hb.trans (hb4X.out.mono hb.size)) _), hfin⟩, by simp [intOf]; omega⟩)
                · have HE := Lib.hid e
                  rw [e] at hs33'
                  clear e
                  go_wp2_with fail
                  refine wp_region_quiet_lit (by kernel_rfl) (by kernel_rfl) ?_
                  repeat (go_big_quiet_step (fail))
                  go_big_quiet_want
                  refine quiet_load_mid 23 _ rfl _ _ (by rfl) (x.K.map B) _ (by rintro _ ⟨q, rfl⟩; exact HSK'.out) hu rfl hi0 ?_
                  go_big_quiet_on
                  simp only [Act.put, List.setIfInBounds_toArray, List.set_cons_zero, List.set_cons_succ]
                  repeat (go_big_quiet_step (fail))
                  go_big_quiet_want
                  refine quiet_load_mid 23 _ rfl _ _ (by rfl) (zero32.map B) _ (by rintro _ ⟨q, rfl⟩; exact HN4.out.range 0 32) hu rfl hi1 ?_
                  go_big_quiet_on
                  simp only [Act.put, List.setIfInBounds_toArray, List.set_cons_zero, List.set_cons_succ]
                  go_big_quiet_want
                  refine quiet_eql_dig _ _ _ rfl x.K zero32 HKX.out rfl (by rfl) (by rfl) ?_
                  go_big_quiet_on
                  simp only [Act.put, List.setIfInBounds_toArray, List.set_cons_zero, List.set_cons_succ]
                  repeat (go_big_quiet_step (fail))
                  refine wpQuiet_nil ?_
                  intro _ hw'
                  obtain ⟨nq2, hw''⟩ := hw'
                  subst hw''
                  cases hz : (x.K == zero32)
                  all_goals go_wp2_with fail
                  all_goals first
                    | (have h9 : x.zero ≠ decide (x.l = 2 ∨ x.l = 4) := by rw [show x.zero = _ from hz, HE.out]; decide
                       have hfin : fault xs = 9 := by rw [HST.out, faultAt_9 HX.out HN.out (by first | exact HO.out | (rw [HS2.out]; exact HO.out)) HN2.out h9, if_neg (by decide)]
                       go_ret
                       exact ⟨by rw [hfin]; rfl, by first | exact below_draws hbw4 _ | (rw [World.drewN_drewN]; exact below_draws hbw4 _)⟩)
                    | (have h9 : x.zero = decide (x.l = 2 ∨ x.l = 4) := by rw [show x.zero = _ from hz, HE.out]; decide
                       have hfin : fault xs = faultFrom xs (i + 1) (n - (i + 1)) := by rw [HST.out, faultAt_0 HX.out HN.out (by first | exact HO.out | (rw [HS2.out]; exact HO.out)) HN2.out h9, if_pos rfl]
                       exact ⟨⟨i + 1, by omega, by go_num, by first | exact below_draws (hb.trans (hb4X.out.mono hb.size)) _ | (rw [World.drewN_drewN]; exact below_draws (hb.trans (hb4X.out.mono hb.size)) _), hfin⟩, by simp [intOf]; omega⟩)
                · have HE := Lib.hid e
                  rw [e] at hs33'
                  clear e
                  go_wp2_with fail
                  refine wp_region_quiet_lit (by kernel_rfl) (by kernel_rfl) ?_
                  repeat (go_big_quiet_step (fail))
                  go_big_quiet_want
                  refine quiet_load_mid 23 _ rfl _ _ (by rfl) (x.K.map B) _ (by rintro _ ⟨q, rfl⟩; exact HSK'.out) hu rfl hi0 ?_
                  go_big_quiet_on
                  simp only [Act.put, List.setIfInBounds_toArray, List.set_cons_zero, List.set_cons_succ]
                  repeat (go_big_quiet_step (fail))
                  go_big_quiet_want
                  refine quiet_load_mid 23 _ rfl _ _ (by rfl) (zero32.map B) _ (by rintro _ ⟨q, rfl⟩; exact HN4.out.range 0 32) hu rfl hi1 ?_
                  go_big_quiet_on
                  simp only [Act.put, List.setIfInBounds_toArray, List.set_cons_zero, List.set_cons_succ]
                  go_big_quiet_want
                  refine quiet_eql_dig _ _ _ rfl x.K zero32 HKX.out rfl (by rfl) (by rfl) ?_
                  go_big_quiet_on
                  simp only [Act.put, List.setIfInBounds_toArray, List.set_cons_zero, List.set_cons_succ]
                  repeat (go_big_quiet_step (fail))
                  refine wpQuiet_nil ?_
                  intro _ hw'
                  obtain ⟨nq2, hw''⟩ := hw'
                  subst hw''
                  cases hz : (x.K == zero32)
                  all_goals go_wp2_with fail
                  all_goals first
                    | (have h9 : x.zero ≠ decide (x.l = 2 ∨ x.l = 4) := by rw [show x.zero = _ from hz, HE.out]; decide
                       have hfin : fault xs = 9 := by rw [HST.out, faultAt_9 HX.out HN.out (by first | exact HO.out | (rw [HS2.out]; exact HO.out)) HN2.out h9, if_neg (by decide)]
                       go_ret
                       exact ⟨by rw [hfin]; rfl, by first | exact below_draws hbw4 _ | (rw [World.drewN_drewN]; exact below_draws hbw4 _)⟩)
                    | (have h9 : x.zero = decide (x.l = 2 ∨ x.l = 4) := by rw [show x.zero = _ from hz, HE.out]; decide
                       have hfin : fault xs = faultFrom xs (i + 1) (n - (i + 1)) := by rw [HST.out, faultAt_0 HX.out HN.out (by first | exact HO.out | (rw [HS2.out]; exact HO.out)) HN2.out h9, if_pos rfl]
                       exact ⟨⟨i + 1, by omega, by go_num, by first | exact below_draws (hb.trans (hb4X.out.mono hb.size)) _ | (rw [World.drewN_drewN]; exact below_draws (hb.trans (hb4X.out.mono hb.size)) _), hfin⟩, by simp [intOf]; omega⟩)
                · have HE := Lib.hid e
                  rw [e] at hs33'
                  clear e
                  go_wp2_with fail
                  refine wp_region_quiet_lit (by kernel_rfl) (by kernel_rfl) ?_
                  repeat (go_big_quiet_step (fail))
                  go_big_quiet_want
                  refine quiet_load_mid 23 _ rfl _ _ (by rfl) (x.K.map B) _ (by rintro _ ⟨q, rfl⟩; exact HSK'.out) hu rfl hi0 ?_
                  go_big_quiet_on
                  simp only [Act.put, List.setIfInBounds_toArray, List.set_cons_zero, List.set_cons_succ]
                  repeat (go_big_quiet_step (fail))
                  go_big_quiet_want
                  refine quiet_load_mid 23 _ rfl _ _ (by rfl) (zero32.map B) _ (by rintro _ ⟨q, rfl⟩; exact HN4.out.range 0 32) hu rfl hi1 ?_
                  go_big_quiet_on
                  simp only [Act.put, List.setIfInBounds_toArray, List.set_cons_zero, List.set_cons_succ]
                  go_big_quiet_want
                  refine quiet_eql_dig _ _ _ rfl x.K zero32 HKX.out rfl (by rfl) (by rfl) ?_
                  go_big_quiet_on
                  simp only [Act.put, List.setIfInBounds_toArray, List.set_cons_zero, List.set_cons_succ]
                  repeat (go_big_quiet_step (fail))
                  refine wpQuiet_nil ?_
                  intro _ hw'
                  obtain ⟨nq2, hw''⟩ := hw'
                  subst hw''
                  cases hz : (x.K == zero32)
                  all_goals go_wp2_with fail
                  all_goals first
                    | (have h9 : x.zero ≠ decide (x.l = 2 ∨ x.l = 4) := by rw [show x.zero = _ from hz, HE.out]; decide
                       have hfin : fault xs = 9 := by rw [HST.out, faultAt_9 HX.out HN.out (by first | exact HO.out | (rw [HS2.out]; exact HO.out)) HN2.out h9, if_neg (by decide)]
                       go_ret
                       exact ⟨by rw [hfin]; rfl, by first | exact below_draws hbw4 _ | (rw [World.drewN_drewN]; exact below_draws hbw4 _)⟩)
                    | (have h9 : x.zero = decide (x.l = 2 ∨ x.l = 4) := by rw [show x.zero = _ from hz, HE.out]; decide
                       have hfin : fault xs = faultFrom xs (i + 1) (n - (i + 1)) := by rw [HST.out, faultAt_0 HX.out HN.out (by first | exact HO.out | (rw [HS2.out]; exact HO.out)) HN2.out h9, if_pos rfl]
                       exact ⟨⟨i + 1, by omega, by go_num, by first | exact below_draws (hb.trans (hb4X.out.mono hb.size)) _ | (rw [World.drewN_drewN]; exact below_draws (hb.trans (hb4X.out.mono hb.size)) _), hfin⟩, by simp [intOf]; omega⟩))
      · obtain rfl : i = n := by omega
        have hfin : fault xs = 0 := by rw [hf.out, Nat.sub_self]; rfl
        go_wp2_with fail
        go_ret
        exact ⟨by rw [hfin]; rfl, hbw⟩
end Go.Proofs.YtddehjgmmeoboaaDoor
