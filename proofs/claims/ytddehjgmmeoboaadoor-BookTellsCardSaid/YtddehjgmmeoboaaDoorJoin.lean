/- The walk of book.Join. -/
import Derived.Test.YtddehjgmmeoboaaDoorCompare
import Derived.Test.YtddehjgmmeoboaaDoorBJoin
namespace Go.Proofs.YtddehjgmmeoboaaDoor
open Go.RowKit
set_option maxRecDepth 8000

def lenOf : Value → Nat
  | .slice _ k _ => k
  | _ => 0
theorem spot_none {w : World} {a : Addr} {v : Value} (h : w.cell? a = some v) : a = ⟨a.block, a.off, none⟩ := by
  unfold World.cell? at h
  obtain ⟨b, o, s⟩ := a
  cases s with
  | none => rfl
  | some s =>
    simp only [Option.isSome_some, if_true] at h
    split at h <;> cases h
/-- A book that begins with a contact: where it lies, and what is behind it. -/
theorem RdCons.head {w : World} {A : Option Addr} {n : Nat} {x : Con} {xs : List Con} (h : RdCons w A n (x :: xs)) : ∃ b o, A = some ⟨b, o, none⟩ ∧ b < w.heap.size ∧ w.cell? ⟨b, o, none⟩ = some (.string x.s) ∧ w.rangeAt b o x.c ∧ RdCons w (some ⟨b, o + 34, none⟩) (n - 1) xs ∧ (xs = [] → RdCons w (some ⟨b, o, none⟩) 0 xs) ∧ xs.length + 1 = n := by
  have hl := h.len
  simp only [List.length_cons] at hl
  obtain ⟨ad, rfl, hb, hc⟩ := h.at_ 0 (by omega)
  have h0 := hc 0 _ (by simp; exact Con.c0 x)
  have e0 : (ad.add (0 * 34)).add 0 = ad := by simp [Addr.add]
  rw [e0] at h0
  have hs := spot_none h0
  obtain ⟨b, o, s⟩ := ad
  simp at hs
  subst hs
  refine ⟨b, o, rfl, hb, h0, fun j v hv => ?_, ?_, fun e => ?_, hl⟩
  · have := hc j v (by simpa using hv)
    rw [show (⟨b, o, none⟩ : Addr).add (0 * 34) = ⟨b, o, none⟩ from by simp [Addr.add], Addr.add_mid] at this
    exact this
  · subst hl
    exact h.tail (some ⟨b, o + 34, none⟩) (fun _ => rfl)
  · subst e
    exact ⟨rfl, (fun y hy => by cases hy), fun i hi => by omega⟩

/-- A load of a contact, closed to the walk. -/
noncomputable def ldS (v : Value) : Sem Value := Instr.loadAt 59 v
theorem execOp_ldS (ρ : Operand → Value) (dst : Option Tmp) (x : Operand) (ty : TypeId) (pos : String) (after : Array Edge) (guard : Option (Nat × Bool)) :
    execOp ρ { dst := dst, op := .load 59 x, type := ty, pos := pos, after := after, guard := guard } = (do pure (.value (← ldS (ρ x)))) := rfl
theorem ldc_con {w : World} {b o : Nat} {x : Con} (h : w.rangeAt b o x.c) (hK : x.K.length = 32) : (ldS (.pointer (some ⟨b, o, none⟩))).run Tryd.prog w = .ok (.agg x.c.toArray) w := by
  unfold ldS
  simp only [Instr.loadAt, Instr.sureAddr, Sem.run_bind, Sem.run_pure, Result.andThen_ok, run_loadVar_mid w b o 59 _ _ h Tryd.underlying59 rfl (by rw [x.len hK]; exact Tryd.infoCon)]
theorem mrg_lt {x y : Con} {us vs : List Con} (h : Bk.less (cname x) (cname y) = true) : mrg (x :: us) (y :: vs) = x :: mrg us (y :: vs) := by rw [mrg, Bk.merge, if_pos h]
theorem mrg_gt {x y : Con} {us vs : List Con} (h : Bk.less (cname y) (cname x) = true) : mrg (x :: us) (y :: vs) = y :: mrg (x :: us) vs := by rw [mrg, Bk.merge, if_neg (by rw [Bk.less_asymm h]; simp), if_pos h]
theorem mrg_eq {x y : Con} {us vs : List Con} (h : cname x = cname y) : mrg (x :: us) (y :: vs) = oneCon x y :: mrg us vs := by rw [mrg, Bk.merge, if_neg (by rw [h, Bk.less_irrefl]; simp), if_neg (by rw [h, Bk.less_irrefl]; simp)]

attribute [local go_sem ↓] execOp_ldS in
set_option maxHeartbeats 2000000 in
theorem join_any (xs ys : List Con) (n c m c2 : Nat) (A A2 : Option Addr) (w : World) (hx : RdCons w A n xs) (hxc : n ≤ c ∧ c ≤ maxLen ∧ (A = none → c = 0)) (hy : RdCons w A2 m ys) (hyc : m ≤ c2 ∧ c2 ≤ maxLen ∧ (A2 = none → c2 = 0))
    (hsx : ∀ x ∈ xs, x.s.size ≤ maxLen) (hsy : ∀ x ∈ ys, x.s.size ≤ maxLen) :
    Calls Tryd.prog 21 #[.slice A n c, .slice A2 m c2] w fun e w' => ∃ v, e = .returned (.tuple #[v, errV (errOf (joinFault xs ys))]) ∧ Joined w w' v xs ys := by
  obtain ⟨i1, hj, hy0, hy1, hy2⟩ := info_parts Tryd.infoConA
  by_cases f1 : fault xs = 0
  · by_cases f2 : fault ys = 0
    · have SX := Lib.hid (sound_of f1)
      have SY := Lib.hid (sound_of f2)
      have ej : Hid (joinFault xs ys = if 40 < (mrg xs ys).length then 4 else 0) := by show _ = _; unfold joinFault; rw [if_neg (by simp [f1]), if_neg (by simp [f2])]
      have e1 : errV (errOf (fault xs)) = .nilIface := by rw [f1]; rfl
      have e2 : errV (errOf (fault ys)) = .nilIface := by rw [f2]; rfl
      go_enter Tryd.func21, Tryd.ntmps21
      go_wp2_with fail
      refine (check_any xs n c A _ hx hsx).mono ?_
      rintro e W1 ⟨rfl, hb1⟩
      rw [e1]
      go_wp2_with fail
      refine (check_any ys m c2 A2 _ (hy.below hb1 (Nat.le_refl _)) hsy).mono ?_
      rintro e W2 ⟨rfl, hb2⟩
      rw [e2]
      have hbw := hb1.trans (hb2.mono hb1.size)
      have hx2 := hx.below hbw (Nat.le_refl _)
      have hy2' := hy.below hbw (Nat.le_refl _)
      clear e1 e2 f1 f2
      go_wp2_with fail
      go_loopw [0, 1, 8] (fun va vb vo wr => ∃ (us vs out : List Con) (n c m c2 : Nat) (A A2 : Option Addr), va = .slice A n c ∧ vb = .slice A2 m c2 ∧ RdCons W2 A n us ∧ RdCons W2 A2 m vs ∧ (n ≤ c ∧ c ≤ maxLen ∧ (A = none → c = 0)) ∧ (m ≤ c2 ∧ c2 ≤ maxLen ∧ (A2 = none → c2 = 0)) ∧ wr.ownsRow W2.heap.size 59 34 vo out.length (conCells out) ∧ Below W2.heap.size W2 wr ∧ Hid (out ++ mrg us vs = mrg xs ys) ∧ Hid (Sound us ∧ Sound vs) ∧ Hid (∀ z ∈ out, z.K.length = 32) ∧ out.length ≤ 80) (fun va vb _ _ => lenOf va + lenOf vb)
      case atStart => exact ⟨xs, ys, [], n, c, m, c2, A, A2, rfl, rfl, hx2, hy2', hxc, hyc, own_nil34 _ _, Below.refl _ _, rfl, ⟨SX.out, SY.out⟩, (fun z hz => by cases hz), Nat.zero_le _⟩
      case round =>
        clear hx2 hy2' hxc hyc hx hy
        obtain ⟨us, vs, out, n, c, m, c2, A, A2, rfl, rfl, hx, hy, hxc, hyc, hown, hbr, hmr, hso, hok, ho80⟩ := hrel
        have hbwr := hbw.trans (hbr.mono hbw.size)
        cases us with
        | nil =>
          obtain rfl : 0 = n := hx.len
          have hfin : out ++ [] ++ vs = mrg xs ys := by rw [← hmr.out]; simp [mrg, Bk.merge_nil_left, Bk.merge_nil_right]
          have hlen : (mrg xs ys).length = out.length + 0 + m := by rw [← hfin, List.length_append, List.length_append, hx.len, hy.len]
          have HLEN := Lib.hid hlen
          have hml := mrg_len xs ys
          have h3 := SX.out.few
          have h4 := SY.out.few
          have hle : out.length + 0 + m ≤ 80 := by omega
          have HFIN := Lib.hid hfin
          clear hfin hlen hml h3 h4
          have RX := Lib.hid ((hx.below hbr (Nat.le_refl _)).rd hxc.1 hxc.2.1 hxc.2.2)
          have RY := Lib.hid ((hy.below hbr (Nat.le_refl _)).rd hyc.1 hyc.2.1 hyc.2.2)
          have HYC := Lib.hid hyc
          have HXC := Lib.hid hxc
          clear hxc hyc
          go_wp2_with (first
            | (show wpList _ _ _ (⟨_, Op.call { callee := Callee.builtin Builtin.append, args := #[Operand.tmp 70, _], argTypes := _ }, _, _, _, _⟩ :: _) _ _
               go_must (refine list_app (by rfl) _ _ _ (by rfl) W2.heap.size 59 i1 _ 34 56 Tryd.underlying48 hj hy0 hy1 hy2 rfl (by omega) _ _ _ (by rfl) hown A 0 c _ (by rfl) RX.out (conCells_one _) (by unfold maxLen; omega) (by omega) hbr.size ?_)
               intro v3 W3 hown3 hbl3 _ _
               have hb3 : Below W2.heap.size W2 W3 := hbr.trans hbl3
               have RY3 := Lib.hid ((hy.below hb3 (Nat.le_refl _)).rd HYC.out.1 HYC.out.2.1 HYC.out.2.2))
            | (show wpList _ _ _ (⟨_, Op.call { callee := Callee.builtin Builtin.append, args := #[Operand.tmp 72, _], argTypes := _ }, _, _, _, _⟩ :: _) _ _
               go_must (refine list_app (by rfl) _ _ _ (by rfl) W2.heap.size 59 i1 _ 34 56 Tryd.underlying48 hj hy0 hy1 hy2 rfl (by omega) _ _ _ (by rfl) hown3 A2 m c2 _ (by rfl) RY3.out (conCells_one _) (by unfold maxLen; omega) (by omega) hb3.size ?_)
               intro v4 W4 hown4 hbl4 _ _
               have hb4 : Below W2.heap.size W2 W4 := hb3.trans hbl4
               obtain ⟨Aq, cq, rfl, _⟩ := own_rd hown4
               clear hown3 hbl3 hbl4))
          all_goals (
            first
            | (have h40 : 40 < out.length + 0 + m := by omega
               have hj4 : joinFault xs ys = 4 := by rw [ej.out, if_pos (by rw [HLEN.out]; exact h40)]
               go_ret2
               exact ⟨_, by rw [hj4]; rfl, by rw [joinOf_bad (by rw [hj4]; decide)]; exact own_nil34 _ _, hbw.trans (hb4.mono hbw.size)⟩)
            | (have h40 : ¬ 40 < out.length + 0 + m := by omega
               have hj4 : joinFault xs ys = 0 := by rw [ej.out, if_neg (by rw [HLEN.out]; exact h40)]
               have hjo : joinOf xs ys = mrg xs ys := by unfold joinOf; rw [if_pos hj4]
               go_ret2
               exact ⟨_, by rw [hj4]; rfl, by rw [hjo, HLEN.out, ← HFIN.out, conCells_append, conCells_append]; exact own_base hown4 hbw.size, hbw.trans (hb4.mono hbw.size)⟩))
        | cons x us =>
          cases vs with
          | nil =>
            obtain rfl : 0 = m := hy.len
            obtain ⟨b, o, rfl, hb0, hs0, hrx, htx, htx0, hn⟩ := hx.head
            have hn0 : (0 : Int) < n := by omega
            have hfin : out ++ (x :: us) ++ [] = mrg xs ys := by rw [← hmr.out]; simp [mrg, Bk.merge_nil_left, Bk.merge_nil_right]
            have hlen : (mrg xs ys).length = out.length + n + 0 := by rw [← hfin, List.length_append, List.length_append, hx.len, hy.len]
            have HLEN := Lib.hid hlen
            have hml := mrg_len xs ys
            have h3 := SX.out.few
            have h4 := SY.out.few
            have hle : out.length + n + 0 ≤ 80 := by omega
            have HFIN := Lib.hid hfin
            clear hfin hlen hml h3 h4
            have RX := Lib.hid ((hx.below hbr (Nat.le_refl _)).rd hxc.1 hxc.2.1 hxc.2.2)
            have RY := Lib.hid ((hy.below hbr (Nat.le_refl _)).rd hyc.1 hyc.2.1 hyc.2.2)
            have HYC := Lib.hid hyc
            have HXC := Lib.hid hxc
            clear hxc hyc
            go_wp2_with (first
              | (show wpList _ _ _ (⟨_, Op.call { callee := Callee.builtin Builtin.append, args := #[Operand.tmp 70, _], argTypes := _ }, _, _, _, _⟩ :: _) _ _
                 go_must (refine list_app (by rfl) _ _ _ (by rfl) W2.heap.size 59 i1 _ 34 56 Tryd.underlying48 hj hy0 hy1 hy2 rfl (by omega) _ _ _ (by rfl) hown (some ⟨b, o, none⟩) n c _ (by rfl) RX.out (conCells_one _) (by unfold maxLen; omega) (by omega) hbr.size ?_)
                 intro v3 W3 hown3 hbl3 _ _
                 have hb3 : Below W2.heap.size W2 W3 := hbr.trans hbl3
                 have RY3 := Lib.hid ((hy.below hb3 (Nat.le_refl _)).rd HYC.out.1 HYC.out.2.1 HYC.out.2.2))
              | (show wpList _ _ _ (⟨_, Op.call { callee := Callee.builtin Builtin.append, args := #[Operand.tmp 72, _], argTypes := _ }, _, _, _, _⟩ :: _) _ _
                 go_must (refine list_app (by rfl) _ _ _ (by rfl) W2.heap.size 59 i1 _ 34 56 Tryd.underlying48 hj hy0 hy1 hy2 rfl (by omega) _ _ _ (by rfl) hown3 A2 0 c2 _ (by rfl) RY3.out (conCells_one _) (by unfold maxLen; omega) (by omega) hb3.size ?_)
                 intro v4 W4 hown4 hbl4 _ _
                 have hb4 : Below W2.heap.size W2 W4 := hb3.trans hbl4
                 obtain ⟨Aq, cq, rfl, _⟩ := own_rd hown4
                 clear hown3 hbl3 hbl4))
            all_goals (
              first
              | (have h40 : 40 < out.length + n + 0 := by omega
                 have hj4 : joinFault xs ys = 4 := by rw [ej.out, if_pos (by rw [HLEN.out]; exact h40)]
                 go_ret2
                 exact ⟨_, by rw [hj4]; rfl, by rw [joinOf_bad (by rw [hj4]; decide)]; exact own_nil34 _ _, hbw.trans (hb4.mono hbw.size)⟩)
              | (have h40 : ¬ 40 < out.length + n + 0 := by omega
                 have hj4 : joinFault xs ys = 0 := by rw [ej.out, if_neg (by rw [HLEN.out]; exact h40)]
                 have hjo : joinOf xs ys = mrg xs ys := by unfold joinOf; rw [if_pos hj4]
                 go_ret2
                 exact ⟨_, by rw [hj4]; rfl, by rw [hjo, HLEN.out, ← HFIN.out, conCells_append, conCells_append]; exact own_base hown4 hbw.size, hbw.trans (hb4.mono hbw.size)⟩))
          | cons y vs =>
            obtain ⟨b, o, rfl, hb0, hs0, hrx, htx, htx0, hn⟩ := hx.head
            obtain ⟨b', o', rfl, hb0', hs0', hry, hty, hty0, hm⟩ := hy.head
            have hsx := (hbr.cell (p := ⟨b, o, none⟩) hb0).trans hs0
            have hsy := (hbr.cell (p := ⟨b', o', none⟩) hb0').trans hs0'
            have hn0 : (0 : Int) < n := by omega
            have hm0 : (0 : Int) < m := by omega
            go_wp2_with fail
            go_quiet ((go_at_call 72; exact Calls.quiet_of_same (compare_any _ _ _)))
            rw [cmp_less]
            have kx : x.K.length = 32 := hx.keys x (by simp)
            have ky : y.K.length = 32 := hy.keys y (by simp)
            have HL : Hid (∀ W, Below W2.heap.size W2 W → (ldS (.pointer (some ⟨b, o, none⟩))).run Tryd.prog W = .ok (.agg x.c.toArray) W) := fun W h => ldc_con (fun j v hv => (h.cell (p := ⟨b, o + j, none⟩) hb0).trans (hrx j v hv)) kx
            have HL' : Hid (∀ W, Below W2.heap.size W2 W → (ldS (.pointer (some ⟨b', o', none⟩))).run Tryd.prog W = .ok (.agg y.c.toArray) W) := fun W h => ldc_con (fun j v hv => (h.cell (p := ⟨b', o' + j, none⟩) hb0').trans (hry j v hv)) ky
            have BD : Hid (∀ k, Below W2.heap.size W2 (wr.drewN k)) := fun k => below_draws hbr k
            have BA : Hid (∀ k o, Below W2.heap.size W2 ((wr.drewN k).alloc o)) := fun k o => (below_draws hbr k).alloc hbr.size o
            have B1 : Hid (∀ k o, Below wr.heap.size wr ((wr.drewN k).alloc o)) := fun k o => (below_draws (Below.refl _ _) k).alloc (Nat.le_refl _) o
            have OA : Hid (∀ k o, ((wr.drewN k).alloc o).ownsRow W2.heap.size 59 34 u8 out.length (conCells out)) := fun k o => own_below hown (B1.out k o) (Nat.le_refl _)
            rcases Bk.less_total (cname x) (cname y) with hlt | hlt | hlt
            · have hst := mrg_lt (us := us) (vs := vs) hlt
              have HST := Lib.hid hst; clear hst
              have hlt' : Bk.less x.s.data.toList y.s.data.toList = true := hlt
              clear hlt
              rw [if_pos hlt']
              clear hlt'
              have hx34 := x.len kx
              have hn1 : (1 : Int) ≤ n := by omega
              have hnc : (n : Int) ≤ c := by omega
              by_cases hc1 : c = 1
              · obtain rfl : 1 = n := by omega
                obtain rfl : us = [] := List.eq_nil_of_length_eq_zero (by omega)
                subst hc1
                go_wp2_with fail
                go_region_held3 (fun W => (ldS (.pointer (some ⟨b, o, none⟩))).run Tryd.prog W = .ok (.agg x.c.toArray) W) (first | exact HL.out _ (BD.out (nq + 1)) | exact HL.out _ (BA.out _ _) | exact HL.out _ (by assumption))
                  (first
                    | (rw [if_pos (by rfl)]
                       refine wp_app (.tmp 52) _ _ (by rfl) W2.heap.size 59 i1 _ 34 56 Tryd.underlying48 hj hy0 hy1 hy2 rfl (by omega) _ _ _ (by rfl) (OA.out _ _) (some ⟨wr.heap.size, 0, none⟩) 1 1 (conCells [x]) (by rfl) (rd_built _ x kx _ rfl) (conCells_one _) (by unfold maxLen; omega) (by omega) (BA.out _ _).size ?_
                       intro v3 W3 hown3 hbl3 _ _
                       have hb3 : Below W2.heap.size W2 W3 := (BA.out _ _).trans hbl3))
                rw [← conCells_append] at hown3
                have hl1 : out.length + 1 = (out ++ [x]).length := by simp
                rw [hl1] at hown3
                have hmr3 : (out ++ [x]) ++ mrg [] (y :: vs) = mrg xs ys := by rw [← hmr.out, HST.out]; simp
                have hok3 : ∀ u ∈ out ++ [x], u.K.length = 32 := fun u hu => by
                  rcases List.mem_append.1 hu with h | h
                  · exact hok.out u h
                  · rw [List.mem_singleton.1 h]; exact kx
                have hl80 : (out ++ [x]).length ≤ 80 := by
                  have h1 := congrArg List.length hmr3
                  have h2 := mrg_len xs ys
                  have h3 := SX.out.few
                  have h4 := SY.out.few
                  rw [List.length_append] at h1
                  unfold mrg at h1 h2
                  omega
                clear hl1
                go_wp2_with fail
                go_roundw
                case rel => first
                  | exact ⟨[], (y :: vs), out ++ [x], 0, 0, m, c2, (some ⟨b, o, none⟩), (some ⟨b', o', none⟩), rfl, rfl, (htx0 (by simp)), hy, ⟨by omega, by omega, fun h => by cases h⟩, hyc, hown3, hb3, hmr3, ⟨hso.out.1.tail, hso.out.2⟩, hok3, hl80⟩
                  | ((repeat apply Exists.intro); exact ⟨⟨[], (y :: vs), out ++ [x], 0, 0, m, c2, (some ⟨b, o, none⟩), (some ⟨b', o', none⟩), rfl, rfl, (htx0 (by simp)), hy, ⟨by omega, by omega, fun h => by cases h⟩, hyc, hown3, hb3, hmr3, ⟨hso.out.1.tail, hso.out.2⟩, hok3, hl80⟩, rfl⟩)
                case measure => simp [lenOf] <;> omega
              · have hc2 : (1 : Int) < c := by omega
                go_wp2_with fail
                go_region_held3 (fun W => (ldS (.pointer (some ⟨b, o, none⟩))).run Tryd.prog W = .ok (.agg x.c.toArray) W) (first | exact HL.out _ (BD.out (nq + 1)) | exact HL.out _ (BA.out _ _) | exact HL.out _ (by assumption))
                  (first
                    | (rw [if_pos (by rfl)]
                       refine wp_app (.tmp 52) _ _ (by rfl) W2.heap.size 59 i1 _ 34 56 Tryd.underlying48 hj hy0 hy1 hy2 rfl (by omega) _ _ _ (by rfl) (OA.out _ _) (some ⟨wr.heap.size, 0, none⟩) 1 1 (conCells [x]) (by rfl) (rd_built _ x kx _ rfl) (conCells_one _) (by unfold maxLen; omega) (by omega) (BA.out _ _).size ?_
                       intro v3 W3 hown3 hbl3 _ _
                       have hb3 : Below W2.heap.size W2 W3 := (BA.out _ _).trans hbl3))
                rw [← conCells_append] at hown3
                have hl1 : out.length + 1 = (out ++ [x]).length := by simp
                rw [hl1] at hown3
                have hmr3 : (out ++ [x]) ++ mrg us (y :: vs) = mrg xs ys := by rw [← hmr.out, HST.out]; simp
                have hok3 : ∀ u ∈ out ++ [x], u.K.length = 32 := fun u hu => by
                  rcases List.mem_append.1 hu with h | h
                  · exact hok.out u h
                  · rw [List.mem_singleton.1 h]; exact kx
                have hl80 : (out ++ [x]).length ≤ 80 := by
                  have h1 := congrArg List.length hmr3
                  have h2 := mrg_len xs ys
                  have h3 := SX.out.few
                  have h4 := SY.out.few
                  rw [List.length_append] at h1
                  unfold mrg at h1 h2
                  omega
                clear hl1
                go_wp2_with fail
                go_roundw
                case rel => first
                  | exact ⟨us, (y :: vs), out ++ [x], (n - 1), (c - 1), m, c2, (some ⟨b, o + 34, none⟩), (some ⟨b', o', none⟩), rfl, rfl, htx, hy, ⟨by omega, by omega, fun h => by cases h⟩, hyc, hown3, hb3, hmr3, ⟨hso.out.1.tail, hso.out.2⟩, hok3, hl80⟩
                  | ((repeat apply Exists.intro); exact ⟨⟨us, (y :: vs), out ++ [x], (n - 1), (c - 1), m, c2, (some ⟨b, o + 34, none⟩), (some ⟨b', o', none⟩), rfl, rfl, htx, hy, ⟨by omega, by omega, fun h => by cases h⟩, hyc, hown3, hb3, hmr3, ⟨hso.out.1.tail, hso.out.2⟩, hok3, hl80⟩, rfl⟩)
                case measure => simp [lenOf] <;> omega
            · have hst := mrg_eq (us := us) (vs := vs) hlt
              have HST := Lib.hid hst; clear hst
              have hss : x.s = y.s := by
                have h1 : x.s.data.toList = y.s.data.toList := hlt
                have h2 := congrArg List.toArray h1
                simp at h2
                exact ByteArray.ext h2
              have hl1' : ¬ Bk.less x.s.data.toList y.s.data.toList = true := by rw [hss, Bk.less_irrefl]; simp
              have hl2' : ¬ Bk.less y.s.data.toList x.s.data.toList = true := by rw [hss, Bk.less_irrefl]; simp
              rw [if_neg hl1', if_neg hl2']
              obtain ⟨lx1, lx4⟩ := hso.out.1.lv x (by simp)
              obtain ⟨ly1, ly4⟩ := hso.out.2.lv y (by simp)
              have HSS := Lib.hid hss
              clear hlt hl1' hl2' hss
              have kO : (oneCon x y).K.length = 32 := oneCon_key kx ky
              have hO34 := (oneCon x y).len kO
              have hn1 : (1 : Int) ≤ n := by omega
              have hnc : (n : Int) ≤ c := by omega
              have hm1 : (1 : Int) ≤ m := by omega
              have hmc : (m : Int) ≤ c2 := by omega
              by_cases hc1 : c = 1
              · obtain rfl : 1 = n := by omega
                obtain rfl : us = [] := List.eq_nil_of_length_eq_zero (by omega)
                subst hc1
                by_cases hc2 : c2 = 1
                · obtain rfl : 1 = m := by omega
                  obtain rfl : vs = [] := List.eq_nil_of_length_eq_zero (by omega)
                  subst hc2
                  go_wp2_with fail
                  go_region_held3 (fun W => ((ldS (.pointer (some ⟨b, o, none⟩))).run Tryd.prog W = .ok (.agg x.c.toArray) W) ∧ ((ldS (.pointer (some ⟨b', o', none⟩))).run Tryd.prog W = .ok (.agg y.c.toArray) W)) (first | exact ⟨HL.out _ (BD.out (nq + 1)), HL'.out _ (BD.out (nq + 1))⟩ | exact ⟨HL.out _ (by assumption), HL'.out _ (by assumption)⟩ | exact ⟨HL.out _ (BA5.out _), HL'.out _ (BA5.out _)⟩)
                    (first
                      | (go_at_call 73
                         refine (both_any x y _ kx ky HSS.out lx1 lx4 ly1 ly4).mono ?_
                         rintro e W5 ⟨rfl, hb5⟩
                         have hbW5 : Below W2.heap.size W2 W5 := (BD.out _).trans (hb5.mono (BD.out _).size)
                         have BA5 : Hid (∀ o, Below W2.heap.size W2 (W5.alloc o)) := fun o => hbW5.alloc hbW5.size o
                         have hw5 : Below wr.heap.size wr W5 := (below_draws (Below.refl _ _) _).trans hb5
                         have OA5 : Hid (∀ o, (W5.alloc o).ownsRow W2.heap.size 59 34 u8 out.length (conCells out)) := fun o => (own_below hown hw5 (Nat.le_refl _)).alloc o)
                      | (rw [if_pos (by rfl)]
                         refine wp_app (.tmp 36) _ _ (by rfl) W2.heap.size 59 i1 _ 34 56 Tryd.underlying48 hj hy0 hy1 hy2 rfl (by omega) _ _ _ (by rfl) (OA5.out _) (some ⟨W5.heap.size, 0, none⟩) 1 1 (conCells [(oneCon x y)]) (by rfl) (rd_built _ (oneCon x y) kO _ rfl) (conCells_one _) (by unfold maxLen; omega) (by omega) (BA5.out _).size ?_
                         intro v3 W3 hown3 hbl3 _ _
                         have hb3 : Below W2.heap.size W2 W3 := (BA5.out _).trans hbl3))
                  rw [← conCells_append] at hown3
                  have hl1 : out.length + 1 = (out ++ [(oneCon x y)]).length := by simp
                  rw [hl1] at hown3
                  have hmr3 : (out ++ [(oneCon x y)]) ++ mrg [] [] = mrg xs ys := by rw [← hmr.out, HST.out]; simp
                  have hok3 : ∀ u ∈ out ++ [(oneCon x y)], u.K.length = 32 := fun u hu => by
                    rcases List.mem_append.1 hu with h | h
                    · exact hok.out u h
                    · rw [List.mem_singleton.1 h]; exact kO
                  have hl80 : (out ++ [(oneCon x y)]).length ≤ 80 := by
                    have h1 := congrArg List.length hmr3
                    have h2 := mrg_len xs ys
                    have h3 := SX.out.few
                    have h4 := SY.out.few
                    rw [List.length_append] at h1
                    unfold mrg at h1 h2
                    omega
                  clear hl1
                  go_wp2_with fail
                  go_roundw
                  case rel => first
                    | exact ⟨[], [], out ++ [(oneCon x y)], 0, 0, 0, 0, (some ⟨b, o, none⟩), (some ⟨b', o', none⟩), rfl, rfl, (htx0 (by simp)), (hty0 (by simp)), ⟨by omega, by omega, fun h => by cases h⟩, ⟨by omega, by omega, fun h => by cases h⟩, hown3, hb3, hmr3, ⟨hso.out.1.tail, hso.out.2.tail⟩, hok3, hl80⟩
                    | ((repeat apply Exists.intro); exact ⟨⟨[], [], out ++ [(oneCon x y)], 0, 0, 0, 0, (some ⟨b, o, none⟩), (some ⟨b', o', none⟩), rfl, rfl, (htx0 (by simp)), (hty0 (by simp)), ⟨by omega, by omega, fun h => by cases h⟩, ⟨by omega, by omega, fun h => by cases h⟩, hown3, hb3, hmr3, ⟨hso.out.1.tail, hso.out.2.tail⟩, hok3, hl80⟩, rfl⟩)
                  case measure => simp [lenOf] <;> omega
                · have hc3 : (1 : Int) < c2 := by omega
                  go_wp2_with fail
                  go_region_held3 (fun W => ((ldS (.pointer (some ⟨b, o, none⟩))).run Tryd.prog W = .ok (.agg x.c.toArray) W) ∧ ((ldS (.pointer (some ⟨b', o', none⟩))).run Tryd.prog W = .ok (.agg y.c.toArray) W)) (first | exact ⟨HL.out _ (BD.out (nq + 1)), HL'.out _ (BD.out (nq + 1))⟩ | exact ⟨HL.out _ (by assumption), HL'.out _ (by assumption)⟩ | exact ⟨HL.out _ (BA5.out _), HL'.out _ (BA5.out _)⟩)
                    (first
                      | (go_at_call 73
                         refine (both_any x y _ kx ky HSS.out lx1 lx4 ly1 ly4).mono ?_
                         rintro e W5 ⟨rfl, hb5⟩
                         have hbW5 : Below W2.heap.size W2 W5 := (BD.out _).trans (hb5.mono (BD.out _).size)
                         have BA5 : Hid (∀ o, Below W2.heap.size W2 (W5.alloc o)) := fun o => hbW5.alloc hbW5.size o
                         have hw5 : Below wr.heap.size wr W5 := (below_draws (Below.refl _ _) _).trans hb5
                         have OA5 : Hid (∀ o, (W5.alloc o).ownsRow W2.heap.size 59 34 u8 out.length (conCells out)) := fun o => (own_below hown hw5 (Nat.le_refl _)).alloc o)
                      | (rw [if_pos (by rfl)]
                         refine wp_app (.tmp 36) _ _ (by rfl) W2.heap.size 59 i1 _ 34 56 Tryd.underlying48 hj hy0 hy1 hy2 rfl (by omega) _ _ _ (by rfl) (OA5.out _) (some ⟨W5.heap.size, 0, none⟩) 1 1 (conCells [(oneCon x y)]) (by rfl) (rd_built _ (oneCon x y) kO _ rfl) (conCells_one _) (by unfold maxLen; omega) (by omega) (BA5.out _).size ?_
                         intro v3 W3 hown3 hbl3 _ _
                         have hb3 : Below W2.heap.size W2 W3 := (BA5.out _).trans hbl3))
                  rw [← conCells_append] at hown3
                  have hl1 : out.length + 1 = (out ++ [(oneCon x y)]).length := by simp
                  rw [hl1] at hown3
                  have hmr3 : (out ++ [(oneCon x y)]) ++ mrg [] vs = mrg xs ys := by rw [← hmr.out, HST.out]; simp
                  have hok3 : ∀ u ∈ out ++ [(oneCon x y)], u.K.length = 32 := fun u hu => by
                    rcases List.mem_append.1 hu with h | h
                    · exact hok.out u h
                    · rw [List.mem_singleton.1 h]; exact kO
                  have hl80 : (out ++ [(oneCon x y)]).length ≤ 80 := by
                    have h1 := congrArg List.length hmr3
                    have h2 := mrg_len xs ys
                    have h3 := SX.out.few
                    have h4 := SY.out.few
                    rw [List.length_append] at h1
                    unfold mrg at h1 h2
                    omega
                  clear hl1
                  go_wp2_with fail
                  go_roundw
                  case rel => first
                    | exact ⟨[], vs, out ++ [(oneCon x y)], 0, 0, (m - 1), (c2 - 1), (some ⟨b, o, none⟩), (some ⟨b', o' + 34, none⟩), rfl, rfl, (htx0 (by simp)), hty, ⟨by omega, by omega, fun h => by cases h⟩, ⟨by omega, by omega, fun h => by cases h⟩, hown3, hb3, hmr3, ⟨hso.out.1.tail, hso.out.2.tail⟩, hok3, hl80⟩
                    | ((repeat apply Exists.intro); exact ⟨⟨[], vs, out ++ [(oneCon x y)], 0, 0, (m - 1), (c2 - 1), (some ⟨b, o, none⟩), (some ⟨b', o' + 34, none⟩), rfl, rfl, (htx0 (by simp)), hty, ⟨by omega, by omega, fun h => by cases h⟩, ⟨by omega, by omega, fun h => by cases h⟩, hown3, hb3, hmr3, ⟨hso.out.1.tail, hso.out.2.tail⟩, hok3, hl80⟩, rfl⟩)
                  case measure => simp [lenOf] <;> omega
              · have hc4 : (1 : Int) < c := by omega
                by_cases hc2 : c2 = 1
                · obtain rfl : 1 = m := by omega
                  obtain rfl : vs = [] := List.eq_nil_of_length_eq_zero (by omega)
                  subst hc2
                  go_wp2_with fail
                  go_region_held3 (fun W => ((ldS (.pointer (some ⟨b, o, none⟩))).run Tryd.prog W = .ok (.agg x.c.toArray) W) ∧ ((ldS (.pointer (some ⟨b', o', none⟩))).run Tryd.prog W = .ok (.agg y.c.toArray) W)) (first | exact ⟨HL.out _ (BD.out (nq + 1)), HL'.out _ (BD.out (nq + 1))⟩ | exact ⟨HL.out _ (by assumption), HL'.out _ (by assumption)⟩ | exact ⟨HL.out _ (BA5.out _), HL'.out _ (BA5.out _)⟩)
                    (first
                      | (go_at_call 73
                         refine (both_any x y _ kx ky HSS.out lx1 lx4 ly1 ly4).mono ?_
                         rintro e W5 ⟨rfl, hb5⟩
                         have hbW5 : Below W2.heap.size W2 W5 := (BD.out _).trans (hb5.mono (BD.out _).size)
                         have BA5 : Hid (∀ o, Below W2.heap.size W2 (W5.alloc o)) := fun o => hbW5.alloc hbW5.size o
                         have hw5 : Below wr.heap.size wr W5 := (below_draws (Below.refl _ _) _).trans hb5
                         have OA5 : Hid (∀ o, (W5.alloc o).ownsRow W2.heap.size 59 34 u8 out.length (conCells out)) := fun o => (own_below hown hw5 (Nat.le_refl _)).alloc o)
                      | (rw [if_pos (by rfl)]
                         refine wp_app (.tmp 36) _ _ (by rfl) W2.heap.size 59 i1 _ 34 56 Tryd.underlying48 hj hy0 hy1 hy2 rfl (by omega) _ _ _ (by rfl) (OA5.out _) (some ⟨W5.heap.size, 0, none⟩) 1 1 (conCells [(oneCon x y)]) (by rfl) (rd_built _ (oneCon x y) kO _ rfl) (conCells_one _) (by unfold maxLen; omega) (by omega) (BA5.out _).size ?_
                         intro v3 W3 hown3 hbl3 _ _
                         have hb3 : Below W2.heap.size W2 W3 := (BA5.out _).trans hbl3))
                  rw [← conCells_append] at hown3
                  have hl1 : out.length + 1 = (out ++ [(oneCon x y)]).length := by simp
                  rw [hl1] at hown3
                  have hmr3 : (out ++ [(oneCon x y)]) ++ mrg us [] = mrg xs ys := by rw [← hmr.out, HST.out]; simp
                  have hok3 : ∀ u ∈ out ++ [(oneCon x y)], u.K.length = 32 := fun u hu => by
                    rcases List.mem_append.1 hu with h | h
                    · exact hok.out u h
                    · rw [List.mem_singleton.1 h]; exact kO
                  have hl80 : (out ++ [(oneCon x y)]).length ≤ 80 := by
                    have h1 := congrArg List.length hmr3
                    have h2 := mrg_len xs ys
                    have h3 := SX.out.few
                    have h4 := SY.out.few
                    rw [List.length_append] at h1
                    unfold mrg at h1 h2
                    omega
                  clear hl1
                  go_wp2_with fail
                  go_roundw
                  case rel => first
                    | exact ⟨us, [], out ++ [(oneCon x y)], (n - 1), (c - 1), 0, 0, (some ⟨b, o + 34, none⟩), (some ⟨b', o', none⟩), rfl, rfl, htx, (hty0 (by simp)), ⟨by omega, by omega, fun h => by cases h⟩, ⟨by omega, by omega, fun h => by cases h⟩, hown3, hb3, hmr3, ⟨hso.out.1.tail, hso.out.2.tail⟩, hok3, hl80⟩
                    | ((repeat apply Exists.intro); exact ⟨⟨us, [], out ++ [(oneCon x y)], (n - 1), (c - 1), 0, 0, (some ⟨b, o + 34, none⟩), (some ⟨b', o', none⟩), rfl, rfl, htx, (hty0 (by simp)), ⟨by omega, by omega, fun h => by cases h⟩, ⟨by omega, by omega, fun h => by cases h⟩, hown3, hb3, hmr3, ⟨hso.out.1.tail, hso.out.2.tail⟩, hok3, hl80⟩, rfl⟩)
                  case measure => simp [lenOf] <;> omega
                · have hc3 : (1 : Int) < c2 := by omega
                  go_wp2_with fail
                  go_region_held3 (fun W => ((ldS (.pointer (some ⟨b, o, none⟩))).run Tryd.prog W = .ok (.agg x.c.toArray) W) ∧ ((ldS (.pointer (some ⟨b', o', none⟩))).run Tryd.prog W = .ok (.agg y.c.toArray) W)) (first | exact ⟨HL.out _ (BD.out (nq + 1)), HL'.out _ (BD.out (nq + 1))⟩ | exact ⟨HL.out _ (by assumption), HL'.out _ (by assumption)⟩ | exact ⟨HL.out _ (BA5.out _), HL'.out _ (BA5.out _)⟩)
                    (first
                      | (go_at_call 73
                         refine (both_any x y _ kx ky HSS.out lx1 lx4 ly1 ly4).mono ?_
                         rintro e W5 ⟨rfl, hb5⟩
                         have hbW5 : Below W2.heap.size W2 W5 := (BD.out _).trans (hb5.mono (BD.out _).size)
                         have BA5 : Hid (∀ o, Below W2.heap.size W2 (W5.alloc o)) := fun o => hbW5.alloc hbW5.size o
                         have hw5 : Below wr.heap.size wr W5 := (below_draws (Below.refl _ _) _).trans hb5
                         have OA5 : Hid (∀ o, (W5.alloc o).ownsRow W2.heap.size 59 34 u8 out.length (conCells out)) := fun o => (own_below hown hw5 (Nat.le_refl _)).alloc o)
                      | (rw [if_pos (by rfl)]
                         refine wp_app (.tmp 36) _ _ (by rfl) W2.heap.size 59 i1 _ 34 56 Tryd.underlying48 hj hy0 hy1 hy2 rfl (by omega) _ _ _ (by rfl) (OA5.out _) (some ⟨W5.heap.size, 0, none⟩) 1 1 (conCells [(oneCon x y)]) (by rfl) (rd_built _ (oneCon x y) kO _ rfl) (conCells_one _) (by unfold maxLen; omega) (by omega) (BA5.out _).size ?_
                         intro v3 W3 hown3 hbl3 _ _
                         have hb3 : Below W2.heap.size W2 W3 := (BA5.out _).trans hbl3))
                  rw [← conCells_append] at hown3
                  have hl1 : out.length + 1 = (out ++ [(oneCon x y)]).length := by simp
                  rw [hl1] at hown3
                  have hmr3 : (out ++ [(oneCon x y)]) ++ mrg us vs = mrg xs ys := by rw [← hmr.out, HST.out]; simp
                  have hok3 : ∀ u ∈ out ++ [(oneCon x y)], u.K.length = 32 := fun u hu => by
                    rcases List.mem_append.1 hu with h | h
                    · exact hok.out u h
                    · rw [List.mem_singleton.1 h]; exact kO
                  have hl80 : (out ++ [(oneCon x y)]).length ≤ 80 := by
                    have h1 := congrArg List.length hmr3
                    have h2 := mrg_len xs ys
                    have h3 := SX.out.few
                    have h4 := SY.out.few
                    rw [List.length_append] at h1
                    unfold mrg at h1 h2
                    omega
                  clear hl1
                  go_wp2_with fail
                  go_roundw
                  case rel => first
                    | exact ⟨us, vs, out ++ [(oneCon x y)], (n - 1), (c - 1), (m - 1), (c2 - 1), (some ⟨b, o + 34, none⟩), (some ⟨b', o' + 34, none⟩), rfl, rfl, htx, hty, ⟨by omega, by omega, fun h => by cases h⟩, ⟨by omega, by omega, fun h => by cases h⟩, hown3, hb3, hmr3, ⟨hso.out.1.tail, hso.out.2.tail⟩, hok3, hl80⟩
                    | ((repeat apply Exists.intro); exact ⟨⟨us, vs, out ++ [(oneCon x y)], (n - 1), (c - 1), (m - 1), (c2 - 1), (some ⟨b, o + 34, none⟩), (some ⟨b', o' + 34, none⟩), rfl, rfl, htx, hty, ⟨by omega, by omega, fun h => by cases h⟩, ⟨by omega, by omega, fun h => by cases h⟩, hown3, hb3, hmr3, ⟨hso.out.1.tail, hso.out.2.tail⟩, hok3, hl80⟩, rfl⟩)
                  case measure => simp [lenOf] <;> omega
            · have hst := mrg_gt (us := us) (vs := vs) hlt
              have HST := Lib.hid hst; clear hst
              have hlt' : Bk.less y.s.data.toList x.s.data.toList = true := hlt
              have hlt2 : ¬ Bk.less x.s.data.toList y.s.data.toList = true := by rw [Bk.less_asymm hlt']; simp
              clear hlt
              rw [if_neg hlt2, if_pos hlt']
              clear hlt' hlt2
              have hy34 := y.len ky
              have hn1 : (1 : Int) ≤ m := by omega
              have hnc : (m : Int) ≤ c2 := by omega
              by_cases hc1 : c2 = 1
              · obtain rfl : 1 = m := by omega
                obtain rfl : vs = [] := List.eq_nil_of_length_eq_zero (by omega)
                subst hc1
                go_wp2_with fail
                go_region_held3 (fun W => (ldS (.pointer (some ⟨b', o', none⟩))).run Tryd.prog W = .ok (.agg y.c.toArray) W) (first | exact HL'.out _ (BD.out (nq + 1)) | exact HL'.out _ (BA.out _ _) | exact HL'.out _ (by assumption))
                  (first
                    | (rw [if_pos (by rfl)]
                       refine wp_app (.tmp 62) _ _ (by rfl) W2.heap.size 59 i1 _ 34 56 Tryd.underlying48 hj hy0 hy1 hy2 rfl (by omega) _ _ _ (by rfl) (OA.out _ _) (some ⟨wr.heap.size, 0, none⟩) 1 1 (conCells [y]) (by rfl) (rd_built _ y ky _ rfl) (conCells_one _) (by unfold maxLen; omega) (by omega) (BA.out _ _).size ?_
                       intro v3 W3 hown3 hbl3 _ _
                       have hb3 : Below W2.heap.size W2 W3 := (BA.out _ _).trans hbl3))
                rw [← conCells_append] at hown3
                have hl1 : out.length + 1 = (out ++ [y]).length := by simp
                rw [hl1] at hown3
                have hmr3 : (out ++ [y]) ++ mrg (x :: us) [] = mrg xs ys := by rw [← hmr.out, HST.out]; simp
                have hok3 : ∀ u ∈ out ++ [y], u.K.length = 32 := fun u hu => by
                  rcases List.mem_append.1 hu with h | h
                  · exact hok.out u h
                  · rw [List.mem_singleton.1 h]; exact ky
                have hl80 : (out ++ [y]).length ≤ 80 := by
                  have h1 := congrArg List.length hmr3
                  have h2 := mrg_len xs ys
                  have h3 := SX.out.few
                  have h4 := SY.out.few
                  rw [List.length_append] at h1
                  unfold mrg at h1 h2
                  omega
                clear hl1
                go_wp2_with fail
                go_roundw
                case rel => first
                  | exact ⟨(x :: us), [], out ++ [y], n, c, 0, 0, (some ⟨b, o, none⟩), (some ⟨b', o', none⟩), rfl, rfl, hx, (hty0 (by simp)), hxc, ⟨by omega, by omega, fun h => by cases h⟩, hown3, hb3, hmr3, ⟨hso.out.1, hso.out.2.tail⟩, hok3, hl80⟩
                  | ((repeat apply Exists.intro); exact ⟨⟨(x :: us), [], out ++ [y], n, c, 0, 0, (some ⟨b, o, none⟩), (some ⟨b', o', none⟩), rfl, rfl, hx, (hty0 (by simp)), hxc, ⟨by omega, by omega, fun h => by cases h⟩, hown3, hb3, hmr3, ⟨hso.out.1, hso.out.2.tail⟩, hok3, hl80⟩, rfl⟩)
                case measure => simp [lenOf] <;> omega
              · have hc2 : (1 : Int) < c2 := by omega
                go_wp2_with fail
                go_region_held3 (fun W => (ldS (.pointer (some ⟨b', o', none⟩))).run Tryd.prog W = .ok (.agg y.c.toArray) W) (first | exact HL'.out _ (BD.out (nq + 1)) | exact HL'.out _ (BA.out _ _) | exact HL'.out _ (by assumption))
                  (first
                    | (rw [if_pos (by rfl)]
                       refine wp_app (.tmp 62) _ _ (by rfl) W2.heap.size 59 i1 _ 34 56 Tryd.underlying48 hj hy0 hy1 hy2 rfl (by omega) _ _ _ (by rfl) (OA.out _ _) (some ⟨wr.heap.size, 0, none⟩) 1 1 (conCells [y]) (by rfl) (rd_built _ y ky _ rfl) (conCells_one _) (by unfold maxLen; omega) (by omega) (BA.out _ _).size ?_
                       intro v3 W3 hown3 hbl3 _ _
                       have hb3 : Below W2.heap.size W2 W3 := (BA.out _ _).trans hbl3))
                rw [← conCells_append] at hown3
                have hl1 : out.length + 1 = (out ++ [y]).length := by simp
                rw [hl1] at hown3
                have hmr3 : (out ++ [y]) ++ mrg (x :: us) vs = mrg xs ys := by rw [← hmr.out, HST.out]; simp
                have hok3 : ∀ u ∈ out ++ [y], u.K.length = 32 := fun u hu => by
                  rcases List.mem_append.1 hu with h | h
                  · exact hok.out u h
                  · rw [List.mem_singleton.1 h]; exact ky
                have hl80 : (out ++ [y]).length ≤ 80 := by
                  have h1 := congrArg List.length hmr3
                  have h2 := mrg_len xs ys
                  have h3 := SX.out.few
                  have h4 := SY.out.few
                  rw [List.length_append] at h1
                  unfold mrg at h1 h2
                  omega
                clear hl1
                go_wp2_with fail
                go_roundw
                case rel => first
                  | exact ⟨(x :: us), vs, out ++ [y], n, c, (m - 1), (c2 - 1), (some ⟨b, o, none⟩), (some ⟨b', o' + 34, none⟩), rfl, rfl, hx, hty, hxc, ⟨by omega, by omega, fun h => by cases h⟩, hown3, hb3, hmr3, ⟨hso.out.1, hso.out.2.tail⟩, hok3, hl80⟩
                  | ((repeat apply Exists.intro); exact ⟨⟨(x :: us), vs, out ++ [y], n, c, (m - 1), (c2 - 1), (some ⟨b, o, none⟩), (some ⟨b', o' + 34, none⟩), rfl, rfl, hx, hty, hxc, ⟨by omega, by omega, fun h => by cases h⟩, hown3, hb3, hmr3, ⟨hso.out.1, hso.out.2.tail⟩, hok3, hl80⟩, rfl⟩)
                case measure => simp [lenOf] <;> omega
    · have hj : joinFault xs ys = fault ys := by unfold joinFault; rw [if_neg (by simp [f1]), if_pos f2]
      have HJ := Lib.hid hj; clear hj
      have e1 : errV (errOf (fault xs)) = .nilIface := by rw [f1]; rfl
      have e2 : errV (errOf (fault ys)) = .iface 51 (.int .i64 (fault ys)) := by unfold errOf; rw [if_neg f2]; rfl
      have E2 := Lib.hid e2
      go_enter Tryd.func21, Tryd.ntmps21
      go_wp2_with fail
      refine (check_any xs n c A _ hx hsx).mono ?_
      rintro e W1 ⟨rfl, hb1⟩
      rw [e1]
      go_wp2_with fail
      refine (check_any ys m c2 A2 _ (hy.below hb1 (Nat.le_refl _)) hsy).mono ?_
      rintro e W2 ⟨rfl, hb2⟩
      rw [e2]
      clear e1 e2
      go_wp2_with fail
      go_ret2
      exact ⟨_, by rw [HJ.out, E2.out]; rfl, by rw [joinOf_bad (by rw [HJ.out]; exact f2)]; exact own_nil34 _ _, hb1.trans (hb2.mono hb1.size)⟩
  · have hj : joinFault xs ys = fault xs := by unfold joinFault; rw [if_pos f1]
    have HJ := Lib.hid hj; clear hj
    have e1 : errV (errOf (fault xs)) = .iface 51 (.int .i64 (fault xs)) := by unfold errOf; rw [if_neg f1]; rfl
    have E1 := Lib.hid e1
    go_enter Tryd.func21, Tryd.ntmps21
    go_wp2_with fail
    refine (check_any xs n c A _ hx hsx).mono ?_
    rintro e W1 ⟨rfl, hb1⟩
    rw [e1]
    clear e1
    go_wp2_with fail
    go_ret2
    exact ⟨_, by rw [HJ.out, E1.out]; rfl, by rw [joinOf_bad (by rw [HJ.out]; exact f1)]; exact own_nil34 _ _, hb1⟩
end Go.Proofs.YtddehjgmmeoboaaDoor
