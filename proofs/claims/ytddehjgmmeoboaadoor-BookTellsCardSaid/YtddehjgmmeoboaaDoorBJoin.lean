/- The walk of the reference's BookJoin. -/
import Derived.Test.YtddehjgmmeoboaaDoorConCells
namespace Go.Proofs.YtddehjgmmeoboaaDoor
open Go.RowKit
set_option maxRecDepth 8000

theorem own_nil34 (w : World) (base : Nat) : w.ownsRow base 59 34 (.slice none 0 0) 0 (conCells []) := World.ownsRow_nil _ _ _ _
/-- What a join tells: the book, owned. -/
def Joined (w w' : World) (v : Value) (xs ys : List Con) : Prop := w'.ownsRow w.heap.size 59 34 v (joinOf xs ys).length (conCells (joinOf xs ys)) ∧ Below w.heap.size w w'
theorem joinOf_bad {xs ys : List Con} (h : joinFault xs ys ≠ 0) : joinOf xs ys = [] := by unfold joinOf; rw [if_neg h]

/-- What a slice lacks to n. -/
def restOf (n : Nat) : Value → Nat
  | .slice _ k _ => n - k
  | _ => 0
theorem own_empty34 (w : World) : (w.alloc (.cells #[] 59)).ownsRow w.heap.size 59 34 (.slice (some ⟨w.heap.size, 0, none⟩) 0 0) 0 (conCells []) :=
  ⟨rfl, .inr ⟨w.heap.size, 0, #[], rfl, Nat.le_refl _, heap_alloc_new w _, Nat.le_refl _, by unfold maxLen; omega, rfl, rfl⟩⟩
theorem known_key {xs : List Con} (h : ∀ x ∈ xs, x.K.length = 32) (t : List UInt8) : ((Bk.known cname xs t).getD Con.z).K.length = 32 := by
  cases hk : Bk.known cname xs t with
  | none => rfl
  | some x => exact h x (List.mem_of_find?_eq_some hk)
set_option maxHeartbeats 2000000 in
theorem bookJoin_any (xs ys : List Con) (n c m c2 : Nat) (A A2 : Option Addr) (w : World) (hx : RdCons w A n xs) (hxc : n ≤ c ∧ c ≤ maxLen ∧ (A = none → c = 0)) (hy : RdCons w A2 m ys) (hyc : m ≤ c2 ∧ c2 ≤ maxLen ∧ (A2 = none → c2 = 0))
    (hsx : ∀ x ∈ xs, x.s.size ≤ maxLen) (hsy : ∀ x ∈ ys, x.s.size ≤ maxLen) :
    Calls Tryd.prog 20 #[.slice A n c, .slice A2 m c2] w fun e w' => ∃ v, e = .returned (.tuple #[v, .int .i64 (joinFault xs ys)]) ∧ Joined w w' v xs ys := by
  obtain ⟨i1, hj, hy0, hy1, hy2⟩ := info_parts Tryd.infoConA
  have hl := hx.len
  have hl2 := hy.len
  have HLX := Lib.hid hl; clear hl
  have HLY := Lib.hid hl2; clear hl2
  by_cases f1 : fault xs = 0
  · by_cases f2 : fault ys = 0
    · have SX := Lib.hid (sound_of f1)
      have SY := Lib.hid (sound_of f2)
      have hn40 : n ≤ 40 := by have := SX.out.few; rw [HLX.out] at this; exact this
      have hm40 : m ≤ 40 := by have := SY.out.few; rw [HLY.out] at this; exact this
      go_enter Tryd.func20, Tryd.ntmps20
      go_wp2_with fail
      refine (bookFault_any xs n c A _ hx hsx).mono ?_
      rintro e W1 ⟨rfl, hb1⟩
      rw [f1]
      go_wp2_with fail
      refine (bookFault_any ys m c2 A2 _ (hy.below hb1 (Nat.le_refl _)) hsy).mono ?_
      rintro e W2 ⟨rfl, hb2⟩
      rw [f2]
      have hbw := hb1.trans (hb2.mono hb1.size)
      have F1 := Lib.hid f1; clear f1
      have F2 := Lib.hid f2; clear f2
      go_wp2_with fail
      go_loopw [7, 8] (fun vo la wr => ∃ (out : List Con) (last : ByteArray), la = .string last ∧ wr.ownsRow W2.heap.size 59 34 vo out.length (conCells out) ∧ Below W2.heap.size W2 wr ∧ Hid (Bk.St cname oneCon xs ys last.data.toList out) ∧ Hid (∀ x ∈ out, x.K.length = 32) ∧ last.size ≤ maxLen ∧ out.length ≤ 80) (fun vo _ _ => restOf (mrg xs ys).length vo)
      case atStart => exact ⟨[], ByteArray.empty, rfl, own_nil34 _ _, Below.refl _ _, Bk.St.start (fun x hx => named_ne (SX.out.nm x hx)) (fun x hx => named_ne (SY.out.nm x hx)), (fun x hx => by cases hx), Nat.zero_le _, Nat.zero_le _⟩
      case round =>
        obtain ⟨out, last, rfl, hown, hbr, hst, hok, hls, ho80⟩ := hrel
        obtain ⟨wo, rfl⟩ : ∃ wo : World, wo = wr := ⟨_, rfl⟩
        have hbwr := hbw.trans (hbr.mono hbw.size)
        have RX := Lib.hid ((hx.below hbwr (Nat.le_refl _)).rd hxc.1 hxc.2.1 hxc.2.2)
        have RY := Lib.hid ((hy.below hbwr (Nat.le_refl _)).rd hyc.1 hyc.2.1 hyc.2.2)
        have BA : Hid (∀ o, Below wo.heap.size wo (wo.alloc o)) := fun o => (Below.refl _ _).alloc (Nat.le_refl _) o
        have OE := Lib.hid (own_empty34 wo)
        go_wp2_with (first
          | (show wpList _ _ _ (⟨_, Op.call { callee := Callee.builtin Builtin.append, args := #[Operand.tmp 26, _], argTypes := _ }, _, _, _, _⟩ :: _) _ _
             go_must (refine list_app (by rfl) _ _ _ (by rfl) wo.heap.size 59 i1 _ 34 56 Tryd.underlying48 hj hy0 hy1 hy2 rfl (by omega) _ 0 _ (by rfl) OE.out A n c _ (by rfl) (RX.out.below' (BA.out _)) (conCells_one _) (by unfold maxLen; omega) (by omega) (BA.out _).size ?_)
             intro v3 W3 hown3 hbl3 _ _
             have hb3 : Below wo.heap.size wo W3 := (BA.out _).trans hbl3
             have RY3 := Lib.hid (RY.out.below' hb3))
          | (show wpList _ _ _ (⟨_, Op.call { callee := Callee.builtin Builtin.append, args := #[Operand.tmp 28, _], argTypes := _ }, _, _, _, _⟩ :: _) _ _
             go_must (refine list_app (by rfl) _ _ _ (by rfl) wo.heap.size 59 i1 _ 34 56 Tryd.underlying48 hj hy0 hy1 hy2 rfl (by omega) _ _ _ (by rfl) hown3 A2 m c2 _ (by rfl) RY3.out (conCells_one _) (by unfold maxLen; omega) (by omega) hb3.size ?_)
             intro v4 W4 hown4 hbl4 _ _
             have hb4 : Below wo.heap.size wo W4 := hb3.trans hbl4))
        rw [Nat.zero_add] at hown4
        have ecc : conCells [] ++ conCells xs ++ conCells ys = conCells (xs ++ ys) := by rw [conCells_append]; rfl
        rw [ecc] at hown4
        clear ecc hown3 hbl3 hbl4 hb3 RY3
        have hzk : Hid (∀ z ∈ xs ++ ys, z.K.length = 32) := fun z hz => by
          rcases List.mem_append.1 hz with h | h
          · exact hx.keys z h
          · exact hy.keys z h
        have hzl : Hid ((xs ++ ys).length = n + m) := by show _ = _; rw [List.length_append, HLX.out, HLY.out]
        have hzs : Hid (∀ z ∈ xs ++ ys, z.s.size ≤ maxLen) := fun z hz => by
          rcases List.mem_append.1 hz with h | h
          · exact hsx z h
          · exact hsy z h
        obtain ⟨Ab, cb, rfl, hrb⟩ := own_rd hown4
        have RB := Lib.hid (hrb.cons hzk.out)
        clear hrb hown4
        go_loopw [9, 11] (fun nv si wr => ∃ (k : Nat) (nx : ByteArray), k ≤ n + m ∧ si = .int .i64 k ∧ nv = .string nx ∧ Below W4.heap.size W4 wr ∧ Hid (nx.data.toList = (((xs ++ ys).map cname).take k).foldl (Bk.step last.data.toList) []) ∧ nx.size ≤ maxLen) (fun _ si _ => n + m - (intOf si).toNat)
        case atStart => exact ⟨0, ByteArray.empty, Nat.zero_le _, rfl, rfl, Below.refl _ _, rfl, Nat.zero_le _⟩
        case round =>
          obtain ⟨k, nx, hk, rfl, rfl, hbk, hnx, hnl⟩ := hrel
          by_cases hlt : k < n + m
          · obtain ⟨ad, rfl, hab, hs0, _, _⟩ := (RB.out.below hbk (Nat.le_refl _)).str hlt
            have hzi : k < (xs ++ ys).length := by rw [hzl.out]; exact hlt
            have hmem : (xs ++ ys).getD k Con.z ∈ xs ++ ys := by
              rw [List.getD_eq_getElem?_getD, List.getElem?_eq_getElem hzi]; exact List.getElem_mem hzi
            have hss := hzs.out _ hmem
            have htk : Hid ((((xs ++ ys).map cname).take (k + 1)).foldl (Bk.step last.data.toList) [] = Bk.step last.data.toList nx.data.toList (cname ((xs ++ ys).getD k Con.z))) := by
              show _ = _
              rw [hnx.out, List.take_add_one, List.getElem?_map, List.getElem?_eq_getElem hzi, List.foldl_append, List.getD_eq_getElem?_getD, List.getElem?_eq_getElem hzi]
              rfl
            have hlt' : (k : Int) < (n : Int) + m := by omega
            generalize (xs ++ ys).getD k Con.z = z at *
            go_wp2_with fail
            refine (refLess_any last z.s _ hls hss).mono ?_
            rintro e W5 ⟨rfl, q5, rfl⟩
            cases h1 : Bk.less last.data.toList z.s.data.toList with
            | false =>
              have hkeep : Bk.step last.data.toList nx.data.toList (cname z) = nx.data.toList := by unfold Bk.step cname; rw [h1]; rfl
              have HKP := Lib.hid hkeep; clear hkeep
              go_wp2_with fail
              exact ⟨⟨k + 1, nx, by omega, by go_num, rfl, below_draws hbk _, by show _ = _; rw [htk.out, HKP.out], hnl⟩, by simp [intOf]; omega⟩
            | true =>
              by_cases hz : nx.toList = []
              · have hset : Bk.step last.data.toList nx.data.toList (cname z) = z.s.data.toList := by
                  rw [ByteArray.toList_eq] at hz
                  unfold Bk.step cname; rw [h1, hz]; rfl
                have HST := Lib.hid hset; clear hset
                go_wp2_with fail
                exact ⟨⟨k + 1, z.s, by omega, by go_num, rfl, below_draws hbk _, by show _ = _; rw [htk.out, HST.out], hss⟩, by simp [intOf]; omega⟩
              · have hz2 : decide (nx.data.toList = []) = false := by
                  rw [ByteArray.toList_eq] at hz
                  exact decide_eq_false hz
                have HZ2 := Lib.hid hz2; clear hz2
                have hz3 : nx.toList.isEmpty = false := by simpa using hz
                have hz4 : (nx.toList == []) = false := by simpa using hz
                go_wp2_with fail
                refine (refLess_any z.s nx _ hss hnl).mono ?_
                rintro e W6 ⟨rfl, q6, rfl⟩
                cases h2 : Bk.less z.s.data.toList nx.data.toList with
                | true =>
                  have hset : Bk.step last.data.toList nx.data.toList (cname z) = z.s.data.toList := by unfold Bk.step cname; rw [h1, h2, HZ2.out]; rfl
                  have HST := Lib.hid hset; clear hset
                  go_wp2_with fail
                  exact ⟨⟨k + 1, z.s, by omega, by go_num, rfl, by first | exact below_draws hbk _ | (rw [World.drewN_drewN]; exact below_draws hbk _), by show _ = _; rw [htk.out, HST.out], hss⟩, by simp [intOf]; omega⟩
                | false =>
                  have hset : Bk.step last.data.toList nx.data.toList (cname z) = nx.data.toList := by unfold Bk.step cname; rw [h1, h2, HZ2.out]; rfl
                  have HST := Lib.hid hset; clear hset
                  go_wp2_with fail
                  exact ⟨⟨k + 1, nx, by omega, by go_num, rfl, by first | exact below_draws hbk _ | (rw [World.drewN_drewN]; exact below_draws hbk _), by show _ = _; rw [htk.out, HST.out], hnl⟩, by simp [intOf]; omega⟩
          · obtain rfl : k = n + m := by omega
            have hnx2 : nx.data.toList = Bk.next last.data.toList ((xs ++ ys).map cname) := by
              rw [hnx.out, List.take_of_length_le (by rw [List.length_map, hzl.out]; exact Nat.le_refl _)]; rfl
            have HNX := Lib.hid hnx2; clear hnx2 hnx
            have hround := hst.out.round SX.out.srt SY.out.srt Con.z
            rw [← HNX.out] at hround
            have HR := Lib.hid hround; clear hround
            have hbw5 : Below W2.heap.size W2 wr := hbr.trans ((hb4.trans (hbk.mono hb4.size)).mono hbr.size)
            have hown5 : wr.ownsRow W2.heap.size 59 34 _ out.length (conCells out) := own_below hown (hb4.trans (hbk.mono hb4.size)) (Nat.le_refl _)
            have hlt2 : decide (((n + m : Nat) : Int) < (n : Int) + m) = false := decide_eq_false (by omega)
            obtain ⟨Ao, co, rfl, hro⟩ := own_rd hown5
            by_cases hz : nx.toList = []
            · have hm1 : out = mrg xs ys := HR.out.1 (by rw [ByteArray.toList_eq] at hz; exact hz)
              by_cases h40 : 40 < out.length
              · have hj : joinFault xs ys = 4 := by unfold joinFault; rw [if_neg (by simp [F1.out]), if_neg (by simp [F2.out]), ← hm1, if_pos h40]
                have HJ := Lib.hid hj; clear hj hm1
                go_wp2_with fail
                go_ret2
                exact ⟨_, by rw [HJ.out]; rfl, by rw [joinOf_bad (by rw [HJ.out]; decide)]; exact own_nil34 _ _, hbw.trans (hbw5.mono hbw.size)⟩
              · have hj : joinFault xs ys = 0 := by unfold joinFault; rw [if_neg (by simp [F1.out]), if_neg (by simp [F2.out]), ← hm1, if_neg h40]
                have hjo : joinOf xs ys = out := by unfold joinOf; rw [if_pos hj, hm1]
                have HJ := Lib.hid hj; clear hj
                have HJO := Lib.hid hjo; clear hjo hm1
                go_wp2_with fail
                go_ret2
                exact ⟨_, by rw [HJ.out]; rfl, by rw [HJO.out]; exact own_base hown5 hbw.size, hbw.trans (hbw5.mono hbw.size)⟩
            · have hz' : nx.data.toList ≠ [] := by rw [ByteArray.toList_eq] at hz; exact hz
              have hst2 := (HR.out.2 hz').1
              have hlen2 := (HR.out.2 hz').2
              have HST2 := Lib.hid hst2; clear hst2 hz'
              have hz3 : nx.toList.isEmpty = false := by simpa using hz
              have hz4 : (nx.toList == []) = false := by simpa using hz
              go_wp2_with fail
              refine (known_any xs n c A nx _ (hx.below (hbw.trans (hbw5.mono hbw.size)) (Nat.le_refl _)) (by omega)).mono ?_
              rintro e W6 ⟨rfl, hb6⟩
              have kX : ((Bk.known cname xs nx.data.toList).getD Con.z).K.length = 32 := known_key hx.keys _
              have kY : ((Bk.known cname ys nx.data.toList).getD Con.z).K.length = 32 := known_key hy.keys _
              have hky := known_any ys m c2 A2 nx
              generalize hka : Bk.known cname xs nx.data.toList = ka at *
              generalize hkb : Bk.known cname ys nx.data.toList = kb at *
              have HKA := Lib.hid hka; clear hka
              have HKB := Lib.hid hkb; clear hkb
              generalize hX : ka.getD Con.z = X at *
              generalize hY : kb.getD Con.z = Y at *
              have HKY := Lib.hid hky; clear hky
              have HX := Lib.hid hX; clear hX
              have HY := Lib.hid hY; clear hY
              have hX34 := Lib.hid (X.len kX)
              have hY34 := Lib.hid (Y.len kY)
              have hbw6 : Below W2.heap.size W2 W6 := hbw5.trans (hb6.mono hbw5.size)
              have hown6 := own_below hown5 hb6 (Nat.le_refl _)
              clear hown5 hro
              go_wp2_with (show wpList _ _ _ (⟨_, Op.store 59 (.tmp 13) _, _, _, _, _⟩ :: _) _ _
                           go_must (refine store_blk (by rfl) 59 _ _ (by rfl) W6.heap.size 0 59 conZ X.c (by rfl) (by rfl) (Blk.at_new _ _ _ _ _ (by rfl) (by rfl)) (by rw [hX34.out]; exact Tryd.infoCon) X.one (by rw [hX34.out, conZ_len]; omega) ?_)
                           intro W7 hB7 hG7
                           rw [spl_all _ _ (by rw [hX34.out]; rfl)] at hB7
                           have hb7 : Below W6.heap.size W6 W7 := ((Below.refl _ _).alloc (Nat.le_refl _) _).grown hG7 (by simp) (fun k hk => by cases hk; omega)
                           clear hG7)
              have hbw7 : Below W2.heap.size W2 W7 := hbw6.trans (hb7.mono hbw6.size)
              have hown7 := own_below hown6 hb7 (Nat.le_refl _)
              refine (HKY.out W7 (hy.below (hbw.trans (hbw7.mono hbw.size)) (Nat.le_refl _)) (by omega)).mono ?_
              rintro e W8 ⟨rfl, hb8⟩
              have hlev : ∀ x y, ka = some x → kb = some y → (1 ≤ x.l ∧ x.l ≤ 4) ∧ (1 ≤ y.l ∧ y.l ≤ 4) := fun x y h1 h2 => by
                have e1 := HKA.out; have e2 := HKB.out
                rw [h1] at e1; rw [h2] at e2
                exact ⟨SX.out.lv _ (List.mem_of_find?_eq_some e1), SY.out.lv _ (List.mem_of_find?_eq_some e2)⟩
              have HLEV := Lib.hid hlev; clear hlev
              cases ka with
              | none =>
                cases kb with
                | none =>
                  have hX34o := hX34.out
                  have hY34o := hY34.out
                  go_wp2_with (first
                 | (show wpList _ _ _ (⟨_, Op.store 59 (.tmp 15) _, _, _, _, _⟩ :: _) _ _
                    go_must (refine store_blk (by rfl) 59 _ _ (by rfl) W8.heap.size 0 59 conZ Y.c (by rfl) (by rfl) (Blk.at_new _ _ _ _ _ (by rfl) (by rfl)) (by rw [hY34.out]; exact Tryd.infoCon) Y.one (by rw [hY34.out, conZ_len]; omega) ?_)
                    intro W9 hB9 hG9
                    rw [spl_all _ _ (by rw [hY34.out]; rfl)] at hB9
                    have hb9 : Below W8.heap.size W8 W9 := ((Below.refl _ _).alloc (Nat.le_refl _) _).grown hG9 (by simp) (fun k hk => by cases hk; omega)
                    have hb89 : Below W7.heap.size W7 W9 := hb8.trans (hb9.mono hb8.size)
                    have hX9 : Blk W9 W6.heap.size 59 X.c := hB7.below hb89 hB7.lt
                    have h69 : Below W6.heap.size W6 W9 := hb7.trans (hb89.mono hb7.size)
                    clear hG9 hB7 hb9 hb89)
                 | (show wpList _ _ _ (⟨some 79, Op.load 59 (.tmp 13), _, _, _, _⟩ :: _) _ _
                    go_must (refine load_blk (by rfl) 59 _ (by rfl) W6.heap.size 0 34 59 _ (by rfl) hX9 _ Tryd.underlying59 rfl Tryd.infoCon (by rw [hX34.out]; omega) X.c (by rw [List.drop_zero, List.take_of_length_le (by rw [hX34.out]; omega)]) ?_))
                 | (show wpList _ _ _ (⟨_, Op.call { callee := Callee.builtin Builtin.append, args := #[Operand.tmp 78, _], argTypes := _ }, _, _, _, _⟩ :: _) _ _
                    have hOP := own_below hown6 h69 (Nat.le_refl _)
                    have hBL : Below W2.heap.size W2 W9 := hbw6.trans (h69.mono hbw6.size)
                    go_must (refine list_app (by rfl) _ _ _ (by rfl) W2.heap.size 59 i1 _ 34 56 Tryd.underlying48 hj hy0 hy1 hy2 rfl (by omega) _ _ _ (by rfl) (hOP.alloc _) (some ⟨W9.heap.size, 0, none⟩) 1 1 (conCells [X]) (by rfl) (rd_built W9 X kX _ rfl) (conCells_one _) (by unfold maxLen; omega) (by omega) (Nat.le_trans hBL.size (by simp)) ?_)
                    intro vo Wz hownz hblz _ _
                    obtain ⟨Aq, cq, rfl, _⟩ := own_rd hownz))
                  have hpk : Bk.pick cname oneCon Con.z xs ys nx.data.toList = X := by unfold Bk.pick; rw [HKA.out, HKB.out]; exact HX.out
                  have hbz : Below W2.heap.size W2 Wz := (hBL.alloc hBL.size _).trans hblz
                  rw [← conCells_append] at hownz
                  have hl1 : out.length + 1 = (out ++ [X]).length := by simp
                  have hrel' : Wz.ownsRow W2.heap.size 59 34 (.slice Aq (out.length + 1) cq) (out ++ [X]).length (conCells (out ++ [X])) := by rw [← hl1]; exact hownz
                  have hst3 : Bk.St cname oneCon xs ys nx.data.toList (out ++ [X]) := by rw [← hpk]; exact HST2.out
                  have hok3 : ∀ z ∈ out ++ [X], z.K.length = 32 := fun z hz => by
                    rcases List.mem_append.1 hz with h | h
                    · exact hok.out z h
                    · rw [List.mem_singleton.1 h]; exact kX
                  have hml := mrg_len xs ys
                  have hl80 : (out ++ [X]).length ≤ 80 := by rw [← hl1]; have h1 := HLX.out; have h2 := HLY.out; unfold mrg at hml; omega
                  clear hpk hl1
                  go_roundw
                  case rel => first
                    | exact ⟨out ++ [X], nx, rfl, hrel', hbz, hst3, hok3, hnl, hl80⟩
                    | ((repeat apply Exists.intro); exact ⟨⟨out ++ [X], nx, rfl, hrel', hbz, hst3, hok3, hnl, hl80⟩, rfl⟩)
                  case measure => simp [restOf]; unfold mrg; omega
                | some y =>
                  have hyY : y = Y := HY.out
                  subst hyY
                  have hX34o := hX34.out
                  have hY34o := hY34.out
                  go_wp2_with (first
                 | (show wpList _ _ _ (⟨_, Op.store 59 (.tmp 15) _, _, _, _, _⟩ :: _) _ _
                    go_must (refine store_blk (by rfl) 59 _ _ (by rfl) W8.heap.size 0 59 conZ y.c (by rfl) (by rfl) (Blk.at_new _ _ _ _ _ (by rfl) (by rfl)) (by rw [hY34.out]; exact Tryd.infoCon) y.one (by rw [hY34.out, conZ_len]; omega) ?_)
                    intro W9 hB9 hG9
                    rw [spl_all _ _ (by rw [hY34.out]; rfl)] at hB9
                    have hb9 : Below W8.heap.size W8 W9 := ((Below.refl _ _).alloc (Nat.le_refl _) _).grown hG9 (by simp) (fun k hk => by cases hk; omega)
                    have hb89 : Below W7.heap.size W7 W9 := hb8.trans (hb9.mono hb8.size)
                    have hX9 : Blk W9 W6.heap.size 59 X.c := hB7.below hb89 hB7.lt
                    have h69 : Below W6.heap.size W6 W9 := hb7.trans (hb89.mono hb7.size)
                    clear hG9 hB7 hb9 hb89)
                 | (show wpList _ _ _ (⟨some 77, Op.load 59 (.tmp 15), _, _, _, _⟩ :: _) _ _
                    go_must (refine load_blk (by rfl) 59 _ (by rfl) W8.heap.size 0 34 59 _ (by rfl) hB9 _ Tryd.underlying59 rfl Tryd.infoCon (by rw [hY34.out]; omega) y.c (by rw [List.drop_zero, List.take_of_length_le (by rw [hY34.out]; omega)]) ?_))
                 | (show wpList _ _ _ (⟨_, Op.store 59 (.tmp 13) _, _, _, _, _⟩ :: _) _ _
                    go_must (refine store_blk (by rfl) 59 _ _ (by rfl) W6.heap.size 0 59 X.c y.c (by rfl) (by rfl) hX9 (by rw [hY34.out]; exact Tryd.infoCon) (Con.one _) (by rw [hY34.out, hX34.out]; omega) ?_)
                    intro W11 hB11 hG11
                    rw [spl_all _ _ (by rw [hY34.out, hX34.out])] at hB11
                    have h6c : Below W6.heap.size W6 W11 := h69.grown hG11 h69.size (fun k hk => by cases hk; omega))
                 | (show wpList _ _ _ (⟨some 79, Op.load 59 (.tmp 13), _, _, _, _⟩ :: _) _ _
                    go_must (refine load_blk (by rfl) 59 _ (by rfl) W6.heap.size 0 34 59 _ (by rfl) hB11 _ Tryd.underlying59 rfl Tryd.infoCon (by rw [hY34.out]; omega) y.c (by rw [List.drop_zero, List.take_of_length_le (by rw [hY34.out]; omega)]) ?_))
                 | (show wpList _ _ _ (⟨_, Op.call { callee := Callee.builtin Builtin.append, args := #[Operand.tmp 78, _], argTypes := _ }, _, _, _, _⟩ :: _) _ _
                    have hOP := own_below hown6 h6c (Nat.le_refl _)
                    have hBL : Below W2.heap.size W2 W11 := hbw6.trans (h6c.mono hbw6.size)
                    go_must (refine list_app (by rfl) _ _ _ (by rfl) W2.heap.size 59 i1 _ 34 56 Tryd.underlying48 hj hy0 hy1 hy2 rfl (by omega) _ _ _ (by rfl) (hOP.alloc _) (some ⟨W11.heap.size, 0, none⟩) 1 1 (conCells [y]) (by rfl) (rd_built W11 y kY _ rfl) (conCells_one _) (by unfold maxLen; omega) (by omega) (Nat.le_trans hBL.size (by simp)) ?_)
                    intro vo Wz hownz hblz _ _
                    obtain ⟨Aq, cq, rfl, _⟩ := own_rd hownz))
                  have hpk : Bk.pick cname oneCon Con.z xs ys nx.data.toList = y := by unfold Bk.pick; rw [HKA.out, HKB.out]
                  have hbz : Below W2.heap.size W2 Wz := (hBL.alloc hBL.size _).trans hblz
                  rw [← conCells_append] at hownz
                  have hl1 : out.length + 1 = (out ++ [y]).length := by simp
                  have hrel' : Wz.ownsRow W2.heap.size 59 34 (.slice Aq (out.length + 1) cq) (out ++ [y]).length (conCells (out ++ [y])) := by rw [← hl1]; exact hownz
                  have hst3 : Bk.St cname oneCon xs ys nx.data.toList (out ++ [y]) := by rw [← hpk]; exact HST2.out
                  have hok3 : ∀ z ∈ out ++ [y], z.K.length = 32 := fun z hz => by
                    rcases List.mem_append.1 hz with h | h
                    · exact hok.out z h
                    · rw [List.mem_singleton.1 h]; exact kY
                  have hml := mrg_len xs ys
                  have hl80 : (out ++ [y]).length ≤ 80 := by rw [← hl1]; have h1 := HLX.out; have h2 := HLY.out; unfold mrg at hml; omega
                  clear hpk hl1
                  go_roundw
                  case rel => first
                    | exact ⟨out ++ [y], nx, rfl, hrel', hbz, hst3, hok3, hnl, hl80⟩
                    | ((repeat apply Exists.intro); exact ⟨⟨out ++ [y], nx, rfl, hrel', hbz, hst3, hok3, hnl, hl80⟩, rfl⟩)
                  case measure => simp [restOf]; unfold mrg; omega
              | some x =>
                cases kb with
                | none =>
                  have hX34o := hX34.out
                  have hY34o := hY34.out
                  go_wp2_with (first
                 | (show wpList _ _ _ (⟨_, Op.store 59 (.tmp 15) _, _, _, _, _⟩ :: _) _ _
                    go_must (refine store_blk (by rfl) 59 _ _ (by rfl) W8.heap.size 0 59 conZ Y.c (by rfl) (by rfl) (Blk.at_new _ _ _ _ _ (by rfl) (by rfl)) (by rw [hY34.out]; exact Tryd.infoCon) Y.one (by rw [hY34.out, conZ_len]; omega) ?_)
                    intro W9 hB9 hG9
                    rw [spl_all _ _ (by rw [hY34.out]; rfl)] at hB9
                    have hb9 : Below W8.heap.size W8 W9 := ((Below.refl _ _).alloc (Nat.le_refl _) _).grown hG9 (by simp) (fun k hk => by cases hk; omega)
                    have hb89 : Below W7.heap.size W7 W9 := hb8.trans (hb9.mono hb8.size)
                    have hX9 : Blk W9 W6.heap.size 59 X.c := hB7.below hb89 hB7.lt
                    have h69 : Below W6.heap.size W6 W9 := hb7.trans (hb89.mono hb7.size)
                    clear hG9 hB7 hb9 hb89)
                 | (show wpList _ _ _ (⟨some 79, Op.load 59 (.tmp 13), _, _, _, _⟩ :: _) _ _
                    go_must (refine load_blk (by rfl) 59 _ (by rfl) W6.heap.size 0 34 59 _ (by rfl) hX9 _ Tryd.underlying59 rfl Tryd.infoCon (by rw [hX34.out]; omega) X.c (by rw [List.drop_zero, List.take_of_length_le (by rw [hX34.out]; omega)]) ?_))
                 | (show wpList _ _ _ (⟨_, Op.call { callee := Callee.builtin Builtin.append, args := #[Operand.tmp 78, _], argTypes := _ }, _, _, _, _⟩ :: _) _ _
                    have hOP := own_below hown6 h69 (Nat.le_refl _)
                    have hBL : Below W2.heap.size W2 W9 := hbw6.trans (h69.mono hbw6.size)
                    go_must (refine list_app (by rfl) _ _ _ (by rfl) W2.heap.size 59 i1 _ 34 56 Tryd.underlying48 hj hy0 hy1 hy2 rfl (by omega) _ _ _ (by rfl) (hOP.alloc _) (some ⟨W9.heap.size, 0, none⟩) 1 1 (conCells [X]) (by rfl) (rd_built W9 X kX _ rfl) (conCells_one _) (by unfold maxLen; omega) (by omega) (Nat.le_trans hBL.size (by simp)) ?_)
                    intro vo Wz hownz hblz _ _
                    obtain ⟨Aq, cq, rfl, _⟩ := own_rd hownz))
                  have hpk : Bk.pick cname oneCon Con.z xs ys nx.data.toList = X := by unfold Bk.pick; rw [HKA.out, HKB.out]; exact HX.out
                  have hbz : Below W2.heap.size W2 Wz := (hBL.alloc hBL.size _).trans hblz
                  rw [← conCells_append] at hownz
                  have hl1 : out.length + 1 = (out ++ [X]).length := by simp
                  have hrel' : Wz.ownsRow W2.heap.size 59 34 (.slice Aq (out.length + 1) cq) (out ++ [X]).length (conCells (out ++ [X])) := by rw [← hl1]; exact hownz
                  have hst3 : Bk.St cname oneCon xs ys nx.data.toList (out ++ [X]) := by rw [← hpk]; exact HST2.out
                  have hok3 : ∀ z ∈ out ++ [X], z.K.length = 32 := fun z hz => by
                    rcases List.mem_append.1 hz with h | h
                    · exact hok.out z h
                    · rw [List.mem_singleton.1 h]; exact kX
                  have hml := mrg_len xs ys
                  have hl80 : (out ++ [X]).length ≤ 80 := by rw [← hl1]; have h1 := HLX.out; have h2 := HLY.out; unfold mrg at hml; omega
                  clear hpk hl1
                  go_roundw
                  case rel => first
                    | exact ⟨out ++ [X], nx, rfl, hrel', hbz, hst3, hok3, hnl, hl80⟩
                    | ((repeat apply Exists.intro); exact ⟨⟨out ++ [X], nx, rfl, hrel', hbz, hst3, hok3, hnl, hl80⟩, rfl⟩)
                  case measure => simp [restOf]; unfold mrg; omega
                | some y =>
                  have hxX : x = X := HX.out
                  have hyY : y = Y := HY.out
                  subst hxX
                  subst hyY
                  obtain ⟨⟨lx1, lx4⟩, ly1, ly4⟩ := HLEV.out x y rfl rfl
                  have hX34o := hX34.out
                  have hY34o := hY34.out
                  go_wp2_with (first
                 | (show wpList _ _ _ (⟨_, Op.store 59 (.tmp 15) _, _, _, _, _⟩ :: _) _ _
                    go_must (refine store_blk (by rfl) 59 _ _ (by rfl) W8.heap.size 0 59 conZ y.c (by rfl) (by rfl) (Blk.at_new _ _ _ _ _ (by rfl) (by rfl)) (by rw [hY34.out]; exact Tryd.infoCon) y.one (by rw [hY34.out, conZ_len]; omega) ?_)
                    intro W9 hB9 hG9
                    rw [spl_all _ _ (by rw [hY34.out]; rfl)] at hB9
                    have hb9 : Below W8.heap.size W8 W9 := ((Below.refl _ _).alloc (Nat.le_refl _) _).grown hG9 (by simp) (fun k hk => by cases hk; omega)
                    have hb89 : Below W7.heap.size W7 W9 := hb8.trans (hb9.mono hb8.size)
                    have hX9 : Blk W9 W6.heap.size 59 x.c := hB7.below hb89 hB7.lt
                    have h69 : Below W6.heap.size W6 W9 := hb7.trans (hb89.mono hb7.size)
                    clear hG9 hB7 hb9 hb89)
                 | (show wpList _ _ _ (⟨some 73, Op.load 59 (.tmp 13), _, _, _, _⟩ :: _) _ _
                    go_must (refine load_blk (by rfl) 59 _ (by rfl) W6.heap.size 0 34 59 _ (by rfl) hX9 _ Tryd.underlying59 rfl Tryd.infoCon (by rw [hX34.out]; omega) x.c (by rw [List.drop_zero, List.take_of_length_le (by rw [hX34.out]; omega)]) ?_))
                 | (show wpList _ _ _ (⟨some 74, Op.load 59 (.tmp 15), _, _, _, _⟩ :: _) _ _
                    go_must (refine load_blk (by rfl) 59 _ (by rfl) W8.heap.size 0 34 59 _ (by rfl) hB9 _ Tryd.underlying59 rfl Tryd.infoCon (by rw [hY34.out]; omega) y.c (by rw [List.drop_zero, List.take_of_length_le (by rw [hY34.out]; omega)]) ?_))
                 | (go_at_call 71
                    refine (one_any x y _ kX kY lx1 lx4 ly1 ly4).mono ?_
                    rintro e W10 ⟨rfl, hb10⟩
                    have kO : (oneCon x y).K.length = 32 := oneCon_key kX kY
                    have hO34 := Lib.hid ((oneCon x y).len kO)
                    have hO34o := hO34.out)
                 | (show wpList _ _ _ (⟨_, Op.store 59 (.tmp 13) _, _, _, _, _⟩ :: _) _ _
                    go_must (refine store_blk (by rfl) 59 _ _ (by rfl) W6.heap.size 0 59 x.c (oneCon x y).c (by rfl) (by rfl) (hX9.below hb10 hX9.lt) (by rw [hO34.out]; exact Tryd.infoCon) (Con.one _) (by rw [hO34.out, hX34.out]; omega) ?_)
                    intro W11 hB11 hG11
                    rw [spl_all _ _ (by rw [hO34.out, hX34.out])] at hB11
                    have h6c : Below W6.heap.size W6 W11 := (h69.trans (hb10.mono h69.size)).grown hG11 (Nat.le_trans h69.size hb10.size) (fun k hk => by cases hk; omega))
                 | (show wpList _ _ _ (⟨some 79, Op.load 59 (.tmp 13), _, _, _, _⟩ :: _) _ _
                    go_must (refine load_blk (by rfl) 59 _ (by rfl) W6.heap.size 0 34 59 _ (by rfl) hB11 _ Tryd.underlying59 rfl Tryd.infoCon (by rw [hO34.out]; omega) (oneCon x y).c (by rw [List.drop_zero, List.take_of_length_le (by rw [hO34.out]; omega)]) ?_))
                 | (show wpList _ _ _ (⟨_, Op.call { callee := Callee.builtin Builtin.append, args := #[Operand.tmp 78, _], argTypes := _ }, _, _, _, _⟩ :: _) _ _
                    have hOP := own_below hown6 h6c (Nat.le_refl _)
                    have hBL : Below W2.heap.size W2 W11 := hbw6.trans (h6c.mono hbw6.size)
                    go_must (refine list_app (by rfl) _ _ _ (by rfl) W2.heap.size 59 i1 _ 34 56 Tryd.underlying48 hj hy0 hy1 hy2 rfl (by omega) _ _ _ (by rfl) (hOP.alloc _) (some ⟨W11.heap.size, 0, none⟩) 1 1 (conCells [(oneCon x y)]) (by rfl) (rd_built W11 (oneCon x y) kO _ rfl) (conCells_one _) (by unfold maxLen; omega) (by omega) (Nat.le_trans hBL.size (by simp)) ?_)
                    intro vo Wz hownz hblz _ _
                    obtain ⟨Aq, cq, rfl, _⟩ := own_rd hownz))
                  have hpk : Bk.pick cname oneCon Con.z xs ys nx.data.toList = (oneCon x y) := by unfold Bk.pick; rw [HKA.out, HKB.out]
                  have hbz : Below W2.heap.size W2 Wz := (hBL.alloc hBL.size _).trans hblz
                  rw [← conCells_append] at hownz
                  have hl1 : out.length + 1 = (out ++ [(oneCon x y)]).length := by simp
                  have hrel' : Wz.ownsRow W2.heap.size 59 34 (.slice Aq (out.length + 1) cq) (out ++ [(oneCon x y)]).length (conCells (out ++ [(oneCon x y)])) := by rw [← hl1]; exact hownz
                  have hst3 : Bk.St cname oneCon xs ys nx.data.toList (out ++ [(oneCon x y)]) := by rw [← hpk]; exact HST2.out
                  have hok3 : ∀ z ∈ out ++ [(oneCon x y)], z.K.length = 32 := fun z hz => by
                    rcases List.mem_append.1 hz with h | h
                    · exact hok.out z h
                    · rw [List.mem_singleton.1 h]; exact kO
                  have hml := mrg_len xs ys
                  have hl80 : (out ++ [(oneCon x y)]).length ≤ 80 := by rw [← hl1]; have h1 := HLX.out; have h2 := HLY.out; unfold mrg at hml; omega
                  clear hpk hl1
                  go_roundw
                  case rel => first
                    | exact ⟨out ++ [(oneCon x y)], nx, rfl, hrel', hbz, hst3, hok3, hnl, hl80⟩
                    | ((repeat apply Exists.intro); exact ⟨⟨out ++ [(oneCon x y)], nx, rfl, hrel', hbz, hst3, hok3, hnl, hl80⟩, rfl⟩)
                  case measure => simp [restOf]; unfold mrg; omega
    · have hj : joinFault xs ys = fault ys := by unfold joinFault; rw [if_neg (by simp [f1]), if_pos f2]
      have HJ := Lib.hid hj; clear hj
      have hne : (fault ys == 0) = false := beq_eq_false_iff_ne.2 f2
      have hne2 : (fault ys != 0) = true := bne_iff_ne.2 f2
      go_enter Tryd.func20, Tryd.ntmps20
      go_wp2_with fail
      refine (bookFault_any xs n c A _ hx hsx).mono ?_
      rintro e W1 ⟨rfl, hb1⟩
      rw [f1]
      go_wp2_with fail
      refine (bookFault_any ys m c2 A2 _ (hy.below hb1 (Nat.le_refl _)) hsy).mono ?_
      rintro e W2 ⟨rfl, hb2⟩
      go_wp2_with fail
      go_ret2
      exact ⟨_, by rw [HJ.out]; rfl, by rw [joinOf_bad (by rw [HJ.out]; exact f2)]; exact own_nil34 _ _, hb1.trans (hb2.mono hb1.size)⟩
  · have hj : joinFault xs ys = fault xs := by unfold joinFault; rw [if_pos f1]
    have HJ := Lib.hid hj; clear hj
    have hne : (fault xs == 0) = false := beq_eq_false_iff_ne.2 f1
    have hne2 : (fault xs != 0) = true := bne_iff_ne.2 f1
    go_enter Tryd.func20, Tryd.ntmps20
    go_wp2_with fail
    refine (bookFault_any xs n c A _ hx hsx).mono ?_
    rintro e W1 ⟨rfl, hb1⟩
    go_wp2_with fail
    go_ret2
    exact ⟨_, by rw [HJ.out]; rfl, by rw [joinOf_bad (by rw [HJ.out]; exact f1)]; exact own_nil34 _ _, hb1⟩
end Go.Proofs.YtddehjgmmeoboaaDoor
