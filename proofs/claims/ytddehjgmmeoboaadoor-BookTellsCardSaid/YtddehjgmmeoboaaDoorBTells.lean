/- The walk of BookTells. -/
import Derived.Test.YtddehjgmmeoboaaDoorMeet
namespace Go.Proofs.YtddehjgmmeoboaaDoor
open Go.RowKit
set_option maxRecDepth 8000

theorem errN_errOf (f : Int) : errN (errOf f) = f := by
  unfold errOf
  by_cases h : f = 0
  · rw [if_pos h, h]; rfl
  · rw [if_neg h]; rfl
theorem eqb_refl (x : Con) : x.eqb x = true := by unfold Con.eqb; simp
theorem sameBooks_refl (xs : List Con) (n : Nat) : sameBooks xs xs n = true := by
  unfold sameBooks; rw [List.all_eq_true]; intro i _; exact eqb_refl _
theorem joinOf_keys {xs ys : List Con} (hx : ∀ x ∈ xs, x.K.length = 32) (hy : ∀ x ∈ ys, x.K.length = 32) : ∀ z ∈ joinOf xs ys, z.K.length = 32 := by
  unfold joinOf
  split
  · exact mrg_keys xs ys hx hy
  · intro z hz; cases hz
theorem joinOf_len (xs ys : List Con) : (joinOf xs ys).length ≤ 40 := by
  unfold joinOf
  by_cases h : joinFault xs ys = 0
  · rw [if_pos h]
    unfold joinFault at h
    by_cases h1 : fault xs ≠ 0
    · rw [if_pos h1] at h; exact absurd h h1
    · rw [if_neg h1] at h
      by_cases h2 : fault ys ≠ 0
      · rw [if_pos h2] at h; exact absurd h h2
      · rw [if_neg h2] at h
        by_cases h3 : 40 < (mrg xs ys).length
        · rw [if_pos h3] at h; cases h
        · omega
  · rw [if_neg h]; exact Nat.zero_le _
theorem Joined.rd {w w1 w' : World} {v : Value} {xs ys : List Con} (h : Joined w w1 v xs ys) (hb : Below w1.heap.size w1 w') (hx : ∀ x ∈ xs, x.K.length = 32) (hy : ∀ x ∈ ys, x.K.length = 32) : ∃ A c, v = .slice A (joinOf xs ys).length c ∧ RdCons w' A (joinOf xs ys).length (joinOf xs ys) := by
  obtain ⟨A, c, rfl, hr⟩ := own_rd h.1
  exact ⟨A, c, rfl, (hr.below' hb).cons (joinOf_keys hx hy)⟩

set_option maxHeartbeats 2000000 in
theorem book_law (xs ys : List Con) (n c m c2 : Nat) (A A2 : Option Addr) (s : ByteArray) (K : List UInt8) (w : World) (hx : RdCons w A n xs) (hxc : n ≤ c ∧ c ≤ maxLen ∧ (A = none → c = 0)) (hy : RdCons w A2 m ys) (hyc : m ≤ c2 ∧ c2 ≤ maxLen ∧ (A2 = none → c2 = 0))
    (hsx : ∀ x ∈ xs, x.s.size ≤ maxLen) (hsy : ∀ x ∈ ys, x.s.size ≤ maxLen) (hK : K.length = 32) (hs : s.size ≤ maxLen) (hd : Door w) :
    Calls Tryd.prog 4 #[.slice A n c, .slice A2 m c2, .string s, .agg (K.map B).toArray] w fun e w' => e = .returned (.bool true) ∧ Below w.heap.size w w' := by
  have hK' := Lib.hid hK; clear hK
  have b0 : Below w.heap.size w (w.alloc (.cells (K.map B).toArray 23)) := (Below.refl _ _).alloc (Nat.le_refl _) _
  have HB : Hid (∀ W, Below (w.heap.size + 1) (w.alloc (.cells (K.map B).toArray 23)) W → Blk W w.heap.size 23 (K.map B)) := fun W h => (Blk.new w 23 (K.map B)).below h (by omega)
  have c34 : ∀ l, (Con.c ⟨s, K, l⟩).length = 34 := fun l => Con.len _ hK'.out
  have C34 := Lib.hid c34; clear c34
  generalize hW0 : w.alloc (.cells (K.map B).toArray 23) = W0 at *
  have hz0 : Hid (W0.heap.size = w.heap.size + 1) := by show _ = _; rw [← hW0]; simp
  have X := Lib.hid hx
  have Y := Lib.hid hy
  have D := Lib.hid hd
  clear hx hy hd
  have BW : Hid (∀ W, Below W0.heap.size W0 W → Below w.heap.size w W) := fun W h => b0.trans (h.mono b0.size)
  have DW : Hid (∀ W, Below W0.heap.size W0 W → Door W) := fun W h => D.out.below (BW.out W h)
  have XW : Hid (∀ W, Below W0.heap.size W0 W → RdCons W A n xs) := fun W h => X.out.below (BW.out W h) (Nat.le_refl _)
  have YW : Hid (∀ W, Below W0.heap.size W0 W → RdCons W A2 m ys) := fun W h => Y.out.below (BW.out W h) (Nat.le_refl _)
  have KW : Hid (∀ W, Below W0.heap.size W0 W → Blk W w.heap.size 23 (K.map B)) := fun W h => HB.out W (by have := hz0.out; exact h.mono (by omega))
  go_enter Tryd.func4, Tryd.ntmps4
  go_wp2_with fail
  refine (check_any xs n c A _ (XW.out _ (Below.refl _ _)) hsx).mono ?_
  rintro e W1 ⟨rfl, hb1⟩
  go_wp2_with fail
  refine (bookFault_any xs n c A _ (XW.out _ hb1) hsx).mono ?_
  rintro e W2 ⟨rfl, hb2⟩
  have hc2 := hb1.trans (hb2.mono hb1.size)
  clear hb1 hb2
  go_wp2_with fail
  refine (error_any (errOf (fault xs)) (fault xs) _ (DW.out _ hc2)).mono ?_
  rintro e W3 ⟨rfl, hb3⟩
  have hc3 := hc2.trans (hb3.mono hc2.size)
  clear hb3 hc2
  rw [decide_eq_true (errN_errOf _)]
  go_wp2_with fail
  refine (bookJoin_any xs ys n c m c2 A A2 _ (XW.out _ hc3) hxc (YW.out _ hc3) hyc hsx hsy).mono ?_
  rintro e W4a ⟨v4, rfl, hj4⟩
  have hc4a : Below W0.heap.size W0 W4a := hc3.trans (hj4.2.mono hc3.size)
  have HJ4 := Lib.hid hj4; clear hj4
  generalize hf4 : joinFault xs ys = f4 at *
  have HF4 := Lib.hid hf4; clear hf4
  go_wp2_with fail
  refine (join_any xs ys n c m c2 A A2 _ (XW.out _ hc4a) hxc (YW.out _ hc4a) hyc hsx hsy).mono ?_
  rintro e W4b ⟨u4, rfl, hk4⟩
  have hc4b : Below W0.heap.size W0 W4b := hc4a.trans (hk4.2.mono hc4a.size)
  have HK4 := Lib.hid hk4; clear hk4
  rw [HF4.out]
  generalize hev4 : errV (errOf f4) = ev4 at *
  have HEV4 := Lib.hid hev4; clear hev4
  go_wp2_with fail
  rw [← HEV4.out]
  refine (error_any (errOf f4) f4 _ (DW.out _ hc4b)).mono ?_
  rintro e W4c ⟨rfl, hb4c⟩
  have hc4c : Below W0.heap.size W0 W4c := hc4b.trans (hb4c.mono hc4b.size)
  rw [decide_eq_true (errN_errOf _)]
  obtain ⟨Au4, cu4, rfl, ru4⟩ := HK4.out.rd hb4c X.out.keys Y.out.keys
  obtain ⟨Av4, cv4, rfl, rv4⟩ := HJ4.out.rd (HK4.out.2.trans (hb4c.mono HK4.out.2.size)) X.out.keys Y.out.keys
  have hl4 := joinOf_len xs ys
  have RU4 := Lib.hid ru4; clear ru4
  have RV4 := Lib.hid rv4; clear rv4
  clear hb4c
  generalize hjl4 : joinOf xs ys = jl4 at *
  have HJL4 := Lib.hid hjl4; clear hjl4
  go_wp2_with fail
  refine (books_any _ _ _ _ _ _ _ _ _ RU4.out RV4.out (by omega)).mono ?_
  rintro e W4d ⟨rfl, q4, rfl⟩
  have hc4d : Below W0.heap.size W0 (W4c.drewN q4) := below_draws hc4c _
  rw [decide_eq_true rfl, sameBooks_refl]
  have hc34_5 := C34.out 1
  have HKB5 := Lib.hid (KW.out _ hc4d)
  have BP5 : Hid (∀ o, Below W0.heap.size W0 ((W4c.drewN q4).alloc o)) := fun o => hc4d.alloc hc4d.size o
  have RP5 : Hid (∀ Z : Array Value, Z.size = 34 → RdCons ((W4c.drewN q4).alloc (.cells ((Con.c ⟨s, K, 1⟩).zipIdx.foldl (fun cs x => cs.setIfInBounds x.snd x.fst) Z) 59)) (some ⟨(W4c.drewN q4).heap.size, 0, none⟩) 1 [⟨s, K, 1⟩]) := fun Z hZ => (rd_built (W4c.drewN q4) ⟨s, K, 1⟩ hK'.out Z hZ).cons (fun x hx => by rw [List.mem_singleton.1 hx]; exact hK'.out)
  go_wp2_with (first
    | (show wpList _ _ _ (⟨_, Op.load 23 _, _, _, _, _⟩ :: _) _ _
       go_must (refine load_blk (by rfl) 23 _ (by rfl) w.heap.size 0 32 23 _ (by rfl) HKB5.out _ Tryd.underlying23 rfl Tryd.infoDig (by rw [List.length_map, hK'.out]; omega) (K.map B) (by rw [List.drop_zero, List.take_of_length_le (by rw [List.length_map, hK'.out]; omega)]) ?_))
    | (show wpList _ _ _ (⟨_, Op.build 59 _, _, _, _, _⟩ :: _) _ _
       go_must (refine build_con (by rfl) _ _ _ (by rfl) s K 1 (by rfl) (by rfl) (by rfl) hK'.out ?_)))
  refine (bookJoin_any xs [⟨s, K, 1⟩] n c 1 1 A (some ⟨(W4c.drewN q4).heap.size, 0, none⟩) _ (XW.out _ (BP5.out _)) hxc (RP5.out _ rfl) ⟨Nat.le_refl _, by unfold maxLen; omega, fun h => by cases h⟩ hsx (fun x hx => by rw [List.mem_singleton.1 hx]; exact hs)).mono ?_
  rintro e W5a ⟨v5, rfl, hj5⟩
  have hc5a : Below W0.heap.size W0 W5a := (BP5.out _).trans (hj5.2.mono (BP5.out _).size)
  have HJ5 := Lib.hid hj5; clear hj5
  generalize hf5 : joinFault xs [⟨s, K, 1⟩] = f5 at *
  have HF5 := Lib.hid hf5; clear hf5
  have HKC5 := Lib.hid (KW.out _ hc5a)
  go_wp2_with (show wpList _ _ _ (⟨_, Op.load 23 _, _, _, _, _⟩ :: _) _ _
               go_must (refine load_blk (by rfl) 23 _ (by rfl) w.heap.size 0 32 23 _ (by rfl) HKC5.out _ Tryd.underlying23 rfl Tryd.infoDig (by rw [List.length_map, hK'.out]; omega) (K.map B) (by rw [List.drop_zero, List.take_of_length_le (by rw [List.length_map, hK'.out]; omega)]) ?_))
  refine (meet_any xs n c A s K _ (XW.out _ hc5a) hxc hK'.out hsx hs).mono ?_
  rintro e W5b ⟨u5, rfl, hk5⟩
  have hc5b : Below W0.heap.size W0 W5b := hc5a.trans (hk5.2.mono hc5a.size)
  have HK5 := Lib.hid hk5; clear hk5
  rw [HF5.out]
  generalize hev5 : errV (errOf f5) = ev5 at *
  have HEV5 := Lib.hid hev5; clear hev5
  go_wp2_with fail
  rw [← HEV5.out]
  refine (error_any (errOf f5) f5 _ (DW.out _ hc5b)).mono ?_
  rintro e W5c ⟨rfl, hb5c⟩
  have hc5c : Below W0.heap.size W0 W5c := hc5b.trans (hb5c.mono hc5b.size)
  rw [decide_eq_true (errN_errOf _)]
  obtain ⟨Au5, cu5, rfl, ru5⟩ := HK5.out.rd hb5c X.out.keys (fun x hx => by rw [List.mem_singleton.1 hx]; exact hK'.out)
  obtain ⟨Av5, cv5, rfl, rv5⟩ := HJ5.out.rd (HK5.out.2.trans (hb5c.mono HK5.out.2.size)) X.out.keys (fun x hx => by rw [List.mem_singleton.1 hx]; exact hK'.out)
  have hl5 := joinOf_len xs [⟨s, K, 1⟩]
  have RU5 := Lib.hid ru5; clear ru5
  have RV5 := Lib.hid rv5; clear rv5
  clear hb5c
  generalize hjl5 : joinOf xs [⟨s, K, 1⟩] = jl5 at *
  have HJL5 := Lib.hid hjl5; clear hjl5
  go_wp2_with fail
  refine (books_any _ _ _ _ _ _ _ _ _ RU5.out RV5.out (by omega)).mono ?_
  rintro e W5d ⟨rfl, q5, rfl⟩
  have hc5d : Below W0.heap.size W0 (W5c.drewN q5) := below_draws hc5c _
  rw [decide_eq_true rfl, sameBooks_refl]
  have hc34_6 := C34.out 3
  have HKB6 := Lib.hid (KW.out _ hc5d)
  have BP6 : Hid (∀ o, Below W0.heap.size W0 ((W5c.drewN q5).alloc o)) := fun o => hc5d.alloc hc5d.size o
  have RP6 : Hid (∀ Z : Array Value, Z.size = 34 → RdCons ((W5c.drewN q5).alloc (.cells ((Con.c ⟨s, K, 3⟩).zipIdx.foldl (fun cs x => cs.setIfInBounds x.snd x.fst) Z) 59)) (some ⟨(W5c.drewN q5).heap.size, 0, none⟩) 1 [⟨s, K, 3⟩]) := fun Z hZ => (rd_built (W5c.drewN q5) ⟨s, K, 3⟩ hK'.out Z hZ).cons (fun x hx => by rw [List.mem_singleton.1 hx]; exact hK'.out)
  go_wp2_with (first
    | (show wpList _ _ _ (⟨_, Op.load 23 _, _, _, _, _⟩ :: _) _ _
       go_must (refine load_blk (by rfl) 23 _ (by rfl) w.heap.size 0 32 23 _ (by rfl) HKB6.out _ Tryd.underlying23 rfl Tryd.infoDig (by rw [List.length_map, hK'.out]; omega) (K.map B) (by rw [List.drop_zero, List.take_of_length_le (by rw [List.length_map, hK'.out]; omega)]) ?_))
    | (show wpList _ _ _ (⟨_, Op.build 59 _, _, _, _, _⟩ :: _) _ _
       go_must (refine build_con (by rfl) _ _ _ (by rfl) s K 3 (by rfl) (by rfl) (by rfl) hK'.out ?_)))
  refine (bookJoin_any xs [⟨s, K, 3⟩] n c 1 1 A (some ⟨(W5c.drewN q5).heap.size, 0, none⟩) _ (XW.out _ (BP6.out _)) hxc (RP6.out _ rfl) ⟨Nat.le_refl _, by unfold maxLen; omega, fun h => by cases h⟩ hsx (fun x hx => by rw [List.mem_singleton.1 hx]; exact hs)).mono ?_
  rintro e W6a ⟨v6, rfl, hj6⟩
  have hc6a : Below W0.heap.size W0 W6a := (BP6.out _).trans (hj6.2.mono (BP6.out _).size)
  have HJ6 := Lib.hid hj6; clear hj6
  generalize hf6 : joinFault xs [⟨s, K, 3⟩] = f6 at *
  have HF6 := Lib.hid hf6; clear hf6
  have HKC6 := Lib.hid (KW.out _ hc6a)
  go_wp2_with (show wpList _ _ _ (⟨_, Op.load 23 _, _, _, _, _⟩ :: _) _ _
               go_must (refine load_blk (by rfl) 23 _ (by rfl) w.heap.size 0 32 23 _ (by rfl) HKC6.out _ Tryd.underlying23 rfl Tryd.infoDig (by rw [List.length_map, hK'.out]; omega) (K.map B) (by rw [List.drop_zero, List.take_of_length_le (by rw [List.length_map, hK'.out]; omega)]) ?_))
  refine (trust_any xs n c A s K _ (XW.out _ hc6a) hxc hK'.out hsx hs).mono ?_
  rintro e W6b ⟨u6, rfl, hk6⟩
  have hc6b : Below W0.heap.size W0 W6b := hc6a.trans (hk6.2.mono hc6a.size)
  have HK6 := Lib.hid hk6; clear hk6
  rw [HF6.out]
  generalize hev6 : errV (errOf f6) = ev6 at *
  have HEV6 := Lib.hid hev6; clear hev6
  go_wp2_with fail
  rw [← HEV6.out]
  refine (error_any (errOf f6) f6 _ (DW.out _ hc6b)).mono ?_
  rintro e W6c ⟨rfl, hb6c⟩
  have hc6c : Below W0.heap.size W0 W6c := hc6b.trans (hb6c.mono hc6b.size)
  rw [decide_eq_true (errN_errOf _)]
  obtain ⟨Au6, cu6, rfl, ru6⟩ := HK6.out.rd hb6c X.out.keys (fun x hx => by rw [List.mem_singleton.1 hx]; exact hK'.out)
  obtain ⟨Av6, cv6, rfl, rv6⟩ := HJ6.out.rd (HK6.out.2.trans (hb6c.mono HK6.out.2.size)) X.out.keys (fun x hx => by rw [List.mem_singleton.1 hx]; exact hK'.out)
  have hl6 := joinOf_len xs [⟨s, K, 3⟩]
  have RU6 := Lib.hid ru6; clear ru6
  have RV6 := Lib.hid rv6; clear rv6
  clear hb6c
  generalize hjl6 : joinOf xs [⟨s, K, 3⟩] = jl6 at *
  have HJL6 := Lib.hid hjl6; clear hjl6
  go_wp2_with fail
  refine (books_any _ _ _ _ _ _ _ _ _ RU6.out RV6.out (by omega)).mono ?_
  rintro e W6d ⟨rfl, q6, rfl⟩
  have hc6d : Below W0.heap.size W0 (W6c.drewN q6) := below_draws hc6c _
  rw [decide_eq_true rfl, sameBooks_refl]
  go_wp2_with fail
  go_ret
  exact ⟨rfl, BW.out _ hc6d⟩
end Go.Proofs.YtddehjgmmeoboaaDoor
