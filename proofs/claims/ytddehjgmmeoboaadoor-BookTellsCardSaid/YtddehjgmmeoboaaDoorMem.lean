/- Words for memory that the walks use: a slice that reads as a list, rows of the call's own, append of one element. -/
import Derived.Test.YtddehjgmmeoboaaDoorProg
import Derived.WalkKit
import Derived.WalkSpells
import Derived.WalkLawsBesides
import Derived.Maps.AppendAt
import Derived.Deep.AppendLies
import Derived.Lib.Hide
import Derived.Lib.AppendZeros
import Derived.Lib.ConvBytes
import Derived.Deep.Draws
import Derived.Laws.IdiomStrings
namespace Go.Proofs.YtddehjgmmeoboaaDoor
open Go.RowKit

abbrev B (a : UInt8) : Value := .int .u8 (a.toNat : Int)
theorem mapB_get {l : List UInt8} {k : Nat} (h : k < (l.map B).length) : (l.map B)[k] = B (l.getD k 0) := by
  have h2 : k < l.length := by simpa using h
  simp [List.getD_eq_getElem?_getD, h2]
theorem Tryd.infoU8 : (Tryd.prog.info? 5).map (fun i => (i.zero, i.size, i.bytes)) = some (some (.int .u8 0), 1, 1) := by kernel_rfl
theorem addr_block (a : Addr) (n : Nat) : (a.add n).block = a.block := by unfold Addr.add; split <;> rfl

theorem add_next (ad : Addr) (k : Nat) : ad.add (k + 1) = ⟨(ad.add k).block, (ad.add k).off + 1, none⟩ := by
  unfold Addr.add
  by_cases h : k = 0
  · subst h; simp
  · simp [h]; omega
/-- The slice value '.slice A n c' reads, in w, as the cells xs (sz cells an element). -/
structure Rd (w : World) (sz : Nat) (A : Option Addr) (n c : Nat) (xs : List Value) : Prop where
  cap : n ≤ c
  lid : c ≤ maxLen
  nil_ : A = none → c = 0
  len : xs.length = n * sz
  at_ : 0 < n → ∃ ad, A = some ad ∧ ad.block < w.heap.size ∧ ∀ j u, xs[j]? = some u → w.cell? (ad.add j) = some u
section
variable {w w' : World} {sz n c : Nat} {A : Option Addr} {xs : List Value}
theorem Rd.below (h : Rd w sz A n c xs) {B : Nat} (hb : Below B w w') (hB : w.heap.size ≤ B) : Rd w' sz A n c xs :=
  ⟨h.cap, h.lid, h.nil_, h.len, fun hn => by
    obtain ⟨ad, e, hl, hc⟩ := h.at_ hn
    exact ⟨ad, e, Nat.lt_of_lt_of_le hl hb.size, fun j u hu => (hb.cell (by rw [addr_block]; omega)).trans (hc j u hu)⟩⟩
theorem Rd.below' (h : Rd w sz A n c xs) (hb : Below w.heap.size w w') : Rd w' sz A n c xs := h.below hb (Nat.le_refl _)
theorem Rd.drew (h : Rd w sz A n c xs) : Rd w.drew sz A n c xs := ⟨h.cap, h.lid, h.nil_, h.len, h.at_⟩
theorem Rd.drewN (h : Rd w sz A n c xs) (k : Nat) : Rd (w.drewN k) sz A n c xs := ⟨h.cap, h.lid, h.nil_, h.len, h.at_⟩
theorem Rd.cell (h : Rd w sz A n c xs) {j : Nat} (hj : j < xs.length) : ∃ ad, A = some ad ∧ ad.block < w.heap.size ∧ w.cell? (ad.add j) = some xs[j] := by
  have hn : 0 < n := by
    rcases Nat.eq_zero_or_pos n with h0 | h0
    · have := h.len; rw [h0, Nat.zero_mul] at this; omega
    · exact h0
  obtain ⟨ad, e, hl, hc⟩ := h.at_ hn
  exact ⟨ad, e, hl, hc j _ (List.getElem?_eq_getElem hj)⟩
theorem Rd.byte {l : List UInt8} (h : Rd w 1 A n c (l.map B)) {k : Nat} (hk : k < n) : ∃ ad, A = some ad ∧ ad.block < w.heap.size ∧ w.cell? (ad.add k) = some (B (l.getD k 0)) := by
  have hl : k < (l.map B).length := by have := h.len; omega
  obtain ⟨ad, e, hb, hc⟩ := h.cell hl
  exact ⟨ad, e, hb, by rw [hc, mapB_get]⟩
theorem add_off (ad : Addr) (k j : Nat) : (⟨ad.block, ad.off + k, none⟩ : Addr).add j = ⟨ad.block, ad.off + k + j, none⟩ := by unfold Addr.add; split <;> simp_all
theorem add_pos (ad : Addr) {k : Nat} (h : 0 < k) : ad.add k = ⟨ad.block, ad.off + k, none⟩ := by unfold Addr.add; rw [if_neg (by omega)]
/-- A slice of a slice from place k > 0 on, elements of one cell. -/
theorem Rd.from_ {ad : Addr} (h : Rd w 1 (some ad) n c xs) {k m d : Nat} (h0 : 0 < k) (hk : k + m ≤ n) (hm : m ≤ d) (hd : d ≤ c) : Rd w 1 (some ⟨ad.block, ad.off + k, none⟩) m d ((xs.drop k).take m) := by
  have hl := h.len
  refine ⟨hm, Nat.le_trans hd h.lid, (fun h => by cases h), by simp; omega, fun hp => ?_⟩
  obtain ⟨ad', e, hb, hc⟩ := h.at_ (by omega)
  injection e with e; subst e
  refine ⟨_, rfl, hb, fun j u hu => ?_⟩
  rw [List.getElem?_take] at hu
  split at hu
  · rw [List.getElem?_drop] at hu
    have := hc (k + j) u hu
    rw [add_pos ad (by omega), ← Nat.add_assoc] at this
    rw [add_off]; exact this
  · cases hu
theorem Rd.grown_ {ad : Addr} (h : Rd w sz (some ad) n c xs) {row : Option Nat} (hg : w.grownBy w' row) (hr : some ad.block ≠ row) : Rd w' sz (some ad) n c xs :=
  ⟨h.cap, h.lid, h.nil_, h.len, fun hn => by
    obtain ⟨ad', e, hl, hc⟩ := h.at_ hn
    injection e with e; subst e
    exact ⟨ad, rfl, Nat.lt_of_lt_of_le hl hg.size, fun j u hu => hg.cell (hc j u hu) (by rw [addr_block]; exact hr)⟩⟩
theorem Rd.none_ (w : World) (sz : Nat) : Rd w sz none 0 0 [] := ⟨Nat.le_refl _, Nat.zero_le _, fun _ => rfl, by simp, fun h => absurd h (by omega)⟩
theorem own_rd {base : Nat} {e : TypeId} {v : Value} (h : w.ownsRow base e sz v n xs) : ∃ A c, v = .slice A n c ∧ Rd w sz A n c xs := by
  rcases h.2 with ⟨rfl, rfl⟩ | ⟨g, cap, cur, rfl, hb, hh, hc, hm, hs, ht⟩
  · exact ⟨none, 0, rfl, Nat.le_refl _, Nat.zero_le _, fun _ => rfl, h.1, fun h0 => absurd h0 (by omega)⟩
  · exact ⟨some ⟨g, 0, none⟩, cap, rfl, hc, hm, (fun h0 => by cases h0), h.1, fun _ => ⟨_, rfl, (h.lt g rfl).2, h.cells rfl⟩⟩
theorem own_rd_base {base : Nat} {e : TypeId} {v : Value} (h : w.ownsRow base e sz v n xs) : ∃ A c, v = .slice A n c ∧ Rd w sz A n c xs ∧ ∀ ad, A = some ad → base ≤ ad.block := by
  obtain ⟨A, c, rfl, hr⟩ := own_rd h
  exact ⟨A, c, rfl, hr, fun ad hA => (h.lt ad.block (by rw [hA]; rfl)).1⟩
theorem own_below {base B : Nat} {e : TypeId} {v : Value} (h : w.ownsRow base e sz v n xs) (hb : Below B w w') (hB : w.heap.size ≤ B) : w'.ownsRow base e sz v n xs :=
  h.kept (row := none) ⟨hb.os, hb.tape, hb.output, hb.size, fun k hk _ => hb.block k (by omega)⟩ (by cases hv : v.ownBlock <;> simp)
theorem own_base {base base' : Nat} {e : TypeId} {v : Value} (h : w.ownsRow base e sz v n xs) (hb : base' ≤ base) : w.ownsRow base' e sz v n xs := by
  refine ⟨h.1, ?_⟩
  rcases h.2 with hn | ⟨g, cap, cur, rfl, hbg, rest⟩
  · exact .inl hn
  · exact .inr ⟨g, cap, cur, rfl, by omega, rest⟩
end

/-- A slice of slices: n rows, each of which reads (row i as the cells rows[i]). -/
structure RdM (w : World) (A : Option Addr) (n c : Nat) (rows : List (List Value)) : Prop where
  cap : n ≤ c
  lid : c ≤ maxLen
  len : rows.length = n
  at_ : ∀ i (h : i < rows.length), ∃ ad A' c', A = some ad ∧ ad.block < w.heap.size ∧ w.cell? (ad.add i) = some (.slice A' rows[i].length c') ∧ Rd w 1 A' rows[i].length c' rows[i]
theorem RdM.below {w w' : World} {n c : Nat} {A : Option Addr} {rows : List (List Value)} (h : RdM w A n c rows) {B : Nat} (hb : Below B w w') (hB : w.heap.size ≤ B) : RdM w' A n c rows :=
  ⟨h.cap, h.lid, h.len, fun i hi => by
    obtain ⟨ad, A', c', e, hl, hc, hr⟩ := h.at_ i hi
    exact ⟨ad, A', c', e, Nat.lt_of_lt_of_le hl hb.size, (hb.cell (by rw [addr_block]; omega)).trans hc, hr.below hb hB⟩⟩

/-- append of one element of one cell to a row of the call's own: the element lies in a block that was just made. -/
theorem app1 {P : Program} {wr : World} {ops : Array Oper} {rest : List Oper} {o : Oper} {a : Act} {Q : Exit → Act → World → Prop} (hgd : o.guard = none) (s x : Operand) (t : TypeId)
    (ho : o.op = .call { callee := .builtin .append, args := #[s, x], argTypes := #[t, t] })
    (base : Nat) (e : TypeId) (i : TypeInfo) (z : Value) (bytes : Nat) (ht : P.underlying t = some (.slice e)) (hi : P.info? e = some i) (hz : i.zero = some z)
    (hsize : i.size = 1) (hby : i.bytes = bytes) (hzs : z.cells.size = 1)
    (v : Value) (n : Nat) (xs : List Value) (u : Value) (hs : a.eval s = v) (hown : wr.ownsRow base e 1 v n xs)
    (hx : a.eval x = .slice (some ⟨wr.heap.size, 0, none⟩) 1 1) (h1 : u.oneCell' = true)
    (h63 : n + 1 ≤ maxLen) (hbytes : (n + 1) * bytes ≤ 140737488355328) (hbase : base ≤ wr.heap.size)
    (h : ∀ v' w', w'.ownsRow base e 1 v' (n + 1) (xs ++ [u]) → Below base wr w' → wr.grownBy w' v.ownBlock → (v'.ownBlock = v.ownBlock ∨ v'.ownBlock = some (wr.heap.size + 1)) → wpList P ops Q rest (a.put o.dst v') w') :
    wpList P ops Q (o :: rest) a (wr.alloc (.cells #[u] e)) := by
  refine wpList_append_own_at (P := P) (wr.alloc (.cells #[u] e)) hgd s x t ho base e i z 1 bytes ht hi hz hsize hby hzs (by omega) v n xs hs (hown.alloc _) ⟨wr.heap.size, 0, none⟩ 1 1 [u] hx rfl (cell_one_new _ _ _) (by intro y hy; simp at hy; subst hy; exact h1) h63 hbytes (by simp; omega) ?_
  intro v' w' h2 h3 _ h5
  have hg : wr.grownBy w' v.ownBlock := (World.grownBy_alloc wr _ _).trans h3
  exact h v' w' h2 ((Below.refl _ _).grown hg hbase (fun k hk => (hown.lt k hk).1)) hg (by simpa using h5)

/-- append of what any slice reads to a row of the call's own. -/
theorem run_app {P : Program} (w : World) (base : Nat) (t ty e : TypeId) (i : TypeInfo) (z : Value) (size bytes : Nat) (ht : P.underlying t = some (.slice e)) (hi : P.info? e = some i) (hz : i.zero = some z)
    (hsize : i.size = size) (hby : i.bytes = bytes) (hzs : z.cells.size = size) (hsz : 0 < size)
    (v : Value) (n : Nat) (xs : List Value) (hown : w.ownsRow base e size v n xs)
    (A : Option Addr) (m c : Nat) (news : List Value) (hr : Rd w size A m c news) (h1 : ∀ u ∈ news, u.oneCell' = true)
    (h63 : n + m ≤ maxLen) (hbytes : (n + m) * bytes ≤ 140737488355328) (hbase : base ≤ w.heap.size) :
    ∃ v' w', (Builtin.append_ #[t, t] ty #[v, .slice A m c]).run P w = .ok v' w' ∧ w'.ownsRow base e size v' (n + m) (xs ++ news) ∧ Below base w w' ∧ w.grownBy w' v.ownBlock ∧ (v'.ownBlock = v.ownBlock ∨ v'.ownBlock = some w.heap.size) := by
  have below : ∀ w', w.grownBy w' v.ownBlock → Below base w w' := fun w' hg => (Below.refl _ _).grown hg hbase (fun k hk => (hown.lt k hk).1)
  cases A with
  | none =>
    have hc := hr.nil_ rfl
    have hm : m = 0 := by have := hr.cap; omega
    subst hc; subst hm
    have hn : news = [] := List.eq_nil_of_length_eq_zero (by simpa using hr.len)
    subst hn
    exact ⟨v, w, run_append_owned_none (P := P) (w := w) base t ty e i size ht hi v n xs hown, by simpa using hown, Below.refl _ _, ⟨rfl, rfl, rfl, Nat.le_refl _, fun _ _ _ => rfl⟩, .inl rfl⟩
  | some ad =>
    have hnews : ∀ j u, news[j]? = some u → w.cell? (ad.add j) = some u := by
      intro j u hu
      have hm : 0 < m := by
        rcases Nat.eq_zero_or_pos m with h0 | h0
        · subst h0
          have hn : news = [] := List.eq_nil_of_length_eq_zero (by simpa using hr.len)
          subst hn; simp at hu
        · exact h0
      obtain ⟨ad', e', _, hc⟩ := hr.at_ hm
      injection e' with e'; subst e'
      exact hc j u hu
    obtain ⟨v', w', hrun, h2, h3, _, h5⟩ := run_append_own_at (P := P) w base t ty e i z size bytes ht hi hz hsize hby hzs hsz v n xs hown ad m c news hr.len hnews h1 h63 hbytes hbase
    exact ⟨v', w', hrun, h2, below _ h3, h3, h5⟩
theorem mapB_one (l : List UInt8) : ∀ u ∈ l.map B, u.oneCell' = true := by
  intro u hu
  obtain ⟨b, _, rfl⟩ := List.mem_map.1 hu
  rfl

theorem rd_cell1 (w : World) (x : Value) (T : TypeId) : Rd (w.alloc (.cells #[x] T)) 1 (some ⟨w.heap.size, 0, none⟩) 1 1 [x] :=
  ⟨Nat.le_refl _, by unfold maxLen; omega, (fun h => by cases h), rfl, fun _ => ⟨_, rfl, by simp, cell_one_new _ _ _⟩⟩
theorem rd_bytes (W : World) (e : TypeId) (s : ByteArray) (hs : s.size ≤ 70368744177664) : Rd (Lib.bytesWorld W e s) 1 (some ⟨W.heap.size, 0, none⟩) s.size (grownCap W s.size 0 e) (s.data.toList.map B) := by
  refine ⟨grownCap_ge _ _ _ _, grownCap_le_maxLen _ _ _ _ (by unfold maxLen; omega), (fun h => by cases h), by simp, fun _ => ⟨_, rfl, by rw [Lib.bytesWorld_size]; simp, fun j u hu => ?_⟩⟩
  have hj : j < s.size := by
    have := (List.getElem?_eq_some_iff.1 hu).1
    simpa using this
  have e1 : (⟨W.heap.size, 0, none⟩ : Addr).add j = ⟨W.heap.size, j, none⟩ := by unfold Addr.add; split <;> simp_all
  rw [e1, Lib.bytesWorld_cell W e s j hj, ← hu]
  have hj' : j < s.data.toList.length := by simpa using hj
  rw [List.getElem?_map, List.getElem?_eq_getElem hj', List.getD_eq_getElem?_getD, List.getElem?_eq_getElem hj']
  rfl
theorem below_bytes {B0 : Nat} {a W : World} (h : Below B0 a W) (hB : B0 ≤ W.heap.size) (e : TypeId) (s : ByteArray) : Below B0 a (Lib.bytesWorld W e s) :=
  h.trans ⟨rfl, rfl, rfl, by rw [Lib.bytesWorld_size]; omega, fun k hk => Lib.bytesWorld_at_old W e s k (by omega)⟩
theorem rd_row {W : World} {b o n : Nat} {cs : Array Value} {T : TypeId} {fr : Nat × Nat} (h : W.heap[b]? = some (.cells cs T fr)) (xs : List Value) (hl : xs.length = n) (hn : n ≤ maxLen) (hx : ∀ j u, xs[j]? = some u → cs[o + j]? = some u) : Rd W 1 (some ⟨b, o, none⟩) n n xs := by
  refine ⟨Nat.le_refl _, hn, (fun h => by cases h), by omega, fun _ => ⟨_, rfl, ?_, fun j u hu => ?_⟩⟩
  · rcases Nat.lt_or_ge b W.heap.size with h1 | h1
    · exact h1
    · rw [Array.getElem?_eq_none h1] at h; cases h
  · have e1 : (⟨b, o, none⟩ : Addr).add j = ⟨b, o + j, none⟩ := by unfold Addr.add; split <;> simp_all
    rw [e1, cell_of_row W b (o + j) cs T fr h]
    exact hx j u hu
theorem rdm4 {W : World} {b : Nat} (hb : b = W.heap.size) {A1 A2 A3 A4 : Option Addr} {n1 n2 n3 n4 c1 c2 c3 c4 : Nat} {x1 x2 x3 x4 : List Value} (T : TypeId)
    (h1 : Rd W 1 A1 n1 c1 x1) (h2 : Rd W 1 A2 n2 c2 x2) (h3 : Rd W 1 A3 n3 c3 x3) (h4 : Rd W 1 A4 n4 c4 x4) :
    RdM (W.alloc (.cells #[.slice A1 n1 c1, .slice A2 n2 c2, .slice A3 n3 c3, .slice A4 n4 c4] T)) (some ⟨b, 0, none⟩) 4 4 [x1, x2, x3, x4] := by
  subst hb
  have l1 : x1.length = n1 := by have := h1.len; omega
  have l2 : x2.length = n2 := by have := h2.len; omega
  have l3 : x3.length = n3 := by have := h3.len; omega
  have l4 : x4.length = n4 := by have := h4.len; omega
  have hb := (Below.refl W.heap.size W).alloc (Nat.le_refl _) (.cells #[.slice A1 n1 c1, .slice A2 n2 c2, .slice A3 n3 c3, .slice A4 n4 c4] T)
  refine ⟨Nat.le_refl _, by unfold maxLen; omega, rfl, fun i hi => ?_⟩
  have hn := heap_alloc_new W (.cells #[.slice A1 n1 c1, .slice A2 n2 c2, .slice A3 n3 c3, .slice A4 n4 c4] T)
  have hc : ∀ j, (W.alloc (.cells #[.slice A1 n1 c1, .slice A2 n2 c2, .slice A3 n3 c3, .slice A4 n4 c4] T)).cell? ((⟨W.heap.size, 0, none⟩ : Addr).add j) = (#[.slice A1 n1 c1, .slice A2 n2 c2, .slice A3 n3 c3, .slice A4 n4 c4] : Array Value)[j]? := by
    intro j
    have e1 : (⟨W.heap.size, 0, none⟩ : Addr).add j = ⟨W.heap.size, j, none⟩ := by unfold Addr.add; split <;> simp_all
    rw [e1, cell_of_row _ _ j _ T (0, 0) hn]
  match i, hi with
  | 0, _ => exact ⟨_, A1, c1, rfl, by simp, by rw [hc]; simp [l1], by simp only [List.getElem_cons_zero]; rw [l1]; exact h1.below' hb⟩
  | 1, _ => exact ⟨_, A2, c2, rfl, by simp, by rw [hc]; simp [l2], by simp only [List.getElem_cons_succ, List.getElem_cons_zero]; rw [l2]; exact h2.below' hb⟩
  | 2, _ => exact ⟨_, A3, c3, rfl, by simp, by rw [hc]; simp [l3], by simp only [List.getElem_cons_succ, List.getElem_cons_zero]; rw [l3]; exact h3.below' hb⟩
  | 3, _ => exact ⟨_, A4, c4, rfl, by simp, by rw [hc]; simp [l4], by simp only [List.getElem_cons_succ, List.getElem_cons_zero]; rw [l4]; exact h4.below' hb⟩

theorem own_fin {w W w' : World} {e : TypeId} {sz n : Nat} {v : Value} {xs : List Value} (h : Below w.heap.size w W) (hb : Below W.heap.size W w') (ho : w'.ownsRow W.heap.size e sz v n xs) : w'.ownsRow w.heap.size e sz v n xs ∧ Below w.heap.size w w' :=
  ⟨own_base ho h.size, h.trans (hb.mono h.size)⟩

/-- 'string(b)' of bytes. -/
theorem run_string {P : Program} {w : World} {A : Option Addr} {n c : Nat} {l : List UInt8} (h : Rd w 1 A n c (l.map B)) (hn : 0 < n) (src dst e : TypeId) (hs : P.underlying src = some (.slice e)) (he : P.underlying e = some (.int .u8)) (hd : P.underlying dst = some .string) :
    (convert src dst (.slice A n c)).run P w = .ok (.string ⟨l.toArray⟩) w := by
  have hl : l.length = n := by have := h.len; simpa using this
  subst hl
  obtain ⟨ad, rfl, _, hc⟩ := h.at_ hn
  exact run_convert_bytes_back (P := P) w src dst e ad c l hs he hd (fun j hj => hc j _ (by rw [List.getElem?_map, List.getElem?_eq_getElem hj]; rfl))

/-- append at a step of a region that draws its order: for go_region_law, go_region_held3. -/
theorem wp_app {P : Program} {w : World} {o : Oper} {a : Act} {K : Act → World → Prop} {Q : Exit → Act → World → Prop} (s x : Operand) (t : TypeId)
    (ho : o.op = .call { callee := .builtin .append, args := #[s, x], argTypes := #[t, t] })
    (base : Nat) (e : TypeId) (i : TypeInfo) (z : Value) (size bytes : Nat) (ht : P.underlying t = some (.slice e)) (hi : P.info? e = some i) (hz : i.zero = some z)
    (hsize : i.size = size) (hby : i.bytes = bytes) (hzs : z.cells.size = size) (hsz : 0 < size)
    (v : Value) (n : Nat) (xs : List Value) (hs : a.eval s = v) (hown : w.ownsRow base e size v n xs)
    (A : Option Addr) (m c : Nat) (news : List Value) (hx : a.eval x = .slice A m c) (hr : Rd w size A m c news) (h1 : ∀ u ∈ news, u.oneCell' = true)
    (h63 : n + m ≤ maxLen) (hbytes : (n + m) * bytes ≤ 140737488355328) (hbase : base ≤ w.heap.size)
    (h : ∀ v' w', w'.ownsRow base e size v' (n + m) (xs ++ news) → Below base w w' → w.grownBy w' v.ownBlock → (v'.ownBlock = v.ownBlock ∨ v'.ownBlock = some w.heap.size) → K (a.put o.dst v') w') :
    Oper.wp P o a w K Q := by
  obtain ⟨v', w', hrun, h2, h3, h4, h5⟩ := run_app (P := P) w base t o.type e i z size bytes ht hi hz hsize hby hzs hsz v n xs hown A m c news hr h1 h63 hbytes hbase
  unfold Oper.wp execOp
  simp only [ho, resolve, invoke, builtin, Sem.run_bind, Sem.run_pure, Result.andThen_ok, List.map_toArray, List.map_cons, List.map_nil, hs, hx, hrun]
  exact h v' w' h2 h3 h4 h5
end Go.Proofs.YtddehjgmmeoboaaDoor
