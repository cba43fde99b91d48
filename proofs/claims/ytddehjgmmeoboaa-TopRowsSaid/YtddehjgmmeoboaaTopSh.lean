/- For TopRows: any so many of the rows that were spread are shares that tell the rows again. -/
import Derived.Test.YtddehjgmmeoboaaTopLib
import Derived.Test.YtddehjgmmeoboaaGather
namespace Go.Proofs.Ytddehjgmmeoboaa
open Go.RowKit

def pickAts (ws : List Int) : List UInt8 := ws.map fun x => UInt8.ofNat x.toNat
def pickRows (rows : List (List UInt8)) (ws : List Int) : List (List UInt8) := ws.map fun x => rows.getD x.toNat []
theorem getD_mem {α : Type} (l : List α) (i : Nat) (d : α) (h : i < l.length) : l.getD i d ∈ l := by
  rw [List.getD_eq_getElem?_getD, List.getElem?_eq_getElem h]; exact List.getElem_mem h
theorem getD_map {α β : Type} (l : List α) (f : α → β) (i : Nat) (d : α) (e : β) (h : i < l.length) : (l.map f).getD i e = f (l.getD i d) := by
  rw [List.getD_eq_getElem?_getD, List.getD_eq_getElem?_getD, List.getElem?_map, List.getElem?_eq_getElem h]; rfl

theorem sh_of {w : World} {As : Option Addr} {k cs : Nat} {vs2 : List Value} {ban : Nat → Prop} {ws : List Int} {rows : List (List UInt8)} {M : Nat} (h : Rd w 2 As k cs (shareCells vs2 ws)) (hl : ws.length = k)
    (hr : RdRows w vs2 (rows.map (·.map B)) ban) (hM : rows.length = M) (hb : ∀ x ∈ ws, 0 ≤ x ∧ x < M) : RdSh w As k cs (pickAts ws) (pickRows rows ws) := by
  refine ⟨h.cap, h.lid, by simp [pickAts, hl], by simp [pickRows, hl], fun i hi => ?_⟩
  have hil : i < ws.length := by omega
  have hlen := shareCells_len vs2 ws
  obtain ⟨c0, c1⟩ := shareCells_at vs2 ws i hil
  obtain ⟨hx0, hxM⟩ := hb _ (getD_mem ws i 0 hil)
  generalize hx : ws.getD i 0 = x at *
  have hX : x.toNat < (rows.map (fun r : List UInt8 => r.map B)).length := by rw [List.length_map]; omega
  obtain ⟨ad, rfl, had, e0⟩ := h.cell (show i * 2 < (shareCells vs2 ws).length by omega)
  obtain ⟨ad', e', _, e1⟩ := h.cell (show i * 2 + 1 < (shareCells vs2 ws).length by omega)
  injection e' with e'; subst e'
  obtain ⟨A', c', hv, hrd⟩ := hr.at_ hX
  rw [List.getElem?_eq_getElem (by omega)] at c0 c1
  injection c0 with c0; injection c1 with c1
  rw [c0] at e0; rw [c1] at e1
  have ea : (pickAts ws).getD i 0 = UInt8.ofNat x.toNat := by rw [pickAts, getD_map ws _ i 0 0 hil, hx]
  have er : (pickRows rows ws).getD i [] = rows.getD x.toNat [] := by rw [pickRows, getD_map ws _ i 0 [] hil, hx]
  have eg : (rows.map (fun r : List UInt8 => r.map B))[x.toNat] = (rows.getD x.toNat []).map B := by
    rw [List.getElem_map, List.getD_eq_getElem?_getD, List.getElem?_eq_getElem (by rw [List.length_map] at hX; exact hX)]; rfl
  have ev : vs2.getD x.toNat undef = .slice A' (rows.getD x.toNat []).length c' := by
    rw [List.getD_eq_getElem?_getD, hv, eg, List.length_map]; rfl
  rw [eg, List.length_map] at hrd
  rw [ev] at e1
  exact ⟨ad, A', c', rfl, had, by rw [ea]; exact e0, by rw [er]; exact e1, by rw [er]; exact hrd⟩

theorem pickAts_nodup (ws : List Int) (hn : ws.Nodup) (hb : ∀ x ∈ ws, 0 ≤ x ∧ x < 256) : (pickAts ws).Nodup := by
  unfold pickAts
  rw [List.nodup_iff_pairwise_ne, List.pairwise_map]
  refine List.Pairwise.imp_of_mem ?_ (List.nodup_iff_pairwise_ne.1 hn)
  intro a b ha hb' hne e
  obtain ⟨a0, a1⟩ := hb a ha
  obtain ⟨b0, b1⟩ := hb b hb'
  have := congrArg UInt8.toNat e
  rw [UInt8.toNat_ofNat', UInt8.toNat_ofNat'] at this
  omega
theorem pickAts_lt (ws : List Int) {M : Nat} (hb : ∀ x ∈ ws, 0 ≤ x ∧ x < (M : Int)) (hM : M ≤ 20) : ∀ a ∈ pickAts ws, a.toNat < 20 := by
  intro a ha
  obtain ⟨x, hx, rfl⟩ := List.mem_map.1 ha
  obtain ⟨h0, h1⟩ := hb x hx
  rw [UInt8.toNat_ofNat']; omega

theorem spreadTo_at (rows : List (List UInt8)) (m M p : Nat) (hp : p < M) (hM : rows.length ≤ M) (hr : ∀ r ∈ rows, r.length = m) (hpos : rows.length ≤ 256) :
    (spreadTo rows m M).getD p [] = rowAt (places rows.length) rows m (UInt8.ofNat p) := by
  unfold spreadTo
  rw [List.getD_eq_getElem?_getD]
  by_cases h : p < rows.length
  · rw [List.getElem?_append_left h, List.getElem?_eq_getElem h]
    show rows[p] = _
    have hl := hr _ (List.getElem_mem h)
    refine List.ext_getElem (by simp [rowAt, hl]) fun q h1 h2 => ?_
    have hpl : p < (places rows.length).length := by rw [places_len]; exact h
    have e : UInt8.ofNat p = (places rows.length).getD p 0 := by
      rw [List.getD_eq_getElem?_getD, places]; simp [h]
    simp only [rowAt, List.getElem_map, List.getElem_range]
    rw [e, Gf.through_at _ _ (places_nodup hpos) p hpl, getD_map rows _ p [] 0 h, List.getD_eq_getElem?_getD (l := rows), List.getElem?_eq_getElem h]
    show rows[p][q] = rows[p].getD q 0
    rw [List.getD_eq_getElem?_getD, List.getElem?_eq_getElem h1]; rfl
  · rw [List.getElem?_append_right (by omega), List.getElem?_map, List.getElem?_range (by omega)]
    show rowAt _ _ _ (UInt8.ofNat (rows.length + (p - rows.length))) = _
    rw [show rows.length + (p - rows.length) = p by omega]

/-- REED AND SOLOMON. -/
theorem gathered_back (rows : List (List UInt8)) (ws : List Int) (m M k : Nat) (hk : rows.length = k) (hr : ∀ r ∈ rows, r.length = m) (hl : ws.length = k) (hn : ws.Nodup) (hb : ∀ x ∈ ws, 0 ≤ x ∧ x < (M : Int)) (hkM : k ≤ M) (hM : M ≤ 256) :
    gathered (pickAts ws) (pickRows (spreadTo rows m M) ws) m k = rows := by
  have hla : (pickAts ws).length = k := by simp [pickAts, hl]
  refine List.ext_getElem (by rw [gathered_len, hk]) fun j h1 h2 => ?_
  have hjk : j < k := by omega
  have hlj := hr _ (List.getElem_mem h2)
  have eg : (gathered (pickAts ws) (pickRows (spreadTo rows m M) ws) m k)[j] = rowAt (pickAts ws) (pickRows (spreadTo rows m M) ws) m (UInt8.ofNat j) := by simp [gathered]
  rw [eg]
  have key : ∀ q, q < m → Gf.through (pickAts ws) ((pickRows (spreadTo rows m M) ws).map (·.getD q 0)) (UInt8.ofNat j) = Gf.through (places rows.length) (rows.map (·.getD q 0)) (UInt8.ofNat j) := by
    intro q hq
    have hf : Gf.PolyLt k (Gf.through (places rows.length) (rows.map (·.getD q 0))) := by
      have := Gf.through_poly (places rows.length) (rows.map (·.getD q 0))
      rw [places_len, hk] at this; rw [hk]; exact this
    refine Gf.through_tells hf _ _ (pickAts_nodup ws hn (fun x hx => ⟨(hb x hx).1, by have := (hb x hx).2; omega⟩)) (by omega) (fun i hi => ?_) _
    have hiw : i < ws.length := by omega
    have hip : i < (pickRows (spreadTo rows m M) ws).length := by simp [pickRows]; omega
    obtain ⟨x0, x1⟩ := hb _ (getD_mem ws i 0 hiw)
    rw [getD_map _ _ i [] 0 hip, pickRows, getD_map ws _ i 0 [] hiw, pickAts, getD_map ws _ i 0 0 hiw]
    rw [spreadTo_at rows m M _ (by omega) (by omega) hr (by omega)]
    unfold rowAt
    rw [getD_map _ _ q 0 0 (by simpa using hq)]
    congr 1
    rw [List.getD_eq_getElem?_getD, List.getElem?_range hq]; rfl
  have e := spreadTo_at rows m M j (by omega) (by omega) hr (by omega)
  have e2 : (spreadTo rows m M).getD j [] = rows[j] := by
    unfold spreadTo
    rw [List.getD_eq_getElem?_getD, List.getElem?_append_left h2, List.getElem?_eq_getElem h2]; rfl
  rw [← e2, e]
  unfold rowAt
  refine List.map_congr_left fun q hq => ?_
  exact key q (List.mem_range.1 hq)
end Go.Proofs.Ytddehjgmmeoboaa
