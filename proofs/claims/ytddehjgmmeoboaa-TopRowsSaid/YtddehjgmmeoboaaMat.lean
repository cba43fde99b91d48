/- Slices of slices that a call makes row by row. -/
import Derived.Test.YtddehjgmmeoboaaBlk
namespace Go.Proofs.Ytddehjgmmeoboaa
open Go.RowKit

/-- The slice values vs read as the rows; none lies in a block that is banned. -/
def RdRows (w : World) (vs : List Value) (rows : List (List Value)) (ban : Nat → Prop) : Prop :=
  vs.length = rows.length ∧ ∀ i (h : i < rows.length), ∃ A c, vs[i]? = some (.slice A rows[i].length c) ∧ Rd w 1 A rows[i].length c rows[i] ∧ ∀ ad, A = some ad → ¬ ban ad.block
section
variable {w w' : World} {vs : List Value} {rows : List (List Value)} {ban ban' : Nat → Prop}
theorem RdRows.nil_ (w : World) (ban : Nat → Prop) : RdRows w [] [] ban := ⟨rfl, fun i h => absurd h (by simp)⟩
theorem RdRows.below (h : RdRows w vs rows ban) {B : Nat} (hb : Below B w w') (hB : w.heap.size ≤ B) : RdRows w' vs rows ban :=
  ⟨h.1, fun i hi => by
    obtain ⟨A, c, e, hr, hn⟩ := h.2 i hi
    exact ⟨A, c, e, hr.below hb hB, hn⟩⟩
theorem RdRows.below' (h : RdRows w vs rows ban) (hb : Below w.heap.size w w') : RdRows w' vs rows ban := h.below hb (Nat.le_refl _)
theorem RdRows.drew (h : RdRows w vs rows ban) : RdRows w.drew vs rows ban :=
  ⟨h.1, fun i hi => by
    obtain ⟨A, c, e, hr, hn⟩ := h.2 i hi
    exact ⟨A, c, e, hr.drew, hn⟩⟩
theorem Rd.block_lt {sz n c : Nat} {ad : Addr} {xs : List Value} (h : Rd w sz (some ad) n c xs) (hn : 0 < n) : ad.block < w.heap.size := by
  obtain ⟨ad', e, hl, _⟩ := h.at_ hn
  injection e with e; subst e; exact hl
theorem RdRows.grown (h : RdRows w vs rows ban) {row : Option Nat} (hg : w.grownBy w' row) (hr : ∀ g, row = some g → ban g) : RdRows w' vs rows ban :=
  ⟨h.1, fun i hi => by
    obtain ⟨A, c, e, hrd, hn⟩ := h.2 i hi
    refine ⟨A, c, e, ?_, hn⟩
    cases A with
    | none => exact ⟨hrd.cap, hrd.lid, hrd.nil_, hrd.len, fun h0 => by obtain ⟨ad, e, _⟩ := hrd.at_ h0; cases e⟩
    | some ad => exact hrd.grown_ hg (fun e => hn ad rfl (hr _ e.symm))⟩
theorem RdRows.reban (h : RdRows w vs rows ban) (hb : ∀ g, ban' g → ban g ∨ w.heap.size ≤ g) (hn : ∀ r ∈ rows, 0 < r.length) : RdRows w vs rows ban' :=
  ⟨h.1, fun i hi => by
    obtain ⟨A, c, e, hrd, hno⟩ := h.2 i hi
    refine ⟨A, c, e, hrd, fun ad had hb' => ?_⟩
    subst had
    rcases hb _ hb' with h1 | h1
    · exact hno ad rfl h1
    · have := hrd.block_lt (hn _ (List.getElem_mem hi)); omega⟩
theorem RdRows.snoc (h : RdRows w vs rows ban) {A : Option Addr} {n c : Nat} {xs : List Value} (hr : Rd w 1 A n c xs) (hn : ∀ ad, A = some ad → ¬ ban ad.block) : RdRows w (vs ++ [.slice A n c]) (rows ++ [xs]) ban := by
  have hl : xs.length = n := by have := hr.len; omega
  refine ⟨by simp [h.1], fun i hi => ?_⟩
  by_cases hlt : i < rows.length
  · obtain ⟨A', c', e, hr', hn'⟩ := h.2 i hlt
    refine ⟨A', c', ?_, ?_, hn'⟩
    · rw [List.getElem?_append_left (by rw [h.1]; exact hlt), e, List.getElem_append_left hlt]
    · rw [List.getElem_append_left hlt]; exact hr'
  · have hi' : i = rows.length := by simp at hi; omega
    subst hi'
    refine ⟨A, c, ?_, ?_, hn⟩
    · have e1 : (vs ++ [Value.slice A n c])[rows.length]? = some (Value.slice A n c) := by rw [← h.1]; simp
      rw [e1]; simp [hl]
    · simp only [List.getElem_concat_length]; rw [hl]; exact hr
theorem RdRows.at_ (h : RdRows w vs rows ban) {i : Nat} (hi : i < rows.length) : ∃ A c, vs[i]? = some (.slice A rows[i].length c) ∧ Rd w 1 A rows[i].length c rows[i] := by
  obtain ⟨A, c, e, hr, _⟩ := h.2 i hi
  exact ⟨A, c, e, hr⟩
/-- A slice of slices that was made reads as a matrix. -/
theorem RdRows.rdm {base n : Nat} {e : TypeId} {v : Value} (h : RdRows w vs rows ban) (ho : w.ownsRow base e 1 v n vs) : ∃ A c, v = .slice A n c ∧ RdM w A n c rows ∧ Rd w 1 A n c vs := by
  obtain ⟨A, c, rfl, hr⟩ := own_rd ho
  refine ⟨A, c, rfl, ⟨hr.cap, hr.lid, ?_, fun i hi => ?_⟩, hr⟩
  · have := hr.len; rw [← h.1]; omega
  · obtain ⟨A', c', e', hr'⟩ := h.at_ hi
    have hn : 0 < n := by have := hr.len; have := h.1; omega
    obtain ⟨ad, rfl, hl, hc⟩ := hr.at_ hn
    exact ⟨ad, A', c', rfl, hl, hc i _ e', hr'⟩
end

theorem own_ne {w : World} {base base' : Nat} {e e' : TypeId} {size size' n n' : Nat} {v v' : Value} {xs xs' : List Value} (h : w.ownsRow base e size v n xs) (h' : w.ownsRow base' e' size' v' n' xs') (hne : e ≠ e') : v.ownBlock = none ∨ v.ownBlock ≠ v'.ownBlock := by
  rcases h.2 with ⟨rfl, _⟩ | ⟨g, cap, cur, rfl, _, hg, _⟩
  · exact .inl rfl
  · right
    rcases h'.2 with ⟨rfl, _⟩ | ⟨g', cap', cur', rfl, _, hg', _⟩
    · simp [Value.ownBlock]
    · intro e1
      simp only [Value.ownBlock, Option.some.injEq] at e1
      rw [e1, hg'] at hg
      simp only [Option.some.injEq, Obj.cells.injEq] at hg
      exact hne hg.2.1.symm
theorem own_kept_ty {w w' : World} {base base' : Nat} {e e' : TypeId} {size size' n n' : Nat} {v v' : Value} {xs xs' : List Value} (h : w.ownsRow base e size v n xs) (h' : w.ownsRow base' e' size' v' n' xs') (hne : e ≠ e') (hg : w.grownBy w' v'.ownBlock) : w'.ownsRow base e size v n xs :=
  h.kept hg (own_ne h h' hne)

def ban2 (v v' : Value) (g : Nat) : Prop := v.ownBlock = some g ∨ v'.ownBlock = some g
/-- A row of bytes and a slice of slices that one call makes side by side. -/
structure Two (w : World) (B0 : Nat) (vat vout : Value) (ats : List UInt8) (rows : List (List Value)) (vs : List Value) : Prop where
  oat : w.ownsRow B0 5 1 vat ats.length (ats.map B)
  out : w.ownsRow B0 26 1 vout rows.length vs
  rd : RdRows w vs rows (ban2 vat vout)
section
variable {w w' : World} {B0 : Nat} {vat vout : Value} {ats : List UInt8} {rows : List (List Value)} {vs : List Value}
theorem Two.start (w : World) (B0 : Nat) : Two w B0 (.slice none 0 0) (.slice none 0 0) [] [] [] :=
  ⟨World.ownsRow_nil _ _ _ _, World.ownsRow_nil _ _ _ _, RdRows.nil_ _ _⟩
theorem Two.below (h : Two w B0 vat vout ats rows vs) (hb : Below w.heap.size w w') : Two w' B0 vat vout ats rows vs :=
  ⟨own_below h.oat hb (Nat.le_refl _), own_below h.out hb (Nat.le_refl _), h.rd.below' hb⟩
theorem Two.drew (h : Two w B0 vat vout ats rows vs) : Two w.drew B0 vat vout ats rows vs := ⟨h.oat, h.out, h.rd.drew⟩
theorem Two.drewN (h : Two w B0 vat vout ats rows vs) (k : Nat) : Two (w.drewN k) B0 vat vout ats rows vs :=
  ⟨h.oat, h.out, h.rd.1, fun i hi => by
    obtain ⟨A, c, e, hr, hn⟩ := h.rd.2 i hi
    exact ⟨A, c, e, hr.drewN k, hn⟩⟩
theorem Two.at_append (h : Two w B0 vat vout ats rows vs) (hpos : ∀ r ∈ rows, 0 < r.length) {vat' : Value} {x : UInt8} (ho : w'.ownsRow B0 5 1 vat' (ats.length + 1) (ats.map B ++ [B x])) (hg : w.grownBy w' vat.ownBlock) (hat : vat'.ownBlock = vat.ownBlock ∨ ∃ k, w.heap.size ≤ k ∧ vat'.ownBlock = some k) :
    Two w' B0 vat' vout (ats ++ [x]) rows vs := by
  refine ⟨by simpa using ho, own_kept_ty h.out h.oat (by decide) hg, ?_⟩
  have h1 : RdRows w vs rows (ban2 vat' vout) := by
    refine h.rd.reban (fun g hgb => ?_) hpos
    rcases hgb with h2 | h2
    · rcases hat with h3 | ⟨k, h3, h4⟩
      · exact .inl (.inl (by rw [← h3]; exact h2))
      · rw [h4] at h2; injection h2 with h2; exact .inr (by omega)
    · exact .inl (.inr h2)
  have h2 : RdRows w' vs rows (ban2 vat vout) := h.rd.grown hg (fun g h => .inl h)
  refine ⟨h2.1, fun i hi => ?_⟩
  obtain ⟨A, c, e, hr, _⟩ := h2.2 i hi
  obtain ⟨A', c', e', _, hn'⟩ := h1.2 i hi
  rw [e] at e'
  injection e' with e'; injection e' with e1 e2 e3
  subst e1
  exact ⟨A, c, e, hr, hn'⟩
theorem Two.out_append (h : Two w B0 vat vout ats rows vs) (hpos : ∀ r ∈ rows, 0 < r.length) {A : Option Addr} {n c : Nat} {xs : List Value} (hr : Rd w 1 A n c xs) (hn : ∀ ad, A = some ad → ¬ ban2 vat vout ad.block) (hlen : 0 < xs.length)
    {vout' : Value} (ho : w'.ownsRow B0 26 1 vout' (rows.length + 1) (vs ++ [.slice A n c])) (hg : w.grownBy w' vout.ownBlock) (hat : vout'.ownBlock = vout.ownBlock ∨ ∃ k, w.heap.size ≤ k ∧ vout'.ownBlock = some k) :
    Two w' B0 vat vout' ats (rows ++ [xs]) (vs ++ [.slice A n c]) := by
  have h0 := h.rd.snoc hr hn
  have hpos' : ∀ r ∈ rows ++ [xs], 0 < r.length := by
    intro r hr
    rcases List.mem_append.1 hr with h | h
    · exact hpos r h
    · simp at h; subst h; exact hlen
  refine ⟨own_kept_ty h.oat h.out (by decide) hg, by simpa using ho, ?_⟩
  have h1 : RdRows w (vs ++ [.slice A n c]) (rows ++ [xs]) (ban2 vat vout') := by
    refine h0.reban (fun g hgb => ?_) hpos'
    rcases hgb with h2 | h2
    · exact .inl (.inl h2)
    · rcases hat with h3 | ⟨k, h3, h4⟩
      · exact .inl (.inr (by rw [← h3]; exact h2))
      · rw [h4] at h2; injection h2 with h2; exact .inr (by omega)
  have h2 : RdRows w' (vs ++ [.slice A n c]) (rows ++ [xs]) (ban2 vat vout) := h0.grown hg (fun g h => .inr h)
  refine ⟨h2.1, fun i hi => ?_⟩
  obtain ⟨A1, c1, e, hr1, _⟩ := h2.2 i hi
  obtain ⟨A2, c2, e', _, hn'⟩ := h1.2 i hi
  rw [e] at e'
  injection e' with e'; injection e' with e1 e2 e3
  subst e1
  exact ⟨A1, c1, e, hr1, hn'⟩
/-- What is fresh lies in neither. -/
theorem Two.fresh (h : Two w B0 vat vout ats rows vs) {k : Nat} (hk : w.heap.size ≤ k) : ¬ ban2 vat vout k := by
  intro hb
  rcases hb with h1 | h1
  · have := (h.oat.lt k h1).2; omega
  · have := (h.out.lt k h1).2; omega
end
theorem Two.not_old {w : World} {B0 : Nat} {vat vout : Value} {ats : List UInt8} {rows : List (List Value)} {vs : List Value} (h : Two w B0 vat vout ats rows vs) {k : Nat} (hk : k < B0) : ¬ ban2 vat vout k := by
  intro hb
  rcases hb with h1 | h1
  · have := (h.oat.lt k h1).1; omega
  · have := (h.out.lt k h1).1; omega
theorem Two.fresh_lt {w w' : World} {B0 : Nat} {vat vout : Value} {ats ats' : List UInt8} {rows rows' : List (List Value)} {vs vs' : List Value} (_h' : Two w' B0 vat vout ats' rows' vs') (h : Two w B0 vat vout ats rows vs) {k : Nat} (hk : w.heap.size ≤ k) : ¬ ban2 vat vout k := h.fresh hk
theorem Try.infoSl : (Try.prog.info? 26).map (fun i => (i.zero, i.size, i.bytes)) = some (some (.slice none 0 0), 1, 24) := by kernel_rfl
end Go.Proofs.Ytddehjgmmeoboaa
