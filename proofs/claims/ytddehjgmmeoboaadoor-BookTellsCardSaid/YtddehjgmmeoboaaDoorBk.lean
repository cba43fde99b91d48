/- Books, in plain Lean: names in order, the program's merge, the reference's search for the next name; they tell one book. -/
import Derived.RowKit
namespace Go.Proofs.YtddehjgmmeoboaaDoor

namespace Bk
/-- Is a text ahead of another one? -/
def less : List UInt8 → List UInt8 → Bool
  | [], [] => false
  | [], _ :: _ => true
  | _ :: _, [] => false
  | a :: as, b :: bs => if a = b then less as bs else decide (a.toNat < b.toNat)
theorem less_irrefl : ∀ a, less a a = false
  | [] => rfl
  | a :: as => by simp [less, less_irrefl as]
theorem less_trans : ∀ {a b c}, less a b = true → less b c = true → less a c = true
  | [], [], _, h, _ => by simp [less] at h
  | [], _ :: _, [], _, h => by simp [less] at h
  | [], _ :: _, _ :: _, _, _ => rfl
  | _ :: _, [], _, h, _ => by simp [less] at h
  | _ :: _, _ :: _, [], _, h => by simp [less] at h
  | a :: as, b :: bs, c :: cs, h, h' => by
    unfold less at h h' ⊢
    by_cases e : a = b
    · subst e
      rw [if_pos rfl] at h
      by_cases e' : a = c
      · subst e'
        rw [if_pos rfl] at h' ⊢
        exact less_trans h h'
      · rw [if_neg e'] at h' ⊢; exact h'
    · rw [if_neg e] at h
      by_cases e' : b = c
      · subst e'
        rw [if_neg e]; exact h
      · rw [if_neg e'] at h'
        simp only [decide_eq_true_eq] at h h'
        have hne : a ≠ c := by intro e2; subst e2; omega
        rw [if_neg hne]
        simp only [decide_eq_true_eq]
        omega
theorem less_total : ∀ a b, less a b = true ∨ a = b ∨ less b a = true
  | [], [] => .inr (.inl rfl)
  | [], _ :: _ => .inl rfl
  | _ :: _, [] => .inr (.inr rfl)
  | a :: as, b :: bs => by
    unfold less
    by_cases e : a = b
    · subst e
      rw [if_pos rfl, if_pos rfl]
      rcases less_total as bs with h | h | h
      · exact .inl h
      · exact .inr (.inl (by rw [h]))
      · exact .inr (.inr h)
    · rw [if_neg e, if_neg (fun h => e h.symm)]
      simp only [decide_eq_true_eq]
      have : a.toNat ≠ b.toNat := fun h => e (UInt8.toNat_inj.1 h)
      omega
theorem less_asymm {a b : List UInt8} (h : less a b = true) : less b a = false := by
  cases h' : less b a with
  | false => rfl
  | true => have := less_trans h h'; rw [less_irrefl] at this; cases this
theorem less_nil {a : List UInt8} (h : a ≠ []) : less [] a = true := by
  cases a with
  | nil => exact absurd rfl h
  | cons x xs => rfl
theorem less_ne {a b : List UInt8} (h : less a b = true) : b ≠ [] := by
  intro e; subst e
  cases a <;> simp [less] at h

/-- The reference's search: the least name that is behind 'last'; [] where there is none. -/
def step (last : List UInt8) (nx s : List UInt8) : List UInt8 := if less last s && (decide (nx = []) || less s nx) then s else nx
def next (last : List UInt8) (l : List (List UInt8)) : List UInt8 := l.foldl (step last) []
/-- What the search holds. -/
structure Least (last : List UInt8) (l : List (List UInt8)) (m : List UInt8) : Prop where
  none_ : m = [] → ∀ s ∈ l, less last s = false
  in_ : m ≠ [] → m ∈ l ∧ less last m = true ∧ ∀ s ∈ l, less last s = true → less s m = false
theorem step_least {last : List UInt8} {l : List (List UInt8)} {m : List UInt8} (h : Least last l m) (s : List UInt8) : Least last (l ++ [s]) (step last m s) := by
  unfold step
  by_cases h1 : less last s = true
  · have hs := less_ne h1
    by_cases hm : m = []
    · subst hm
      simp only [h1, decide_true, Bool.true_or, Bool.and_true, if_true]
      refine ⟨fun e => absurd e hs, fun _ => ⟨by simp, h1, fun t ht hlt => ?_⟩⟩
      rcases List.mem_append.1 ht with h2 | h2
      · rw [h.none_ rfl t h2] at hlt; cases hlt
      · simp at h2; subst h2; exact less_irrefl _
    · obtain ⟨m1, m2, m3⟩ := h.in_ hm
      by_cases h2 : less s m = true
      · simp only [h1, h2, Bool.or_true, Bool.and_true, if_true]
        refine ⟨fun e => absurd e hs, fun _ => ⟨by simp, h1, fun t ht hlt => ?_⟩⟩
        rcases List.mem_append.1 ht with h3 | h3
        · cases h4 : less t s with
          | false => rfl
          | true => have := less_trans h4 h2; rw [m3 t h3 hlt] at this; cases this
        · simp at h3; subst h3; exact less_irrefl _
      · simp only [h1, h2, hm, decide_false, Bool.or_false, Bool.and_false, Bool.false_eq_true, if_false]
        refine ⟨fun e => absurd e hm, fun _ => ⟨List.mem_append_left _ m1, m2, fun t ht hlt => ?_⟩⟩
        rcases List.mem_append.1 ht with h3 | h3
        · exact m3 t h3 hlt
        · simp at h3; subst h3; simpa using h2
  · have h1' : less last s = false := by simpa using h1
    simp only [h1', Bool.false_and, Bool.false_eq_true, if_false]
    refine ⟨fun e t ht => ?_, fun hm => ?_⟩
    · rcases List.mem_append.1 ht with h2 | h2
      · exact h.none_ e t h2
      · simp at h2; subst h2; exact h1'
    · obtain ⟨m1, m2, m3⟩ := h.in_ hm
      refine ⟨List.mem_append_left _ m1, m2, fun t ht hlt => ?_⟩
      rcases List.mem_append.1 ht with h3 | h3
      · exact m3 t h3 hlt
      · simp at h3; subst h3; rw [h1'] at hlt; cases hlt
theorem fold_least (last : List UInt8) : ∀ (l done : List (List UInt8)) (m : List UInt8), Least last done m → Least last (done ++ l) (l.foldl (step last) m)
  | [], done, m, h => by simpa using h
  | s :: l, done, m, h => by
    have := fold_least last l (done ++ [s]) _ (step_least h s)
    simpa using this
theorem next_least (last : List UInt8) (l : List (List UInt8)) : Least last l (next last l) := by
  have := fold_least last l [] [] ⟨(fun _ s hs => by cases hs), fun h => absurd rfl h⟩
  simpa [next] using this
theorem least_unique {last : List UInt8} {l : List (List UInt8)} {m m' : List UInt8} (h : Least last l m) (h' : Least last l m') : m = m' := by
  by_cases e : m = []
  · by_cases e' : m' = []
    · rw [e, e']
    · obtain ⟨a, b, _⟩ := h'.in_ e'
      rw [h.none_ e _ a] at b; cases b
  · obtain ⟨a, b, c⟩ := h.in_ e
    by_cases e' : m' = []
    · rw [h'.none_ e' _ a] at b; cases b
    · obtain ⟨a', b', c'⟩ := h'.in_ e'
      rcases less_total m m' with h1 | h1 | h1
      · rw [c' _ a b] at h1; cases h1
      · exact h1
      · rw [c _ a' b'] at h1; cases h1

section
variable {α : Type} (nm : α → List UInt8) (one : α → α → α)
/-- The program's merge. -/
def merge : List α → List α → List α
  | [], b => b
  | x :: a, [] => x :: a
  | x :: a, y :: b => if less (nm x) (nm y) then x :: merge a (y :: b) else if less (nm y) (nm x) then y :: merge (x :: a) b else one x y :: merge a b
termination_by a b => a.length + b.length
theorem merge_nil_right (a : List α) : merge nm one a [] = a := by cases a <;> simp [merge]
theorem merge_nil_left (b : List α) : merge nm one [] b = b := by simp [merge]
def known (l : List α) (n : List UInt8) : Option α := l.find? fun x => decide (nm x = n)
def pick (d : α) (a b : List α) (n : List UInt8) : α :=
  match known nm a n, known nm b n with
  | some x, some y => one x y
  | some x, none => x
  | none, some y => y
  | none, none => d
def Sorted (l : List α) : Prop := l.Pairwise fun x y => less (nm x) (nm y) = true

variable {nm} {one}
theorem known_mid {l1 l2 : List α} {x : α} (h : ∀ u ∈ l1, nm u ≠ nm x) : known nm (l1 ++ x :: l2) (nm x) = some x := by
  unfold known
  rw [List.find?_append]
  have : l1.find? (fun u => decide (nm u = nm x)) = none := by
    rw [List.find?_eq_none]
    intro u hu; simpa using h u hu
  rw [this]; simp
theorem known_none {l : List α} {n : List UInt8} (h : ∀ u ∈ l, nm u ≠ n) : known nm l n = none := by
  unfold known
  rw [List.find?_eq_none]
  intro u hu; simpa using h u hu

/-- Between the rounds of the reference: what is behind 'last' is still to be merged. -/
structure St (nm : α → List UInt8) (one : α → α → α) (a b : List α) (last : List UInt8) (out : List α) : Prop where
  ex : ∃ a1 a2 b1 b2, a = a1 ++ a2 ∧ b = b1 ++ b2 ∧ (∀ x ∈ a1, less last (nm x) = false) ∧ (∀ x ∈ a2, less last (nm x) = true) ∧ (∀ x ∈ b1, less last (nm x) = false) ∧ (∀ x ∈ b2, less last (nm x) = true) ∧ out ++ merge nm one a2 b2 = merge nm one a b
theorem St.start {a b : List α} (ha : ∀ x ∈ a, nm x ≠ []) (hb : ∀ x ∈ b, nm x ≠ []) : St nm one a b [] [] :=
  ⟨[], a, [], b, rfl, rfl, (fun _ h => by cases h), fun x hx => less_nil (ha x hx), (fun _ h => by cases h), fun x hx => less_nil (hb x hx), rfl⟩
theorem past {last n : List UInt8} {l : List α} (h : ∀ u ∈ l, less last (nm u) = false) (hn : less last n = true) : ∀ u ∈ l, less n (nm u) = false := by
  intro u hu
  cases h1 : less n (nm u) with
  | false => rfl
  | true => have := less_trans hn h1; rw [h u hu] at this; cases this
theorem past_ne {last n : List UInt8} {l : List α} (h : ∀ u ∈ l, less last (nm u) = false) (hn : less last n = true) : ∀ u ∈ l, nm u ≠ n := by
  intro u hu e
  have := h u hu
  rw [e, hn] at this; cases this
theorem ahead_ne {n : List UInt8} {l : List α} (h : ∀ u ∈ l, less n (nm u) = true) : ∀ u ∈ l, nm u ≠ n := by
  intro u hu e
  have := h u hu
  rw [e, less_irrefl] at this; cases this
theorem sorted_tail {l1 l2 : List α} {x : α} (h : Sorted nm (l1 ++ x :: l2)) : ∀ u ∈ l2, less (nm x) (nm u) = true := by
  have := (List.pairwise_append.1 h).2.1
  exact (List.pairwise_cons.1 this).1
theorem past_snoc {n : List UInt8} {l : List α} {x : α} (h : ∀ u ∈ l, less n (nm u) = false) (hx : nm x = n) : ∀ u ∈ l ++ [x], less n (nm u) = false := by
  intro u hu
  rcases List.mem_append.1 hu with h1 | h1
  · exact h u h1
  · simp at h1; subst h1; rw [hx]; exact less_irrefl _

theorem St.round {a b : List α} {last : List UInt8} {out : List α} (ha : Sorted nm a) (hb : Sorted nm b) (h : St nm one a b last out) (d : α) :
    (next last ((a ++ b).map nm) = [] → out = merge nm one a b) ∧
    (next last ((a ++ b).map nm) ≠ [] → St nm one a b (next last ((a ++ b).map nm)) (out ++ [pick nm one d a b (next last ((a ++ b).map nm))]) ∧ out.length < (merge nm one a b).length) := by
  obtain ⟨a1, a2, b1, b2, rfl, rfl, h1, h2, h3, h4, h5⟩ := h.ex
  have hle := next_least last (((a1 ++ a2) ++ (b1 ++ b2)).map nm)
  generalize next last (((a1 ++ a2) ++ (b1 ++ b2)).map nm) = n at *
  cases a2 with
  | nil =>
    cases b2 with
    | nil =>
      have hn : n = [] := least_unique hle ⟨fun _ s hs => by
        simp only [List.append_nil, List.map_append, List.mem_append, List.mem_map] at hs
        rcases hs with ⟨u, hu, rfl⟩ | ⟨u, hu, rfl⟩
        · exact h1 u hu
        · exact h3 u hu, fun e => absurd rfl e⟩
      subst hn
      exact ⟨fun _ => by simpa [merge] using h5, fun e => absurd rfl e⟩
    | cons y b2 =>
      have hy := h4 y (by simp)
      have ht := sorted_tail hb
      have hn : n = nm y := least_unique hle ⟨fun e => absurd e (less_ne hy), fun _ => ⟨by simp, hy, fun s hs hl => by
        simp only [List.append_nil, List.map_append, List.mem_append, List.mem_map, List.map_cons, List.mem_cons] at hs
        rcases hs with ⟨u, hu, rfl⟩ | ⟨u, hu, rfl⟩ | rfl | ⟨u, hu, rfl⟩
        · rw [h1 u hu] at hl; cases hl
        · rw [h3 u hu] at hl; cases hl
        · exact less_irrefl _
        · exact less_asymm (ht u hu)⟩⟩
      subst hn
      have hk : pick nm one d (a1 ++ []) (b1 ++ y :: b2) (nm y) = y := by
        unfold pick
        rw [List.append_nil, known_none (past_ne h1 hy), known_mid (past_ne h3 hy)]
      rw [hk]
      refine ⟨fun e => absurd e (less_ne hy), fun _ => ⟨⟨a1, [], b1 ++ [y], b2, rfl, by simp, past h1 hy, (fun _ h => by cases h), past_snoc (past h3 hy) rfl, ht, ?_⟩, ?_⟩⟩
      · rw [← h5]; simp [merge]
      · rw [← h5]; simp [merge]
  | cons x a2 =>
    have hx := h2 x (by simp)
    have hta := sorted_tail ha
    cases b2 with
    | nil =>
      have hn : n = nm x := least_unique hle ⟨fun e => absurd e (less_ne hx), fun _ => ⟨by simp, hx, fun s hs hl => by
        simp only [List.append_nil, List.map_append, List.mem_append, List.mem_map, List.map_cons, List.mem_cons] at hs
        rcases hs with (⟨u, hu, rfl⟩ | rfl | ⟨u, hu, rfl⟩) | ⟨u, hu, rfl⟩
        · rw [h1 u hu] at hl; cases hl
        · exact less_irrefl _
        · exact less_asymm (hta u hu)
        · rw [h3 u hu] at hl; cases hl⟩⟩
      subst hn
      have hk : pick nm one d (a1 ++ x :: a2) (b1 ++ []) (nm x) = x := by
        unfold pick
        rw [List.append_nil, known_none (past_ne h3 hx), known_mid (past_ne h1 hx)]
      rw [hk]
      refine ⟨fun e => absurd e (less_ne hx), fun _ => ⟨⟨a1 ++ [x], a2, b1, [], by simp, rfl, past_snoc (past h1 hx) rfl, hta, past h3 hx, (fun _ h => by cases h), ?_⟩, ?_⟩⟩
      · rw [← h5, merge_nil_right, merge_nil_right]; simp
      · rw [← h5, merge_nil_right]; simp
    | cons y b2 =>
      have hy := h4 y (by simp)
      have htb := sorted_tail hb
      rcases less_total (nm x) (nm y) with hxy | hxy | hxy
      · have hyb : ∀ u ∈ y :: b2, less (nm x) (nm u) = true := by
          intro u hu
          rcases List.mem_cons.1 hu with rfl | hu
          · exact hxy
          · exact less_trans hxy (htb u hu)
        have hn : n = nm x := least_unique hle ⟨fun e => absurd e (less_ne hx), fun _ => ⟨by simp, hx, fun s hs hl => by
          simp only [List.map_append, List.mem_append, List.mem_map, List.map_cons] at hs
          rcases hs with (⟨u, hu, rfl⟩ | hs) | (⟨u, hu, rfl⟩ | hs)
          · rw [h1 u hu] at hl; cases hl
          · rcases List.mem_cons.1 hs with rfl | hs
            · exact less_irrefl _
            · obtain ⟨u, hu, rfl⟩ := List.mem_map.1 hs
              exact less_asymm (hta u hu)
          · rw [h3 u hu] at hl; cases hl
          · rw [← List.map_cons] at hs
            obtain ⟨u, hu, rfl⟩ := List.mem_map.1 hs
            exact less_asymm (hyb u hu)⟩⟩
        subst hn
        have hk : pick nm one d (a1 ++ x :: a2) (b1 ++ y :: b2) (nm x) = x := by
          unfold pick
          rw [known_mid (past_ne h1 hx), known_none (l := b1 ++ y :: b2)]
          intro u hu
          rcases List.mem_append.1 hu with hu | hu
          · exact past_ne h3 hx u hu
          · exact ahead_ne hyb u hu
        rw [hk]
        have hm : merge nm one (x :: a2) (y :: b2) = x :: merge nm one a2 (y :: b2) := by rw [merge, if_pos hxy]
        refine ⟨fun e => absurd e (less_ne hx), fun _ => ⟨⟨a1 ++ [x], a2, b1, y :: b2, by simp, rfl, past_snoc (past h1 hx) rfl, hta, past h3 hx, hyb, ?_⟩, ?_⟩⟩
        · rw [← h5, hm]; simp
        · rw [← h5, hm]; simp
      · have hn : n = nm x := least_unique hle ⟨fun e => absurd e (less_ne hx), fun _ => ⟨by simp, hx, fun s hs hl => by
          simp only [List.map_append, List.mem_append, List.mem_map, List.map_cons] at hs
          rcases hs with (⟨u, hu, rfl⟩ | hs) | (⟨u, hu, rfl⟩ | hs)
          · rw [h1 u hu] at hl; cases hl
          · rcases List.mem_cons.1 hs with rfl | hs
            · exact less_irrefl _
            · obtain ⟨u, hu, rfl⟩ := List.mem_map.1 hs
              exact less_asymm (hta u hu)
          · rw [h3 u hu] at hl; cases hl
          · rcases List.mem_cons.1 hs with rfl | hs
            · rw [hxy]; exact less_irrefl _
            · obtain ⟨u, hu, rfl⟩ := List.mem_map.1 hs
              rw [hxy]; exact less_asymm (htb u hu)⟩⟩
        subst hn
        have hk : pick nm one d (a1 ++ x :: a2) (b1 ++ y :: b2) (nm x) = one x y := by
          unfold pick
          rw [known_mid (past_ne h1 hx), hxy, known_mid (past_ne h3 hy)]
        rw [hk]
        have hm : merge nm one (x :: a2) (y :: b2) = one x y :: merge nm one a2 b2 := by
          rw [merge, if_neg (by rw [hxy, less_irrefl]; simp), if_neg (by rw [hxy, less_irrefl]; simp)]
        refine ⟨fun e => absurd e (less_ne hx), fun _ => ⟨⟨a1 ++ [x], a2, b1 ++ [y], b2, by simp, by simp, past_snoc (past h1 hx) rfl, hta, past_snoc (past h3 hx) hxy.symm, by rw [hxy]; exact htb, ?_⟩, ?_⟩⟩
        · rw [← h5, hm]; simp
        · rw [← h5, hm]; simp
      · have hxa : ∀ u ∈ x :: a2, less (nm y) (nm u) = true := by
          intro u hu
          rcases List.mem_cons.1 hu with rfl | hu
          · exact hxy
          · exact less_trans hxy (hta u hu)
        have hn : n = nm y := least_unique hle ⟨fun e => absurd e (less_ne hy), fun _ => ⟨by simp, hy, fun s hs hl => by
          simp only [List.map_append, List.mem_append, List.mem_map, List.map_cons] at hs
          rcases hs with (⟨u, hu, rfl⟩ | hs) | (⟨u, hu, rfl⟩ | hs)
          · rw [h1 u hu] at hl; cases hl
          · rw [← List.map_cons] at hs
            obtain ⟨u, hu, rfl⟩ := List.mem_map.1 hs
            exact less_asymm (hxa u hu)
          · rw [h3 u hu] at hl; cases hl
          · rcases List.mem_cons.1 hs with rfl | hs
            · exact less_irrefl _
            · obtain ⟨u, hu, rfl⟩ := List.mem_map.1 hs
              exact less_asymm (htb u hu)⟩⟩
        subst hn
        have hk : pick nm one d (a1 ++ x :: a2) (b1 ++ y :: b2) (nm y) = y := by
          unfold pick
          rw [known_none (l := a1 ++ x :: a2), known_mid (past_ne h3 hy)]
          intro u hu
          rcases List.mem_append.1 hu with hu | hu
          · exact past_ne h1 hy u hu
          · exact ahead_ne hxa u hu
        rw [hk]
        have hm : merge nm one (x :: a2) (y :: b2) = y :: merge nm one (x :: a2) b2 := by
          rw [merge, if_neg (by rw [less_asymm hxy]; simp), if_pos hxy]
        refine ⟨fun e => absurd e (less_ne hy), fun _ => ⟨⟨a1, x :: a2, b1 ++ [y], b2, rfl, by simp, past h1 hy, hxa, past_snoc (past h3 hy) rfl, htb, ?_⟩, ?_⟩⟩
        · rw [← h5, hm]; simp
        · rw [← h5, hm]; simp
end
end Bk
end Go.Proofs.YtddehjgmmeoboaaDoor
