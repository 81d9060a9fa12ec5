/- Sorting and throwing out what is twice, and inserting in order without what is twice: the same. No program. No condition. -/
import Derived.Lib.SlicesCompact
namespace Go.Proofs.Ythbgoecgfoglnaa.Own
open Go.Lib
/-- t at its place in a sorted list, if it is not there. -/
def insI (t : Int) : List Int → List Int
  | [] => [t]
  | y :: r => if y < t then y :: insI t r else if y = t then y :: r else t :: y :: r
theorem insI_mem (t x : Int) : ∀ s, x ∈ insI t s ↔ x = t ∨ x ∈ s
  | [] => by simp [insI]
  | y :: r => by
    unfold insI
    split
    · simp only [List.mem_cons, insI_mem t x r]
      constructor
      · rintro (h | h | h) <;> simp [h]
      · rintro (h | h | h) <;> simp [h]
    · split
      · rename_i h
        subst h
        simp
      · simp
theorem insI_up (t : Int) : ∀ s, s.Pairwise (· < ·) → (insI t s).Pairwise (· < ·)
  | [], _ => by simp [insI]
  | y :: r, h => by
    obtain ⟨h1, h2⟩ := List.pairwise_cons.1 h
    unfold insI
    split
    · rename_i hy
      refine List.pairwise_cons.2 ⟨fun z hz => ?_, insI_up t r h2⟩
      rcases (insI_mem t z r).1 hz with rfl | hz
      · exact hy
      · exact h1 z hz
    · split
      · exact h
      · rename_i ha hb
        refine List.pairwise_cons.2 ⟨fun z hz => ?_, h⟩
        rcases List.mem_cons.1 hz with rfl | hz
        · omega
        · have := h1 z hz
          omega
/-- How many stand before t's place. -/
def insN (t : Int) : List Int → Nat
  | [] => 0
  | y :: r => if y < t then insN t r + 1 else 0
theorem insN_le (t : Int) : ∀ s, insN t s ≤ s.length
  | [] => by simp [insN]
  | y :: r => by
    unfold insN
    have := insN_le t r
    split <;> simp <;> omega
theorem insI_eq (t : Int) : ∀ s, insI t s = if s[insN t s]? = some t then s else s.take (insN t s) ++ t :: s.drop (insN t s)
  | [] => by simp [insI, insN]
  | y :: r => by
    unfold insI insN
    by_cases h : y < t
    · rw [if_pos h, if_pos h, insI_eq t r]
      simp only [List.getElem?_cons_succ]
      split <;> simp
    · rw [if_neg h, if_neg h]
      by_cases h2 : y = t
      · simp [h2]
      · simp [h2]
/-- The place is where the elements begin to be t or more. -/
theorem insN_lt (t : Int) : ∀ (s : List Int) (i : Nat), i < insN t s → ∃ y, s[i]? = some y ∧ y < t
  | [], i, h => by simp [insN] at h
  | y :: r, i, h => by
    unfold insN at h
    by_cases hy : y < t
    · rw [if_pos hy] at h
      cases i with
      | zero => exact ⟨y, rfl, hy⟩
      | succ i => exact insN_lt t r i (by omega)
    · rw [if_neg hy] at h
      omega
theorem insN_ge (t : Int) : ∀ (s : List Int) (y : Int), s[insN t s]? = some y → ¬ y < t
  | [], y, h => by simp [insN] at h
  | z :: r, y, h => by
    unfold insN at h
    by_cases hy : z < t
    · rw [if_pos hy] at h
      exact insN_ge t r y h
    · rw [if_neg hy] at h
      simp at h
      omega
theorem up_unique : ∀ (s u : List Int), s.Pairwise (· < ·) → u.Pairwise (· < ·) → (∀ x, x ∈ s ↔ x ∈ u) → s = u
  | [], [], _, _, _ => rfl
  | [], y :: r, _, _, h => by have := (h y).2 (by simp); simp at this
  | y :: r, [], _, _, h => by have := (h y).1 (by simp); simp at this
  | y :: r, z :: q, hs, hu, h => by
    obtain ⟨h1, h2⟩ := List.pairwise_cons.1 hs
    obtain ⟨g1, g2⟩ := List.pairwise_cons.1 hu
    have e : y = z := by
      have a := (h y).1 (by simp)
      have b := (h z).2 (by simp)
      rcases List.mem_cons.1 a with a | a
      · exact a
      · rcases List.mem_cons.1 b with b | b
        · exact b.symm
        · have := g1 y a
          have := h1 z b
          omega
    subst e
    rw [up_unique r q h2 g2 fun x => ?_]
    constructor
    · intro hx
      have := (h x).1 (by simp [hx])
      rcases List.mem_cons.1 this with rfl | hq
      · have := h1 x hx
        omega
      · exact hq
    · intro hx
      have := (h x).2 (by simp [hx])
      rcases List.mem_cons.1 this with rfl | hq
      · have := g1 x hx
        omega
      · exact hq
theorem compact_up (d : Array Int) (hd : ∀ i j, i ≤ j → j < d.size → d[i]! ≤ d[j]!) : ∀ m, m ≤ d.size → (compactUpTo d m).Pairwise (· < ·) ∧ ∀ x, x ∈ compactUpTo d m ↔ ∃ j, j < m ∧ d[j]! = x
  | 0, _ => by simp [compactUpTo]
  | m + 1, hm => by
    obtain ⟨h1, h2⟩ := compact_up d hd m (by omega)
    rw [compactUpTo_succ]
    by_cases hk : keeps d m = true
    · rw [if_pos hk]
      constructor
      · rw [List.pairwise_append]
        refine ⟨h1, by simp, fun x hx y hy => ?_⟩
        obtain ⟨j, hj, rfl⟩ := (h2 x).1 hx
        simp only [List.mem_singleton] at hy
        subst hy
        have a := hd j (m - 1) (by omega) (by omega)
        have b := hd (m - 1) m (by omega) (by omega)
        have hne : d[m]! ≠ d[m - 1]! := by
          unfold keeps at hk
          have := of_decide_eq_true hk
          rcases this with h | h
          · omega
          · exact h
        omega
      · intro x
        rw [List.mem_append, h2]
        simp only [List.mem_singleton]
        constructor
        · rintro (⟨j, hj, e⟩ | rfl)
          · exact ⟨j, by omega, e⟩
          · exact ⟨m, by omega, rfl⟩
        · rintro ⟨j, hj, e⟩
          by_cases hjm : j = m
          · subst hjm
            exact .inr e.symm
          · exact .inl ⟨j, by omega, e⟩
    · rw [if_neg hk]
      simp only [List.append_nil]
      refine ⟨h1, fun x => ?_⟩
      rw [h2]
      have hq : m ≠ 0 ∧ d[m]! = d[m - 1]! := by
        constructor
        · intro h
          exact hk (by simp [keeps, h])
        · exact Classical.byContradiction fun h => hk (by simp [keeps, h])
      constructor
      · rintro ⟨j, hj, e⟩
        exact ⟨j, by omega, e⟩
      · rintro ⟨j, hj, e⟩
        by_cases hjm : j = m
        · subst hjm
          exact ⟨j - 1, by omega, by rw [← hq.2]; exact e⟩
        · exact ⟨j, by omega, e⟩
def insAll (l : List Int) : List Int := l.foldl (fun s t => insI t s) []
theorem insAll_up : ∀ (l s : List Int), s.Pairwise (· < ·) → (l.foldl (fun s t => insI t s) s).Pairwise (· < ·) ∧ ∀ x, x ∈ l.foldl (fun s t => insI t s) s ↔ x ∈ l ∨ x ∈ s
  | [], s, h => ⟨h, by simp⟩
  | t :: r, s, h => by
    obtain ⟨a, b⟩ := insAll_up r (insI t s) (insI_up t s h)
    refine ⟨a, fun x => ?_⟩
    rw [List.foldl_cons, b, insI_mem]
    simp only [List.mem_cons]
    constructor
    · rintro (h | h | h) <;> simp [h]
    · rintro ((h | h) | h) <;> simp [h]
/-- Sorted, then each once: inserted one by one. -/
theorem sort_compact (l : List Int) : compact (l.mergeSort fun x y => decide (x ≤ y)) = insAll l := by
  have hs := List.pairwise_mergeSort (le := fun x y : Int => decide (x ≤ y)) (fun a b c h1 h2 => by simp at *; omega) (fun a b => by simp; omega) l
  generalize hq : (l.mergeSort fun x y => decide (x ≤ y)) = s at hs
  have hd : ∀ i j, i ≤ j → j < s.toArray.size → s.toArray[i]! ≤ s.toArray[j]! := by
    intro i j hij hj
    simp only [List.size_toArray] at hj
    have hi : i < s.length := by omega
    rw [getElem!_pos _ _ (by simpa using hi), getElem!_pos _ _ (by simpa using hj)]
    simp only [List.getElem_toArray]
    by_cases e : i = j
    · subst e
      exact Int.le_refl _
    · have := List.pairwise_iff_getElem.1 hs i j hi hj (by omega)
      simpa using this
  obtain ⟨a, b⟩ := compact_up s.toArray hd s.length (by simp)
  obtain ⟨c, d⟩ := insAll_up l [] (by simp)
  refine up_unique _ _ a c fun x => ?_
  show x ∈ compactUpTo s.toArray s.length ↔ x ∈ insAll l
  rw [b]
  unfold insAll
  rw [d]
  have hm : x ∈ l ↔ x ∈ s := by rw [← hq]; exact (List.mem_mergeSort).symm
  rw [hm]
  constructor
  · rintro ⟨j, hj, e⟩
    rw [getElem!_pos _ _ (by simpa using hj)] at e
    subst e
    simp
  · intro h
    have h : x ∈ s := by simpa using h
    obtain ⟨j, hj, e⟩ := List.mem_iff_getElem.1 h
    exact ⟨j, hj, by rw [getElem!_pos _ _ (by simpa using hj)]; simpa using e⟩
end Go.Proofs.Ythbgoecgfoglnaa.Own
