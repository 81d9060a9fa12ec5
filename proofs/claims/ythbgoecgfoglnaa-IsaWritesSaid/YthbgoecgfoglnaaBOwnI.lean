/- What isa.Targets and tabardref17.Targets answer: the same. Condition: the list's length. -/
import Derived.Test.YthbgoecgfoglnaaBOwnG
import Derived.Test.YthbgoecgfoglnaaBOwnH
set_option linter.unusedVariables false
set_option linter.unusedSimpArgs false
namespace Go.Proofs.Ythbgoecgfoglnaa.PW
open Go.RowKit Go.Proofs.Ythbgoecgfoglnaa.PIsa Go.Proofs.Ythbgoecgfoglnaa.Own Go.Proofs.YthbgoecgfoglnaaW.PrintWords
theorem wr1 (i : Int) (h0 : 0 ≤ i) (h1 : i < 9223372036854775807) : wrap64 (i + 1) = i + 1 := by unfold wrap64; omega
def tgV : List S28 → List Int
  | [] => []
  | x :: r => if x.f0 = 24 ∨ x.f0 = 25 then x.f5 :: tgV r else tgV r
theorem tgV_len : ∀ l, (tgV l).length ≤ l.length
  | [] => by simp [tgV]
  | x :: r => by
    unfold tgV
    have := tgV_len r
    split <;> simp <;> omega
theorem rdT_drop (l : List S28) (i : Nat) (x : S28) (xs : List S28) (h : l.drop i = x :: xs) : rd_T28 l (i : Int) = x := by
  unfold rd_T28
  have h1 : l[i]? = some x := by
    have := congrArg (fun z => z[0]?) h
    simpa using this
  rw [Int.toNat_natCast, List.getD_eq_getElem?_getD, h1]
  rfl
theorem drop_lt {α : Type} (l : List α) (i : Nat) (x : α) (xs : List α) (h : l.drop i = x :: xs) : i < l.length ∧ l.drop (i + 1) = xs := by
  constructor
  · have := congrArg List.length h
    simp at this
    omega
  · rw [← List.drop_drop, h]
    rfl
theorem isa_l0 (l : List S28) (hl : l.length < 17592186044416) : ∀ (r : List S28) (i : Nat) (x3 : List Int), l.drop i = r → x3.length ≤ i → isa_Targets.l0 (r.length + 1) x3 l (l.length : Int) (i : Int) = some (x3 ++ tgV r)
  | [], i, x3, h, hx => by
    unfold isa_Targets.l0
    have : l.length ≤ i := by
      have := congrArg List.length h
      simp at this
      omega
    rw [if_neg (by omega)]
    simp [tgV]
  | y :: r, i, x3, h, hx => by
    obtain ⟨h1, h2⟩ := drop_lt l i y r h
    unfold isa_Targets.l0
    rw [if_pos (by omega), if_pos (by omega), if_pos (by omega), rdT_drop l i y r h]
    have e : wrap64 ((i : Int) + 1) = ((i + 1 : Nat) : Int) := by rw [wr1 _ (by omega) (by omega)]; omega
    rw [e]
    by_cases a : y.f0 = 24
    · have := isa_l0 l hl r (i + 1) (x3 ++ [y.f5]) h2 (by simp; omega)
      rw [if_pos a, if_pos (by omega), List.length_cons, this, tgV, if_pos (.inl a)]
      simp
    · rw [if_neg a]
      by_cases b : y.f0 = 25
      · have := isa_l0 l hl r (i + 1) (x3 ++ [y.f5]) h2 (by simp; omega)
        rw [if_pos b, if_pos (by omega), List.length_cons, this, tgV, if_pos (.inr b)]
        simp
      · rw [if_neg b, List.length_cons, isa_l0 l hl r (i + 1) x3 h2 (by omega), tgV, if_neg (by simp [a, b])]
theorem isa_f (l : List S28) (hl : l.length < 17592186044416) : isa_Targets.f (l.length + 1) l = some (tgV l) := by
  have := isa_l0 l hl l 0 [] rfl (by simp)
  simpa [isa_Targets.f] using this
/-- The search for the place, and the insertion. -/
theorem ref_l1 (l : List S28) (x4 : Int) (x3 : List Int) (hx : x3.length < 17592186044416) (t : Int) (K : Nat) (r : List Int) (h : tabardref17_Targets.l0 K l (insI t x3) (wrap64 (x4 + 1)) = some r) :
    ∀ (d p : Nat), p + d = insN t x3 → ∃ k, tabardref17_Targets.l1 k l x3 x4 t (p : Int) = some r
  | 0, p, hp => by
    have hp : p = insN t x3 := by omega
    refine ⟨K + 1, ?_⟩
    unfold tabardref17_Targets.l1
    have hle := insN_le t x3
    rw [insI_eq] at h
    by_cases a : p < x3.length
    · rw [if_pos (by omega), if_pos (by omega)]
      have hg : x3[insN t x3]? = some (rd x3 (p : Int)) := by
        rw [← hp]
        unfold rd
        rw [Int.toNat_natCast, List.getD_eq_getElem?_getD, List.getElem?_eq_getElem a]
        rfl
      have hn := insN_ge t x3 _ hg
      rw [if_neg hn]
      by_cases e : rd x3 (p : Int) = t
      · rw [if_pos e]
        rw [if_pos (by rw [hg, e])] at h
        exact h
      · rw [if_neg e, if_pos hx]
        rw [if_neg (by rw [hg]; simpa using e)] at h
        unfold insAt
        rw [Int.toNat_natCast, hp]
        exact h
    · have e : p = x3.length := by omega
      rw [if_neg (by omega), if_pos (by omega), if_pos hx]
      rw [if_neg (by rw [← hp, List.getElem?_eq_none (by omega)]; simp)] at h
      unfold insAt
      rw [Int.toNat_natCast, hp]
      exact h
  | d + 1, p, hp => by
    obtain ⟨k, hk⟩ := ref_l1 l x4 x3 hx t K r h d (p + 1) (by omega)
    obtain ⟨y, hy, hlt⟩ := insN_lt t x3 p (by omega)
    have hpl := (List.getElem?_eq_some_iff.1 hy).1
    refine ⟨k + 1, ?_⟩
    unfold tabardref17_Targets.l1
    have hr : rd x3 (p : Int) = y := by
      unfold rd
      rw [Int.toNat_natCast, List.getD_eq_getElem?_getD, hy]
      rfl
    rw [if_pos (by omega), if_pos (by omega), hr, if_pos hlt, wr1 _ (by omega) (by omega)]
    have e : ((p : Int) + 1) = ((p + 1 : Nat) : Int) := by omega
    rw [e]
    exact hk
theorem insI_len (t : Int) (s : List Int) : (insI t s).length ≤ s.length + 1 := by
  rw [insI_eq]
  have := insN_le t s
  split <;> simp <;> omega
theorem ref_l0 (l : List S28) (hl : l.length < 17592186044416) : ∀ (r : List S28) (i : Nat) (x3 : List Int), l.drop i = r → x3.length ≤ i → ∃ k, tabardref17_Targets.l0 k l x3 (i : Int) = some ((tgV r).foldl (fun s t => insI t s) x3)
  | [], i, x3, h, hx => by
    refine ⟨1, ?_⟩
    unfold tabardref17_Targets.l0
    have : l.length ≤ i := by
      have := congrArg List.length h
      simp at this
      omega
    rw [if_neg (by omega)]
    simp [tgV]
  | y :: r, i, x3, h, hx => by
    obtain ⟨h1, h2⟩ := drop_lt l i y r h
    have e : wrap64 ((i : Int) + 1) = ((i + 1 : Nat) : Int) := by rw [wr1 _ (by omega) (by omega)]; omega
    by_cases a : y.f0 = 24 ∨ y.f0 = 25
    · obtain ⟨K, hK⟩ := ref_l0 l hl r (i + 1) (insI y.f5 x3) h2 (by have := insI_len y.f5 x3; omega)
      obtain ⟨k, hk⟩ := ref_l1 l i x3 (by omega) y.f5 K _ (by rw [e]; exact hK) (insN y.f5 x3) 0 (by omega)
      refine ⟨k + 2, ?_⟩
      unfold tabardref17_Targets.l0
      rw [if_pos (by omega), if_pos (by omega), rdT_drop l i y r h]
      have hj : tabardref17_Targets.j1 (k + 1) l x3 (i : Int) false = some ((tgV (y :: r)).foldl (fun s t => insI t s) x3) := by
        unfold tabardref17_Targets.j1
        rw [if_neg (by simp), if_pos (by omega), if_pos (by omega), rdT_drop l i y r h]
        have : tgV (y :: r) = y.f5 :: tgV r := by rw [tgV, if_pos a]
        rw [this, List.foldl_cons]
        exact hk
      by_cases b : y.f0 = 24
      · rw [if_pos b]
        exact hj
      · rw [if_neg b]
        have : (y.f0 != 25) = false := by
          have : y.f0 = 25 := by
            rcases a with a | a
            · exact absurd a b
            · exact a
          simp [this]
        rw [this]
        exact hj
    · obtain ⟨K, hK⟩ := ref_l0 l hl r (i + 1) x3 h2 (by omega)
      refine ⟨K + 2, ?_⟩
      unfold tabardref17_Targets.l0
      rw [if_pos (by omega), if_pos (by omega), rdT_drop l i y r h, if_neg (fun c => a (.inl c))]
      have : (y.f0 != 25) = true := by simpa using fun c => a (.inr c)
      rw [this]
      unfold tabardref17_Targets.j1
      rw [if_pos rfl, e]
      have : tgV (y :: r) = tgV r := by rw [tgV, if_neg a]
      rw [this]
      exact hK
theorem ref_f (l : List S28) (hl : l.length < 17592186044416) : ∃ k, tabardref17_Targets.f k l = some (insAll (tgV l)) := by
  obtain ⟨k, hk⟩ := ref_l0 l hl l 0 [] rfl (by simp)
  exact ⟨k, by simpa [tabardref17_Targets.f, insAll] using hk⟩
/-- Both calls: a row with the targets, sorted, each once. -/
theorem isa_Targets_calls (A0 : Option Addr) (c0 : Nat) (l0 : List S28) (w : World) (hl : l0.length < 17592186044416) (hr0 : Kd.C k28 w A0 l0.length l0) (hc0 : l0.length ≤ c0) :
    Calls Try.prog 33 #[.slice A0 l0.length c0] w fun e w' => ∃ v0_ : Value, e = .returned v0_ ∧ Kd.R (Kd.int .i64) 3 w' w.heap.size (fun _ => True) v0_ (insAll (tgV l0)) ∧ Below w.heap.size w w' := by
  rw [← sort_compact]
  exact isa_Targets.calls _ A0 c0 l0 _ w hr0 hc0 (isa_f l0 hl) (by have := tgV_len l0; omega)
theorem ref_Targets_calls (A0 : Option Addr) (c0 : Nat) (l0 : List S28) (w : World) (hl : l0.length < 17592186044416) (hr0 : Kd.C k28 w A0 l0.length l0) (hc0 : l0.length ≤ c0) :
    Calls Try.prog 34 #[.slice A0 l0.length c0] w fun e w' => ∃ v0_ : Value, e = .returned v0_ ∧ Kd.R (Kd.int .i64) 3 w' w.heap.size (fun _ => True) v0_ (insAll (tgV l0)) ∧ Below w.heap.size w w' := by
  obtain ⟨k, hk⟩ := ref_f l0 hl
  exact tabardref17_Targets.calls k A0 c0 l0 _ w hr0 hc0 hk
/-- slices.Equal at two rows of the call's own that are the same. -/
theorem equal_own {b1 b2 : Nat} {ok1 ok2 : Nat → Prop} {v1 v2 : Value} {xs : List Int} {w : World} (h1 : (Kd.int .i64).R 3 w b1 ok1 v1 xs) (h2 : (Kd.int .i64).R 3 w b2 ok2 v2 xs) :
    Calls Try.prog 32 #[v1, v2] w fun e w' => e = .returned (.bool true) ∧ Below w.heap.size w w' := by
  rcases ints_case h1 with ⟨rfl, rfl⟩ | ⟨g1, c1, rfl, _, _, hc1, hm1, H1⟩
  · rcases ints_case h2 with ⟨rfl, _⟩ | ⟨g2, c2, rfl, _, _, _, _, _⟩ <;>
    · refine (Try.slices_Equal_int_empty _ _ _ _ _ w (by simp)).mono ?_
      rintro e w' ⟨rfl, rfl⟩
      exact ⟨rfl, Below.refl _ _⟩
  · rcases ints_case h2 with ⟨rfl, rfl⟩ | ⟨g2, c2, rfl, _, _, hc2, hm2, H2⟩
    · refine (Try.slices_Equal_int_empty _ _ _ _ _ w (by simp)).mono ?_
      rintro e w' ⟨rfl, rfl⟩
      exact ⟨rfl, Below.refl _ _⟩
    · unfold maxLen at hm1
      have cell : ∀ g, Go.Sort.Holds (Value.int .i64) w g 0 xs.toArray → ∀ j, j < xs.length → w.cell? ⟨g, 0 + j, none⟩ = some (.int .i64 (xs.getD j 0)) := fun g H j hj => by
        have := (H j (by simpa using hj)).1
        rw [this, getElem!_pos _ _ (by simpa using hj), List.getD_eq_getElem?_getD, List.getElem?_eq_getElem hj]
        simp
      refine (Try.slices_Equal_int g1 0 xs.length c1 g2 0 xs.length c2 xs xs w (Nat.le_refl _) (Nat.le_refl _) (by omega) (by omega) (cell _ H1) (cell _ H2)).mono ?_
      rintro e w' ⟨rfl, q, rfl⟩
      exact ⟨by simp, ⟨rfl, rfl, rfl, Nat.le_refl _, fun _ _ => rfl⟩⟩
end Go.Proofs.Ythbgoecgfoglnaa.PW
