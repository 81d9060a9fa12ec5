/- slices.Sort and slices.Compact at a row of the call's own. No condition but the length's. -/
import Derived.Test.YthbgoecgfoglnaaShelf
import Derived.Test.YthbgoecgfoglnaaWWords
import Derived.Test.YthbgoecgfoglnaaBOwnE
import Derived.Lib.RowBridge
set_option linter.unusedVariables false
namespace Go.Proofs.Ythbgoecgfoglnaa.Own
open Go.RowKit Go.Sort Go.Proofs.YthbgoecgfoglnaaW.PrintWords
theorem ints_own {k : IntKind} {e base : Nat} {w : World} {ok : Nat → Prop} {v : Value} {xs : List Int} (h : (Kd.int k).R e w base ok v xs) : w.ownsRow base e 1 v xs.length (xs.map (Value.int k)) := by
  obtain ⟨_, inner, ho, hl, hr⟩ := h
  have hl : inner.length = xs.length * 1 := hl
  have ho : w.ownsRow base e 1 v xs.length inner := ho
  have : inner = xs.map (Value.int k) := by
    apply List.ext_getElem
    · simp; omega
    · intro i h1 h2
      have hi : i < xs.length := by simpa using h2
      have := hr i xs[i] (List.getElem?_eq_getElem hi)
      have this : (inner.drop (i * 1)).take 1 = [Value.int k xs[i]] := this
      rw [Nat.mul_one, List.drop_eq_getElem_cons (by omega)] at this
      simp only [List.take_succ_cons, List.take_zero, List.cons.injEq, and_true] at this
      rw [this]
      simp
  rw [← this]
  exact ho
theorem ints_R {k : IntKind} {e base : Nat} {w : World} {ok : Nat → Prop} {v : Value} {xs : List Int} (hok : ∀ k, v.ownBlock = some k → ok k) (h : w.ownsRow base e 1 v xs.length (xs.map (Value.int k))) : (Kd.int k).R e w base ok v xs := by
  refine ⟨hok, xs.map (Value.int k), h, by show (xs.map (Value.int k)).length = xs.length * 1; simp, fun j p hj => ?_⟩
  have hi : j < xs.length := (List.getElem?_eq_some_iff.1 hj).1
  show ((xs.map (Value.int k)).drop (j * 1)).take 1 = [Value.int k p]
  rw [Nat.mul_one, List.drop_eq_getElem_cons (by simpa using hi)]
  simp only [List.take_succ_cons, List.take_zero, List.getElem_map]
  rw [(List.getElem?_eq_some_iff.1 hj).2]
theorem ints_case {k : IntKind} {e base : Nat} {w : World} {ok : Nat → Prop} {v : Value} {xs : List Int} (h : (Kd.int k).R e w base ok v xs) :
    (v = .slice none 0 0 ∧ xs = []) ∨ ∃ g cap, v = .slice (some ⟨g, 0, none⟩) xs.length cap ∧ base ≤ g ∧ g < w.heap.size ∧ xs.length ≤ cap ∧ cap ≤ maxLen ∧ Holds (Value.int k) w g 0 xs.toArray := by
  have ho := ints_own h
  rcases ho.2 with ⟨hv, hn⟩ | ⟨g, cap, cur, hv, hg, hb, hc, hm, hs, ht⟩
  · exact .inl ⟨hv, List.eq_nil_of_length_eq_zero hn⟩
  · refine .inr ⟨g, cap, hv, hg, blk_lt hb, hc, hm, fun j hj => ?_⟩
    simp only [List.size_toArray] at hj
    refine ⟨?_, by simp [World.frozen?, hb]⟩
    rw [Nat.zero_add, blk_cell hb j, ← Array.getElem?_toList]
    have h1 : (cur.toList.take (xs.length * 1))[j]? = (xs.map (Value.int k))[j]? := by rw [ht]
    rw [Nat.mul_one, List.getElem?_take_of_lt hj] at h1
    rw [h1, List.getElem?_map, List.getElem?_eq_getElem hj]
    simp [hj]
theorem ints_put {k : IntKind} {e base g cap : Nat} {w : World} {ok : Nat → Prop} {xs : List Int} (h : (Kd.int k).R e w base ok (.slice (some ⟨g, 0, none⟩) xs.length cap) xs) (ys : List Int) (hy : ys.length = xs.length) (n q : Nat) (hn : n ≤ ys.length) (os : Array Obj) :
    (Kd.int k).R e (grow (putRow (Value.int k) (Sort.ahead w q) g 0 ys.toArray) os) base ok (.slice (some ⟨g, 0, none⟩) n cap) (ys.take n) ∧ w.grownBy (grow (putRow (Value.int k) (Sort.ahead w q) g 0 ys.toArray) os) (some g) := by
  have hok := h.1
  have ho := ints_own h
  rcases ho.2 with ⟨hv, hn⟩ | ⟨g', cap', cur, hv, hg, hb, hc, hm, hs, ht⟩
  · simp at hv
  · simp only [Value.slice.injEq, Option.some.injEq, Addr.mk.injEq, and_true, true_and] at hv
    obtain ⟨rfl, rfl⟩ := hv
    have hz := blk_lt hb
    have hsz : (putRow (Value.int k) (Sort.ahead w q) g 0 ys.toArray).heap.size = w.heap.size := by
      unfold putRow mapBlock
      simp [Sort.ahead]
    have hblk : ∀ i, i < w.heap.size → (grow (putRow (Value.int k) (Sort.ahead w q) g 0 ys.toArray) os).heap[i]? = (putRow (Value.int k) (Sort.ahead w q) g 0 ys.toArray).heap[i]? := by
      intro i hi
      unfold grow
      exact Array.getElem?_append_left (by rw [hsz]; exact hi)
    have hg2 : (grow (putRow (Value.int k) (Sort.ahead w q) g 0 ys.toArray) os).heap[g]? = some (.cells (putCells (Value.int k) 0 ys.toArray cur) e (0, 0)) := by
      rw [hblk g hz]
      unfold putRow mapBlock
      show (Array.modify w.heap g _)[g]? = _
      rw [Array.getElem?_modify, if_pos rfl, hb]
      rfl
    refine ⟨ints_R (fun j hj => hok j hj) ⟨by simp, .inr ⟨g, cap, _, ?_, hg, hg2, ?_, hm, ?_, ?_⟩⟩, ?_⟩
    · congr 1
      simp; omega
    · simp; omega
    · simp only [putCells, Array.size_mapIdx]
      exact hs
    · apply List.ext_getElem
      · simp [putCells, hs]
        omega
      · intro i h1 h2
        simp only [List.length_map, List.length_take] at h2
        have hi : i < ys.length := by omega
        simp [putCells, hi]
    · refine ⟨rfl, rfl, rfl, ?_, fun i hi hne => ?_⟩
      · unfold grow
        simp only [Array.size_append, hsz]
        omega
      · rw [hblk i hi]
        unfold putRow mapBlock
        show (Array.modify w.heap g _)[i]? = _
        rw [Array.getElem?_modify, if_neg (fun hc => hne (by rw [hc]))]
theorem sort_own {base : Nat} {w : World} {ok : Nat → Prop} {v : Value} {xs : List Int} (h : (Kd.int .i64).R 3 w base ok v xs) (hsz : xs.length < 4611686018427387904) :
    Calls Try.prog 43 #[v] w fun e w' => e = .returned (.tuple #[]) ∧ (Kd.int .i64).R 3 w' base ok v (xs.mergeSort fun x y => decide (x ≤ y)) ∧ w.grownBy w' v.ownBlock := by
  rcases ints_case h with ⟨rfl, rfl⟩ | ⟨g, cap, rfl, hg, hgs, hc, hm, hH⟩
  · refine (Try.slices_Sort_int_none none 0 w).mono ?_
    rintro e w' ⟨rfl, rfl⟩
    exact ⟨rfl, by simpa using h, ⟨rfl, rfl, rfl, Nat.le_refl _, fun _ _ _ => rfl⟩⟩
  · refine (Try.slices_Sort_int g 0 cap xs w hH hgs hsz).mono ?_
    rintro e w' ⟨rfl, q, os, rfl⟩
    have hp := ints_put h (xs.mergeSort fun x y => decide (x ≤ y)) (List.length_mergeSort _) xs.length q (by rw [List.length_mergeSort]; exact Nat.le_refl _) os
    rw [List.take_of_length_le (by rw [List.length_mergeSort]; exact Nat.le_refl _)] at hp
    exact ⟨rfl, hp.1, hp.2⟩
theorem compact_own {base : Nat} {w : World} {ok : Nat → Prop} {v : Value} {xs : List Int} (h : (Kd.int .i64).R 3 w base ok v xs) (hsz : xs.length ≤ 9223372036854775807) :
    Calls Try.prog 44 #[v] w fun e w' => ∃ v1, e = .returned v1 ∧ (Kd.int .i64).R 3 w' base ok v1 (Lib.compact xs) ∧ w.grownBy w' v.ownBlock := by
  rcases ints_case h with ⟨rfl, rfl⟩ | ⟨g, cap, rfl, hg, hgs, hc, hm, hH⟩
  · refine (Try.slices_Compact_int_empty none 0 w).mono ?_
    rintro e w' ⟨rfl, rfl⟩
    exact ⟨_, rfl, h, ⟨rfl, rfl, rfl, Nat.le_refl _, fun _ _ _ => rfl⟩⟩
  · refine (Try.slices_Compact_int g 0 cap xs w hH hsz hc).mono ?_
    rintro e w' ⟨rfl, q, rfl⟩
    have hle := Lib.compact_length_le xs
    have hp := ints_put h (Lib.compact xs ++ List.replicate (xs.length - (Lib.compact xs).length) 0) (by simp; omega) (Lib.compact xs).length q (by simp) #[]
    rw [List.take_left, grow_empty] at hp
    exact ⟨_, rfl, hp.1, hp.2⟩
end Go.Proofs.Ythbgoecgfoglnaa.Own
