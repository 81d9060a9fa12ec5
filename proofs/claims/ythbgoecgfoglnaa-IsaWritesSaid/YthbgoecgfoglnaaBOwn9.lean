/- The law IsaOwn, plain, and its walk. Condition: the slice takes at most 2^47 - 4096 bytes. -/
import Derived.Test.YthbgoecgfoglnaaBOwn8
import Derived.Test.YthbgoecgfoglnaaBPIsax8
namespace Go.Proofs.Ythbgoecgfoglnaa.Own
open Go.RowKit Go.Proofs.Ythbgoecgfoglnaa.PIsa Go.Proofs.Ythbgoecgfoglnaa.PA Go.Proofs.YthbgoecgfoglnaaW.PrintWords Go.Proofs.YthbgoecgfoglnaaW.PrintLast Go.Proofs.YthbgoecgfoglnaaW.PrintMore

theorem ref_l1 (x9 : List S28) (x11 y0 y1 y2 y3 y4 v : Int) (R : Option (List Int × Int)) (k' : Nat) (hn : 0 ≤ x11 ∧ x11 < 9000000000000000000) :
    ∀ (j k : Nat) (acc : List Int), j ≤ 8 → acc.length + j < 140737488355328 → k = k' + j + 1 → tabardref17_Encode.l0 k' x9 (acc ++ nb v j) (x11 + 1) = R →
      tabardref17_Encode.l1 k x9 acc x11 ((j : Int) - 1) y0 y1 y2 y3 y4 v = R := by
  intro j
  induction j with
  | zero =>
    intro k acc hj ha hk hR
    obtain rfl : k = k' + 1 := by omega
    simp only [tabardref17_Encode.l1]
    rw [if_neg (by omega), w64 _ (by omega) (by omega)]
    simpa [nb] using hR
  | succ j ih =>
    intro k acc hj ha hk hR
    obtain ⟨k, rfl⟩ : ∃ m, k = m + 1 := ⟨k - 1, by omega⟩
    have e3 : wrap64 (8 * (((j + 1 : Nat) : Int) - 1)) = ((8 * j : Nat) : Int) := by rw [w64 _ (by omega) (by omega)]; omega
    have e : wrap64 (((j + 1 : Nat) : Int) - 1 - 1) = (j : Int) - 1 := by rw [w64 _ (by omega) (by omega)]; omega
    simp only [tabardref17_Encode.l1]
    rw [e3, if_pos (by omega), if_pos (by omega), if_pos (by omega), e, shr_byte v j (by omega)]
    exact ih k _ (by omega) (by simp; omega) (by omega) (by simpa [nb] using hR)
theorem ref_enc (l : List S28) (hL : l.length ≤ 2932031007402) : ∀ (xs : List S28) (i k : Nat) (acc : List Int), l.drop i = xs → acc.length ≤ i * 14 → xs.length * 12 + 20 ≤ k →
    tabardref17_Encode.l0 k l acc i = some (encV xs acc) := by
  intro xs
  induction xs with
  | nil =>
    intro i k acc hd ha hk
    obtain ⟨k, rfl⟩ : ∃ m, k = m + 1 := ⟨k - 1, by omega⟩
    have hi : l.length ≤ i := by simpa using hd
    simp only [tabardref17_Encode.l0, encV]
    rw [if_neg (by omega)]
  | cons x xs ih =>
    intro i k acc hd ha hk
    obtain ⟨k, rfl⟩ : ∃ m, k = m + 11 := ⟨k - 11, by simp at hk; omega⟩
    have hi : i < l.length := by
      have := congrArg List.length hd
      simp at this
      omega
    have hx := rd_T l i x xs hd
    have hd' : l.drop (i + 1) = xs := by rw [← List.drop_drop, hd]; rfl
    simp only [tabardref17_Encode.l0, encV]
    rw [if_pos (by omega), if_pos (by omega), hx]
    simp only [tabardref17_Check.f, Option.bind_some]
    have hcs : chkI x.f0 x.f1 x.f2 x.f3 x.f4 x.f5 = chkS x := rfl
    rw [hcs]
    by_cases hc : chkS x = 0
    · rw [if_pos hc, if_pos hc, if_pos (by simp; omega)]
      refine ref_l1 l i x.f0 x.f1 x.f2 x.f3 x.f4 x.f5 _ (k + 1) (by omega) 8 (k + 10) _ (by omega) (by simp; omega) (by omega) ?_
      have := ih (i + 1) (k + 1) (acc ++ encB x) hd' (by simp [encB_len]; omega) (by simp at hk; omega)
      simpa [encB] using this
    · rw [if_neg hc, if_neg hc]
theorem ref_Encode_f (l : List S28) (hL : l.length ≤ 2932031007402) (k : Nat) (hk : l.length * 12 + 20 ≤ k) : tabardref17_Encode.f k l = some (encV l []) := by
  unfold tabardref17_Encode.f
  have := ref_enc l hL l 0 k [] (by simp) (by simp) hk
  simpa using this
end Go.Proofs.Ythbgoecgfoglnaa.Own
