/- Plain facts on isa.Check and the contracts of tabardref17.in, field and number in plain words. -/
import Derived.Test.YthbgoecgfoglnaaBPAx1
import Derived.Test.YthbgoecgfoglnaaBOwn1
import Derived.Test.YthbgoecgfoglnaaBOwn2
set_option linter.unusedVariables false
set_option linter.unusedSimpArgs false
namespace Go.Proofs.Ythbgoecgfoglnaa.Own
open Go.RowKit Go.Proofs.Ythbgoecgfoglnaa.PA Go.Proofs.YthbgoecgfoglnaaW.PrintWords Go.Proofs.YthbgoecgfoglnaaW.PrintLast

/-! ### isa.Check, total -/
def hasV (op : Int) : ByteArray × Bool × Bool × Bool × Bool × Int × Bool :=
  if 0 ≤ op ∧ op ≤ 37 then ((hasAt op).name, (hasAt op).d, (hasAt op).a, (hasAt op).b, (hasAt op).x, (hasAt op).n, true) else (⟨#[]⟩, false, false, false, false, 0, false)
theorem of_f (op : Int) : isa_of.f op = some (hasV op) := rfl
def chkI (x0 x1 x2 x3 x4 x5 : Int) : Int := checkV x0 x1 x2 x5 (okB (hasV x0) x1 x2 x3 x4 x5)
theorem check_f (x0 x1 x2 x3 x4 x5 : Int) : isa_Check.f x0 x1 x2 x3 x4 x5 = some (chkI x0 x1 x2 x3 x4 x5) := by
  unfold isa_Check.f
  rw [of_f]
  rfl

/-! ### the reference's Check -/
def anyB (s : ByteArray) (c : Int) : Bool := s.data.toList.any fun b => decide ((b.toNat : Int) = c)
theorem anyB_drop (s : ByteArray) (c : Int) (j : Nat) (h : j < s.size) : (s.data.toList.drop j).any (fun b => decide ((b.toNat : Int) = c)) = (decide (bt s j = c) || (s.data.toList.drop (j + 1)).any fun b => decide ((b.toNat : Int) = c)) := by
  have hl : j < s.data.toList.length := by rw [data_length]; exact h
  rw [List.drop_eq_getElem_cons hl, List.any_cons]
  congr 2
  unfold bt
  have h2 : ((j : Int)).toNat < s.size := by simpa using h
  rw [dif_pos h2]
  simp
  rfl
theorem in_l0 (s : ByteArray) (c : Int) (hs : s.size ≤ 100) : ∀ (d k j : Nat), s.size - j = d → j ≤ s.size → d < k → tabardref17_in.l0 k s c j = some ((s.data.toList.drop j).any fun b => decide ((b.toNat : Int) = c)) := by
  intro d
  induction d with
  | zero =>
    intro k j hd hj hk
    obtain ⟨k, rfl⟩ : ∃ m, k = m + 1 := ⟨k - 1, by omega⟩
    simp only [tabardref17_in.l0]
    rw [if_neg (by omega), List.drop_of_length_le (by rw [data_length]; omega)]
    rfl
  | succ d ih =>
    intro k j hd hj hk
    obtain ⟨k, rfl⟩ : ∃ m, k = m + 1 := ⟨k - 1, by omega⟩
    simp only [tabardref17_in.l0]
    rw [if_pos (by omega), if_pos (by omega), anyB_drop s c j (by omega)]
    by_cases h : bt s j = c
    · rw [if_pos h]; simp [h]
    · rw [if_neg h]
      have e : wrap64 ((j : Int) + 1) = ((j + 1 : Nat) : Int) := by unfold wrap64; omega
      rw [e, ih k (j + 1) (by omega) (by omega) (by omega)]
      simp [h]
theorem in_f (s : ByteArray) (c : Int) (hs : s.size ≤ 100) (k : Nat) (hk : s.size < k) : tabardref17_in.f k s c = some (anyB s c) := by
  have := in_l0 s c hs s.size k 0 (by omega) (by omega) hk
  unfold tabardref17_in.f
  simpa [anyB] using this
theorem has_flags (op : Int) (h0 : 0 ≤ op) (h1 : op ≤ 37) : ∃ s : ByteArray, tabardref17_has.f op = some (s, true) ∧ s.size ≤ 4 ∧ anyB s 100 = (hasAt op).d ∧ anyB s 97 = (hasAt op).a ∧ anyB s 98 = (hasAt op).b ∧ anyB s 120 = (hasAt op).x ∧ anyB s 110 = decide ((hasAt op).n ≠ 0) := by
  have hh : op = 0 ∨ op = 1 ∨ op = 2 ∨ op = 3 ∨ op = 4 ∨ op = 5 ∨ op = 6 ∨ op = 7 ∨ op = 8 ∨ op = 9 ∨ op = 10 ∨ op = 11 ∨ op = 12 ∨ op = 13 ∨ op = 14 ∨ op = 15 ∨ op = 16 ∨ op = 17 ∨ op = 18 ∨ op = 19 ∨ op = 20 ∨ op = 21 ∨ op = 22 ∨ op = 23 ∨ op = 24 ∨ op = 25 ∨ op = 26 ∨ op = 27 ∨ op = 28 ∨ op = 29 ∨ op = 30 ∨ op = 31 ∨ op = 32 ∨ op = 33 ∨ op = 34 ∨ op = 35 ∨ op = 36 ∨ op = 37 := by omega
  rcases hh with rfl | rfl | rfl | rfl | rfl | rfl | rfl | rfl | rfl | rfl | rfl | rfl | rfl | rfl | rfl | rfl | rfl | rfl | rfl | rfl | rfl | rfl | rfl | rfl | rfl | rfl | rfl | rfl | rfl | rfl | rfl | rfl | rfl | rfl | rfl | rfl | rfl | rfl <;>
    exact ⟨_, rfl, by decide, by decide, by decide, by decide, by decide, by decide⟩
def numR (op n : Int) : Bool :=
  if op = 1 then true else if op = 3 ∨ op = 4 then decide (0 ≤ n ∧ n ≤ 4095) else if op = 5 ∨ op = 6 then decide (1 ≤ n ∧ n ≤ 11) else if op = 10 then decide (1 ≤ n ∧ n ≤ 3)
  else if op = 22 then decide (1 ≤ n ∧ n ≤ 2) else if op = 36 then decide (0 ≤ n ∧ n ≤ 3) else decide (0 ≤ n ∧ n ≤ 2147483647)
theorem dec_ite (a b : Int) (n : Int) : (if n ≥ a then some (decide (n ≤ b)) else some false) = some (decide (a ≤ n ∧ n ≤ b)) := by
  by_cases h : n ≥ a
  · rw [if_pos h]; congr 1; rw [decide_eq_decide]; omega
  · rw [if_neg h]; congr 1; symm; rw [decide_eq_false_iff_not]; omega
theorem number_f (op n : Int) (k : Nat) : tabardref17_number.f (k + 3) op n = some (numR op n) := by
  have hh : op = 1 ∨ op = 3 ∨ op = 4 ∨ op = 5 ∨ op = 6 ∨ op = 10 ∨ op = 22 ∨ op = 36 ∨ (op ≠ 1 ∧ op ≠ 3 ∧ op ≠ 4 ∧ op ≠ 5 ∧ op ≠ 6 ∧ op ≠ 10 ∧ op ≠ 22 ∧ op ≠ 36) := by omega
  rcases hh with rfl | rfl | rfl | rfl | rfl | rfl | rfl | rfl | ⟨h1, h2, h3, h4, h5, h6, h7, h8⟩
  · rfl
  · exact dec_ite 0 4095 n
  · exact dec_ite 0 4095 n
  · exact dec_ite 1 11 n
  · exact dec_ite 1 11 n
  · exact dec_ite 1 3 n
  · exact dec_ite 1 2 n
  · exact dec_ite 0 3 n
  · unfold tabardref17_number.f numR
    have b2 : (op == 4) = false := by simpa using h3
    have b4 : (op == 6) = false := by simpa using h5
    simp only [tabardref17_number.j0, tabardref17_number.j1, h1, h2, h3, h4, h5, h6, h7, h8, b2, b4, if_false, Bool.false_eq_true, or_self]
    exact dec_ite 0 2147483647 n
theorem num_eq (op n : Int) (h0 : 0 ≤ op) (h1 : op ≤ 37) : numB (hasAt op).n n = if (hasAt op).n ≠ 0 then numR op n else n == 0 := by
  have hh : op = 0 ∨ op = 1 ∨ op = 2 ∨ op = 3 ∨ op = 4 ∨ op = 5 ∨ op = 6 ∨ op = 7 ∨ op = 8 ∨ op = 9 ∨ op = 10 ∨ op = 11 ∨ op = 12 ∨ op = 13 ∨ op = 14 ∨ op = 15 ∨ op = 16 ∨ op = 17 ∨ op = 18 ∨ op = 19 ∨ op = 20 ∨ op = 21 ∨ op = 22 ∨ op = 23 ∨ op = 24 ∨ op = 25 ∨ op = 26 ∨ op = 27 ∨ op = 28 ∨ op = 29 ∨ op = 30 ∨ op = 31 ∨ op = 32 ∨ op = 33 ∨ op = 34 ∨ op = 35 ∨ op = 36 ∨ op = 37 := by omega
  rcases hh with rfl | rfl | rfl | rfl | rfl | rfl | rfl | rfl | rfl | rfl | rfl | rfl | rfl | rfl | rfl | rfl | rfl | rfl | rfl | rfl | rfl | rfl | rfl | rfl | rfl | rfl | rfl | rfl | rfl | rfl | rfl | rfl | rfl | rfl | rfl | rfl | rfl | rfl <;>
    (simp [numB, numR, hasAt, hasRows]; try (rw [Bool.eq_iff_iff]; simp; omega))

def fieldR (h : Bool) (n : Int) : Bool := decide (n ≥ 0) && (decide (n < 16) && (h || n == 0))
theorem field_f (h : Bool) (n : Int) : tabardref17_field.f h n = some (fieldR h n) := by
  unfold tabardref17_field.f fieldR
  by_cases h1 : n ≥ 0
  · by_cases h2 : n < 16
    · cases h <;> simp [h1, h2]
    · simp [h1, h2]
  · simp [h1]
theorem field_eq (h : Bool) (n : Int) : fieldB h n 15 = fieldR h n := by
  unfold fieldB fieldR
  cases h
  · rw [Bool.eq_iff_iff]; simp; omega
  · rw [Bool.eq_iff_iff]; simp; omega
theorem fieldX_eq (h : Bool) (n : Int) : fieldB h n 65535 = (!(decide (n < 0) || decide (n > 65535) || (!h && n != 0))) := by
  unfold fieldB
  cases h
  · rw [Bool.eq_iff_iff]; simp; omega
  · rw [Bool.eq_iff_iff]; simp; omega
theorem ref_in (s : ByteArray) (c : Int) (hs : s.size ≤ 100) (w : World) : Calls Try.prog 37 #[.string s, .int .u8 c] w fun e w' => e = .returned (.bool (anyB s c)) ∧ ∃ n, w' = w.drewN n :=
  (tabardref17_in.calls 200 s c _ w (in_f s c hs 200 (by omega))).mono fun _ _ h => ⟨h.1, h.2.out⟩
theorem ref_field (h : Bool) (n : Int) (w : World) : Calls Try.prog 40 #[.bool h, .int .i64 n] w fun e w' => e = .returned (.bool (fieldR h n)) ∧ ∃ m, w' = w.drewN m :=
  (tabardref17_field.calls h n _ w (field_f h n)).mono fun _ _ h => ⟨h.1, h.2.out⟩
theorem ref_number (op n : Int) (w : World) : Calls Try.prog 41 #[.int .i64 op, .int .i64 n] w fun e w' => e = .returned (.bool (numR op n)) ∧ ∃ m, w' = w.drewN m :=
  (tabardref17_number.calls 3 op n _ w (number_f op n 0)).mono fun _ _ h => ⟨h.1, h.2.out⟩
end Go.Proofs.Ythbgoecgfoglnaa.Own
