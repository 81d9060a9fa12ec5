/- Encode as a plain function; what is encoded is decoded, and back. Conditions: sizes below the limit of append. -/
import Derived.Test.YthbgoecgfoglnaaBOwn6
import Derived.Test.YthbgoecgfoglnaaBPIsax7
namespace Go.Proofs.Ythbgoecgfoglnaa.Own
open Go.RowKit Go.Proofs.Ythbgoecgfoglnaa.PIsa Go.Proofs.Ythbgoecgfoglnaa.PA Go.Proofs.YthbgoecgfoglnaaW.PrintWords Go.Proofs.YthbgoecgfoglnaaW.PrintLast Go.Proofs.YthbgoecgfoglnaaW.PrintMore

def chkS (x : S28) : Int := chkI x.f0 x.f1 x.f2 x.f3 x.f4 x.f5
def nb (v : Int) : Nat → List Int
  | 0 => []
  | j + 1 => (v / 256 ^ j) % 256 :: nb v j
def encB (x : S28) : List Int := [x.f0 % 256, x.f1 % 256, x.f2 % 256, x.f3 % 256, (x.f4 / 256) % 256, x.f4 % 256] ++ nb x.f5 8
theorem nb_len (v : Int) (j : Nat) : (nb v j).length = j := by
  induction j with
  | zero => rfl
  | succ j ih => simp [nb, ih]
theorem encB_len (x : S28) : (encB x).length = 14 := by simp [encB, nb_len]
def encV : List S28 → List Int → List Int × Int
  | [], acc => (acc, 0)
  | x :: xs, acc => if chkS x = 0 then encV xs (acc ++ encB x) else ([], chkS x)
theorem rd_T (l : List S28) (i : Nat) (x : S28) (xs : List S28) (h : l.drop i = x :: xs) : rd_T28 l (i : Int) = x := by
  unfold rd_T28
  have hx : l[i]? = some x := by
    have := congrArg (fun z => z[0]?) h
    simpa using this
  simp [List.getD_eq_getElem?_getD, hx]
theorem shr_byte (v : Int) (j : Nat) (hj : j ≤ 7) : shr .i64 v ((8 * j : Nat) : Int) % 256 = (v / 256 ^ j) % 256 := by
  unfold shr
  have e : min ((8 * j : Nat) : Int).toNat IntKind.i64.bits = 8 * j := by
    have : IntKind.i64.bits = 64 := rfl
    rw [this]; simp; omega
  rw [e, Int.pow_mul]
  rfl
theorem enc_l1 (x9 : List S28) (x10 x11 y0 y1 y2 y3 y4 v : Int) (R : Option (List Int × Int)) (k' : Nat) (hn : 0 ≤ x11 ∧ x11 < 9000000000000000000) :
    ∀ (j k : Nat) (acc : List Int), j ≤ 8 → acc.length + j < 140737488355328 → k = k' + j + 1 → isa_Encode.l0 k' (acc ++ nb v j) x9 x10 (x11 + 1) = R →
      isa_Encode.l1 k acc (8 * (j : Int) - 8) x9 x10 x11 y0 y1 y2 y3 y4 v = R := by
  intro j
  induction j with
  | zero =>
    intro k acc hj ha hk hR
    obtain rfl : k = k' + 1 := by omega
    simp only [isa_Encode.l1]
    rw [if_neg (by omega), w64 _ (by omega) (by omega)]
    simpa [nb] using hR
  | succ j ih =>
    intro k acc hj ha hk hR
    obtain ⟨k, rfl⟩ : ∃ m, k = m + 1 := ⟨k - 1, by omega⟩
    simp only [isa_Encode.l1]
    rw [if_pos (by omega), if_pos (by omega), if_pos (by omega)]
    have e : wrap64 (8 * ((j + 1 : Nat) : Int) - 8 - 8) = 8 * (j : Int) - 8 := by rw [w64 _ (by omega) (by omega)]; omega
    have e2 : (8 * ((j + 1 : Nat) : Int) - 8) = ((8 * j : Nat) : Int) := by omega
    rw [e, e2, shr_byte v j (by omega)]
    exact ih k _ (by omega) (by simp; omega) (by omega) (by simpa [nb] using hR)
theorem isa_enc (l : List S28) (hL : l.length ≤ 2932031007402) : ∀ (xs : List S28) (i k : Nat) (acc : List Int), l.drop i = xs → acc.length ≤ i * 14 → xs.length * 12 + 20 ≤ k →
    isa_Encode.l0 k acc l (l.length : Nat) i = some (encV xs acc) := by
  intro xs
  induction xs with
  | nil =>
    intro i k acc hd ha hk
    obtain ⟨k, rfl⟩ : ∃ m, k = m + 1 := ⟨k - 1, by omega⟩
    have hi : l.length ≤ i := by simpa using hd
    simp only [isa_Encode.l0, encV]
    rw [if_neg (by omega)]
  | cons x xs ih =>
    intro i k acc hd ha hk
    obtain ⟨k, rfl⟩ : ∃ m, k = m + 11 := ⟨k - 11, by simp at hk; omega⟩
    have hi : i < l.length := by
      have := congrArg List.length hd
      simp at this
      omega
    have hx := rd_T l i x xs hd
    have hd' : l.drop (i + 1) = xs := by rw [← List.drop_drop, hd]; rfl
    simp only [isa_Encode.l0, encV]
    rw [if_pos (by omega), if_pos (by omega), if_pos (by omega), hx, check_f]
    simp only [Option.bind_some]
    have hcs : chkI x.f0 x.f1 x.f2 x.f3 x.f4 x.f5 = chkS x := rfl
    rw [hcs]
    by_cases hc : chkS x = 0
    · rw [if_pos hc, if_pos hc, if_pos (by simp; omega)]
      refine enc_l1 l (l.length : Nat) i x.f0 x.f1 x.f2 x.f3 x.f4 x.f5 _ (k + 1) (by omega) 8 (k + 10) _ (by omega) (by simp; omega) (by omega) ?_
      have := ih (i + 1) (k + 1) (acc ++ encB x) hd' (by simp [encB_len]; omega) (by simp at hk; omega)
      simpa [encB] using this
    · rw [if_neg hc, if_neg hc]
theorem isa_Encode_f (l : List S28) (hL : l.length ≤ 2932031007402) (k : Nat) (hk : l.length * 12 + 20 ≤ k) : isa_Encode.f k l = some (encV l []) := by
  unfold isa_Encode.f
  have := isa_enc l hL l 0 k [] (by simp) (by simp) hk
  simpa using this

end Go.Proofs.Ythbgoecgfoglnaa.Own
