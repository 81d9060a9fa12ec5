/- isa.One and tabardref17.One are one function of the bytes. Condition: each number is a byte, and there are at most 2^47 of them. -/
import Derived.Test.YthbgoecgfoglnaaPIsax4
import Derived.Test.YthbgoecgfoglnaaPIsax2
namespace Go.Proofs.Ythbgoecgfoglnaa.Own
open Go.RowKit Go.Proofs.Ythbgoecgfoglnaa.PIsa Go.Proofs.Ythbgoecgfoglnaa.PA Go.Proofs.YthbgoecgfoglnaaW.PrintWords Go.Proofs.YthbgoecgfoglnaaW.PrintLast

def isB (l : List Int) : Prop := ∀ x ∈ l, 0 ≤ x ∧ x < 256
def be (n : Int) (bs : List Int) : Int := bs.foldl (fun n b => n * 256 + b) n
def fin (x0 x1 x2 x3 x4 N : Int) : Int × Int × Int × Int × Int × Int × Int :=
  if chkI x0 x1 x2 x3 x4 N = 0 then (x0, x1, x2, x3, x4, N, 0) else (0, 0, 0, 0, 0, 0, chkI x0 x1 x2 x3 x4 N)
theorem rd_mid (pre bs : List Int) (b : Int) : rd (pre ++ b :: bs) (pre.length : Int) = b := by
  unfold rd
  simp
theorem w64 (x : Int) (h0 : -9223372036854775808 ≤ x) (h1 : x ≤ 9223372036854775807) : wrap64 x = x := by unfold wrap64; omega
theorem isa_step (n b q : Int) (hn : 0 ≤ n) (hq : n < q) (hq2 : q * 256 ≤ 18446744073709551616) (hb0 : 0 ≤ b) (hb : b < 256) :
    Go.bits .or .u64 (IntKind.u64.wrap (n * 256)) (IntKind.u64.wrap b) = n * 256 + b := by
  rw [wrap_u64, wrap_u64, Int.emod_eq_of_lt (by omega) (by omega), Int.emod_eq_of_lt (by omega) (by omega)]
  exact or_u64 _ _ (by omega) (by omega) (by omega) hb0 hb
theorem pow_le8 (p : Nat) (h : p ≤ 7) : (256 : Int) ^ p * 256 ≤ 18446744073709551616 := by
  match p, h with
  | 0, _ => decide
  | 1, _ => decide
  | 2, _ => decide
  | 3, _ => decide
  | 4, _ => decide
  | 5, _ => decide
  | 6, _ => decide
  | 7, _ => decide
theorem isa_l0 (x0 x1 x2 x3 x4 z : Int) : ∀ (bs pre : List Int) (n : Int) (k : Nat), isB bs → pre.length + bs.length ≤ 8 → 0 ≤ n → n < 256 ^ pre.length → bs.length < k →
    isa_One.l0 k n (pre ++ bs) ((pre ++ bs).length : Nat) (pre.length : Nat) x0 x1 x2 x3 x4 z = some (fin x0 x1 x2 x3 x4 (wrap64 (be n bs))) := by
  intro bs
  induction bs with
  | nil =>
    intro pre n k _ _ _ _ hk
    obtain ⟨k, rfl⟩ : ∃ m, k = m + 1 := ⟨k - 1, by omega⟩
    simp only [isa_One.l0]
    rw [if_neg (by simp), check_f]
    simp only [Option.bind_some, be, List.foldl_nil, fin]
    split <;> simp_all
  | cons b bs ih =>
    intro pre n k hb hl h0 hn hk
    obtain ⟨k, rfl⟩ : ∃ m, k = m + 1 := ⟨k - 1, by omega⟩
    simp only [List.length_cons] at hl hk
    have hbb := hb b (by simp)
    simp only [isa_One.l0]
    rw [if_pos (by simp; omega), if_pos (by omega), if_pos (by simp; omega), rd_mid, isa_step n b _ h0 hn (pow_le8 _ (by omega)) hbb.1 hbb.2]
    have e : wrap64 ((pre.length : Int) + 1) = (((pre ++ [b]).length : Nat) : Int) := by rw [w64 _ (by omega) (by omega)]; simp
    have := ih (pre ++ [b]) (n * 256 + b) k (fun x hx => hb x (by simp [hx])) (by simp; omega) (by omega) (by
      rw [List.length_append]
      simp only [List.length_cons, List.length_nil, Nat.zero_add, Int.pow_succ]
      omega) (by omega)
    rw [e]
    simpa [be] using this
theorem ref_step (v b : Int) (hb0 : 0 ≤ b) (hb : b < 256) : Go.bits .or .i64 (wrap64 (wrap64 v * 256)) (wrap64 b) = wrap64 (v * 256 + b) := by
  rw [w64 b (by omega) (by omega), or_i64 _ _ (by unfold wrap64; omega) (by unfold wrap64; omega) (by unfold wrap64; omega) hb0 hb]
  unfold wrap64
  omega
theorem ref_l0 (x0 x1 x2 x3 x4 : Int) : ∀ (bs pre : List Int) (v : Int) (k : Nat), isB bs → pre.length + bs.length = 14 → bs.length < k →
    tabardref17_One.l0 k (pre ++ bs) (pre.length : Nat) x0 x1 x2 x3 x4 (wrap64 v) = some (fin x0 x1 x2 x3 x4 (wrap64 (be v bs))) := by
  intro bs
  induction bs with
  | nil =>
    intro pre v k _ hl hk
    obtain ⟨k, rfl⟩ : ∃ m, k = m + 1 := ⟨k - 1, by omega⟩
    simp only [List.length_nil, Nat.add_zero] at hl
    simp only [tabardref17_One.l0]
    rw [if_neg (by omega)]
    simp only [tabardref17_Check.f, Option.bind_some, be, List.foldl_nil, fin]
    split <;> simp_all
  | cons b bs ih =>
    intro pre v k hb hl hk
    obtain ⟨k, rfl⟩ : ∃ m, k = m + 1 := ⟨k - 1, by omega⟩
    simp only [List.length_cons] at hl hk
    have hbb := hb b (by simp)
    simp only [tabardref17_One.l0]
    rw [if_pos (by omega), if_pos (by omega), if_pos (by simp; omega), rd_mid, ref_step v b hbb.1 hbb.2]
    have e : wrap64 ((pre.length : Int) + 1) = (((pre ++ [b]).length : Nat) : Int) := by rw [w64 _ (by omega) (by omega)]; simp
    have := ih (pre ++ [b]) (v * 256 + b) k (fun x hx => hb x (by simp [hx])) (by simp; omega) (by omega)
    rw [e]
    simpa [be] using this

/-! ### One -/
def chunk (l : List Int) (i : Nat) : List Int := (l.drop (i * 14)).take 14
def oneC (c : List Int) : Int × Int × Int × Int × Int × Int × Int :=
  fin (rd c 0) (rd c 1) (rd c 2) (rd c 3) (rd c 4 * 256 + rd c 5) (wrap64 (be 0 (c.drop 6)))
def oneV (l : List Int) (i : Int) : Int × Int × Int × Int × Int × Int × Int :=
  if i < 0 ∨ i ≥ (l.length : Int) / 14 then (0, 0, 0, 0, 0, 0, 170) else oneC (chunk l i.toNat)
theorem rd_B {l : List Int} (h : isB l) (i : Int) : 0 ≤ rd l i ∧ rd l i < 256 := by
  unfold rd
  rw [List.getD_eq_getElem?_getD]
  cases hx : l[i.toNat]? with
  | none => simp
  | some x => simpa using h x (List.mem_of_getElem? hx)
theorem chunk_B {l : List Int} (h : isB l) (i : Nat) : isB (chunk l i) := fun x hx => h x (List.mem_of_mem_drop (List.mem_of_mem_take hx))
theorem chunk_len (l : List Int) (i : Nat) (h : i * 14 + 14 ≤ l.length) : (chunk l i).length = 14 := by
  unfold chunk; simp; omega
theorem isa_One_f (l : List Int) (hl : isB l) (hL : l.length ≤ 140737488351232) (i : Int) (k : Nat) (hk : 20 ≤ k) : isa_One.f k l i = some (oneV l i) := by
  obtain ⟨k, rfl⟩ : ∃ m, k = m + 1 := ⟨k - 1, by omega⟩
  unfold isa_One.f oneV
  have ew : wrap64 ((l.length : Int) / 14) = (l.length : Int) / 14 := w64 _ (by omega) (by omega)
  rw [ew]
  by_cases h0 : i < 0
  · rw [if_pos h0, if_pos (.inl h0)]; simp [isa_One.j0]
  · rw [if_neg h0]
    by_cases h1 : i ≥ (l.length : Int) / 14
    · rw [if_pos (.inr h1), decide_eq_true h1]; simp [isa_One.j0]
    · rw [if_neg (by omega), decide_eq_false h1]
      obtain ⟨j, rfl⟩ := Int.eq_ofNat_of_zero_le (by omega : 0 ≤ i)
      have hj : j * 14 + 14 ≤ l.length := by omega
      have e14 : wrap64 ((j : Int) * 14) = (((j * 14 : Nat)) : Int) := by rw [w64 _ (by omega) (by omega)]; omega
      have hc := chunk_len l j hj
      have hB := chunk_B hl j
      simp only [isa_One.j0]
      rw [if_neg (by decide), e14]
      simp only [Int.toNat_natCast]
      rw [if_pos (by omega), if_pos (by omega), if_pos (by simp; omega)]
      have ec : (l.drop (j * 14)).take 14 = chunk l j := rfl
      have en : (14 : Int).toNat = 14 := rfl
      have e6 : (6 : Int).toNat = 6 := rfl
      try rw [en]
      try rw [e6]
      rw [ec, hc]
      rw [if_pos (by decide), if_pos (by decide), if_pos (by decide), if_pos (by decide), if_pos (by decide), if_pos (by decide), if_pos (by decide)]
      have b0 := rd_B hB 0
      have b1 := rd_B hB 1
      have b2 := rd_B hB 2
      have b3 := rd_B hB 3
      have b4 := rd_B hB 4
      have b5 := rd_B hB 5
      rw [w64 _ (by omega) (by omega), w64 (rd (chunk l j) 1) (by omega) (by omega), w64 (rd (chunk l j) 2) (by omega) (by omega), w64 (rd (chunk l j) 3) (by omega) (by omega), w64 (rd (chunk l j) 4) (by omega) (by omega), w64 (rd (chunk l j) 5) (by omega) (by omega),
        w64 (rd (chunk l j) 4 * 256) (by omega) (by omega), or_i64 _ _ (by omega) (by omega) (by omega) b5.1 b5.2]
      have := isa_l0 (rd (chunk l j) 0) (rd (chunk l j) 1) (rd (chunk l j) 2) (rd (chunk l j) 3) (rd (chunk l j) 4 * 256 + rd (chunk l j) 5) 0 ((chunk l j).drop 6) [] 0 k (fun x hx => hB x (List.mem_of_mem_drop hx)) (by simp; omega) (by omega) (by simp) (by simp; omega)
      simpa [oneC] using this
theorem ref_One_f (l : List Int) (hl : isB l) (hL : l.length ≤ 140737488351232) (i : Int) (k : Nat) (hk : 20 ≤ k) : tabardref17_One.f k l i = some (oneV l i) := by
  obtain ⟨k, rfl⟩ : ∃ m, k = m + 1 := ⟨k - 1, by omega⟩
  unfold tabardref17_One.f oneV
  have ew : wrap64 ((l.length : Int) / 14) = (l.length : Int) / 14 := w64 _ (by omega) (by omega)
  rw [ew]
  by_cases h0 : i < 0
  · rw [if_pos h0, if_pos (.inl h0)]; simp [tabardref17_One.j0]
  · rw [if_neg h0]
    by_cases h1 : i ≥ (l.length : Int) / 14
    · rw [if_pos (.inr h1), decide_eq_true h1]; simp [tabardref17_One.j0]
    · rw [if_neg (by omega), decide_eq_false h1]
      obtain ⟨j, rfl⟩ := Int.eq_ofNat_of_zero_le (by omega : 0 ≤ i)
      have hj : j * 14 + 14 ≤ l.length := by omega
      have e14 : wrap64 ((j : Int) * 14) = (((j * 14 : Nat)) : Int) := by rw [w64 _ (by omega) (by omega)]; omega
      have e15 : wrap64 (wrap64 ((j : Int) + 1) * 14) = (((j * 14 + 14 : Nat)) : Int) := by rw [w64 ((j : Int) + 1) (by omega) (by omega), w64 _ (by omega) (by omega)]; omega
      have hc := chunk_len l j hj
      have hB := chunk_B hl j
      simp only [tabardref17_One.j0]
      rw [if_neg (by decide), e14, e15]
      simp only [Int.toNat_natCast]
      rw [if_pos (by omega), if_pos (by omega), if_pos (by omega)]
      have ec : (l.take (j * 14 + 14)).drop (j * 14) = chunk l j := by unfold chunk; rw [List.drop_take]; congr 1; omega
      rw [ec, hc]
      rw [if_pos (by decide), if_pos (by decide), if_pos (by decide), if_pos (by decide), if_pos (by decide), if_pos (by decide)]
      have b0 := rd_B hB 0
      have b1 := rd_B hB 1
      have b2 := rd_B hB 2
      have b3 := rd_B hB 3
      have b4 := rd_B hB 4
      have b5 := rd_B hB 5
      rw [w64 _ (by omega) (by omega), w64 (rd (chunk l j) 1) (by omega) (by omega), w64 (rd (chunk l j) 2) (by omega) (by omega), w64 (rd (chunk l j) 3) (by omega) (by omega), w64 (rd (chunk l j) 4) (by omega) (by omega), w64 (rd (chunk l j) 5) (by omega) (by omega),
        w64 (256 * rd (chunk l j) 4) (by omega) (by omega), w64 (256 * rd (chunk l j) 4 + rd (chunk l j) 5) (by omega) (by omega)]
      have e6 : ((chunk l j).take 6).length = 6 := by simp; omega
      have := ref_l0 (rd (chunk l j) 0) (rd (chunk l j) 1) (rd (chunk l j) 2) (rd (chunk l j) 3) (rd (chunk l j) 4 * 256 + rd (chunk l j) 5) ((chunk l j).drop 6) ((chunk l j).take 6) 0 k (fun x hx => hB x (List.mem_of_mem_drop hx)) (by simp; omega) (by simp; omega)
      rw [List.take_append_drop, e6, w64 0 (by omega) (by omega)] at this
      rw [show 256 * rd (chunk l j) 4 + rd (chunk l j) 5 = rd (chunk l j) 4 * 256 + rd (chunk l j) 5 from by omega]
      simpa [oneC] using this
end Go.Proofs.Ythbgoecgfoglnaa.Own
