/- isa.One and tabardref17.One are one function of the bytes. Condition: each number is a byte, and there are at most 2^47 of them. -/
import Derived.Test.YthbgoecgfoglnaaBPIsax4
import Derived.Test.YthbgoecgfoglnaaBPIsax2
namespace Go.Proofs.Ythbgoecgfoglnaa.Own
open Go.RowKit Go.Proofs.Ythbgoecgfoglnaa.PIsa Go.Proofs.Ythbgoecgfoglnaa.PA Go.Proofs.YthbgoecgfoglnaaW.PrintWords Go.Proofs.YthbgoecgfoglnaaW.PrintLast

def isB (l : List Int) : Prop := ∀ x ∈ l, 0 ≤ x ∧ x < 256
def be (n : Int) (bs : List Int) : Int := bs.foldl (fun n b => n * 256 + b) n
def fin (x0 x1 x2 x3 x4 N : Int) : Int × Int × Int × Int × Int × Int × Int :=
  if chkI x0 x1 x2 x3 x4 N = 0 then (x0, x1, x2, x3, x4, N, 0) else (0, 0, 0, 0, 0, 0, chkI x0 x1 x2 x3 x4 N)
theorem rd_mid (pre bs : List Int) (b : Int) : rd (pre ++ b :: bs) (pre.length : Int) = b := by
  unfold rd
  simp
theorem w64 (x : Int) (h0 : -9223372036854775808 ≤ x) (h1 : x ≤ 9223372036854775807) : wrap64 x = x := by unfold wrap64; omega
theorem isa_step (n b q : Int) (hn : 0 ≤ n) (hq : n < q) (hq2 : q * 256 ≤ 18446744073709551616) (hb0 : 0 ≤ b) (hb : b < 256) :
    Go.bits .or .u64 (IntKind.u64.wrap (n * 256)) (IntKind.u64.wrap b) = n * 256 + b := by
  rw [wrap_u64, wrap_u64, Int.emod_eq_of_lt (by omega) (by omega), Int.emod_eq_of_lt (by omega) (by omega)]
  exact or_u64 _ _ (by omega) (by omega) (by omega) hb0 hb
theorem pow_le8 (p : Nat) (h : p ≤ 7) : (256 : Int) ^ p * 256 ≤ 18446744073709551616 := by
  match p, h with
  | 0, _ => decide
  | 1, _ => decide
  | 2, _ => decide
  | 3, _ => decide
  | 4, _ => decide
  | 5, _ => decide
  | 6, _ => decide
  | 7, _ => decide
theorem isa_l0 (x0 x1 x2 x3 x4 z : Int) : ∀ (bs pre : List Int) (n : Int) (k : Nat), isB bs → pre.length + bs.length ≤ 8 → 0 ≤ n → n < 256 ^ pre.length → bs.length < k →
    isa_One.l0 k n (pre ++ bs) ((pre ++ bs).length : Nat) (pre.length : Nat) x0 x1 x2 x3 x4 z = some (fin x0 x1 x2 x3 x4 (wrap64 (be n bs))) := by
  intro bs
  induction bs with
  | nil =>
    intro pre n k _ _ _ _ hk
    obtain ⟨k, rfl⟩ : ∃ m, k = m + 1 := ⟨k - 1, by omega⟩
    simp only [isa_One.l0]
    rw [if_neg (by simp), check_f]
    simp only [Option.bind_some, be, List.foldl_nil, fin]
    split <;> simp_all
  | cons b bs ih =>
    intro pre n k hb hl h0 hn hk
    obtain ⟨k, rfl⟩ : ∃ m, k = m + 1 := ⟨k - 1, by omega⟩
    simp only [List.length_cons] at hl hk
    have hbb := hb b (by simp)
    simp only [isa_One.l0]
    rw [if_pos (by simp; omega), if_pos (by omega), if_pos (by simp; omega), rd_mid, isa_step n b _ h0 hn (pow_le8 _ (by omega)) hbb.1 hbb.2]
    have e : wrap64 ((pre.length : Int) + 1) = (((pre ++ [b]).length : Nat) : Int) := by rw [w64 _ (by omega) (by omega)]; simp
    have := ih (pre ++ [b]) (n * 256 + b) k (fun x hx => hb x (by simp [hx])) (by simp; omega) (by omega) (by
      rw [List.length_append]
      simp only [List.length_cons, List.length_nil, Nat.zero_add, Int.pow_succ]
      omega) (by omega)
    rw [e]
    simpa [be] using this
theorem ref_step (v b : Int) (hb0 : 0 ≤ b) (hb : b < 256) : Go.bits .or .i64 (wrap64 (wrap64 v * 256)) (wrap64 b) = wrap64 (v * 256 + b) := by
  rw [w64 b (by omega) (by omega), or_i64 _ _ (by unfold wrap64; omega) (by unfold wrap64; omega) (by unfold wrap64; omega) hb0 hb]
  unfold wrap64
  omega
theorem ref_l0 (x0 x1 x2 x3 x4 : Int) : ∀ (bs pre : List Int) (v : Int) (k : Nat), isB bs → pre.length + bs.length = 14 → bs.length < k →
    tabardref17_One.l0 k (pre ++ bs) (pre.length : Nat) x0 x1 x2 x3 x4 (wrap64 v) = some (fin x0 x1 x2 x3 x4 (wrap64 (be v bs))) := by
  intro bs
  induction bs with
  | nil =>
    intro pre v k _ hl hk
    obtain ⟨k, rfl⟩ : ∃ m, k = m + 1 := ⟨k - 1, by omega⟩
    simp only [List.length_nil, Nat.add_zero] at hl
    simp only [tabardref17_One.l0]
    rw [if_neg (by omega)]
    simp only [tabardref17_Check.f, Option.bind_some, be, List.foldl_nil, fin]
    split <;> simp_all
  | cons b bs ih =>
    intro pre v k hb hl hk
    obtain ⟨k, rfl⟩ : ∃ m, k = m + 1 := ⟨k - 1, by omega⟩
    simp only [List.length_cons] at hl hk
    have hbb := hb b (by simp)
    simp only [tabardref17_One.l0]
    rw [if_pos (by omega), if_pos (by omega), if_pos (by simp; omega), rd_mid, ref_step v b hbb.1 hbb.2]
    have e : wrap64 ((pre.length : Int) + 1) = (((pre ++ [b]).length : Nat) : Int) := by rw [w64 _ (by omega) (by omega)]; simp
    have := ih (pre ++ [b]) (v * 256 + b) k (fun x hx => hb x (by simp [hx])) (by simp; omega) (by omega)
    rw [e]
    simpa [be] using this

end Go.Proofs.Ythbgoecgfoglnaa.Own
