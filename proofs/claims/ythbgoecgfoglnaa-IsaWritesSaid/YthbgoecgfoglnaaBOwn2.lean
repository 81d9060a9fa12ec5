/- Plain lemmas on Go.bits. No condition beyond their hypotheses. -/
import Derived.Laws.BitsLemmas
import Derived.RowKit
import Derived.Test.YthbgoecgfoglnaaWMore
namespace Go.Proofs.Ythbgoecgfoglnaa.Own
open Go.RowKit Go.Proofs.YthbgoecgfoglnaaW.PrintWords Go.Proofs.YthbgoecgfoglnaaW.PrintLast Go.Proofs.YthbgoecgfoglnaaW.PrintMore

theorem wrap_u64 (n : Int) : IntKind.u64.wrap n = n % 18446744073709551616 := by simp [IntKind.wrap, IntKind.bits, IntKind.signed]
theorem wrap64_eq (n : Int) : IntKind.i64.wrap n = wrap64 n := by rw [IntKind.wrap_i64]; unfold wrap64; rfl
theorem or_u64 (x y : Int) (h0 : 0 ≤ x) (h1 : x < 18446744073709551616) (hm : x % 256 = 0) (hy0 : 0 ≤ y) (hy : y < 256) : Go.bits .or .u64 x y = x + y :=
  bits_join .u64 64 (by decide) (fun n h0 h1 => by rw [wrap_u64]; exact Int.emod_eq_of_lt h0 (by simpa using h1)) 8 x y h0 (by simpa using hm) (by simpa using h1) hy0 (by simpa using hy) (by simp; omega)
theorem bits_def64 (x y : Int) : Go.bits .or .i64 x y = wrap64 (((BitVec.ofInt 64 x ||| BitVec.ofInt 64 y).toNat : Nat) : Int) := by
  rw [← wrap64_eq]; rfl
theorem bits_defu64 (x y : Int) : Go.bits .or .u64 x y = IntKind.u64.wrap (((BitVec.ofInt 64 x ||| BitVec.ofInt 64 y).toNat : Nat) : Int) := rfl
theorem or_i64 (x y : Int) (h0 : -9223372036854775808 ≤ x) (h1 : x ≤ 9223372036854775807) (hm : x % 256 = 0) (hy0 : 0 ≤ y) (hy : y < 256) : Go.bits .or .i64 x y = x + y := by
  have hu := or_u64 (x % 18446744073709551616) y (by omega) (by omega) (by omega) hy0 hy
  rw [bits_defu64] at hu
  have e : BitVec.ofInt 64 (x % 18446744073709551616) = BitVec.ofInt 64 x := by
    apply BitVec.eq_of_toNat_eq
    simp only [BitVec.toNat_ofInt]
    congr 1
    show x % 18446744073709551616 % 18446744073709551616 = x % 18446744073709551616
    omega
  rw [e] at hu
  rw [bits_def64]
  rw [wrap_u64] at hu
  have hlt : (((BitVec.ofInt 64 x ||| BitVec.ofInt 64 y).toNat : Nat) : Int) < 18446744073709551616 := by
    have := (BitVec.ofInt 64 x ||| BitVec.ofInt 64 y).isLt
    have h2 : (2 : Nat) ^ 64 = 18446744073709551616 := by decide
    omega
  rw [Int.emod_eq_of_lt (by omega) hlt] at hu
  rw [hu]
  unfold wrap64
  omega
end Go.Proofs.Ythbgoecgfoglnaa.Own
