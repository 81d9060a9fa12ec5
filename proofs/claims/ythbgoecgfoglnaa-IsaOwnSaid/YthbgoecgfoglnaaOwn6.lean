/- The law IsaReads, plain: what the printed functions answer. Condition: bytes, at most 4 times 10^13 of them. -/
import Derived.Test.YthbgoecgfoglnaaOwn5
import Derived.Test.YthbgoecgfoglnaaPIsax5
namespace Go.Proofs.Ythbgoecgfoglnaa.Own
open Go.RowKit Go.Proofs.Ythbgoecgfoglnaa.PIsa Go.Proofs.Ythbgoecgfoglnaa.PA Go.Proofs.YthbgoecgfoglnaaW.PrintWords Go.Proofs.YthbgoecgfoglnaaW.PrintLast

def toS (o : Int × Int × Int × Int × Int × Int × Int) : S28 := ⟨o.1, o.2.1, o.2.2.1, o.2.2.2.1, o.2.2.2.2.1, o.2.2.2.2.2.1⟩
def decV : Nat → List Int → List S28 → Nat → List S28 × Int
  | 0, _, acc, _ => (acc, 0)
  | d + 1, l, acc, i => if (oneV l i).2.2.2.2.2.2 = 0 then decV d l (acc ++ [toS (oneV l i)]) (i + 1) else ([], (oneV l i).2.2.2.2.2.2)
def decodeV (l : List Int) : List S28 × Int := if (l.length : Int) % 14 = 0 then decV (l.length / 14) l [] 0 else ([], 170)
theorem isa_dec (l : List Int) (hl : isB l) (hL : l.length ≤ 41048434103000) : ∀ (d k : Nat) (acc : List S28) (i : Nat), i + d = l.length / 14 → acc.length + d < 2932031007402 → d + 25 ≤ k →
    isa_Decode.l0 k l acc ((l.length : Int) / 14) i = some (decV d l acc i) := by
  intro d
  induction d with
  | zero =>
    intro k acc i hi ha hk
    obtain ⟨k, rfl⟩ : ∃ m, k = m + 1 := ⟨k - 1, by omega⟩
    simp only [isa_Decode.l0, decV]
    rw [if_neg (by omega)]
  | succ d ih =>
    intro k acc i hi ha hk
    obtain ⟨k, rfl⟩ : ∃ m, k = m + 1 := ⟨k - 1, by omega⟩
    simp only [isa_Decode.l0, decV]
    rw [if_pos (by omega), isa_One_f l hl (by omega) _ k (by omega)]
    simp only [Option.bind_some]
    by_cases h : (oneV l (i : Int)).2.2.2.2.2.2 = 0
    · rw [if_pos h, if_pos h, if_pos (by omega)]
      have e : wrap64 ((i : Int) + 1) = ((i + 1 : Nat) : Int) := by rw [w64 _ (by omega) (by omega)]; omega
      rw [e]
      exact ih k _ (i + 1) (by omega) (by simp; omega) (by omega)
    · rw [if_neg h, if_neg h]
theorem ref_dec (l : List Int) (hl : isB l) (hL : l.length ≤ 41048434103000) : ∀ (d k : Nat) (acc : List S28) (i : Nat), i + d = l.length / 14 → acc.length + d < 2932031007402 → d + 25 ≤ k →
    tabardref17_Decode.l0 k l acc i = some (decV d l acc i) := by
  intro d
  have ew : wrap64 ((l.length : Int) / 14) = (l.length : Int) / 14 := w64 _ (by omega) (by omega)
  induction d with
  | zero =>
    intro k acc i hi ha hk
    obtain ⟨k, rfl⟩ : ∃ m, k = m + 1 := ⟨k - 1, by omega⟩
    simp only [tabardref17_Decode.l0, decV]
    rw [ew, if_neg (by omega)]
  | succ d ih =>
    intro k acc i hi ha hk
    obtain ⟨k, rfl⟩ : ∃ m, k = m + 1 := ⟨k - 1, by omega⟩
    simp only [tabardref17_Decode.l0, decV]
    rw [ew, if_pos (by omega), ref_One_f l hl (by omega) _ k (by omega)]
    simp only [Option.bind_some]
    by_cases h : (oneV l (i : Int)).2.2.2.2.2.2 = 0
    · rw [if_pos h, if_pos h, if_pos (by omega)]
      have e : wrap64 ((i : Int) + 1) = ((i + 1 : Nat) : Int) := by rw [w64 _ (by omega) (by omega)]; omega
      rw [e]
      exact ih k _ (i + 1) (by omega) (by simp; omega) (by omega)
    · rw [if_neg h, if_neg h]
theorem isa_Decode_f (l : List Int) (hl : isB l) (hL : l.length ≤ 41048434103000) (k : Nat) (hk : l.length / 14 + 25 ≤ k) : isa_Decode.f k l = some (decodeV l) := by
  unfold isa_Decode.f decodeV
  by_cases h : (l.length : Int) % 14 = 0
  · rw [if_pos h, if_pos h, w64 _ (by omega) (by omega)]
    exact isa_dec l hl hL (l.length / 14) k [] 0 (by omega) (by simp; omega) (by omega)
  · rw [if_neg h, if_neg h]
theorem ref_Decode_f (l : List Int) (hl : isB l) (hL : l.length ≤ 41048434103000) (k : Nat) (hk : l.length / 14 + 25 ≤ k) : tabardref17_Decode.f k l = some (decodeV l) := by
  unfold tabardref17_Decode.f decodeV
  by_cases h : (l.length : Int) % 14 = 0
  · rw [if_pos h, if_pos h]
    exact ref_dec l hl hL (l.length / 14) k [] 0 (by omega) (by simp; omega) (by omega)
  · rw [if_neg h, if_neg h]
theorem same_l0 (l : List S28) (hL : l.length ≤ 41048434103000) : ∀ (d k i : Nat), i + d = l.length → d < k → tabardref17_Same.l0 k l l i = some true := by
  intro d
  induction d with
  | zero =>
    intro k i hi hk
    obtain ⟨k, rfl⟩ : ∃ m, k = m + 1 := ⟨k - 1, by omega⟩
    simp only [tabardref17_Same.l0]
    rw [if_neg (by omega)]
  | succ d ih =>
    intro k i hi hk
    obtain ⟨k, rfl⟩ : ∃ m, k = m + 1 := ⟨k - 1, by omega⟩
    simp only [tabardref17_Same.l0]
    rw [if_pos (by omega), if_pos (by omega), if_pos (by omega)]
    have e : wrap64 ((i : Int) + 1) = ((i + 1 : Nat) : Int) := by rw [w64 _ (by omega) (by omega)]; omega
    rw [if_neg (by simp), e]
    exact ih k (i + 1) (by omega) (by omega)
theorem same_f (l : List S28) (hL : l.length ≤ 41048434103000) (k : Nat) (hk : l.length < k) : tabardref17_Same.f k l l = some true := by
  unfold tabardref17_Same.f
  rw [if_pos rfl]
  exact same_l0 l hL l.length k 0 (by omega) hk
theorem decV_len (l : List Int) : ∀ (d : Nat) (acc : List S28) (i : Nat), (decV d l acc i).1.length ≤ acc.length + d := by
  intro d
  induction d with
  | zero => intro acc i; simp [decV]
  | succ d ih =>
    intro acc i
    simp only [decV]
    split
    · have := ih (acc ++ [toS (oneV l i)]) (i + 1); simp at this; omega
    · simp
theorem decodeV_len (l : List Int) : (decodeV l).1.length ≤ l.length / 14 := by
  unfold decodeV
  split
  · have := decV_len l (l.length / 14) [] 0; simpa using this
  · simp
theorem live40 : tabardlaw17_live.f 40 = some true := by
  unfold tabardlaw17_live.f
  have e : isa_Encode.f 40 [(⟨1, 3, 0, 0, 0, (-1)⟩ : S28)] = some ([1, 3, 0, 0, 0, 0, 255, 255, 255, 255, 255, 255, 255, 255], 0) := by decide +kernel
  rw [e]
  have e2 : isa_Check.f 2 0 16 0 0 0 = some 170 := by decide +kernel
  have e3 : isa_Name.f 37 = some ⟨#[101, 120, 105, 116]⟩ := by rfl
  simp only [Option.bind_some]
  rw [if_pos trivial, if_pos (by decide), if_pos (by decide), if_pos (by decide), if_pos (by decide), if_pos (by decide), if_pos (by decide), if_pos (by decide), e2]
  simp only [Option.bind_some]
  rw [if_pos trivial, e3]
  simp only [Option.bind_some]
  rw [show (⟨#[101, 120, 105, 116]⟩ : ByteArray).toList = [101, 120, 105, 116] from by decide +kernel]
  rfl
theorem live_f (k : Nat) (hk : 40 ≤ k) : tabardlaw17_live.f k = some true := at_rounds tabardlaw17_live.mono hk live40
theorem IsaReads_f (l : List Int) (hl : isB l) (hL : l.length ≤ 41048434103000) (i : Int) (k : Nat) (hk : l.length + 50 ≤ k) : tabardlaw17_IsaReads.f k l i = some true := by
  have hn := decodeV_len l
  unfold tabardlaw17_IsaReads.f
  rw [isa_Decode_f l hl hL k (by omega), ref_Decode_f l hl hL k (by omega), isa_One_f l hl (by omega) i k (by omega), ref_One_f l hl (by omega) i k (by omega), live_f k (by omega)]
  simp only [Option.bind_some]
  rw [if_pos trivial, if_pos trivial, same_f _ (by omega) k (by omega)]
  simp
end Go.Proofs.Ythbgoecgfoglnaa.Own
namespace Go.Proofs.Ythbgoecgfoglnaa.Own
open Go.RowKit Go.Proofs.Ythbgoecgfoglnaa.PIsa Go.Proofs.Ythbgoecgfoglnaa.PA Go.Proofs.YthbgoecgfoglnaaW.PrintWords Go.Proofs.YthbgoecgfoglnaaW.PrintLast
theorem isB_of {l : List Int} (h : ∀ x ∈ l, (Lit.int .u8 x).wf = true) : isB l := fun x hx => by
  have := h x hx
  simp [Lit.wf, IntKind.min, IntKind.max, IntKind.signed, IntKind.bits] at this
  omega
/-- The law's walk: for at most 2^20 bytes it returns true. -/
theorem IsaReads_law (A0 : Option Addr) (c0 : Nat) (l0 : List Int) (a1 : Int) (w : World) (hl : l0.length ≤ 1048576) (hw : ∀ x ∈ l0, (Lit.int .u8 x).wf = true) (hr : ReadsInt w .u8 A0 l0.length l0) (hc : l0.length ≤ c0) (_ : (Lit.int .i64 a1).wf = true) :
    Calls Try.prog 3 #[.slice A0 l0.length c0, .int .i64 a1] w fun e w' => e = .returned (.bool true) ∧ Below w.heap.size w w' := by
  refine (tabardlaw17_IsaReads.calls (l0.length + 50) A0 c0 l0 a1 true w (Kd.C_of_reads (d := (0 : Int)) (h1 := fun _ => rfl) hr) hc (IsaReads_f l0 (isB_of hw) (by omega) a1 _ (Nat.le_refl _))).mono ?_
  rintro e w' ⟨rfl, hd⟩
  exact ⟨rfl, hd⟩
end Go.Proofs.Ythbgoecgfoglnaa.Own
