/- The law IsaBack, plain. Conditions: at most 2 000 000 000 instructions and bytes, numbers that fit. -/
import Derived.Test.YthbgoecgfoglnaaOwn7
namespace Go.Proofs.Ythbgoecgfoglnaa.Own
open Go.RowKit Go.Proofs.Ythbgoecgfoglnaa.PIsa Go.Proofs.Ythbgoecgfoglnaa.PA Go.Proofs.YthbgoecgfoglnaaW.PrintWords Go.Proofs.YthbgoecgfoglnaaW.PrintLast Go.Proofs.YthbgoecgfoglnaaW.PrintMore

def fitsS (l : List S28) : Prop := ∀ x ∈ l, -9223372036854775808 ≤ x.f5 ∧ x.f5 ≤ 9223372036854775807
theorem encV_ok : ∀ (l : List S28) (acc b : List Int), encV l acc = (b, 0) → (∀ x ∈ l, chkS x = 0) ∧ b = acc ++ l.flatMap encB := by
  intro l
  induction l with
  | nil => intro acc b h; simp [encV] at h; simp [h]
  | cons x xs ih =>
    intro acc b h
    simp only [encV] at h
    by_cases hc : chkS x = 0
    · rw [if_pos hc] at h
      obtain ⟨h1, h2⟩ := ih _ _ h
      exact ⟨fun y hy => by rcases List.mem_cons.1 hy with rfl | hy; exact hc; exact h1 y hy, by rw [h2]; simp⟩
    · rw [if_neg hc] at h
      exact absurd (congrArg Prod.snd h) hc
theorem encV_of : ∀ (l : List S28) (acc : List Int), (∀ x ∈ l, chkS x = 0) → encV l acc = (acc ++ l.flatMap encB, 0) := by
  intro l
  induction l with
  | nil => intro acc _; simp [encV]
  | cons x xs ih =>
    intro acc h
    simp only [encV]
    rw [if_pos (h x (by simp)), ih _ (fun y hy => h y (by simp [hy]))]
    simp
theorem nb_B (v : Int) (j : Nat) : isB (nb v j) := by
  induction j with
  | zero => intro x hx; cases hx
  | succ j ih =>
    intro x hx
    rcases List.mem_cons.1 hx with rfl | hx
    · omega
    · exact ih x hx
theorem encB_B (x : S28) : isB (encB x) := by
  intro y hy
  unfold encB at hy
  rcases List.mem_append.1 hy with hy | hy
  · simp only [List.mem_cons, List.mem_nil_iff, or_false] at hy
    rcases hy with rfl | rfl | rfl | rfl | rfl | rfl <;> omega
  · exact nb_B _ _ y hy
theorem flat_len (l : List S28) : (l.flatMap encB).length = l.length * 14 := by
  induction l with
  | nil => rfl
  | cons x xs ih => simp [encB_len, ih]; omega
theorem flat_B (l : List S28) : isB (l.flatMap encB) := by
  intro y hy
  obtain ⟨x, _, hx⟩ := List.mem_flatMap.1 hy
  exact encB_B x y hx
theorem oneV_at (b : List Int) (i : Nat) (h : i * 14 + 14 ≤ b.length) : oneV b i = oneC (chunk b i) := by
  unfold oneV
  rw [if_neg (by omega)]
  rfl
theorem dec_enc (b : List Int) : ∀ (xs acc : List S28) (i : Nat), b.drop (i * 14) = xs.flatMap encB → (∀ x ∈ xs, chkS x = 0) → fitsS xs → decV xs.length b acc i = (acc ++ xs, 0) := by
  intro xs
  induction xs with
  | nil => intro acc i _ _ _; simp [decV]
  | cons x xs ih =>
    intro acc i hd hc hf
    have hl := congrArg List.length hd
    rw [flat_len] at hl
    simp only [List.length_drop, List.length_cons] at hl
    have hch : chunk b i = encB x := by
      unfold chunk
      rw [hd, List.flatMap_cons, List.take_append_of_le_length (by rw [encB_len]; omega), List.take_of_length_le (by rw [encB_len]; omega)]
    have ho := oneV_at b i (by omega)
    rw [hch, oneC_enc x (hc x (by simp)) (hf x (by simp))] at ho
    simp only [List.length_cons, decV]
    rw [ho, if_pos rfl]
    have hd' : b.drop ((i + 1) * 14) = xs.flatMap encB := by
      rw [show (i + 1) * 14 = i * 14 + 14 from by omega, ← List.drop_drop, hd, List.flatMap_cons, List.drop_append_of_le_length (by rw [encB_len]; omega), List.drop_of_length_le (by rw [encB_len]; omega)]
      rfl
    rw [ih _ (i + 1) hd' (fun y hy => hc y (by simp [hy])) (fun y hy => hf y (by simp [hy]))]
    simp [toS]
theorem decodeV_enc (l : List S28) (hc : ∀ x ∈ l, chkS x = 0) (hf : fitsS l) : decodeV (l.flatMap encB) = (l, 0) := by
  unfold decodeV
  have hl := flat_len l
  rw [if_pos (by omega), show (l.flatMap encB).length / 14 = l.length from by omega]
  have := dec_enc (l.flatMap encB) l [] 0 (by simp) hc hf
  simpa using this
theorem enc_dec (b : List Int) (hB : isB b) : ∀ (d : Nat) (acc m : List S28) (i : Nat), i * 14 + d * 14 ≤ b.length → decV d b acc i = (m, 0) →
    ∃ xs, m = acc ++ xs ∧ (∀ x ∈ xs, chkS x = 0) ∧ xs.flatMap encB = (b.drop (i * 14)).take (d * 14) := by
  intro d
  induction d with
  | zero => intro acc m i _ h; simp [decV] at h; exact ⟨[], by simp [h], by simp, by simp⟩
  | succ d ih =>
    intro acc m i hi h
    simp only [decV] at h
    rw [oneV_at b i (by omega)] at h
    by_cases hz : (oneC (chunk b i)).2.2.2.2.2.2 = 0
    · rw [if_pos hz] at h
      obtain ⟨xs, h1, h2, h3⟩ := ih _ _ (i + 1) (by omega) h
      obtain ⟨g1, g2⟩ := enc_oneC (chunk b i) (chunk_len b i (by omega)) (chunk_B hB i) hz
      refine ⟨toS (oneC (chunk b i)) :: xs, by rw [h1]; simp, fun x hx => by rcases List.mem_cons.1 hx with rfl | hx; exact g1; exact h2 x hx, ?_⟩
      rw [List.flatMap_cons, g2, h3]
      unfold chunk
      rw [show (d + 1) * 14 = 14 + d * 14 from by omega, List.take_add, List.drop_drop, show i * 14 + 14 = (i + 1) * 14 from by omega]
    · rw [if_neg hz] at h
      exact absurd (congrArg Prod.snd h) hz
theorem encode_dec (b : List Int) (hB : isB b) (m : List S28) (h : decodeV b = (m, 0)) : encV m [] = (b, 0) := by
  unfold decodeV at h
  by_cases hz : (b.length : Int) % 14 = 0
  · rw [if_pos hz] at h
    obtain ⟨xs, h1, h2, h3⟩ := enc_dec b hB _ [] m 0 (by omega) h
    simp only [List.nil_append] at h1
    subst h1
    rw [encV_of _ _ h2, h3]
    simp only [List.nil_append, Nat.zero_mul, List.drop_zero, Prod.mk.injEq, and_true]
    exact List.take_of_length_le (by omega)
  · rw [if_neg hz] at h
    exact absurd (congrArg Prod.snd h) (by simp)
theorem eqS_l0 (l : List S28) (hL : l.length ≤ 41048434103000) : ∀ (d k i : Nat), i + d = l.length → d < k → api_Mach_28.l0 k l l (l.length : Nat) i = some true := by
  intro d
  induction d with
  | zero =>
    intro k i hi hk
    obtain ⟨k, rfl⟩ : ∃ m, k = m + 1 := ⟨k - 1, by omega⟩
    simp only [api_Mach_28.l0]
    rw [if_neg (by omega)]
  | succ d ih =>
    intro k i hi hk
    obtain ⟨k, rfl⟩ : ∃ m, k = m + 1 := ⟨k - 1, by omega⟩
    simp only [api_Mach_28.l0]
    have e : wrap64 ((i : Int) + 1) = ((i + 1 : Nat) : Int) := by rw [w64 _ (by omega) (by omega)]; omega
    rw [if_pos (by omega), if_pos (by omega), if_pos (by omega), if_pos (by omega), if_neg (by simp), e]
    exact ih k (i + 1) (by omega) (by omega)
theorem eqS_f (l : List S28) (hL : l.length ≤ 41048434103000) (k : Nat) (hk : l.length < k) : api_Mach_28.f k l l = some true := by
  unfold api_Mach_28.f
  rw [if_pos rfl]
  exact eqS_l0 l hL l.length k 0 (by omega) hk
theorem bytesEq_f (l : List Int) : bytes_Equal.f l l = some true := by
  unfold bytes_Equal.f
  rw [beq_self_eq_true]
theorem IsaBack_j (b : List Int) (hB : isB b) (hL : b.length ≤ 41048434103000) (k : Nat) (hk : b.length + 60 ≤ k) : tabardlaw17_IsaBack.j0 (k + 1) b = some true := by
  simp only [tabardlaw17_IsaBack.j0]
  have hn := decodeV_len b
  rw [isa_Decode_f b hB hL k (by omega)]
  simp only [Option.bind_some]
  by_cases hz : (decodeV b).2 = 0
  · rw [if_pos hz, isa_Encode_f _ (by omega) k (by omega), encode_dec b hB (decodeV b).1 (by rw [← hz])]
    simp only [Option.bind_some]
    rw [if_pos trivial, bytesEq_f]
    simp only [Option.bind_some]
    rw [if_pos trivial, live_f k (by omega)]
    rfl
  · rw [if_neg hz, live_f k (by omega)]
    rfl
theorem IsaBack_f (l : List S28) (hl : l.length ≤ 2000000000) (hf : fitsS l) (b : List Int) (hB : isB b) (hL : b.length ≤ 2000000000) (k : Nat) (hk : l.length * 14 + b.length + 60 ≤ k) : tabardlaw17_IsaBack.f (k + 1) l b = some true := by
  unfold tabardlaw17_IsaBack.f
  rw [isa_Encode_f l (by omega) _ (by omega)]
  simp only [Option.bind_some]
  by_cases hz : (encV l []).2 = 0
  · rw [if_pos hz]
    obtain ⟨h1, h2⟩ := encV_ok l [] (encV l []).1 (by rw [← hz])
    simp only [List.nil_append] at h2
    rw [h2, isa_Decode_f _ (flat_B l) (by rw [flat_len]; omega) _ (by rw [flat_len]; omega), decodeV_enc l h1 hf]
    simp only [Option.bind_some]
    rw [if_pos trivial, eqS_f l (by omega) _ (by omega)]
    simp only [Option.bind_some]
    rw [if_pos trivial]
    exact IsaBack_j b hB (by omega) k (by omega)
  · rw [if_neg hz]
    exact IsaBack_j b hB (by omega) k (by omega)
end Go.Proofs.Ythbgoecgfoglnaa.Own
namespace Go.Proofs.Ythbgoecgfoglnaa.Own
open Go.RowKit Go.Proofs.Ythbgoecgfoglnaa.PIsa Go.Proofs.Ythbgoecgfoglnaa.PA Go.Proofs.YthbgoecgfoglnaaW.PrintWords Go.Proofs.YthbgoecgfoglnaaW.PrintLast
def wfS (x : S28) : Prop := (Lit.int .i64 x.f0).wf = true ∧ (Lit.int .i64 x.f1).wf = true ∧ (Lit.int .i64 x.f2).wf = true ∧ (Lit.int .i64 x.f3).wf = true ∧ (Lit.int .i64 x.f4).wf = true ∧ (Lit.int .i64 x.f5).wf = true
theorem fits_of {l : List S28} (h : ∀ x ∈ l, wfS x) : fitsS l := fun x hx => by
  have := (h x hx).2.2.2.2.2
  simp [Lit.wf, IntKind.min, IntKind.max, IntKind.signed, IntKind.bits] at this
  omega
/-- The law's walk: for at most 2^20 instructions and bytes it returns true. -/
theorem IsaBack_law (A0 : Option Addr) (c0 : Nat) (l0 : List S28) (A1 : Option Addr) (c1 : Nat) (l1 : List Int) (w : World) (hl : l0.length ≤ 1048576) (hw : ∀ x ∈ l0, wfS x) (hr : Kd.C k28 w A0 l0.length l0) (hc : l0.length ≤ c0)
    (hl1 : l1.length ≤ 1048576) (hw1 : ∀ x ∈ l1, (Lit.int .u8 x).wf = true) (hr1 : ReadsInt w .u8 A1 l1.length l1) (hc1 : l1.length ≤ c1) :
    Calls Try.prog 5 #[.slice A0 l0.length c0, .slice A1 l1.length c1] w fun e w' => e = .returned (.bool true) ∧ Below w.heap.size w w' := by
  refine (tabardlaw17_IsaBack.calls _ A0 c0 l0 A1 c1 l1 true w hr hc (Kd.C_of_reads (d := (0 : Int)) (h1 := fun _ => rfl) hr1) hc1 (IsaBack_f l0 (by omega) (fits_of hw) l1 (isB_of hw1) (by omega) (l0.length * 14 + l1.length + 60) (Nat.le_refl _))).mono ?_
  rintro e w' ⟨rfl, hd⟩
  exact ⟨rfl, hd⟩
end Go.Proofs.Ythbgoecgfoglnaa.Own
