/- The law IsaOwn, plain, and its walk. Condition: the slice takes at most 2^47 - 4096 bytes. -/
import Derived.Test.YthbgoecgfoglnaaOwn8
import Derived.Test.YthbgoecgfoglnaaPIsax8
namespace Go.Proofs.Ythbgoecgfoglnaa.Own
open Go.RowKit Go.Proofs.Ythbgoecgfoglnaa.PIsa Go.Proofs.Ythbgoecgfoglnaa.PA Go.Proofs.YthbgoecgfoglnaaW.PrintWords Go.Proofs.YthbgoecgfoglnaaW.PrintLast Go.Proofs.YthbgoecgfoglnaaW.PrintMore

theorem ref_l1 (x9 : List S28) (x11 y0 y1 y2 y3 y4 v : Int) (R : Option (List Int × Int)) (k' : Nat) (hn : 0 ≤ x11 ∧ x11 < 9000000000000000000) :
    ∀ (j k : Nat) (acc : List Int), j ≤ 8 → acc.length + j < 140737488355328 → k = k' + j + 1 → tabardref17_Encode.l0 k' x9 (acc ++ nb v j) (x11 + 1) = R →
      tabardref17_Encode.l1 k x9 acc x11 ((j : Int) - 1) y0 y1 y2 y3 y4 v = R := by
  intro j
  induction j with
  | zero =>
    intro k acc hj ha hk hR
    obtain rfl : k = k' + 1 := by omega
    simp only [tabardref17_Encode.l1]
    rw [if_neg (by omega), w64 _ (by omega) (by omega)]
    simpa [nb] using hR
  | succ j ih =>
    intro k acc hj ha hk hR
    obtain ⟨k, rfl⟩ : ∃ m, k = m + 1 := ⟨k - 1, by omega⟩
    have e3 : wrap64 (8 * (((j + 1 : Nat) : Int) - 1)) = ((8 * j : Nat) : Int) := by rw [w64 _ (by omega) (by omega)]; omega
    have e : wrap64 (((j + 1 : Nat) : Int) - 1 - 1) = (j : Int) - 1 := by rw [w64 _ (by omega) (by omega)]; omega
    simp only [tabardref17_Encode.l1]
    rw [e3, if_pos (by omega), if_pos (by omega), if_pos (by omega), e, shr_byte v j (by omega)]
    exact ih k _ (by omega) (by simp; omega) (by omega) (by simpa [nb] using hR)
theorem ref_enc (l : List S28) (hL : l.length ≤ 2932031007402) : ∀ (xs : List S28) (i k : Nat) (acc : List Int), l.drop i = xs → acc.length ≤ i * 14 → xs.length * 12 + 20 ≤ k →
    tabardref17_Encode.l0 k l acc i = some (encV xs acc) := by
  intro xs
  induction xs with
  | nil =>
    intro i k acc hd ha hk
    obtain ⟨k, rfl⟩ : ∃ m, k = m + 1 := ⟨k - 1, by omega⟩
    have hi : l.length ≤ i := by simpa using hd
    simp only [tabardref17_Encode.l0, encV]
    rw [if_neg (by omega)]
  | cons x xs ih =>
    intro i k acc hd ha hk
    obtain ⟨k, rfl⟩ : ∃ m, k = m + 11 := ⟨k - 11, by simp at hk; omega⟩
    have hi : i < l.length := by
      have := congrArg List.length hd
      simp at this
      omega
    have hx := rd_T l i x xs hd
    have hd' : l.drop (i + 1) = xs := by rw [← List.drop_drop, hd]; rfl
    simp only [tabardref17_Encode.l0, encV]
    rw [if_pos (by omega), if_pos (by omega), hx]
    simp only [tabardref17_Check.f, Option.bind_some]
    have hcs : chkI x.f0 x.f1 x.f2 x.f3 x.f4 x.f5 = chkS x := rfl
    rw [hcs]
    by_cases hc : chkS x = 0
    · rw [if_pos hc, if_pos hc, if_pos (by simp; omega)]
      refine ref_l1 l i x.f0 x.f1 x.f2 x.f3 x.f4 x.f5 _ (k + 1) (by omega) 8 (k + 10) _ (by omega) (by simp; omega) (by omega) ?_
      have := ih (i + 1) (k + 1) (acc ++ encB x) hd' (by simp [encB_len]; omega) (by simp at hk; omega)
      simpa [encB] using this
    · rw [if_neg hc, if_neg hc]
theorem ref_Encode_f (l : List S28) (hL : l.length ≤ 2932031007402) (k : Nat) (hk : l.length * 12 + 20 ≤ k) : tabardref17_Encode.f k l = some (encV l []) := by
  unfold tabardref17_Encode.f
  have := ref_enc l hL l 0 k [] (by simp) (by simp) hk
  simpa using this
/-- What is encoded are bytes, and not too many, whether all may be or not. -/
theorem encV_B (l : List S28) : ∀ (acc : List Int), isB acc → isB (encV l acc).1 ∧ (encV l acc).1.length ≤ acc.length + l.length * 14 := by
  induction l with
  | nil => intro acc h; exact ⟨h, by simp [encV]⟩
  | cons x xs ih =>
    intro acc h
    simp only [encV]
    by_cases hc : chkS x = 0
    · rw [if_pos hc]
      obtain ⟨h1, h2⟩ := ih (acc ++ encB x) (fun y hy => by rcases List.mem_append.1 hy with hy | hy; exact h y hy; exact encB_B x y hy)
      refine ⟨h1, ?_⟩
      simp only [List.length_append, encB_len, List.length_cons] at h2 ⊢
      omega
    · rw [if_neg hc]
      exact ⟨fun y hy => (List.not_mem_nil hy).elim, by simp⟩
theorem IsaOwn_l1 (l : List S28) (hl : l.length ≤ 2932031007317) : ∀ (d k i : Nat) (x4 : List Int) (n : Nat), i + d = n → x4.length = n → n ≤ 41048434103000 → d + l.length * 30 + 100 ≤ k →
    tabardlaw17_IsaOwn.l1 k l l x4 (decodeV (encV l []).1).1 n i = some true := by
  obtain ⟨hB, hBl⟩ := encV_B l [] (fun y hy => (List.not_mem_nil hy).elim)
  simp only [List.length_nil, Nat.zero_add] at hBl
  have hn := decodeV_len (encV l []).1
  intro d
  induction d with
  | zero =>
    intro k i x4 n hi hx hn2 hk
    obtain ⟨k, rfl⟩ : ∃ m, k = m + 1 := ⟨k - 1, by omega⟩
    simp only [tabardlaw17_IsaOwn.l1]
    rw [if_neg (by omega), ref_Encode_f l (by omega) k (by omega)]
    simp only [Option.bind_some]
    rw [ref_Decode_f _ hB (by omega) k (by omega), live_f k (by omega)]
    simp only [Option.bind_some]
    rw [if_pos trivial, eqS_f l (by omega) k (by omega)]
    simp only [Option.bind_some]
    rw [if_pos trivial, eqS_f _ (by omega) k (by omega)]
    rfl
  | succ d ih =>
    intro k i x4 n hi hx hn2 hk
    obtain ⟨k, rfl⟩ : ∃ m, k = m + 1 := ⟨k - 1, by omega⟩
    simp only [tabardlaw17_IsaOwn.l1]
    have e : wrap64 ((i : Int) + 1) = ((i + 1 : Nat) : Int) := by rw [w64 _ (by omega) (by omega)]; omega
    rw [if_pos (by omega), if_pos (by omega), if_pos (by omega), e]
    exact ih k (i + 1) _ n (by omega) (by simp [hx]) hn2 (by omega)
theorem IsaOwn_l0 (l : List S28) (hl : l.length ≤ 2932031007317) : ∀ (d k i : Nat) (x6 : List S28) (n : Nat), i + d = n → x6.length = n → n ≤ 41048434103000 → d + l.length * 60 + 200 ≤ k →
    tabardlaw17_IsaOwn.l0 k l l (encV l []).1 x6 n i = some true := by
  obtain ⟨hB, hBl⟩ := encV_B l [] (fun y hy => (List.not_mem_nil hy).elim)
  simp only [List.length_nil, Nat.zero_add] at hBl
  intro d
  induction d with
  | zero =>
    intro k i x6 n hi hx hn2 hk
    obtain ⟨k, rfl⟩ : ∃ m, k = m + 1 := ⟨k - 1, by omega⟩
    simp only [tabardlaw17_IsaOwn.l0]
    rw [if_neg (by omega), isa_Decode_f _ hB (by omega) k (by omega)]
    simp only [Option.bind_some]
    exact IsaOwn_l1 l hl (encV l []).1.length k 0 _ _ (by omega) rfl (by omega) (by omega)
  | succ d ih =>
    intro k i x6 n hi hx hn2 hk
    obtain ⟨k, rfl⟩ : ∃ m, k = m + 1 := ⟨k - 1, by omega⟩
    simp only [tabardlaw17_IsaOwn.l0]
    have e : wrap64 ((i : Int) + 1) = ((i + 1 : Nat) : Int) := by rw [w64 _ (by omega) (by omega)]; omega
    rw [if_pos (by omega), if_pos (by omega), if_pos (by omega), e]
    exact ih k (i + 1) _ n (by omega) (by simp [hx]) hn2 (by omega)
theorem IsaOwn_f (l : List S28) (hl : l.length ≤ 2932031007317) : tabardlaw17_IsaOwn.f (l.length * 100 + 500) l = some true := by
  obtain ⟨hB, hBl⟩ := encV_B l [] (fun y hy => (List.not_mem_nil hy).elim)
  simp only [List.length_nil, Nat.zero_add] at hBl
  have hn := decodeV_len (encV l []).1
  unfold tabardlaw17_IsaOwn.f slices_Clone28.f
  rw [if_pos (by omega), isa_Encode_f l (by omega) _ (by omega)]
  simp only [Option.bind_some]
  rw [isa_Decode_f _ hB (by omega) _ (by omega)]
  simp only [Option.bind_some]
  exact IsaOwn_l0 l hl (decodeV (encV l []).1).1.length _ 0 _ _ (by omega) rfl (by omega) (by omega)
/-- The law's walk: it returns true. -/
theorem IsaOwn_law (A0 : Option Addr) (c0 : Nat) (l0 : List S28) (w : World) (hl : l0.length * 48 ≤ 140737488351232) (_ : ∀ x ∈ l0, wfS x) (hr : Kd.C k28 w A0 l0.length l0) (hc : l0.length ≤ c0) :
    Calls Try.prog 6 #[.slice A0 l0.length c0] w fun e w' => e = .returned (.bool true) ∧ Below w.heap.size w w' :=
  tabardlaw17_IsaOwn.calls _ A0 c0 l0 true w hr hc (IsaOwn_f l0 (by omega))
end Go.Proofs.Ythbgoecgfoglnaa.Own
