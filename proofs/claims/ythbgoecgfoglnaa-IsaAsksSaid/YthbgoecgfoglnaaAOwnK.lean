/- What isa.Writes, Reads, Leaves, Ends and Name answer, and the document: the same. No condition. -/
import Derived.Test.YthbgoecgfoglnaaAOwnS
import Derived.Test.YthbgoecgfoglnaaAOwn7
import Derived.Test.YthbgoecgfoglnaaAPIsax6
import Derived.Test.YthbgoecgfoglnaaAPIsax7
set_option linter.unusedVariables false
set_option linter.unusedSimpArgs false
namespace Go.Proofs.Ythbgoecgfoglnaa.Own
open Go.RowKit Go.Proofs.Ythbgoecgfoglnaa.PIsa Go.Proofs.Ythbgoecgfoglnaa.PA Go.Proofs.YthbgoecgfoglnaaW.PrintWords Go.Proofs.YthbgoecgfoglnaaW.PrintLast
section
variable (x0 x1 x2 x3 x4 x5 : Int)
def wrV : Int × Bool := if chkI x0 x1 x2 x3 x4 x5 = 0 ∧ (hasV x0).2.1 = true ∧ x0 ≠ 25 ∧ x0 ≠ 17 then (x1, true) else (0, false)
def lvV : Bool := decide (chkI x0 x1 x2 x3 x4 x5 = 0) && ((decide (26 ≤ x0) && decide (x0 ≤ 32)) || x0 == 37)
def enV : Bool := decide (chkI x0 x1 x2 x3 x4 x5 = 0) && (x0 == 24 || x0 == 36 || x0 == 37)
def rdV : List Int := readsB (hasV x0) x0 x1 x2 x3 x5 (chkI x0 x1 x2 x3 x4 x5)
theorem isa_Writes_f : isa_Writes.f x0 x1 x2 x3 x4 x5 = some (wrV x0 x1 x2 x3 x4 x5) := by
  unfold isa_Writes.f wrV
  rw [of_f, check_f]
  simp only [Option.bind_some]
  by_cases hc : chkI x0 x1 x2 x3 x4 x5 = 0
  · by_cases hd : (hasV x0).2.1 = true
    · by_cases h1 : x0 = 25
      · simp [hc, hd, h1]
      · by_cases h2 : x0 = 17
        · simp [hc, hd, h2]
        · simp [hc, hd, h1, h2]
    · simp [hc, hd]
  · simp [hc]
theorem chk_in (h : chkI x0 x1 x2 x3 x4 x5 = 0) : 0 ≤ x0 ∧ x0 ≤ 37 := by
  have := chk_bounds ⟨x0, x1, x2, x3, x4, x5⟩ h
  exact ⟨this.1, this.2.1⟩
theorem hasV_in (h : 0 ≤ x0 ∧ x0 ≤ 37) : hasV x0 = ((hasAt x0).name, (hasAt x0).d, (hasAt x0).a, (hasAt x0).b, (hasAt x0).x, (hasAt x0).n, true) := by unfold hasV; rw [if_pos h]
theorem has_some : ∃ q, tabardref17_has.f x0 = some q := by
  by_cases h : 0 ≤ x0 ∧ x0 ≤ 37
  · obtain ⟨s, h1, _⟩ := has_flags x0 h.1 h.2; exact ⟨_, h1⟩
  · exact ⟨_, has_out x0 h⟩
theorem ref_Writes_f : tabardref17_Writes.f 200 x0 x1 x2 x3 x4 x5 = some (wrV x0 x1 x2 x3 x4 x5) := by
  unfold tabardref17_Writes.f wrV tabardref17_Check.f
  obtain ⟨q, hq⟩ := has_some x0
  by_cases hc : chkI x0 x1 x2 x3 x4 x5 = 0
  · obtain ⟨h0, h1⟩ := chk_in x0 x1 x2 x3 x4 x5 hc
    obtain ⟨s, hs, h4, hd, ha, hb, hx, hn⟩ := has_flags x0 h0 h1
    rw [hs]
    simp only [Option.bind_some]
    rw [if_pos hc, in_f s 100 (by omega) 200 (by omega), hd, hasV_in x0 ⟨h0, h1⟩]
    simp only [Option.bind_some]
    by_cases hdd : (hasAt x0).d = true
    · by_cases h1 : x0 = 25
      · simp [h1]
      · by_cases h2 : x0 = 17
        · simp [h2]
        · simp [hc, hdd, h1, h2]
    · simp [hdd]
  · rw [hq]
    simp [hc]
theorem isa_Leaves_f : isa_Leaves.f x0 x1 x2 x3 x4 x5 = some (lvV x0 x1 x2 x3 x4 x5) := by
  unfold isa_Leaves.f lvV
  rw [check_f]
  simp only [Option.bind_some]
  by_cases hc : chkI x0 x1 x2 x3 x4 x5 = 0
  · by_cases h1 : x0 ≥ 26
    · by_cases h2 : x0 ≤ 32 <;> simp [hc, h1, h2]
    · simp [hc, h1]
  · simp [hc]
theorem ref_Leaves_f : tabardref17_Leaves.f x0 x1 x2 x3 x4 x5 = some (lvV x0 x1 x2 x3 x4 x5) := by
  rw [← isa_Leaves_f]; unfold tabardref17_Leaves.f isa_Leaves.f; rw [check_f]; rfl
theorem isa_Ends_f : isa_Ends.f x0 x1 x2 x3 x4 x5 = some (enV x0 x1 x2 x3 x4 x5) := by
  unfold isa_Ends.f enV
  rw [check_f]
  simp only [Option.bind_some]
  by_cases hc : chkI x0 x1 x2 x3 x4 x5 = 0
  · rw [if_pos hc, decide_eq_true hc]
    by_cases h1 : x0 = 24
    · simp [h1]
    · by_cases h2 : x0 = 36 <;> simp [h1, h2]
  · simp [hc]
theorem ref_Ends_f : tabardref17_Ends.f x0 x1 x2 x3 x4 x5 = some (enV x0 x1 x2 x3 x4 x5) := by
  rw [← isa_Ends_f]; unfold tabardref17_Ends.f isa_Ends.f; rw [check_f]; rfl
theorem ref_Reads_f : tabardref17_Reads.f 200 x0 x1 x2 x3 x4 x5 = some (rdV x0 x1 x2 x3 x4 x5) := by
  unfold tabardref17_Reads.f rdV tabardref17_Check.f
  obtain ⟨q, hq⟩ := has_some x0
  by_cases hc : chkI x0 x1 x2 x3 x4 x5 = 0
  · obtain ⟨h0, h1⟩ := chk_in x0 x1 x2 x3 x4 x5 hc
    obtain ⟨s, hs, h4, hd, ha, hb, hx, hn⟩ := has_flags x0 h0 h1
    rw [hs, hasV_in x0 ⟨h0, h1⟩]
    simp only [Option.bind_some, readsB]
    rw [if_pos hc, if_pos hc, in_f s 97 (by omega) 200 (by omega), ha]
    simp only [Option.bind_some, tabardref17_Reads.j0, tabardref17_Reads.j1]
    rw [in_f s 98 (by omega) 198 (by omega), hb]
    simp only [Option.bind_some]
    generalize (hasAt x0).a = a
    generalize (hasAt x0).b = b
    have e36 : (x0 != 36) = !decide (x0 = 36) := by by_cases h : x0 = 36 <;> simp [h]
    have e5 : (x5 != 0) = !decide (x5 = 0) := by by_cases h : x5 = 0 <;> simp [h]
    have e5' : (x5 == 0) = decide (x5 = 0) := by by_cases h : x5 = 0 <;> simp [h]
    rw [e36, e5, e5']
    by_cases g1 : x0 = 36 <;> by_cases g2 : x5 = 0 <;> by_cases g3 : x0 = 17 <;> cases a <;> cases b <;> simp [g1, g2, g3]
  · rw [hq]
    simp [hc, readsB]
end
theorem name_eq (op : Int) : ∃ s, isa_Name.f op = some s ∧ tabardref17_Name.f op = some s := by
  by_cases h : 0 ≤ op ∧ op ≤ 37
  · obtain ⟨h0, h1⟩ := h
    have hh : op = 0 ∨ op = 1 ∨ op = 2 ∨ op = 3 ∨ op = 4 ∨ op = 5 ∨ op = 6 ∨ op = 7 ∨ op = 8 ∨ op = 9 ∨ op = 10 ∨ op = 11 ∨ op = 12 ∨ op = 13 ∨ op = 14 ∨ op = 15 ∨ op = 16 ∨ op = 17 ∨ op = 18 ∨ op = 19 ∨ op = 20 ∨ op = 21 ∨ op = 22 ∨ op = 23 ∨ op = 24 ∨ op = 25 ∨ op = 26 ∨ op = 27 ∨ op = 28 ∨ op = 29 ∨ op = 30 ∨ op = 31 ∨ op = 32 ∨ op = 33 ∨ op = 34 ∨ op = 35 ∨ op = 36 ∨ op = 37 := by omega
    rcases hh with rfl | rfl | rfl | rfl | rfl | rfl | rfl | rfl | rfl | rfl | rfl | rfl | rfl | rfl | rfl | rfl | rfl | rfl | rfl | rfl | rfl | rfl | rfl | rfl | rfl | rfl | rfl | rfl | rfl | rfl | rfl | rfl | rfl | rfl | rfl | rfl | rfl | rfl <;>
      exact ⟨_, rfl, rfl⟩
  · refine ⟨⟨#[]⟩, ?_, ?_⟩
    · unfold isa_Name.f; rw [of_f]; unfold hasV; rw [if_neg h]; rfl
    · unfold tabardref17_Name.f
      simp only [Option.bind_some]
      by_cases h0 : op < 0
      · rw [if_pos h0]
      · rw [if_neg h0, if_pos (by simp; omega)]
end Go.Proofs.Ythbgoecgfoglnaa.Own
