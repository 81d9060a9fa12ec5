/- IsaAsks: the walk of its one call. No condition. -/
import Derived.Test.YthbgoecgfoglnaaAOwnT
import Derived.Deep.RegionHeld3
set_option linter.unusedVariables false
set_option linter.unusedSimpArgs false
namespace Go.Proofs.Ythbgoecgfoglnaa.Own
open Go.RowKit Go.Shelf Go.Proofs.Ythbgoecgfoglnaa.PIsa Go.Proofs.Ythbgoecgfoglnaa.PA Go.Proofs.YthbgoecgfoglnaaW.PrintWords Go.Proofs.YthbgoecgfoglnaaW.PrintLast
theorem sx_step {x0 x1 x2 x3 x4 x5 : Int} {g : Nat} {w W W' : World} (hb : Below W.heap.size W W')
    (h : W.cell? ⟨g, 0, none⟩ = some (.int .i64 x0) ∧ W.cell? ⟨g, 1, none⟩ = some (.int .i64 x1) ∧ W.cell? ⟨g, 2, none⟩ = some (.int .i64 x2) ∧ W.cell? ⟨g, 3, none⟩ = some (.int .i64 x3) ∧ W.cell? ⟨g, 4, none⟩ = some (.int .i64 x4) ∧ W.cell? ⟨g, 5, none⟩ = some (.int .i64 x5) ∧ Below w.heap.size w W) :
    W'.cell? ⟨g, 0, none⟩ = some (.int .i64 x0) ∧ W'.cell? ⟨g, 1, none⟩ = some (.int .i64 x1) ∧ W'.cell? ⟨g, 2, none⟩ = some (.int .i64 x2) ∧ W'.cell? ⟨g, 3, none⟩ = some (.int .i64 x3) ∧ W'.cell? ⟨g, 4, none⟩ = some (.int .i64 x4) ∧ W'.cell? ⟨g, 5, none⟩ = some (.int .i64 x5) ∧ Below w.heap.size w W' := by
  obtain ⟨h0, h1, h2, h3, h4, h5, hB⟩ := h
  exact ⟨pw_cell_below hb h0, pw_cell_below hb h1, pw_cell_below hb h2, pw_cell_below hb h3, pw_cell_below hb h4, pw_cell_below hb h5, below_step hB hb⟩
theorem reads_makes2 (x0 x1 x2 x3 x4 x5 : Int) (w : World) :
    Calls Try.prog 19 #[.agg #[.int .i64 x0, .int .i64 x1, .int .i64 x2, .int .i64 x3, .int .i64 x4, .int .i64 x5]] w fun e w' => e = .returned (.func (.func 42) #[] #[.pointer (some ⟨w.heap.size, 0, none⟩)]) ∧ Below w.heap.size w w' ∧ w'.heap[w.heap.size]? = some (.cells #[.int .i64 x0, .int .i64 x1, .int .i64 x2, .int .i64 x3, .int .i64 x4, .int .i64 x5] 28 (0, 0)) := by
  refine (reads_makes x0 x1 x2 x3 x4 x5 w).mono ?_
  rintro e w' ⟨rfl, rfl⟩
  exact ⟨rfl, below_alloc (Below.refl _ _) _, Array.getElem?_push_size⟩
theorem tells_reads2 (x0 x1 x2 x3 x4 x5 : Int) (rd : List Int) (hrd : rd = rdV x0 x1 x2 x3 x4 x5) (Bx : Nat) (A1 : Option Addr) (c1 : Nat) (w : World) (hx : w.heap[Bx]? = some (.cells #[.int .i64 x0, .int .i64 x1, .int .i64 x2, .int .i64 x3, .int .i64 x4, .int .i64 x5] 28 (0, 0)))
    (hr1 : Kd.C (Kd.int .i64) w A1 rd.length rd) (hc1 : rd.length ≤ c1) :
    Calls Try.prog 18 #[.func (.func 42) #[] #[.pointer (some ⟨Bx, 0, none⟩)], .slice A1 rd.length c1] w fun e w' => e = .returned (.bool true) ∧ Below w.heap.size w w' := by
  refine (tells_reads x0 x1 x2 x3 x4 x5 Bx A1 c1 rd w hx hr1 hc1).mono ?_
  rw [← hrd]
  intro e w' h
  rw [h.1]
  exact ⟨by simp, h.2⟩
theorem ref_reads2 (x0 x1 x2 x3 x4 x5 : Int) (rd : List Int) (h : tabardref17_Reads.f 200 x0 x1 x2 x3 x4 x5 = some rd) (w : World) :
    Calls Try.prog 20 #[.agg #[.int .i64 x0, .int .i64 x1, .int .i64 x2, .int .i64 x3, .int .i64 x4, .int .i64 x5]] w fun e w' => ∃ A c, e = .returned (.slice A rd.length c) ∧ Kd.C (Kd.int .i64) w' A rd.length rd ∧ rd.length ≤ c ∧ Below w.heap.size w w' := by
  refine (tabardref17_Reads.calls 200 _ _ _ _ _ _ _ _ h).mono ?_
  rintro e w' ⟨v0, rfl, hr7, hb7⟩
  obtain ⟨A7, c7, rfl⟩ := Kd.R_slice hr7
  have hrr := Kd.R_reads' hr7
  exact ⟨A7, c7, rfl, hrr.2.2, hrr.2.1, hb7⟩
set_option maxHeartbeats 8000000 in
set_option maxRecDepth 100000 in
theorem asks_walk (x0 x1 x2 x3 x4 x5 op : Int) (w : World) :
    Calls Try.prog 4 #[.agg #[.int .i64 x0, .int .i64 x1, .int .i64 x2, .int .i64 x3, .int .i64 x4, .int .i64 x5], .int .i64 op] w fun e w' => e = .returned (.bool true) ∧ Below w.heap.size w w' := by
  obtain ⟨nm, hn1, hn2⟩ := name_eq op
  have HN1 := Lib.hid hn1
  have HN2 := Lib.hid hn2
  clear hn1 hn2
  obtain ⟨q1, q2, hq1, hq2⟩ : ∃ q1 q2, isa_Writes.f x0 x1 x2 x3 x4 x5 = some (q1, q2) ∧ tabardref17_Writes.f 200 x0 x1 x2 x3 x4 x5 = some (q1, q2) := ⟨_, _, isa_Writes_f _ _ _ _ _ _, ref_Writes_f _ _ _ _ _ _⟩
  obtain ⟨c, hc1, hc2⟩ : ∃ c, isa_Check.f x0 x1 x2 x3 x4 x5 = some c ∧ tabardref17_Check.f x0 x1 x2 x3 x4 x5 = some c := ⟨_, check_f _ _ _ _ _ _, rfl⟩
  obtain ⟨lv, hl1, hl2⟩ : ∃ c, isa_Leaves.f x0 x1 x2 x3 x4 x5 = some c ∧ tabardref17_Leaves.f x0 x1 x2 x3 x4 x5 = some c := ⟨_, isa_Leaves_f _ _ _ _ _ _, ref_Leaves_f _ _ _ _ _ _⟩
  obtain ⟨en, he1, he2⟩ : ∃ c, isa_Ends.f x0 x1 x2 x3 x4 x5 = some c ∧ tabardref17_Ends.f x0 x1 x2 x3 x4 x5 = some c := ⟨_, isa_Ends_f _ _ _ _ _ _, ref_Ends_f _ _ _ _ _ _⟩
  obtain ⟨rd, hrd, hr2⟩ : ∃ c, c = rdV x0 x1 x2 x3 x4 x5 ∧ tabardref17_Reads.f 200 x0 x1 x2 x3 x4 x5 = some c := ⟨_, rfl, ref_Reads_f _ _ _ _ _ _⟩
  have HQ1 := Lib.hid hq1
  have HQ2 := Lib.hid hq2
  have HC1 := Lib.hid hc1
  have HC2 := Lib.hid hc2
  have HL1 := Lib.hid hl1
  have HL2 := Lib.hid hl2
  have HE1 := Lib.hid he1
  have HE2 := Lib.hid he2
  have HR1 := Lib.hid hrd
  have HR2 := Lib.hid hr2
  clear hq1 hq2 hc1 hc2 hl1 hl2 he1 he2 hrd hr2
  go_enter Try.func4, Try.ntmps4
  go_upto_region 2 with fail
  refine (isa_Writes.calls _ _ _ _ _ _ _ _ _ HQ1.out).mono ?_
  rintro e w1 ⟨rfl, hb1⟩
  obtain ⟨hc1, hf1⟩ := bcell hb1
  have k0 : w1.cell? ⟨w.heap.size, 0, none⟩ = some (.int .i64 x0) := by (rw [hc1 _ _ (by simp)]; go_simp)
  have hB1 := below_step (below_alloc (Below.refl _ _) _) hb1
  have k1 : w1.cell? ⟨w.heap.size, 1, none⟩ = some (.int .i64 x1) := by (rw [hc1 _ _ (by simp)]; go_simp)
  have k2 : w1.cell? ⟨w.heap.size, 2, none⟩ = some (.int .i64 x2) := by (rw [hc1 _ _ (by simp)]; go_simp)
  have k3 : w1.cell? ⟨w.heap.size, 3, none⟩ = some (.int .i64 x3) := by (rw [hc1 _ _ (by simp)]; go_simp)
  have k4 : w1.cell? ⟨w.heap.size, 4, none⟩ = some (.int .i64 x4) := by (rw [hc1 _ _ (by simp)]; go_simp)
  have k5 : w1.cell? ⟨w.heap.size, 5, none⟩ = some (.int .i64 x5) := by (rw [hc1 _ _ (by simp)]; go_simp)
  have HS := Aside0.mk (And.intro k0 (And.intro k1 (And.intro k2 (And.intro k3 (And.intro k4 (And.intro k5 hB1))))))
  clear hb1 hc1 hf1 hB1
  
  go_upto_region 3 with fail
  refine (tabardref17_Writes.calls 200 _ _ _ _ _ _ _ _ _ HQ2.out).mono ?_
  rintro e w2 ⟨rfl, hb2⟩
  have HS2 := Aside0.mk (sx_step hb2 HS.out)
  clear k0 k1 k2 k3 k4 k5 HS hb2
  go_upto_region 3 with fail
  have hS := HS2.out
  clear HS2
  obtain ⟨k0, k1, k2, k3, k4, k5, hB2⟩ := hS
  
  go_region_held3 (fun W => W.cell? ⟨w.heap.size, 0, none⟩ = some (.int .i64 x0) ∧ W.cell? ⟨w.heap.size, 1, none⟩ = some (.int .i64 x1) ∧ W.cell? ⟨w.heap.size, 2, none⟩ = some (.int .i64 x2) ∧ W.cell? ⟨w.heap.size, 3, none⟩ = some (.int .i64 x3) ∧ W.cell? ⟨w.heap.size, 4, none⟩ = some (.int .i64 x4) ∧ W.cell? ⟨w.heap.size, 5, none⟩ = some (.int .i64 x5) ∧ Below w.heap.size w W) (first | (exact ⟨k0, k1, k2, k3, k4, k5, below_drew hB2⟩) | (exact sx_step (by assumption) (by assumption)))
    (first
    | (go_at_call 12; refine (tabardlaw17_live.calls 40 _ _ live40).mono ?_; rintro e w3 ⟨rfl, hb3⟩)
    | (go_at_call 16; refine (isa_Check.calls _ _ _ _ _ _ _ _ HC1.out).mono ?_; rintro e w4 ⟨rfl, hb4⟩)
    | (go_at_call 17; refine (tabardref17_Check.calls _ _ _ _ _ _ _ _ HC2.out).mono ?_; rintro e w5 ⟨rfl, hb5⟩)
    | (go_at_call 19; refine (reads_makes2 x0 x1 x2 x3 x4 x5 _).mono ?_; rintro e w6 ⟨rfl, hb6, hx6⟩)
    | (go_at_call 20; refine (ref_reads2 _ _ _ _ _ _ _ HR2.out _).mono ?_; rintro e w7 ⟨A7, c7, rfl, hC7, hl7, hb7⟩; have hx7 := (hb7.block _ (blk_lt hx6)).trans hx6)
    | (go_at_call 18; refine (tells_reads2 x0 x1 x2 x3 x4 x5 _ HR1.out _ _ _ _ hx7 hC7 hl7).mono ?_; rintro e w8 ⟨rfl, hb8⟩)
    | (go_at_call 21; refine (isa_Leaves.calls _ _ _ _ _ _ _ _ HL1.out).mono ?_; rintro e w9 ⟨rfl, hb9⟩)
    | (go_at_call 22; refine (tabardref17_Leaves.calls _ _ _ _ _ _ _ _ HL2.out).mono ?_; rintro e w10 ⟨rfl, hb10⟩)
    | (go_at_call 23; refine (isa_Ends.calls _ _ _ _ _ _ _ _ HE1.out).mono ?_; rintro e w11 ⟨rfl, hb11⟩)
    | (go_at_call 24; refine (tabardref17_Ends.calls _ _ _ _ _ _ _ _ HE2.out).mono ?_; rintro e w12 ⟨rfl, hb12⟩)
    | (go_at_call 25; refine (isa_Name.calls _ _ _ HN1.out).mono ?_; rintro e w13 ⟨rfl, hb13⟩)
    | (go_at_call 26; refine (tabardref17_Name.calls _ _ _ HN2.out).mono ?_; rintro e w14 ⟨rfl, hb14⟩))
  all_goals go_wp2
  all_goals go_ret
  refine ⟨?_, (by assumption : _ ∧ _ ∧ _ ∧ _ ∧ _ ∧ _ ∧ _).2.2.2.2.2.2⟩
  · rfl
end Go.Proofs.Ythbgoecgfoglnaa.Own
