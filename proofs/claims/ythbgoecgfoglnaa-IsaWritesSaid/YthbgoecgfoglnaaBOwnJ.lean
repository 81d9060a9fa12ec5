/- The law IsaWrites: the walk of its one call. Condition: the list's length. -/
import Derived.Test.YthbgoecgfoglnaaBOwnI
import Derived.Test.YthbgoecgfoglnaaBOwn9
import Derived.Test.YthbgoecgfoglnaaBPIsax7
import Derived.Lib.Hide
set_option linter.unusedVariables false
set_option linter.unusedSimpArgs false
namespace Go.Proofs.Ythbgoecgfoglnaa.Own
open Go.RowKit Go.Proofs.Ythbgoecgfoglnaa.PIsa Go.Proofs.Ythbgoecgfoglnaa.PA Go.Proofs.YthbgoecgfoglnaaW.PrintWords Go.Proofs.YthbgoecgfoglnaaW.PrintLast
set_option maxHeartbeats 8000000 in
set_option maxRecDepth 100000 in
theorem writes_walk (A : Option Addr) (c : Nat) (l : List S28) (w : World) (hl : l.length ≤ 2932031007402) (hr : Kd.C k28 w A l.length l) (hc : l.length ≤ c) :
    Calls Try.prog 7 #[.slice A l.length c] w fun e w' => e = .returned (.bool true) ∧ Below w.heap.size w w' := by
  obtain ⟨bs, st, hE1, hE2⟩ : ∃ bs st, isa_Encode.f (l.length * 12 + 20) l = some (bs, st) ∧ tabardref17_Encode.f (l.length * 12 + 20) l = some (bs, st) := ⟨_, _, isa_Encode_f l hl _ (Nat.le_refl _), ref_Encode_f l hl _ (Nat.le_refl _)⟩
  have HE1 := Lib.hid hE1
  have HE2 := Lib.hid hE2
  have HR := Aside0.mk hr
  have HC := Aside0.mk hc
  have HL := Aside0.mk hl
  have heq : bytes_Equal.f bs bs = some true := by simp [bytes_Equal.f]
  have HQ := Lib.hid heq
  clear hE1 hE2 hr hc hl heq
  go_enter Try.func7, Try.ntmps7
  go_wp2_with (first
    | (go_at_call 27; refine (isa_Encode.calls _ _ _ _ bs st _ HR.out HC.out HE1.out).mono ?_; rintro e w1 ⟨v1, rfl, ho1, hb1⟩; have HR1 := Aside0.mk (Kd.C_below HR.out hb1); obtain ⟨A1, c1, rfl⟩ := Kd.R_slice ho1; have HO1 := Aside0.mk (Kd.R_reads' ho1).2.2; have HC1 := Aside0.mk (Kd.R_reads' ho1).2.1; have HB1 := Aside0.mk hb1; clear ho1 hb1)
    | (go_at_call 31; refine (tabardref17_Encode.calls _ _ _ _ bs st _ HR1.out HC.out HE2.out).mono ?_; rintro e w2 ⟨v2, rfl, ho2, hb2⟩; obtain ⟨A2, c2, rfl⟩ := Kd.R_slice ho2; have HR2 := Aside0.mk (Kd.C_below HR1.out hb2); have HO12 := Aside0.mk (Kd.C_below HO1.out hb2); have HO2 := Aside0.mk (Kd.R_reads' ho2).2.2; have HC2 := Aside0.mk (Kd.R_reads' ho2).2.1; have HB2 := Aside0.mk (below_step HB1.out hb2); clear ho2 hb2)
    | (go_at_call 12; refine (tabardlaw17_live.calls 40 _ _ live40).mono ?_; rintro e w3 ⟨rfl, hb3⟩; have HR3 := Aside0.mk (Kd.C_below HR2.out hb3); have HO13 := Aside0.mk (Kd.C_below HO12.out hb3); have HO23 := Aside0.mk (Kd.C_below HO2.out hb3); have HB3 := Aside0.mk (below_step HB2.out hb3); clear hb3)
    | (go_at_call 29; refine (bytes_Equal.calls _ _ _ _ _ _ _ _ HO13.out HC1.out HO23.out HC2.out HQ.out).mono ?_; rintro e w4 ⟨rfl, hb4⟩; obtain ⟨n4, rfl⟩ := hb4)
    | (go_at_call 33; refine (PW.isa_Targets_calls _ _ _ _ (by have := HL.out; omega) (by first | exact HR3.out | exact Kd.C_drewN HR3.out _) HC.out).mono ?_; rintro e w5 ⟨v5, rfl, ho5, hb5⟩; have HR5 := Aside0.mk (Kd.C_below (by first | exact HR3.out | exact Kd.C_drewN HR3.out _) hb5); have HB5 := Aside0.mk (below_step (by first | exact HB3.out | exact pw_below_drewN HB3.out _) hb5); have HO5 := Aside0.mk ho5; clear ho5 hb5)
    | (go_at_call 34; refine (PW.ref_Targets_calls _ _ _ _ (by have := HL.out; omega) HR5.out HC.out).mono ?_; rintro e w6 ⟨v6, rfl, ho6, hb6⟩; have HB6 := Aside0.mk (below_step HB5.out hb6); have HO56 := Aside0.mk (Kd.R_below HO5.out hb6); have HO6 := Aside0.mk ho6; clear ho6 hb6)
    | (go_at_call 32; refine (PW.equal_own HO56.out HO6.out).mono ?_; rintro e w7 ⟨rfl, hb7⟩; have HB7 := Aside0.mk (below_step HB6.out hb7); clear hb7))
  all_goals go_ret
  exact ⟨rfl, HB7.out⟩
theorem IsaWrites_law (A0 : Option Addr) (c0 : Nat) (l0 : List S28) (w : World) (hl : l0.length * 48 ≤ 140737488351232) (_ : ∀ x ∈ l0, wfS x) (hr : Kd.C k28 w A0 l0.length l0) (hc : l0.length ≤ c0) :
    Calls Try.prog 7 #[.slice A0 l0.length c0] w fun e w' => e = .returned (.bool true) ∧ Below w.heap.size w w' :=
  writes_walk A0 c0 l0 w (by omega) hr hc
end Go.Proofs.Ythbgoecgfoglnaa.Own
