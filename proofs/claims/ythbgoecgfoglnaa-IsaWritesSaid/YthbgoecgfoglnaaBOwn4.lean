/- What tabardref17.Check comes to: the same as isa.Check. No condition. -/
import Derived.Test.YthbgoecgfoglnaaBOwn3
import Derived.Lib.Hide
set_option linter.unusedVariables false
set_option linter.unusedSimpArgs false
namespace Go.Proofs.Ythbgoecgfoglnaa.Own
open Go.RowKit Go.Proofs.Ythbgoecgfoglnaa.PA Go.Proofs.YthbgoecgfoglnaaW.PrintWords Go.Proofs.YthbgoecgfoglnaaW.PrintLast Go.Proofs.YthbgoecgfoglnaaW.PrintMore

def okR1 (s : ByteArray) (x1 x2 x3 : Int) : Bool := fieldR (anyB s 100) x1 && fieldR (anyB s 97) x2 && fieldR (anyB s 98) x3
def badR2 (s : ByteArray) (x0 x4 x5 : Int) : Bool :=
  decide (x4 < 0) || decide (x4 > 65535) || (!(anyB s 120) && x4 != 0) || (!(anyB s 110) && x5 != 0) || (anyB s 110 && !(numR x0 x5))
set_option maxHeartbeats 8000000 in
set_option maxRecDepth 100000 in
theorem refcheck_calls (x0 x1 x2 x3 x4 x5 : Int) (s : ByteArray) (hs : s.size ≤ 4) (hof : tabardref17_has.f x0 = some (s, true)) (r : Int)
    (hr : r = checkV x0 x1 x2 x5 (okR1 s x1 x2 x3 && !(badR2 s x0 x4 x5))) (w : World) :
    Calls Try.prog 17 #[.agg #[.int .i64 x0, .int .i64 x1, .int .i64 x2, .int .i64 x3, .int .i64 x4, .int .i64 x5]] w fun e w' => e = .returned (.int .i64 r) ∧ Below w.heap.size w w' := by
  have HO := Lib.hid hof
  clear hof
  have HR := Lib.hid hr
  clear hr
  have hs' : s.size ≤ 100 := by omega
  clear hs
  go_enter Try.func17, Try.ntmps17
  go_upto_region 2 with (first | (go_at_call 36; refine (tabardref17_has.calls _ _ _ _ HO.out).mono ?_; rintro e w' ⟨rfl, hb⟩; obtain ⟨hc, hf⟩ := bcell hb; have hz : w.heap.size < w'.heap.size := by (have := hb.size; simp at this; omega)))
  clear HO
  go_cut [36] (fun v36 wc => v36 = .bool (!(okR1 s x1 x2 x3)) ∧ Below w.heap.size w wc ∧ wc.cell? ⟨w.heap.size, 0, none⟩ = some (.int .i64 x0) ∧ wc.cell? ⟨w.heap.size, 1, none⟩ = some (.int .i64 x1) ∧ wc.cell? ⟨w.heap.size, 2, none⟩ = some (.int .i64 x2) ∧ wc.cell? ⟨w.heap.size, 4, none⟩ = some (.int .i64 x4) ∧ wc.cell? ⟨w.heap.size, 5, none⟩ = some (.int .i64 x5))
  case first =>
    cases h1 : fieldR (anyB s 100) x1
    case' true => cases h2 : fieldR (anyB s 97) x2
    case' true.true => cases h3 : fieldR (anyB s 98) x3
    all_goals
      go_quiet (first | (go_at_call 37; exact Calls.quiet_of (ref_in s _ hs' _)) | (go_at_call 40; exact Calls.quiet_of (ref_field _ _ _)))
    all_goals go_wp2
    all_goals
      go_meet
      case rel => exact ⟨by unfold okR1; simp only [*]; rfl, pw_below_drewN (below_step (below_alloc (Below.refl _ _) _) hb) _, by go_simp, by go_simp, by go_simp, by go_simp, by go_simp⟩
  case rest =>
    obtain ⟨rfl, hB, h0, h1, h2, h4, h5⟩ := hcut
    clear hb hc hz
    generalize okR1 s x1 x2 x3 = ok at HR ⊢
    cases ok
    · go_wp2
      go_ret
      refine ⟨?_, hB⟩
      rw [HR.out]
      simp [checkV, badB]
    · go_upto_region 4 with (fail)
      go_cut [0, 76] (fun _ v76 wc => v76 = .bool (badR2 s x0 x4 x5) ∧ Below w.heap.size w wc ∧ wc.cell? ⟨w.heap.size, 0, none⟩ = some (.int .i64 x0) ∧ wc.cell? ⟨w.heap.size, 1, none⟩ = some (.int .i64 x1) ∧ wc.cell? ⟨w.heap.size, 2, none⟩ = some (.int .i64 x2) ∧ wc.cell? ⟨w.heap.size, 5, none⟩ = some (.int .i64 x5))
      case first =>
        go_wp2_with (first | (go_at_call 37; refine (ref_in s _ hs' _).mono ?_; rintro e w' ⟨rfl, n, rfl⟩; generalize hq : anyB _ _ = t; cases t) | (go_at_call 41; refine (ref_number _ _ _).mono ?_; rintro e w' ⟨rfl, n, rfl⟩; generalize hq : numR _ _ = t; cases t))
        all_goals
          go_meet
          case rel => exact ⟨by (unfold badR2; simp_all), by (first | exact hB | exact pw_below_drewN hB _), by go_simp, by go_simp, by go_simp, by go_simp⟩
      case rest =>
        obtain ⟨rfl, hB, h0, h1, h2, h5⟩ := hcut
        generalize badR2 s x0 x4 x5 = bad at HR ⊢
        cases bad
        · go_wp2
          all_goals
            go_ret
            refine ⟨?_, hB⟩
            rw [HR.out]
            unfold checkV badB
            simp_all
        · go_wp2
          go_ret
          refine ⟨?_, hB⟩
          rw [HR.out]
          simp [checkV, badB]
set_option maxHeartbeats 8000000 in
set_option maxRecDepth 100000 in
theorem refcheck_out (x0 x1 x2 x3 x4 x5 : Int) (hof : tabardref17_has.f x0 = some (⟨#[]⟩, false)) (w : World) :
    Calls Try.prog 17 #[.agg #[.int .i64 x0, .int .i64 x1, .int .i64 x2, .int .i64 x3, .int .i64 x4, .int .i64 x5]] w fun e w' => e = .returned (.int .i64 170) ∧ Below w.heap.size w w' := by
  have HO := Lib.hid hof
  clear hof
  go_enter Try.func17, Try.ntmps17
  go_upto_region 2 with (first | (go_at_call 36; refine (tabardref17_has.calls _ _ _ _ HO.out).mono ?_; rintro e w' ⟨rfl, hb⟩; obtain ⟨hc, hf⟩ := bcell hb; have hz : w.heap.size < w'.heap.size := by (have := hb.size; simp at this; omega)))
  clear HO
  go_quiet (fail)
  go_wp2
  go_ret
  exact ⟨rfl, pw_below_drewN (below_step (below_alloc (Below.refl _ _) _) hb) _⟩
theorem has_out (op : Int) (h : ¬ (0 ≤ op ∧ op ≤ 37)) : tabardref17_has.f op = some (⟨#[]⟩, false) := by
  unfold tabardref17_has.f
  simp only [Option.bind_some]
  by_cases h0 : op < 0
  · rw [if_pos h0]
  · rw [if_neg h0, if_pos (by simp; omega)]
/-- The two Checks are one. -/
theorem chk_eq (x0 x1 x2 x3 x4 x5 : Int) (s : ByteArray) (h0 : 0 ≤ x0) (h1 : x0 ≤ 37) (hd : anyB s 100 = (hasAt x0).d) (ha : anyB s 97 = (hasAt x0).a) (hb : anyB s 98 = (hasAt x0).b) (hx : anyB s 120 = (hasAt x0).x) (hn : anyB s 110 = decide ((hasAt x0).n ≠ 0)) :
    (okR1 s x1 x2 x3 && !(badR2 s x0 x4 x5)) = okB (hasV x0) x1 x2 x3 x4 x5 := by
  unfold okR1 badR2 hasV okB
  rw [if_pos ⟨h0, h1⟩, hd, ha, hb, hx, hn]
  simp only [field_eq, fieldX_eq, num_eq x0 x5 h0 h1, Bool.true_and]
  by_cases hz : (hasAt x0).n = 0
  · simp only [hz, ne_eq, not_true, decide_false, if_false, Bool.not_false, Bool.true_and, Bool.false_and, Bool.or_false]
    generalize fieldR (hasAt x0).d x1 = a1
    generalize fieldR (hasAt x0).a x2 = a2
    generalize fieldR (hasAt x0).b x3 = a3
    by_cases e5 : x5 = 0
    · subst e5; simp [Bool.and_assoc]
    · have e6 : (x5 == 0) = false := by simpa using e5
      have e7 : (x5 != 0) = true := by simpa using e5
      rw [e6, e7]; simp
  · simp only [hz, ne_eq, not_false_eq_true, decide_true, if_true, Bool.not_true, Bool.false_and, Bool.or_false, Bool.true_and]
    generalize fieldR (hasAt x0).d x1 = a1
    generalize fieldR (hasAt x0).a x2 = a2
    generalize fieldR (hasAt x0).b x3 = a3
    generalize numR x0 x5 = a4
    cases a4 <;> simp [Bool.and_assoc]
def tabardref17_Check.f (a0_0 a0_1 a0_2 a0_3 a0_4 a0_5 : Int) : Option Int := some (chkI a0_0 a0_1 a0_2 a0_3 a0_4 a0_5)
theorem tabardref17_Check.calls (a0_0 a0_1 a0_2 a0_3 a0_4 a0_5 : Int) (r : Int) (w : World) (h : tabardref17_Check.f a0_0 a0_1 a0_2 a0_3 a0_4 a0_5 = some r) :
    Calls Try.prog 17 #[.agg #[.int .i64 a0_0, .int .i64 a0_1, .int .i64 a0_2, .int .i64 a0_3, .int .i64 a0_4, .int .i64 a0_5]] w fun e w' => e = .returned (.int .i64 r) ∧ Below w.heap.size w w' := by
  obtain rfl := Option.some.inj h
  by_cases hop : 0 ≤ a0_0 ∧ a0_0 ≤ 37
  · obtain ⟨s, hs, h4, hd, ha, hb, hx, hn⟩ := has_flags a0_0 hop.1 hop.2
    refine refcheck_calls _ _ _ _ _ _ s h4 hs _ ?_ w
    unfold chkI
    rw [chk_eq a0_0 a0_1 a0_2 a0_3 a0_4 a0_5 s hop.1 hop.2 hd ha hb hx hn]
  · have e : chkI a0_0 a0_1 a0_2 a0_3 a0_4 a0_5 = 170 := by
      unfold chkI hasV
      rw [if_neg hop]
      simp [okB, checkV, badB]
    rw [e]
    exact refcheck_out _ _ _ _ _ _ (has_out _ hop) w
end Go.Proofs.Ythbgoecgfoglnaa.Own
