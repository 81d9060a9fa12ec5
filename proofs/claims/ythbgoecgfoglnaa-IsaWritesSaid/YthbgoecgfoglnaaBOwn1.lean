/- What isa.field, isa.number and isa.Check come to. No condition. -/
import Derived.Test.YthbgoecgfoglnaaBOwn0
import Derived.Lib.Hide
namespace Go.Proofs.Ythbgoecgfoglnaa.Own
open Go.RowKit Go.Proofs.YthbgoecgfoglnaaW.PrintWords Go.Proofs.YthbgoecgfoglnaaW.PrintLast Go.Proofs.YthbgoecgfoglnaaW.PrintMore

def fieldB (d : Bool) (v m : Int) : Bool := v == 0 || (d && decide (v > 0) && decide (v ≤ m))
set_option maxHeartbeats 8000000 in
set_option maxRecDepth 100000 in
theorem field_calls (d : Bool) (v m : Int) (w : World) : Calls Try.prog 38 #[.bool d, .int .i64 v, .int .i64 m] w fun e w' => e = .returned (.bool (fieldB d v m)) ∧ w = w' := by
  go_enter Try.func38, Try.ntmps38
  go_wp2
  all_goals (go_ret; refine ⟨?_, rfl⟩; unfold fieldB; simp_all <;> omega)
def numB (s : Int) (n : Int) : Bool :=
  if s = 1 then true else
  let lm : Int × Int := if s = 2 then (0, 4095) else if s = 3 then (1, 11) else if s = 4 then (1, 3) else if s = 5 then (1, 2) else if s = 6 then (0, 3) else if s = 7 then (0, 2147483647) else (0, 0)
  decide (n ≥ lm.1) && decide (n ≤ lm.2)
set_option maxHeartbeats 8000000 in
set_option maxRecDepth 100000 in
theorem number_calls (s n : Int) (w : World) : Calls Try.prog 39 #[.int .i64 s, .int .i64 n] w fun e w' => e = .returned (.bool (numB s n)) ∧ w = w' := by
  go_enter Try.func39, Try.ntmps39
  go_wp2
  all_goals (go_ret; refine ⟨?_, rfl⟩; unfold numB; simp_all <;> omega)

def okB (q : ByteArray × Bool × Bool × Bool × Bool × Int × Bool) (x1 x2 x3 x4 x5 : Int) : Bool :=
  match q with
  | (_, d, a, b, x, n, i) => i && fieldB d x1 15 && fieldB a x2 15 && fieldB b x3 15 && fieldB x x4 65535 && numB n x5
def badB (x0 x1 x2 x5 : Int) (ok : Bool) : Bool := (x0 == 25 && (decide (x1 < 1) || decide (x1 > 6))) || (x0 == 36 && x5 == 0 && x2 != 0) || !ok
def checkV (x0 x1 x2 x5 : Int) (ok : Bool) : Int := if badB x0 x1 x2 x5 ok then 170 else 0
set_option maxHeartbeats 8000000 in
set_option maxRecDepth 100000 in
theorem check_calls (x0 x1 x2 x3 x4 x5 : Int) (s : ByteArray) (d a b x : Bool) (n : Int) (i : Bool) (hof : isa_of.f x0 = some (s, d, a, b, x, n, i)) (r : Int) (hr : r = checkV x0 x1 x2 x5 (okB (s, d, a, b, x, n, i) x1 x2 x3 x4 x5)) (w : World) :
    Calls Try.prog 16 #[.agg #[.int .i64 x0, .int .i64 x1, .int .i64 x2, .int .i64 x3, .int .i64 x4, .int .i64 x5]] w fun e w' => e = .returned (.int .i64 r) ∧ Below w.heap.size w w' := by
  have HO := Lib.hid hof
  clear hof
  have HR := Lib.hid hr
  clear hr
  go_enter Try.func16, Try.ntmps16
  go_upto_region 2 with (first | (go_at_call 35; refine (isa_of.calls _ _ _ _ _ _ _ _ _ HO.out).mono ?_; rintro e w' ⟨rfl, hb⟩; obtain ⟨hc, hf⟩ := bcell hb; have hz : w.heap.size < w'.heap.size := by (have := hb.size; simp at this; omega)))
  clear HO
  go_cut [5] (fun v5 wc => v5 = .bool (okB (s, d, a, b, x, n, i) x1 x2 x3 x4 x5) ∧ Below w.heap.size w wc ∧ wc.cell? ⟨w.heap.size, 0, none⟩ = some (.int .i64 x0) ∧ wc.cell? ⟨w.heap.size, 1, none⟩ = some (.int .i64 x1) ∧ wc.cell? ⟨w.heap.size, 2, none⟩ = some (.int .i64 x2) ∧ wc.cell? ⟨w.heap.size, 5, none⟩ = some (.int .i64 x5))
  case first =>
    cases i
    all_goals
      go_wp2_with (first | (go_at_call 38; refine (field_calls _ _ _ _).mono ?_; rintro e w' ⟨rfl, rfl⟩; generalize hq : fieldB _ _ _ = t; cases t) | (go_at_call 39; refine (number_calls _ _ _).mono ?_; rintro e w' ⟨rfl, rfl⟩; generalize hq : numB _ _ = t; cases t))
    all_goals
      go_meet
      case rel => exact ⟨by unfold okB; simp only [*]; rfl, below_alloc (below_step (below_alloc (Below.refl _ _) _) hb) _, by go_simp, by go_simp, by go_simp, by go_simp⟩
  case rest =>
    obtain ⟨rfl, hB, h0, h1, h2, h5⟩ := hcut
    clear hb hc hf hz
    generalize okB (s, d, a, b, x, n, i) x1 x2 x3 x4 x5 = ok at HR ⊢
    cases ok
    all_goals
      go_wp2
    all_goals
      go_ret
      refine ⟨?_, hB⟩
      rw [HR.out]
      unfold checkV badB
      simp_all
def isa_Check.f (a0_0 a0_1 a0_2 a0_3 a0_4 a0_5 : Int) : Option Int :=
  (isa_of.f a0_0).bind fun q => some (checkV a0_0 a0_1 a0_2 a0_5 (okB q a0_1 a0_2 a0_3 a0_4 a0_5))
theorem isa_Check.calls (a0_0 a0_1 a0_2 a0_3 a0_4 a0_5 : Int) (r : Int) (w : World) (h : isa_Check.f a0_0 a0_1 a0_2 a0_3 a0_4 a0_5 = some r) :
    Calls Try.prog 16 #[.agg #[.int .i64 a0_0, .int .i64 a0_1, .int .i64 a0_2, .int .i64 a0_3, .int .i64 a0_4, .int .i64 a0_5]] w fun e w' => e = .returned (.int .i64 r) ∧ Below w.heap.size w w' := by
  unfold isa_Check.f at h
  obtain ⟨⟨s, d, a, b, x, n, i⟩, hof, h⟩ := Option.bind_eq_some_iff.mp h
  exact check_calls _ _ _ _ _ _ s d a b x n i hof r (Option.some.inj h).symm w
end Go.Proofs.Ythbgoecgfoglnaa.Own
