/- tells at isa.Reads. No condition beyond the hypotheses. -/
import Derived.Test.YthbgoecgfoglnaaAOwnK
import Derived.Deep.RegionWith
set_option linter.unusedVariables false
set_option linter.unusedSimpArgs false
namespace Go.Proofs.Ythbgoecgfoglnaa.Own
open Go.RowKit Go.Shelf Go.Proofs.Ythbgoecgfoglnaa.PIsa Go.Proofs.Ythbgoecgfoglnaa.PA Go.Proofs.YthbgoecgfoglnaaW.PrintWords Go.Proofs.YthbgoecgfoglnaaW.PrintLast
set_option maxHeartbeats 8000000 in
set_option maxRecDepth 100000 in
theorem reads_makes (x0 x1 x2 x3 x4 x5 : Int) (w : World) :
    Calls Try.prog 19 #[.agg #[.int .i64 x0, .int .i64 x1, .int .i64 x2, .int .i64 x3, .int .i64 x4, .int .i64 x5]] w fun e w' => e = .returned (.func (.func 42) #[] #[.pointer (some ⟨w.heap.size, 0, none⟩)]) ∧ w' = w.alloc (.cells #[.int .i64 x0, .int .i64 x1, .int .i64 x2, .int .i64 x3, .int .i64 x4, .int .i64 x5] 28) := by
  go_enter Try.func19, Try.ntmps19
  go_wp2
  go_ret
  exact ⟨rfl, rfl⟩
theorem reads_stops (x0 x1 x2 x3 x4 x5 : Int) (Bx n : Nat) (S : Nat → Prop) (w w1 : World) (hx : w.heap[Bx]? = some (.cells #[.int .i64 x0, .int .i64 x1, .int .i64 x2, .int .i64 x3, .int .i64 x4, .int .i64 x5] 28 (0, 0)))
    (hS : ¬ S Bx) (hS2 : ∀ k, w1.heap.size ≤ k → ¬ S k) (hb : Below w.heap.size w w1) :
    SeqStopsK Fence.wide n Try.prog 42 #[.pointer (some ⟨Bx, 0, none⟩)] (fun x : Int => #[.int .i64 x]) (KpX S) (fun zs => zs = rdV x0 x1 x2 x3 x4 x5) (fun pre => pre <+: rdV x0 x1 x2 x3 x4 x5) 3 w1 := by
  intro l J Jx W hW hJ hJx hY h0
  have hxW : W.heap[Bx]? = some (.cells #[.int .i64 x0, .int .i64 x1, .int .i64 x2, .int .i64 x3, .int .i64 x4, .int .i64 x5] 28 (0, 0)) := by
    rw [hW.block _ (Nat.lt_of_lt_of_le (blk_lt hx) hb.size), hb.block _ (blk_lt hx), hx]
  generalize hv : hasV x0 = q
  obtain ⟨s, d, a, b, x, nn, i⟩ := q
  exact reads_walk x0 x1 x2 x3 x4 x5 (chkI x0 x1 x2 x3 x4 x5) s d a b x nn i (by rw [of_f, hv]) (check_f _ _ _ _ _ _) S n l Bx J Jx W hJ hS (fun k hk => hS2 k (Nat.le_trans hW.size hk)) 3 (by omega) hY hxW h0 _ (by unfold rdV; rw [hv])
/-- tells at isa.Reads and any list. -/
theorem tells_reads (x0 x1 x2 x3 x4 x5 : Int) (Bx : Nat) (A1 : Option Addr) (c1 : Nat) (l1 : List Int) (w : World) (hx : w.heap[Bx]? = some (.cells #[.int .i64 x0, .int .i64 x1, .int .i64 x2, .int .i64 x3, .int .i64 x4, .int .i64 x5] 28 (0, 0)))
    (hr1 : Kd.C (Kd.int .i64) w A1 l1.length l1) (hc1 : l1.length ≤ c1) :
    Calls Try.prog 18 #[.func (.func 42) #[] #[.pointer (some ⟨Bx, 0, none⟩)], .slice A1 l1.length c1] w fun e w' => e = .returned (.bool (decide (rdV x0 x1 x2 x3 x4 x5 = l1))) ∧ Below w.heap.size w w' := by
  refine (callsIn_wide (n := 5)).1 ?_
  refine tells_in 5 (by omega) 42 _ (enters_of Try.func42 (by kernel_rfl) rfl) A1 c1 l1 _ 3 (by omega) w hr1 hc1 fun w1 hb1 hs1 => ?_
  have := blk_lt hx
  exact reads_stops x0 x1 x2 x3 x4 x5 Bx 4 _ w w1 hx (by omega) (fun k hk => by omega) hb1
end Go.Proofs.Ythbgoecgfoglnaa.Own
