-- laid by wip/tools/xprint.py (the session's), which runs the kit's print.py with contracts of the session's own. Not trusted: Lean checks it.
import Derived.Test.YthbgoecgfoglnaaBPAx0
namespace Go.Proofs.Ythbgoecgfoglnaa.PA
open Go.RowKit Go.Proofs.YthbgoecgfoglnaaW.PrintWords Go.Proofs.YthbgoecgfoglnaaW.PrintLast Go.Proofs.YthbgoecgfoglnaaW.PrintMore
attribute [local go_sem] max2_int min2_int max_two min_two max_three min_three max_four min_four   -- for this text's walks alone
set_option linter.unusedVariables false
set_option linter.unusedSimpArgs false

/-! ### tabardref17_has: function 36 -/
def tabardref17_has.f (a0 : Int) : Option (ByteArray × Bool) := (some (([(⟨#[]⟩ : ByteArray), (⟨#[100, 110]⟩ : ByteArray), (⟨#[100, 97]⟩ : ByteArray), (⟨#[97, 110]⟩ : ByteArray), (⟨#[100, 110]⟩ : ByteArray), (⟨#[100, 97, 98, 110]⟩ : ByteArray), (⟨#[100, 97, 98, 110]⟩ : ByteArray), (⟨#[100, 97]⟩ : ByteArray), (⟨#[100, 97]⟩ : ByteArray), (⟨#[100, 97]⟩ : ByteArray), (⟨#[100, 97, 110]⟩ : ByteArray), (⟨#[100, 97, 98]⟩ : ByteArray), (⟨#[100, 110]⟩ : ByteArray), (⟨#[97, 110]⟩ : ByteArray), (⟨#[100, 97, 110]⟩ : ByteArray), (⟨#[97, 98, 110]⟩ : ByteArray), (⟨#[100, 97, 98]⟩ : ByteArray), (⟨#[100, 97, 98]⟩ : ByteArray), (⟨#[100, 97]⟩ : ByteArray), (⟨#[100, 110]⟩ : ByteArray), (⟨#[100, 97, 110]⟩ : ByteArray), (⟨#[100, 97, 110]⟩ : ByteArray), (⟨#[97, 110]⟩ : ByteArray), (⟨#[100]⟩ : ByteArray), (⟨#[110]⟩ : ByteArray), (⟨#[100, 97, 98, 110]⟩ : ByteArray), (⟨#[97, 120]⟩ : ByteArray), (⟨#[97, 120]⟩ : ByteArray), (⟨#[97, 120]⟩ : ByteArray), (⟨#[97, 98, 120]⟩ : ByteArray), (⟨#[97, 120, 110]⟩ : ByteArray), (⟨#[97, 120, 110]⟩ : ByteArray), (⟨#[97, 98, 120]⟩ : ByteArray), (⟨#[97]⟩ : ByteArray), (⟨#[100, 120, 110]⟩ : ByteArray), (⟨#[100, 120, 110]⟩ : ByteArray), (⟨#[97, 110]⟩ : ByteArray), (⟨#[120]⟩ : ByteArray)] : List ByteArray) : List ByteArray)).bind fun y101 => (if a0 < 0 then (some ((⟨#[]⟩ : ByteArray), false)) else (if a0 ≥ (y101.length : Int) then (some ((⟨#[]⟩ : ByteArray), false)) else (if 0 ≤ a0 then (if a0 < (y101.length : Int) then (some (rdOf ByteArray.empty y101 a0, true)) else (none)) else (none))))
set_option maxHeartbeats 8000000 in
set_option maxRecDepth 100000 in
theorem tabardref17_has.calls (a0 : Int) (r1 : ByteArray) (r2 : Bool) (w : World) (h : tabardref17_has.f a0 = some (r1, r2)) :
    Calls Try.prog 36 #[.int .i64 a0] w fun e w' => e = .returned (.tuple #[.string r1, .bool r2]) ∧ Below w.heap.size w w' := by
  have HB := Aside0.mk (Below.refl w.heap.size w)
  have H : ((some (([(⟨#[]⟩ : ByteArray), (⟨#[100, 110]⟩ : ByteArray), (⟨#[100, 97]⟩ : ByteArray), (⟨#[97, 110]⟩ : ByteArray), (⟨#[100, 110]⟩ : ByteArray), (⟨#[100, 97, 98, 110]⟩ : ByteArray), (⟨#[100, 97, 98, 110]⟩ : ByteArray), (⟨#[100, 97]⟩ : ByteArray), (⟨#[100, 97]⟩ : ByteArray), (⟨#[100, 97]⟩ : ByteArray), (⟨#[100, 97, 110]⟩ : ByteArray), (⟨#[100, 97, 98]⟩ : ByteArray), (⟨#[100, 110]⟩ : ByteArray), (⟨#[97, 110]⟩ : ByteArray), (⟨#[100, 97, 110]⟩ : ByteArray), (⟨#[97, 98, 110]⟩ : ByteArray), (⟨#[100, 97, 98]⟩ : ByteArray), (⟨#[100, 97, 98]⟩ : ByteArray), (⟨#[100, 97]⟩ : ByteArray), (⟨#[100, 110]⟩ : ByteArray), (⟨#[100, 97, 110]⟩ : ByteArray), (⟨#[100, 97, 110]⟩ : ByteArray), (⟨#[97, 110]⟩ : ByteArray), (⟨#[100]⟩ : ByteArray), (⟨#[110]⟩ : ByteArray), (⟨#[100, 97, 98, 110]⟩ : ByteArray), (⟨#[97, 120]⟩ : ByteArray), (⟨#[97, 120]⟩ : ByteArray), (⟨#[97, 120]⟩ : ByteArray), (⟨#[97, 98, 120]⟩ : ByteArray), (⟨#[97, 120, 110]⟩ : ByteArray), (⟨#[97, 120, 110]⟩ : ByteArray), (⟨#[97, 98, 120]⟩ : ByteArray), (⟨#[97]⟩ : ByteArray), (⟨#[100, 120, 110]⟩ : ByteArray), (⟨#[100, 120, 110]⟩ : ByteArray), (⟨#[97, 110]⟩ : ByteArray), (⟨#[120]⟩ : ByteArray)] : List ByteArray) : List ByteArray)).bind fun y101 => (if a0 < 0 then (some ((⟨#[]⟩ : ByteArray), false)) else (if a0 ≥ (y101.length : Int) then (some ((⟨#[]⟩ : ByteArray), false)) else (if 0 ≤ a0 then (if a0 < (y101.length : Int) then (some (rdOf ByteArray.empty y101 a0, true)) else (none)) else (none))))) = some (r1, r2) := h
  clear h
  obtain ⟨y101, hy101⟩ : ∃ y_ : List ByteArray, y_ = (([(⟨#[]⟩ : ByteArray), (⟨#[100, 110]⟩ : ByteArray), (⟨#[100, 97]⟩ : ByteArray), (⟨#[97, 110]⟩ : ByteArray), (⟨#[100, 110]⟩ : ByteArray), (⟨#[100, 97, 98, 110]⟩ : ByteArray), (⟨#[100, 97, 98, 110]⟩ : ByteArray), (⟨#[100, 97]⟩ : ByteArray), (⟨#[100, 97]⟩ : ByteArray), (⟨#[100, 97]⟩ : ByteArray), (⟨#[100, 97, 110]⟩ : ByteArray), (⟨#[100, 97, 98]⟩ : ByteArray), (⟨#[100, 110]⟩ : ByteArray), (⟨#[97, 110]⟩ : ByteArray), (⟨#[100, 97, 110]⟩ : ByteArray), (⟨#[97, 98, 110]⟩ : ByteArray), (⟨#[100, 97, 98]⟩ : ByteArray), (⟨#[100, 97, 98]⟩ : ByteArray), (⟨#[100, 97]⟩ : ByteArray), (⟨#[100, 110]⟩ : ByteArray), (⟨#[100, 97, 110]⟩ : ByteArray), (⟨#[100, 97, 110]⟩ : ByteArray), (⟨#[97, 110]⟩ : ByteArray), (⟨#[100]⟩ : ByteArray), (⟨#[110]⟩ : ByteArray), (⟨#[100, 97, 98, 110]⟩ : ByteArray), (⟨#[97, 120]⟩ : ByteArray), (⟨#[97, 120]⟩ : ByteArray), (⟨#[97, 120]⟩ : ByteArray), (⟨#[97, 98, 120]⟩ : ByteArray), (⟨#[97, 120, 110]⟩ : ByteArray), (⟨#[97, 120, 110]⟩ : ByteArray), (⟨#[97, 98, 120]⟩ : ByteArray), (⟨#[97]⟩ : ByteArray), (⟨#[100, 120, 110]⟩ : ByteArray), (⟨#[100, 120, 110]⟩ : ByteArray), (⟨#[97, 110]⟩ : ByteArray), (⟨#[120]⟩ : ByteArray)] : List ByteArray)) := ⟨_, rfl⟩
  replace H : (if a0 < 0 then (some ((⟨#[]⟩ : ByteArray), false)) else (if a0 ≥ (y101.length : Int) then (some ((⟨#[]⟩ : ByteArray), false)) else (if 0 ≤ a0 then (if a0 < (y101.length : Int) then (some (rdOf ByteArray.empty y101 a0, true)) else (none)) else (none)))) = some (r1, r2) := by first | (rw [hy101]; with_reducible exact H) | (have H2_ := (Option.bind_some _ _).symm.trans H; rw [hy101]; with_reducible exact H2_) | (have H2_ := (Option.bind_some _ _).symm.trans H; with_reducible exact H2_) | with_reducible exact H | (rw [hy101]; exact H) | exact H
  have Ny101 := Aside0.mk hy101
  clear hy101
  by_cases c2 : a0 < 0
  · rw [if_pos c2] at H
    have c2b0 : decide (a0 < 0) = true := decide_eq_true c2
    clear c2
    simp only [Option.some.injEq, Prod.mk.injEq] at H
    obtain ⟨rfl, rfl⟩ := H
    go_enter Try.func36, Try.ntmps36
    go_wp2_with (first | ((with_reducible refine gate_dst (N := 5) rfl ?_); (try (refine gate_guard (by rfl) ?_; dsimp only)); refine Kd.R_lit Kd.string _ 9 ?hg (N := 5) ?hd (xs := ([(⟨#[]⟩ : ByteArray), (⟨#[100, 110]⟩ : ByteArray), (⟨#[100, 97]⟩ : ByteArray), (⟨#[97, 110]⟩ : ByteArray), (⟨#[100, 110]⟩ : ByteArray), (⟨#[100, 97, 98, 110]⟩ : ByteArray), (⟨#[100, 97, 98, 110]⟩ : ByteArray), (⟨#[100, 97]⟩ : ByteArray), (⟨#[100, 97]⟩ : ByteArray), (⟨#[100, 97]⟩ : ByteArray), (⟨#[100, 97, 110]⟩ : ByteArray), (⟨#[100, 97, 98]⟩ : ByteArray), (⟨#[100, 110]⟩ : ByteArray), (⟨#[97, 110]⟩ : ByteArray), (⟨#[100, 97, 110]⟩ : ByteArray), (⟨#[97, 98, 110]⟩ : ByteArray), (⟨#[100, 97, 98]⟩ : ByteArray), (⟨#[100, 97, 98]⟩ : ByteArray), (⟨#[100, 97]⟩ : ByteArray), (⟨#[100, 110]⟩ : ByteArray), (⟨#[100, 97, 110]⟩ : ByteArray), (⟨#[100, 97, 110]⟩ : ByteArray), (⟨#[97, 110]⟩ : ByteArray), (⟨#[100]⟩ : ByteArray), (⟨#[110]⟩ : ByteArray), (⟨#[100, 97, 98, 110]⟩ : ByteArray), (⟨#[97, 120]⟩ : ByteArray), (⟨#[97, 120]⟩ : ByteArray), (⟨#[97, 120]⟩ : ByteArray), (⟨#[97, 98, 120]⟩ : ByteArray), (⟨#[97, 120, 110]⟩ : ByteArray), (⟨#[97, 120, 110]⟩ : ByteArray), (⟨#[97, 98, 120]⟩ : ByteArray), (⟨#[97]⟩ : ByteArray), (⟨#[100, 120, 110]⟩ : ByteArray), (⟨#[100, 120, 110]⟩ : ByteArray), (⟨#[97, 110]⟩ : ByteArray), (⟨#[120]⟩ : ByteArray)] : List ByteArray)) (inner := [.string (⟨#[]⟩ : ByteArray), .string (⟨#[100, 110]⟩ : ByteArray), .string (⟨#[100, 97]⟩ : ByteArray), .string (⟨#[97, 110]⟩ : ByteArray), .string (⟨#[100, 110]⟩ : ByteArray), .string (⟨#[100, 97, 98, 110]⟩ : ByteArray), .string (⟨#[100, 97, 98, 110]⟩ : ByteArray), .string (⟨#[100, 97]⟩ : ByteArray), .string (⟨#[100, 97]⟩ : ByteArray), .string (⟨#[100, 97]⟩ : ByteArray), .string (⟨#[100, 97, 110]⟩ : ByteArray), .string (⟨#[100, 97, 98]⟩ : ByteArray), .string (⟨#[100, 110]⟩ : ByteArray), .string (⟨#[97, 110]⟩ : ByteArray), .string (⟨#[100, 97, 110]⟩ : ByteArray), .string (⟨#[97, 98, 110]⟩ : ByteArray), .string (⟨#[100, 97, 98]⟩ : ByteArray), .string (⟨#[100, 97, 98]⟩ : ByteArray), .string (⟨#[100, 97]⟩ : ByteArray), .string (⟨#[100, 110]⟩ : ByteArray), .string (⟨#[100, 97, 110]⟩ : ByteArray), .string (⟨#[100, 97, 110]⟩ : ByteArray), .string (⟨#[97, 110]⟩ : ByteArray), .string (⟨#[100]⟩ : ByteArray), .string (⟨#[110]⟩ : ByteArray), .string (⟨#[100, 97, 98, 110]⟩ : ByteArray), .string (⟨#[97, 120]⟩ : ByteArray), .string (⟨#[97, 120]⟩ : ByteArray), .string (⟨#[97, 120]⟩ : ByteArray), .string (⟨#[97, 98, 120]⟩ : ByteArray), .string (⟨#[97, 120, 110]⟩ : ByteArray), .string (⟨#[97, 120, 110]⟩ : ByteArray), .string (⟨#[97, 98, 120]⟩ : ByteArray), .string (⟨#[97]⟩ : ByteArray), .string (⟨#[100, 120, 110]⟩ : ByteArray), .string (⟨#[100, 120, 110]⟩ : ByteArray), .string (⟨#[97, 110]⟩ : ByteArray), .string (⟨#[120]⟩ : ByteArray)]) (ok := fun _ => True) (okp := fun _ => True) ?hr ?hp (fun _ hk => hk) trivial (Below.refl _ _) (Nat.le_refl _) (by simp) ?_; (case hd => rfl); (case hg => rfl); (case hr => first | (go_simp; done) | (go_simp; rfl)); (case hp => exact (Reps.one (show Kd.M Kd.string _ _ _ (⟨#[]⟩ : ByteArray) [.string (⟨#[]⟩ : ByteArray)] from rfl) (Reps.one (show Kd.M Kd.string _ _ _ (⟨#[100, 110]⟩ : ByteArray) [.string (⟨#[100, 110]⟩ : ByteArray)] from rfl) (Reps.one (show Kd.M Kd.string _ _ _ (⟨#[100, 97]⟩ : ByteArray) [.string (⟨#[100, 97]⟩ : ByteArray)] from rfl) (Reps.one (show Kd.M Kd.string _ _ _ (⟨#[97, 110]⟩ : ByteArray) [.string (⟨#[97, 110]⟩ : ByteArray)] from rfl) (Reps.one (show Kd.M Kd.string _ _ _ (⟨#[100, 110]⟩ : ByteArray) [.string (⟨#[100, 110]⟩ : ByteArray)] from rfl) (Reps.one (show Kd.M Kd.string _ _ _ (⟨#[100, 97, 98, 110]⟩ : ByteArray) [.string (⟨#[100, 97, 98, 110]⟩ : ByteArray)] from rfl) (Reps.one (show Kd.M Kd.string _ _ _ (⟨#[100, 97, 98, 110]⟩ : ByteArray) [.string (⟨#[100, 97, 98, 110]⟩ : ByteArray)] from rfl) (Reps.one (show Kd.M Kd.string _ _ _ (⟨#[100, 97]⟩ : ByteArray) [.string (⟨#[100, 97]⟩ : ByteArray)] from rfl) (Reps.one (show Kd.M Kd.string _ _ _ (⟨#[100, 97]⟩ : ByteArray) [.string (⟨#[100, 97]⟩ : ByteArray)] from rfl) (Reps.one (show Kd.M Kd.string _ _ _ (⟨#[100, 97]⟩ : ByteArray) [.string (⟨#[100, 97]⟩ : ByteArray)] from rfl) (Reps.one (show Kd.M Kd.string _ _ _ (⟨#[100, 97, 110]⟩ : ByteArray) [.string (⟨#[100, 97, 110]⟩ : ByteArray)] from rfl) (Reps.one (show Kd.M Kd.string _ _ _ (⟨#[100, 97, 98]⟩ : ByteArray) [.string (⟨#[100, 97, 98]⟩ : ByteArray)] from rfl) (Reps.one (show Kd.M Kd.string _ _ _ (⟨#[100, 110]⟩ : ByteArray) [.string (⟨#[100, 110]⟩ : ByteArray)] from rfl) (Reps.one (show Kd.M Kd.string _ _ _ (⟨#[97, 110]⟩ : ByteArray) [.string (⟨#[97, 110]⟩ : ByteArray)] from rfl) (Reps.one (show Kd.M Kd.string _ _ _ (⟨#[100, 97, 110]⟩ : ByteArray) [.string (⟨#[100, 97, 110]⟩ : ByteArray)] from rfl) (Reps.one (show Kd.M Kd.string _ _ _ (⟨#[97, 98, 110]⟩ : ByteArray) [.string (⟨#[97, 98, 110]⟩ : ByteArray)] from rfl) (Reps.one (show Kd.M Kd.string _ _ _ (⟨#[100, 97, 98]⟩ : ByteArray) [.string (⟨#[100, 97, 98]⟩ : ByteArray)] from rfl) (Reps.one (show Kd.M Kd.string _ _ _ (⟨#[100, 97, 98]⟩ : ByteArray) [.string (⟨#[100, 97, 98]⟩ : ByteArray)] from rfl) (Reps.one (show Kd.M Kd.string _ _ _ (⟨#[100, 97]⟩ : ByteArray) [.string (⟨#[100, 97]⟩ : ByteArray)] from rfl) (Reps.one (show Kd.M Kd.string _ _ _ (⟨#[100, 110]⟩ : ByteArray) [.string (⟨#[100, 110]⟩ : ByteArray)] from rfl) (Reps.one (show Kd.M Kd.string _ _ _ (⟨#[100, 97, 110]⟩ : ByteArray) [.string (⟨#[100, 97, 110]⟩ : ByteArray)] from rfl) (Reps.one (show Kd.M Kd.string _ _ _ (⟨#[100, 97, 110]⟩ : ByteArray) [.string (⟨#[100, 97, 110]⟩ : ByteArray)] from rfl) (Reps.one (show Kd.M Kd.string _ _ _ (⟨#[97, 110]⟩ : ByteArray) [.string (⟨#[97, 110]⟩ : ByteArray)] from rfl) (Reps.one (show Kd.M Kd.string _ _ _ (⟨#[100]⟩ : ByteArray) [.string (⟨#[100]⟩ : ByteArray)] from rfl) (Reps.one (show Kd.M Kd.string _ _ _ (⟨#[110]⟩ : ByteArray) [.string (⟨#[110]⟩ : ByteArray)] from rfl) (Reps.one (show Kd.M Kd.string _ _ _ (⟨#[100, 97, 98, 110]⟩ : ByteArray) [.string (⟨#[100, 97, 98, 110]⟩ : ByteArray)] from rfl) (Reps.one (show Kd.M Kd.string _ _ _ (⟨#[97, 120]⟩ : ByteArray) [.string (⟨#[97, 120]⟩ : ByteArray)] from rfl) (Reps.one (show Kd.M Kd.string _ _ _ (⟨#[97, 120]⟩ : ByteArray) [.string (⟨#[97, 120]⟩ : ByteArray)] from rfl) (Reps.one (show Kd.M Kd.string _ _ _ (⟨#[97, 120]⟩ : ByteArray) [.string (⟨#[97, 120]⟩ : ByteArray)] from rfl) (Reps.one (show Kd.M Kd.string _ _ _ (⟨#[97, 98, 120]⟩ : ByteArray) [.string (⟨#[97, 98, 120]⟩ : ByteArray)] from rfl) (Reps.one (show Kd.M Kd.string _ _ _ (⟨#[97, 120, 110]⟩ : ByteArray) [.string (⟨#[97, 120, 110]⟩ : ByteArray)] from rfl) (Reps.one (show Kd.M Kd.string _ _ _ (⟨#[97, 120, 110]⟩ : ByteArray) [.string (⟨#[97, 120, 110]⟩ : ByteArray)] from rfl) (Reps.one (show Kd.M Kd.string _ _ _ (⟨#[97, 98, 120]⟩ : ByteArray) [.string (⟨#[97, 98, 120]⟩ : ByteArray)] from rfl) (Reps.one (show Kd.M Kd.string _ _ _ (⟨#[97]⟩ : ByteArray) [.string (⟨#[97]⟩ : ByteArray)] from rfl) (Reps.one (show Kd.M Kd.string _ _ _ (⟨#[100, 120, 110]⟩ : ByteArray) [.string (⟨#[100, 120, 110]⟩ : ByteArray)] from rfl) (Reps.one (show Kd.M Kd.string _ _ _ (⟨#[100, 120, 110]⟩ : ByteArray) [.string (⟨#[100, 120, 110]⟩ : ByteArray)] from rfl) (Reps.one (show Kd.M Kd.string _ _ _ (⟨#[97, 110]⟩ : ByteArray) [.string (⟨#[97, 110]⟩ : ByteArray)] from rfl) (Reps.one (show Kd.M Kd.string _ _ _ (⟨#[120]⟩ : ByteArray) [.string (⟨#[120]⟩ : ByteArray)] from rfl) (Reps.none _ _)))))))))))))))))))))))))))))))))))))))); intro v102 w3 ho4 hb hg_ hnew_; clear hg_ hnew_; (first | rw [← Ny101.out] at ho4 | (simp only [Int.reduceToNat] at ho4; rw [← Ny101.out] at ho4)); have n0_ := Aside0.mk (Kd.R_lower ho4 (below_size (by repeat (first | (with_reducible first | exact HB.out | apply below_alloc | apply pw_below_drewN | apply below_drew1) | exact HB.out)))); have n1_ := Aside0.mk (below_step (by repeat (first | (with_reducible first | exact HB.out | apply below_alloc | apply pw_below_drewN | apply below_drew1) | exact HB.out)) hb); clear HB; have HO103 := n0_; have HB := n1_; clear n0_ n1_; clear hb ho4))
    go_ret2
    exact ⟨by first | rfl | (simp [errW_none, errW_some] <;> rfl) | (simp [*, errW_none, errW_some] <;> rfl), by repeat (first | (with_reducible first | exact HB.out | apply below_alloc | apply pw_below_drewN | apply below_drew1) | exact HB.out)⟩
  · rw [if_neg c2] at H
    have c2b0 : decide (a0 < 0) = false := decide_eq_false c2
    clear c2
    by_cases c5 : a0 ≥ (y101.length : Int)
    · rw [if_pos c5] at H
      have c5b0 : decide ((y101.length : Int) ≤ a0) = true := decide_eq_true c5
      clear c5
      simp only [Option.some.injEq, Prod.mk.injEq] at H
      obtain ⟨rfl, rfl⟩ := H
      go_enter Try.func36, Try.ntmps36
      go_wp2_with (first | ((with_reducible refine gate_dst (N := 5) rfl ?_); (try (refine gate_guard (by rfl) ?_; dsimp only)); refine Kd.R_lit Kd.string _ 9 ?hg (N := 5) ?hd (xs := ([(⟨#[]⟩ : ByteArray), (⟨#[100, 110]⟩ : ByteArray), (⟨#[100, 97]⟩ : ByteArray), (⟨#[97, 110]⟩ : ByteArray), (⟨#[100, 110]⟩ : ByteArray), (⟨#[100, 97, 98, 110]⟩ : ByteArray), (⟨#[100, 97, 98, 110]⟩ : ByteArray), (⟨#[100, 97]⟩ : ByteArray), (⟨#[100, 97]⟩ : ByteArray), (⟨#[100, 97]⟩ : ByteArray), (⟨#[100, 97, 110]⟩ : ByteArray), (⟨#[100, 97, 98]⟩ : ByteArray), (⟨#[100, 110]⟩ : ByteArray), (⟨#[97, 110]⟩ : ByteArray), (⟨#[100, 97, 110]⟩ : ByteArray), (⟨#[97, 98, 110]⟩ : ByteArray), (⟨#[100, 97, 98]⟩ : ByteArray), (⟨#[100, 97, 98]⟩ : ByteArray), (⟨#[100, 97]⟩ : ByteArray), (⟨#[100, 110]⟩ : ByteArray), (⟨#[100, 97, 110]⟩ : ByteArray), (⟨#[100, 97, 110]⟩ : ByteArray), (⟨#[97, 110]⟩ : ByteArray), (⟨#[100]⟩ : ByteArray), (⟨#[110]⟩ : ByteArray), (⟨#[100, 97, 98, 110]⟩ : ByteArray), (⟨#[97, 120]⟩ : ByteArray), (⟨#[97, 120]⟩ : ByteArray), (⟨#[97, 120]⟩ : ByteArray), (⟨#[97, 98, 120]⟩ : ByteArray), (⟨#[97, 120, 110]⟩ : ByteArray), (⟨#[97, 120, 110]⟩ : ByteArray), (⟨#[97, 98, 120]⟩ : ByteArray), (⟨#[97]⟩ : ByteArray), (⟨#[100, 120, 110]⟩ : ByteArray), (⟨#[100, 120, 110]⟩ : ByteArray), (⟨#[97, 110]⟩ : ByteArray), (⟨#[120]⟩ : ByteArray)] : List ByteArray)) (inner := [.string (⟨#[]⟩ : ByteArray), .string (⟨#[100, 110]⟩ : ByteArray), .string (⟨#[100, 97]⟩ : ByteArray), .string (⟨#[97, 110]⟩ : ByteArray), .string (⟨#[100, 110]⟩ : ByteArray), .string (⟨#[100, 97, 98, 110]⟩ : ByteArray), .string (⟨#[100, 97, 98, 110]⟩ : ByteArray), .string (⟨#[100, 97]⟩ : ByteArray), .string (⟨#[100, 97]⟩ : ByteArray), .string (⟨#[100, 97]⟩ : ByteArray), .string (⟨#[100, 97, 110]⟩ : ByteArray), .string (⟨#[100, 97, 98]⟩ : ByteArray), .string (⟨#[100, 110]⟩ : ByteArray), .string (⟨#[97, 110]⟩ : ByteArray), .string (⟨#[100, 97, 110]⟩ : ByteArray), .string (⟨#[97, 98, 110]⟩ : ByteArray), .string (⟨#[100, 97, 98]⟩ : ByteArray), .string (⟨#[100, 97, 98]⟩ : ByteArray), .string (⟨#[100, 97]⟩ : ByteArray), .string (⟨#[100, 110]⟩ : ByteArray), .string (⟨#[100, 97, 110]⟩ : ByteArray), .string (⟨#[100, 97, 110]⟩ : ByteArray), .string (⟨#[97, 110]⟩ : ByteArray), .string (⟨#[100]⟩ : ByteArray), .string (⟨#[110]⟩ : ByteArray), .string (⟨#[100, 97, 98, 110]⟩ : ByteArray), .string (⟨#[97, 120]⟩ : ByteArray), .string (⟨#[97, 120]⟩ : ByteArray), .string (⟨#[97, 120]⟩ : ByteArray), .string (⟨#[97, 98, 120]⟩ : ByteArray), .string (⟨#[97, 120, 110]⟩ : ByteArray), .string (⟨#[97, 120, 110]⟩ : ByteArray), .string (⟨#[97, 98, 120]⟩ : ByteArray), .string (⟨#[97]⟩ : ByteArray), .string (⟨#[100, 120, 110]⟩ : ByteArray), .string (⟨#[100, 120, 110]⟩ : ByteArray), .string (⟨#[97, 110]⟩ : ByteArray), .string (⟨#[120]⟩ : ByteArray)]) (ok := fun _ => True) (okp := fun _ => True) ?hr ?hp (fun _ hk => hk) trivial (Below.refl _ _) (Nat.le_refl _) (by simp) ?_; (case hd => rfl); (case hg => rfl); (case hr => first | (go_simp; done) | (go_simp; rfl)); (case hp => exact (Reps.one (show Kd.M Kd.string _ _ _ (⟨#[]⟩ : ByteArray) [.string (⟨#[]⟩ : ByteArray)] from rfl) (Reps.one (show Kd.M Kd.string _ _ _ (⟨#[100, 110]⟩ : ByteArray) [.string (⟨#[100, 110]⟩ : ByteArray)] from rfl) (Reps.one (show Kd.M Kd.string _ _ _ (⟨#[100, 97]⟩ : ByteArray) [.string (⟨#[100, 97]⟩ : ByteArray)] from rfl) (Reps.one (show Kd.M Kd.string _ _ _ (⟨#[97, 110]⟩ : ByteArray) [.string (⟨#[97, 110]⟩ : ByteArray)] from rfl) (Reps.one (show Kd.M Kd.string _ _ _ (⟨#[100, 110]⟩ : ByteArray) [.string (⟨#[100, 110]⟩ : ByteArray)] from rfl) (Reps.one (show Kd.M Kd.string _ _ _ (⟨#[100, 97, 98, 110]⟩ : ByteArray) [.string (⟨#[100, 97, 98, 110]⟩ : ByteArray)] from rfl) (Reps.one (show Kd.M Kd.string _ _ _ (⟨#[100, 97, 98, 110]⟩ : ByteArray) [.string (⟨#[100, 97, 98, 110]⟩ : ByteArray)] from rfl) (Reps.one (show Kd.M Kd.string _ _ _ (⟨#[100, 97]⟩ : ByteArray) [.string (⟨#[100, 97]⟩ : ByteArray)] from rfl) (Reps.one (show Kd.M Kd.string _ _ _ (⟨#[100, 97]⟩ : ByteArray) [.string (⟨#[100, 97]⟩ : ByteArray)] from rfl) (Reps.one (show Kd.M Kd.string _ _ _ (⟨#[100, 97]⟩ : ByteArray) [.string (⟨#[100, 97]⟩ : ByteArray)] from rfl) (Reps.one (show Kd.M Kd.string _ _ _ (⟨#[100, 97, 110]⟩ : ByteArray) [.string (⟨#[100, 97, 110]⟩ : ByteArray)] from rfl) (Reps.one (show Kd.M Kd.string _ _ _ (⟨#[100, 97, 98]⟩ : ByteArray) [.string (⟨#[100, 97, 98]⟩ : ByteArray)] from rfl) (Reps.one (show Kd.M Kd.string _ _ _ (⟨#[100, 110]⟩ : ByteArray) [.string (⟨#[100, 110]⟩ : ByteArray)] from rfl) (Reps.one (show Kd.M Kd.string _ _ _ (⟨#[97, 110]⟩ : ByteArray) [.string (⟨#[97, 110]⟩ : ByteArray)] from rfl) (Reps.one (show Kd.M Kd.string _ _ _ (⟨#[100, 97, 110]⟩ : ByteArray) [.string (⟨#[100, 97, 110]⟩ : ByteArray)] from rfl) (Reps.one (show Kd.M Kd.string _ _ _ (⟨#[97, 98, 110]⟩ : ByteArray) [.string (⟨#[97, 98, 110]⟩ : ByteArray)] from rfl) (Reps.one (show Kd.M Kd.string _ _ _ (⟨#[100, 97, 98]⟩ : ByteArray) [.string (⟨#[100, 97, 98]⟩ : ByteArray)] from rfl) (Reps.one (show Kd.M Kd.string _ _ _ (⟨#[100, 97, 98]⟩ : ByteArray) [.string (⟨#[100, 97, 98]⟩ : ByteArray)] from rfl) (Reps.one (show Kd.M Kd.string _ _ _ (⟨#[100, 97]⟩ : ByteArray) [.string (⟨#[100, 97]⟩ : ByteArray)] from rfl) (Reps.one (show Kd.M Kd.string _ _ _ (⟨#[100, 110]⟩ : ByteArray) [.string (⟨#[100, 110]⟩ : ByteArray)] from rfl) (Reps.one (show Kd.M Kd.string _ _ _ (⟨#[100, 97, 110]⟩ : ByteArray) [.string (⟨#[100, 97, 110]⟩ : ByteArray)] from rfl) (Reps.one (show Kd.M Kd.string _ _ _ (⟨#[100, 97, 110]⟩ : ByteArray) [.string (⟨#[100, 97, 110]⟩ : ByteArray)] from rfl) (Reps.one (show Kd.M Kd.string _ _ _ (⟨#[97, 110]⟩ : ByteArray) [.string (⟨#[97, 110]⟩ : ByteArray)] from rfl) (Reps.one (show Kd.M Kd.string _ _ _ (⟨#[100]⟩ : ByteArray) [.string (⟨#[100]⟩ : ByteArray)] from rfl) (Reps.one (show Kd.M Kd.string _ _ _ (⟨#[110]⟩ : ByteArray) [.string (⟨#[110]⟩ : ByteArray)] from rfl) (Reps.one (show Kd.M Kd.string _ _ _ (⟨#[100, 97, 98, 110]⟩ : ByteArray) [.string (⟨#[100, 97, 98, 110]⟩ : ByteArray)] from rfl) (Reps.one (show Kd.M Kd.string _ _ _ (⟨#[97, 120]⟩ : ByteArray) [.string (⟨#[97, 120]⟩ : ByteArray)] from rfl) (Reps.one (show Kd.M Kd.string _ _ _ (⟨#[97, 120]⟩ : ByteArray) [.string (⟨#[97, 120]⟩ : ByteArray)] from rfl) (Reps.one (show Kd.M Kd.string _ _ _ (⟨#[97, 120]⟩ : ByteArray) [.string (⟨#[97, 120]⟩ : ByteArray)] from rfl) (Reps.one (show Kd.M Kd.string _ _ _ (⟨#[97, 98, 120]⟩ : ByteArray) [.string (⟨#[97, 98, 120]⟩ : ByteArray)] from rfl) (Reps.one (show Kd.M Kd.string _ _ _ (⟨#[97, 120, 110]⟩ : ByteArray) [.string (⟨#[97, 120, 110]⟩ : ByteArray)] from rfl) (Reps.one (show Kd.M Kd.string _ _ _ (⟨#[97, 120, 110]⟩ : ByteArray) [.string (⟨#[97, 120, 110]⟩ : ByteArray)] from rfl) (Reps.one (show Kd.M Kd.string _ _ _ (⟨#[97, 98, 120]⟩ : ByteArray) [.string (⟨#[97, 98, 120]⟩ : ByteArray)] from rfl) (Reps.one (show Kd.M Kd.string _ _ _ (⟨#[97]⟩ : ByteArray) [.string (⟨#[97]⟩ : ByteArray)] from rfl) (Reps.one (show Kd.M Kd.string _ _ _ (⟨#[100, 120, 110]⟩ : ByteArray) [.string (⟨#[100, 120, 110]⟩ : ByteArray)] from rfl) (Reps.one (show Kd.M Kd.string _ _ _ (⟨#[100, 120, 110]⟩ : ByteArray) [.string (⟨#[100, 120, 110]⟩ : ByteArray)] from rfl) (Reps.one (show Kd.M Kd.string _ _ _ (⟨#[97, 110]⟩ : ByteArray) [.string (⟨#[97, 110]⟩ : ByteArray)] from rfl) (Reps.one (show Kd.M Kd.string _ _ _ (⟨#[120]⟩ : ByteArray) [.string (⟨#[120]⟩ : ByteArray)] from rfl) (Reps.none _ _)))))))))))))))))))))))))))))))))))))))); intro v102 w6 ho7 hb hg_ hnew_; clear hg_ hnew_; (first | rw [← Ny101.out] at ho7 | (simp only [Int.reduceToNat] at ho7; rw [← Ny101.out] at ho7)); have n0_ := Aside0.mk (Kd.R_lower ho7 (below_size (by repeat (first | (with_reducible first | exact HB.out | apply below_alloc | apply pw_below_drewN | apply below_drew1) | exact HB.out)))); have n1_ := Aside0.mk (below_step (by repeat (first | (with_reducible first | exact HB.out | apply below_alloc | apply pw_below_drewN | apply below_drew1) | exact HB.out)) hb); clear HB; have HO103 := n0_; have HB := n1_; clear n0_ n1_; clear hb ho7; obtain ⟨Ao8, co8, eo8⟩ := Kd.R_slice HO103.out; subst eo8))
      go_ret2
      exact ⟨by first | rfl | (simp [errW_none, errW_some] <;> rfl) | (simp [*, errW_none, errW_some] <;> rfl), by repeat (first | (with_reducible first | exact HB.out | apply below_alloc | apply pw_below_drewN | apply below_drew1) | exact HB.out)⟩
    · rw [if_neg c5] at H
      have c5b0 : decide ((y101.length : Int) ≤ a0) = false := decide_eq_false c5
      clear c5
      by_cases c9 : 0 ≤ a0
      · rw [if_pos c9] at H
        have c9b0 : decide (0 ≤ a0) = true := decide_eq_true c9
        clear c9
        by_cases c10 : a0 < (y101.length : Int)
        · rw [if_pos c10] at H
          have c10b0 : decide (a0 < (y101.length : Int)) = true := decide_eq_true c10
          clear c10
          simp only [Option.some.injEq, Prod.mk.injEq] at H
          obtain ⟨rfl, rfl⟩ := H
          go_enter Try.func36, Try.ntmps36
          go_wp2_with (first | ((with_reducible refine gate_dst (N := 5) rfl ?_); (try (refine gate_guard (by rfl) ?_; dsimp only)); refine Kd.R_lit Kd.string _ 9 ?hg (N := 5) ?hd (xs := ([(⟨#[]⟩ : ByteArray), (⟨#[100, 110]⟩ : ByteArray), (⟨#[100, 97]⟩ : ByteArray), (⟨#[97, 110]⟩ : ByteArray), (⟨#[100, 110]⟩ : ByteArray), (⟨#[100, 97, 98, 110]⟩ : ByteArray), (⟨#[100, 97, 98, 110]⟩ : ByteArray), (⟨#[100, 97]⟩ : ByteArray), (⟨#[100, 97]⟩ : ByteArray), (⟨#[100, 97]⟩ : ByteArray), (⟨#[100, 97, 110]⟩ : ByteArray), (⟨#[100, 97, 98]⟩ : ByteArray), (⟨#[100, 110]⟩ : ByteArray), (⟨#[97, 110]⟩ : ByteArray), (⟨#[100, 97, 110]⟩ : ByteArray), (⟨#[97, 98, 110]⟩ : ByteArray), (⟨#[100, 97, 98]⟩ : ByteArray), (⟨#[100, 97, 98]⟩ : ByteArray), (⟨#[100, 97]⟩ : ByteArray), (⟨#[100, 110]⟩ : ByteArray), (⟨#[100, 97, 110]⟩ : ByteArray), (⟨#[100, 97, 110]⟩ : ByteArray), (⟨#[97, 110]⟩ : ByteArray), (⟨#[100]⟩ : ByteArray), (⟨#[110]⟩ : ByteArray), (⟨#[100, 97, 98, 110]⟩ : ByteArray), (⟨#[97, 120]⟩ : ByteArray), (⟨#[97, 120]⟩ : ByteArray), (⟨#[97, 120]⟩ : ByteArray), (⟨#[97, 98, 120]⟩ : ByteArray), (⟨#[97, 120, 110]⟩ : ByteArray), (⟨#[97, 120, 110]⟩ : ByteArray), (⟨#[97, 98, 120]⟩ : ByteArray), (⟨#[97]⟩ : ByteArray), (⟨#[100, 120, 110]⟩ : ByteArray), (⟨#[100, 120, 110]⟩ : ByteArray), (⟨#[97, 110]⟩ : ByteArray), (⟨#[120]⟩ : ByteArray)] : List ByteArray)) (inner := [.string (⟨#[]⟩ : ByteArray), .string (⟨#[100, 110]⟩ : ByteArray), .string (⟨#[100, 97]⟩ : ByteArray), .string (⟨#[97, 110]⟩ : ByteArray), .string (⟨#[100, 110]⟩ : ByteArray), .string (⟨#[100, 97, 98, 110]⟩ : ByteArray), .string (⟨#[100, 97, 98, 110]⟩ : ByteArray), .string (⟨#[100, 97]⟩ : ByteArray), .string (⟨#[100, 97]⟩ : ByteArray), .string (⟨#[100, 97]⟩ : ByteArray), .string (⟨#[100, 97, 110]⟩ : ByteArray), .string (⟨#[100, 97, 98]⟩ : ByteArray), .string (⟨#[100, 110]⟩ : ByteArray), .string (⟨#[97, 110]⟩ : ByteArray), .string (⟨#[100, 97, 110]⟩ : ByteArray), .string (⟨#[97, 98, 110]⟩ : ByteArray), .string (⟨#[100, 97, 98]⟩ : ByteArray), .string (⟨#[100, 97, 98]⟩ : ByteArray), .string (⟨#[100, 97]⟩ : ByteArray), .string (⟨#[100, 110]⟩ : ByteArray), .string (⟨#[100, 97, 110]⟩ : ByteArray), .string (⟨#[100, 97, 110]⟩ : ByteArray), .string (⟨#[97, 110]⟩ : ByteArray), .string (⟨#[100]⟩ : ByteArray), .string (⟨#[110]⟩ : ByteArray), .string (⟨#[100, 97, 98, 110]⟩ : ByteArray), .string (⟨#[97, 120]⟩ : ByteArray), .string (⟨#[97, 120]⟩ : ByteArray), .string (⟨#[97, 120]⟩ : ByteArray), .string (⟨#[97, 98, 120]⟩ : ByteArray), .string (⟨#[97, 120, 110]⟩ : ByteArray), .string (⟨#[97, 120, 110]⟩ : ByteArray), .string (⟨#[97, 98, 120]⟩ : ByteArray), .string (⟨#[97]⟩ : ByteArray), .string (⟨#[100, 120, 110]⟩ : ByteArray), .string (⟨#[100, 120, 110]⟩ : ByteArray), .string (⟨#[97, 110]⟩ : ByteArray), .string (⟨#[120]⟩ : ByteArray)]) (ok := fun _ => True) (okp := fun _ => True) ?hr ?hp (fun _ hk => hk) trivial (Below.refl _ _) (Nat.le_refl _) (by simp) ?_; (case hd => rfl); (case hg => rfl); (case hr => first | (go_simp; done) | (go_simp; rfl)); (case hp => exact (Reps.one (show Kd.M Kd.string _ _ _ (⟨#[]⟩ : ByteArray) [.string (⟨#[]⟩ : ByteArray)] from rfl) (Reps.one (show Kd.M Kd.string _ _ _ (⟨#[100, 110]⟩ : ByteArray) [.string (⟨#[100, 110]⟩ : ByteArray)] from rfl) (Reps.one (show Kd.M Kd.string _ _ _ (⟨#[100, 97]⟩ : ByteArray) [.string (⟨#[100, 97]⟩ : ByteArray)] from rfl) (Reps.one (show Kd.M Kd.string _ _ _ (⟨#[97, 110]⟩ : ByteArray) [.string (⟨#[97, 110]⟩ : ByteArray)] from rfl) (Reps.one (show Kd.M Kd.string _ _ _ (⟨#[100, 110]⟩ : ByteArray) [.string (⟨#[100, 110]⟩ : ByteArray)] from rfl) (Reps.one (show Kd.M Kd.string _ _ _ (⟨#[100, 97, 98, 110]⟩ : ByteArray) [.string (⟨#[100, 97, 98, 110]⟩ : ByteArray)] from rfl) (Reps.one (show Kd.M Kd.string _ _ _ (⟨#[100, 97, 98, 110]⟩ : ByteArray) [.string (⟨#[100, 97, 98, 110]⟩ : ByteArray)] from rfl) (Reps.one (show Kd.M Kd.string _ _ _ (⟨#[100, 97]⟩ : ByteArray) [.string (⟨#[100, 97]⟩ : ByteArray)] from rfl) (Reps.one (show Kd.M Kd.string _ _ _ (⟨#[100, 97]⟩ : ByteArray) [.string (⟨#[100, 97]⟩ : ByteArray)] from rfl) (Reps.one (show Kd.M Kd.string _ _ _ (⟨#[100, 97]⟩ : ByteArray) [.string (⟨#[100, 97]⟩ : ByteArray)] from rfl) (Reps.one (show Kd.M Kd.string _ _ _ (⟨#[100, 97, 110]⟩ : ByteArray) [.string (⟨#[100, 97, 110]⟩ : ByteArray)] from rfl) (Reps.one (show Kd.M Kd.string _ _ _ (⟨#[100, 97, 98]⟩ : ByteArray) [.string (⟨#[100, 97, 98]⟩ : ByteArray)] from rfl) (Reps.one (show Kd.M Kd.string _ _ _ (⟨#[100, 110]⟩ : ByteArray) [.string (⟨#[100, 110]⟩ : ByteArray)] from rfl) (Reps.one (show Kd.M Kd.string _ _ _ (⟨#[97, 110]⟩ : ByteArray) [.string (⟨#[97, 110]⟩ : ByteArray)] from rfl) (Reps.one (show Kd.M Kd.string _ _ _ (⟨#[100, 97, 110]⟩ : ByteArray) [.string (⟨#[100, 97, 110]⟩ : ByteArray)] from rfl) (Reps.one (show Kd.M Kd.string _ _ _ (⟨#[97, 98, 110]⟩ : ByteArray) [.string (⟨#[97, 98, 110]⟩ : ByteArray)] from rfl) (Reps.one (show Kd.M Kd.string _ _ _ (⟨#[100, 97, 98]⟩ : ByteArray) [.string (⟨#[100, 97, 98]⟩ : ByteArray)] from rfl) (Reps.one (show Kd.M Kd.string _ _ _ (⟨#[100, 97, 98]⟩ : ByteArray) [.string (⟨#[100, 97, 98]⟩ : ByteArray)] from rfl) (Reps.one (show Kd.M Kd.string _ _ _ (⟨#[100, 97]⟩ : ByteArray) [.string (⟨#[100, 97]⟩ : ByteArray)] from rfl) (Reps.one (show Kd.M Kd.string _ _ _ (⟨#[100, 110]⟩ : ByteArray) [.string (⟨#[100, 110]⟩ : ByteArray)] from rfl) (Reps.one (show Kd.M Kd.string _ _ _ (⟨#[100, 97, 110]⟩ : ByteArray) [.string (⟨#[100, 97, 110]⟩ : ByteArray)] from rfl) (Reps.one (show Kd.M Kd.string _ _ _ (⟨#[100, 97, 110]⟩ : ByteArray) [.string (⟨#[100, 97, 110]⟩ : ByteArray)] from rfl) (Reps.one (show Kd.M Kd.string _ _ _ (⟨#[97, 110]⟩ : ByteArray) [.string (⟨#[97, 110]⟩ : ByteArray)] from rfl) (Reps.one (show Kd.M Kd.string _ _ _ (⟨#[100]⟩ : ByteArray) [.string (⟨#[100]⟩ : ByteArray)] from rfl) (Reps.one (show Kd.M Kd.string _ _ _ (⟨#[110]⟩ : ByteArray) [.string (⟨#[110]⟩ : ByteArray)] from rfl) (Reps.one (show Kd.M Kd.string _ _ _ (⟨#[100, 97, 98, 110]⟩ : ByteArray) [.string (⟨#[100, 97, 98, 110]⟩ : ByteArray)] from rfl) (Reps.one (show Kd.M Kd.string _ _ _ (⟨#[97, 120]⟩ : ByteArray) [.string (⟨#[97, 120]⟩ : ByteArray)] from rfl) (Reps.one (show Kd.M Kd.string _ _ _ (⟨#[97, 120]⟩ : ByteArray) [.string (⟨#[97, 120]⟩ : ByteArray)] from rfl) (Reps.one (show Kd.M Kd.string _ _ _ (⟨#[97, 120]⟩ : ByteArray) [.string (⟨#[97, 120]⟩ : ByteArray)] from rfl) (Reps.one (show Kd.M Kd.string _ _ _ (⟨#[97, 98, 120]⟩ : ByteArray) [.string (⟨#[97, 98, 120]⟩ : ByteArray)] from rfl) (Reps.one (show Kd.M Kd.string _ _ _ (⟨#[97, 120, 110]⟩ : ByteArray) [.string (⟨#[97, 120, 110]⟩ : ByteArray)] from rfl) (Reps.one (show Kd.M Kd.string _ _ _ (⟨#[97, 120, 110]⟩ : ByteArray) [.string (⟨#[97, 120, 110]⟩ : ByteArray)] from rfl) (Reps.one (show Kd.M Kd.string _ _ _ (⟨#[97, 98, 120]⟩ : ByteArray) [.string (⟨#[97, 98, 120]⟩ : ByteArray)] from rfl) (Reps.one (show Kd.M Kd.string _ _ _ (⟨#[97]⟩ : ByteArray) [.string (⟨#[97]⟩ : ByteArray)] from rfl) (Reps.one (show Kd.M Kd.string _ _ _ (⟨#[100, 120, 110]⟩ : ByteArray) [.string (⟨#[100, 120, 110]⟩ : ByteArray)] from rfl) (Reps.one (show Kd.M Kd.string _ _ _ (⟨#[100, 120, 110]⟩ : ByteArray) [.string (⟨#[100, 120, 110]⟩ : ByteArray)] from rfl) (Reps.one (show Kd.M Kd.string _ _ _ (⟨#[97, 110]⟩ : ByteArray) [.string (⟨#[97, 110]⟩ : ByteArray)] from rfl) (Reps.one (show Kd.M Kd.string _ _ _ (⟨#[120]⟩ : ByteArray) [.string (⟨#[120]⟩ : ByteArray)] from rfl) (Reps.none _ _)))))))))))))))))))))))))))))))))))))))); intro v102 w11 ho12 hb hg_ hnew_; clear hg_ hnew_; (first | rw [← Ny101.out] at ho12 | (simp only [Int.reduceToNat] at ho12; rw [← Ny101.out] at ho12)); have n0_ := Aside0.mk (Kd.R_lower ho12 (below_size (by repeat (first | (with_reducible first | exact HB.out | apply below_alloc | apply pw_below_drewN | apply below_drew1) | exact HB.out)))); have n1_ := Aside0.mk (below_step (by repeat (first | (with_reducible first | exact HB.out | apply below_alloc | apply pw_below_drewN | apply below_drew1) | exact HB.out)) hb); clear HB; have HO103 := n0_; have HB := n1_; clear n0_ n1_; clear hb ho12; obtain ⟨Ao13, co13, eo13⟩ := Kd.R_slice HO103.out; subst eo13; have p104 : 0 ≤ (a0 : Int) := of_decide_eq_true (by first | (with_reducible assumption) | assumption); have q104 : a0 < (y101.length : Int) := of_decide_eq_true (by first | (with_reducible assumption) | assumption); obtain ⟨ad104, e104, hx104_0⟩ := Kd.at_string (Kd.R_reads' HO103.out).2.2 a0 p104 q104; cases e104; replace p104 := eq_true p104; replace q104 := eq_true q104))
          go_ret2
          exact ⟨by first | rfl | (simp [errW_none, errW_some] <;> rfl) | (simp [*, errW_none, errW_some] <;> rfl), by repeat (first | (with_reducible first | exact HB.out | apply below_alloc | apply pw_below_drewN | apply below_drew1) | exact HB.out)⟩
        · rw [if_neg c10] at H
          exact absurd H (by simp)
      · rw [if_neg c9] at H
        exact absurd H (by simp)

/-! ### tabardref17_in: function 37 -/
def tabardref17_in.l0 : Nat → ByteArray → Int → Int → Option (Bool)
  | 0, _, _, _ => none
  | k + 1, x0, x1, x5 => if x5 < (x0.size : Int) then (if 0 ≤ x5 then (if (bt x0 x5) = x1 then (some true) else (tabardref17_in.l0 k x0 x1 (wrap64 (x5 + 1)))) else (none)) else (some false)
def tabardref17_in.f (k : Nat) (a0 : ByteArray) (a1 : Int) : Option (Bool) := tabardref17_in.l0 k a0 a1 0
set_option maxHeartbeats 8000000 in
set_option maxRecDepth 100000 in
theorem tabardref17_in.calls (k : Nat) (a0 : ByteArray) (a1 : Int) (r : Bool) (w : World) (h : tabardref17_in.f k a0 a1 = some r) :
    Calls Try.prog 37 #[.string a0, .int .u8 a1] w fun e w' => e = .returned (.bool r) ∧ Drawn0 w w' := by
  have H : (tabardref17_in.l0 k a0 a1 0) = some r := h
  clear h
  have H' := Aside0.mk H
  clear H
  go_enter Try.func37, Try.ntmps37
  go_wp2
  go_loopg [5] k (fun kq v5 w' => ∃ (x5_1 : Int), v5 = .int .i64 x5_1 ∧ Aside0 (tabardref17_in.l0 kq a0 a1 x5_1 = some r) ∧ Aside0 (kq ≤ k) ∧ Drawn0 w w')
  case atStart => exact ⟨(0), (by first | rfl | (simp; done) | (simp [*]; done)), H', ⟨Nat.le_refl _⟩, by repeat (first | exact Drawn0.refl _ | apply Drawn0.step)⟩
  case round =>
    clear H'
    try clear p2
    obtain ⟨x5_1, rfl, HA, HK1, ⟨m1, rfl⟩⟩ := hrel
    cases gk with
    | zero => exact absurd HA.out (by simp [tabardref17_in.l0])
    | succ k1 =>
      have H := HA.out
      clear HA
      simp only [tabardref17_in.l0] at H
      by_cases c3 : x5_1 < (a0.size : Int)
      · rw [if_pos c3] at H
        have c3b0 : decide (x5_1 < (a0.size : Int)) = true := decide_eq_true c3
        clear c3
        by_cases c4 : 0 ≤ x5_1
        · rw [if_pos c4] at H
          have c4b0 : decide (0 ≤ x5_1) = true := decide_eq_true c4
          clear c4
          by_cases c6 : (bt a0 x5_1) = a1
          · rw [if_pos c6] at H
            have c6b0 : ((bt a0 x5_1) == a1) = true := beq_iff_eq.mpr c6
            have c6b1 : ((bt a0 x5_1) != a1) = false := bne_eq_false_iff_eq.mpr c6
            clear c6
            obtain rfl := Option.some.inj H
            have p5 : 0 ≤ (x5_1 : Int) := of_decide_eq_true (by first | (with_reducible assumption) | assumption)
            have q5 : x5_1 < (a0.size : Int) := of_decide_eq_true (by first | (with_reducible assumption) | assumption)
            have hx5 := bt_at a0 x5_1
            replace p5 := eq_true p5
            replace q5 := eq_true q5
            go_wp2
            go_ret
            exact ⟨by first | rfl | (simp; done) | (simp [*]; done), by repeat (first | exact Drawn0.refl _ | apply Drawn0.step)⟩
          · rw [if_neg c6] at H
            have c6b0 : ((bt a0 x5_1) == a1) = false := beq_eq_false_iff_ne.mpr c6
            have c6b1 : ((bt a0 x5_1) != a1) = true := bne_iff_ne.mpr c6
            have H' := Aside0.mk H
            clear H
            have p5 : 0 ≤ (x5_1 : Int) := of_decide_eq_true (by first | (with_reducible assumption) | assumption)
            have q5 : x5_1 < (a0.size : Int) := of_decide_eq_true (by first | (with_reducible assumption) | assumption)
            have hx5 := bt_at a0 x5_1
            replace p5 := eq_true p5
            replace q5 := eq_true q5
            go_wp2
            go_roundg k1
            case measure => have := HK1.out; omega
            case rel => exact ⟨(wrap64 (x5_1 + 1)), (by first | rfl | (simp; done) | (simp [*]; done)), H', ⟨by have := HK1.out; omega⟩, by repeat (first | exact Drawn0.refl _ | apply Drawn0.step)⟩
        · rw [if_neg c4] at H
          exact absurd H (by simp)
      · rw [if_neg c3] at H
        have c3b0 : decide (x5_1 < (a0.size : Int)) = false := decide_eq_false c3
        clear c3
        obtain rfl := Option.some.inj H
        go_wp2
        go_ret
        exact ⟨by first | rfl | (simp; done) | (simp [*]; done), by repeat (first | exact Drawn0.refl _ | apply Drawn0.step)⟩

/-! ### tabardref17_field: function 40 -/
def tabardref17_field.f (a0 : Bool) (a1 : Int) : Option (Bool) := if a1 ≥ 0 then (if a1 < 16 then (if a0 = true then (some true) else (some (a1 == 0))) else (some false)) else (some false)
set_option maxHeartbeats 8000000 in
set_option maxRecDepth 100000 in
theorem tabardref17_field.calls (a0 : Bool) (a1 : Int) (r : Bool) (w : World) (h : tabardref17_field.f a0 a1 = some r) :
    Calls Try.prog 40 #[.bool a0, .int .i64 a1] w fun e w' => e = .returned (.bool r) ∧ Drawn0 w w' := by
  have H : (if a1 ≥ 0 then (if a1 < 16 then (if a0 = true then (some true) else (some (a1 == 0))) else (some false)) else (some false)) = some r := h
  clear h
  by_cases c3 : a1 ≥ 0
  · rw [if_pos c3] at H
    have c3b0 : decide (0 ≤ a1) = true := decide_eq_true c3
    clear c3
    by_cases c4 : a1 < 16
    · rw [if_pos c4] at H
      have c4b0 : decide (a1 < 16) = true := decide_eq_true c4
      clear c4
      by_cases c5 : a0 = true
      · subst c5
        have H1 : (some true) = some r := by rw [if_pos rfl] at H; exact H
        clear H
        have H := H1
        clear H1
        obtain rfl := Option.some.inj H
        go_enter Try.func40, Try.ntmps40
        go_wp2
        go_ret
        exact ⟨by first | rfl | (simp; done) | (simp [*]; done), by repeat (first | exact Drawn0.refl _ | apply Drawn0.step)⟩
      · replace c5 := Bool.eq_false_iff.mpr c5
        subst c5
        have H1 : (some (a1 == 0)) = some r := by rw [if_neg (show ¬ (false = true) by decide)] at H; exact H
        clear H
        have H := H1
        clear H1
        obtain rfl := Option.some.inj H
        go_enter Try.func40, Try.ntmps40
        go_wp2
        go_ret
        exact ⟨by first | rfl | (simp; done) | (simp [*]; done), by repeat (first | exact Drawn0.refl _ | apply Drawn0.step)⟩
    · rw [if_neg c4] at H
      have c4b0 : decide (a1 < 16) = false := decide_eq_false c4
      clear c4
      obtain rfl := Option.some.inj H
      go_enter Try.func40, Try.ntmps40
      go_wp2
      go_ret
      exact ⟨by first | rfl | (simp; done) | (simp [*]; done), by repeat (first | exact Drawn0.refl _ | apply Drawn0.step)⟩
  · rw [if_neg c3] at H
    have c3b0 : decide (0 ≤ a1) = false := decide_eq_false c3
    clear c3
    obtain rfl := Option.some.inj H
    go_enter Try.func40, Try.ntmps40
    go_wp2
    go_ret
    exact ⟨by first | rfl | (simp; done) | (simp [*]; done), by repeat (first | exact Drawn0.refl _ | apply Drawn0.step)⟩

/-! ### tabardref17_number: function 41 -/
mutual
def tabardref17_number.j0 : Nat → Int → Int → Int → Int → Bool → Option (Bool)
  | 0, _, _, _, _, _ => none
  | k + 1, x1, x5, x6, x7, x10 => if x10 = true then (if x1 ≥ x5 then (some (decide (x1 ≤ 4095))) else (some false)) else (if x7 = 5 then (tabardref17_number.j1 k x1 x5 x6 x7 (x7 == 5)) else (tabardref17_number.j1 k x1 x5 x6 x7 (x7 == 6)))
def tabardref17_number.j1 : Nat → Int → Int → Int → Int → Bool → Option (Bool)
  | 0, _, _, _, _, _ => none
  | k + 1, x1, x5, x6, x7, x13 => if x13 = true then (if x1 ≥ 1 then (some (decide (x1 ≤ 11))) else (some false)) else (if x7 = 10 then (if x1 ≥ 1 then (some (decide (x1 ≤ 3))) else (some false)) else (if x7 = 22 then (if x1 ≥ 1 then (some (decide (x1 ≤ 2))) else (some false)) else (if x7 = 36 then (if x1 ≥ x5 then (some (decide (x1 ≤ 3))) else (some false)) else (if x1 ≥ x5 then (some (decide (x1 ≤ x6))) else (some false)))))
end
def tabardref17_number.f (k : Nat) (a0 : Int) (a1 : Int) : Option (Bool) := if a0 = 1 then (some true) else (if a0 = 3 then (tabardref17_number.j0 k a1 0 2147483647 a0 (a0 == 3)) else (tabardref17_number.j0 k a1 0 2147483647 a0 (a0 == 4)))
set_option maxHeartbeats 8000000 in
set_option maxRecDepth 100000 in
theorem tabardref17_number.calls (k : Nat) (a0 : Int) (a1 : Int) (r : Bool) (w : World) (h : tabardref17_number.f k a0 a1 = some r) :
    Calls Try.prog 41 #[.int .i64 a0, .int .i64 a1] w fun e w' => e = .returned (.bool r) ∧ Drawn0 w w' := by
  have H : (if a0 = 1 then (some true) else (if a0 = 3 then (tabardref17_number.j0 k a1 0 2147483647 a0 (a0 == 3)) else (tabardref17_number.j0 k a1 0 2147483647 a0 (a0 == 4)))) = some r := h
  clear h
  by_cases c3 : a0 = 1
  · rw [if_pos c3] at H
    have c3b0 : (a0 == 1) = true := beq_iff_eq.mpr c3
    have c3b1 : (a0 != 1) = false := bne_eq_false_iff_eq.mpr c3
    clear c3
    obtain rfl := Option.some.inj H
    go_enter Try.func41, Try.ntmps41
    go_wp2
    go_ret
    exact ⟨by first | rfl | (simp; done) | (simp [*]; done), by repeat (first | exact Drawn0.refl _ | apply Drawn0.step)⟩
  · rw [if_neg c3] at H
    have c3b0 : (a0 == 1) = false := beq_eq_false_iff_ne.mpr c3
    have c3b1 : (a0 != 1) = true := bne_iff_ne.mpr c3
    have HC4 := Aside0.mk H
    clear H
    go_enter Try.func41, Try.ntmps41
    go_upto_if 10 with (fail)
    go_cut [10] (fun v10 wc => ∃ (kq : Nat) (x10_3 : Bool), v10 = .bool x10_3 ∧ Aside0 (tabardref17_number.j0 kq a1 0 2147483647 a0 x10_3 = some r) ∧ Aside0 (kq ≤ k) ∧ Drawn0 w wc)
    case first =>
      have H := HC4.out
      clear HC4
      by_cases c5 : a0 = 3
      · rw [if_pos c5] at H
        have c5b0 : (a0 == 3) = true := beq_iff_eq.mpr c5
        have c5b1 : (a0 != 3) = false := bne_eq_false_iff_eq.mpr c5
        clear c5
        (first | rw [c5b0] | (simp only [i64_w, i32_w]; rw [c5b0]) | skip)
        have H' := Aside0.mk H
        clear H
        go_wp2
        go_meet
        case rel => exact ⟨_, ((a0 == 3)), (by first | rfl | (simp; done) | (simp [*]; done)), H', ⟨by first | omega | exact Nat.le_refl _⟩, by repeat (first | exact Drawn0.refl _ | apply Drawn0.step)⟩
      · rw [if_neg c5] at H
        have c5b0 : (a0 == 3) = false := beq_eq_false_iff_ne.mpr c5
        have c5b1 : (a0 != 3) = true := bne_iff_ne.mpr c5
        (first | rw [c5b0] | (simp only [i64_w, i32_w]; rw [c5b0]) | skip)
        have H' := Aside0.mk H
        clear H
        go_wp2
        go_meet
        case rel => exact ⟨_, ((a0 == 4)), (by first | rfl | (simp; done) | (simp [*]; done)), H', ⟨by first | omega | exact Nat.le_refl _⟩, by repeat (first | exact Drawn0.refl _ | apply Drawn0.step)⟩
    case rest =>
      clear HC4
      try clear p2
      try clear c3
      try clear c3b0
      try clear c3b1
      try clear c4
      try clear c5
      try clear c5b0
      try clear c5b1
      obtain ⟨kq, x10_3, rfl, HA, HJ3, ⟨mc3, rfl⟩⟩ := hcut
      cases kq with
      | zero => exact absurd HA.out (by simp [tabardref17_number.j0])
      | succ kj3 =>
        have H := HA.out
        clear HA
        simp only [tabardref17_number.j0] at H
        by_cases c6 : x10_3 = true
        · subst c6
          have H1 : (if a1 ≥ 0 then (some (decide (a1 ≤ 4095))) else (some false)) = some r := by rw [if_pos rfl] at H; exact H
          clear H
          have H := H1
          clear H1
          by_cases c7 : a1 ≥ 0
          · rw [if_pos c7] at H
            have c7b0 : decide (0 ≤ a1) = true := decide_eq_true c7
            clear c7
            obtain rfl := Option.some.inj H
            go_wp2
            go_ret
            exact ⟨by first | rfl | (simp; done) | (simp [*]; done), by repeat (first | exact Drawn0.refl _ | apply Drawn0.step)⟩
          · rw [if_neg c7] at H
            have c7b0 : decide (0 ≤ a1) = false := decide_eq_false c7
            clear c7
            obtain rfl := Option.some.inj H
            go_wp2
            go_ret
            exact ⟨by first | rfl | (simp; done) | (simp [*]; done), by repeat (first | exact Drawn0.refl _ | apply Drawn0.step)⟩
        · replace c6 := Bool.eq_false_iff.mpr c6
          subst c6
          have H1 : (if a0 = 5 then (tabardref17_number.j1 kj3 a1 0 2147483647 a0 (a0 == 5)) else (tabardref17_number.j1 kj3 a1 0 2147483647 a0 (a0 == 6))) = some r := by rw [if_neg (show ¬ (false = true) by decide)] at H; exact H
          clear H
          have H := H1
          clear H1
          have HC8 := Aside0.mk H
          clear H
          go_upto_if 13 with (fail)
          go_cut [13] (fun v13 wc => ∃ (kq : Nat) (x13_7 : Bool), v13 = .bool x13_7 ∧ Aside0 (tabardref17_number.j1 kq a1 0 2147483647 a0 x13_7 = some r) ∧ Aside0 (kq ≤ kj3) ∧ Drawn0 w wc)
          case first =>
            have H := HC8.out
            clear HC8
            by_cases c9 : a0 = 5
            · rw [if_pos c9] at H
              have c9b0 : (a0 == 5) = true := beq_iff_eq.mpr c9
              have c9b1 : (a0 != 5) = false := bne_eq_false_iff_eq.mpr c9
              clear c9
              (first | rw [c9b0] | (simp only [i64_w, i32_w]; rw [c9b0]) | skip)
              have H' := Aside0.mk H
              clear H
              go_wp2
              go_meet
              case rel => exact ⟨_, ((a0 == 5)), (by first | rfl | (simp; done) | (simp [*]; done)), H', ⟨by have := HJ3.out; first | omega | exact Nat.le_refl _⟩, by repeat (first | exact Drawn0.refl _ | apply Drawn0.step)⟩
            · rw [if_neg c9] at H
              have c9b0 : (a0 == 5) = false := beq_eq_false_iff_ne.mpr c9
              have c9b1 : (a0 != 5) = true := bne_iff_ne.mpr c9
              (first | rw [c9b0] | (simp only [i64_w, i32_w]; rw [c9b0]) | skip)
              have H' := Aside0.mk H
              clear H
              go_wp2
              go_meet
              case rel => exact ⟨_, ((a0 == 6)), (by first | rfl | (simp; done) | (simp [*]; done)), H', ⟨by have := HJ3.out; first | omega | exact Nat.le_refl _⟩, by repeat (first | exact Drawn0.refl _ | apply Drawn0.step)⟩
          case rest =>
            clear HC8
            try clear p2
            try clear c3
            try clear c3b0
            try clear c3b1
            try clear c4
            try clear c5
            try clear c5b0
            try clear c5b1
            try clear c6
            try clear c7
            try clear c7b0
            try clear c9
            try clear c9b0
            try clear c9b1
            try clear p2
            obtain ⟨kq, x13_7, rfl, HA, HJ7, ⟨mc7, rfl⟩⟩ := hcut
            cases kq with
            | zero => exact absurd HA.out (by simp [tabardref17_number.j1])
            | succ kj7 =>
              have H := HA.out
              clear HA
              simp only [tabardref17_number.j1] at H
              by_cases c10 : x13_7 = true
              · subst c10
                have H1 : (if a1 ≥ 1 then (some (decide (a1 ≤ 11))) else (some false)) = some r := by rw [if_pos rfl] at H; exact H
                clear H
                have H := H1
                clear H1
                by_cases c11 : a1 ≥ 1
                · rw [if_pos c11] at H
                  have c11b0 : decide (1 ≤ a1) = true := decide_eq_true c11
                  clear c11
                  obtain rfl := Option.some.inj H
                  go_wp2
                  go_ret
                  exact ⟨by first | rfl | (simp; done) | (simp [*]; done), by repeat (first | exact Drawn0.refl _ | apply Drawn0.step)⟩
                · rw [if_neg c11] at H
                  have c11b0 : decide (1 ≤ a1) = false := decide_eq_false c11
                  clear c11
                  obtain rfl := Option.some.inj H
                  go_wp2
                  go_ret
                  exact ⟨by first | rfl | (simp; done) | (simp [*]; done), by repeat (first | exact Drawn0.refl _ | apply Drawn0.step)⟩
              · replace c10 := Bool.eq_false_iff.mpr c10
                subst c10
                have H1 : (if a0 = 10 then (if a1 ≥ 1 then (some (decide (a1 ≤ 3))) else (some false)) else (if a0 = 22 then (if a1 ≥ 1 then (some (decide (a1 ≤ 2))) else (some false)) else (if a0 = 36 then (if a1 ≥ 0 then (some (decide (a1 ≤ 3))) else (some false)) else (if a1 ≥ 0 then (some (decide (a1 ≤ 2147483647))) else (some false))))) = some r := by rw [if_neg (show ¬ (false = true) by decide)] at H; exact H
                clear H
                have H := H1
                clear H1
                by_cases c12 : a0 = 10
                · rw [if_pos c12] at H
                  have c12b0 : (a0 == 10) = true := beq_iff_eq.mpr c12
                  have c12b1 : (a0 != 10) = false := bne_eq_false_iff_eq.mpr c12
                  clear c12
                  by_cases c13 : a1 ≥ 1
                  · rw [if_pos c13] at H
                    have c13b0 : decide (1 ≤ a1) = true := decide_eq_true c13
                    clear c13
                    obtain rfl := Option.some.inj H
                    go_wp2
                    go_ret
                    exact ⟨by first | rfl | (simp; done) | (simp [*]; done), by repeat (first | exact Drawn0.refl _ | apply Drawn0.step)⟩
                  · rw [if_neg c13] at H
                    have c13b0 : decide (1 ≤ a1) = false := decide_eq_false c13
                    clear c13
                    obtain rfl := Option.some.inj H
                    go_wp2
                    go_ret
                    exact ⟨by first | rfl | (simp; done) | (simp [*]; done), by repeat (first | exact Drawn0.refl _ | apply Drawn0.step)⟩
                · rw [if_neg c12] at H
                  have c12b0 : (a0 == 10) = false := beq_eq_false_iff_ne.mpr c12
                  have c12b1 : (a0 != 10) = true := bne_iff_ne.mpr c12
                  by_cases c14 : a0 = 22
                  · rw [if_pos c14] at H
                    have c14b0 : (a0 == 22) = true := beq_iff_eq.mpr c14
                    have c14b1 : (a0 != 22) = false := bne_eq_false_iff_eq.mpr c14
                    clear c14
                    by_cases c15 : a1 ≥ 1
                    · rw [if_pos c15] at H
                      have c15b0 : decide (1 ≤ a1) = true := decide_eq_true c15
                      clear c15
                      obtain rfl := Option.some.inj H
                      go_wp2
                      go_ret
                      exact ⟨by first | rfl | (simp; done) | (simp [*]; done), by repeat (first | exact Drawn0.refl _ | apply Drawn0.step)⟩
                    · rw [if_neg c15] at H
                      have c15b0 : decide (1 ≤ a1) = false := decide_eq_false c15
                      clear c15
                      obtain rfl := Option.some.inj H
                      go_wp2
                      go_ret
                      exact ⟨by first | rfl | (simp; done) | (simp [*]; done), by repeat (first | exact Drawn0.refl _ | apply Drawn0.step)⟩
                  · rw [if_neg c14] at H
                    have c14b0 : (a0 == 22) = false := beq_eq_false_iff_ne.mpr c14
                    have c14b1 : (a0 != 22) = true := bne_iff_ne.mpr c14
                    by_cases c16 : a0 = 36
                    · rw [if_pos c16] at H
                      have c16b0 : (a0 == 36) = true := beq_iff_eq.mpr c16
                      have c16b1 : (a0 != 36) = false := bne_eq_false_iff_eq.mpr c16
                      clear c16
                      by_cases c17 : a1 ≥ 0
                      · rw [if_pos c17] at H
                        have c17b0 : decide (0 ≤ a1) = true := decide_eq_true c17
                        clear c17
                        obtain rfl := Option.some.inj H
                        go_wp2
                        go_ret
                        exact ⟨by first | rfl | (simp; done) | (simp [*]; done), by repeat (first | exact Drawn0.refl _ | apply Drawn0.step)⟩
                      · rw [if_neg c17] at H
                        have c17b0 : decide (0 ≤ a1) = false := decide_eq_false c17
                        clear c17
                        obtain rfl := Option.some.inj H
                        go_wp2
                        go_ret
                        exact ⟨by first | rfl | (simp; done) | (simp [*]; done), by repeat (first | exact Drawn0.refl _ | apply Drawn0.step)⟩
                    · rw [if_neg c16] at H
                      have c16b0 : (a0 == 36) = false := beq_eq_false_iff_ne.mpr c16
                      have c16b1 : (a0 != 36) = true := bne_iff_ne.mpr c16
                      by_cases c18 : a1 ≥ 0
                      · rw [if_pos c18] at H
                        have c18b0 : decide (0 ≤ a1) = true := decide_eq_true c18
                        clear c18
                        obtain rfl := Option.some.inj H
                        go_wp2
                        go_ret
                        exact ⟨by first | rfl | (simp; done) | (simp [*]; done), by repeat (first | exact Drawn0.refl _ | apply Drawn0.step)⟩
                      · rw [if_neg c18] at H
                        have c18b0 : decide (0 ≤ a1) = false := decide_eq_false c18
                        clear c18
                        obtain rfl := Option.some.inj H
                        go_wp2
                        go_ret
                        exact ⟨by first | rfl | (simp; done) | (simp [*]; done), by repeat (first | exact Drawn0.refl _ | apply Drawn0.step)⟩

end Go.Proofs.Ythbgoecgfoglnaa.PA
