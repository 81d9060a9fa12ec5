/- The table of instructions (isa.table) and isa.of: what they come to. No condition. -/
import Derived.Below
import Derived.Deep.Draws
import Derived.Deep.AppendLies
import Derived.Maps.AppendAt
import Derived.OwnWalk
import Derived.Laws.BytesArg
import Derived.Laws.MakeOwn
import Derived.Laws.OwnMore
import Derived.Deep.OwnRows
import Derived.Tactics
import Derived.Lib.ConvBytes
import Derived.Laws.Slices
import Derived.WalkKit
import Derived.KernelRfl
import Derived.RowKit3
import Derived.Deep.LoopGhost
import Derived.Deep.QuietTactic
import Derived.BigQuiet
import Derived.WideLaws
import Derived.Deep.DeepCutAuto
import Derived.Deep.CutBlock
import Derived.Deep.RegionHeld3
import Derived.Laws.Rows
import Derived.Lib.AppendStr
import Derived.ArgAppend
import Derived.Laws.IdiomCopy
import Derived.OrdersHeld
import Derived.Laws.BitsLemmas
import Derived.RowKit
import Derived.Test.YthbgoecgfoglnaaProg
import Derived.Test.YthbgoecgfoglnaaWWords
import Derived.Test.YthbgoecgfoglnaaWLast
import Derived.Test.YthbgoecgfoglnaaWMore
import Derived.Great.Walk
import Derived.Great.BuildSlice
import Derived.Deep.WholeRow
import Derived.Laws.NewBlocks
namespace Go.Proofs.Ythbgoecgfoglnaa.Own
open Go.RowKit Go.Proofs.YthbgoecgfoglnaaW.PrintWords Go.Proofs.YthbgoecgfoglnaaW.PrintLast Go.Proofs.YthbgoecgfoglnaaW.PrintMore
structure Has where
  name : ByteArray
  d : Bool
  a : Bool
  b : Bool
  x : Bool
  n : Int
def Has.cells (h : Has) : Array Value := #[.string h.name, .bool h.d, .bool h.a, .bool h.b, .bool h.x, .int .i64 h.n]
def hasZ : Has := ⟨⟨#[]⟩, false, false, false, false, 0⟩
def hasRows : List Has := [
  ⟨⟨#[110, 111, 112]⟩, false, false, false, false, 0⟩,
  ⟨⟨#[99, 111, 110, 115, 116]⟩, true, false, false, false, 1⟩,
  ⟨⟨#[109, 111, 118, 101]⟩, true, true, false, false, 0⟩,
  ⟨⟨#[115, 112, 105, 108, 108]⟩, false, true, false, false, 2⟩,
  ⟨⟨#[102, 105, 108, 108]⟩, true, false, false, false, 2⟩,
  ⟨⟨#[105, 50]⟩, true, true, true, false, 3⟩,
  ⟨⟨#[108, 50]⟩, true, true, true, false, 3⟩,
  ⟨⟨#[105, 110, 101, 103]⟩, true, true, false, false, 0⟩,
  ⟨⟨#[108, 110, 101, 103]⟩, true, true, false, false, 0⟩,
  ⟨⟨#[108, 50, 105]⟩, true, true, false, false, 0⟩,
  ⟨⟨#[110, 97, 114, 114, 111, 119]⟩, true, true, false, false, 4⟩,
  ⟨⟨#[108, 99, 109, 112]⟩, true, true, true, false, 0⟩,
  ⟨⟨#[103, 101, 116, 115, 116, 97, 116]⟩, true, false, false, false, 7⟩,
  ⟨⟨#[112, 117, 116, 115, 116, 97, 116]⟩, false, true, false, false, 7⟩,
  ⟨⟨#[103, 101, 116, 102, 108, 100]⟩, true, true, false, false, 7⟩,
  ⟨⟨#[112, 117, 116, 102, 108, 100]⟩, false, true, true, false, 7⟩,
  ⟨⟨#[97, 108, 111, 97, 100]⟩, true, true, true, false, 0⟩,
  ⟨⟨#[97, 115, 116, 111, 114, 101]⟩, true, true, true, false, 0⟩,
  ⟨⟨#[108, 101, 110, 103, 116, 104]⟩, true, true, false, false, 0⟩,
  ⟨⟨#[110, 101, 119]⟩, true, false, false, false, 7⟩,
  ⟨⟨#[110, 101, 119, 97, 114, 114]⟩, true, true, false, false, 7⟩,
  ⟨⟨#[105, 115]⟩, true, true, false, false, 7⟩,
  ⟨⟨#[111, 117, 116]⟩, false, true, false, false, 5⟩,
  ⟨⟨#[105, 110]⟩, true, false, false, false, 0⟩,
  ⟨⟨#[106, 117, 109, 112]⟩, false, false, false, false, 7⟩,
  ⟨⟨#[98, 114, 97, 110, 99, 104]⟩, true, true, true, false, 7⟩,
  ⟨⟨#[110, 111, 116, 110, 117, 108, 108]⟩, false, true, false, true, 0⟩,
  ⟨⟨#[110, 111, 116, 122, 101, 114, 111]⟩, false, true, false, true, 0⟩,
  ⟨⟨#[110, 111, 116, 110, 101, 103]⟩, false, true, false, true, 0⟩,
  ⟨⟨#[98, 111, 117, 110, 100, 115]⟩, false, true, true, true, 0⟩,
  ⟨⟨#[99, 108, 97, 115, 115]⟩, false, true, false, true, 7⟩,
  ⟨⟨#[102, 105, 116, 115]⟩, false, true, false, true, 7⟩,
  ⟨⟨#[115, 116, 111, 114, 101, 115]⟩, false, true, true, true, 0⟩,
  ⟨⟨#[97, 114, 103]⟩, false, true, false, false, 0⟩,
  ⟨⟨#[99, 97, 108, 108]⟩, true, false, false, true, 7⟩,
  ⟨⟨#[118, 105, 114, 116]⟩, true, false, false, true, 7⟩,
  ⟨⟨#[114, 101, 116, 117, 114, 110]⟩, false, true, false, false, 6⟩,
  ⟨⟨#[101, 120, 105, 116]⟩, false, false, false, true, 0⟩]
def tblCells : Array Value := (hasRows.flatMap fun h => h.cells.toList).toArray
def hasAt (op : Int) : Has := hasRows.getD op.toNat hasZ


theorem infoT : (Try.prog.info? 71).map (·.size) = some tblCells.size := by kernel_rfl
theorem tbl_one : tblCells.all (·.oneCell') = true := by kernel_rfl
theorem tbl_zero : Try.zeroCells71.size = tblCells.size := by kernel_rfl
set_option maxHeartbeats 8000000 in
set_option maxRecDepth 100000 in
theorem table_calls (w : World) : Calls Try.prog 45 #[] w fun e w' => e = .returned (.agg tblCells) ∧ Below w.heap.size w w' := by
  go_enter Try.func45, Try.ntmps45
  refine wp_seq ?_
  refine wp_region_lit ?_
  refine wpList_plain rfl fun K hK => ?_
  go_simp
  refine hK _ _ ?_
  refine wpList_nil ?_
  show Code.wp _ _ _ _ _
  refine wp_seq ?_
  refine wp_region_lit ?_
  refine wpList_buildTo rfl 58 _ rfl (some 1) rfl #[(.string ⟨#[110, 111, 112]⟩), (.bool false), (.bool false), (.bool false), (.bool false), (.int .i64 0)] (by kernel_rfl) ?_
  refine wpList_buildTo rfl 58 _ rfl (some 2) rfl #[(.string ⟨#[99, 111, 110, 115, 116]⟩), (.bool true), (.bool false), (.bool false), (.bool false), (.int .i64 1)] (by kernel_rfl) ?_
  refine wpList_buildTo rfl 58 _ rfl (some 3) rfl #[(.string ⟨#[109, 111, 118, 101]⟩), (.bool true), (.bool true), (.bool false), (.bool false), (.int .i64 0)] (by kernel_rfl) ?_
  refine wpList_buildTo rfl 58 _ rfl (some 4) rfl #[(.string ⟨#[115, 112, 105, 108, 108]⟩), (.bool false), (.bool true), (.bool false), (.bool false), (.int .i64 2)] (by kernel_rfl) ?_
  refine wpList_buildTo rfl 58 _ rfl (some 5) rfl #[(.string ⟨#[102, 105, 108, 108]⟩), (.bool true), (.bool false), (.bool false), (.bool false), (.int .i64 2)] (by kernel_rfl) ?_
  refine wpList_buildTo rfl 58 _ rfl (some 6) rfl #[(.string ⟨#[105, 50]⟩), (.bool true), (.bool true), (.bool true), (.bool false), (.int .i64 3)] (by kernel_rfl) ?_
  refine wpList_buildTo rfl 58 _ rfl (some 7) rfl #[(.string ⟨#[108, 50]⟩), (.bool true), (.bool true), (.bool true), (.bool false), (.int .i64 3)] (by kernel_rfl) ?_
  refine wpList_buildTo rfl 58 _ rfl (some 8) rfl #[(.string ⟨#[105, 110, 101, 103]⟩), (.bool true), (.bool true), (.bool false), (.bool false), (.int .i64 0)] (by kernel_rfl) ?_
  refine wpList_buildTo rfl 58 _ rfl (some 9) rfl #[(.string ⟨#[108, 110, 101, 103]⟩), (.bool true), (.bool true), (.bool false), (.bool false), (.int .i64 0)] (by kernel_rfl) ?_
  refine wpList_buildTo rfl 58 _ rfl (some 10) rfl #[(.string ⟨#[108, 50, 105]⟩), (.bool true), (.bool true), (.bool false), (.bool false), (.int .i64 0)] (by kernel_rfl) ?_
  refine wpList_buildTo rfl 58 _ rfl (some 11) rfl #[(.string ⟨#[110, 97, 114, 114, 111, 119]⟩), (.bool true), (.bool true), (.bool false), (.bool false), (.int .i64 4)] (by kernel_rfl) ?_
  refine wpList_buildTo rfl 58 _ rfl (some 12) rfl #[(.string ⟨#[108, 99, 109, 112]⟩), (.bool true), (.bool true), (.bool true), (.bool false), (.int .i64 0)] (by kernel_rfl) ?_
  refine wpList_buildTo rfl 58 _ rfl (some 13) rfl #[(.string ⟨#[103, 101, 116, 115, 116, 97, 116]⟩), (.bool true), (.bool false), (.bool false), (.bool false), (.int .i64 7)] (by kernel_rfl) ?_
  refine wpList_buildTo rfl 58 _ rfl (some 14) rfl #[(.string ⟨#[112, 117, 116, 115, 116, 97, 116]⟩), (.bool false), (.bool true), (.bool false), (.bool false), (.int .i64 7)] (by kernel_rfl) ?_
  refine wpList_buildTo rfl 58 _ rfl (some 15) rfl #[(.string ⟨#[103, 101, 116, 102, 108, 100]⟩), (.bool true), (.bool true), (.bool false), (.bool false), (.int .i64 7)] (by kernel_rfl) ?_
  refine wpList_buildTo rfl 58 _ rfl (some 16) rfl #[(.string ⟨#[112, 117, 116, 102, 108, 100]⟩), (.bool false), (.bool true), (.bool true), (.bool false), (.int .i64 7)] (by kernel_rfl) ?_
  refine wpList_buildTo rfl 58 _ rfl (some 17) rfl #[(.string ⟨#[97, 108, 111, 97, 100]⟩), (.bool true), (.bool true), (.bool true), (.bool false), (.int .i64 0)] (by kernel_rfl) ?_
  refine wpList_buildTo rfl 58 _ rfl (some 18) rfl #[(.string ⟨#[97, 115, 116, 111, 114, 101]⟩), (.bool true), (.bool true), (.bool true), (.bool false), (.int .i64 0)] (by kernel_rfl) ?_
  refine wpList_buildTo rfl 58 _ rfl (some 19) rfl #[(.string ⟨#[108, 101, 110, 103, 116, 104]⟩), (.bool true), (.bool true), (.bool false), (.bool false), (.int .i64 0)] (by kernel_rfl) ?_
  refine wpList_buildTo rfl 58 _ rfl (some 20) rfl #[(.string ⟨#[110, 101, 119]⟩), (.bool true), (.bool false), (.bool false), (.bool false), (.int .i64 7)] (by kernel_rfl) ?_
  refine wpList_buildTo rfl 58 _ rfl (some 21) rfl #[(.string ⟨#[110, 101, 119, 97, 114, 114]⟩), (.bool true), (.bool true), (.bool false), (.bool false), (.int .i64 7)] (by kernel_rfl) ?_
  refine wpList_buildTo rfl 58 _ rfl (some 22) rfl #[(.string ⟨#[105, 115]⟩), (.bool true), (.bool true), (.bool false), (.bool false), (.int .i64 7)] (by kernel_rfl) ?_
  refine wpList_buildTo rfl 58 _ rfl (some 23) rfl #[(.string ⟨#[111, 117, 116]⟩), (.bool false), (.bool true), (.bool false), (.bool false), (.int .i64 5)] (by kernel_rfl) ?_
  refine wpList_buildTo rfl 58 _ rfl (some 24) rfl #[(.string ⟨#[105, 110]⟩), (.bool true), (.bool false), (.bool false), (.bool false), (.int .i64 0)] (by kernel_rfl) ?_
  refine wpList_buildTo rfl 58 _ rfl (some 25) rfl #[(.string ⟨#[106, 117, 109, 112]⟩), (.bool false), (.bool false), (.bool false), (.bool false), (.int .i64 7)] (by kernel_rfl) ?_
  refine wpList_buildTo rfl 58 _ rfl (some 26) rfl #[(.string ⟨#[98, 114, 97, 110, 99, 104]⟩), (.bool true), (.bool true), (.bool true), (.bool false), (.int .i64 7)] (by kernel_rfl) ?_
  refine wpList_buildTo rfl 58 _ rfl (some 27) rfl #[(.string ⟨#[110, 111, 116, 110, 117, 108, 108]⟩), (.bool false), (.bool true), (.bool false), (.bool true), (.int .i64 0)] (by kernel_rfl) ?_
  refine wpList_buildTo rfl 58 _ rfl (some 28) rfl #[(.string ⟨#[110, 111, 116, 122, 101, 114, 111]⟩), (.bool false), (.bool true), (.bool false), (.bool true), (.int .i64 0)] (by kernel_rfl) ?_
  refine wpList_buildTo rfl 58 _ rfl (some 29) rfl #[(.string ⟨#[110, 111, 116, 110, 101, 103]⟩), (.bool false), (.bool true), (.bool false), (.bool true), (.int .i64 0)] (by kernel_rfl) ?_
  refine wpList_buildTo rfl 58 _ rfl (some 30) rfl #[(.string ⟨#[98, 111, 117, 110, 100, 115]⟩), (.bool false), (.bool true), (.bool true), (.bool true), (.int .i64 0)] (by kernel_rfl) ?_
  refine wpList_buildTo rfl 58 _ rfl (some 31) rfl #[(.string ⟨#[99, 108, 97, 115, 115]⟩), (.bool false), (.bool true), (.bool false), (.bool true), (.int .i64 7)] (by kernel_rfl) ?_
  refine wpList_buildTo rfl 58 _ rfl (some 32) rfl #[(.string ⟨#[102, 105, 116, 115]⟩), (.bool false), (.bool true), (.bool false), (.bool true), (.int .i64 7)] (by kernel_rfl) ?_
  refine wpList_buildTo rfl 58 _ rfl (some 33) rfl #[(.string ⟨#[115, 116, 111, 114, 101, 115]⟩), (.bool false), (.bool true), (.bool true), (.bool true), (.int .i64 0)] (by kernel_rfl) ?_
  refine wpList_buildTo rfl 58 _ rfl (some 34) rfl #[(.string ⟨#[97, 114, 103]⟩), (.bool false), (.bool true), (.bool false), (.bool false), (.int .i64 0)] (by kernel_rfl) ?_
  refine wpList_buildTo rfl 58 _ rfl (some 35) rfl #[(.string ⟨#[99, 97, 108, 108]⟩), (.bool true), (.bool false), (.bool false), (.bool true), (.int .i64 7)] (by kernel_rfl) ?_
  refine wpList_buildTo rfl 58 _ rfl (some 36) rfl #[(.string ⟨#[118, 105, 114, 116]⟩), (.bool true), (.bool false), (.bool false), (.bool true), (.int .i64 7)] (by kernel_rfl) ?_
  refine wpList_buildTo rfl 58 _ rfl (some 37) rfl #[(.string ⟨#[114, 101, 116, 117, 114, 110]⟩), (.bool false), (.bool true), (.bool false), (.bool false), (.int .i64 6)] (by kernel_rfl) ?_
  refine wpList_buildTo rfl 58 _ rfl (some 38) rfl #[(.string ⟨#[101, 120, 105, 116]⟩), (.bool false), (.bool false), (.bool false), (.bool true), (.int .i64 0)] (by kernel_rfl) ?_
  refine wpList_buildTo rfl 71 _ rfl (some 39) rfl tblCells (by kernel_rfl) ?_
  refine wpList_store_rowTo rfl 71 (.tmp 0) (.tmp 39) rfl rfl w.heap.size tblCells (by kernel_rfl) (by kernel_rfl) 71 Try.zeroCells71 (heap_alloc_new _ _) infoT tbl_zero tbl_one ?_
  refine wpList_nil ?_
  show Code.wp _ _ _ _ _
  refine wp_ret ?_
  show bodyPost _ _ _ .ret _ _
  refine bodyPost_ret (results_cell_row rfl _ _ w.heap.size 71 tblCells (0,0) _ (by kernel_rfl) ?hh Try.underlying71 rfl infoT) (by kernel_rfl) ⟨rfl, ?_⟩
  case hh => rw [World.setRow_alloc_new]; exact heap_alloc_new _ _
  rw [World.setRow_alloc_new]; exact below_alloc (Below.refl _ _) _


theorem idx_at (op : Int) (h0 : 0 ≤ op) (h1 : op ≤ 37) (w : World) : (Instr.index 71 (.agg tblCells) (.int .i64 op)).run Try.prog w = .ok (.agg #[.string (hasAt op).name, .bool (hasAt op).d, .bool (hasAt op).a, .bool (hasAt op).b, .bool (hasAt op).x, .int .i64 (hasAt op).n]) w := by
  have hh : op = 0 ∨ op = 1 ∨ op = 2 ∨ op = 3 ∨ op = 4 ∨ op = 5 ∨ op = 6 ∨ op = 7 ∨ op = 8 ∨ op = 9 ∨ op = 10 ∨ op = 11 ∨ op = 12 ∨ op = 13 ∨ op = 14 ∨ op = 15 ∨ op = 16 ∨ op = 17 ∨ op = 18 ∨ op = 19 ∨ op = 20 ∨ op = 21 ∨ op = 22 ∨ op = 23 ∨ op = 24 ∨ op = 25 ∨ op = 26 ∨ op = 27 ∨ op = 28 ∨ op = 29 ∨ op = 30 ∨ op = 31 ∨ op = 32 ∨ op = 33 ∨ op = 34 ∨ op = 35 ∨ op = 36 ∨ op = 37 := by omega
  rcases hh with rfl | rfl | rfl | rfl | rfl | rfl | rfl | rfl | rfl | rfl | rfl | rfl | rfl | rfl | rfl | rfl | rfl | rfl | rfl | rfl | rfl | rfl | rfl | rfl | rfl | rfl | rfl | rfl | rfl | rfl | rfl | rfl | rfl | rfl | rfl | rfl | rfl | rfl <;> (show (_ : Result Value) = _; kernel_rfl)

theorem bcell {W w1 : World} (hb : Below W.heap.size W w1) : (∀ b o, b < W.heap.size → w1.cell? ⟨b, o, none⟩ = W.cell? ⟨b, o, none⟩) ∧ (∀ b o, b < W.heap.size → w1.frozen? ⟨b, o, none⟩ = W.frozen? ⟨b, o, none⟩) :=
  ⟨fun b o h => hb.cell (p := ⟨b, o, none⟩) h, fun b o h => hb.frozen (p := ⟨b, o, none⟩) h⟩

set_option maxHeartbeats 8000000 in
set_option maxRecDepth 100000 in
theorem of_in (op : Int) (w : World) (h0 : 0 ≤ op) (h1 : op ≤ 37) : Calls Try.prog 35 #[.int .i64 op] w fun e w' => e = .returned (.tuple #[.agg #[.string (hasAt op).name, .bool (hasAt op).d, .bool (hasAt op).a, .bool (hasAt op).b, .bool (hasAt op).x, .int .i64 (hasAt op).n], .bool true]) ∧ Below w.heap.size w w' := by
  go_enter Try.func35, Try.ntmps35
  have hb1 : decide (op < 0) = false := by simp; omega
  have hb2 : decide (37 < op) = false := by simp; omega
  have hix := idx_at op h0 h1
  go_wp2_with (first | (go_at_call 45; refine (table_calls _).mono ?_; rintro e w' ⟨rfl, hb⟩; obtain ⟨hc, hf⟩ := bcell hb))
  refine bodyPost_ret (v := .tuple #[.agg #[.string (hasAt op).name, .bool (hasAt op).d, .bool (hasAt op).a, .bool (hasAt op).b, .bool (hasAt op).x, .int .i64 (hasAt op).n], .bool true]) (by simp [results, Try.results35, go_sem, hc]) rfl ⟨rfl, ?_⟩
  exact (((((((below_step (below_alloc (Below.refl _ _) _) hb).setCell (Nat.le_refl _) _).setCell (Nat.le_refl _) _).setCell (Nat.le_refl _) _).setCell (Nat.le_refl _) _).setCell (Nat.le_refl _) _).setCell (Nat.le_refl _) _)
set_option maxHeartbeats 8000000 in
set_option maxRecDepth 100000 in
theorem of_out (op : Int) (w : World) (h : op < 0 ∨ 37 < op) : Calls Try.prog 35 #[.int .i64 op] w fun e w' => e = .returned (.tuple #[.agg #[.string ⟨#[]⟩, .bool false, .bool false, .bool false, .bool false, .int .i64 0], .bool false]) ∧ Below w.heap.size w w' := by
  go_enter Try.func35, Try.ntmps35
  rcases h with h | h
  · have hb1 : decide (op < 0) = true := by simp; omega
    go_wp2
    refine bodyPost_ret (v := .tuple #[.agg #[.string ⟨#[]⟩, .bool false, .bool false, .bool false, .bool false, .int .i64 0], .bool false]) (by simp [results, Try.results35, go_sem]) rfl ⟨rfl, ?_⟩
    exact below_alloc (Below.refl _ _) _
  · have hb1 : decide (op < 0) = false := by simp; omega
    have hb2 : decide (37 < op) = true := by simp; omega
    go_wp2
    refine bodyPost_ret (v := .tuple #[.agg #[.string ⟨#[]⟩, .bool false, .bool false, .bool false, .bool false, .int .i64 0], .bool false]) (by simp [results, Try.results35, go_sem]) rfl ⟨rfl, ?_⟩
    exact below_alloc (Below.refl _ _) _

def isa_of.f (a0 : Int) : Option (ByteArray × Bool × Bool × Bool × Bool × Int × Bool) :=
  some (if 0 ≤ a0 ∧ a0 ≤ 37 then ((hasAt a0).name, (hasAt a0).d, (hasAt a0).a, (hasAt a0).b, (hasAt a0).x, (hasAt a0).n, true) else (⟨#[]⟩, false, false, false, false, 0, false))
theorem isa_of.calls (a0 : Int) (r1 : ByteArray) (r2 r3 r4 r5 : Bool) (r6 : Int) (r7 : Bool) (w : World) (h : isa_of.f a0 = some (r1, r2, r3, r4, r5, r6, r7)) :
    Calls Try.prog 35 #[.int .i64 a0] w fun e w' => e = .returned (.tuple #[.agg #[.string r1, .bool r2, .bool r3, .bool r4, .bool r5, .int .i64 r6], .bool r7]) ∧ Below w.heap.size w w' := by
  unfold isa_of.f at h
  by_cases hc : 0 ≤ a0 ∧ a0 ≤ 37
  · rw [if_pos hc] at h
    simp only [Option.some.injEq, Prod.mk.injEq] at h
    obtain ⟨rfl, rfl, rfl, rfl, rfl, rfl, rfl⟩ := h
    exact of_in a0 w hc.1 hc.2
  · rw [if_neg hc] at h
    simp only [Option.some.injEq, Prod.mk.injEq] at h
    obtain ⟨rfl, rfl, rfl, rfl, rfl, rfl, rfl⟩ := h
    exact of_out a0 w (by omega)
end Go.Proofs.Ythbgoecgfoglnaa.Own
