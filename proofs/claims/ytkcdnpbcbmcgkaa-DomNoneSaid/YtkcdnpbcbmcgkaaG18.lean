/- The engine and the contracts, part 18. No condition beyond the hypotheses of each theorem. -/
import Derived.Test.YtkcdnpbcbmcgkaaG17
/- DomNone. -/
set_option linter.unusedVariables false
namespace Go.Dm
open Go Go.Sx Go.Sy Go.RowKit Go.Proofs.DomP

noncomputable def dnA : AFr := hd P 7 [.r, .r, .l, .r, .i]

noncomputable def dnB : AFr := hd P 7 [.r, .r, .r, .r, .r, .r, .r, .l, .r, .i]

noncomputable def dnC : AFr := hd P 7 [.r, .r, .r, .r, .r, .r, .r, .l, .r, .i, .i, .r, .r, .l, .i, .r, .r, .i]

noncomputable def dnD : AFr := hd P 7 [.r, .r, .r, .r, .r, .r, .r, .r, .r, .l, .r, .i]

theorem nn0 (w0 : World) (K : AM → Prop) (Kr : AV → AH → Prop) (below : List AFr) (v : AV) (n : Int) (H : AH) (Q : AH → Prop) : (trun P w0 7 K Kr 600 0 [] ⟨frOf P 7 [v, .int .i64 n], below, H⟩ (.call Unit (fun _ => False) (fun _ => .bool true) (fun _ => Q) (fun _ H1 => (.ff .stop)))) = (True ∧ (Ret P w0 8 [] H (fun (x : Nat) ↦ False) fun (v : AV) (H' : AH) ↦ ∃ (x : Unit), v = AV.bool true ∧ Q H') ∧ Pok H (fun (x : Nat) ↦ False) (stackPend below) ∧ ∀ (x : Unit) (H' : AH), Q H' → (!true) = false ∧ True ∧ True ∧ K (AM.mk (w dnA (tl [v, AV.int IntKind.i64 n, AV.tuple [], AV.tuple [], AV.bool false, AV.tuple [], AV.tuple [], AV.tuple [], AV.tuple [], AV.tuple [], AV.tuple [], AV.tuple [], AV.tuple [], AV.tuple [], AV.tuple [], AV.tuple [], AV.tuple [], AV.bool true, AV.bool false, AV.agg [AV.nslice 0 0, AV.nslice 0 0, AV.nslice 0 0, AV.nmap, AV.nslice 0 0], AV.ptr (AH.nx H') 0, AV.slice (AH.nx H' + 1) 0 2 2, AV.int IntKind.i64 (↑2 : Int), AV.int IntKind.i64 (0 : Int), AV.tuple [], AV.tuple [], AV.tuple [], AV.tuple [], AV.tuple [], AV.tuple [], AV.tuple [], AV.tuple [], AV.tuple [], AV.tuple [], AV.tuple [], AV.tuple [], AV.tuple [], AV.tuple [], AV.tuple [], AV.tuple [], AV.tuple [], AV.tuple [], AV.tuple [], AV.tuple [], AV.tuple [], AV.tuple [], AV.tuple [], AV.tuple [], AV.tuple [], AV.tuple [], AV.tuple [], AV.tuple [], AV.tuple [], AV.tuple [], AV.tuple [], AV.tuple [], AV.tuple [], AV.tuple [], AV.tuple [], AV.tuple [], AV.tuple [], AV.tuple [], AV.tuple [], AV.tuple [], AV.tuple [], AV.tuple [], AV.tuple [], AV.tuple [], AV.tuple [], AV.tuple [], AV.tuple [], AV.tuple [], AV.tuple [], AV.tuple [], AV.tuple [], AV.tuple [], AV.tuple [], AV.tuple [], AV.tuple [], AV.tuple [], AV.tuple [], AV.tuple [], AV.tuple [], AV.tuple [], AV.tuple [], AV.tuple [], AV.tuple [], AV.tuple [], AV.tuple [], AV.tuple [], AV.tuple [], AV.tuple [], AV.tuple [], AV.tuple [], AV.tuple [], AV.tuple [], AV.tuple [], AV.tuple [], AV.tuple [], AV.tuple [], AV.tuple [], AV.tuple [], AV.tuple [], AV.tuple [], AV.tuple [], AV.tuple [], AV.tuple [], AV.tuple [], AV.tuple [], AV.tuple [], AV.tuple [], AV.tuple [], AV.tuple [], AV.tuple [], AV.tuple [], AV.tuple [], AV.tuple [], AV.tuple [], AV.tuple [], AV.tuple [], AV.tuple [], AV.tuple [], AV.tuple [], AV.tuple [], AV.tuple [], AV.tuple [], AV.tuple [], AV.tuple [], AV.tuple [], AV.tuple [], AV.tuple [], AV.tuple [], AV.tuple [], AV.tuple [], AV.tuple [], AV.tuple [], AV.tuple [], AV.tuple [], AV.tuple [], AV.tuple [], AV.tuple [], AV.tuple [], AV.tuple [], AV.tuple [], AV.tuple [], AV.tuple [], AV.tuple [], AV.tuple [], AV.tuple [], AV.tuple [], AV.tuple [], AV.tuple [], AV.tuple [], AV.tuple [], AV.tuple [], AV.tuple [], AV.tuple [], AV.tuple [], AV.tuple []])) below (AH.new (AH.new H' (AObj.row [AV.nslice 0 0, AV.nslice 0 0, AV.nslice 0 0, AV.nmap, AV.nslice 0 0] 52 true (St.own none))) (AObj.row [AV.nptr, AV.ptr (AH.nx H') 0] 24 true (St.own none))))) := by kernel_rfl

set_option maxRecDepth 100000 in
theorem nnN (w0 : World) (K : AM → Prop) (Kr : AV → AH → Prop) (below : List AFr) (z : Nat → AV) (v : AV) (n : Int) (s : Nat) (H : AH) : (trun P w0 7 K Kr 600 0 [] ⟨w dnA (setL (tz 159 z) [(0, v), (1, .int .i64 n), (21, .slice s 0 2 2), (22, .int .i64 2), (23, .int .i64 0)]), below, H⟩ (.tt (.v .nptr (.call Unit (fun _ => False) (fun _ => .int .i64 0) (fun _ H' => H' = H) (fun _ _ => (.ff (.call Unit (fun _ => False) (fun _ => .bool false) (fun _ H' => H' = H) (fun _ _ => (.ff (.ff (.call Unit (fun _ => False) (fun _ => .nslice 0 0) (fun _ H' => H' = H) (fun _ _ => (.ln 0 (.ff (.ff (.call Unit (fun _ => False) (fun _ => .int .i64 (-1)) (fun _ H' => H' = H) (fun _ _ => (.ff (.ff (.call Unit (fun _ => False) (fun _ => .bool false) (fun _ H' => H' = H) (fun _ _ => (.ff (.ff (.call Unit (fun _ => False) (fun _ => .nslice 0 0) (fun _ H' => H' = H) (fun _ _ => (.ln 0 (.ff (.ff (.call Unit (fun _ => False) (fun _ => .nslice 0 0) (fun _ H' => H' = H) (fun _ _ => (.ln 0 (.ff (.ff (.call Unit (fun _ => False) (fun _ => .nslice 0 0) (fun _ H' => H' = H) (fun _ _ => (.ln 0 (.ff (.ff (.call Unit (fun _ => False) (fun _ => .int .i64 0) (fun _ H' => H' = H) (fun _ _ => (.ff (.ff (.call Unit (fun _ => False) (fun _ => .nslice 0 0) (fun _ H' => H' = AH.new H (.row [.int .i64 n] 3 true (.own none))) (fun _ H2 => (.ln 0 (.ff (.ff (.into (.ff (.call Unit (fun _ => False) (fun _ => .bool true) (fun _ H' => H' = AH.new H2 (.row [.nptr] 24 true (.own none))) (fun _ _ => (.ff (.ff .stop))))))))))))))))))))))))))))))))))))))))))))))))))))) = (decide ((0 : Int) < (2 : Int)) = true ∧ ((0 : Int) ≤ (0 : Int) ∧ (0 : Int) < (↑2 : Int)) ∧ rdAt H s 0 = some AV.nptr ∧ True ∧ (Ret P w0 11 [AV.nptr] H (fun (x : Nat) ↦ False) fun (v : AV) (H' : AH) ↦ ∃ (x : Unit), v = AV.int IntKind.i64 (0 : Int) ∧ H' = H) ∧ Pok H (fun (x : Nat) ↦ False) (stackPend below) ∧ ∀ (x : Unit) (H' : AH), H' = H → ((0 : Int) != (0 : Int)) = false ∧ True ∧ (Ret P w0 12 [AV.nptr, AV.int IntKind.i64 n] H' (fun (x : Nat) ↦ False) fun (v : AV) (H' : AH) ↦ ∃ (x : Unit), v = AV.bool false ∧ H' = H) ∧ Pok H' (fun (x : Nat) ↦ False) (stackPend below) ∧ ∀ (x : Unit) (H' : AH), H' = H → false = false ∧ false = false ∧ True ∧ (Ret P w0 14 [AV.nptr] H' (fun (x : Nat) ↦ False) fun (v : AV) (H' : AH) ↦ ∃ (x : Unit), v = AV.nslice (0 : Nat) (0 : Nat) ∧ H' = H) ∧ Pok H' (fun (x : Nat) ↦ False) (stackPend below) ∧ ∀ (x : Unit) (H' : AH), H' = H → (some (AV.int IntKind.i64 (↑0 : Int), []) : Option (AV × List Nat)) = some (AV.int IntKind.i64 (↑0 : Int), []) ∧ false = false ∧ ((↑0 : Int) != (0 : Int)) = false ∧ True ∧ (Ret P w0 19 [AV.nptr, AV.int IntKind.i64 n] H' (fun (x : Nat) ↦ False) fun (v : AV) (H' : AH) ↦ ∃ (x : Unit), v = AV.int IntKind.i64 (-1 : Int) ∧ H' = H) ∧ Pok H' (fun (x : Nat) ↦ False) (stackPend below) ∧ ∀ (x : Unit) (H' : AH), H' = H → false = false ∧ ((-1 : Int) != (-1 : Int)) = false ∧ True ∧ (Ret P w0 17 [AV.nptr, AV.int IntKind.i64 n, AV.int IntKind.i64 n] H' (fun (x : Nat) ↦ False) fun (v : AV) (H' : AH) ↦ ∃ (x : Unit), v = AV.bool false ∧ H' = H) ∧ Pok H' (fun (x : Nat) ↦ False) (stackPend below) ∧ ∀ (x : Unit) (H' : AH), H' = H → false = false ∧ false = false ∧ True ∧ (Ret P w0 21 [AV.nptr, AV.int IntKind.i64 n] H' (fun (x : Nat) ↦ False) fun (v : AV) (H' : AH) ↦ ∃ (x : Unit), v = AV.nslice (0 : Nat) (0 : Nat) ∧ H' = H) ∧ Pok H' (fun (x : Nat) ↦ False) (stackPend below) ∧ ∀ (x : Unit) (H' : AH), H' = H → (some (AV.int IntKind.i64 (↑0 : Int), []) : Option (AV × List Nat)) = some (AV.int IntKind.i64 (↑0 : Int), []) ∧ false = false ∧ ((↑0 : Int) != (0 : Int)) = false ∧ True ∧ (Ret P w0 22 [AV.nptr, AV.int IntKind.i64 n] H' (fun (x : Nat) ↦ False) fun (v : AV) (H' : AH) ↦ ∃ (x : Unit), v = AV.nslice (0 : Nat) (0 : Nat) ∧ H' = H) ∧ Pok H' (fun (x : Nat) ↦ False) (stackPend below) ∧ ∀ (x : Unit) (H' : AH), H' = H → (some (AV.int IntKind.i64 (↑0 : Int), []) : Option (AV × List Nat)) = some (AV.int IntKind.i64 (↑0 : Int), []) ∧ false = false ∧ ((↑0 : Int) != (0 : Int)) = false ∧ True ∧ (Ret P w0 23 [AV.nptr, AV.int IntKind.i64 n] H' (fun (x : Nat) ↦ False) fun (v : AV) (H' : AH) ↦ ∃ (x : Unit), v = AV.nslice (0 : Nat) (0 : Nat) ∧ H' = H) ∧ Pok H' (fun (x : Nat) ↦ False) (stackPend below) ∧ ∀ (x : Unit) (H' : AH), H' = H → (some (AV.int IntKind.i64 (↑0 : Int), []) : Option (AV × List Nat)) = some (AV.int IntKind.i64 (↑0 : Int), []) ∧ false = false ∧ ((↑0 : Int) != (0 : Int)) = false ∧ True ∧ (Ret P w0 24 [AV.nptr, AV.int IntKind.i64 n] H' (fun (x : Nat) ↦ False) fun (v : AV) (H' : AH) ↦ ∃ (x : Unit), v = AV.int IntKind.i64 (0 : Int) ∧ H' = H) ∧ Pok H' (fun (x : Nat) ↦ False) (stackPend below) ∧ ∀ (x : Unit) (H' : AH), H' = H → false = false ∧ ((0 : Int) != (0 : Int)) = false ∧ True ∧ True ∧ (Ret P w0 25 [AV.nptr, AV.slice (AH.nx H') 0 1 1] (AH.new H' (AObj.row [AV.int IntKind.i64 n] 3 true (St.own none))) (fun (x : Nat) ↦ False) fun (v : AV) (H' : AH) ↦ ∃ (x : Unit), v = AV.nslice (0 : Nat) (0 : Nat) ∧ H' = AH.new H (AObj.row [AV.int IntKind.i64 n] (3 : TypeId) true (St.own none))) ∧ Pok (AH.new H' (AObj.row [AV.int IntKind.i64 n] 3 true (St.own none))) (fun (x : Nat) ↦ False) (stackPend below) ∧ ∀ (x : Unit) (H'_1 : AH), H'_1 = AH.new H (AObj.row [AV.int IntKind.i64 n] 3 true (St.own none)) → (some (AV.int IntKind.i64 (↑0 : Int), []) : Option (AV × List Nat)) = some (AV.int IntKind.i64 (↑0 : Int), []) ∧ false = false ∧ ((↑0 : Int) != (0 : Int)) = false ∧ True ∧ True ∧ false = false ∧ True ∧ (Ret P w0 26 [AV.func 50 [] [AV.ptr (AH.nx H'_1) 0], AV.nslice 0 0, AV.int IntKind.i64 (0 : Int)] (AH.new H'_1 (AObj.row [AV.nptr] 24 true (St.own none))) (fun (x : Nat) ↦ False) fun (v : AV) (H' : AH) ↦ ∃ (x : Unit), v = AV.bool true ∧ H' = AH.new H'_1 (AObj.row [AV.nptr] (24 : TypeId) true (St.own none))) ∧ Pok (AH.new H'_1 (AObj.row [AV.nptr] 24 true (St.own none))) (fun (x : Nat) ↦ False) (stackPend below) ∧ ∀ (x : Unit) (H'_2 : AH), H'_2 = AH.new H'_1 (AObj.row [AV.nptr] 24 true (St.own none)) → false = false ∧ (!true) = false ∧ K (AM.mk (w dnA (tl [v, AV.int IntKind.i64 n, z 2, z 3, z 4, z 5, AV.nptr, z 7, z 8, z 9, z 10, z 11, z 12, z 13, z 14, z 15, z 16, z 17, z 18, z 19, z 20, AV.slice s 0 2 2, AV.int IntKind.i64 (2 : Int), AV.int IntKind.i64 (IntKind.wrap IntKind.i64 ((0 : Int) + (1 : Int))), AV.bool true, AV.ptr s 0, AV.nptr, AV.nptr, AV.int IntKind.i64 (0 : Int), AV.bool ((0 : Int) != (0 : Int)), AV.bool false, AV.nptr, AV.int IntKind.i64 n, AV.bool false, AV.bool false, AV.bool false, AV.nptr, AV.nslice 0 0, AV.int IntKind.i64 (↑0 : Int), AV.bool ((↑0 : Int) != (0 : Int)), AV.bool ((↑0 : Int) != (0 : Int)), AV.bool false, AV.nptr, AV.int IntKind.i64 n, AV.int IntKind.i64 (-1 : Int), AV.bool ((-1 : Int) != (-1 : Int)), AV.bool ((-1 : Int) != (-1 : Int)), AV.bool false, AV.nptr, AV.int IntKind.i64 n, AV.int IntKind.i64 n, AV.bool false, AV.bool false, AV.bool false, AV.nptr, AV.int IntKind.i64 n, AV.nslice 0 0, AV.int IntKind.i64 (↑0 : Int), AV.bool ((↑0 : Int) != (0 : Int)), AV.bool ((↑0 : Int) != (0 : Int)), AV.bool false, AV.nptr, AV.int IntKind.i64 n, AV.nslice 0 0, AV.int IntKind.i64 (↑0 : Int), AV.bool ((↑0 : Int) != (0 : Int)), AV.bool ((↑0 : Int) != (0 : Int)), AV.bool false, AV.nptr, AV.int IntKind.i64 n, AV.nslice 0 0, AV.int IntKind.i64 (↑0 : Int), AV.bool ((↑0 : Int) != (0 : Int)), AV.bool ((↑0 : Int) != (0 : Int)), AV.bool false, AV.nptr, AV.int IntKind.i64 n, AV.int IntKind.i64 (0 : Int), AV.bool ((0 : Int) != (0 : Int)), AV.bool ((0 : Int) != (0 : Int)), AV.bool false, AV.nptr, AV.int IntKind.i64 n, AV.slice (AH.nx H') 0 1 1, AV.nslice 0 0, AV.int IntKind.i64 (↑0 : Int), AV.bool ((↑0 : Int) != (0 : Int)), AV.bool ((↑0 : Int) != (0 : Int)), AV.bool false, AV.nptr, AV.func 50 [] [AV.ptr (AH.nx H'_1) 0], AV.bool true, AV.bool !true, AV.bool false, AV.int IntKind.i64 (IntKind.wrap IntKind.i64 ((0 : Int) + (1 : Int))), z 95, z 96, z 97, z 98, z 99, z 100, z 101, z 102, z 103, z 104, z 105, z 106, z 107, z 108, z 109, z 110, z 111, z 112, z 113, z 114, z 115, z 116, z 117, z 118, z 119, z 120, z 121, z 122, z 123, z 124, z 125, z 126, z 127, z 128, z 129, z 130, z 131, z 132, z 133, z 134, z 135, z 136, z 137, z 138, z 139, z 140, z 141, z 142, z 143, z 144, z 145, z 146, z 147, z 148, z 149, z 150, z 151, z 152, z 153, z 154, z 155, z 156, z 157, z 158])) below H'_2)) := by kernel_rfl

set_option maxRecDepth 100000 in
theorem nnZ (w0 : World) (K : AM → Prop) (Kr : AV → AH → Prop) (below : List AFr) (z : Nat → AV) (v : AV) (n : Int) (s d : Nat) (H : AH) : (trun P w0 7 K Kr 600 0 [] ⟨w dnA (setL (tz 159 z) [(0, v), (1, .int .i64 n), (21, .slice s 0 2 2), (22, .int .i64 2), (23, .int .i64 1)]), below, H⟩ (.tt (.v (.ptr d 0) (.call Unit (fun _ => False) (fun _ => .int .i64 0) (fun _ H' => H' = H) (fun _ _ => (.ff (.call Unit (fun _ => False) (fun _ => .bool false) (fun _ H' => H' = H) (fun _ _ => (.ff (.ff (.call Unit (fun _ => False) (fun _ => .nslice 0 0) (fun _ H' => H' = H) (fun _ _ => (.ln 0 (.ff (.ff (.call Unit (fun _ => False) (fun _ => .int .i64 (-1)) (fun _ H' => H' = H) (fun _ _ => (.ff (.ff (.call Unit (fun _ => False) (fun _ => .bool false) (fun _ H' => H' = H) (fun _ _ => (.ff (.ff (.call Unit (fun _ => False) (fun _ => .nslice 0 0) (fun _ H' => H' = H) (fun _ _ => (.ln 0 (.ff (.ff (.call Unit (fun _ => False) (fun _ => .nslice 0 0) (fun _ H' => H' = H) (fun _ _ => (.ln 0 (.ff (.ff (.call Unit (fun _ => False) (fun _ => .nslice 0 0) (fun _ H' => H' = H) (fun _ _ => (.ln 0 (.ff (.ff (.call Unit (fun _ => False) (fun _ => .int .i64 0) (fun _ H' => H' = H) (fun _ _ => (.ff (.ff (.call Unit (fun _ => False) (fun _ => .nslice 0 0) (fun _ H' => H' = AH.new H (.row [.int .i64 n] 3 true (.own none))) (fun _ H2 => (.ln 0 (.ff (.ff (.into (.ff (.call Unit (fun _ => False) (fun _ => .bool true) (fun _ H' => H' = AH.new H2 (.row [.ptr d 0] 24 true (.own none))) (fun _ _ => (.ff (.ff .stop))))))))))))))))))))))))))))))))))))))))))))))))))))) = (decide ((1 : Int) < (2 : Int)) = true ∧ ((0 : Int) ≤ (1 : Int) ∧ (1 : Int) < (↑2 : Int)) ∧ rdAt H s 1 = some (AV.ptr d 0) ∧ True ∧ (Ret P w0 11 [AV.ptr d 0] H (fun (x : Nat) ↦ False) fun (v : AV) (H' : AH) ↦ ∃ (x : Unit), v = AV.int IntKind.i64 (0 : Int) ∧ H' = H) ∧ Pok H (fun (x : Nat) ↦ False) (stackPend below) ∧ ∀ (x : Unit) (H' : AH), H' = H → ((0 : Int) != (0 : Int)) = false ∧ True ∧ (Ret P w0 12 [AV.ptr d 0, AV.int IntKind.i64 n] H' (fun (x : Nat) ↦ False) fun (v : AV) (H' : AH) ↦ ∃ (x : Unit), v = AV.bool false ∧ H' = H) ∧ Pok H' (fun (x : Nat) ↦ False) (stackPend below) ∧ ∀ (x : Unit) (H' : AH), H' = H → false = false ∧ false = false ∧ True ∧ (Ret P w0 14 [AV.ptr d 0] H' (fun (x : Nat) ↦ False) fun (v : AV) (H' : AH) ↦ ∃ (x : Unit), v = AV.nslice (0 : Nat) (0 : Nat) ∧ H' = H) ∧ Pok H' (fun (x : Nat) ↦ False) (stackPend below) ∧ ∀ (x : Unit) (H' : AH), H' = H → (some (AV.int IntKind.i64 (↑0 : Int), []) : Option (AV × List Nat)) = some (AV.int IntKind.i64 (↑0 : Int), []) ∧ false = false ∧ ((↑0 : Int) != (0 : Int)) = false ∧ True ∧ (Ret P w0 19 [AV.ptr d 0, AV.int IntKind.i64 n] H' (fun (x : Nat) ↦ False) fun (v : AV) (H' : AH) ↦ ∃ (x : Unit), v = AV.int IntKind.i64 (-1 : Int) ∧ H' = H) ∧ Pok H' (fun (x : Nat) ↦ False) (stackPend below) ∧ ∀ (x : Unit) (H' : AH), H' = H → false = false ∧ ((-1 : Int) != (-1 : Int)) = false ∧ True ∧ (Ret P w0 17 [AV.ptr d 0, AV.int IntKind.i64 n, AV.int IntKind.i64 n] H' (fun (x : Nat) ↦ False) fun (v : AV) (H' : AH) ↦ ∃ (x : Unit), v = AV.bool false ∧ H' = H) ∧ Pok H' (fun (x : Nat) ↦ False) (stackPend below) ∧ ∀ (x : Unit) (H' : AH), H' = H → false = false ∧ false = false ∧ True ∧ (Ret P w0 21 [AV.ptr d 0, AV.int IntKind.i64 n] H' (fun (x : Nat) ↦ False) fun (v : AV) (H' : AH) ↦ ∃ (x : Unit), v = AV.nslice (0 : Nat) (0 : Nat) ∧ H' = H) ∧ Pok H' (fun (x : Nat) ↦ False) (stackPend below) ∧ ∀ (x : Unit) (H' : AH), H' = H → (some (AV.int IntKind.i64 (↑0 : Int), []) : Option (AV × List Nat)) = some (AV.int IntKind.i64 (↑0 : Int), []) ∧ false = false ∧ ((↑0 : Int) != (0 : Int)) = false ∧ True ∧ (Ret P w0 22 [AV.ptr d 0, AV.int IntKind.i64 n] H' (fun (x : Nat) ↦ False) fun (v : AV) (H' : AH) ↦ ∃ (x : Unit), v = AV.nslice (0 : Nat) (0 : Nat) ∧ H' = H) ∧ Pok H' (fun (x : Nat) ↦ False) (stackPend below) ∧ ∀ (x : Unit) (H' : AH), H' = H → (some (AV.int IntKind.i64 (↑0 : Int), []) : Option (AV × List Nat)) = some (AV.int IntKind.i64 (↑0 : Int), []) ∧ false = false ∧ ((↑0 : Int) != (0 : Int)) = false ∧ True ∧ (Ret P w0 23 [AV.ptr d 0, AV.int IntKind.i64 n] H' (fun (x : Nat) ↦ False) fun (v : AV) (H' : AH) ↦ ∃ (x : Unit), v = AV.nslice (0 : Nat) (0 : Nat) ∧ H' = H) ∧ Pok H' (fun (x : Nat) ↦ False) (stackPend below) ∧ ∀ (x : Unit) (H' : AH), H' = H → (some (AV.int IntKind.i64 (↑0 : Int), []) : Option (AV × List Nat)) = some (AV.int IntKind.i64 (↑0 : Int), []) ∧ false = false ∧ ((↑0 : Int) != (0 : Int)) = false ∧ True ∧ (Ret P w0 24 [AV.ptr d 0, AV.int IntKind.i64 n] H' (fun (x : Nat) ↦ False) fun (v : AV) (H' : AH) ↦ ∃ (x : Unit), v = AV.int IntKind.i64 (0 : Int) ∧ H' = H) ∧ Pok H' (fun (x : Nat) ↦ False) (stackPend below) ∧ ∀ (x : Unit) (H' : AH), H' = H → false = false ∧ ((0 : Int) != (0 : Int)) = false ∧ True ∧ True ∧ (Ret P w0 25 [AV.ptr d 0, AV.slice (AH.nx H') 0 1 1] (AH.new H' (AObj.row [AV.int IntKind.i64 n] 3 true (St.own none))) (fun (x : Nat) ↦ False) fun (v : AV) (H' : AH) ↦ ∃ (x : Unit), v = AV.nslice (0 : Nat) (0 : Nat) ∧ H' = AH.new H (AObj.row [AV.int IntKind.i64 n] (3 : TypeId) true (St.own none))) ∧ Pok (AH.new H' (AObj.row [AV.int IntKind.i64 n] 3 true (St.own none))) (fun (x : Nat) ↦ False) (stackPend below) ∧ ∀ (x : Unit) (H'_1 : AH), H'_1 = AH.new H (AObj.row [AV.int IntKind.i64 n] 3 true (St.own none)) → (some (AV.int IntKind.i64 (↑0 : Int), []) : Option (AV × List Nat)) = some (AV.int IntKind.i64 (↑0 : Int), []) ∧ false = false ∧ ((↑0 : Int) != (0 : Int)) = false ∧ True ∧ True ∧ false = false ∧ True ∧ (Ret P w0 26 [AV.func 50 [] [AV.ptr (AH.nx H'_1) 0], AV.nslice 0 0, AV.int IntKind.i64 (0 : Int)] (AH.new H'_1 (AObj.row [AV.ptr d 0] 24 true (St.own none))) (fun (x : Nat) ↦ False) fun (v : AV) (H' : AH) ↦ ∃ (x : Unit), v = AV.bool true ∧ H' = AH.new H'_1 (AObj.row [AV.ptr d (0 : Nat)] (24 : TypeId) true (St.own none))) ∧ Pok (AH.new H'_1 (AObj.row [AV.ptr d 0] 24 true (St.own none))) (fun (x : Nat) ↦ False) (stackPend below) ∧ ∀ (x : Unit) (H'_2 : AH), H'_2 = AH.new H'_1 (AObj.row [AV.ptr d 0] 24 true (St.own none)) → false = false ∧ (!true) = false ∧ K (AM.mk (w dnA (tl [v, AV.int IntKind.i64 n, z 2, z 3, z 4, z 5, AV.ptr d 0, z 7, z 8, z 9, z 10, z 11, z 12, z 13, z 14, z 15, z 16, z 17, z 18, z 19, z 20, AV.slice s 0 2 2, AV.int IntKind.i64 (2 : Int), AV.int IntKind.i64 (IntKind.wrap IntKind.i64 ((1 : Int) + (1 : Int))), AV.bool true, AV.ptr s 1, AV.ptr d 0, AV.ptr d 0, AV.int IntKind.i64 (0 : Int), AV.bool ((0 : Int) != (0 : Int)), AV.bool false, AV.ptr d 0, AV.int IntKind.i64 n, AV.bool false, AV.bool false, AV.bool false, AV.ptr d 0, AV.nslice 0 0, AV.int IntKind.i64 (↑0 : Int), AV.bool ((↑0 : Int) != (0 : Int)), AV.bool ((↑0 : Int) != (0 : Int)), AV.bool false, AV.ptr d 0, AV.int IntKind.i64 n, AV.int IntKind.i64 (-1 : Int), AV.bool ((-1 : Int) != (-1 : Int)), AV.bool ((-1 : Int) != (-1 : Int)), AV.bool false, AV.ptr d 0, AV.int IntKind.i64 n, AV.int IntKind.i64 n, AV.bool false, AV.bool false, AV.bool false, AV.ptr d 0, AV.int IntKind.i64 n, AV.nslice 0 0, AV.int IntKind.i64 (↑0 : Int), AV.bool ((↑0 : Int) != (0 : Int)), AV.bool ((↑0 : Int) != (0 : Int)), AV.bool false, AV.ptr d 0, AV.int IntKind.i64 n, AV.nslice 0 0, AV.int IntKind.i64 (↑0 : Int), AV.bool ((↑0 : Int) != (0 : Int)), AV.bool ((↑0 : Int) != (0 : Int)), AV.bool false, AV.ptr d 0, AV.int IntKind.i64 n, AV.nslice 0 0, AV.int IntKind.i64 (↑0 : Int), AV.bool ((↑0 : Int) != (0 : Int)), AV.bool ((↑0 : Int) != (0 : Int)), AV.bool false, AV.ptr d 0, AV.int IntKind.i64 n, AV.int IntKind.i64 (0 : Int), AV.bool ((0 : Int) != (0 : Int)), AV.bool ((0 : Int) != (0 : Int)), AV.bool false, AV.ptr d 0, AV.int IntKind.i64 n, AV.slice (AH.nx H') 0 1 1, AV.nslice 0 0, AV.int IntKind.i64 (↑0 : Int), AV.bool ((↑0 : Int) != (0 : Int)), AV.bool ((↑0 : Int) != (0 : Int)), AV.bool false, AV.ptr d 0, AV.func 50 [] [AV.ptr (AH.nx H'_1) 0], AV.bool true, AV.bool !true, AV.bool false, AV.int IntKind.i64 (IntKind.wrap IntKind.i64 ((1 : Int) + (1 : Int))), z 95, z 96, z 97, z 98, z 99, z 100, z 101, z 102, z 103, z 104, z 105, z 106, z 107, z 108, z 109, z 110, z 111, z 112, z 113, z 114, z 115, z 116, z 117, z 118, z 119, z 120, z 121, z 122, z 123, z 124, z 125, z 126, z 127, z 128, z 129, z 130, z 131, z 132, z 133, z 134, z 135, z 136, z 137, z 138, z 139, z 140, z 141, z 142, z 143, z 144, z 145, z 146, z 147, z 148, z 149, z 150, z 151, z 152, z 153, z 154, z 155, z 156, z 157, z 158])) below H'_2)) := by kernel_rfl

theorem nnE (w0 : World) (K : AM → Prop) (Kr : AV → AH → Prop) (below : List AFr) (z : Nat → AV) (v : AV) (n : Int) (s len : Nat) (H : AH) (Q1 : AV → AH → Prop) (Q2 : AV → AH → AH → Prop) : (trun P w0 7 K Kr 600 0 [] ⟨w dnA (setL (tz 159 z) [(0, v), (1, .int .i64 n), (21, .slice s 0 2 2), (22, .int .i64 2), (23, .int .i64 2)]), below, H⟩ (.ff (.call AV (fun _ => False) (fun x => x) Q1 (fun x H1 => (.call Unit (fun _ => False) (fun _ => .tuple [.nptr, .int .i64 1]) (fun _ => Q2 x H1) (fun _ H2 => (.tt (.ln len .stop)))))))) = (decide ((2 : Int) < (2 : Int)) = false ∧ True ∧ (Ret P w0 18 [v] H (fun (x : Nat) ↦ False) fun (v : AV) (H' : AH) ↦ ∃ (x : AV), v = x ∧ Q1 x H') ∧ Pok H (fun (x : Nat) ↦ False) (stackPend below) ∧ ∀ (x : AV) (H' : AH), Q1 x H' → True ∧ (Ret P w0 9 [x] H' (fun (x : Nat) ↦ False) fun (v : AV) (H'_1 : AH) ↦ ∃ (x_1 : Unit), v = AV.tuple [AV.nptr, AV.int IntKind.i64 (1 : Int)] ∧ Q2 x H' H'_1) ∧ Pok H' (fun (x : Nat) ↦ False) (stackPend below) ∧ ∀ (x_1 : Unit) (H'_1 : AH), Q2 x H' H'_1 → ((1 : Int) != (0 : Int)) = true ∧ aLen P H'_1 41 v = some (AV.int IntKind.i64 (↑len : Int), []) ∧ Kr (AV.bool ((↑len : Int) == (0 : Int))) H'_1) := by kernel_rfl

theorem nnO (w0 : World) (K : AM → Prop) (Kr : AV → AH → Prop) (below : List AFr) (z : Nat → AV) (v : AV) (n : Int) (s len : Nat) (H : AH) (Q1 : AV → AH → Prop) (Q2 : AV → AH → Nat → AH → Prop) (Q3 : AV → AH → Nat → AH → Nat × Nat → AH → Prop) : (trun P w0 7 K Kr 600 0 [] ⟨w dnA (setL (tz 159 z) [(0, v), (1, .int .i64 n), (21, .slice s 0 2 2), (22, .int .i64 2), (23, .int .i64 2)]), below, H⟩ (.ff (.call AV (fun _ => False) (fun x => x) Q1 (fun x H1 => (.call Nat (fun _ => False) (fun d => .tuple [.ptr d 0, .int .i64 0]) (Q2 x H1) (fun d H2 => (.ff (.call (Nat × Nat) (fun _ => False) (fun p => .tuple [.ptr p.1 0, .ptr p.2 0, .bool true]) (Q3 x H1 d H2) (fun p H3 => (.ln len .stop)))))))))) = (decide ((2 : Int) < (2 : Int)) = false ∧ True ∧ (Ret P w0 18 [v] H (fun (x : Nat) ↦ False) fun (v : AV) (H' : AH) ↦ ∃ (x : AV), v = x ∧ Q1 x H') ∧ Pok H (fun (x : Nat) ↦ False) (stackPend below) ∧ ∀ (x : AV) (H' : AH), Q1 x H' → True ∧ (Ret P w0 9 [x] H' (fun (x : Nat) ↦ False) fun (v : AV) (H'_1 : AH) ↦ ∃ (x_1 : Nat), v = AV.tuple [AV.ptr x_1 (0 : Nat), AV.int IntKind.i64 (0 : Int)] ∧ Q2 x H' x_1 H'_1) ∧ Pok H' (fun (x : Nat) ↦ False) (stackPend below) ∧ ∀ (x_1 : Nat) (H'_1 : AH), Q2 x H' x_1 H'_1 → ((0 : Int) != (0 : Int)) = false ∧ True ∧ (Ret P w0 16 [v] H'_1 (fun (x : Nat) ↦ False) fun (v : AV) (H'_2 : AH) ↦ ∃ (x_2 : Nat × Nat), v = AV.tuple [AV.ptr (Prod.fst x_2) (0 : Nat), AV.ptr (Prod.snd x_2) (0 : Nat), AV.bool true] ∧ Q3 x H' x_1 H'_1 x_2 H'_2) ∧ Pok H'_1 (fun (x : Nat) ↦ False) (stackPend below) ∧ ∀ (x_2 : Nat × Nat) (H'_2 : AH), Q3 x H' x_1 H'_1 x_2 H'_2 → aLen P H'_2 22 x = some (AV.int IntKind.i64 (↑len : Int), []) ∧ K (AM.mk (w dnB (tl [v, AV.int IntKind.i64 n, z 2, z 3, z 4, z 5, z 6, x, AV.ptr x_1 0, AV.int IntKind.i64 (0 : Int), AV.ptr (Prod.fst x_2) 0, AV.ptr (Prod.snd x_2) 0, AV.bool true, z 13, z 14, z 15, z 16, z 17, z 18, z 19, z 20, AV.slice s 0 2 2, AV.int IntKind.i64 (2 : Int), AV.int IntKind.i64 (2 : Int), AV.bool false, z 25, z 26, z 27, z 28, z 29, z 30, z 31, z 32, z 33, z 34, z 35, z 36, z 37, z 38, z 39, z 40, z 41, z 42, z 43, z 44, z 45, z 46, z 47, z 48, z 49, z 50, z 51, z 52, z 53, z 54, z 55, z 56, z 57, z 58, z 59, z 60, z 61, z 62, z 63, z 64, z 65, z 66, z 67, z 68, z 69, z 70, z 71, z 72, z 73, z 74, z 75, z 76, z 77, z 78, z 79, z 80, z 81, z 82, z 83, z 84, z 85, z 86, z 87, z 88, z 89, z 90, z 91, z 92, z 93, z 94, v, x, AV.tuple [AV.ptr x_1 0, AV.int IntKind.i64 (0 : Int)], x, AV.tuple [AV.ptr x_1 0, AV.int IntKind.i64 (0 : Int)], AV.ptr x_1 0, AV.int IntKind.i64 (0 : Int), AV.int IntKind.i64 (0 : Int), AV.bool false, z 104, z 105, z 106, AV.tuple [AV.ptr (Prod.fst x_2) 0, AV.ptr (Prod.snd x_2) 0, AV.bool true], v, AV.tuple [AV.ptr (Prod.fst x_2) 0, AV.ptr (Prod.snd x_2) 0, AV.bool true], AV.ptr (Prod.fst x_2) 0, AV.ptr (Prod.snd x_2) 0, AV.bool true, x, AV.int IntKind.i64 (↑len : Int), AV.int IntKind.i64 (0 : Int), z 116, z 117, z 118, z 119, z 120, z 121, z 122, z 123, z 124, z 125, z 126, z 127, z 128, z 129, z 130, z 131, z 132, z 133, z 134, z 135, z 136, z 137, z 138, z 139, z 140, z 141, z 142, z 143, z 144, z 145, z 146, z 147, z 148, z 149, z 150, z 151, z 152, z 153, z 154, z 155, z 156, z 157, z 158])) below H'_2)) := by kernel_rfl

theorem nnB (w0 : World) (K : AM → Prop) (Kr : AV → AH → Prop) (below : List AFr) (z : Nat → AV) (n : Int) (d e len : Nat) (x sub : AV) (i : Int) (a ao sl : Nat) (H : AH) : (trun P w0 7 K Kr 600 0 [] ⟨w dnB (setL (tz 159 z) [(1, .int .i64 n), (7, x), (8, .ptr d 0), (11, .ptr e 0), (114, .int .i64 len), (115, .int .i64 i)]), below, H⟩ (.tt (.bs a ao (.v sub (.ln sl .stop))))) = (decide (i < (↑len : Int)) = true ∧ SlAt x a ao i ∧ rdAt H a (ao + Int.toNat i * 1) = some sub ∧ aLen P H 34 sub = some (AV.int IntKind.i64 (↑sl : Int), []) ∧ K (AM.mk (w dnC (tl [z 0, AV.int IntKind.i64 n, z 2, z 3, z 4, z 5, z 6, x, AV.ptr d 0, z 9, z 10, AV.ptr e 0, z 12, AV.int IntKind.i64 i, z 14, z 15, z 16, z 17, z 18, z 19, z 20, z 21, z 22, z 23, z 24, z 25, z 26, z 27, z 28, z 29, z 30, z 31, z 32, z 33, z 34, z 35, z 36, z 37, z 38, z 39, z 40, z 41, z 42, z 43, z 44, z 45, z 46, z 47, z 48, z 49, z 50, z 51, z 52, z 53, z 54, z 55, z 56, z 57, z 58, z 59, z 60, z 61, z 62, z 63, z 64, z 65, z 66, z 67, z 68, z 69, z 70, z 71, z 72, z 73, z 74, z 75, z 76, z 77, z 78, z 79, z 80, z 81, z 82, z 83, z 84, z 85, z 86, z 87, z 88, z 89, z 90, z 91, z 92, z 93, z 94, z 95, z 96, z 97, z 98, z 99, z 100, z 101, z 102, z 103, z 104, z 105, z 106, z 107, z 108, z 109, z 110, z 111, z 112, z 113, AV.int IntKind.i64 (↑len : Int), AV.int IntKind.i64 i, AV.bool true, AV.int IntKind.i64 i, x, AV.int IntKind.i64 i, AV.ptr a (ao + Int.toNat i * 1), sub, AV.int IntKind.i64 (↑sl : Int), AV.int IntKind.i64 (0 : Int), z 124, z 125, z 126, z 127, z 128, z 129, z 130, z 131, z 132, z 133, z 134, z 135, z 136, z 137, z 138, z 139, z 140, z 141, z 142, z 143, z 144, z 145, z 146, z 147, z 148, z 149, z 150, z 151, z 152, z 153, z 154, z 155, z 156, z 157, z 158])) below H)) := by kernel_rfl

theorem nnC (w0 : World) (K : AM → Prop) (Kr : AV → AH → Prop) (below : List AFr) (z : Nat → AV) (n : Int) (d e len : Nat) (x sub : AV) (i j : Int) (a ao b bo sl : Nat) (H : AH) : (trun P w0 7 K Kr 600 0 [] ⟨w dnC (setL (tz 159 z) [(1, .int .i64 n), (7, x), (8, .ptr d 0), (11, .ptr e 0), (13, .int .i64 i), (114, .int .i64 len), (115, .int .i64 i), (122, .int .i64 sl), (123, .int .i64 j)]), below, H⟩ (.tt (.bs a ao (.v sub (.bs b bo .stop))))) = (decide (j < (↑sl : Int)) = true ∧ SlAt x a ao i ∧ rdAt H a (ao + Int.toNat i * 1) = some sub ∧ SlAt sub b bo j ∧ AV.single (AV.int IntKind.i64 (0 : Int)) = true ∧ StOk H b (bo + Int.toNat j * 1) 1 ∧ apartOk H (stackPend below) (b :: stOld H b) = true ∧ K (AM.mk (w dnC (tl [z 0, AV.int IntKind.i64 n, z 2, z 3, z 4, z 5, z 6, x, AV.ptr d 0, z 9, z 10, AV.ptr e 0, z 12, AV.int IntKind.i64 i, AV.int IntKind.i64 j, z 15, z 16, z 17, z 18, z 19, z 20, z 21, z 22, z 23, z 24, z 25, z 26, z 27, z 28, z 29, z 30, z 31, z 32, z 33, z 34, z 35, z 36, z 37, z 38, z 39, z 40, z 41, z 42, z 43, z 44, z 45, z 46, z 47, z 48, z 49, z 50, z 51, z 52, z 53, z 54, z 55, z 56, z 57, z 58, z 59, z 60, z 61, z 62, z 63, z 64, z 65, z 66, z 67, z 68, z 69, z 70, z 71, z 72, z 73, z 74, z 75, z 76, z 77, z 78, z 79, z 80, z 81, z 82, z 83, z 84, z 85, z 86, z 87, z 88, z 89, z 90, z 91, z 92, z 93, z 94, z 95, z 96, z 97, z 98, z 99, z 100, z 101, z 102, z 103, z 104, z 105, z 106, z 107, z 108, z 109, z 110, z 111, z 112, z 113, AV.int IntKind.i64 (↑len : Int), AV.int IntKind.i64 i, z 116, z 117, z 118, z 119, z 120, z 121, AV.int IntKind.i64 (↑sl : Int), AV.int IntKind.i64 (IntKind.wrap IntKind.i64 (j + (1 : Int))), AV.bool true, AV.int IntKind.i64 j, x, AV.int IntKind.i64 i, AV.ptr a (ao + Int.toNat i * 1), sub, AV.int IntKind.i64 j, AV.ptr b (bo + Int.toNat j * 1), AV.int IntKind.i64 (IntKind.wrap IntKind.i64 (j + (1 : Int))), z 133, z 134, z 135, z 136, z 137, z 138, z 139, z 140, z 141, z 142, z 143, z 144, z 145, z 146, z 147, z 148, z 149, z 150, z 151, z 152, z 153, z 154, z 155, z 156, z 157, z 158])) below (stO H b (bo + Int.toNat j * 1) [AV.int IntKind.i64 (0 : Int)]))) := by kernel_rfl

theorem nnCe (w0 : World) (K : AM → Prop) (Kr : AV → AH → Prop) (below : List AFr) (z : Nat → AV) (n : Int) (d e len : Nat) (x : AV) (i j : Int) (sl : Nat) (H : AH) : (trun P w0 7 K Kr 600 0 [] ⟨w dnC (setL (tz 159 z) [(1, .int .i64 n), (7, x), (8, .ptr d 0), (11, .ptr e 0), (13, .int .i64 i), (114, .int .i64 len), (115, .int .i64 i), (122, .int .i64 sl), (123, .int .i64 j)]), below, H⟩ (.ff .stop)) = (decide (j < (↑sl : Int)) = false ∧ K (AM.mk (w dnB (tl [z 0, AV.int IntKind.i64 n, z 2, z 3, z 4, z 5, z 6, x, AV.ptr d 0, z 9, z 10, AV.ptr e 0, z 12, AV.int IntKind.i64 i, z 14, z 15, z 16, z 17, z 18, z 19, z 20, z 21, z 22, z 23, z 24, z 25, z 26, z 27, z 28, z 29, z 30, z 31, z 32, z 33, z 34, z 35, z 36, z 37, z 38, z 39, z 40, z 41, z 42, z 43, z 44, z 45, z 46, z 47, z 48, z 49, z 50, z 51, z 52, z 53, z 54, z 55, z 56, z 57, z 58, z 59, z 60, z 61, z 62, z 63, z 64, z 65, z 66, z 67, z 68, z 69, z 70, z 71, z 72, z 73, z 74, z 75, z 76, z 77, z 78, z 79, z 80, z 81, z 82, z 83, z 84, z 85, z 86, z 87, z 88, z 89, z 90, z 91, z 92, z 93, z 94, z 95, z 96, z 97, z 98, z 99, z 100, z 101, z 102, z 103, z 104, z 105, z 106, z 107, z 108, z 109, z 110, z 111, z 112, z 113, AV.int IntKind.i64 (↑len : Int), AV.int IntKind.i64 (IntKind.wrap IntKind.i64 (i + (1 : Int))), z 116, z 117, z 118, z 119, z 120, z 121, AV.int IntKind.i64 (↑sl : Int), AV.int IntKind.i64 j, AV.bool false, z 125, z 126, z 127, z 128, z 129, z 130, z 131, z 132, AV.int IntKind.i64 (IntKind.wrap IntKind.i64 (i + (1 : Int))), z 134, z 135, z 136, z 137, z 138, z 139, z 140, z 141, z 142, z 143, z 144, z 145, z 146, z 147, z 148, z 149, z 150, z 151, z 152, z 153, z 154, z 155, z 156, z 157, z 158])) below H)) := by kernel_rfl

theorem nnBe (w0 : World) (K : AM → Prop) (Kr : AV → AH → Prop) (below : List AFr) (z : Nat → AV) (n : Int) (d e len : Nat) (x : AV) (i : Int) (ol : Nat) (H : AH) (Q : AV → AH → Prop) : (trun P w0 7 K Kr 600 0 [] ⟨w dnB (setL (tz 159 z) [(1, .int .i64 n), (7, x), (8, .ptr d 0), (11, .ptr e 0), (114, .int .i64 len), (115, .int .i64 i)]), below, H⟩ (.ff (.call AV (fun _ => False) (fun o => o) Q (fun o H1 => (.ln ol .stop))))) = (decide (i < (↑len : Int)) = false ∧ True ∧ (Ret P w0 14 [AV.ptr d 0] H (fun (x : Nat) ↦ False) fun (v : AV) (H' : AH) ↦ ∃ (x : AV), v = x ∧ Q x H') ∧ Pok H (fun (x : Nat) ↦ False) (stackPend below) ∧ ∀ (x_1 : AV) (H' : AH), Q x_1 H' → aLen P H' 34 x_1 = some (AV.int IntKind.i64 (↑ol : Int), []) ∧ K (AM.mk (w dnD (tl [z 0, AV.int IntKind.i64 n, z 2, z 3, z 4, z 5, z 6, x, AV.ptr d 0, z 9, z 10, AV.ptr e 0, z 12, z 13, z 14, x_1, z 16, z 17, z 18, z 19, z 20, z 21, z 22, z 23, z 24, z 25, z 26, z 27, z 28, z 29, z 30, z 31, z 32, z 33, z 34, z 35, z 36, z 37, z 38, z 39, z 40, z 41, z 42, z 43, z 44, z 45, z 46, z 47, z 48, z 49, z 50, z 51, z 52, z 53, z 54, z 55, z 56, z 57, z 58, z 59, z 60, z 61, z 62, z 63, z 64, z 65, z 66, z 67, z 68, z 69, z 70, z 71, z 72, z 73, z 74, z 75, z 76, z 77, z 78, z 79, z 80, z 81, z 82, z 83, z 84, z 85, z 86, z 87, z 88, z 89, z 90, z 91, z 92, z 93, z 94, z 95, z 96, z 97, z 98, z 99, z 100, z 101, z 102, z 103, z 104, z 105, z 106, z 107, z 108, z 109, z 110, z 111, z 112, z 113, AV.int IntKind.i64 (↑len : Int), AV.int IntKind.i64 i, AV.bool false, z 117, z 118, z 119, z 120, z 121, z 122, z 123, z 124, z 125, z 126, z 127, z 128, z 129, z 130, z 131, z 132, z 133, AV.ptr d 0, x_1, x_1, AV.int IntKind.i64 (↑ol : Int), AV.int IntKind.i64 (0 : Int), z 139, z 140, z 141, z 142, z 143, z 144, z 145, z 146, z 147, z 148, z 149, z 150, z 151, z 152, z 153, z 154, z 155, z 156, z 157, z 158])) below H')) := by kernel_rfl

theorem nnD (w0 : World) (K : AM → Prop) (Kr : AV → AH → Prop) (below : List AFr) (z : Nat → AV) (n : Int) (d e len : Nat) (o : AV) (k : Int) (b bo : Nat) (H : AH) : (trun P w0 7 K Kr 600 0 [] ⟨w dnD (setL (tz 159 z) [(1, .int .i64 n), (8, .ptr d 0), (11, .ptr e 0), (15, o), (137, .int .i64 len), (138, .int .i64 k)]), below, H⟩ (.tt (.bs b bo .stop))) = (decide (k < (↑len : Int)) = true ∧ SlAt o b bo k ∧ AV.single (AV.int IntKind.i64 (-9 : Int)) = true ∧ StOk H b (bo + Int.toNat k * 1) 1 ∧ apartOk H (stackPend below) (b :: stOld H b) = true ∧ K (AM.mk (w dnD (tl [z 0, AV.int IntKind.i64 n, z 2, z 3, z 4, z 5, z 6, z 7, AV.ptr d 0, z 9, z 10, AV.ptr e 0, z 12, z 13, z 14, o, AV.int IntKind.i64 k, z 17, z 18, z 19, z 20, z 21, z 22, z 23, z 24, z 25, z 26, z 27, z 28, z 29, z 30, z 31, z 32, z 33, z 34, z 35, z 36, z 37, z 38, z 39, z 40, z 41, z 42, z 43, z 44, z 45, z 46, z 47, z 48, z 49, z 50, z 51, z 52, z 53, z 54, z 55, z 56, z 57, z 58, z 59, z 60, z 61, z 62, z 63, z 64, z 65, z 66, z 67, z 68, z 69, z 70, z 71, z 72, z 73, z 74, z 75, z 76, z 77, z 78, z 79, z 80, z 81, z 82, z 83, z 84, z 85, z 86, z 87, z 88, z 89, z 90, z 91, z 92, z 93, z 94, z 95, z 96, z 97, z 98, z 99, z 100, z 101, z 102, z 103, z 104, z 105, z 106, z 107, z 108, z 109, z 110, z 111, z 112, z 113, z 114, z 115, z 116, z 117, z 118, z 119, z 120, z 121, z 122, z 123, z 124, z 125, z 126, z 127, z 128, z 129, z 130, z 131, z 132, z 133, z 134, z 135, z 136, AV.int IntKind.i64 (↑len : Int), AV.int IntKind.i64 (IntKind.wrap IntKind.i64 (k + (1 : Int))), AV.bool true, AV.int IntKind.i64 k, o, AV.int IntKind.i64 k, AV.ptr b (bo + Int.toNat k * 1), AV.int IntKind.i64 (IntKind.wrap IntKind.i64 (k + (1 : Int))), z 145, z 146, z 147, z 148, z 149, z 150, z 151, z 152, z 153, z 154, z 155, z 156, z 157, z 158])) below (stO H b (bo + Int.toNat k * 1) [AV.int IntKind.i64 (-9 : Int)]))) := by kernel_rfl

theorem nnDe (w0 : World) (K : AM → Prop) (Kr : AV → AH → Prop) (below : List AFr) (z : Nat → AV) (n : Int) (d e len : Nat) (o : AV) (k : Int) (H : AH) (Q1 : AV → AH → Prop) (Q2 Q3 Q4 : AH → AV → AH → Prop) : (trun P w0 7 K Kr 600 0 [] ⟨w dnD (setL (tz 159 z) [(1, .int .i64 n), (8, .ptr d 0), (11, .ptr e 0), (15, o), (137, .int .i64 len), (138, .int .i64 k)]), below, H⟩ (.ff (.call AV (fun _ => False) (fun o => o) Q1 (fun x1 H1 => (.call AV (fun _ => False) (fun o => o) (Q2 H1) (fun x2 H2 => (.call Unit (fun _ => False) (fun _ => .bool true) (fun _ H' => H' = H2) (fun _ H3 => (.tt (.call AV (fun _ => False) (fun o => o) (Q3 H3) (fun x3 H4 => (.call AV (fun _ => False) (fun o => o) (Q4 H4) (fun x4 H5 => (.call Unit (fun _ => False) (fun _ => .bool true) (fun _ H' => H' = H5) (fun _ H6 => (.tt .stop)))))))))))))))) = (decide (k < (↑len : Int)) = false ∧ True ∧ (Ret P w0 14 [AV.ptr d 0] H (fun (x : Nat) ↦ False) fun (v : AV) (H' : AH) ↦ ∃ (x : AV), v = x ∧ Q1 x H') ∧ Pok H (fun (x : Nat) ↦ False) (stackPend below) ∧ ∀ (x : AV) (H' : AH), Q1 x H' → True ∧ (Ret P w0 15 [AV.ptr e 0] H' (fun (x : Nat) ↦ False) fun (v : AV) (H'_1 : AH) ↦ ∃ (x : AV), v = x ∧ Q2 H' x H'_1) ∧ Pok H' (fun (x : Nat) ↦ False) (stackPend below) ∧ ∀ (x_1 : AV) (H'_1 : AH), Q2 H' x_1 H'_1 → True ∧ (Ret P w0 13 [x, x_1] H'_1 (fun (x : Nat) ↦ False) fun (v : AV) (H' : AH) ↦ ∃ (x : Unit), v = AV.bool true ∧ H' = H'_1) ∧ Pok H'_1 (fun (x : Nat) ↦ False) (stackPend below) ∧ ∀ (x : Unit) (H' : AH), H' = H'_1 → true = true ∧ True ∧ (Ret P w0 22 [AV.ptr d 0, AV.int IntKind.i64 n] H' (fun (x : Nat) ↦ False) fun (v : AV) (H'_2 : AH) ↦ ∃ (x : AV), v = x ∧ Q3 H' x H'_2) ∧ Pok H' (fun (x : Nat) ↦ False) (stackPend below) ∧ ∀ (x : AV) (H'_2 : AH), Q3 H' x H'_2 → True ∧ (Ret P w0 28 [AV.ptr e 0, AV.int IntKind.i64 n] H'_2 (fun (x : Nat) ↦ False) fun (v : AV) (H' : AH) ↦ ∃ (x : AV), v = x ∧ Q4 H'_2 x H') ∧ Pok H'_2 (fun (x : Nat) ↦ False) (stackPend below) ∧ ∀ (x_2 : AV) (H' : AH), Q4 H'_2 x_2 H' → True ∧ (Ret P w0 13 [x, x_2] H' (fun (x : Nat) ↦ False) fun (v : AV) (H'_3 : AH) ↦ ∃ (x : Unit), v = AV.bool true ∧ H'_3 = H') ∧ Pok H' (fun (x : Nat) ↦ False) (stackPend below) ∧ ∀ (x : Unit) (H'_3 : AH), H'_3 = H' → true = true ∧ Kr (AV.bool true) H'_3) := by kernel_rfl


section
variable {w0 : World} {H : AH} {S : Nat → Prop} {v : AV} {n : Int} {g : List (List Int)} {hs : List AV} {below : List AFr}

def nAh (v : AV) (n : Int) (s : Nat) (i : Int) : List (Nat × AV) := [(0, v), (1, .int .i64 n), (21, .slice s 0 2 2), (22, .int .i64 2), (23, .int .i64 i)]

theorem nnN_go (hw : Wf H) (hp : Pok H (fun _ => False) (stackPend below)) {s : Nat} (hs : rdAt H s 0 = some (.nptr)) {Kr : AV → AH → Prop} (hend : ∀ H', Wf H' → Kept (fun _ => False) H H' → ∀ z, Leads P w0 (RetK P 7 below Kr) ⟨w dnA (setL (tz 159 z) (nAh v n s 1)), below, H'⟩) : ∀ z, Leads P w0 (RetK P 7 below Kr) ⟨w dnA (setL (tz 159 z) (nAh v n s 0)), below, H⟩ := fun z => by
  have un : ∀ {f : FuncId} {args : List AV} {k : AV}, Ret P w0 f args H (fun _ => False) (fun v H' => v = k ∧ H' = H) → Ret P w0 f args H (fun _ => False) fun v H' => ∃ _ : Unit, v = k ∧ H' = H := fun h => h.mono fun v H' q => ⟨(), q⟩
  have hA : ∀ m, m < H.nx → (H.new (.row [.int .i64 n] 3 true (.own none))).get m = H.get m := fun m hm => get_lt hm
  have hB : ∀ m, m < H.nx → ((H.new (.row [.int .i64 n] 3 true (.own none))).new (.row [.nptr] 24 true (.own none))).get m = H.get m := fun m hm => by rw [show ((H.new (.row [.int .i64 n] 3 true (.own none))).new (.row [.nptr] 24 true (.own none))).get m = _ from get_lt (Nat.lt_succ_of_lt hm)]; exact hA m hm
  have hpA : Pok (H.new (.row [.int .i64 n] 3 true (.own none))) (fun _ => False) (stackPend below) := (pok_new hw hp hA).weak fun m hm => hm.elim
  have hpB : Pok ((H.new (.row [.int .i64 n] 3 true (.own none))).new (.row [.nptr] 24 true (.own none))) (fun _ => False) (stackPend below) := (pok_new hw hp hB).weak fun m hm => hm.elim
  refine Leads.go fine (nnN w0 _ _ below z v n s H) rfl ⟨rfl, by decide, hs, trivial, un (nil11), hp, fun _ H1 e1 => ?_⟩
  rw [e1]
  refine ⟨rfl, trivial, un (nil12), hp, fun _ H1 e1 => ?_⟩
  rw [e1]
  refine ⟨rfl, rfl, trivial, un (nil14), hp, fun _ H1 e1 => ?_⟩
  rw [e1]
  refine ⟨rfl, rfl, rfl, trivial, un (nil19), hp, fun _ H1 e1 => ?_⟩
  rw [e1]
  refine ⟨rfl, rfl, trivial, un (nil17), hp, fun _ H1 e1 => ?_⟩
  rw [e1]
  refine ⟨rfl, rfl, trivial, un (nil21), hp, fun _ H1 e1 => ?_⟩
  rw [e1]
  refine ⟨rfl, rfl, rfl, trivial, un (nil22), hp, fun _ H1 e1 => ?_⟩
  rw [e1]
  refine ⟨rfl, rfl, rfl, trivial, un (nil23), hp, fun _ H1 e1 => ?_⟩
  rw [e1]
  refine ⟨rfl, rfl, rfl, trivial, un (nil24), hp, fun _ H1 e1 => ?_⟩
  rw [e1]
  refine ⟨rfl, rfl, trivial, trivial, (nil25 (st := .own none) (get_at rfl)).mono fun v H' q => ⟨(), q⟩, hpA, fun _ H1 e1 => ?_⟩
  rw [e1]
  refine ⟨rfl, rfl, rfl, trivial, trivial, rfl, trivial, (nil26 (st := .own none) (get_at rfl)).mono fun v H' q => ⟨(), q⟩, hpB, fun _ H1 e1 => ?_⟩
  rw [e1]
  exact ⟨rfl, rfl, Leads.at (nAh v n s 1) (by kernel_rfl) (hend _ ((hw.new _).new _) ((Kept.new _ _ _).trans (Kept.new _ _ _)))⟩

theorem nnZ_go (hw : Wf H) (hp : Pok H (fun _ => False) (stackPend below)) {s : Nat} {d : Nat} {st : Go.Sx.St} (hd : H.get d = some (.row zeroD 52 true st)) (hs : rdAt H s 1 = some (.ptr d 0)) {Kr : AV → AH → Prop} (hend : ∀ H', Wf H' → Kept (fun _ => False) H H' → ∀ z, Leads P w0 (RetK P 7 below Kr) ⟨w dnA (setL (tz 159 z) (nAh v n s 2)), below, H'⟩) : ∀ z, Leads P w0 (RetK P 7 below Kr) ⟨w dnA (setL (tz 159 z) (nAh v n s 1)), below, H⟩ := fun z => by
  have un : ∀ {f : FuncId} {args : List AV} {k : AV}, Ret P w0 f args H (fun _ => False) (fun v H' => v = k ∧ H' = H) → Ret P w0 f args H (fun _ => False) fun v H' => ∃ _ : Unit, v = k ∧ H' = H := fun h => h.mono fun v H' q => ⟨(), q⟩
  have hdl := hw d _ hd
  have hA : ∀ m, m < H.nx → (H.new (.row [.int .i64 n] 3 true (.own none))).get m = H.get m := fun m hm => get_lt hm
  have hB : ∀ m, m < H.nx → ((H.new (.row [.int .i64 n] 3 true (.own none))).new (.row [.ptr d 0] 24 true (.own none))).get m = H.get m := fun m hm => by rw [show ((H.new (.row [.int .i64 n] 3 true (.own none))).new (.row [.ptr d 0] 24 true (.own none))).get m = _ from get_lt (Nat.lt_succ_of_lt hm)]; exact hA m hm
  have hpA : Pok (H.new (.row [.int .i64 n] 3 true (.own none))) (fun _ => False) (stackPend below) := (pok_new hw hp hA).weak fun m hm => hm.elim
  have hpB : Pok ((H.new (.row [.int .i64 n] 3 true (.own none))).new (.row [.ptr d 0] 24 true (.own none))) (fun _ => False) (stackPend below) := (pok_new hw hp hB).weak fun m hm => hm.elim
  refine Leads.go fine (nnZ w0 _ _ below z v n s d H) rfl ⟨rfl, by decide, hs, trivial, un (z11 hd), hp, fun _ H1 e1 => ?_⟩
  rw [e1]
  refine ⟨rfl, trivial, un (z12 hd), hp, fun _ H1 e1 => ?_⟩
  rw [e1]
  refine ⟨rfl, rfl, trivial, un (z14 hd), hp, fun _ H1 e1 => ?_⟩
  rw [e1]
  refine ⟨rfl, rfl, rfl, trivial, un (z19 hd), hp, fun _ H1 e1 => ?_⟩
  rw [e1]
  refine ⟨rfl, rfl, trivial, un (z17 hd), hp, fun _ H1 e1 => ?_⟩
  rw [e1]
  refine ⟨rfl, rfl, trivial, un (z21 hd), hp, fun _ H1 e1 => ?_⟩
  rw [e1]
  refine ⟨rfl, rfl, rfl, trivial, un (z22 hd), hp, fun _ H1 e1 => ?_⟩
  rw [e1]
  refine ⟨rfl, rfl, rfl, trivial, un (z23 hd), hp, fun _ H1 e1 => ?_⟩
  rw [e1]
  refine ⟨rfl, rfl, rfl, trivial, un (z24 hd), hp, fun _ H1 e1 => ?_⟩
  rw [e1]
  refine ⟨rfl, rfl, trivial, trivial, (z25 (st := st) (st2 := .own none) (by rw [hA d hdl]; exact hd) (get_at rfl)).mono fun v H' q => ⟨(), q⟩, hpA, fun _ H1 e1 => ?_⟩
  rw [e1]
  refine ⟨rfl, rfl, rfl, trivial, trivial, rfl, trivial, (z26 (st := st) (st2 := .own none) (get_at rfl) (by rw [hB d hdl]; exact hd)).mono fun v H' q => ⟨(), q⟩, hpB, fun _ H1 e1 => ?_⟩
  rw [e1]
  exact ⟨rfl, rfl, Leads.at (nAh v n s 2) (by kernel_rfl) (hend _ ((hw.new _).new _) ((Kept.new _ _ _).trans (Kept.new _ _ _)))⟩

theorem clone_own {v : AV} {cs : List AV} (h : SlR H v cs) (hlen : cs.length ≤ 1000000) (hsg : cs.all AV.single = true) (hne : cs ≠ []) : Ret P w0 35 [v] H (fun _ => False) fun x H' => (Lst H' x 3 cs ∧ ∀ m, LN H' x m → H.nx ≤ m) ∧ Kept (fun _ => False) H H' := Ret.mk fun below hp => by
  refine Leads.wf fun hw => ?_
  obtain ⟨b, h1, h2, h3⟩ := eql_nil h
  cases b with
  | true => exact absurd (h3 rfl) hne
  | false =>
    let H1 := H.new (.row [] 3 true (.own none))
    have hg1 : H1.get H.nx = some (.row [] 3 true (.own none)) := by show (H.new _).get _ = _; rw [get_new, if_pos rfl]
    have hv1 : SlR H1 v cs := h.congr fun n off hb => by show (H.new _).get _ = _; rw [get_new, if_neg (by have := h.lt hw hb; omega)]
    have hbase : aAppend P H1 [34, 34] [.slice H.nx 0 0 0, v] = appTo P H1 3 1 cs.length cs (.slice H.nx 0 0 0) := by
      obtain ⟨zv, hz, hzl⟩ := et34.z
      unfold aAppend
      simp only [et34.und, et34.sz, hz, List.head?_cons, et34.made, appN, hv1.len, hv1.first, Option.bind_some, Option.map_some, Bool.false_eq_true, if_false]
      rw [if_pos (by simp [hzl, et34.und]), if_pos (by simp)]
    have hn : ¬ cs.length = 0 := fun e => hne (List.length_eq_zero_iff.1 e)
    have hroom := et34.roomy (n := 0 + cs.length) (by omega)
    have hg2 : (H1.new (.row ((([] : List AV).drop 0).take (0 * 1) ++ cs) 3 false (.own none))).get H1.nx = some (.row cs 3 false (.own none)) := by rw [get_new, if_pos rfl]; rfl
    refine Leads.go fine (cloS w0 _ _ below v (.eslice H1.nx 0 (0 + cs.length) 1) H (H1.new (.row ((([] : List AV).drop 0).take (0 * 1) ++ cs) 3 false (.own none))) []) (by kernel_rfl) ⟨⟨h2, h1⟩, rfl, trivial, ?_, by unfold apartOk; simp, ⟨.inr ⟨H1.nx, none, by rw [Nat.zero_add], hg2, hne, fun m hm => by cases hm⟩, fun m hm => ?_⟩, (Kept.new _ _ _).trans (Kept.new _ _ _)⟩
    · rw [hbase]
      simp only [appTo, appSlice, hg1]
      rw [if_neg (by omega), if_pos (by simpa using hroom)]
    · obtain ⟨a, b, q1, q2⟩ := hm
      simp [slBase] at q1
      obtain ⟨rfl, rfl⟩ := q1
      rw [stOld_eq hg2] at q2
      have : H1.nx = H.nx + 1 := rfl
      rcases q2 with rfl | q2
      · omega
      · cases q2

theorem order_own {d : Nat} {order idom : List Int} {pl : Fn} {vg vp vo vi : AV} {pm : Nat} (h : DomIs H S d g order pl idom vg vp vo vi pm hs) (hlen : order.length ≤ 1000000) (hne : order ≠ []) : Ret P w0 14 [.ptr d 0] H (fun _ => False) fun x H' => (Lst H' x 3 (order.map kI) ∧ ∀ m, LN H' x m → H.nx ≤ m) ∧ Kept (fun _ => False) H H' := Ret.mk fun below hp =>
  Leads.go fine (ord0 w0 _ _ below d vo H fun x H' => (Lst H' x 3 (order.map kI) ∧ ∀ m, LN H' x m → H.nx ≤ m) ∧ Kept (fun _ => False) H H') (by kernel_rfl)
    ⟨rfl, h.rd.2.2.1, trivial, (clone_own h.ord (by simpa using hlen) (by simp [List.all_eq_true]; intro x hx; rfl) (by simpa using hne)).mono fun v H' q => ⟨v, rfl, q⟩, hp, fun x H' q => q⟩

/-- Rows that are written over: what else there was is as it was. -/
structure ZSt (Hb H : AH) (lo hi : Nat) (x : AV) (os : List AV) (gd : List (List Int)) : Prop where
  nx : Hb.nx ≤ H.nx
  same : ∀ m, m < Hb.nx → (m < lo ∨ hi ≤ m) → H.get m = Hb.get m
  top : Lst H x 34 os
  len : os.length = gd.length
  row : ∀ (i : Nat) (h : AV) (l : List Int), os[i]? = some h → gd[i]? = some l → ∃ cs, cs.length = l.length ∧ Lst H h 3 cs ∧ ∀ m, LN H h m → (lo ≤ m ∧ m < hi) ∧ ¬ LN H x m
  dis : ∀ (i j : Nat) (h h' : AV), os[i]? = some h → os[j]? = some h' → i ≠ j → ∀ m, LN H h m → ¬ LN H h' m

theorem ZSt.store {Hb H : AH} {lo hi : Nat} {x : AV} {os : List AV} {gd : List (List Int)} (hw : Wf H) (h : ZSt Hb H lo hi x os gd) {i j : Nat} {y : AV} {l : List Int} (hi' : os[i]? = some y) (hl : gd[i]? = some l) (hj : j < l.length) (c : AV) :
    ∃ n off, slBase y = some (n, off) ∧ SlAt y n off (j : Int) ∧ StOk H n (off + j) 1 ∧ ZSt Hb (stO H n (off + j) [c]) lo hi x os gd ∧ ∀ (W : Nat → Prop) (pend : List Nat), Pok H W pend → (∀ m, lo ≤ m → W m) → AOk H pend (n :: stOld H n) := by
  obtain ⟨cs, hc, hL, hN⟩ := h.row i y l hi' hl
  obtain ⟨n, off, hb⟩ := hL.slr.some_base (fun e => by rw [e] at hc; simp at hc; omega)
  obtain ⟨s1, s2, s3, s4, s5⟩ := hL.store hb (i := j) (by omega) c
  obtain ⟨u1, _⟩ := hL.slr.at hb (i := j) (c := cs[j]'(by omega)) (List.getElem?_eq_getElem (by omega))
  have hg : ∀ m, m < H.nx → ¬ LN H y m → (stO H n (off + j) [c]).get m = H.get m := fun m hlt hm => s3.get m hlt hm
  have sx : ∀ m off', slBase x = some (m, off') → (stO H n (off + j) [c]).get m = H.get m := fun m off' hb' => hg m (h.top.lt hw ⟨m, off', hb', .inl rfl⟩) fun hy => (hN m hy).2 ⟨m, off', hb', .inl rfl⟩
  have lx : ∀ m, LN (stO H n (off + j) [c]) x m ↔ LN H x m := LN_same sx
  have other : ∀ (k : Nat) (y' : AV), os[k]? = some y' → k ≠ i → ∀ m off', slBase y' = some (m, off') → (stO H n (off + j) [c]).get m = H.get m := fun k y' hk hne m off' hb' => by
    have hkl : k < gd.length := by rw [← h.len]; exact (List.getElem?_eq_some_iff.1 hk).1
    obtain ⟨_, _, q, _⟩ := h.row k y' _ hk (List.getElem?_eq_getElem hkl)
    exact hg m (q.lt hw ⟨m, off', hb', .inl rfl⟩) fun hy => h.dis k i y' y hk hi' hne m ⟨m, off', hb', .inl rfl⟩ hy
  have lnr : ∀ (k : Nat) (y' : AV), os[k]? = some y' → ∀ m, LN (stO H n (off + j) [c]) y' m → LN H y' m := fun k y' hk m hm => by
    by_cases e : k = i
    · subst e
      rw [hi'] at hk
      cases hk
      exact s4 m hm
    · exact (LN_same (other k y' hk e) m).1 hm
  refine ⟨n, off, hb, u1, s1, ⟨?_, fun m hm ho => ?_, h.top.congr sx, h.len, fun k y' l' hk hl' => ?_, fun a b ya yb ha hb' hab m hm hm' => h.dis a b ya yb ha hb' hab m (lnr a ya ha m hm) (lnr b yb hb' m hm')⟩, fun W pend hp hW => s5 W pend hp fun m hm => .inl (hW m (hN m hm).1.1)⟩
  · rw [nx_stO]; exact h.nx
  · rw [hg m (Nat.lt_of_lt_of_le hm h.nx) fun hy => by have := (hN m hy).1; omega]
    exact h.same m hm ho
  · obtain ⟨cs', c1, c2, c3⟩ := h.row k y' l' hk hl'
    by_cases e : k = i
    · subst e
      rw [hi'] at hk
      cases hk
      rw [hl] at hl'
      cases hl'
      exact ⟨_, by simpa using hc, s2, fun m hm => ⟨(hN m (s4 m hm)).1, fun hx => (hN m (s4 m hm)).2 ((lx m).1 hx)⟩⟩
    · exact ⟨cs', c1, c2.congr (other k y' hk e), fun m hm => ⟨(c3 m (lnr k y' hk m hm)).1, fun hx => (c3 m (lnr k y' hk m hm)).2 ((lx m).1 hx)⟩⟩

def nBh (n : Int) (x : AV) (d e len : Nat) (i : Int) : List (Nat × AV) := [(1, .int .i64 n), (7, x), (8, .ptr d 0), (11, .ptr e 0), (114, .int .i64 len), (115, .int .i64 i)]

def nCh (n : Int) (x : AV) (d e len : Nat) (i : Int) (sl : Nat) (j : Int) : List (Nat × AV) := [(1, .int .i64 n), (7, x), (8, .ptr d 0), (11, .ptr e 0), (13, .int .i64 i), (114, .int .i64 len), (115, .int .i64 i), (122, .int .i64 sl), (123, .int .i64 j)]

def nDh (n : Int) (d e : Nat) (o : AV) (len : Nat) (k : Int) : List (Nat × AV) := [(1, .int .i64 n), (8, .ptr d 0), (11, .ptr e 0), (15, o), (137, .int .i64 len), (138, .int .i64 k)]

theorem zC_loop {H0 Hb : AH} {lo hi : Nat} {x : AV} {os : List AV} {gd : List (List Int)} (hw0 : Wf H0) (hp : Pok H0 (fun _ => False) (stackPend below)) (hlo : H0.nx ≤ lo) (hk0 : Kept (fun _ => False) H0 Hb) {Kr : AV → AH → Prop} {d e len i : Nat} {l : List Int} {y : AV} (hi1 : i < 1000) (hi' : os[i]? = some y) (hl : gd[i]? = some l) (hll : l.length ≤ 1000)
    (hend : ∀ H, ZSt Hb H lo hi x os gd → ∀ z, Leads P w0 (RetK P 7 below Kr) ⟨w dnB (setL (tz 159 z) (nBh n x d e len (i + 1 : Nat))), below, H⟩) :
    ∀ (k j : Nat) (H : AH), j + k = l.length → ZSt Hb H lo hi x os gd → ∀ z, Leads P w0 (RetK P 7 below Kr) ⟨w dnC (setL (tz 159 z) (nCh n x d e len i l.length j)), below, H⟩ := by
  intro k
  induction k with
  | zero =>
    intro j H hk h z
    refine Leads.go fine (nnCe w0 _ _ below z n d e len x i j l.length H) rfl ⟨by simp; omega, ?_⟩
    rw [wrap1 i (by omega)]
    exact Leads.at (nBh n x d e len (i + 1 : Nat)) (by kernel_rfl) (hend H h)
  | succ k ih =>
    intro j H hk h z
    refine Leads.wf fun hw => ?_
    obtain ⟨b, bo, hb, u1, u2, u3, u4⟩ := h.store hw hi' hl (j := j) (by omega) (.int .i64 0)
    obtain ⟨a, ao, hba⟩ := h.top.slr.some_base (fun e => by rw [e] at hi'; simp at hi')
    obtain ⟨q1, q2⟩ := h.top.slr.at hba hi'
    have ej : bo + Int.toNat (j : Int) * 1 = bo + j := by omega
    have hvc := nnC w0 (Leads P w0 (RetK P 7 below Kr)) Kr below z n d e len x y i j a ao b bo l.length H
    rw [ej] at hvc
    refine Leads.go fine hvc rfl ⟨by simp; omega, q1, by simpa using q2, u1, rfl, u2, u4 (fun m => H0.nx ≤ m) _ (pok_new hw0 hp fun m hm => ?_) (fun m hm => by omega), ?_⟩
    · rw [h.same m (by have := hk0.nx; omega) (.inl (by omega))]
      exact hk0.get m hm (fun h => h)
    · rw [wrap1 j (by omega)]
      exact Leads.at (nCh n x d e len i l.length (j + 1 : Nat)) (by kernel_rfl) (ih (j + 1) _ (by omega) u3)

theorem zB_loop {H0 Hb : AH} {lo hi : Nat} {x : AV} {os : List AV} {gd : List (List Int)} (hw0 : Wf H0) (hp : Pok H0 (fun _ => False) (stackPend below)) (hlo : H0.nx ≤ lo) (hk0 : Kept (fun _ => False) H0 Hb) {Kr : AV → AH → Prop} {d e : Nat} (hg : gd.length ≤ 500) (hll : ∀ l ∈ gd, l.length ≤ 1000)
    (hend : ∀ H, ZSt Hb H lo hi x os gd → ∀ z, Leads P w0 (RetK P 7 below Kr) ⟨w dnB (setL (tz 159 z) (nBh n x d e gd.length (gd.length : Nat))), below, H⟩) :
    ∀ (k i : Nat) (H : AH), i + k = gd.length → ZSt Hb H lo hi x os gd → ∀ z, Leads P w0 (RetK P 7 below Kr) ⟨w dnB (setL (tz 159 z) (nBh n x d e gd.length i)), below, H⟩ := by
  intro k
  induction k with
  | zero =>
    intro i H hk h z
    have : i = gd.length := by omega
    subst this
    exact hend H h z
  | succ k ih =>
    intro i H hk h z
    have hl : gd[i]? = some gd[i] := List.getElem?_eq_getElem (by omega)
    have hio : i < os.length := by have := h.len; omega
    have hi' : os[i]? = some os[i] := List.getElem?_eq_getElem hio
    obtain ⟨cs, c1, c2, c3⟩ := h.row i _ _ hi' hl
    obtain ⟨a, ao, hba⟩ := h.top.slr.some_base (fun e => by rw [e] at hio; simp at hio)
    obtain ⟨q1, q2⟩ := h.top.slr.at hba hi'
    refine Leads.go fine (nnB w0 _ _ below z n d e gd.length x _ i a ao gd[i].length H) rfl ⟨by simp; omega, q1, by simpa using q2, by have := c2.slr.aLen (P := P) et34.und; rw [c1] at this; exact this, ?_⟩
    exact Leads.at (nCh n x d e gd.length i gd[i].length (0 : Nat)) (by kernel_rfl) (zC_loop hw0 hp hlo hk0 (by omega) hi' hl (hll _ (List.getElem_mem _)) (fun H h z => ih (i + 1) H (by omega) h z) gd[i].length 0 H (by omega) h)

theorem zD_loop {H0 Hd : AH} {o : AV} {N : Nat} (hw0 : Wf H0) (hp : Pok H0 (fun _ => False) (stackPend below)) (hk0 : Kept (fun _ => False) H0 Hd) (hN : H0.nx ≤ N) (hNd : N ≤ Hd.nx) {Kr : AV → AH → Prop} {d e len : Nat} (hlen : len ≤ 1000000)
    (hend : ∀ H, (∀ m, m < N → H.get m = Hd.get m) → Hd.nx ≤ H.nx → ∀ z, Leads P w0 (RetK P 7 below Kr) ⟨w dnD (setL (tz 159 z) (nDh n d e o len (len : Nat))), below, H⟩) :
    ∀ (k j : Nat) (H : AH) (cs : List AV), j + k = len → cs.length = len → Lst H o 3 cs → (∀ m, LN H o m → N ≤ m) → (∀ m, m < N → H.get m = Hd.get m) → Hd.nx ≤ H.nx → ∀ z, Leads P w0 (RetK P 7 below Kr) ⟨w dnD (setL (tz 159 z) (nDh n d e o len j)), below, H⟩ := by
  intro k
  induction k with
  | zero =>
    intro j H cs hk hc hL hN same nx z
    have : j = len := by omega
    subst this
    exact hend H same nx z
  | succ k ih =>
    intro j H cs hk hc hL hN' same nx z
    obtain ⟨b, bo, hb⟩ := hL.slr.some_base (fun e => by rw [e] at hc; simp at hc; omega)
    obtain ⟨s1, s2, s3, s4, s5⟩ := hL.store hb (i := j) (by omega) (.int .i64 (-9))
    obtain ⟨u1, _⟩ := hL.slr.at hb (i := j) (c := cs[j]'(by omega)) (List.getElem?_eq_getElem (by omega))
    have ej : bo + Int.toNat (j : Int) * 1 = bo + j := by omega
    have hvc := nnD w0 (Leads P w0 (RetK P 7 below Kr)) Kr below z n d e len o j b bo H
    rw [ej] at hvc
    refine Leads.go fine hvc rfl ⟨by simp; omega, u1, rfl, s1, s5 (fun m => H0.nx ≤ m) _ (pok_new hw0 hp fun m hm => ?_) (fun m hm => .inl (by have := hN' m hm; omega)), ?_⟩
    · rw [same m (by omega)]
      exact hk0.get m hm (fun h => h)
    · rw [wrap1 j (by omega)]
      refine Leads.at (nDh n d e o len (j + 1 : Nat)) (by kernel_rfl) (ih (j + 1) _ (cs.set j (.int .i64 (-9))) (by omega) (by simpa using hc) s2 (fun m hm => hN' m (s4 m hm)) (fun m hm => ?_) (by rw [nx_stO]; exact nx))
      rw [s3.get m (by omega) (fun hx => by have := hN' m hx; omega)]
      exact same m hm

theorem RefOk.far {Hm H H' : AH} {e : Nat} {x : AV} {G : List (List Int)} {sf : Seen} {done : List Int} (hw : Wf H) (h : RefOk Hm H e x G sf done) (old : ∀ m, Hm.nx ≤ m → m < H.nx → H'.get m = H.get m) : RefOk Hm H' e x G sf done := by
  obtain ⟨vov, vo, sn, ovs, r1, r2, r3, r4, r5, r6, r7, r8, r9, r10⟩ := h
  have hlt : ∀ {m o}, Hm.nx ≤ m → H.get m = some o → H'.get m = some o := fun {m o} h1 hm => by rw [old m h1 (hw m o hm)]; exact hm
  refine ⟨vov, vo, sn, ovs, hlt r2 r1, r2, r3, r4.congr fun n off hb => old n (r5 n off hb) (r4.lt hw hb), r5, hlt r3 r6, r7.congr fun n off hb => old n (r8 n off hb) (r7.lt hw hb), r8, r9, fun i hi => ?_⟩
  obtain ⟨on, o1, o2, wf, o3, o4⟩ := r10 i hi
  exact ⟨on, o1, o2, wf, o3, hlt o2 o4⟩

theorem preds_big {G : List (List Int)} (hG : ∀ l ∈ G, l.length ≤ 1024) (o : List Int) (ho : o.length ≤ 1024) : ∀ l ∈ predsAll G o (List.replicate G.length []), l.length ≤ big := fun l hl => by
  have h1 := len_total _ l hl
  have h2 := total_all G hG o (List.replicate G.length [])
  rw [total_rep] at h2
  unfold big
  omega
end

section
variable {w0 : World} {H0 : AH} {S : Nat → Prop} {v : AV} {g : List (List Int)} {hs : List AV} {below : List AFr}

theorem dn_end {HF : AH} {d e : Nat} {S1 S2 : Nat → Prop} {G : List (List Int)} {done nodes : List Int} {upF : Fn} {sf : Seen} {sn : Nat} {vg vp vo vi x' vov rvo : AV} {pm len : Nat} {hs' os' ovs : List AV} {k n : Int} (hk : decide (k < (len : Int)) = false) (hp : Pok HF (fun _ => False) (stackPend below)) (hwF : Wf HF) (hG : Go.Proofs.DomP.Good G) (M : Made G sf done nodes upF) (hl1 : G.length ≤ 24) (hl2 : ∀ l ∈ G, l.length ≤ 24)
    (hD : DomIs HF S1 d G (0 :: nodes) (placeF (0 :: nodes) 0 fun _ => none) (idomF upF G.length) vg vp vo vi pm hs') (hS1 : ∀ m, S1 m → m < HF.nx) (hR : RfIs HF S2 e sn x' vov G os' ovs sf (OvB nodes upF)) (hS2 : ∀ m, S2 m → m < HF.nx) (hr2 : rdAt HF e 2 = some rvo) (hrs : SlR HF rvo (done.map kI)) {Kr : AV → AH → Prop} {o : AV} (hend : ∀ H', Kept (fun _ => False) HF H' → Kr (.bool true) H') :
    ∀ z, Leads P w0 (RetK P 7 below Kr) ⟨w dnD (setL (tz 159 z) (nDh n d e o len k)), below, HF⟩ := fun z => by
  have hlen := M.len
  have hrev := M.rev
  have hol : (0 :: nodes).length ≤ 24 := by rw [← hrev, List.length_reverse]; omega
  have mv : ∀ {H H' : AH} {x : AV} {l : List Int}, Wf H → SlR H x (l.map kI) → Kept (fun _ => False) H H' → SlR H' x (l.map kI) := fun hw h k => h.congr fun m off hb => k.get m (h.lt hw hb) (fun h => h)
  refine Leads.go fine (nnDe w0 _ _ below z n d e len o k HF (fun x H' => OrdQ HF (0 :: nodes) x H' ∧ Wf H') (fun H1 x H' => OrdQ H1 done.reverse x H' ∧ Wf H') (fun H3 x H' => OrdQ H3 (risL (frontB (placeF (0 :: nodes) 0 fun _ => none) (ovF upF) G (0 :: nodes) n) G.length) x H' ∧ Wf H') (fun H4 x H' => OrdQ H4 (risL (rfB G (OvB nodes upF) n) G.length) x H')) rfl ⟨hk, trivial, (order_ret hD (by omega)).wf.mono fun y H' q => ⟨y, rfl, q⟩, hp, fun x1 H1 q1 => ?_⟩
  obtain ⟨⟨a1, _, k1⟩, w1⟩ := q1
  have hp1 := pokK hwF hp k1
  have he1 : rdAt H1 e 2 = some rvo := by rw [rdAt_congr (k1.get e (rdAt_lt hwF hr2) (fun h => h))]; exact hr2
  refine ⟨trivial, (rorder_ret he1 (mv hwF hrs k1) (by omega)).wf.mono fun y H' q => ⟨y, rfl, q⟩, hp1, fun x2 H2 q2 => ?_⟩
  obtain ⟨⟨a2, _, k2⟩, w2⟩ := q2
  have hp2 := pokK w1 hp1 k2
  have heq := equal_ret (w0 := w0) (mv w1 a1 k2) a2 (by omega)
  rw [hrev, decide_eq_true rfl] at heq
  refine ⟨trivial, heq.mono fun y H' q => ⟨(), q⟩, hp2, fun _ H3 e3 => ⟨rfl, trivial, ?_⟩⟩
  rw [e3]
  have k02 := k1.trans k2
  have hD2 := hD.congr (H' := H2) fun m hm => k02.get m (hS1 m hm) (fun h => h)
  refine ⟨(front_ret hD2 (fun m hm => Nat.lt_of_lt_of_le (hS1 m hm) k02.nx) M.hO M.hV (by omega) (preds_big (fun l hl => by have := hl2 l hl; omega) _ (by omega)) n).wf.mono fun y H' q => ⟨y, rfl, q⟩, hp2, fun x3 H4 q4 => ?_⟩
  obtain ⟨⟨a3, _, k3⟩, w4⟩ := q4
  have hp4 := pokK w2 hp2 k3
  have k04 := k02.trans k3
  have hR4 := hR.congr hwF hS2 fun m hm => k04.get m hm (fun h => h)
  refine ⟨trivial, (rfront_ret hR4 (fun m hm => Nat.lt_of_lt_of_le (hS2 m hm) k04.nx) (fun l hl => by have := hl2 l hl; omega) (by omega) n).mono fun y H' q => ⟨y, rfl, q⟩, hp4, fun x4 H5 q5 => ?_⟩
  obtain ⟨a4, _, k5⟩ := q5
  have hp5 := pokK w4 hp4 k5
  have heq := equal_ret (w0 := w0) (mv w4 a3 k5) a4 (by have := risL_len (frontB (placeF (0 :: nodes) 0 fun _ => none) (ovF upF) G (0 :: nodes) n) G.length; omega)
  rw [front_eq hG M, decide_eq_true rfl] at heq
  refine ⟨trivial, heq.mono fun y H' q => ⟨(), q⟩, hp5, fun _ H6 e6 => ⟨rfl, ?_⟩⟩
  rw [e6]
  exact hend H5 (k04.trans k5)

theorem dn_mid {HC : AH} {s : Nat} {n : Int} (hw : Wf H0) (hp : Pok H0 (fun _ => False) (stackPend below)) (hmat : MatB H0 S v g hs) (hS : ∀ m, S m → m < H0.nx) (hwC : Wf HC) (kC : Kept (fun _ => False) H0 HC) : ∀ z, Leads P w0 (RetK P 7 below (KR H0)) ⟨w dnA (setL (tz 159 z) (nAh v n s 2)), below, HC⟩ := fun z => by
  have hpC := pokK hw hp kC
  have hmC : MatB HC S v g hs := hmat.congr fun m hm => kC.get m (hS m hm) (fun h => h)
  have hSC : ∀ m, S m → m < HC.nx := fun m hm => Nat.lt_of_lt_of_le (hS m hm) kC.nx
  by_cases hg : g = []
  · have hbad : ¬ (0 < (cutG g).length ∧ (cutG g).length ≤ 1024 ∧ (∀ l ∈ cutG g, l.length ≤ 1024) ∧ Go.Proofs.DomP.Good (cutG g)) := fun h => by rw [cutG_nil hg] at h; simp at h
    have h0 : (cutG g).length = 0 := by rw [cutG_nil hg]; rfl
    refine Leads.go fine (nnE w0 _ _ below z v n s g.length HC (fun x H1 => CutQ HC g x H1 ∧ Wf H1) (fun x H1 H2 => Kept (fun _ => False) H1 H2)) rfl ⟨by decide, trivial, (cut_ret hmC hSC).mono fun y H1 q => ⟨y, rfl, q⟩, hpC, fun x H1 q => ?_⟩
    obtain ⟨⟨⟨os, hm, _⟩, _, k1⟩, w1⟩ := q
    have hA := new_ret (w0 := w0) hm (k := 0) (sf := fun _ => false) (done := []) (nodes := []) (upF := up0) fun q1 q2 q3 q4 => absurd ⟨q1, q2, q3, q4⟩ hbad
    refine ⟨trivial, hA.mono fun y H2 q => ⟨(), ?_, keptOf q.1 q.2.1⟩, pokK hwC hpC k1, fun _ H2 k2 => ⟨rfl, ?_, ?_, (kC.trans k1).trans k2⟩⟩
    · rcases q.2.2 with q | q | q | q
      · exact q.2
      · omega
      · omega
      · omega
    · have := (hmC.congr (H' := H2) fun m hm => (k1.trans k2).get m (hSC m hm) (fun h => h)).top.aLen (P := P) et41
      rw [hmC.len] at this
      exact this
    · rw [hg]; rfl
  · have hgood := cutG_good hmat.byte
    have hpos := cutG_pos hg
    have hle := cutG_le g
    have hl1 : (cutG g).length ≤ 24 := by rw [cutG_len]; omega
    have hl2 : ∀ l ∈ cutG g, l.length ≤ 24 := fun l hl => cutG_row hl
    obtain ⟨sf, done, nodes, upF, M⟩ := made hgood hpos
    obtain ⟨k, ok⟩ := M.ok
    have hlen := M.len
    have hrev := M.rev
    refine Leads.go fine (nnO w0 _ _ below z v n s (cutG g).length HC (fun x H1 => (∃ os, CutX HC g x H1 os) ∧ Wf H1) (fun x H1 d H2 => (NewOk H1 H2 d (cutG g) done.reverse (placeF done.reverse 0 fun _ => none) (idomF upF (cutG g).length) ∧ Kept (fun _ => False) H1 H2) ∧ Wf H2) (fun x H1 d H2 p H3 => BothO H2 g sf done nodes upF p.1 p.2 H3 ∧ Wf H3)) rfl ⟨by decide, trivial, (cut_ret2 hmC hSC).mono fun y H1 q => ⟨y, rfl, q⟩, hpC, fun x H1 q => ?_⟩
    obtain ⟨⟨os, hX⟩, w1⟩ := q
    have k1 := hX.kept
    have hp1 := pokK hwC hpC k1
    have hA := (new_ret (w0 := w0) hX.mat fun _ _ _ _ => ok).wf
    refine ⟨trivial, hA.mono fun y H2 q => ?_, hp1, fun d H2 q => ?_⟩
    · obtain ⟨⟨q1, q2, q3⟩, qw⟩ := q
      rcases q3 with ⟨q3, _⟩ | ⟨_, q3, _⟩ | ⟨_, _, _, q3, _⟩ | ⟨_, _, _, _, d, q4, q5⟩
      · omega
      · rcases q3 with q3 | ⟨l, hl, q3⟩
        · omega
        · have := hl2 l hl; omega
      · exact absurd hgood q3
      · exact ⟨d, q4, ⟨q5, keptOf q1 q2⟩, qw⟩
    obtain ⟨⟨⟨vg, vp, vo, vi, pm, hs', hD, _, _⟩, k2⟩, w2⟩ := q
    rw [hrev] at hD
    have hp2 := pokK w1 hp1 k2
    have hm2 : MatB H2 S v g hs := hmC.congr fun m hm => (k1.trans k2).get m (hSC m hm) (fun h => h)
    refine ⟨rfl, trivial, (both_ok hm2 (fun m hm => Nat.lt_of_lt_of_le (hSC m hm) (k1.trans k2).nx) hg M).mono fun y H3 q => ?_, hp2, fun p H3 q => ?_⟩
    · obtain ⟨⟨p, q1, q2⟩, q3⟩ := q
      exact ⟨p, q1, q2, q3⟩
    obtain ⟨⟨_, ⟨Hm, x', os', hHm, hRf, hmx⟩, k3⟩, w3⟩ := q
    have k13 := k2.trans k3
    have kH3 : Kept (fun _ => False) H0 H3 := (kC.trans k1).trans k13
    have n1 := k1.nx
    have n2 := k2.nx
    have n3 := k3.nx
    have hmt : Lst H3 x 34 os := hX.lst.congr fun m off hb => k13.get m (hX.ln m ⟨m, off, hb, .inl rfl⟩).2 (fun h => h)
    have lx : ∀ m, LN H3 x m ↔ LN H1 x m := LN_same fun m off hb => k13.get m (hX.ln m ⟨m, off, hb, .inl rfl⟩).2 (fun h => h)
    have rws : ∀ (i : Nat) (h : AV), os[i]? = some h → ∃ l, (cutG g)[i]? = some l ∧ ∀ m off, slBase h = some (m, off) → H3.get m = H1.get m := fun i h hi => by
      have hil : i < (cutG g).length := by rw [← hX.mat.len]; exact (List.getElem?_eq_some_iff.1 hi).1
      exact ⟨_, List.getElem?_eq_getElem hil, fun m off hb => k13.get m ((hX.row i h _ hi (List.getElem?_eq_getElem hil)).2 m ⟨m, off, hb, .inl rfl⟩).1.2 (fun h => h)⟩
    have hZ : ZSt H3 H3 HC.nx H1.nx x os (cutG g) := ⟨Nat.le_refl _, fun _ _ _ => rfl, hmt, hX.mat.len, fun i h l hi hl => by
        obtain ⟨l', _, e⟩ := rws i h hi
        obtain ⟨r1, r2⟩ := hX.row i h l hi hl
        exact ⟨l.map kI, by simp, r1.congr e, fun m hm => ⟨(r2 m ((LN_same e m).1 hm)).1, fun hx => (r2 m ((LN_same e m).1 hm)).2 ((lx m).1 hx)⟩⟩,
      fun i j h h' hi hj hij m hm hm' => by
        obtain ⟨_, _, e⟩ := rws i h hi
        obtain ⟨_, _, e'⟩ := rws j h' hj
        exact hX.dis i j h h' hi hj hij m ((LN_same e m).1 hm) ((LN_same e' m).1 hm')⟩
    refine ⟨by have := hmt.slr.aLen (P := P) et22.und; rw [hX.mat.len] at this; exact this, Leads.at (nBh n x d p.2 (cutG g).length (0 : Nat)) (by kernel_rfl) (zB_loop hw hp kC.nx kH3 (by omega) (fun l hl => by have := hl2 l hl; omega) (fun H hz z => ?_) (cutG g).length 0 H3 (by omega) hZ)⟩
    refine Leads.wf fun wH => ?_
    have nH := hz.nx
    have kH : Kept (fun _ => False) H0 H := ⟨by have := kH3.nx; omega, fun m hm _ => by
      have := kC.nx
      rw [hz.same m (by omega) (.inl (by omega))]
      exact kH3.get m hm (fun h => h)⟩
    have hpH := pokK hw hp kH
    have hDH := (hD.congr (H' := H3) fun m hm => k3.get m hm.2 (fun h => h)).congr (H' := H) fun m hm => hz.same m (by have := hm.2; omega) (.inr hm.1)
    have hne : (0 :: nodes) ≠ [] := by simp
    have hol : (0 :: nodes).length ≤ 24 := by rw [← hrev, List.length_reverse]; omega
    refine Leads.go fine (nnBe w0 _ _ below z n d p.2 (cutG g).length x (cutG g).length (0 :: nodes).length H (fun o H' => ((Lst H' o 3 ((0 :: nodes).map kI) ∧ ∀ m, LN H' o m → H.nx ≤ m) ∧ Kept (fun _ => False) H H'))) rfl ⟨by simp, trivial, (order_own hDH (by omega) hne).mono fun y H' q => ⟨y, rfl, q⟩, hpH, fun o H4 q => ?_⟩
    obtain ⟨⟨o1, o2⟩, k4⟩ := q
    have k04 := kH.trans k4
    have n4 := k4.nx
    refine ⟨by have := o1.slr.aLen (P := P) et34.und; rw [List.length_map] at this; exact this, Leads.at (nDh n d p.2 o (0 :: nodes).length (0 : Nat)) (by kernel_rfl) (zD_loop hw hp k04 kH.nx n4 (by omega) (fun HF same nxF => ?_) (0 :: nodes).length 0 H4 _ (by omega) (by simp) o1 o2 (fun _ _ => rfl) (Nat.le_refl _))⟩
    have far : ∀ m, m < H3.nx → (m < HC.nx ∨ H1.nx ≤ m) → HF.get m = H3.get m := fun m hm ho => by
      rw [same m (by omega), k4.get m (by omega) (fun h => h)]
      exact hz.same m hm ho
    have kF : Kept (fun _ => False) H0 HF := ⟨by have := kH3.nx; omega, fun m hm _ => by
      have := kC.nx
      rw [far m (by omega) (.inl (by omega))]
      exact kH3.get m hm (fun h => h)⟩
    have hDF := (hD.congr (H' := H3) fun m hm => k3.get m hm.2 (fun h => h)).congr (H' := HF) fun m hm => far m (by have := hm.2; omega) (.inr hm.1)
    have hRF := hRf.far w3 (H' := HF) fun m h1 h2 => far m h2 (.inr (by omega))
    have hmF := hmx.congr (H' := HF) fun m hm => far m hm.2 (.inr (by have := hm.1; omega))
    obtain ⟨sn, vov, ovs, rvo, f1, f2, f3⟩ := rf_of hRF hmF M
    intro z
    refine Leads.wf fun wF => ?_
    exact dn_end (by simp) (pokK hw hp kF) wF hgood M hl1 hl2 hDF (fun m hm => by have := hm.2; omega) f1 (fun m hm => by have := hm.2; omega) f2 f3 (fun H' k => ⟨rfl, kF.trans k⟩) z

/-- DomNone IS TRUE. -/
theorem dnone_ret (hmat : MatB H0 S v g hs) (hS : ∀ m, S m → m < H0.nx) (n : Int) : Ret P w0 7 [v, .int .i64 n] H0 (fun _ => False) (KR H0) := Ret.mk fun below hp => by
  refine Leads.wf fun hw => ?_
  refine Leads.go fine (nn0 w0 _ _ below v n H0 (fun H1 => Kept (fun _ => False) H0 H1 ∧ Wf H1)) (by kernel_rfl) ⟨trivial, live_ret.wf.mono fun y H1 q => ⟨(), q.1.1, q.1.2, q.2⟩, hp, fun _ H1 q => ⟨rfl, trivial, trivial, ?_⟩⟩
  obtain ⟨k1, w1⟩ := q
  have kA : Kept (fun _ => False) H0 ((H1.new (.row zeroD 52 true (.own none))).new (.row [.nptr, .ptr H1.nx 0] 24 true (.own none))) := k1.trans ((Kept.new _ _ _).trans (Kept.new _ _ _))
  have wA : Wf ((H1.new (.row zeroD 52 true (.own none))).new (.row [.nptr, .ptr H1.nx 0] 24 true (.own none))) := (w1.new _).new _
  have nA : ((H1.new (.row zeroD 52 true (.own none))).new (.row [.nptr, .ptr H1.nx 0] 24 true (.own none))).nx = H1.nx + 2 := rfl
  have hsr : ((H1.new (.row zeroD 52 true (.own none))).new (.row [.nptr, .ptr H1.nx 0] 24 true (.own none))).get (H1.nx + 1) = some (.row [.nptr, .ptr H1.nx 0] 24 true (.own none)) := get_at rfl
  have hdr : ((H1.new (.row zeroD 52 true (.own none))).new (.row [.nptr, .ptr H1.nx 0] 24 true (.own none))).get H1.nx = some (.row zeroD 52 true (.own none)) := by
    rw [show ((H1.new (.row zeroD 52 true (.own none))).new (.row [.nptr, .ptr H1.nx 0] 24 true (.own none))).get H1.nx = _ from get_lt (Nat.lt_succ_self _)]
    exact get_at rfl
  have hpA := pokK hw hp kA
  refine Leads.at (nAh v n (H1.nx + 1) 0) (by kernel_rfl) (nnN_go wA hpA (by rw [rdAt_row hsr]; rfl) fun HB wB kB => ?_)
  have hdB : HB.get H1.nx = some (.row zeroD 52 true (.own none)) := by rw [kB.get _ (by omega) (fun h => h)]; exact hdr
  have hsB : rdAt HB (H1.nx + 1) 1 = some (.ptr H1.nx 0) := by rw [rdAt_congr (kB.get _ (by omega) (fun h => h)), rdAt_row hsr]; rfl
  exact nnZ_go wB (pokK wA hpA kB) hdB hsB fun HC wC kC => dn_mid hw hp hmat hS wC ((kA.trans kB).trans kC)
end
end Go.Dm
