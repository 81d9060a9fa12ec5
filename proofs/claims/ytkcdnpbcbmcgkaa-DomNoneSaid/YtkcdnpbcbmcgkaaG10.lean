/- The engine and the contracts, part 10. No condition beyond the hypotheses of each theorem. -/
import Derived.Test.YtkcdnpbcbmcgkaaG09
/- dom.New. -/
set_option linter.unusedVariables false
namespace Go.Dm
open Go Go.Sx Go.Sy Go.RowKit Go.Proofs.DomP

/-- What Repeat leaves. -/
def RepQ (H : AH) (r len : Nat) (H' : AH) : Prop := H'.get r = some (.row ((List.replicate len (-1 : Int)).map kI) 3 true (.own none)) ∧ (∀ j, j < H.nx → H'.get j = H.get j) ∧ H'.nx = H.nx + 1

set_option maxRecDepth 100000 in
theorem newA (w0 : World) (K : AM → Prop) (Kr : AV → AH → Prop) (below : List AFr) (len : Nat) (v : AV) (H H1 : AH) (b1 b2 : Bool) : (trun P w0 9 K Kr 300 0 [] ⟨frOf P 9 [v], below, H⟩ (.ln len (.v (.int .i64 len) (.hp H1 (.br .stop (.v (.int .i64 len) (.br .stop (.call Unit (fun _ => False) (fun _ => .bool b1) (fun _ H' => H' = H1) (fun _ _ => .br .stop (.call Unit (fun _ => False) (fun _ => .bool b2) (fun _ H' => H' = H1) (fun _ _ => .br .stop (.v (.int .i64 len) (.v (.int .i64 len) (.ord [(.ord [(.call Unit (fun _ => False) (fun _ => .slice (H1.nx + 3) 0 len len) (fun _ Hr => RepQ (((H1.new (.row (reps [AV.nslice 0 0] len) 34 true (.own none))).new (.map [] 0)).new (.row [.int .i64 (-1)] 3 true (.own none))) (H1.nx + 3) len Hr) (fun _ Hr => (.ln len .stop))), (.ord [(.call Unit (fun _ => False) (fun _ => .slice (H1.nx + 3) 0 len len) (fun _ Hr => RepQ (((H1.new (.row (reps [AV.nslice 0 0] len) 34 true (.own none))).new (.row [.int .i64 (-1)] 3 true (.own none))).new (.map [] 0)) (H1.nx + 3) len Hr) (fun _ Hr => (.ln len .stop))), (.call Unit (fun _ => False) (fun _ => .slice (H1.nx + 2) 0 len len) (fun _ Hr => RepQ ((H1.new (.row (reps [AV.nslice 0 0] len) 34 true (.own none))).new (.row [.int .i64 (-1)] 3 true (.own none))) (H1.nx + 2) len Hr) (fun _ Hr => (.ln len .stop)))])]), (.ord [(.call Unit (fun _ => False) (fun _ => .slice (H1.nx + 3) 0 len len) (fun _ Hr => RepQ (((H1.new (.map [] 0)).new (.row (reps [AV.nslice 0 0] len) 34 true (.own none))).new (.row [.int .i64 (-1)] 3 true (.own none))) (H1.nx + 3) len Hr) (fun _ Hr => (.ln len .stop))), (.ord [(.call Unit (fun _ => False) (fun _ => .slice (H1.nx + 3) 0 len len) (fun _ Hr => RepQ (((H1.new (.map [] 0)).new (.row [.int .i64 (-1)] 3 true (.own none))).new (.row (reps [AV.nslice 0 0] len) 34 true (.own none))) (H1.nx + 3) len Hr) (fun _ Hr => (.ln len .stop))), (.call Unit (fun _ => False) (fun _ => .slice (H1.nx + 2) 0 len len) (fun _ Hr => RepQ ((H1.new (.map [] 0)).new (.row [.int .i64 (-1)] 3 true (.own none))) (H1.nx + 2) len Hr) (fun _ Hr => (.ln len .stop)))])]), (.ord [(.ord [(.call Unit (fun _ => False) (fun _ => .slice (H1.nx + 3) 0 len len) (fun _ Hr => RepQ (((H1.new (.row [.int .i64 (-1)] 3 true (.own none))).new (.row (reps [AV.nslice 0 0] len) 34 true (.own none))).new (.map [] 0)) (H1.nx + 3) len Hr) (fun _ Hr => (.ln len .stop))), (.call Unit (fun _ => False) (fun _ => .slice (H1.nx + 2) 0 len len) (fun _ Hr => RepQ ((H1.new (.row [.int .i64 (-1)] 3 true (.own none))).new (.row (reps [AV.nslice 0 0] len) 34 true (.own none))) (H1.nx + 2) len Hr) (fun _ Hr => (.ln len .stop)))]), (.ord [(.call Unit (fun _ => False) (fun _ => .slice (H1.nx + 3) 0 len len) (fun _ Hr => RepQ (((H1.new (.row [.int .i64 (-1)] 3 true (.own none))).new (.map [] 0)).new (.row (reps [AV.nslice 0 0] len) 34 true (.own none))) (H1.nx + 3) len Hr) (fun _ Hr => (.ln len .stop))), (.call Unit (fun _ => False) (fun _ => .slice (H1.nx + 2) 0 len len) (fun _ Hr => RepQ ((H1.new (.row [.int .i64 (-1)] 3 true (.own none))).new (.map [] 0)) (H1.nx + 2) len Hr) (fun _ Hr => (.ln len .stop)))]), (.call Unit (fun _ => False) (fun _ => .slice (H1.nx + 1) 0 len len) (fun _ Hr => RepQ (H1.new (.row [.int .i64 (-1)] 3 true (.own none))) (H1.nx + 1) len Hr) (fun _ Hr => (.ord [(.ln len .stop), (.ln len .stop)])))])])))))))))))))) = (aLen P H 22 v = some (AV.int IntKind.i64 (↑len : Int), []) ∧ True ∧ AV.single (AV.int IntKind.i64 (↑len : Int)) = true ∧ StOk (AH.new H (AObj.row [AV.int IntKind.i64 (0 : Int)] 3 true (St.own none))) (AH.nx H) 0 1 ∧ apartOk (AH.new H (AObj.row [AV.int IntKind.i64 (0 : Int)] 3 true (St.own none))) (stackPend below) (AH.nx H :: stOld (AH.new H (AObj.row [AV.int IntKind.i64 (0 : Int)] 3 true (St.own none))) (AH.nx H)) = true ∧ rdAt (stO (AH.new H (AObj.row [AV.int IntKind.i64 (0 : Int)] 3 true (St.own none))) (AH.nx H) 0 [AV.int IntKind.i64 (↑len : Int)]) (AH.nx H) 0 = some (AV.int IntKind.i64 (↑len : Int)) ∧ HSame (stO (AH.new H (AObj.row [AV.int IntKind.i64 (0 : Int)] 3 true (St.own none))) (AH.nx H) 0 [AV.int IntKind.i64 (↑len : Int)]) H1 ∧ (((↑len : Int) == (0 : Int)) = true → Kr (AV.tuple [AV.nptr, AV.int IntKind.i64 (1 : Int)]) H1) ∧ (((↑len : Int) == (0 : Int)) = false → rdAt H1 (AH.nx H) 0 = some (AV.int IntKind.i64 (↑len : Int)) ∧ (decide ((↑len : Int) > (1024 : Int)) = true → Kr (AV.tuple [AV.nptr, AV.int IntKind.i64 (3 : Int)]) H1) ∧ (decide ((↑len : Int) > (1024 : Int)) = false → True ∧ (Ret P w0 29 [v, AV.func 30 [] []] H1 (fun (x : Nat) ↦ False) fun (v : AV) (H' : AH) ↦ ∃ (x : Unit), v = AV.bool b1 ∧ H' = H1) ∧ Pok H1 (fun (x : Nat) ↦ False) (stackPend below) ∧ ∀ (x : Unit) (H' : AH), H' = H1 → (b1 = true → Kr (AV.tuple [AV.nptr, AV.int IntKind.i64 (3 : Int)]) H') ∧ (b1 = false → True ∧ (Ret P w0 29 [v, AV.func 31 [] [AV.ptr (AH.nx H) 0]] H' (fun (x : Nat) ↦ False) fun (v : AV) (H' : AH) ↦ ∃ (x : Unit), v = AV.bool b2 ∧ H' = H1) ∧ Pok H' (fun (x : Nat) ↦ False) (stackPend below) ∧ ∀ (x : Unit) (H' : AH), H' = H1 → (b2 = true → Kr (AV.tuple [AV.nptr, AV.int IntKind.i64 (1 : Int)]) H') ∧ (b2 = false → rdAt H' (AH.nx H) 0 = some (AV.int IntKind.i64 (↑len : Int)) ∧ rdAt H' (AH.nx H) 0 = some (AV.int IntKind.i64 (↑len : Int)) ∧ (MkOk P 34 (↑len : Int) (↑len : Int) ∧ True ∧ (True ∧ True ∧ True ∧ (Ret P w0 34 [AV.slice (AH.nx H' + 1 + 1) 0 1 1, AV.int IntKind.i64 (↑len : Int)] (AH.new (AH.new (AH.new H' (AObj.row (reps [AV.nslice 0 0] (Int.toNat (↑len : Int))) 34 true (St.own none))) (AObj.map [] 0)) (AObj.row [AV.int IntKind.i64 (-1 : Int)] 3 true (St.own none))) (fun (x : Nat) ↦ False) fun (v : AV) (H' : AH) ↦ ∃ (x : Unit), v = AV.slice (AH.nx H1 + (3 : Nat)) (0 : Nat) len len ∧ RepQ (AH.new (AH.new (AH.new H1 (AObj.row (reps [AV.nslice (0 : Nat) (0 : Nat)] len) (34 : TypeId) true (St.own none))) (AObj.map [] (0 : Nat))) (AObj.row [AV.int IntKind.i64 (-1 : Int)] (3 : TypeId) true (St.own none))) (AH.nx H1 + (3 : Nat)) len H') ∧ Pok (AH.new (AH.new (AH.new H' (AObj.row (reps [AV.nslice 0 0] (Int.toNat (↑len : Int))) 34 true (St.own none))) (AObj.map [] 0)) (AObj.row [AV.int IntKind.i64 (-1 : Int)] 3 true (St.own none))) (fun (x : Nat) ↦ False) (stackPend below) ∧ ∀ (x : Unit) (H'_1 : AH), RepQ (AH.new (AH.new (AH.new H1 (AObj.row (reps [AV.nslice 0 0] len) 34 true (St.own none))) (AObj.map [] 0)) (AObj.row [AV.int IntKind.i64 (-1 : Int)] 3 true (St.own none))) (AH.nx H1 + 3) len H'_1 → True ∧ aLen P (AH.new H'_1 (AObj.row [AV.nslice 0 0, AV.slice (AH.nx H') 0 (Int.toNat (↑len : Int)) (Int.toNat (↑len : Int)), AV.nslice 0 0, AV.map (AH.nx H' + 1), AV.slice (AH.nx H1 + 3) 0 len len] 52 true (St.own none))) 22 v = some (AV.int IntKind.i64 (↑len : Int), []) ∧ K (AM.mk (w nB (tl [v, AV.tuple [], AV.nptr, AV.int IntKind.i64 (0 : Int), AV.ptr (AH.nx H) 0, AV.ptr (AH.nx H'_1) 0, AV.tuple [], AV.tuple [], v, AV.int IntKind.i64 (↑len : Int), AV.bool false, AV.int IntKind.i64 (↑len : Int), AV.bool ((↑len : Int) == (0 : Int)), AV.bool false, AV.int IntKind.i64 (↑len : Int), AV.bool (decide ((↑len : Int) > (1024 : Int))), v, AV.bool b1, AV.bool false, v, AV.func 31 [] [AV.ptr (AH.nx H) 0], AV.bool b2, AV.int IntKind.i64 (↑len : Int), AV.slice (AH.nx H') 0 (Int.toNat (↑len : Int)) (Int.toNat (↑len : Int)), AV.map (AH.nx H' + 1), AV.slice (AH.nx H' + 1 + 1) 0 1 1, AV.int IntKind.i64 (↑len : Int), AV.slice (AH.nx H1 + 3) 0 len len, AV.agg [AV.nslice 0 0, AV.slice (AH.nx H') 0 (Int.toNat (↑len : Int)) (Int.toNat (↑len : Int)), AV.nslice 0 0, AV.map (AH.nx H' + 1), AV.slice (AH.nx H1 + 3) 0 len len], AV.ptr (AH.nx H'_1) 0, v, AV.int IntKind.i64 (↑len : Int), AV.int IntKind.i64 (0 : Int), AV.tuple [], AV.tuple [], AV.tuple [], AV.tuple [], AV.tuple [], AV.tuple [], AV.tuple [], AV.tuple [], AV.tuple [], AV.tuple [], AV.tuple [], AV.tuple [], AV.tuple [], AV.tuple [], AV.tuple [], AV.tuple [], AV.tuple [], AV.tuple [], AV.tuple [], AV.tuple []])) below (AH.new H'_1 (AObj.row [AV.nslice 0 0, AV.slice (AH.nx H') 0 (Int.toNat (↑len : Int)) (Int.toNat (↑len : Int)), AV.nslice 0 0, AV.map (AH.nx H' + 1), AV.slice (AH.nx H1 + 3) 0 len len] 52 true (St.own none))))) ∧ True ∧ (True ∧ True ∧ (Ret P w0 34 [AV.slice (AH.nx H' + 1) 0 1 1, AV.int IntKind.i64 (↑len : Int)] (AH.new (AH.new (AH.new H' (AObj.row (reps [AV.nslice 0 0] (Int.toNat (↑len : Int))) 34 true (St.own none))) (AObj.row [AV.int IntKind.i64 (-1 : Int)] 3 true (St.own none))) (AObj.map [] 0)) (fun (x : Nat) ↦ False) fun (v : AV) (H' : AH) ↦ ∃ (x : Unit), v = AV.slice (AH.nx H1 + (3 : Nat)) (0 : Nat) len len ∧ RepQ (AH.new (AH.new (AH.new H1 (AObj.row (reps [AV.nslice (0 : Nat) (0 : Nat)] len) (34 : TypeId) true (St.own none))) (AObj.row [AV.int IntKind.i64 (-1 : Int)] (3 : TypeId) true (St.own none))) (AObj.map [] (0 : Nat))) (AH.nx H1 + (3 : Nat)) len H') ∧ Pok (AH.new (AH.new (AH.new H' (AObj.row (reps [AV.nslice 0 0] (Int.toNat (↑len : Int))) 34 true (St.own none))) (AObj.row [AV.int IntKind.i64 (-1 : Int)] 3 true (St.own none))) (AObj.map [] 0)) (fun (x : Nat) ↦ False) (stackPend below) ∧ ∀ (x : Unit) (H'_1 : AH), RepQ (AH.new (AH.new (AH.new H1 (AObj.row (reps [AV.nslice 0 0] len) 34 true (St.own none))) (AObj.row [AV.int IntKind.i64 (-1 : Int)] 3 true (St.own none))) (AObj.map [] 0)) (AH.nx H1 + 3) len H'_1 → True ∧ aLen P (AH.new H'_1 (AObj.row [AV.nslice 0 0, AV.slice (AH.nx H') 0 (Int.toNat (↑len : Int)) (Int.toNat (↑len : Int)), AV.nslice 0 0, AV.map (AH.nx H' + 1 + 1), AV.slice (AH.nx H1 + 3) 0 len len] 52 true (St.own none))) 22 v = some (AV.int IntKind.i64 (↑len : Int), []) ∧ K (AM.mk (w nB (tl [v, AV.tuple [], AV.nptr, AV.int IntKind.i64 (0 : Int), AV.ptr (AH.nx H) 0, AV.ptr (AH.nx H'_1) 0, AV.tuple [], AV.tuple [], v, AV.int IntKind.i64 (↑len : Int), AV.bool false, AV.int IntKind.i64 (↑len : Int), AV.bool ((↑len : Int) == (0 : Int)), AV.bool false, AV.int IntKind.i64 (↑len : Int), AV.bool (decide ((↑len : Int) > (1024 : Int))), v, AV.bool b1, AV.bool false, v, AV.func 31 [] [AV.ptr (AH.nx H) 0], AV.bool b2, AV.int IntKind.i64 (↑len : Int), AV.slice (AH.nx H') 0 (Int.toNat (↑len : Int)) (Int.toNat (↑len : Int)), AV.map (AH.nx H' + 1 + 1), AV.slice (AH.nx H' + 1) 0 1 1, AV.int IntKind.i64 (↑len : Int), AV.slice (AH.nx H1 + 3) 0 len len, AV.agg [AV.nslice 0 0, AV.slice (AH.nx H') 0 (Int.toNat (↑len : Int)) (Int.toNat (↑len : Int)), AV.nslice 0 0, AV.map (AH.nx H' + 1 + 1), AV.slice (AH.nx H1 + 3) 0 len len], AV.ptr (AH.nx H'_1) 0, v, AV.int IntKind.i64 (↑len : Int), AV.int IntKind.i64 (0 : Int), AV.tuple [], AV.tuple [], AV.tuple [], AV.tuple [], AV.tuple [], AV.tuple [], AV.tuple [], AV.tuple [], AV.tuple [], AV.tuple [], AV.tuple [], AV.tuple [], AV.tuple [], AV.tuple [], AV.tuple [], AV.tuple [], AV.tuple [], AV.tuple [], AV.tuple [], AV.tuple []])) below (AH.new H'_1 (AObj.row [AV.nslice 0 0, AV.slice (AH.nx H') 0 (Int.toNat (↑len : Int)) (Int.toNat (↑len : Int)), AV.nslice 0 0, AV.map (AH.nx H' + 1 + 1), AV.slice (AH.nx H1 + 3) 0 len len] 52 true (St.own none))))) ∧ True ∧ (Ret P w0 34 [AV.slice (AH.nx H' + 1) 0 1 1, AV.int IntKind.i64 (↑len : Int)] (AH.new (AH.new H' (AObj.row (reps [AV.nslice 0 0] (Int.toNat (↑len : Int))) 34 true (St.own none))) (AObj.row [AV.int IntKind.i64 (-1 : Int)] 3 true (St.own none))) (fun (x : Nat) ↦ False) fun (v : AV) (H' : AH) ↦ ∃ (x : Unit), v = AV.slice (AH.nx H1 + (2 : Nat)) (0 : Nat) len len ∧ RepQ (AH.new (AH.new H1 (AObj.row (reps [AV.nslice (0 : Nat) (0 : Nat)] len) (34 : TypeId) true (St.own none))) (AObj.row [AV.int IntKind.i64 (-1 : Int)] (3 : TypeId) true (St.own none))) (AH.nx H1 + (2 : Nat)) len H') ∧ Pok (AH.new (AH.new H' (AObj.row (reps [AV.nslice 0 0] (Int.toNat (↑len : Int))) 34 true (St.own none))) (AObj.row [AV.int IntKind.i64 (-1 : Int)] 3 true (St.own none))) (fun (x : Nat) ↦ False) (stackPend below) ∧ ∀ (x : Unit) (H'_1 : AH), RepQ (AH.new (AH.new H1 (AObj.row (reps [AV.nslice 0 0] len) 34 true (St.own none))) (AObj.row [AV.int IntKind.i64 (-1 : Int)] 3 true (St.own none))) (AH.nx H1 + 2) len H'_1 → True ∧ True ∧ aLen P (AH.new (AH.new H'_1 (AObj.map [] 0)) (AObj.row [AV.nslice 0 0, AV.slice (AH.nx H') 0 (Int.toNat (↑len : Int)) (Int.toNat (↑len : Int)), AV.nslice 0 0, AV.map (AH.nx H'_1), AV.slice (AH.nx H1 + 2) 0 len len] 52 true (St.own none))) 22 v = some (AV.int IntKind.i64 (↑len : Int), []) ∧ K (AM.mk (w nB (tl [v, AV.tuple [], AV.nptr, AV.int IntKind.i64 (0 : Int), AV.ptr (AH.nx H) 0, AV.ptr (AH.nx H'_1 + 1) 0, AV.tuple [], AV.tuple [], v, AV.int IntKind.i64 (↑len : Int), AV.bool false, AV.int IntKind.i64 (↑len : Int), AV.bool ((↑len : Int) == (0 : Int)), AV.bool false, AV.int IntKind.i64 (↑len : Int), AV.bool (decide ((↑len : Int) > (1024 : Int))), v, AV.bool b1, AV.bool false, v, AV.func 31 [] [AV.ptr (AH.nx H) 0], AV.bool b2, AV.int IntKind.i64 (↑len : Int), AV.slice (AH.nx H') 0 (Int.toNat (↑len : Int)) (Int.toNat (↑len : Int)), AV.map (AH.nx H'_1), AV.slice (AH.nx H' + 1) 0 1 1, AV.int IntKind.i64 (↑len : Int), AV.slice (AH.nx H1 + 2) 0 len len, AV.agg [AV.nslice 0 0, AV.slice (AH.nx H') 0 (Int.toNat (↑len : Int)) (Int.toNat (↑len : Int)), AV.nslice 0 0, AV.map (AH.nx H'_1), AV.slice (AH.nx H1 + 2) 0 len len], AV.ptr (AH.nx H'_1 + 1) 0, v, AV.int IntKind.i64 (↑len : Int), AV.int IntKind.i64 (0 : Int), AV.tuple [], AV.tuple [], AV.tuple [], AV.tuple [], AV.tuple [], AV.tuple [], AV.tuple [], AV.tuple [], AV.tuple [], AV.tuple [], AV.tuple [], AV.tuple [], AV.tuple [], AV.tuple [], AV.tuple [], AV.tuple [], AV.tuple [], AV.tuple [], AV.tuple [], AV.tuple []])) below (AH.new (AH.new H'_1 (AObj.map [] 0)) (AObj.row [AV.nslice 0 0, AV.slice (AH.nx H') 0 (Int.toNat (↑len : Int)) (Int.toNat (↑len : Int)), AV.nslice 0 0, AV.map (AH.nx H'_1), AV.slice (AH.nx H1 + 2) 0 len len] 52 true (St.own none))))) ∧ (True ∧ (MkOk P 34 (↑len : Int) (↑len : Int) ∧ True ∧ True ∧ True ∧ (Ret P w0 34 [AV.slice (AH.nx H' + 1 + 1) 0 1 1, AV.int IntKind.i64 (↑len : Int)] (AH.new (AH.new (AH.new H' (AObj.map [] 0)) (AObj.row (reps [AV.nslice 0 0] (Int.toNat (↑len : Int))) 34 true (St.own none))) (AObj.row [AV.int IntKind.i64 (-1 : Int)] 3 true (St.own none))) (fun (x : Nat) ↦ False) fun (v : AV) (H' : AH) ↦ ∃ (x : Unit), v = AV.slice (AH.nx H1 + (3 : Nat)) (0 : Nat) len len ∧ RepQ (AH.new (AH.new (AH.new H1 (AObj.map [] (0 : Nat))) (AObj.row (reps [AV.nslice (0 : Nat) (0 : Nat)] len) (34 : TypeId) true (St.own none))) (AObj.row [AV.int IntKind.i64 (-1 : Int)] (3 : TypeId) true (St.own none))) (AH.nx H1 + (3 : Nat)) len H') ∧ Pok (AH.new (AH.new (AH.new H' (AObj.map [] 0)) (AObj.row (reps [AV.nslice 0 0] (Int.toNat (↑len : Int))) 34 true (St.own none))) (AObj.row [AV.int IntKind.i64 (-1 : Int)] 3 true (St.own none))) (fun (x : Nat) ↦ False) (stackPend below) ∧ ∀ (x : Unit) (H'_1 : AH), RepQ (AH.new (AH.new (AH.new H1 (AObj.map [] 0)) (AObj.row (reps [AV.nslice 0 0] len) 34 true (St.own none))) (AObj.row [AV.int IntKind.i64 (-1 : Int)] 3 true (St.own none))) (AH.nx H1 + 3) len H'_1 → True ∧ aLen P (AH.new H'_1 (AObj.row [AV.nslice 0 0, AV.slice (AH.nx H' + 1) 0 (Int.toNat (↑len : Int)) (Int.toNat (↑len : Int)), AV.nslice 0 0, AV.map (AH.nx H'), AV.slice (AH.nx H1 + 3) 0 len len] 52 true (St.own none))) 22 v = some (AV.int IntKind.i64 (↑len : Int), []) ∧ K (AM.mk (w nB (tl [v, AV.tuple [], AV.nptr, AV.int IntKind.i64 (0 : Int), AV.ptr (AH.nx H) 0, AV.ptr (AH.nx H'_1) 0, AV.tuple [], AV.tuple [], v, AV.int IntKind.i64 (↑len : Int), AV.bool false, AV.int IntKind.i64 (↑len : Int), AV.bool ((↑len : Int) == (0 : Int)), AV.bool false, AV.int IntKind.i64 (↑len : Int), AV.bool (decide ((↑len : Int) > (1024 : Int))), v, AV.bool b1, AV.bool false, v, AV.func 31 [] [AV.ptr (AH.nx H) 0], AV.bool b2, AV.int IntKind.i64 (↑len : Int), AV.slice (AH.nx H' + 1) 0 (Int.toNat (↑len : Int)) (Int.toNat (↑len : Int)), AV.map (AH.nx H'), AV.slice (AH.nx H' + 1 + 1) 0 1 1, AV.int IntKind.i64 (↑len : Int), AV.slice (AH.nx H1 + 3) 0 len len, AV.agg [AV.nslice 0 0, AV.slice (AH.nx H' + 1) 0 (Int.toNat (↑len : Int)) (Int.toNat (↑len : Int)), AV.nslice 0 0, AV.map (AH.nx H'), AV.slice (AH.nx H1 + 3) 0 len len], AV.ptr (AH.nx H'_1) 0, v, AV.int IntKind.i64 (↑len : Int), AV.int IntKind.i64 (0 : Int), AV.tuple [], AV.tuple [], AV.tuple [], AV.tuple [], AV.tuple [], AV.tuple [], AV.tuple [], AV.tuple [], AV.tuple [], AV.tuple [], AV.tuple [], AV.tuple [], AV.tuple [], AV.tuple [], AV.tuple [], AV.tuple [], AV.tuple [], AV.tuple [], AV.tuple [], AV.tuple []])) below (AH.new H'_1 (AObj.row [AV.nslice 0 0, AV.slice (AH.nx H' + 1) 0 (Int.toNat (↑len : Int)) (Int.toNat (↑len : Int)), AV.nslice 0 0, AV.map (AH.nx H'), AV.slice (AH.nx H1 + 3) 0 len len] 52 true (St.own none))))) ∧ True ∧ (MkOk P 34 (↑len : Int) (↑len : Int) ∧ True ∧ True ∧ (Ret P w0 34 [AV.slice (AH.nx H' + 1) 0 1 1, AV.int IntKind.i64 (↑len : Int)] (AH.new (AH.new (AH.new H' (AObj.map [] 0)) (AObj.row [AV.int IntKind.i64 (-1 : Int)] 3 true (St.own none))) (AObj.row (reps [AV.nslice 0 0] (Int.toNat (↑len : Int))) 34 true (St.own none))) (fun (x : Nat) ↦ False) fun (v : AV) (H' : AH) ↦ ∃ (x : Unit), v = AV.slice (AH.nx H1 + (3 : Nat)) (0 : Nat) len len ∧ RepQ (AH.new (AH.new (AH.new H1 (AObj.map [] (0 : Nat))) (AObj.row [AV.int IntKind.i64 (-1 : Int)] (3 : TypeId) true (St.own none))) (AObj.row (reps [AV.nslice (0 : Nat) (0 : Nat)] len) (34 : TypeId) true (St.own none))) (AH.nx H1 + (3 : Nat)) len H') ∧ Pok (AH.new (AH.new (AH.new H' (AObj.map [] 0)) (AObj.row [AV.int IntKind.i64 (-1 : Int)] 3 true (St.own none))) (AObj.row (reps [AV.nslice 0 0] (Int.toNat (↑len : Int))) 34 true (St.own none))) (fun (x : Nat) ↦ False) (stackPend below) ∧ ∀ (x : Unit) (H'_1 : AH), RepQ (AH.new (AH.new (AH.new H1 (AObj.map [] 0)) (AObj.row [AV.int IntKind.i64 (-1 : Int)] 3 true (St.own none))) (AObj.row (reps [AV.nslice 0 0] len) 34 true (St.own none))) (AH.nx H1 + 3) len H'_1 → True ∧ aLen P (AH.new H'_1 (AObj.row [AV.nslice 0 0, AV.slice (AH.nx H' + 1 + 1) 0 (Int.toNat (↑len : Int)) (Int.toNat (↑len : Int)), AV.nslice 0 0, AV.map (AH.nx H'), AV.slice (AH.nx H1 + 3) 0 len len] 52 true (St.own none))) 22 v = some (AV.int IntKind.i64 (↑len : Int), []) ∧ K (AM.mk (w nB (tl [v, AV.tuple [], AV.nptr, AV.int IntKind.i64 (0 : Int), AV.ptr (AH.nx H) 0, AV.ptr (AH.nx H'_1) 0, AV.tuple [], AV.tuple [], v, AV.int IntKind.i64 (↑len : Int), AV.bool false, AV.int IntKind.i64 (↑len : Int), AV.bool ((↑len : Int) == (0 : Int)), AV.bool false, AV.int IntKind.i64 (↑len : Int), AV.bool (decide ((↑len : Int) > (1024 : Int))), v, AV.bool b1, AV.bool false, v, AV.func 31 [] [AV.ptr (AH.nx H) 0], AV.bool b2, AV.int IntKind.i64 (↑len : Int), AV.slice (AH.nx H' + 1 + 1) 0 (Int.toNat (↑len : Int)) (Int.toNat (↑len : Int)), AV.map (AH.nx H'), AV.slice (AH.nx H' + 1) 0 1 1, AV.int IntKind.i64 (↑len : Int), AV.slice (AH.nx H1 + 3) 0 len len, AV.agg [AV.nslice 0 0, AV.slice (AH.nx H' + 1 + 1) 0 (Int.toNat (↑len : Int)) (Int.toNat (↑len : Int)), AV.nslice 0 0, AV.map (AH.nx H'), AV.slice (AH.nx H1 + 3) 0 len len], AV.ptr (AH.nx H'_1) 0, v, AV.int IntKind.i64 (↑len : Int), AV.int IntKind.i64 (0 : Int), AV.tuple [], AV.tuple [], AV.tuple [], AV.tuple [], AV.tuple [], AV.tuple [], AV.tuple [], AV.tuple [], AV.tuple [], AV.tuple [], AV.tuple [], AV.tuple [], AV.tuple [], AV.tuple [], AV.tuple [], AV.tuple [], AV.tuple [], AV.tuple [], AV.tuple [], AV.tuple []])) below (AH.new H'_1 (AObj.row [AV.nslice 0 0, AV.slice (AH.nx H' + 1 + 1) 0 (Int.toNat (↑len : Int)) (Int.toNat (↑len : Int)), AV.nslice 0 0, AV.map (AH.nx H'), AV.slice (AH.nx H1 + 3) 0 len len] 52 true (St.own none))))) ∧ True ∧ (Ret P w0 34 [AV.slice (AH.nx H' + 1) 0 1 1, AV.int IntKind.i64 (↑len : Int)] (AH.new (AH.new H' (AObj.map [] 0)) (AObj.row [AV.int IntKind.i64 (-1 : Int)] 3 true (St.own none))) (fun (x : Nat) ↦ False) fun (v : AV) (H' : AH) ↦ ∃ (x : Unit), v = AV.slice (AH.nx H1 + (2 : Nat)) (0 : Nat) len len ∧ RepQ (AH.new (AH.new H1 (AObj.map [] (0 : Nat))) (AObj.row [AV.int IntKind.i64 (-1 : Int)] (3 : TypeId) true (St.own none))) (AH.nx H1 + (2 : Nat)) len H') ∧ Pok (AH.new (AH.new H' (AObj.map [] 0)) (AObj.row [AV.int IntKind.i64 (-1 : Int)] 3 true (St.own none))) (fun (x : Nat) ↦ False) (AH.nx H :: stackPend below) ∧ ∀ (x : Unit) (H'_1 : AH), RepQ (AH.new (AH.new H1 (AObj.map [] 0)) (AObj.row [AV.int IntKind.i64 (-1 : Int)] 3 true (St.own none))) (AH.nx H1 + 2) len H'_1 → MkOk P 34 (↑len : Int) (↑len : Int) ∧ True ∧ True ∧ aLen P (AH.new (AH.new H'_1 (AObj.row (reps [AV.nslice 0 0] (Int.toNat (↑len : Int))) 34 true (St.own none))) (AObj.row [AV.nslice 0 0, AV.slice (AH.nx H'_1) 0 (Int.toNat (↑len : Int)) (Int.toNat (↑len : Int)), AV.nslice 0 0, AV.map (AH.nx H'), AV.slice (AH.nx H1 + 2) 0 len len] 52 true (St.own none))) 22 v = some (AV.int IntKind.i64 (↑len : Int), []) ∧ K (AM.mk (w nB (tl [v, AV.tuple [], AV.nptr, AV.int IntKind.i64 (0 : Int), AV.ptr (AH.nx H) 0, AV.ptr (AH.nx H'_1 + 1) 0, AV.tuple [], AV.tuple [], v, AV.int IntKind.i64 (↑len : Int), AV.bool false, AV.int IntKind.i64 (↑len : Int), AV.bool ((↑len : Int) == (0 : Int)), AV.bool false, AV.int IntKind.i64 (↑len : Int), AV.bool (decide ((↑len : Int) > (1024 : Int))), v, AV.bool b1, AV.bool false, v, AV.func 31 [] [AV.ptr (AH.nx H) 0], AV.bool b2, AV.int IntKind.i64 (↑len : Int), AV.slice (AH.nx H'_1) 0 (Int.toNat (↑len : Int)) (Int.toNat (↑len : Int)), AV.map (AH.nx H'), AV.slice (AH.nx H' + 1) 0 1 1, AV.int IntKind.i64 (↑len : Int), AV.slice (AH.nx H1 + 2) 0 len len, AV.agg [AV.nslice 0 0, AV.slice (AH.nx H'_1) 0 (Int.toNat (↑len : Int)) (Int.toNat (↑len : Int)), AV.nslice 0 0, AV.map (AH.nx H'), AV.slice (AH.nx H1 + 2) 0 len len], AV.ptr (AH.nx H'_1 + 1) 0, v, AV.int IntKind.i64 (↑len : Int), AV.int IntKind.i64 (0 : Int), AV.tuple [], AV.tuple [], AV.tuple [], AV.tuple [], AV.tuple [], AV.tuple [], AV.tuple [], AV.tuple [], AV.tuple [], AV.tuple [], AV.tuple [], AV.tuple [], AV.tuple [], AV.tuple [], AV.tuple [], AV.tuple [], AV.tuple [], AV.tuple [], AV.tuple [], AV.tuple []])) below (AH.new (AH.new H'_1 (AObj.row (reps [AV.nslice 0 0] (Int.toNat (↑len : Int))) 34 true (St.own none))) (AObj.row [AV.nslice 0 0, AV.slice (AH.nx H'_1) 0 (Int.toNat (↑len : Int)) (Int.toNat (↑len : Int)), AV.nslice 0 0, AV.map (AH.nx H'), AV.slice (AH.nx H1 + 2) 0 len len] 52 true (St.own none))))) ∧ True ∧ (MkOk P 34 (↑len : Int) (↑len : Int) ∧ True ∧ (True ∧ True ∧ (Ret P w0 34 [AV.slice (AH.nx H') 0 1 1, AV.int IntKind.i64 (↑len : Int)] (AH.new (AH.new (AH.new H' (AObj.row [AV.int IntKind.i64 (-1 : Int)] 3 true (St.own none))) (AObj.row (reps [AV.nslice 0 0] (Int.toNat (↑len : Int))) 34 true (St.own none))) (AObj.map [] 0)) (fun (x : Nat) ↦ False) fun (v : AV) (H' : AH) ↦ ∃ (x : Unit), v = AV.slice (AH.nx H1 + (3 : Nat)) (0 : Nat) len len ∧ RepQ (AH.new (AH.new (AH.new H1 (AObj.row [AV.int IntKind.i64 (-1 : Int)] (3 : TypeId) true (St.own none))) (AObj.row (reps [AV.nslice (0 : Nat) (0 : Nat)] len) (34 : TypeId) true (St.own none))) (AObj.map [] (0 : Nat))) (AH.nx H1 + (3 : Nat)) len H') ∧ Pok (AH.new (AH.new (AH.new H' (AObj.row [AV.int IntKind.i64 (-1 : Int)] 3 true (St.own none))) (AObj.row (reps [AV.nslice 0 0] (Int.toNat (↑len : Int))) 34 true (St.own none))) (AObj.map [] 0)) (fun (x : Nat) ↦ False) (stackPend below) ∧ ∀ (x : Unit) (H'_1 : AH), RepQ (AH.new (AH.new (AH.new H1 (AObj.row [AV.int IntKind.i64 (-1 : Int)] 3 true (St.own none))) (AObj.row (reps [AV.nslice 0 0] len) 34 true (St.own none))) (AObj.map [] 0)) (AH.nx H1 + 3) len H'_1 → True ∧ aLen P (AH.new H'_1 (AObj.row [AV.nslice 0 0, AV.slice (AH.nx H' + 1) 0 (Int.toNat (↑len : Int)) (Int.toNat (↑len : Int)), AV.nslice 0 0, AV.map (AH.nx H' + 1 + 1), AV.slice (AH.nx H1 + 3) 0 len len] 52 true (St.own none))) 22 v = some (AV.int IntKind.i64 (↑len : Int), []) ∧ K (AM.mk (w nB (tl [v, AV.tuple [], AV.nptr, AV.int IntKind.i64 (0 : Int), AV.ptr (AH.nx H) 0, AV.ptr (AH.nx H'_1) 0, AV.tuple [], AV.tuple [], v, AV.int IntKind.i64 (↑len : Int), AV.bool false, AV.int IntKind.i64 (↑len : Int), AV.bool ((↑len : Int) == (0 : Int)), AV.bool false, AV.int IntKind.i64 (↑len : Int), AV.bool (decide ((↑len : Int) > (1024 : Int))), v, AV.bool b1, AV.bool false, v, AV.func 31 [] [AV.ptr (AH.nx H) 0], AV.bool b2, AV.int IntKind.i64 (↑len : Int), AV.slice (AH.nx H' + 1) 0 (Int.toNat (↑len : Int)) (Int.toNat (↑len : Int)), AV.map (AH.nx H' + 1 + 1), AV.slice (AH.nx H') 0 1 1, AV.int IntKind.i64 (↑len : Int), AV.slice (AH.nx H1 + 3) 0 len len, AV.agg [AV.nslice 0 0, AV.slice (AH.nx H' + 1) 0 (Int.toNat (↑len : Int)) (Int.toNat (↑len : Int)), AV.nslice 0 0, AV.map (AH.nx H' + 1 + 1), AV.slice (AH.nx H1 + 3) 0 len len], AV.ptr (AH.nx H'_1) 0, v, AV.int IntKind.i64 (↑len : Int), AV.int IntKind.i64 (0 : Int), AV.tuple [], AV.tuple [], AV.tuple [], AV.tuple [], AV.tuple [], AV.tuple [], AV.tuple [], AV.tuple [], AV.tuple [], AV.tuple [], AV.tuple [], AV.tuple [], AV.tuple [], AV.tuple [], AV.tuple [], AV.tuple [], AV.tuple [], AV.tuple [], AV.tuple [], AV.tuple []])) below (AH.new H'_1 (AObj.row [AV.nslice 0 0, AV.slice (AH.nx H' + 1) 0 (Int.toNat (↑len : Int)) (Int.toNat (↑len : Int)), AV.nslice 0 0, AV.map (AH.nx H' + 1 + 1), AV.slice (AH.nx H1 + 3) 0 len len] 52 true (St.own none))))) ∧ True ∧ (Ret P w0 34 [AV.slice (AH.nx H') 0 1 1, AV.int IntKind.i64 (↑len : Int)] (AH.new (AH.new H' (AObj.row [AV.int IntKind.i64 (-1 : Int)] 3 true (St.own none))) (AObj.row (reps [AV.nslice 0 0] (Int.toNat (↑len : Int))) 34 true (St.own none))) (fun (x : Nat) ↦ False) fun (v : AV) (H' : AH) ↦ ∃ (x : Unit), v = AV.slice (AH.nx H1 + (2 : Nat)) (0 : Nat) len len ∧ RepQ (AH.new (AH.new H1 (AObj.row [AV.int IntKind.i64 (-1 : Int)] (3 : TypeId) true (St.own none))) (AObj.row (reps [AV.nslice (0 : Nat) (0 : Nat)] len) (34 : TypeId) true (St.own none))) (AH.nx H1 + (2 : Nat)) len H') ∧ Pok (AH.new (AH.new H' (AObj.row [AV.int IntKind.i64 (-1 : Int)] 3 true (St.own none))) (AObj.row (reps [AV.nslice 0 0] (Int.toNat (↑len : Int))) 34 true (St.own none))) (fun (x : Nat) ↦ False) (stackPend below) ∧ ∀ (x : Unit) (H'_1 : AH), RepQ (AH.new (AH.new H1 (AObj.row [AV.int IntKind.i64 (-1 : Int)] 3 true (St.own none))) (AObj.row (reps [AV.nslice 0 0] len) 34 true (St.own none))) (AH.nx H1 + 2) len H'_1 → True ∧ True ∧ aLen P (AH.new (AH.new H'_1 (AObj.map [] 0)) (AObj.row [AV.nslice 0 0, AV.slice (AH.nx H' + 1) 0 (Int.toNat (↑len : Int)) (Int.toNat (↑len : Int)), AV.nslice 0 0, AV.map (AH.nx H'_1), AV.slice (AH.nx H1 + 2) 0 len len] 52 true (St.own none))) 22 v = some (AV.int IntKind.i64 (↑len : Int), []) ∧ K (AM.mk (w nB (tl [v, AV.tuple [], AV.nptr, AV.int IntKind.i64 (0 : Int), AV.ptr (AH.nx H) 0, AV.ptr (AH.nx H'_1 + 1) 0, AV.tuple [], AV.tuple [], v, AV.int IntKind.i64 (↑len : Int), AV.bool false, AV.int IntKind.i64 (↑len : Int), AV.bool ((↑len : Int) == (0 : Int)), AV.bool false, AV.int IntKind.i64 (↑len : Int), AV.bool (decide ((↑len : Int) > (1024 : Int))), v, AV.bool b1, AV.bool false, v, AV.func 31 [] [AV.ptr (AH.nx H) 0], AV.bool b2, AV.int IntKind.i64 (↑len : Int), AV.slice (AH.nx H' + 1) 0 (Int.toNat (↑len : Int)) (Int.toNat (↑len : Int)), AV.map (AH.nx H'_1), AV.slice (AH.nx H') 0 1 1, AV.int IntKind.i64 (↑len : Int), AV.slice (AH.nx H1 + 2) 0 len len, AV.agg [AV.nslice 0 0, AV.slice (AH.nx H' + 1) 0 (Int.toNat (↑len : Int)) (Int.toNat (↑len : Int)), AV.nslice 0 0, AV.map (AH.nx H'_1), AV.slice (AH.nx H1 + 2) 0 len len], AV.ptr (AH.nx H'_1 + 1) 0, v, AV.int IntKind.i64 (↑len : Int), AV.int IntKind.i64 (0 : Int), AV.tuple [], AV.tuple [], AV.tuple [], AV.tuple [], AV.tuple [], AV.tuple [], AV.tuple [], AV.tuple [], AV.tuple [], AV.tuple [], AV.tuple [], AV.tuple [], AV.tuple [], AV.tuple [], AV.tuple [], AV.tuple [], AV.tuple [], AV.tuple [], AV.tuple [], AV.tuple []])) below (AH.new (AH.new H'_1 (AObj.map [] 0)) (AObj.row [AV.nslice 0 0, AV.slice (AH.nx H' + 1) 0 (Int.toNat (↑len : Int)) (Int.toNat (↑len : Int)), AV.nslice 0 0, AV.map (AH.nx H'_1), AV.slice (AH.nx H1 + 2) 0 len len] 52 true (St.own none))))) ∧ (True ∧ (MkOk P 34 (↑len : Int) (↑len : Int) ∧ True ∧ True ∧ (Ret P w0 34 [AV.slice (AH.nx H') 0 1 1, AV.int IntKind.i64 (↑len : Int)] (AH.new (AH.new (AH.new H' (AObj.row [AV.int IntKind.i64 (-1 : Int)] 3 true (St.own none))) (AObj.map [] 0)) (AObj.row (reps [AV.nslice 0 0] (Int.toNat (↑len : Int))) 34 true (St.own none))) (fun (x : Nat) ↦ False) fun (v : AV) (H' : AH) ↦ ∃ (x : Unit), v = AV.slice (AH.nx H1 + (3 : Nat)) (0 : Nat) len len ∧ RepQ (AH.new (AH.new (AH.new H1 (AObj.row [AV.int IntKind.i64 (-1 : Int)] (3 : TypeId) true (St.own none))) (AObj.map [] (0 : Nat))) (AObj.row (reps [AV.nslice (0 : Nat) (0 : Nat)] len) (34 : TypeId) true (St.own none))) (AH.nx H1 + (3 : Nat)) len H') ∧ Pok (AH.new (AH.new (AH.new H' (AObj.row [AV.int IntKind.i64 (-1 : Int)] 3 true (St.own none))) (AObj.map [] 0)) (AObj.row (reps [AV.nslice 0 0] (Int.toNat (↑len : Int))) 34 true (St.own none))) (fun (x : Nat) ↦ False) (stackPend below) ∧ ∀ (x : Unit) (H'_1 : AH), RepQ (AH.new (AH.new (AH.new H1 (AObj.row [AV.int IntKind.i64 (-1 : Int)] 3 true (St.own none))) (AObj.map [] 0)) (AObj.row (reps [AV.nslice 0 0] len) 34 true (St.own none))) (AH.nx H1 + 3) len H'_1 → True ∧ aLen P (AH.new H'_1 (AObj.row [AV.nslice 0 0, AV.slice (AH.nx H' + 1 + 1) 0 (Int.toNat (↑len : Int)) (Int.toNat (↑len : Int)), AV.nslice 0 0, AV.map (AH.nx H' + 1), AV.slice (AH.nx H1 + 3) 0 len len] 52 true (St.own none))) 22 v = some (AV.int IntKind.i64 (↑len : Int), []) ∧ K (AM.mk (w nB (tl [v, AV.tuple [], AV.nptr, AV.int IntKind.i64 (0 : Int), AV.ptr (AH.nx H) 0, AV.ptr (AH.nx H'_1) 0, AV.tuple [], AV.tuple [], v, AV.int IntKind.i64 (↑len : Int), AV.bool false, AV.int IntKind.i64 (↑len : Int), AV.bool ((↑len : Int) == (0 : Int)), AV.bool false, AV.int IntKind.i64 (↑len : Int), AV.bool (decide ((↑len : Int) > (1024 : Int))), v, AV.bool b1, AV.bool false, v, AV.func 31 [] [AV.ptr (AH.nx H) 0], AV.bool b2, AV.int IntKind.i64 (↑len : Int), AV.slice (AH.nx H' + 1 + 1) 0 (Int.toNat (↑len : Int)) (Int.toNat (↑len : Int)), AV.map (AH.nx H' + 1), AV.slice (AH.nx H') 0 1 1, AV.int IntKind.i64 (↑len : Int), AV.slice (AH.nx H1 + 3) 0 len len, AV.agg [AV.nslice 0 0, AV.slice (AH.nx H' + 1 + 1) 0 (Int.toNat (↑len : Int)) (Int.toNat (↑len : Int)), AV.nslice 0 0, AV.map (AH.nx H' + 1), AV.slice (AH.nx H1 + 3) 0 len len], AV.ptr (AH.nx H'_1) 0, v, AV.int IntKind.i64 (↑len : Int), AV.int IntKind.i64 (0 : Int), AV.tuple [], AV.tuple [], AV.tuple [], AV.tuple [], AV.tuple [], AV.tuple [], AV.tuple [], AV.tuple [], AV.tuple [], AV.tuple [], AV.tuple [], AV.tuple [], AV.tuple [], AV.tuple [], AV.tuple [], AV.tuple [], AV.tuple [], AV.tuple [], AV.tuple [], AV.tuple []])) below (AH.new H'_1 (AObj.row [AV.nslice 0 0, AV.slice (AH.nx H' + 1 + 1) 0 (Int.toNat (↑len : Int)) (Int.toNat (↑len : Int)), AV.nslice 0 0, AV.map (AH.nx H' + 1), AV.slice (AH.nx H1 + 3) 0 len len] 52 true (St.own none))))) ∧ True ∧ (Ret P w0 34 [AV.slice (AH.nx H') 0 1 1, AV.int IntKind.i64 (↑len : Int)] (AH.new (AH.new H' (AObj.row [AV.int IntKind.i64 (-1 : Int)] 3 true (St.own none))) (AObj.map [] 0)) (fun (x : Nat) ↦ False) fun (v : AV) (H' : AH) ↦ ∃ (x : Unit), v = AV.slice (AH.nx H1 + (2 : Nat)) (0 : Nat) len len ∧ RepQ (AH.new (AH.new H1 (AObj.row [AV.int IntKind.i64 (-1 : Int)] (3 : TypeId) true (St.own none))) (AObj.map [] (0 : Nat))) (AH.nx H1 + (2 : Nat)) len H') ∧ Pok (AH.new (AH.new H' (AObj.row [AV.int IntKind.i64 (-1 : Int)] 3 true (St.own none))) (AObj.map [] 0)) (fun (x : Nat) ↦ False) (AH.nx H :: stackPend below) ∧ ∀ (x : Unit) (H'_1 : AH), RepQ (AH.new (AH.new H1 (AObj.row [AV.int IntKind.i64 (-1 : Int)] 3 true (St.own none))) (AObj.map [] 0)) (AH.nx H1 + 2) len H'_1 → MkOk P 34 (↑len : Int) (↑len : Int) ∧ True ∧ True ∧ aLen P (AH.new (AH.new H'_1 (AObj.row (reps [AV.nslice 0 0] (Int.toNat (↑len : Int))) 34 true (St.own none))) (AObj.row [AV.nslice 0 0, AV.slice (AH.nx H'_1) 0 (Int.toNat (↑len : Int)) (Int.toNat (↑len : Int)), AV.nslice 0 0, AV.map (AH.nx H' + 1), AV.slice (AH.nx H1 + 2) 0 len len] 52 true (St.own none))) 22 v = some (AV.int IntKind.i64 (↑len : Int), []) ∧ K (AM.mk (w nB (tl [v, AV.tuple [], AV.nptr, AV.int IntKind.i64 (0 : Int), AV.ptr (AH.nx H) 0, AV.ptr (AH.nx H'_1 + 1) 0, AV.tuple [], AV.tuple [], v, AV.int IntKind.i64 (↑len : Int), AV.bool false, AV.int IntKind.i64 (↑len : Int), AV.bool ((↑len : Int) == (0 : Int)), AV.bool false, AV.int IntKind.i64 (↑len : Int), AV.bool (decide ((↑len : Int) > (1024 : Int))), v, AV.bool b1, AV.bool false, v, AV.func 31 [] [AV.ptr (AH.nx H) 0], AV.bool b2, AV.int IntKind.i64 (↑len : Int), AV.slice (AH.nx H'_1) 0 (Int.toNat (↑len : Int)) (Int.toNat (↑len : Int)), AV.map (AH.nx H' + 1), AV.slice (AH.nx H') 0 1 1, AV.int IntKind.i64 (↑len : Int), AV.slice (AH.nx H1 + 2) 0 len len, AV.agg [AV.nslice 0 0, AV.slice (AH.nx H'_1) 0 (Int.toNat (↑len : Int)) (Int.toNat (↑len : Int)), AV.nslice 0 0, AV.map (AH.nx H' + 1), AV.slice (AH.nx H1 + 2) 0 len len], AV.ptr (AH.nx H'_1 + 1) 0, v, AV.int IntKind.i64 (↑len : Int), AV.int IntKind.i64 (0 : Int), AV.tuple [], AV.tuple [], AV.tuple [], AV.tuple [], AV.tuple [], AV.tuple [], AV.tuple [], AV.tuple [], AV.tuple [], AV.tuple [], AV.tuple [], AV.tuple [], AV.tuple [], AV.tuple [], AV.tuple [], AV.tuple [], AV.tuple [], AV.tuple [], AV.tuple [], AV.tuple []])) below (AH.new (AH.new H'_1 (AObj.row (reps [AV.nslice 0 0] (Int.toNat (↑len : Int))) 34 true (St.own none))) (AObj.row [AV.nslice 0 0, AV.slice (AH.nx H'_1) 0 (Int.toNat (↑len : Int)) (Int.toNat (↑len : Int)), AV.nslice 0 0, AV.map (AH.nx H' + 1), AV.slice (AH.nx H1 + 2) 0 len len] 52 true (St.own none))))) ∧ True ∧ (Ret P w0 34 [AV.slice (AH.nx H') 0 1 1, AV.int IntKind.i64 (↑len : Int)] (AH.new H' (AObj.row [AV.int IntKind.i64 (-1 : Int)] 3 true (St.own none))) (fun (x : Nat) ↦ False) fun (v : AV) (H' : AH) ↦ ∃ (x : Unit), v = AV.slice (AH.nx H1 + (1 : Nat)) (0 : Nat) len len ∧ RepQ (AH.new H1 (AObj.row [AV.int IntKind.i64 (-1 : Int)] (3 : TypeId) true (St.own none))) (AH.nx H1 + (1 : Nat)) len H') ∧ Pok (AH.new H' (AObj.row [AV.int IntKind.i64 (-1 : Int)] 3 true (St.own none))) (fun (x : Nat) ↦ False) (AH.nx H :: stackPend below) ∧ ∀ (x : Unit) (H'_1 : AH), RepQ (AH.new H1 (AObj.row [AV.int IntKind.i64 (-1 : Int)] 3 true (St.own none))) (AH.nx H1 + 1) len H'_1 → (MkOk P 34 (↑len : Int) (↑len : Int) ∧ True ∧ True ∧ True ∧ aLen P (AH.new (AH.new (AH.new H'_1 (AObj.row (reps [AV.nslice 0 0] (Int.toNat (↑len : Int))) 34 true (St.own none))) (AObj.map [] 0)) (AObj.row [AV.nslice 0 0, AV.slice (AH.nx H'_1) 0 (Int.toNat (↑len : Int)) (Int.toNat (↑len : Int)), AV.nslice 0 0, AV.map (AH.nx H'_1 + 1), AV.slice (AH.nx H1 + 1) 0 len len] 52 true (St.own none))) 22 v = some (AV.int IntKind.i64 (↑len : Int), []) ∧ K (AM.mk (w nB (tl [v, AV.tuple [], AV.nptr, AV.int IntKind.i64 (0 : Int), AV.ptr (AH.nx H) 0, AV.ptr (AH.nx H'_1 + 1 + 1) 0, AV.tuple [], AV.tuple [], v, AV.int IntKind.i64 (↑len : Int), AV.bool false, AV.int IntKind.i64 (↑len : Int), AV.bool ((↑len : Int) == (0 : Int)), AV.bool false, AV.int IntKind.i64 (↑len : Int), AV.bool (decide ((↑len : Int) > (1024 : Int))), v, AV.bool b1, AV.bool false, v, AV.func 31 [] [AV.ptr (AH.nx H) 0], AV.bool b2, AV.int IntKind.i64 (↑len : Int), AV.slice (AH.nx H'_1) 0 (Int.toNat (↑len : Int)) (Int.toNat (↑len : Int)), AV.map (AH.nx H'_1 + 1), AV.slice (AH.nx H') 0 1 1, AV.int IntKind.i64 (↑len : Int), AV.slice (AH.nx H1 + 1) 0 len len, AV.agg [AV.nslice 0 0, AV.slice (AH.nx H'_1) 0 (Int.toNat (↑len : Int)) (Int.toNat (↑len : Int)), AV.nslice 0 0, AV.map (AH.nx H'_1 + 1), AV.slice (AH.nx H1 + 1) 0 len len], AV.ptr (AH.nx H'_1 + 1 + 1) 0, v, AV.int IntKind.i64 (↑len : Int), AV.int IntKind.i64 (0 : Int), AV.tuple [], AV.tuple [], AV.tuple [], AV.tuple [], AV.tuple [], AV.tuple [], AV.tuple [], AV.tuple [], AV.tuple [], AV.tuple [], AV.tuple [], AV.tuple [], AV.tuple [], AV.tuple [], AV.tuple [], AV.tuple [], AV.tuple [], AV.tuple [], AV.tuple [], AV.tuple []])) below (AH.new (AH.new (AH.new H'_1 (AObj.row (reps [AV.nslice 0 0] (Int.toNat (↑len : Int))) 34 true (St.own none))) (AObj.map [] 0)) (AObj.row [AV.nslice 0 0, AV.slice (AH.nx H'_1) 0 (Int.toNat (↑len : Int)) (Int.toNat (↑len : Int)), AV.nslice 0 0, AV.map (AH.nx H'_1 + 1), AV.slice (AH.nx H1 + 1) 0 len len] 52 true (St.own none))))) ∧ True ∧ MkOk P 34 (↑len : Int) (↑len : Int) ∧ True ∧ True ∧ aLen P (AH.new (AH.new (AH.new H'_1 (AObj.map [] 0)) (AObj.row (reps [AV.nslice 0 0] (Int.toNat (↑len : Int))) 34 true (St.own none))) (AObj.row [AV.nslice 0 0, AV.slice (AH.nx H'_1 + 1) 0 (Int.toNat (↑len : Int)) (Int.toNat (↑len : Int)), AV.nslice 0 0, AV.map (AH.nx H'_1), AV.slice (AH.nx H1 + 1) 0 len len] 52 true (St.own none))) 22 v = some (AV.int IntKind.i64 (↑len : Int), []) ∧ K (AM.mk (w nB (tl [v, AV.tuple [], AV.nptr, AV.int IntKind.i64 (0 : Int), AV.ptr (AH.nx H) 0, AV.ptr (AH.nx H'_1 + 1 + 1) 0, AV.tuple [], AV.tuple [], v, AV.int IntKind.i64 (↑len : Int), AV.bool false, AV.int IntKind.i64 (↑len : Int), AV.bool ((↑len : Int) == (0 : Int)), AV.bool false, AV.int IntKind.i64 (↑len : Int), AV.bool (decide ((↑len : Int) > (1024 : Int))), v, AV.bool b1, AV.bool false, v, AV.func 31 [] [AV.ptr (AH.nx H) 0], AV.bool b2, AV.int IntKind.i64 (↑len : Int), AV.slice (AH.nx H'_1 + 1) 0 (Int.toNat (↑len : Int)) (Int.toNat (↑len : Int)), AV.map (AH.nx H'_1), AV.slice (AH.nx H') 0 1 1, AV.int IntKind.i64 (↑len : Int), AV.slice (AH.nx H1 + 1) 0 len len, AV.agg [AV.nslice 0 0, AV.slice (AH.nx H'_1 + 1) 0 (Int.toNat (↑len : Int)) (Int.toNat (↑len : Int)), AV.nslice 0 0, AV.map (AH.nx H'_1), AV.slice (AH.nx H1 + 1) 0 len len], AV.ptr (AH.nx H'_1 + 1 + 1) 0, v, AV.int IntKind.i64 (↑len : Int), AV.int IntKind.i64 (0 : Int), AV.tuple [], AV.tuple [], AV.tuple [], AV.tuple [], AV.tuple [], AV.tuple [], AV.tuple [], AV.tuple [], AV.tuple [], AV.tuple [], AV.tuple [], AV.tuple [], AV.tuple [], AV.tuple [], AV.tuple [], AV.tuple [], AV.tuple [], AV.tuple [], AV.tuple [], AV.tuple []])) below (AH.new (AH.new (AH.new H'_1 (AObj.map [] 0)) (AObj.row (reps [AV.nslice 0 0] (Int.toNat (↑len : Int))) 34 true (St.own none))) (AObj.row [AV.nslice 0 0, AV.slice (AH.nx H'_1 + 1) 0 (Int.toNat (↑len : Int)) (Int.toNat (↑len : Int)), AV.nslice 0 0, AV.map (AH.nx H'_1), AV.slice (AH.nx H1 + 1) 0 len len] 52 true (St.own none))))))))) := by kernel_rfl

theorem newL (w0 : World) (K : AM → Prop) (Kr : AV → AH → Prop) (below : List AFr) (z : Nat → AV) (len a ao d ln : Nat) (v hv vg : AV) (v' : AV → AH → AV) (i : Int) (H : AH) (H' : AV → AH → AH) (ns : AV → AH → List Nat) (Q : AV → AH → Prop) : (trun P w0 9 K Kr 300 0 [] ⟨w nB (setL (tz 53 z) [(4, .ptr ln 0), (5, .ptr d 0), (30, v), (31, .int .i64 len), (32, .int .i64 i)]), below, H⟩ (.tt (.bs a ao (.v hv (.v vg (.call AV (fun _ => False) (fun x => x) Q (fun x Hc => .tw (.val (.slice Hc.nx 0 1 1), Hc.new (.row [x] 34 true (.own none)), []) (.r (.val (v' x Hc), H' x Hc, ns x Hc) .stop)))))))) = (decide (i < (↑len : Int)) = true ∧ SlAt v a ao i ∧ rdAt H a (ao + Int.toNat i * 1) = some hv ∧ rdAt H d 0 = some vg ∧ True ∧ (Ret P w0 35 [hv] H (fun (x : Nat) ↦ False) fun (v : AV) (H' : AH) ↦ ∃ (x : AV), v = x ∧ Q x H') ∧ Pok H (fun (x : Nat) ↦ False) (d :: stackPend below) ∧ ∀ (x : AV) (H'_1 : AH), Q x H'_1 → aW P H'_1 (TM.mk (Tr.node (some (z 0)) (Tr.node (some (z 1)) (Tr.node (some (z 3)) (Tr.node (some hv) (Tr.node (some (z 15)) (Tr.node (some (AV.int IntKind.i64 (↑len : Int))) Tr.leaf Tr.leaf) (Tr.node (some (z 47)) Tr.leaf Tr.leaf)) (Tr.node (some (z 23)) (Tr.node (some (AV.ptr d 0)) Tr.leaf Tr.leaf) Tr.leaf)) (Tr.node (some (z 11)) (Tr.node (some (z 19)) (Tr.node (some hv) Tr.leaf Tr.leaf) (Tr.node (some (z 51)) Tr.leaf Tr.leaf)) (Tr.node (some (z 27)) (Tr.node (some (z 43)) Tr.leaf Tr.leaf) Tr.leaf))) (Tr.node (some (AV.ptr d 0)) (Tr.node (some (z 9)) (Tr.node (some (z 17)) (Tr.node (some (AV.bool true)) Tr.leaf Tr.leaf) (Tr.node (some (z 49)) Tr.leaf Tr.leaf)) (Tr.node (some (z 25)) (Tr.node (some hv) Tr.leaf Tr.leaf) Tr.leaf)) (Tr.node (some (z 13)) (Tr.node (some (z 21)) (Tr.node (some (AV.ptr d 0)) Tr.leaf Tr.leaf) Tr.leaf) (Tr.node (some (z 29)) (Tr.node (some (z 45)) Tr.leaf Tr.leaf) Tr.leaf)))) (Tr.node (some (z 2)) (Tr.node (some (AV.ptr ln 0)) (Tr.node (some (z 8)) (Tr.node (some (z 16)) (Tr.node (some (AV.int IntKind.i64 i)) Tr.leaf Tr.leaf) (Tr.node (some (z 48)) Tr.leaf Tr.leaf)) (Tr.node (some (z 24)) (Tr.node (some vg) Tr.leaf Tr.leaf) Tr.leaf)) (Tr.node (some (z 12)) (Tr.node (some (z 20)) (Tr.node (some (AV.ptr d 0)) Tr.leaf Tr.leaf) (Tr.node (some (z 52)) Tr.leaf Tr.leaf)) (Tr.node (some (z 28)) (Tr.node (some (z 44)) Tr.leaf Tr.leaf) Tr.leaf))) (Tr.node (some (z 6)) (Tr.node (some (z 10)) (Tr.node (some (z 18)) (Tr.node (some (AV.ptr a (ao + Int.toNat i * 1))) Tr.leaf Tr.leaf) (Tr.node (some (z 50)) Tr.leaf Tr.leaf)) (Tr.node (some (z 26)) (Tr.node (some x) Tr.leaf Tr.leaf) Tr.leaf)) (Tr.node (some (z 14)) (Tr.node (some (z 22)) (Tr.node (some (AV.ptr d 0)) Tr.leaf Tr.leaf) Tr.leaf) (Tr.node (some v) (Tr.node (some (z 46)) Tr.leaf Tr.leaf) Tr.leaf))))) 53) (Op.buildSlice 22 1 (Array.mk [(0, Operand.tmp 42)])) = some [(AN.val (AV.slice (AH.nx H'_1) 0 1 1), AH.new H'_1 (AObj.row [x] 34 true (St.own none)), [])] ∧ True ∧ aAppend P (AH.new H'_1 (AObj.row [x] 34 true (St.own none))) [22, 22] [vg, AV.slice (AH.nx H'_1) 0 1 1] = some [(AN.val (v' x H'_1), H' x H'_1, ns x H'_1)] ∧ apartOk (AH.new H'_1 (AObj.row [x] 34 true (St.own none))) (stackPend below) (ns x H'_1) = true ∧ AV.single (v' x H'_1) = true ∧ StOk (H' x H'_1) d 0 1 ∧ apartOk (H' x H'_1) (stackPend below) (d :: stOld (H' x H'_1) d) = true ∧ K (AM.mk (w nB (tl [z 0, z 1, z 2, z 3, AV.ptr ln 0, AV.ptr d 0, z 6, hv, z 8, z 9, z 10, z 11, z 12, z 13, z 14, z 15, z 16, z 17, z 18, z 19, z 20, z 21, z 22, z 23, z 24, z 25, z 26, z 27, z 28, z 29, v, AV.int IntKind.i64 (↑len : Int), AV.int IntKind.i64 (IntKind.wrap IntKind.i64 (i + (1 : Int))), AV.bool true, AV.ptr a (ao + Int.toNat i * 1), hv, AV.ptr d 0, AV.ptr d 0, AV.ptr d 0, AV.ptr d 0, vg, hv, x, AV.slice (AH.nx H'_1) 0 1 1, v' x H'_1, AV.ptr d 0, AV.ptr d 0, AV.int IntKind.i64 (IntKind.wrap IntKind.i64 (i + (1 : Int))), z 48, z 49, z 50, z 51, z 52])) below (stO (H' x H'_1) d 0 [v' x H'_1]))) := by kernel_rfl

theorem newE (w0 : World) (K : AM → Prop) (Kr : AV → AH → Prop) (below : List AFr) (z : Nat → AV) (len d ln : Nat) (v : AV) (i : Int) (H : AH) (W1 : Nat → Prop) (W2 : AH → Nat → Prop) (Q1 : Unit → AH → Prop) (Q2 : AH → Unit → AH → Prop) : (trun P w0 9 K Kr 300 0 [] ⟨w nB (setL (tz 53 z) [(4, .ptr ln 0), (5, .ptr d 0), (30, v), (31, .int .i64 len), (32, .int .i64 i)]), below, H⟩ (.ff (.call Unit W1 (fun _ => .tuple []) Q1 (fun _ Ha => .call Unit (W2 Ha) (fun _ => .tuple []) (Q2 Ha) (fun _ Hb => .br .stop .stop))))) = (decide (i < (↑len : Int)) = false ∧ True ∧ (Ret P w0 36 [AV.ptr d 0] H W1 fun (v : AV) (H' : AH) ↦ ∃ (x : Unit), v = AV.tuple [] ∧ Q1 x H') ∧ Pok H W1 (stackPend below) ∧ ∀ (x : Unit) (H' : AH), Q1 x H' → True ∧ (Ret P w0 37 [AV.ptr d 0] H' (W2 H') fun (v : AV) (H'_1 : AH) ↦ ∃ (x : Unit), v = AV.tuple [] ∧ Q2 H' x H'_1) ∧ Pok H' (W2 H') (stackPend below) ∧ ∀ (x : Unit) (H'_1 : AH), Q2 H' x H'_1 → Kr (AV.tuple [AV.ptr d 0, AV.int IntKind.i64 (0 : Int)]) H'_1) := by kernel_rfl

theorem _root_.Go.Sy.Ret.wf {w0 : World} {f : FuncId} {args : List AV} {H : AH} {W : Nat → Prop} {R : AV → AH → Prop} (h : Ret P w0 f args H W R) : Ret P w0 f args H W (fun v H' => R v H' ∧ Wf H') := fun fr hfr below hp base M hM => by
  obtain ⟨M', s, E, w, frm, cs, v, c, H', h1, h2, h3, h4, h5, h6, h7⟩ := h fr hfr below hp base M hM
  refine ⟨M', s, E, w, frm, cs, v, c, H', h1, h2, h3, h4, h5, h6, h7, fun n o ho => ?_⟩
  obtain ⟨e, he, _⟩ := h2.obj n o ho
  rw [h2.nx]
  exact (List.getElem?_eq_some_iff.1 he).1

/-- A literal of one cell. -/
theorem one_cell {H : AH} {tm : TM} {t e : TypeId} {i : Nat} {x : AV} (hE : ET P t e) (hx : tm.get i = x) (hs : x.single = true) : aW P H tm (.buildSlice t 1 #[(0, .tmp i)]) = some [(.val (.slice H.nx 0 1 1), H.new (.row [x] e true (.own none)), [])] := by
  obtain ⟨zv, hz, hzl⟩ := hE.z
  have hc : x.cells = [x] := by cases x <;> first | rfl | (simp [AV.single] at hs)
  obtain ⟨c, hcz⟩ : ∃ c, zv.cells = [c] := by
    match hq : zv.cells, hzl with
    | [c], _ => exact ⟨c, rfl⟩
  show wBuildSlice P H tm t 1 #[(0, .tmp i)] = _
  simp [wBuildSlice, hE.und, hE.sz, hz, opvp, opv, hx, hcz, aFill, hc, setAt, reps]

/-- Before and while the rows are copied. -/
structure NSt (H0 : AH) (d pn pm im np : Nat) (H : AH) (vg : AV) (hs : List AV) (gd : List (List Int)) : Prop where
  row : H.get d = some (.row [vg, .slice pn 0 np np, .nslice 0 0, .map pm, .slice im 0 np np] 52 true (.own none))
  pnr : H.get pn = some (.row (reps [.nslice 0 0] np) 34 true (.own none))
  pmr : H.get pm = some (.map [] 0)
  imr : H.get im = some (.row ((List.replicate np (-1 : Int)).map kI) 3 true (.own none))
  old : ∀ m, m < H0.nx → H.get m = H0.get m
  nx : H0.nx ≤ H.nx
  new : H0.nx ≤ d ∧ H0.nx ≤ pn ∧ H0.nx ≤ pm ∧ H0.nx ≤ im
  ne : d ≠ pn ∧ d ≠ pm ∧ d ≠ im ∧ pn ≠ pm ∧ pn ≠ im ∧ pm ≠ im
  lst : Lst H vg 34 hs
  lnew : ∀ m, LN H vg m → H0.nx ≤ m ∧ m ≠ d ∧ m ≠ pn ∧ m ≠ pm ∧ m ≠ im
  len : hs.length = gd.length
  rows : ∀ (i : Nat) (h : AV) (l : List Int), hs[i]? = some h → gd[i]? = some l → SlR H h (l.map kI) ∧ ∀ n off, slBase h = some (n, off) → H0.nx ≤ n ∧ n ≠ d ∧ n ≠ pn ∧ n ≠ pm ∧ n ≠ im ∧ ¬ LN H vg n

/-- One row more. -/
theorem NSt.put {H0 : AH} {d pn pm im np : Nat} {H : AH} {vg : AV} {hs : List AV} {gd : List (List Int)} (hw : Wf H) (h : NSt H0 d pn pm im np H vg hs gd) {Hc : AH} (hwc : Wf Hc) (hk : Kept (fun _ => False) H Hc) {x : AV} {l : List Int} (hx : SlR Hc x (l.map kI)) (hxn : ∀ n off, slBase x = some (n, off) → H.nx ≤ n) (hlen : hs.length + 1 ≤ 100000000) :
    ∃ v' H' ns, aAppend P (Hc.new (.row [x] 34 true (.own none))) [22, 22] [vg, .slice Hc.nx 0 1 1] = some [(.val v', H', ns)] ∧ AV.single v' = true ∧ StOk H' d 0 1 ∧
      NSt H0 d pn pm im np (stO H' d 0 [v']) v' (hs ++ [x]) (gd ++ [l]) ∧
      (∀ pend, Pok Hc (fun _ => False) pend → (∀ p ∈ pend, p < H0.nx) → apartOk (Hc.new (.row [x] 34 true (.own none))) pend ns = true ∧ apartOk H' pend (d :: stOld H' d) = true) := by
  have hdlt := hw d _ h.row
  have hpnlt := hw pn _ h.pnr
  have hpmlt := hw pm _ h.pmr
  have himlt := hw im _ h.imr
  have hknx := hk.nx
  have hnew := h.new
  obtain ⟨e1, e2, e3, e4, e5, e6⟩ := h.ne
  let Hb := Hc.new (.row [x] 34 true (.own none))
  have hbget : ∀ m, m < Hc.nx → Hb.get m = Hc.get m := fun m hm => by show (Hc.new _).get m = _; rw [get_new, if_neg (by omega)]
  have hcget : ∀ m, m < H.nx → Hc.get m = H.get m := fun m hm => hk.get m hm id
  have hl0 : Lst Hb vg 34 hs := h.lst.congr fun m off hb => by
    have := h.lst.slr.lt hw hb
    rw [hbget m (by omega), hcget m this]
  have hln : ∀ m, LN Hb vg m ↔ LN H vg m := LN_same fun a off hb => by
    have := h.lst.slr.lt hw hb
    rw [hbget a (by omega), hcget a this]
  have hxs := hx.single
  obtain ⟨v', H', ns, h1, h2, h3, h4, h5⟩ := hl0.append et22 (t2 := 22) (by kernel_rfl) et22.made (hwc.new _) (x := .slice Hc.nx 0 1 1) (new := [x]) rfl
    (by show aFirst (Hc.new _) 1 1 (.slice Hc.nx 0 1 1) = _; simp [aFirst, get_new]) (by simp [hxs]) (by simpa using hlen)
  have hnx : Hc.nx + 1 ≤ H'.nx := h3.nx
  have hkept' : ∀ m, m < Hc.nx → ¬ LN H vg m → H'.get m = Hc.get m := fun m hm hq => by
    rw [h3.get m (Nat.lt_succ_of_lt hm) (fun q => hq ((hln m).1 q)), hbget m hm]
  have hkept : ∀ m, m < H.nx → ¬ LN H vg m → H'.get m = H.get m := fun m hm hq => by
    rw [hkept' m (by omega) hq, hcget m hm]
  have hd' : H'.get d = some (.row [vg, .slice pn 0 np np, .nslice 0 0, .map pm, .slice im 0 np np] 52 true (.own none)) := by rw [hkept d hdlt (fun q => (h.lnew d q).2.1 rfl)]; exact h.row
  have hst2 : stO H' d 0 [v'] = H'.put d (.row [v', .slice pn 0 np np, .nslice 0 0, .map pm, .slice im 0 np np] 52 true (.own none)) := stO_eq (vs := [v']) (off := 0) hd'
  have hln' : ∀ m, LN H' v' m → LN H vg m ∨ Hc.nx < m := fun m hm => by
    rcases h4 m hm with q | q
    · exact .inl ((hln m).1 q)
    · exact .inr q
  have hdb : ∀ a off, slBase v' = some (a, off) → a ≠ d := fun a off hb he => by
    subst he
    rcases hln' a ⟨a, off, hb, .inl rfl⟩ with q | q
    · exact (h.lnew a q).2.1 rfl
    · omega
  have hln2 : ∀ m, LN (stO H' d 0 [v']) v' m ↔ LN H' v' m := LN_same fun a off hb => by rw [hst2, get_put, if_neg (hdb a off hb)]
  have hfin : ∀ m, m < Hc.nx → m ≠ d → ¬ LN H vg m → (stO H' d 0 [v']).get m = Hc.get m := fun m hm hmd hq => by
    rw [hst2, get_put, if_neg hmd, hkept' m hm hq]
  refine ⟨v', H', ns, h1, h2.single, ⟨_, _, _, _, hd', by simp⟩, ?_, fun pend hp hpl => ?_⟩
  · refine ⟨by rw [hst2, get_put, if_pos rfl], ?_, ?_, ?_, fun m hm => ?_, ?_, hnew, ⟨e1, e2, e3, e4, e5, e6⟩, ?_, fun m hm => ?_, by simp [h.len], fun i y l' hy hl' => ?_⟩
    · rw [hfin pn (by omega) (fun q => e1 q.symm) (fun q => (h.lnew pn q).2.2.1 rfl), hcget pn hpnlt]; exact h.pnr
    · rw [hfin pm (by omega) (fun q => e2 q.symm) (fun q => (h.lnew pm q).2.2.2.1 rfl), hcget pm hpmlt]; exact h.pmr
    · rw [hfin im (by omega) (fun q => e3 q.symm) (fun q => (h.lnew im q).2.2.2.2 rfl), hcget im himlt]; exact h.imr
    · have := h.nx
      rw [hfin m (by omega) (by omega) (fun q => by have := (h.lnew m q).1; omega), hcget m (by omega)]; exact h.old m hm
    · rw [nx_stO]; have := h.nx; omega
    · exact h2.congr fun a off hb => by rw [hst2, get_put, if_neg (hdb a off hb)]
    · rcases hln' m ((hln2 m).1 hm) with q | q
      · exact h.lnew m q
      · omega
    · have hlen2 := h.len
      rcases Nat.lt_trichotomy i hs.length with hi | hi | hi
      · rw [List.getElem?_append_left hi] at hy
        rw [List.getElem?_append_left (by omega)] at hl'
        obtain ⟨q1, q2⟩ := h.rows i y l' hy hl'
        refine ⟨q1.congr fun a off hb => ?_, fun a off hb => ?_⟩
        · obtain ⟨r1, r2, r3, r4, r5, r6⟩ := q2 a off hb
          have := q1.lt hw hb
          rw [hfin a (by omega) r2 r6, hcget a this]
        · obtain ⟨r1, r2, r3, r4, r5, r6⟩ := q2 a off hb
          refine ⟨r1, r2, r3, r4, r5, fun hq => ?_⟩
          have := q1.lt hw hb
          rcases hln' a ((hln2 a).1 hq) with q | q
          · exact r6 q
          · omega
      · subst hi
        rw [List.getElem?_append_right (Nat.le_refl _), Nat.sub_self] at hy
        rw [List.getElem?_append_right (by omega), show hs.length - gd.length = 0 by omega] at hl'
        simp only [List.getElem?_cons_zero, Option.some.injEq] at hy hl'
        subst hy
        subst hl'
        have hno : ∀ a, H.nx ≤ a → ¬ LN H vg a := fun a ha q => by have := h.lst.lt hw q; omega
        refine ⟨hx.congr fun a off hb => ?_, fun a off hb => ?_⟩
        · have q1 := hxn a off hb
          have q2 := hx.lt hwc hb
          exact hfin a q2 (by omega) (hno a q1)
        · have q1 := hxn a off hb
          have q2 := hx.lt hwc hb
          refine ⟨by have := h.nx; omega, by omega, by omega, by omega, by omega, fun hq => ?_⟩
          rcases hln' a ((hln2 a).1 hq) with q | q
          · exact hno a q1 q
          · omega
      · rw [List.getElem?_eq_none (by simp; omega)] at hy
        cases hy
  · have hpw : Pok Hb (fun m => H0.nx ≤ m) pend := fun p hq => by
      have q1 := (hp p hq).1
      have q2 := hpl p hq
      have := h.nx
      exact ⟨by rw [hbget p (by omega)]; exact q1, by omega⟩
    have hpw' : Pok H' (fun m => H0.nx ≤ m) pend := fun p hq => by
      have q1 := (hp p hq).1
      have q2 := hpl p hq
      have := h.nx
      exact ⟨by rw [hkept' p (by omega) (fun q => by have := (h.lnew p q).1; omega)]; exact q1, by omega⟩
    refine ⟨h5 _ pend hpw fun m hm => .inl ((h.lnew m ((hln m).1 hm)).1), ?_⟩
    rw [stOld_eq hd']
    exact AOk.one hpw' hd' rfl rfl hnew.1


/-! ### The lists of those ahead: how long -/
def total (p : List (List Int)) : Nat := (p.map List.length).sum

theorem total_set : ∀ (p : List (List Int)) (i : Nat) (n : Int), total (p.set i (p.getD i [] ++ [n])) ≤ total p + 1
  | [], i, n => by simp [total]
  | x :: r, 0, n => by simp [total]; omega
  | x :: r, i + 1, n => by
    have := total_set r i n
    simp only [total, List.set_cons_succ, List.getD_cons_succ, List.map_cons, List.sum_cons] at this ⊢
    omega

theorem total_in (n : Int) : ∀ (l : List Int) (p : List (List Int)), total (predsIn n l p) ≤ total p + l.length
  | [], p => by simp [predsIn]
  | t :: r, p => by
    have h1 := total_in n r (p.set t.toNat (p.getD t.toNat [] ++ [n]))
    have h2 := total_set p t.toNat n
    simp only [predsIn, List.length_cons]
    omega

theorem total_all (g : List (List Int)) (h : ∀ l ∈ g, l.length ≤ 1024) : ∀ (o : List Int) (p : List (List Int)), total (predsAll g o p) ≤ total p + o.length * 1024
  | [], p => by simp [predsAll]
  | n :: r, p => by
    have h1 := total_all g h r (predsIn n (g.getD n.toNat []) p)
    have h2 := total_in n (g.getD n.toNat []) p
    have h3 : (g.getD n.toNat []).length ≤ 1024 := by
      by_cases hn : n.toNat < g.length
      · rw [List.getD_eq_getElem?_getD, List.getElem?_eq_getElem hn]; exact h _ (List.getElem_mem hn)
      · rw [List.getD_eq_getElem?_getD, List.getElem?_eq_none (by omega)]; simp
    simp only [predsAll, List.length_cons]
    omega

theorem len_total : ∀ (p : List (List Int)) (l : List Int), l ∈ p → l.length ≤ total p
  | x :: r, l, h => by
    simp only [total, List.map_cons, List.sum_cons]
    rcases List.mem_cons.1 h with rfl | h
    · omega
    · have := len_total r l h
      simp only [total] at this
      omega

theorem predsIn_len (n : Int) : ∀ (l : List Int) (p : List (List Int)), (predsIn n l p).length = p.length
  | [], p => rfl
  | t :: r, p => by rw [predsIn, predsIn_len n r]; simp

theorem predsAll_len (g : List (List Int)) : ∀ (o : List Int) (p : List (List Int)), (predsAll g o p).length = p.length
  | [], p => rfl
  | n :: r, p => by rw [predsAll, predsAll_len g r, predsIn_len]

theorem total_rep (n : Nat) : total (List.replicate n []) = 0 := by
  induction n with
  | zero => rfl
  | succ n ih => simp only [total, List.replicate_succ, List.map_cons, List.sum_cons, List.length_nil] at ih ⊢; omega

/-- What New hands back. -/
def NewOk (H0 H' : AH) (d : Nat) (g : List (List Int)) (order : List Int) (pl : Fn) (idom : List Int) : Prop :=
  ∃ vg vp vo vi pm hs, DomIs H' (fun m => H0.nx ≤ m ∧ m < H'.nx) d g order pl idom vg vp vo vi pm hs ∧ (∀ m, m < H0.nx → H'.get m = H0.get m) ∧ H0.nx ≤ H'.nx

def nwHead (ln d : Nat) (v : AV) (len : Nat) (i : Int) : List (Nat × AV) := [(4, .ptr ln 0), (5, .ptr d 0), (30, v), (31, .int .i64 len), (32, .int .i64 i)]

section
variable {w0 : World} {H0 : AH} {below : List AFr}

theorem reps_nil (np i : Nat) (h : AV) (hy : (reps [AV.nslice 0 0] np)[i]? = some h) : h = .nslice 0 0 := by
  induction np generalizing i with
  | zero => simp [reps] at hy
  | succ n ih =>
    rw [show reps [AV.nslice 0 0] (n + 1) = .nslice 0 0 :: reps [AV.nslice 0 0] n from rfl] at hy
    cases i with
    | zero => simpa using hy.symm
    | succ i => exact ih i (by simpa using hy)

theorem reps_len (c : AV) (np : Nat) : (reps [c] np).length = np := by
  induction np with
  | zero => rfl
  | succ n ih => rw [show reps [c] (n + 1) = c :: reps [c] n from rfl, List.length_cons, ih]

theorem LN_nil (H : AH) (m : Nat) : ¬ LN H (.nslice 0 0) m := fun ⟨_, _, h, _⟩ => by simp [slBase] at h


theorem new_end {d pn pm im ln : Nat} {v : AV} (hw0 : Wf H0) (hp : Pok H0 (fun _ => False) (stackPend below)) {vg : AV} {H : AH} {hs : List AV} {g : List (List Int)} (hw : Wf H) (h : NSt H0 d pn pm im g.length H vg hs g)
    (hsm : ∀ l ∈ g, l.length ≤ 1024) (hgood : Go.Proofs.DomP.Good g) (hg1 : g.length ≤ 1024) (hg0 : 0 < g.length) {k : Nat} {sf : Seen} {done : List Int} (hdfs : dfsN g k 0 (fun _ => false) [] = some (sf, done)) {upF : Fn} {nodes : List Int} (hnodes : done.reverse = 0 :: nodes)
    (hS : SolveR (placeF done.reverse 0 fun _ => none) (predsAll g done.reverse (List.replicate g.length [])) nodes up0 upF) (hrange : ∀ k v, upF k = some v → 0 ≤ k ∧ k < (g.length : Int)) :
    ∀ z, Leads P w0 (RetK P 9 below fun y H' => ∃ d, y = .tuple [.ptr d 0, .int .i64 0] ∧ NewOk H0 H' d g done.reverse (placeF done.reverse 0 fun _ => none) (idomF upF g.length)) ⟨w nB (setL (tz 53 z) (nwHead ln d v g.length (g.length : Nat))), below, H⟩ := by
  intro z
  have hdlt := hw d _ h.row
  have hpnlt := hw pn _ h.pnr
  have hpmlt := hw pm _ h.pmr
  have himlt := hw im _ h.imr
  obtain ⟨n1, n2, n3, n4⟩ := h.new
  obtain ⟨e1, e2, e3, e4, e5, e6⟩ := h.ne
  have hnx := h.nx
  have hpl : ∀ p ∈ stackPend below, p < H0.nx := fun p hq => by
    obtain ⟨o, ho⟩ := Option.isSome_iff_exists.1 (hp p hq).1
    exact hw0 p o ho
  have hPN : ∀ m, PN H pn (reps [.nslice 0 0] g.length) m ↔ m = pn := fun m => by
    constructor
    · rintro (q | ⟨i, y, q1, q2⟩)
      · exact q
      · rw [reps_nil _ _ _ q1] at q2; exact (LN_nil _ _ q2).elim
    · exact fun q => .inl q
  have hps : Preds H pn (List.replicate g.length []) (reps [.nslice 0 0] g.length) := by
    refine ⟨h.pnr, by rw [reps_len]; simp, fun i y l q1 q2 => ?_, fun i j y y' q1 q2 _ m q3 => ?_, fun i y q1 q2 => ?_⟩
    · have : l = [] := by
        rw [List.getElem?_replicate] at q2
        split at q2
        · exact (Option.some.inj q2).symm
        · cases q2
      subst this
      rw [reps_nil _ _ _ q1]; exact Lst.nil H 3
    · rw [reps_nil _ _ _ q1] at q3; exact (LN_nil _ _ q3).elim
    · rw [reps_nil _ _ _ q1] at q2; exact (LN_nil _ _ q2).elim
  have hmat : Mat H (fun m => H0.nx ≤ m ∧ m < H.nx ∧ m ≠ d ∧ m ≠ pn ∧ m ≠ pm ∧ m ≠ im) vg g hs := by
    refine ⟨h.lst.slr, fun n off hb => ?_, h.len, fun i y l q1 q2 => ?_⟩
    · obtain ⟨r1, r2, r3, r4, r5⟩ := h.lnew n ⟨n, off, hb, .inl rfl⟩
      exact ⟨r1, h.lst.slr.lt hw hb, r2, r3, r4, r5⟩
    · obtain ⟨r1, r2⟩ := h.rows i y l q1 q2
      refine ⟨r1, fun n off hb => ?_⟩
      obtain ⟨s1, s2, s3, s4, s5, s6⟩ := r2 n off hb
      exact ⟨s1, r1.lt hw hb, s2, s3, s4, s5⟩
  have hplace : MapF H pm kI kI fun _ => (none : Option Int) := ⟨[], 0, by unfold MapL; rw [h.pmr]; rfl, fun _ => rfl, MI.nil⟩
  have hwalk := walk_ret (w0 := w0) h.row hplace hmat hps e2 (fun q => e1 ((hPN d).1 q)) (fun q => e4 ((hPN pm).1 q).symm) (fun m q => ⟨q.2.1, q.2.2.1, q.2.2.2.2.1, fun x => q.2.2.2.1 ((hPN m).1 x)⟩) hsm hgood hg1 hg0 rfl hdfs
  have hdl : done.length ≤ 1024 := by
    obtain ⟨new, hdone, hadds⟩ := dfsN_adds hgood k 0 _ _ _ _ rfl (Int.le_refl 0) (by omega) hdfs
    rw [List.nil_append] at hdone
    have := nodup_len g.length done (by rw [hdone]; exact hadds.nodup) (fun x hx => hadds.range x (by rw [← hdone]; exact hx))
    omega
  have hrng : ∀ x ∈ done, 0 ≤ x ∧ x < (g.length : Int) := by
    obtain ⟨new, hdone, hadds⟩ := dfsN_adds hgood k 0 _ _ _ _ rfl (Int.le_refl 0) (by omega) hdfs
    rw [List.nil_append] at hdone
    exact fun x hx => hadds.range x (by rw [← hdone]; exact hx)
  refine Leads.go fine (newE w0 _ _ below z g.length d ln v g.length H (fun m => m = d ∨ m = pm ∨ PN H pn (reps [.nslice 0 0] g.length) m) (fun _ m => m = im)
    (fun _ Ha => (∃ vo ps', WPost H d pm pn g.length vg (.slice im 0 g.length g.length) done.reverse g (reps [.nslice 0 0] g.length) Ha vo ps') ∧ Wf Ha)
    (fun Ha _ Hb => Hb.get im = some (.row ((idomF upF g.length).map kI) 3 true (.own none)) ∧ (∀ m, m < Ha.nx → m ≠ im → Hb.get m = Ha.get m) ∧ Ha.nx ≤ Hb.nx)) rfl
    ⟨by simp, trivial, hwalk.wf.mono (fun y H' q => ⟨(), q.1.1, q.1.2, q.2⟩), fun p hq => ?_, fun _ Ha hq => ?_⟩
  · have := hpl p hq
    refine ⟨by rw [h.old p this]; exact (hp p hq).1, ?_⟩
    rintro (q | q | q)
    · omega
    · omega
    · have := (hPN p).1 q; omega
  · obtain ⟨⟨vo, ps', hW⟩, hwa⟩ := hq
    have hanx := hW.kept.nx
    have hka : ∀ m, m < H.nx → m ≠ d → m ≠ pm → m ≠ pn → Ha.get m = H.get m := fun m hm q1 q2 q3 => hW.kept.get m hm (by
      rintro (q | q | q)
      · exact q1 q
      · exact q2 q
      · exact q3 ((hPN m).1 q))
    have E : SEnv Ha d pm pn g.length im vg vo (placeF done.reverse 0 fun _ => none) (predsAll g done.reverse (List.replicate g.length [])) ps' 0 nodes := by
      refine ⟨hW.row, by rw [← hnodes]; exact hW.ord, hW.place, hW.preds, by rw [predsAll_len]; simp, ?_, fun n hn => ?_, ?_, fun l hl => ?_⟩
      · rw [hka im himlt (fun q => e3 q.symm) (fun q => e6 q.symm) (fun q => e5 q.symm)]; exact h.imr
      · exact hrng n (List.mem_reverse.1 (by rw [hnodes]; exact List.mem_cons_of_mem _ hn))
      · have := congrArg List.length hnodes
        simp at this; omega
      · have q1 := len_total _ l hl
        have q2 := total_all g hsm done.reverse (List.replicate g.length [])
        rw [total_rep] at q2
        simp at q2
        omega
    have hsolve := solve_ret (w0 := w0) E e3 hS hrange
    refine ⟨trivial, hsolve.mono (fun y H' q => ⟨(), q⟩), fun p hq => ?_, fun _ Hb hb => ?_⟩
    · have := hpl p hq
      refine ⟨by rw [hka p (by omega) (by omega) (by omega) (by omega), h.old p this]; exact (hp p hq).1, by omega⟩
    · obtain ⟨b1, b2, b3⟩ := hb
      refine ⟨d, rfl, vg, .slice pn 0 g.length g.length, vo, .slice im 0 g.length g.length, pm, hs, ⟨⟨_, by rw [b2 d (by omega) e3]; exact hW.row⟩, ⟨n1, by omega⟩, ?_, ?_, fun n off hb => ?_, ?_, ⟨n3, by omega⟩, ?_, fun n off hb => ?_, ps', ?_⟩, fun m hm => ?_, by omega⟩
      · refine (hmat.congr (H' := Hb) fun m q => ?_).mono fun m q => ⟨q.1, by omega⟩
        obtain ⟨q1, q2, q3, q4, q5, q6⟩ := q
        rw [b2 m (by omega) q6, hka m q2 q3 q5 q4]
      · exact hW.ord.slr.congr fun n off hb => by
          have q1 := (hW.ln n ⟨n, off, hb, .inl rfl⟩).1
          exact b2 n (hW.ord.slr.lt hwa hb) (by omega)
      · have q1 := (hW.ln n ⟨n, off, hb, .inl rfl⟩).1
        have q2 := hW.ord.slr.lt hwa hb
        exact ⟨by omega, by omega⟩
      · exact hW.place.congr (b2 pm (by omega) e6)
      · have := SlR.of_row (c := g.length) b1
        rw [List.length_map, show (idomF upF g.length).length = g.length by simp [idomF]] at this
        exact this
      · simp [slBase] at hb
        obtain ⟨rfl, _⟩ := hb
        exact ⟨n4, by omega⟩
      · have hpn : ∀ m, PN Ha pn ps' m → H0.nx ≤ m ∧ m ≠ im := fun m hm => by
          rcases hW.pn m hm with q | q
          · have := (hPN m).1 q
            subst this
            exact ⟨n2, e5⟩
          · exact ⟨by omega, by omega⟩
        have hpl : (predsAll g done.reverse (List.replicate g.length [])).length = g.length := by rw [predsAll_len]; simp
        have hrow : Hb.get pn = some (.row ps' 34 true (.own none)) := by
          rw [b2 pn (by have := hwa pn _ hW.preds.row; omega) e5]; exact hW.preds.row
        refine ⟨?_, fun n off hb => ?_, hW.preds.len, fun i y l q1 q2 => ⟨?_, fun n off hb => ?_⟩⟩
        · have := SlR.of_row (c := g.length) hrow
          rw [hW.preds.len, hpl] at this
          exact this
        · simp [slBase] at hb
          obtain ⟨rfl, _⟩ := hb
          have := hwa pn _ hW.preds.row
          exact ⟨n2, by omega⟩
        · exact (hW.preds.each i y l q1 q2).slr.congr fun n off hb => b2 n ((hW.preds.each i y l q1 q2).slr.lt hwa hb) (hpn n (.inr ⟨i, y, q1, n, off, hb, .inl rfl⟩)).2
        · have := (hW.preds.each i y l q1 q2).slr.lt hwa hb
          exact ⟨(hpn n (.inr ⟨i, y, q1, n, off, hb, .inl rfl⟩)).1, by omega⟩
      · rw [b2 m (by omega) (by omega), hka m (by omega) (by omega) (by omega) (by omega)]
        exact h.old m hm
end

/-- What append gives. -/
noncomputable def apR (Hc : AH) (x vg : AV) : AV × AH × List Nat := match aAppend P (Hc.new (.row [x] 34 true (.own none))) [22, 22] [vg, .slice Hc.nx 0 1 1] with
  | some [(.val v', H', ns)] => (v', H', ns)
  | _ => (.tuple [], Hc, [])

section
variable {w0 : World} {H0 : AH} {below : List AFr}
theorem clone_loop {R : AV → AH → Prop} {d pn pm im ln np : Nat} {v : AV} (hw0 : Wf H0) (hp : Pok H0 (fun _ => False) (stackPend below)) {S : Nat → Prop} {g : List (List Int)} {hs0 : List AV} (hmat : Mat H0 S v g hs0) (hg1 : g.length ≤ 1024) (hsm : ∀ l ∈ g, l.length ≤ 1024)
    (hend : ∀ (H : AH) (vg : AV) (hs : List AV), Wf H → NSt H0 d pn pm im np H vg hs g → ∀ z, Leads P w0 (RetK P 9 below R) ⟨w nB (setL (tz 53 z) (nwHead ln d v g.length (g.length : Nat))), below, H⟩) :
    ∀ (r : List (List Int)) (i : Nat) (H : AH) (vg : AV) (hs : List AV), g.drop i = r → i ≤ g.length → NSt H0 d pn pm im np H vg hs (g.take i) → ∀ z, Leads P w0 (RetK P 9 below R) ⟨w nB (setL (tz 53 z) (nwHead ln d v g.length (i : Nat))), below, H⟩
  | [], i, H, vg, hs, hdr, hi, h, z => by
    refine Leads.wf fun hw => ?_
    have hil := drop_end hdr hi
    subst hil
    rw [List.take_length] at h
    exact hend H vg hs hw h z
  | l :: r, i, H, vg, hs, hdr, hi, h, z => by
    refine Leads.wf fun hw => ?_
    obtain ⟨hlt, hl, hdr'⟩ := drop_step hdr
    have hpl : ∀ p ∈ stackPend below, p < H0.nx := fun p hq => by
      obtain ⟨o, ho⟩ := Option.isSome_iff_exists.1 (hp p hq).1
      exact hw0 p o ho
    obtain ⟨a, ao, hv, p1, p2, p3, p4, p5⟩ := hmat.at hl
    have halt : a < H0.nx := by
      unfold rdAt at p2
      cases hga : H0.get a with
      | none => rw [hga] at p2; cases p2
      | some o => exact hw0 a o hga
    have hll := hsm l (List.mem_of_getElem? hl)
    have p2' : rdAt H a (ao + Int.toNat (i : Int) * 1) = some hv := by
      rw [rdAt_congr (h.old a halt)]; simpa using p2
    have p4' : SlR H hv (l.map kI) := p4.congr fun n off hb => h.old n (p4.lt hw0 hb)
    have hclone := (clone_ret (w0 := w0) p4' (by simpa using by omega) (by simp [kI, AV.single])).wf
    have hrd : rdAt H d 0 = some vg := by rw [rdAt_row h.row]; rfl
    have hpk : Pok H (fun _ => False) (stackPend below) := fun p hq => by
      rw [h.old p (hpl p hq)]; exact hp p hq
    have hlen : hs.length + 1 ≤ 100000000 := by have := h.len; rw [List.length_take] at this; omega
    refine Leads.go fine (newL w0 _ _ below z g.length a ao d ln v hv vg (fun x Hc => (apR Hc x vg).1) i H (fun x Hc => (apR Hc x vg).2.1) (fun x Hc => (apR Hc x vg).2.2)
      (fun x Hc => (SlR Hc x (l.map kI) ∧ (∀ n off, slBase x = some (n, off) → H.nx ≤ n) ∧ Kept (fun _ => False) H Hc) ∧ Wf Hc)) rfl
      ⟨by simpa using hlt, p1, p2', hrd, trivial, hclone.mono (fun y H' q => ⟨y, rfl, q⟩), fun p hq => ?_, fun x Hc hq => ?_⟩
    · rcases List.mem_cons.1 hq with rfl | hq
      · exact ⟨by rw [h.row]; rfl, fun q => q⟩
      · exact hpk p hq
    · obtain ⟨⟨q1, q2, q3⟩, hwc⟩ := hq
      obtain ⟨v', H', ns, r1, r2, r3, r4, r5⟩ := h.put hw hwc q3 q1 q2 hlen
      have hap : apR Hc x vg = (v', H', ns) := by unfold apR; rw [r1]
      have hpc : Pok Hc (fun _ => False) (stackPend below) := fun p hq => by
        have := hpl p hq
        have := h.nx
        rw [q3.get p (by omega) id]; exact hpk p hq
      obtain ⟨s1, s2⟩ := r5 _ hpc hpl
      simp only [hap]
      refine ⟨one_cell et22 rfl q1.single, trivial, r1, s1, r2, r3, s2, ?_⟩
      rw [wrap1 i (by omega)]
      refine Leads.at (nwHead ln d v g.length (i + 1 : Nat)) (by kernel_rfl) (clone_loop hw0 hp hmat hg1 hsm hend r (i + 1) (stO H' d 0 [v']) v' (hs ++ [x]) hdr' hlt ?_)
      rw [List.take_add_one, hl]
      exact r4
end

section
variable {w0 : World} {below : List AFr}
theorem new_start {R : AV → AH → Prop} {d ln len : Nat} {v : AV} {Hx : AH} {a0 a1 a2 a3 a6 a7 a8 a9 a10 a11 a12 a13 a14 a15 a16 a17 a18 a19 a20 a21 a22 a23 a24 a25 a26 a27 a28 a29 a33 a34 a35 a36 a37 a38 a39 a40 a41 a42 a43 a44 a45 a46 a47 a48 a49 a50 a51 a52 : AV} (g : ∀ z, Leads P w0 (RetK P 9 below R) ⟨w nB (setL (tz 53 z) (nwHead ln d v len (0 : Nat))), below, Hx⟩) : Leads P w0 (RetK P 9 below R) ⟨w nB (tl [a0, a1, a2, a3, .ptr ln 0, .ptr d 0, a6, a7, a8, a9, a10, a11, a12, a13, a14, a15, a16, a17, a18, a19, a20, a21, a22, a23, a24, a25, a26, a27, a28, a29, v, .int .i64 (len : Nat), .int .i64 (0 : Int), a33, a34, a35, a36, a37, a38, a39, a40, a41, a42, a43, a44, a45, a46, a47, a48, a49, a50, a51, a52]), below, Hx⟩ :=
  Leads.at (nwHead ln d v len (0 : Nat)) (by kernel_rfl) g

theorem NSt.start {H0 Hx : AH} {d pn pm im np : Nat} (row : Hx.get d = some (.row [.nslice 0 0, .slice pn 0 np np, .nslice 0 0, .map pm, .slice im 0 np np] 52 true (.own none)))
    (pnr : Hx.get pn = some (.row (reps [.nslice 0 0] np) 34 true (.own none))) (pmr : Hx.get pm = some (.map [] 0)) (imr : Hx.get im = some (.row ((List.replicate np (-1 : Int)).map kI) 3 true (.own none)))
    (old : ∀ m, m < H0.nx → Hx.get m = H0.get m) (nx : H0.nx ≤ Hx.nx) (new : H0.nx ≤ d ∧ H0.nx ≤ pn ∧ H0.nx ≤ pm ∧ H0.nx ≤ im) (ne : d ≠ pn ∧ d ≠ pm ∧ d ≠ im ∧ pn ≠ pm ∧ pn ≠ im ∧ pm ≠ im) : NSt H0 d pn pm im np Hx (.nslice 0 0) [] [] :=
  ⟨row, pnr, pmr, imr, old, nx, new, ne, Lst.nil Hx 34, fun m hm => (LN_nil _ _ hm).elim, rfl, fun i h l h1 => by cases h1⟩

theorem nx_new (H : AH) (o : AObj) : (H.new o).nx = H.nx + 1 := rfl

theorem mk34 {len : Nat} (h : len ≤ 1024) : MkOk P 34 (len : Int) (len : Int) := by
  refine ⟨by omega, Int.le_refl _, by omega, ?_⟩
  rw [show bytesT P 34 = 24 by kernel_rfl]
  simp; omega

/-- Of what a slice of slices is told. -/
def longC (c : AV) : Bool := match aLenOf c with | some n => decide (1024 < n) | none => false

theorem longC_ok {H : AH} {c : AV} {cs : List AV} (h : SlR H c cs) : longC c = decide (1024 < cs.length) := by
  have := h.len
  unfold longC; rw [this]

theorem kI_inj : ∀ (a b : List Int), a.map kI = b.map kI → a = b
  | [], [], _ => rfl
  | [], y :: b, h => by cases h
  | x :: a, [], h => by cases h
  | x :: a, y :: b, h => by
    simp only [List.map_cons, List.cons.injEq] at h
    have h1 : x = y := by have := h.1; simp [kI] at this; exact this
    rw [h1, kI_inj a b h.2]

theorem SlR_fun {H : AH} {c : AV} {a b : List AV} (h1 : SlR H c a) (h2 : SlR H c b) : a = b := by
  have e1 := h1.len
  have e2 := h2.len
  rw [e1] at e2
  have e3 : a.length = b.length := Option.some.inj e2
  have f1 := h1.first
  have f2 := h2.first
  rw [e3, f2] at f1
  exact (Option.some.inj f1).symm

open Classical in
noncomputable def badC (H : AH) (n : Int) (c : AV) : Bool := if h : ∃ l : List Int, SlR H c (l.map kI) then badTo n (Classical.choose h) else false

theorem badC_ok {H : AH} {n : Int} {c : AV} {l : List Int} (h : SlR H c (l.map kI)) : badC H n c = badTo n l := by
  have hx : ∃ l : List Int, SlR H c (l.map kI) := ⟨l, h⟩
  unfold badC
  rw [dif_pos hx]
  exact congrArg _ (kI_inj _ _ (SlR_fun (Classical.choose_spec hx) h))

/-- What New answers. -/
def NewR (H : AH) (g : List (List Int)) (order : List Int) (pl : Fn) (idom : List Int) (y : AV) (H' : AH) : Prop :=
  (∀ m, m < H.nx → H'.get m = H.get m) ∧ H.nx ≤ H'.nx ∧
  ((g.length = 0 ∧ y = .tuple [.nptr, .int .i64 1]) ∨ (0 < g.length ∧ (1024 < g.length ∨ ∃ l ∈ g, 1024 < l.length) ∧ y = .tuple [.nptr, .int .i64 3]) ∨
   (0 < g.length ∧ g.length ≤ 1024 ∧ (∀ l ∈ g, l.length ≤ 1024) ∧ ¬ Go.Proofs.DomP.Good g ∧ y = .tuple [.nptr, .int .i64 1]) ∨
   (0 < g.length ∧ g.length ≤ 1024 ∧ (∀ l ∈ g, l.length ≤ 1024) ∧ Go.Proofs.DomP.Good g ∧ ∃ d, y = .tuple [.ptr d 0, .int .i64 0] ∧ NewOk H H' d g order pl idom))
end

section
variable {w0 : World}
theorem ret34 {Hx : AH} {n r len : Nat} (hn : Hx.get n = some (.row [.int .i64 (-1)] 3 true (.own none))) (hr : r = Hx.nx) (h1 : len ≤ 1024) (h0 : 1 ≤ len) :
    Ret P w0 34 [.slice n 0 1 1, .int .i64 (len : Nat)] Hx (fun _ => False) fun v H' => ∃ _ : Unit, v = .slice r 0 len len ∧ RepQ Hx r len H' := by
  subst hr
  exact (rep_ret (w0 := w0) hn h1 h0).mono fun v H' q => ⟨(), q.1, q.2.1, q.2.2.1, q.2.2.2⟩

theorem Pok.news {H : AH} {pend : List Nat} (h : Pok H (fun _ => False) pend) (hw : Wf H) (o : AObj) : Pok (H.new o) (fun _ => False) pend := h.mono hw (Kept.new _ _ _) fun m _ hx => hx

theorem PW {H : AH} {pend : List Nat} {o : AObj} (h : Pok H (fun _ => False) pend ∧ Wf H) : Pok (H.new o) (fun _ => False) pend ∧ Wf (H.new o) := ⟨Pok.news h.1 h.2 o, h.2.new o⟩

theorem get_at {H : AH} {o : AObj} {n : Nat} (h : n = H.nx) : (H.new o).get n = some o := by rw [get_new, if_pos h]

theorem get_lt {H : AH} {o : AObj} {n : Nat} (h : n < H.nx) : (H.new o).get n = H.get n := by rw [get_new, if_neg (by omega)]




theorem aLen_slice {P : Program} {H H' : AH} {t e : TypeId} {v : AV} (hu : P.underlying t = some (.slice e)) : aLen P H' t v = aLen P H t v := by
  unfold aLen
  rw [hu]
  cases v <;> rfl

/-- THE CONTRACT OF New. -/
theorem lele {n : Nat} (h : ¬ (decide ((n : Int) > 1024)) = true) : n ≤ 1024 := by
  have : ¬ (n : Int) > 1024 := by simpa using h
  omega

theorem new_ret {H : AH} {S : Nat → Prop} {v : AV} {g : List (List Int)} {hs0 : List AV} (hmat : Mat H S v g hs0) {k : Nat} {sf : Seen} {done nodes : List Int} {upF : Fn}
    (hok : 0 < g.length → g.length ≤ 1024 → (∀ l ∈ g, l.length ≤ 1024) → Go.Proofs.DomP.Good g → dfsN g k 0 (fun _ => false) [] = some (sf, done) ∧ done.reverse = 0 :: nodes ∧
      SolveR (placeF done.reverse 0 fun _ => none) (predsAll g done.reverse (List.replicate g.length [])) nodes up0 upF ∧ ∀ k v, upF k = some v → 0 ≤ k ∧ k < (g.length : Int)) :
    Ret P w0 9 [v] H (fun _ => False) (NewR H g done.reverse (placeF done.reverse 0 fun _ => none) (idomF upF g.length)) := Ret.mk fun below hp => by
  refine Leads.wf fun hw => ?_
  have hlh : hs0.length = g.length := hmat.len
  have hal : ∀ H', aLen P H' 22 v = some (.int .i64 (g.length : Nat), []) := fun H' => by
    rw [aLen_slice (H := H) et22.und, hmat.top.aLen (P := P) et22.und, hlh]
  obtain ⟨H1, hH1⟩ : ∃ H1, H1 = H.new (.row [.int .i64 (g.length : Nat)] 3 true (.own none)) := ⟨_, rfl⟩
  have hn1 : H1.nx = H.nx + 1 := by rw [hH1]; rfl
  have hg1 : ∀ m, m < H.nx → H1.get m = H.get m := fun m hm => by rw [hH1, get_new, if_neg (by omega)]
  have hgl : H1.get H.nx = some (.row [.int .i64 (g.length : Nat)] 3 true (.own none)) := by rw [hH1, get_new, if_pos rfl]
  have hw1 : Wf H1 := by rw [hH1]; exact hw.new _
  have hk1 : Kept (fun _ => False) H H1 := by rw [hH1]; exact Kept.new _ _ _
  have hp1 : Pok H1 (fun _ => False) (stackPend below) := hp.mono hw hk1 fun m _ hx => hx
  have hrl : rdAt H1 H.nx 0 = some (.int .i64 (g.length : Nat)) := by rw [rdAt_row hgl]; rfl
  have hmat1 : Mat H1 (fun m => S m ∧ m < H.nx) v g hs0 := by
    have : Mat H (fun m => S m ∧ m < H.nx) v g hs0 := ⟨hmat.top, fun n off hb => ⟨hmat.topS n off hb, hmat.top.lt hw hb⟩, hmat.len, fun i y l q1 q2 => ⟨(hmat.row i y l q1 q2).1, fun n off hb => ⟨(hmat.row i y l q1 q2).2 n off hb, (hmat.row i y l q1 q2).1.lt hw hb⟩⟩⟩
    exact this.congr fun m q => hg1 m q.2
  have hcell : ∀ c ∈ hs0, ∃ l : List Int, l ∈ g ∧ SlR H1 c (l.map kI) := fun c hc => by
    obtain ⟨i, hi, rfl⟩ := List.mem_iff_getElem.1 hc
    have hig : i < g.length := by omega
    exact ⟨g[i], List.getElem_mem hig, (hmat1.row i _ _ (List.getElem?_eq_getElem hi) (List.getElem?_eq_getElem hig)).1⟩
  have hrow : ∀ l ∈ g, ∃ c ∈ hs0, SlR H1 c (l.map kI) := fun l hl => by
    obtain ⟨i, hi, rfl⟩ := List.mem_iff_getElem.1 hl
    have hih : i < hs0.length := by omega
    exact ⟨hs0[i], List.getElem_mem hih, (hmat1.row i _ _ (List.getElem?_eq_getElem hih) (List.getElem?_eq_getElem hi)).1⟩
  have hA : ¬ (decide ((g.length : Int) > 1024)) = true → Ret P w0 29 [v, .func 30 [] []] H1 (fun _ => False) fun x H' => x = .bool (hs0.any longC) ∧ H' = H1 := fun hle => containsA_ret hmat1.top (by have := lele hle; omega) (fun c hc => by
    obtain ⟨l, _, q⟩ := hcell c hc; exact ⟨_, q, longC_ok q⟩) et22.und
  have hB : g.length ≤ 1024 → (∀ l ∈ g, l.length ≤ 1024) → Ret P w0 29 [v, .func 31 [] [.ptr H.nx 0]] H1 (fun _ => False) fun x H' => x = .bool (hs0.any (badC H1 (g.length : Nat))) ∧ H' = H1 := fun hle hsm => containsB_ret hmat1.top (by omega) hrl (fun c hc => by
    obtain ⟨l, hl, q⟩ := hcell c hc; exact ⟨l, q, (by have := hsm l hl; omega), badC_ok q⟩) et22.und
  have hlong : hs0.any longC = true ↔ ∃ l ∈ g, 1024 < l.length := by
    rw [List.any_eq_true]
    constructor
    · rintro ⟨c, hc, q⟩
      obtain ⟨l, hl, q2⟩ := hcell c hc
      rw [longC_ok q2] at q
      exact ⟨l, hl, by simpa using q⟩
    · rintro ⟨l, hl, q⟩
      obtain ⟨c, hc, q2⟩ := hrow l hl
      exact ⟨c, hc, by rw [longC_ok q2]; simpa using q⟩
  have hbad : hs0.any (badC H1 (g.length : Nat)) = true ↔ ¬ Go.Proofs.DomP.Good g := by
    rw [List.any_eq_true]
    constructor
    · rintro ⟨c, hc, q⟩ hG
      obtain ⟨l, hl, q2⟩ := hcell c hc
      rw [badC_ok q2, badTo, List.any_eq_true] at q
      obtain ⟨t, ht, q⟩ := q
      have := hG l hl t ht
      simp at q; omega
    · intro hG
      by_cases hx : ∃ c ∈ hs0, badC H1 (g.length : Nat) c = true
      · exact hx
      · refine (hG fun l hl t ht => ?_).elim
        obtain ⟨c, hc, q2⟩ := hrow l hl
        have hnb : badC H1 (g.length : Nat) c ≠ true := fun q => hx ⟨c, hc, q⟩
        rw [badC_ok q2, badTo, Ne, List.any_eq_true] at hnb
        by_cases hr : 0 ≤ t ∧ t < (g.length : Int)
        · exact hr
        · exact (hnb ⟨t, ht, by simp; omega⟩).elim
  have herr : ∀ m, m < H.nx → H1.get m = H.get m := hg1
  have hst : HSame (stO (H.new (.row [.int .i64 0] 3 true (.own none))) H.nx 0 [.int .i64 (g.length : Nat)]) H1 := by
    rw [hH1]
    exact HSame.stNew (n := H.nx) (off := 0) (vs := [.int .i64 (g.length : Nat)]) (cs := [.int .i64 0]) (e := 3) (ex := true) rfl
  have hnew0 : (H.new (.row [.int .i64 0] 3 true (.own none))).get H.nx = some (.row [.int .i64 0] 3 true (.own none)) := by rw [get_new, if_pos rfl]
  have hao : AOk (H.new (.row [.int .i64 0] 3 true (.own none))) (stackPend below) (H.nx :: stOld (H.new (.row [.int .i64 0] 3 true (.own none))) H.nx) := by
    rw [stOld_eq hnew0]
    refine AOk.one (W := fun m => H.nx ≤ m) (fun p hq => ?_) hnew0 rfl rfl (Nat.le_refl _)
    obtain ⟨o, ho⟩ := Option.isSome_iff_exists.1 (hp p hq).1
    have := hw p o ho
    exact ⟨by rw [get_new, if_neg (by omega)]; exact (hp p hq).1, by omega⟩
  refine Leads.go fine (newA w0 _ _ below g.length v H H1 (hs0.any longC) (hs0.any (badC H1 (g.length : Nat)))) (by kernel_rfl) ⟨hal H, trivial, rfl, ⟨_, _, _, _, hnew0, by simp⟩, hao, by rw [rdAt_congr (hst.get H.nx).symm]; exact hrl, hst, fun h0 => ?_, fun h0 => ⟨hrl, fun h2 => ?_, fun h2 => ⟨trivial, (hA (by rw [h2]; simp)).mono (fun _ _ q => ⟨(), q⟩), hp1, fun _ Ha he => ?_⟩⟩⟩
  · have h0 : (g.length : Int) = 0 := by simpa using h0
    exact ⟨hg1, by omega, .inl ⟨by omega, rfl⟩⟩
  · have h0 : ¬ (g.length : Int) = 0 := by simpa using h0
    have h2 : (g.length : Int) > 1024 := by simpa using h2
    exact ⟨hg1, by omega, .inr (.inl ⟨by omega, .inl (by omega), rfl⟩)⟩
  · have h0 : ¬ (g.length : Int) = 0 := by simpa using h0
    have h2 : ¬ (g.length : Int) > 1024 := by simpa using h2
    subst he
    refine ⟨fun hb => ?_, fun hb => ⟨trivial, (hB (by omega) (fun l hl => by
      by_cases hx : 1024 < l.length
      · rw [hlong.2 ⟨l, hl, hx⟩] at hb; cases hb
      · omega)).mono (fun _ _ q => ⟨(), q⟩), hp1, fun _ Hb he => ?_⟩⟩
    · exact ⟨hg1, by omega, .inr (.inl ⟨by omega, .inr (hlong.1 hb), rfl⟩)⟩
    · subst he
      have hsh : ∀ l ∈ g, l.length ≤ 1024 := fun l hl => by
        by_cases hx : 1024 < l.length
        · rw [hlong.2 ⟨l, hl, hx⟩] at hb; cases hb
        · omega
      refine ⟨fun hc => ?_, fun hc => ⟨hrl, hrl, ?_⟩⟩
      · exact ⟨hg1, by omega, .inr (.inr (.inl ⟨by omega, by omega, hsh, hbad.1 hc, rfl⟩))⟩
      · have hG : Go.Proofs.DomP.Good g := by
          by_cases hx : Go.Proofs.DomP.Good g
          · exact hx
          · rw [hbad.2 hx] at hc; cases hc
        obtain ⟨o1, o2, o3, o4⟩ := hok (by omega) (by omega) hsh hG
        have hmk := mk34 (len := g.length) (by omega)
        have hle : g.length ≤ 1024 := by omega
        have hge : 1 ≤ g.length := by omega
        have hpw := And.intro hp1 hw1
        have hpw2 : Pok _ (fun _ => False) (H.nx :: stackPend below) ∧ Wf _ := And.intro (fun p hq => by
          rcases List.mem_cons.1 hq with rfl | hq
          · exact ⟨by rw [hgl]; rfl, fun q => q⟩
          · exact hp1 p hq) hw1
        have hloop : ∀ {d pn pm im ln : Nat} (Hx : AH) (hN : NSt H d pn pm im g.length Hx (.nslice 0 0) [] []), ∀ z, Leads P w0 (RetK P 9 below (NewR H g done.reverse (placeF done.reverse 0 fun _ => none) (idomF upF g.length))) ⟨w nB (setL (tz 53 z) (nwHead ln d v g.length (0 : Nat))), below, Hx⟩ := fun Hx hN z =>
          (clone_loop hw hp hmat hle hsh (fun H' vg hs hw' h' z => new_end hw hp hw' h' hsh hG hle (by omega) o1 o2 o3 o4 z) g 0 Hx (.nslice 0 0) [] rfl (Nat.zero_le _) (by simpa using hN) z).mono fun B hB => ⟨hB.below, hB.fn, hB.ret, hB.defers, hB.dfr, hB.pan, by
            obtain ⟨y, q1, d, q2, q3⟩ := hB.val
            obtain ⟨vg, vp, vo, vi, pm, hs, t1, t2, t3⟩ := q3
            exact ⟨y, q1, t2, t3, .inr (.inr (.inr ⟨by omega, hle, hsh, hG, d, q2, vg, vp, vo, vi, pm, hs, t1, t2, t3⟩))⟩⟩
        repeat' first
          | exact trivial
          | exact hmk
          | exact hal _
          | exact (PW (PW (PW hpw))).1
          | exact (PW (PW hpw)).1
          | exact (PW (PW hpw2)).1
          | exact (PW hpw).1
          | exact (PW hpw2).1
          | exact (PW (PW (PW hpw2))).1
          | (refine ret34 ?_ rfl hle hge; (repeat (first | (refine get_at ?_; (first | omega | (simp only [nx_new]; done) | (simp only [nx_new] <;> omega)); done) | (refine Eq.trans (get_lt ?_) ?_; focus (first | omega | (simp only [nx_new]; done) | (simp only [nx_new] <;> omega))) | fail)))
          | refine And.intro ?_ ?_
          | (show ∀ (_ : Unit) (Hr : AH), RepQ _ _ _ Hr → _
             intro _ Hr hq
             obtain ⟨r1, r2, r3⟩ := hq
             simp only [nx_new] at r2 r3)
        all_goals exact new_start (hloop _ (NSt.start (by (repeat (first | exact r1 | (refine get_at ?_; (first | omega | (simp only [nx_new]; done) | (simp only [nx_new] <;> omega)); done) | (refine Eq.trans (get_lt ?_) ?_; focus (first | omega | (simp only [nx_new]; done) | (simp only [nx_new] <;> omega))) | (refine Eq.trans (r2 _ ?_) ?_; focus (first | omega | (simp only [nx_new]; done) | (simp only [nx_new] <;> omega))) | fail))) (by (repeat (first | exact r1 | (refine get_at ?_; (first | omega | (simp only [nx_new]; done) | (simp only [nx_new] <;> omega)); done) | (refine Eq.trans (get_lt ?_) ?_; focus (first | omega | (simp only [nx_new]; done) | (simp only [nx_new] <;> omega))) | (refine Eq.trans (r2 _ ?_) ?_; focus (first | omega | (simp only [nx_new]; done) | (simp only [nx_new] <;> omega))) | fail))) (by (repeat (first | exact r1 | (refine get_at ?_; (first | omega | (simp only [nx_new]; done) | (simp only [nx_new] <;> omega)); done) | (refine Eq.trans (get_lt ?_) ?_; focus (first | omega | (simp only [nx_new]; done) | (simp only [nx_new] <;> omega))) | (refine Eq.trans (r2 _ ?_) ?_; focus (first | omega | (simp only [nx_new]; done) | (simp only [nx_new] <;> omega))) | fail))) (by (repeat (first | exact r1 | (refine get_at ?_; (first | omega | (simp only [nx_new]; done) | (simp only [nx_new] <;> omega)); done) | (refine Eq.trans (get_lt ?_) ?_; focus (first | omega | (simp only [nx_new]; done) | (simp only [nx_new] <;> omega))) | (refine Eq.trans (r2 _ ?_) ?_; focus (first | omega | (simp only [nx_new]; done) | (simp only [nx_new] <;> omega))) | fail))) (fun m hm => by (repeat (first | exact r1 | (refine get_at ?_; (first | omega | (simp only [nx_new]; done) | (simp only [nx_new] <;> omega)); done) | (refine Eq.trans (get_lt ?_) ?_; focus (first | omega | (simp only [nx_new]; done) | (simp only [nx_new] <;> omega))) | (refine Eq.trans (r2 _ ?_) ?_; focus (first | omega | (simp only [nx_new]; done) | (simp only [nx_new] <;> omega))) | fail)); exact hg1 _ hm) (by (first | omega | (simp only [nx_new]; done) | (simp only [nx_new] <;> omega))) (by (first | omega | (simp only [nx_new]; done) | (simp only [nx_new] <;> omega))) (by (first | omega | (simp only [nx_new]; done) | (simp only [nx_new] <;> omega)))))
end
end Go.Dm
/- The nearest that stand over nodes, by chains that meet, plain. No program. -/
namespace Go.Proofs.DomP
abbrev Up := Int → Option Int
/-- One step at a time: the one whose place is greater goes up. -/
def meet (place : Int → Int) (up : Up) : Nat → Int → Int → Option Int
  | 0, _, _ => none
  | k + 1, a, b => if a = b then some a else if place b < place a then meet place up k ((up a).getD 0) b else if place a < place b then meet place up k a ((up b).getD 0) else none
/-- up leads to smaller places, and stays within what is known. -/
structure Tree (place : Int → Int) (up : Up) : Prop where
  root : up 0 = some 0
  zero : place 0 = 0
  nonneg : ∀ n, (up n).isSome → 0 ≤ place n
  inj : ∀ x y, (up x).isSome → (up y).isSome → place x = place y → x = y
  step : ∀ n u, up n = some u → n ≠ 0 → (up u).isSome ∧ place u < place n
/-- a stands on the chain from n up. -/
inductive On (up : Up) : Int → Int → Prop
  | self (n : Int) : On up n n
  | next {n u a : Int} : up n = some u → n ≠ 0 → On up u a → On up n a
theorem On.known {place : Int → Int} {up : Up} (T : Tree place up) {n a : Int} (h : On up n a) : (up n).isSome → (up a).isSome ∧ place a ≤ place n := by
  induction h with
  | self n => intro h; exact ⟨h, Int.le_refl _⟩
  | next h0 h1 _ ih =>
    intro _
    obtain ⟨k, l⟩ := T.step _ _ h0 h1
    have := ih k
    exact ⟨this.1, by omega⟩
theorem On.trans {up : Up} {a b c : Int} (h : On up a b) : On up b c → On up a c := by
  induction h with
  | self n => exact id
  | next h0 h1 _ ih => exact fun h => .next h0 h1 (ih h)
theorem meet_some {place : Int → Int} {up : Up} (T : Tree place up) : ∀ (k : Nat) (a b : Int), (up a).isSome → (up b).isSome → place a + place b < (k : Int) →
    ∃ m, meet place up k a b = some m ∧ (up m).isSome ∧ On up a m ∧ On up b m ∧ ∀ x, On up a x → On up b x → On up m x
  | 0, a, b, ha, hb, h => by
    have := T.nonneg a ha
    have := T.nonneg b hb
    omega
  | k + 1, a, b, ha, hb, h => by
    have pa := T.nonneg a ha
    have pb := T.nonneg b hb
    unfold meet
    by_cases e : a = b
    · subst e
      exact ⟨a, by rw [if_pos rfl], ha, .self a, .self a, fun _ h _ => h⟩
    · rw [if_neg e]
      by_cases c : place b < place a
      · rw [if_pos c]
        have a0 : a ≠ 0 := fun h0 => by
          rw [h0, T.zero] at c
          omega
        obtain ⟨u, hu⟩ := Option.isSome_iff_exists.1 ha
        obtain ⟨ku, lu⟩ := T.step a u hu a0
        rw [hu, Option.getD_some]
        obtain ⟨m, e1, km, o1, o2, o3⟩ := meet_some T k u b ku hb (by omega)
        refine ⟨m, e1, km, .next hu a0 o1, o2, fun x hx hy => o3 x ?_ hy⟩
        cases hx with
        | self => have := (hy.known T hb).2; omega
        | next h0 _ h2 =>
          rw [hu] at h0
          injection h0 with h0
          subst h0
          exact h2
      · rw [if_neg c]
        by_cases c2 : place a < place b
        · rw [if_pos c2]
          have b0 : b ≠ 0 := fun h0 => by
            rw [h0, T.zero] at c2
            omega
          obtain ⟨u, hu⟩ := Option.isSome_iff_exists.1 hb
          obtain ⟨ku, lu⟩ := T.step b u hu b0
          rw [hu, Option.getD_some]
          obtain ⟨m, e1, km, o1, o2, o3⟩ := meet_some T k a u ha ku (by omega)
          refine ⟨m, e1, km, o1, .next hu b0 o2, fun x hx hy => o3 x hx ?_⟩
          cases hy with
          | self => have := (hx.known T ha).2; omega
          | next h0 _ h2 =>
            rw [hu] at h0
            injection h0 with h0
            subst h0
            exact h2
        · exact absurd (T.inj a b ha hb (by omega)) e
end Go.Proofs.DomP
