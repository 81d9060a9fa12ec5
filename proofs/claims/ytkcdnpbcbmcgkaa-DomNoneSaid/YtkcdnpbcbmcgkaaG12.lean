/- The engine and the contracts, part 12. No condition beyond the hypotheses of each theorem. -/
import Derived.Test.YtkcdnpbcbmcgkaaG09
import Derived.Test.YtkcdnpbcbmcgkaaG10
import Derived.Test.YtkcdnpbcbmcgkaaG11
/- The document's without. -/
set_option linter.unusedVariables false
namespace Go.Dm
open Go Go.Sx Go.Sy Go.RowKit Go.Proofs.DomP

noncomputable def wQ : AFr := hd P 39 [.r, .r, .r, .r, .l, .i]

noncomputable def wR : AFr := hd P 39 [.r, .r, .r, .r, .l, .i, .i, .r, .i, .r, .r, .r, .i]

noncomputable def wT : AFr := hd P 39 [.r, .r, .r, .r, .r, .r, .l, .r, .i]

theorem wo0 (w0 : World) (K : AM → Prop) (Kr : AV → AH → Prop) (below : List AFr) (e len : Nat) (a : Int) (vg v' : AV) (H H' : AH) (ns : List Nat) : (trun P w0 39 K Kr 300 0 [] ⟨frOf P 39 [.ptr e 0, .int .i64 a], below, H⟩ (.v vg (.ln len (.br (.r (.val v', H', ns) .stop) .stop)))) = (rdAt H e 0 = some vg ∧ aLen P H 22 vg = some (AV.int IntKind.i64 (↑len : Int), []) ∧ MkOk P 4 (↑len : Int) (↑len : Int) ∧ True ∧ ((a != (0 : Int)) = true → ((0 : Int) ≤ (0 : Int) ∧ (0 : Int) < (↑(Int.toNat (↑len : Int)) : Int)) ∧ AV.single (AV.bool true) = true ∧ StOk (AH.new H (AObj.row (reps [AV.bool false] (Int.toNat (↑len : Int))) 4 true (St.own none))) (AH.nx H) 0 1 ∧ apartOk (AH.new H (AObj.row (reps [AV.bool false] (Int.toNat (↑len : Int))) 4 true (St.own none))) (stackPend below) (AH.nx H :: stOld (AH.new H (AObj.row (reps [AV.bool false] (Int.toNat (↑len : Int))) 4 true (St.own none))) (AH.nx H)) = true ∧ True ∧ aAppend P (AH.new (stO (AH.new H (AObj.row (reps [AV.bool false] (Int.toNat (↑len : Int))) 4 true (St.own none))) (AH.nx H) 0 [AV.bool true]) (AObj.row [AV.int IntKind.i64 (0 : Int)] 3 true (St.own none))) [34, 34] [AV.nslice 0 0, AV.slice (AH.nx (stO (AH.new H (AObj.row (reps [AV.bool false] (Int.toNat (↑len : Int))) 4 true (St.own none))) (AH.nx H) 0 [AV.bool true])) 0 1 1] = some [(AN.val v', H', ns)] ∧ apartOk (AH.new (stO (AH.new H (AObj.row (reps [AV.bool false] (Int.toNat (↑len : Int))) 4 true (St.own none))) (AH.nx H) 0 [AV.bool true]) (AObj.row [AV.int IntKind.i64 (0 : Int)] 3 true (St.own none))) (stackPend below) ns = true ∧ K (AM.mk (w wQ (tl [AV.ptr e 0, AV.int IntKind.i64 a, AV.tuple [], AV.tuple [], AV.nslice 0 0, AV.slice (AH.nx H) 0 (Int.toNat (↑len : Int)) (Int.toNat (↑len : Int)), v', AV.tuple [], AV.tuple [], AV.tuple [], AV.tuple [], AV.tuple [], AV.ptr e 0, AV.ptr e 0, AV.ptr e 0, vg, AV.int IntKind.i64 (↑len : Int), AV.slice (AH.nx H) 0 (Int.toNat (↑len : Int)) (Int.toNat (↑len : Int)), AV.int IntKind.i64 a, AV.bool true, AV.slice (AH.nx H) 0 (Int.toNat (↑len : Int)) (Int.toNat (↑len : Int)), AV.ptr (AH.nx H) 0, AV.nslice 0 0, AV.slice (AH.nx (stO (AH.new H (AObj.row (reps [AV.bool false] (Int.toNat (↑len : Int))) 4 true (St.own none))) (AH.nx H) 0 [AV.bool true])) 0 1 1, v', AV.tuple [], AV.tuple [], AV.tuple [], AV.tuple [], AV.tuple [], AV.tuple [], AV.tuple [], AV.tuple [], AV.tuple [], AV.tuple [], AV.tuple [], AV.tuple [], AV.tuple [], AV.tuple [], AV.tuple [], AV.tuple [], AV.tuple [], AV.tuple [], AV.tuple [], AV.tuple [], AV.tuple [], AV.tuple [], AV.tuple [], AV.tuple [], AV.tuple [], AV.tuple [], AV.tuple [], AV.tuple [], AV.tuple [], AV.tuple [], AV.tuple [], AV.tuple [], AV.tuple [], AV.tuple [], AV.tuple [], AV.tuple [], AV.tuple [], AV.tuple [], AV.tuple [], AV.tuple [], AV.tuple [], AV.tuple [], AV.tuple [], AV.tuple [], AV.tuple [], AV.tuple [], AV.tuple [], AV.tuple [], AV.tuple [], AV.tuple [], AV.tuple [], AV.tuple [], AV.tuple [], AV.tuple [], AV.tuple [], AV.tuple [], AV.tuple [], AV.tuple [], AV.tuple [], AV.tuple [], AV.tuple [], AV.tuple [], AV.tuple [], AV.tuple [], AV.tuple [], AV.tuple [], AV.tuple [], AV.tuple [], AV.tuple [], AV.tuple [], AV.tuple [], AV.tuple [], AV.tuple [], AV.tuple [], AV.tuple [], AV.tuple [], AV.tuple [], AV.tuple [], AV.tuple [], AV.tuple [], AV.tuple [], AV.tuple [], AV.tuple [], AV.tuple [], AV.tuple [], AV.tuple [], AV.tuple [], AV.tuple [], AV.tuple [], AV.tuple [], AV.tuple [], AV.tuple [], AV.tuple [], AV.tuple [], AV.tuple []])) below H')) ∧ ((a != (0 : Int)) = false → K (AM.mk (w wQ (tl [AV.ptr e 0, AV.int IntKind.i64 a, AV.tuple [], AV.tuple [], AV.nslice 0 0, AV.slice (AH.nx H) 0 (Int.toNat (↑len : Int)) (Int.toNat (↑len : Int)), AV.nslice 0 0, AV.tuple [], AV.tuple [], AV.tuple [], AV.tuple [], AV.tuple [], AV.ptr e 0, AV.ptr e 0, AV.ptr e 0, vg, AV.int IntKind.i64 (↑len : Int), AV.slice (AH.nx H) 0 (Int.toNat (↑len : Int)) (Int.toNat (↑len : Int)), AV.int IntKind.i64 a, AV.bool false, AV.tuple [], AV.tuple [], AV.tuple [], AV.tuple [], AV.tuple [], AV.tuple [], AV.tuple [], AV.tuple [], AV.tuple [], AV.tuple [], AV.tuple [], AV.tuple [], AV.tuple [], AV.tuple [], AV.tuple [], AV.tuple [], AV.tuple [], AV.tuple [], AV.tuple [], AV.tuple [], AV.tuple [], AV.tuple [], AV.tuple [], AV.tuple [], AV.tuple [], AV.tuple [], AV.tuple [], AV.tuple [], AV.tuple [], AV.tuple [], AV.tuple [], AV.tuple [], AV.tuple [], AV.tuple [], AV.tuple [], AV.tuple [], AV.tuple [], AV.tuple [], AV.tuple [], AV.tuple [], AV.tuple [], AV.tuple [], AV.tuple [], AV.tuple [], AV.tuple [], AV.tuple [], AV.tuple [], AV.tuple [], AV.tuple [], AV.tuple [], AV.tuple [], AV.tuple [], AV.tuple [], AV.tuple [], AV.tuple [], AV.tuple [], AV.tuple [], AV.tuple [], AV.tuple [], AV.tuple [], AV.tuple [], AV.tuple [], AV.tuple [], AV.tuple [], AV.tuple [], AV.tuple [], AV.tuple [], AV.tuple [], AV.tuple [], AV.tuple [], AV.tuple [], AV.tuple [], AV.tuple [], AV.tuple [], AV.tuple [], AV.tuple [], AV.tuple [], AV.tuple [], AV.tuple [], AV.tuple [], AV.tuple [], AV.tuple [], AV.tuple [], AV.tuple [], AV.tuple [], AV.tuple [], AV.tuple [], AV.tuple [], AV.tuple [], AV.tuple [], AV.tuple [], AV.tuple [], AV.tuple [], AV.tuple [], AV.tuple [], AV.tuple [], AV.tuple [], AV.tuple [], AV.tuple [], AV.tuple []])) below (AH.new H (AObj.row (reps [AV.bool false] (Int.toNat (↑len : Int))) 4 true (St.own none)))))) := by kernel_rfl

theorem woE (w0 : World) (K : AM → Prop) (Kr : AV → AH → Prop) (below : List AFr) (z : Nat → AV) (e k len sw np : Nat) (a : Int) (vg v : AV) (H : AH) : (trun P w0 39 K Kr 300 0 [] ⟨w wQ (setL (tz 120 z) [(0, .ptr e 0), (1, .int .i64 a), (5, .slice sw 0 np np), (6, v)]), below, H⟩ (.ln k (.ff (.v vg (.ln len .stop))))) = (aLen P H 34 v = some (AV.int IntKind.i64 (↑k : Int), []) ∧ decide ((↑k : Int) > (0 : Int)) = false ∧ rdAt H e 0 = some vg ∧ aLen P H 22 vg = some (AV.int IntKind.i64 (↑len : Int), []) ∧ MkOk P 4 (↑len : Int) (↑len : Int) ∧ True ∧ K (AM.mk (w wT (tl [AV.ptr e 0, AV.int IntKind.i64 a, z 2, z 3, z 4, AV.slice sw 0 np np, v, z 7, z 8, z 9, AV.slice (AH.nx H) 0 (Int.toNat (↑len : Int)) (Int.toNat (↑len : Int)), AV.int IntKind.i64 (0 : Int), z 12, z 13, z 14, z 15, z 16, z 17, z 18, z 19, z 20, z 21, z 22, z 23, z 24, v, AV.int IntKind.i64 (↑k : Int), AV.bool false, z 28, z 29, z 30, z 31, z 32, z 33, z 34, z 35, z 36, z 37, z 38, z 39, z 40, z 41, z 42, z 43, z 44, z 45, z 46, z 47, z 48, z 49, z 50, z 51, z 52, z 53, z 54, z 55, z 56, z 57, z 58, z 59, z 60, z 61, z 62, z 63, z 64, z 65, z 66, z 67, z 68, z 69, z 70, z 71, z 72, z 73, z 74, z 75, z 76, z 77, AV.ptr e 0, AV.ptr e 0, AV.ptr e 0, vg, AV.int IntKind.i64 (↑len : Int), AV.slice (AH.nx H) 0 (Int.toNat (↑len : Int)) (Int.toNat (↑len : Int)), z 84, z 85, z 86, z 87, z 88, z 89, z 90, z 91, z 92, z 93, z 94, z 95, z 96, z 97, z 98, z 99, z 100, z 101, z 102, z 103, z 104, z 105, z 106, z 107, z 108, z 109, z 110, z 111, z 112, z 113, z 114, z 115, z 116, z 117, z 118, z 119])) below (AH.new H (AObj.row (reps [AV.bool false] (Int.toNat (↑len : Int))) 4 true (St.own none))))) := by kernel_rfl

theorem woP (w0 : World) (K : AM → Prop) (Kr : AV → AH → Prop) (below : List AFr) (z : Nat → AV) (e k sw np tn toff : Nat) (a x : Int) (v v2 : AV) (H : AH) : (trun P w0 39 K Kr 300 0 [] ⟨w wQ (setL (tz 120 z) [(0, .ptr e 0), (1, .int .i64 a), (5, .slice sw 0 np np), (6, v)]), below, H⟩ (.ln k (.tt (.ln k (.bs tn toff (.v (.int .i64 x) (.ln k (.v v2 .stop)))))))) = (aLen P H 34 v = some (AV.int IntKind.i64 (↑k : Int), []) ∧ decide ((↑k : Int) > (0 : Int)) = true ∧ aLen P H 34 v = some (AV.int IntKind.i64 (↑k : Int), []) ∧ SlAt v tn toff (IntKind.wrap IntKind.i64 ((↑k : Int) - (1 : Int))) ∧ rdAt H tn (toff + Int.toNat (IntKind.wrap IntKind.i64 ((↑k : Int) - (1 : Int))) * 1) = some (AV.int IntKind.i64 x) ∧ aLen P H 34 v = some (AV.int IntKind.i64 (↑k : Int), []) ∧ aSlice P H 34 v none (some (AV.int IntKind.i64 (IntKind.wrap IntKind.i64 ((↑k : Int) - (1 : Int))))) none = some v2 ∧ K (AM.mk (w wR (tl [AV.ptr e 0, AV.int IntKind.i64 a, z 2, z 3, z 4, AV.slice sw 0 np np, v2, AV.int IntKind.i64 x, AV.int IntKind.i64 (0 : Int), z 9, z 10, z 11, z 12, z 13, z 14, z 15, z 16, z 17, z 18, z 19, z 20, z 21, z 22, z 23, z 24, v, AV.int IntKind.i64 (↑k : Int), AV.bool true, v, v, AV.int IntKind.i64 (↑k : Int), AV.int IntKind.i64 (IntKind.wrap IntKind.i64 ((↑k : Int) - (1 : Int))), AV.ptr tn (toff + Int.toNat (IntKind.wrap IntKind.i64 ((↑k : Int) - (1 : Int))) * 1), AV.int IntKind.i64 x, v, v, AV.int IntKind.i64 (↑k : Int), AV.int IntKind.i64 (IntKind.wrap IntKind.i64 ((↑k : Int) - (1 : Int))), v2, z 39, z 40, z 41, z 42, z 43, z 44, z 45, z 46, z 47, z 48, z 49, z 50, z 51, z 52, z 53, z 54, z 55, z 56, z 57, z 58, z 59, z 60, z 61, z 62, z 63, z 64, z 65, z 66, z 67, z 68, z 69, z 70, z 71, z 72, z 73, z 74, z 75, z 76, z 77, z 78, z 79, z 80, z 81, z 82, z 83, z 84, z 85, z 86, z 87, z 88, z 89, z 90, z 91, z 92, z 93, z 94, z 95, z 96, z 97, z 98, z 99, z 100, z 101, z 102, z 103, z 104, z 105, z 106, z 107, z 108, z 109, z 110, z 111, z 112, z 113, z 114, z 115, z 116, z 117, z 118, z 119])) below H)) := by kernel_rfl

theorem woIe (w0 : World) (K : AM → Prop) (Kr : AV → AH → Prop) (below : List AFr) (z : Nat → AV) (e sw np gn goff len : Nat) (a x i : Int) (vg hv v : AV) (H : AH) : (trun P w0 39 K Kr 300 0 [] ⟨w wR (setL (tz 120 z) [(0, .ptr e 0), (1, .int .i64 a), (5, .slice sw 0 np np), (6, v), (7, .int .i64 x), (8, .int .i64 i)]), below, H⟩ (.v vg (.bs gn goff (.v hv (.ln len (.ff .stop)))))) = (rdAt H e 0 = some vg ∧ SlAt vg gn goff x ∧ rdAt H gn (goff + Int.toNat x * 1) = some hv ∧ aLen P H 34 hv = some (AV.int IntKind.i64 (↑len : Int), []) ∧ decide (i < (↑len : Int)) = false ∧ K (AM.mk (w wQ (tl [AV.ptr e 0, AV.int IntKind.i64 a, z 2, z 3, z 4, AV.slice sw 0 np np, v, AV.int IntKind.i64 x, AV.int IntKind.i64 i, z 9, z 10, z 11, z 12, z 13, z 14, z 15, z 16, z 17, z 18, z 19, z 20, z 21, z 22, z 23, z 24, z 25, z 26, z 27, z 28, z 29, z 30, z 31, z 32, z 33, z 34, z 35, z 36, z 37, z 38, AV.int IntKind.i64 i, AV.ptr e 0, AV.ptr e 0, AV.ptr e 0, vg, AV.int IntKind.i64 x, AV.ptr gn (goff + Int.toNat x * 1), hv, AV.int IntKind.i64 (↑len : Int), AV.bool false, z 49, z 50, z 51, z 52, z 53, z 54, z 55, z 56, z 57, z 58, z 59, z 60, z 61, z 62, z 63, z 64, z 65, z 66, z 67, z 68, z 69, z 70, z 71, z 72, z 73, z 74, z 75, z 76, z 77, z 78, z 79, z 80, z 81, z 82, z 83, z 84, z 85, z 86, z 87, z 88, z 89, z 90, z 91, z 92, z 93, z 94, z 95, z 96, z 97, z 98, z 99, z 100, z 101, z 102, z 103, z 104, z 105, z 106, z 107, z 108, z 109, z 110, z 111, z 112, z 113, z 114, z 115, z 116, z 117, z 118, z 119])) below H)) := by kernel_rfl

theorem woIa (w0 : World) (K : AM → Prop) (Kr : AV → AH → Prop) (below : List AFr) (z : Nat → AV) (e sw np gn goff hn hoff len : Nat) (a x i t : Int) (vg hv v : AV) (H : AH) : (trun P w0 39 K Kr 300 0 [] ⟨w wR (setL (tz 120 z) [(0, .ptr e 0), (1, .int .i64 a), (5, .slice sw 0 np np), (6, v), (7, .int .i64 x), (8, .int .i64 i)]), below, H⟩ (.v vg (.bs gn goff (.v hv (.ln len (.tt (.v vg (.bs gn goff (.v hv (.bs hn hoff (.v (.int .i64 t) (.ff (.ff (.ff .stop)))))))))))))) = (rdAt H e 0 = some vg ∧ SlAt vg gn goff x ∧ rdAt H gn (goff + Int.toNat x * 1) = some hv ∧ aLen P H 34 hv = some (AV.int IntKind.i64 (↑len : Int), []) ∧ decide (i < (↑len : Int)) = true ∧ rdAt H e 0 = some vg ∧ SlAt vg gn goff x ∧ rdAt H gn (goff + Int.toNat x * 1) = some hv ∧ SlAt hv hn hoff i ∧ rdAt H hn (hoff + Int.toNat i * 1) = some (AV.int IntKind.i64 t) ∧ (t != a) = false ∧ false = false ∧ false = false ∧ K (AM.mk (w wR (tl [AV.ptr e 0, AV.int IntKind.i64 a, z 2, z 3, z 4, AV.slice sw 0 np np, v, AV.int IntKind.i64 x, AV.int IntKind.i64 (IntKind.wrap IntKind.i64 (i + (1 : Int))), AV.int IntKind.i64 t, z 10, z 11, z 12, z 13, z 14, z 15, z 16, z 17, z 18, z 19, z 20, z 21, z 22, z 23, z 24, z 25, z 26, z 27, z 28, z 29, z 30, z 31, z 32, z 33, z 34, z 35, z 36, z 37, z 38, AV.int IntKind.i64 i, AV.ptr e 0, AV.ptr e 0, AV.ptr e 0, vg, AV.int IntKind.i64 x, AV.ptr gn (goff + Int.toNat x * 1), hv, AV.int IntKind.i64 (↑len : Int), AV.bool true, AV.int IntKind.i64 i, AV.int IntKind.i64 (IntKind.wrap IntKind.i64 (i + (1 : Int))), AV.ptr e 0, AV.ptr e 0, AV.ptr e 0, vg, AV.int IntKind.i64 x, AV.ptr gn (goff + Int.toNat x * 1), hv, AV.int IntKind.i64 i, AV.ptr hn (hoff + Int.toNat i * 1), AV.int IntKind.i64 t, AV.int IntKind.i64 t, AV.int IntKind.i64 a, AV.bool (t != a), AV.bool false, AV.tuple [], AV.tuple [], AV.tuple [], AV.tuple [], AV.tuple [], AV.bool false, z 71, z 72, z 73, z 74, z 75, z 76, z 77, z 78, z 79, z 80, z 81, z 82, z 83, z 84, z 85, z 86, z 87, z 88, z 89, z 90, z 91, z 92, z 93, z 94, z 95, z 96, z 97, z 98, z 99, z 100, z 101, z 102, z 103, z 104, z 105, z 106, z 107, z 108, z 109, z 110, z 111, z 112, z 113, z 114, z 115, z 116, z 117, z 118, z 119])) below H)) := by kernel_rfl

theorem woIs (w0 : World) (K : AM → Prop) (Kr : AV → AH → Prop) (below : List AFr) (z : Nat → AV) (e sw np gn goff hn hoff len : Nat) (a x i t : Int) (vg hv v : AV) (H : AH) : (trun P w0 39 K Kr 300 0 [] ⟨w wR (setL (tz 120 z) [(0, .ptr e 0), (1, .int .i64 a), (5, .slice sw 0 np np), (6, v), (7, .int .i64 x), (8, .int .i64 i)]), below, H⟩ (.v vg (.bs gn goff (.v hv (.ln len (.tt (.v vg (.bs gn goff (.v hv (.bs hn hoff (.v (.int .i64 t) (.tt (.v (.bool true) (.tt (.ff .stop))))))))))))))) = (rdAt H e 0 = some vg ∧ SlAt vg gn goff x ∧ rdAt H gn (goff + Int.toNat x * 1) = some hv ∧ aLen P H 34 hv = some (AV.int IntKind.i64 (↑len : Int), []) ∧ decide (i < (↑len : Int)) = true ∧ rdAt H e 0 = some vg ∧ SlAt vg gn goff x ∧ rdAt H gn (goff + Int.toNat x * 1) = some hv ∧ SlAt hv hn hoff i ∧ rdAt H hn (hoff + Int.toNat i * 1) = some (AV.int IntKind.i64 t) ∧ (t != a) = true ∧ ((0 : Int) ≤ t ∧ t < (↑np : Int)) ∧ rdAt H sw (0 + Int.toNat t * 1) = some (AV.bool true) ∧ true = true ∧ (!true) = false ∧ K (AM.mk (w wR (tl [AV.ptr e 0, AV.int IntKind.i64 a, z 2, z 3, z 4, AV.slice sw 0 np np, v, AV.int IntKind.i64 x, AV.int IntKind.i64 (IntKind.wrap IntKind.i64 (i + (1 : Int))), AV.int IntKind.i64 t, z 10, z 11, z 12, z 13, z 14, z 15, z 16, z 17, z 18, z 19, z 20, z 21, z 22, z 23, z 24, z 25, z 26, z 27, z 28, z 29, z 30, z 31, z 32, z 33, z 34, z 35, z 36, z 37, z 38, AV.int IntKind.i64 i, AV.ptr e 0, AV.ptr e 0, AV.ptr e 0, vg, AV.int IntKind.i64 x, AV.ptr gn (goff + Int.toNat x * 1), hv, AV.int IntKind.i64 (↑len : Int), AV.bool true, AV.int IntKind.i64 i, AV.int IntKind.i64 (IntKind.wrap IntKind.i64 (i + (1 : Int))), AV.ptr e 0, AV.ptr e 0, AV.ptr e 0, vg, AV.int IntKind.i64 x, AV.ptr gn (goff + Int.toNat x * 1), hv, AV.int IntKind.i64 i, AV.ptr hn (hoff + Int.toNat i * 1), AV.int IntKind.i64 t, AV.int IntKind.i64 t, AV.int IntKind.i64 a, AV.bool (t != a), AV.bool true, AV.slice sw 0 np np, AV.int IntKind.i64 t, AV.ptr sw (0 + Int.toNat t * 1), AV.bool true, AV.bool !true, AV.bool false, z 71, z 72, z 73, z 74, z 75, z 76, z 77, z 78, z 79, z 80, z 81, z 82, z 83, z 84, z 85, z 86, z 87, z 88, z 89, z 90, z 91, z 92, z 93, z 94, z 95, z 96, z 97, z 98, z 99, z 100, z 101, z 102, z 103, z 104, z 105, z 106, z 107, z 108, z 109, z 110, z 111, z 112, z 113, z 114, z 115, z 116, z 117, z 118, z 119])) below H)) := by kernel_rfl

theorem woIn (w0 : World) (K : AM → Prop) (Kr : AV → AH → Prop) (below : List AFr) (z : Nat → AV) (e sw np gn goff hn hoff len : Nat) (a x i t : Int) (vg hv v v' : AV) (H H' : AH) (ns : List Nat) : (trun P w0 39 K Kr 300 0 [] ⟨w wR (setL (tz 120 z) [(0, .ptr e 0), (1, .int .i64 a), (5, .slice sw 0 np np), (6, v), (7, .int .i64 x), (8, .int .i64 i)]), below, H⟩ (.v vg (.bs gn goff (.v hv (.ln len (.tt (.v vg (.bs gn goff (.v hv (.bs hn hoff (.v (.int .i64 t) (.tt (.v (.bool false) (.tt (.tt (.r (.val v', H', ns) .stop)))))))))))))))) = (rdAt H e 0 = some vg ∧ SlAt vg gn goff x ∧ rdAt H gn (goff + Int.toNat x * 1) = some hv ∧ aLen P H 34 hv = some (AV.int IntKind.i64 (↑len : Int), []) ∧ decide (i < (↑len : Int)) = true ∧ rdAt H e 0 = some vg ∧ SlAt vg gn goff x ∧ rdAt H gn (goff + Int.toNat x * 1) = some hv ∧ SlAt hv hn hoff i ∧ rdAt H hn (hoff + Int.toNat i * 1) = some (AV.int IntKind.i64 t) ∧ (t != a) = true ∧ ((0 : Int) ≤ t ∧ t < (↑np : Int)) ∧ rdAt H sw (0 + Int.toNat t * 1) = some (AV.bool false) ∧ true = true ∧ (!false) = true ∧ ((0 : Int) ≤ t ∧ t < (↑np : Int)) ∧ AV.single (AV.bool true) = true ∧ StOk H sw (0 + Int.toNat t * 1) 1 ∧ apartOk H (stackPend below) (sw :: stOld H sw) = true ∧ True ∧ aAppend P (AH.new (stO H sw (0 + Int.toNat t * 1) [AV.bool true]) (AObj.row [AV.int IntKind.i64 t] 3 true (St.own none))) [34, 34] [v, AV.slice (AH.nx (stO H sw (0 + Int.toNat t * 1) [AV.bool true])) 0 1 1] = some [(AN.val v', H', ns)] ∧ apartOk (AH.new (stO H sw (0 + Int.toNat t * 1) [AV.bool true]) (AObj.row [AV.int IntKind.i64 t] 3 true (St.own none))) (stackPend below) ns = true ∧ K (AM.mk (w wR (tl [AV.ptr e 0, AV.int IntKind.i64 a, z 2, z 3, z 4, AV.slice sw 0 np np, v', AV.int IntKind.i64 x, AV.int IntKind.i64 (IntKind.wrap IntKind.i64 (i + (1 : Int))), AV.int IntKind.i64 t, z 10, z 11, z 12, z 13, z 14, z 15, z 16, z 17, z 18, z 19, z 20, z 21, z 22, z 23, z 24, z 25, z 26, z 27, z 28, z 29, z 30, z 31, z 32, z 33, z 34, z 35, z 36, z 37, z 38, AV.int IntKind.i64 i, AV.ptr e 0, AV.ptr e 0, AV.ptr e 0, vg, AV.int IntKind.i64 x, AV.ptr gn (goff + Int.toNat x * 1), hv, AV.int IntKind.i64 (↑len : Int), AV.bool true, AV.int IntKind.i64 i, AV.int IntKind.i64 (IntKind.wrap IntKind.i64 (i + (1 : Int))), AV.ptr e 0, AV.ptr e 0, AV.ptr e 0, vg, AV.int IntKind.i64 x, AV.ptr gn (goff + Int.toNat x * 1), hv, AV.int IntKind.i64 i, AV.ptr hn (hoff + Int.toNat i * 1), AV.int IntKind.i64 t, AV.int IntKind.i64 t, AV.int IntKind.i64 a, AV.bool (t != a), AV.bool true, AV.slice sw 0 np np, AV.int IntKind.i64 t, AV.ptr sw (0 + Int.toNat t * 1), AV.bool false, AV.bool !false, AV.bool true, AV.slice sw 0 np np, AV.int IntKind.i64 t, AV.ptr sw (0 + Int.toNat t * 1), v, AV.int IntKind.i64 t, AV.slice (AH.nx (stO H sw (0 + Int.toNat t * 1) [AV.bool true])) 0 1 1, v', z 78, z 79, z 80, z 81, z 82, z 83, z 84, z 85, z 86, z 87, z 88, z 89, z 90, z 91, z 92, z 93, z 94, z 95, z 96, z 97, z 98, z 99, z 100, z 101, z 102, z 103, z 104, z 105, z 106, z 107, z 108, z 109, z 110, z 111, z 112, z 113, z 114, z 115, z 116, z 117, z 118, z 119])) below H')) := by kernel_rfl

theorem woT (w0 : World) (K : AM → Prop) (Kr : AV → AH → Prop) (below : List AFr) (z : Nat → AV) (e sw sn np on len : Nat) (a i : Int) (b1 b2 b3 : Bool) (vg : AV) (H : AH) : (trun P w0 39 K Kr 300 0 [] ⟨w wT (setL (tz 120 z) [(0, .ptr e 0), (1, .int .i64 a), (5, .slice sw 0 np np), (10, .slice on 0 np np), (11, .int .i64 i)]), below, H⟩ (.v vg (.ln len (.tt (.v (.slice sn 0 np np) (.v (.bool b1) (.br (.v (.slice sn 0 np np) (.v (.bool b2) (.tt (.br (.v (.bool b3) (.tt .stop)) (.ff .stop))))) (.ff (.ff (.ff .stop)))))))))) = (rdAt H e 0 = some vg ∧ aLen P H 22 vg = some (AV.int IntKind.i64 (↑len : Int), []) ∧ decide (i < (↑len : Int)) = true ∧ rdAt H e 3 = some (AV.slice sn 0 np np) ∧ ((0 : Int) ≤ a ∧ a < (↑np : Int)) ∧ rdAt H sn (0 + Int.toNat a * 1) = some (AV.bool b1) ∧ (b1 = true → rdAt H e 3 = some (AV.slice sn 0 np np) ∧ ((0 : Int) ≤ i ∧ i < (↑np : Int)) ∧ rdAt H sn (0 + Int.toNat i * 1) = some (AV.bool b2) ∧ true = true ∧ (b2 = true → ((0 : Int) ≤ i ∧ i < (↑np : Int)) ∧ rdAt H sw (0 + Int.toNat i * 1) = some (AV.bool b3) ∧ true = true ∧ ((0 : Int) ≤ i ∧ i < (↑np : Int)) ∧ AV.single (AV.bool !b3) = true ∧ StOk H on (0 + Int.toNat i * 1) 1 ∧ apartOk H (stackPend below) (on :: stOld H on) = true ∧ K (AM.mk (w wT (tl [AV.ptr e 0, AV.int IntKind.i64 a, z 2, z 3, z 4, AV.slice sw 0 np np, z 6, z 7, z 8, z 9, AV.slice on 0 np np, AV.int IntKind.i64 (IntKind.wrap IntKind.i64 (i + (1 : Int))), z 12, z 13, z 14, z 15, z 16, z 17, z 18, z 19, z 20, z 21, z 22, z 23, z 24, z 25, z 26, z 27, z 28, z 29, z 30, z 31, z 32, z 33, z 34, z 35, z 36, z 37, z 38, z 39, z 40, z 41, z 42, z 43, z 44, z 45, z 46, z 47, z 48, z 49, z 50, z 51, z 52, z 53, z 54, z 55, z 56, z 57, z 58, z 59, z 60, z 61, z 62, z 63, z 64, z 65, z 66, z 67, z 68, z 69, z 70, z 71, z 72, z 73, z 74, z 75, z 76, z 77, z 78, z 79, z 80, z 81, z 82, z 83, AV.int IntKind.i64 i, AV.ptr e 0, AV.ptr e 0, AV.ptr e 0, vg, AV.int IntKind.i64 (↑len : Int), AV.bool true, AV.int IntKind.i64 i, AV.int IntKind.i64 (IntKind.wrap IntKind.i64 (i + (1 : Int))), AV.slice on 0 np np, AV.int IntKind.i64 i, AV.ptr e 0, AV.ptr e 0, AV.ptr e 3, AV.slice sn 0 np np, AV.int IntKind.i64 a, AV.ptr sn (0 + Int.toNat a * 1), AV.bool b1, AV.bool true, AV.ptr e 0, AV.ptr e 0, AV.ptr e 3, AV.slice sn 0 np np, AV.int IntKind.i64 i, AV.ptr sn (0 + Int.toNat i * 1), AV.bool b2, AV.bool b2, AV.bool true, AV.slice sw 0 np np, AV.int IntKind.i64 i, AV.ptr sw (0 + Int.toNat i * 1), AV.bool b3, AV.bool !b3, AV.bool !b3, AV.ptr on (0 + Int.toNat i * 1), z 119])) below (stO H on (0 + Int.toNat i * 1) [AV.bool !b3]))) ∧ (b2 = false → false = false ∧ ((0 : Int) ≤ i ∧ i < (↑np : Int)) ∧ AV.single (AV.bool false) = true ∧ StOk H on (0 + Int.toNat i * 1) 1 ∧ apartOk H (stackPend below) (on :: stOld H on) = true ∧ K (AM.mk (w wT (tl [AV.ptr e 0, AV.int IntKind.i64 a, z 2, z 3, z 4, AV.slice sw 0 np np, z 6, z 7, z 8, z 9, AV.slice on 0 np np, AV.int IntKind.i64 (IntKind.wrap IntKind.i64 (i + (1 : Int))), z 12, z 13, z 14, z 15, z 16, z 17, z 18, z 19, z 20, z 21, z 22, z 23, z 24, z 25, z 26, z 27, z 28, z 29, z 30, z 31, z 32, z 33, z 34, z 35, z 36, z 37, z 38, z 39, z 40, z 41, z 42, z 43, z 44, z 45, z 46, z 47, z 48, z 49, z 50, z 51, z 52, z 53, z 54, z 55, z 56, z 57, z 58, z 59, z 60, z 61, z 62, z 63, z 64, z 65, z 66, z 67, z 68, z 69, z 70, z 71, z 72, z 73, z 74, z 75, z 76, z 77, z 78, z 79, z 80, z 81, z 82, z 83, AV.int IntKind.i64 i, AV.ptr e 0, AV.ptr e 0, AV.ptr e 0, vg, AV.int IntKind.i64 (↑len : Int), AV.bool true, AV.int IntKind.i64 i, AV.int IntKind.i64 (IntKind.wrap IntKind.i64 (i + (1 : Int))), AV.slice on 0 np np, AV.int IntKind.i64 i, AV.ptr e 0, AV.ptr e 0, AV.ptr e 3, AV.slice sn 0 np np, AV.int IntKind.i64 a, AV.ptr sn (0 + Int.toNat a * 1), AV.bool b1, AV.bool true, AV.ptr e 0, AV.ptr e 0, AV.ptr e 3, AV.slice sn 0 np np, AV.int IntKind.i64 i, AV.ptr sn (0 + Int.toNat i * 1), AV.bool b2, AV.bool b2, AV.bool false, AV.tuple [], AV.tuple [], AV.tuple [], AV.tuple [], AV.tuple [], AV.bool false, AV.ptr on (0 + Int.toNat i * 1), z 119])) below (stO H on (0 + Int.toNat i * 1) [AV.bool false])))) ∧ (b1 = false → false = false ∧ false = false ∧ false = false ∧ ((0 : Int) ≤ i ∧ i < (↑np : Int)) ∧ AV.single (AV.bool false) = true ∧ StOk H on (0 + Int.toNat i * 1) 1 ∧ apartOk H (stackPend below) (on :: stOld H on) = true ∧ K (AM.mk (w wT (tl [AV.ptr e 0, AV.int IntKind.i64 a, z 2, z 3, z 4, AV.slice sw 0 np np, z 6, z 7, z 8, z 9, AV.slice on 0 np np, AV.int IntKind.i64 (IntKind.wrap IntKind.i64 (i + (1 : Int))), z 12, z 13, z 14, z 15, z 16, z 17, z 18, z 19, z 20, z 21, z 22, z 23, z 24, z 25, z 26, z 27, z 28, z 29, z 30, z 31, z 32, z 33, z 34, z 35, z 36, z 37, z 38, z 39, z 40, z 41, z 42, z 43, z 44, z 45, z 46, z 47, z 48, z 49, z 50, z 51, z 52, z 53, z 54, z 55, z 56, z 57, z 58, z 59, z 60, z 61, z 62, z 63, z 64, z 65, z 66, z 67, z 68, z 69, z 70, z 71, z 72, z 73, z 74, z 75, z 76, z 77, z 78, z 79, z 80, z 81, z 82, z 83, AV.int IntKind.i64 i, AV.ptr e 0, AV.ptr e 0, AV.ptr e 0, vg, AV.int IntKind.i64 (↑len : Int), AV.bool true, AV.int IntKind.i64 i, AV.int IntKind.i64 (IntKind.wrap IntKind.i64 (i + (1 : Int))), AV.slice on 0 np np, AV.int IntKind.i64 i, AV.ptr e 0, AV.ptr e 0, AV.ptr e 3, AV.slice sn 0 np np, AV.int IntKind.i64 a, AV.ptr sn (0 + Int.toNat a * 1), AV.bool b1, AV.bool false, AV.tuple [], AV.tuple [], AV.tuple [], AV.tuple [], AV.tuple [], AV.tuple [], AV.tuple [], AV.bool false, AV.bool false, AV.tuple [], AV.tuple [], AV.tuple [], AV.tuple [], AV.tuple [], AV.bool false, AV.ptr on (0 + Int.toNat i * 1), z 119])) below (stO H on (0 + Int.toNat i * 1) [AV.bool false])))) := by kernel_rfl

theorem woTe (w0 : World) (K : AM → Prop) (Kr : AV → AH → Prop) (below : List AFr) (z : Nat → AV) (e sw np on len : Nat) (a i : Int) (vg : AV) (H : AH) : (trun P w0 39 K Kr 300 0 [] ⟨w wT (setL (tz 120 z) [(0, .ptr e 0), (1, .int .i64 a), (5, .slice sw 0 np np), (10, .slice on 0 np np), (11, .int .i64 i)]), below, H⟩ (.v vg (.ln len (.ff .stop)))) = (rdAt H e 0 = some vg ∧ aLen P H 22 vg = some (AV.int IntKind.i64 (↑len : Int), []) ∧ decide (i < (↑len : Int)) = false ∧ Kr (AV.slice on 0 np np) H) := by kernel_rfl

section
variable {w0 : World} {H0 : AH} {S : Nat → Prop} {e sn np : Nat} {vg : AV} {g : List (List Int)} {hs : List AV}

theorem cells_set (s : Seen) {np i : Nat} (h : i < np) (b : Bool) : (seenCells s np).set i (.bool b) = seenCells (fun k => if k = (i : Int) then b else s k) np := by
  apply List.ext_getElem?
  intro j
  rw [List.getElem?_set]
  by_cases hj : j < np
  · rw [seenCells_get _ hj, seenCells_get _ hj]
    by_cases hn : i = j
    · subst hn
      rw [if_pos rfl, if_pos (by simp [seenCells]; omega), if_pos rfl]
    · rw [if_neg hn, if_neg (by omega)]
  · rw [List.getElem?_eq_none (by simp [seenCells]; omega), List.getElem?_eq_none (by simp [seenCells]; omega)]
    split
    · rw [if_neg (by simp [seenCells]; omega)]
    · rfl

theorem reps_cells (np : Nat) : reps [AV.bool false] np = seenCells (fun _ => false) np := by
  have : ∀ n, reps [AV.bool false] n = List.replicate n (AV.bool false) := fun n => by
    induction n with
    | zero => rfl
    | succ n ih =>
      show [AV.bool false] ++ reps [AV.bool false] n = _
      rw [ih]
      rfl
  rw [this]
  apply List.ext_getElem?
  intro j
  by_cases hj : j < np
  · rw [seenCells_get _ hj, List.getElem?_replicate, if_pos hj]
  · rw [List.getElem?_eq_none (by simp; omega), List.getElem?_eq_none (by simp [seenCells]; omega)]

theorem cells_congr {s s' : Seen} {np : Nat} (h : ∀ i : Nat, i < np → s (i : Int) = s' (i : Int)) : seenCells s np = seenCells s' np := by
  unfold seenCells
  apply List.map_congr_left
  intro i hi
  rw [h i (List.mem_range.1 hi)]

theorem pok_new {H0 Hc : AH} {pend : List Nat} (hw : Wf H0) (hp : Pok H0 (fun _ => False) pend) (old : ∀ m, m < H0.nx → Hc.get m = H0.get m) : Pok Hc (fun m => H0.nx ≤ m) pend := fun p hpp => by
  obtain ⟨h1, _⟩ := hp p hpp
  obtain ⟨o, ho⟩ := Option.isSome_iff_exists.1 h1
  have hlt := hw p o ho
  exact ⟨by rw [old p hlt]; exact h1, by omega⟩

/-- While it is searched: all that was there stands. -/
structure WSt (H0 : AH) (sw np : Nat) (H : AH) (v : AV) (s : Seen) (todo : List Int) : Prop where
  old : ∀ m, m < H0.nx → H.get m = H0.get m
  nx : H0.nx ≤ H.nx
  swr : H.get sw = some (.row (seenCells s np) 4 true (.own none))
  swn : H0.nx ≤ sw
  stk : Stk H v todo
  ln : ∀ m, LN H v m → H0.nx ≤ m ∧ m ≠ sw

theorem WSt.push {sw : Nat} {Hc : AH} {v : AV} {s : Seen} {todo : List Int} (hw : Wf Hc) (h : WSt H0 sw np Hc v s todo) {t : Int} (t0 : 0 ≤ t) (t1 : t < (np : Int)) (hlen : todo.length + 1 ≤ 100000000) :
    ∃ v' H' ns, aAppend P ((stO Hc sw (0 + t.toNat * 1) [.bool true]).new (.row [.int .i64 t] 3 true (.own none))) [34, 34] [v, .slice (stO Hc sw (0 + t.toNat * 1) [.bool true]).nx 0 1 1] = some [(.val v', H', ns)] ∧
      WSt H0 sw np H' v' (Go.Proofs.DomP.mark t s) (todo ++ [t]) ∧ StOk Hc sw (0 + t.toNat * 1) 1 ∧
      ∀ pend, Wf H0 → Pok H0 (fun _ => False) pend → AOk Hc pend (sw :: stOld Hc sw) ∧ AOk ((stO Hc sw (0 + t.toNat * 1) [.bool true]).new (.row [.int .i64 t] 3 true (.own none))) pend ns := by
  have et : 0 + t.toNat * 1 = t.toNat := by omega
  rw [et]
  have hcl : t.toNat < (seenCells s np).length := by simp [seenCells]; omega
  have hg1 := get_stO (off := t.toNat) (vs := [.bool true]) h.swr
  rw [setAt_one _ _ _ hcl, seenCells_mark s t0 t1] at hg1
  have hn1 : (stO Hc sw t.toNat [.bool true]).nx = Hc.nx := nx_stO _ _ _ _
  have hsw := hw sw _ h.swr
  let H1 := stO Hc sw t.toNat [.bool true]
  have hw1 : Wf H1 := fun n o ho => by
    show n < (stO Hc sw t.toNat [.bool true]).nx
    rw [hn1]
    by_cases c : n = sw
    · rw [c]; exact hsw
    · have ho' : (stO Hc sw t.toNat [.bool true]).get n = some o := ho
      rw [hg1, if_neg c] at ho'
      exact hw n o ho'
  let H2 := H1.new (.row [.int .i64 t] 3 true (.own none))
  have hbn : ∀ n off, slBase v = some (n, off) → n ≠ sw ∧ n < Hc.nx := fun n off hb => ⟨(h.ln n ⟨n, off, hb, .inl rfl⟩).2, h.stk.lt hw ⟨n, off, hb, .inl rfl⟩⟩
  have hg2 : ∀ n, n ≠ sw → n < Hc.nx → H2.get n = Hc.get n := fun n h1 h2 => by
    show (H1.new _).get n = _
    rw [get_new, if_neg (by show n ≠ (stO Hc sw t.toNat [.bool true]).nx; omega)]
    show (stO Hc sw t.toNat [.bool true]).get n = _
    rw [hg1, if_neg h1]
  have hst : Stk H2 v todo := h.stk.congr fun n off hb => hg2 n (hbn n off hb).1 (hbn n off hb).2
  have hln : ∀ m, LN H2 v m ↔ LN Hc v m := LN_same fun n off hb => hg2 n (hbn n off hb).1 (hbn n off hb).2
  obtain ⟨v', H', ns, q1, q2, q3, q4, q5⟩ := hst.push (hw1.new _) t (a := H1.nx) (by show (H1.new _).get _ = _; rw [get_new, if_pos rfl]; rfl) hlen
  have hx2 : H2.nx = Hc.nx + 1 := by show H1.nx + 1 = _; show (stO Hc sw t.toNat [.bool true]).nx + 1 = _; rw [hn1]
  have hk : ∀ n, n < Hc.nx + 1 → ¬ LN Hc v n → H'.get n = H2.get n := fun n h1 h2 => q3.get n (by rw [hx2]; exact h1) fun hx => h2 ((hln n).1 hx)
  have hnx' : Hc.nx + 1 ≤ H'.nx := by rw [← hx2]; exact q3.nx
  refine ⟨v', H', ns, q1, ⟨fun m hm => ?_, by have := h.nx; omega, ?_, h.swn, q2, fun m hm => ?_⟩, ⟨_, _, _, _, h.swr, by omega⟩, fun pend hw0 hp => ?_⟩
  · have := h.nx
    have := h.swn
    rw [hk m (by omega) (fun hx => by have := (h.ln m hx).1; omega), hg2 m (by omega) (by omega)]
    exact h.old m hm
  · rw [hk sw (by omega) (fun hx => (h.ln sw hx).2 rfl)]
    show (H1.new _).get sw = _
    rw [get_new, if_neg (by show sw ≠ (stO Hc sw t.toNat [.bool true]).nx; omega)]
    show (stO Hc sw t.toNat [.bool true]).get sw = _
    rw [hg1, if_pos rfl]
  · rcases q4 m hm with h' | h'
    · exact h.ln m ((hln m).1 h')
    · have h2 : H2.nx ≤ m := h'
      have := h.nx
      omega
  · have hpc := pok_new hw0 hp h.old
    refine ⟨?_, q5 (fun m => H0.nx ≤ m) pend (fun p hpp => ?_) fun m hm => .inl (h.ln m ((hln m).1 hm)).1⟩
    · rw [stOld_eq h.swr]
      exact AOk.one hpc h.swr rfl rfl h.swn
    · obtain ⟨a1, a2⟩ := hpc p hpp
      obtain ⟨o, ho⟩ := Option.isSome_iff_exists.1 a1
      have := h.swn
      exact ⟨by rw [hg2 p (by omega) (hw p o ho)]; exact a1, a2⟩

def qHead (e : Nat) (a : Int) (sw np : Nat) (v : AV) : List (Nat × AV) := [(0, .ptr e 0), (1, .int .i64 a), (5, .slice sw 0 np np), (6, v)]

def rHead2 (e : Nat) (a : Int) (sw np : Nat) (v : AV) (x i : Int) : List (Nat × AV) := [(0, .ptr e 0), (1, .int .i64 a), (5, .slice sw 0 np np), (6, v), (7, .int .i64 x), (8, .int .i64 i)]

def tHead (e : Nat) (a : Int) (sw np on : Nat) (i : Int) : List (Nat × AV) := [(0, .ptr e 0), (1, .int .i64 a), (5, .slice sw 0 np np), (10, .slice on 0 np np), (11, .int .i64 i)]

/-- The document's Dom, as without reads it. -/
structure OEnv (H0 : AH) (S : Nat → Prop) (e sn np : Nat) (vg : AV) (g : List (List Int)) (hs : List AV) (sd : Seen) : Prop where
  g0 : rdAt H0 e 0 = some vg
  s3 : rdAt H0 e 3 = some (.slice sn 0 np np)
  seen : ∀ i : Nat, i < np → rdAt H0 sn i = some (.bool (sd (i : Int)))
  mat : Mat H0 S vg g hs
  st : ∀ m, S m → m < H0.nx
  np : np = g.length
  good : Go.Proofs.DomP.Good g
  small : ∀ l ∈ g, l.length ≤ 1024
  g1 : g.length ≤ 1024
  g0' : 0 < g.length
  en : e < H0.nx
  snn : sn < H0.nx

theorem OEnv.row {sd : Seen} (E : OEnv H0 S e sn np vg g hs sd) {Hc : AH} (old : ∀ m, m < H0.nx → Hc.get m = H0.get m) : rdAt Hc e 0 = some vg ∧ rdAt Hc e 3 = some (.slice sn 0 np np) ∧ (∀ i : Nat, i < np → rdAt Hc sn i = some (.bool (sd (i : Int)))) ∧ Mat Hc S vg g hs :=
  ⟨by rw [rdAt_congr (old e E.en)]; exact E.g0, by rw [rdAt_congr (old e E.en)]; exact E.s3, fun i hi => by rw [rdAt_congr (old sn E.snn)]; exact E.seen i hi, E.mat.congr fun m hm => old m (E.st m hm)⟩

variable {sd : Seen}

theorem wor_loop (E : OEnv H0 S e sn np vg g hs sd) (hw0 : Wf H0) {below : List AFr} (hp : Pok H0 (fun _ => False) (stackPend below)) {Kr : AV → AH → Prop} {sw : Nat} {a x : Int} (x0 : 0 ≤ x) {l : List Int} (hgl : g[x.toNat]? = some l) {s2 : Seen} {todo2 : List Int}
    (hend : ∀ Hc v, WSt H0 sw np Hc v s2 todo2 → ∀ z, Leads P w0 (RetK P 39 below Kr) ⟨w wQ (setL (tz 120 z) (qHead e a sw np v)), below, Hc⟩) :
    ∀ (r : List Int) (j : Nat) (Hc : AH) (v : AV) (s : Seen) (todo : List Int), l.drop j = r → j ≤ l.length → WSt H0 sw np Hc v s todo → WInv np s todo → wRow a r s todo = (s2, todo2) →
      ∀ z, Leads P w0 (RetK P 39 below Kr) ⟨w wR (setL (tz 120 z) (rHead2 e a sw np v x j)), below, Hc⟩ := by
  intro r
  have en : ((x.toNat : Nat) : Int) = x := by omega
  have hlm := List.mem_of_getElem? hgl
  have hll := E.small l hlm
  induction r with
  | nil =>
    intro j Hc v s todo hdrop hj h hinv hr z
    simp only [wRow, Prod.mk.injEq] at hr
    obtain ⟨rfl, rfl⟩ := hr
    have hjl := drop_end hdrop hj
    obtain ⟨r0, r3, rs, hmc⟩ := E.row h.old
    obtain ⟨gn, goff, hv, p1, p2, p3, p4, p5⟩ := hmc.at hgl
    rw [en] at p1
    exact Leads.go fine (woIe w0 _ _ below z e sw np gn goff l.length a x j vg hv v Hc) rfl ⟨r0, p1, by simpa using p2, by have := p4.aLen (P := P) et34.und; simpa using this, by simp [hjl], Leads.at (qHead e a sw np v) (by kernel_rfl) (hend Hc v h)⟩
  | cons t r ihr =>
    intro j Hc v s todo hdrop hj h hinv hr z
    refine Leads.wf fun hw => ?_
    obtain ⟨hlt, hjt, hdr⟩ := drop_step hdrop
    have htl := List.mem_of_getElem? hjt
    obtain ⟨ht0, ht1⟩ := E.good l hlm t htl
    obtain ⟨r0, r3, rs, hmc⟩ := E.row h.old
    obtain ⟨gn, goff, hv, p1, p2, p3, p4, p5⟩ := hmc.at hgl
    rw [en] at p1
    have p2' : rdAt Hc gn (goff + Int.toNat x * 1) = some hv := by simpa using p2
    have hal : aLen P Hc 34 hv = some (.int .i64 (l.length : Nat), []) := by have := p4.aLen (P := P) et34.und; simpa using this
    obtain ⟨b, off, hb, q1, q2⟩ := p4.int hjt
    have q2' : rdAt Hc b (off + Int.toNat (j : Int) * 1) = some (.int .i64 t) := by simpa using q2
    have hwr := wrap1 j (by omega)
    have htb : 0 ≤ t ∧ t < (np : Int) := ⟨ht0, by rw [E.np]; exact ht1⟩
    have hsw : rdAt Hc sw (0 + Int.toNat t * 1) = some (.bool (s t)) := by
      rw [show 0 + Int.toNat t * 1 = t.toNat by omega, rdAt_row h.swr, seenCells_get _ (by omega), show ((t.toNat : Nat) : Int) = t by omega]
    have hjl : decide ((j : Int) < (l.length : Int)) = true := by simpa using hlt
    unfold wRow at hr
    by_cases ca : t = a
    · rw [if_neg (fun h => h.1 ca)] at hr
      refine Leads.go fine (woIa w0 _ _ below z e sw np gn goff b off l.length a x j t vg hv v Hc) rfl ⟨r0, p1, p2', hal, hjl, r0, p1, p2', q1, q2', by simpa using ca, rfl, rfl, ?_⟩
      rw [hwr]
      exact Leads.at (rHead2 e a sw np v x (j + 1 : Nat)) (by kernel_rfl) (ihr (j + 1) Hc v s todo hdr hlt h hinv hr)
    · have hne : (t != a) = true := by simpa using ca
      cases hs : s t with
      | true =>
        rw [if_neg (fun h => by rw [hs] at h; cases h.2)] at hr
        rw [hs] at hsw
        refine Leads.go fine (woIs w0 _ _ below z e sw np gn goff b off l.length a x j t vg hv v Hc) rfl ⟨r0, p1, p2', hal, hjl, r0, p1, p2', q1, q2', hne, htb, hsw, rfl, rfl, ?_⟩
        rw [hwr]
        exact Leads.at (rHead2 e a sw np v x (j + 1 : Nat)) (by kernel_rfl) (ihr (j + 1) Hc v s todo hdr hlt h hinv hr)
      | false =>
        rw [if_pos ⟨ca, hs⟩] at hr
        rw [hs] at hsw
        have hlen : todo.length + 1 ≤ 100000000 := by
          have := nodup_len np todo hinv.nodup hinv.range
          have := E.np
          have := E.g1
          omega
        obtain ⟨v', H', ns, u1, u2, u3, u4⟩ := h.push hw ht0 htb.2 hlen
        obtain ⟨u5, u6⟩ := u4 _ hw0 hp
        refine Leads.go fine (woIn w0 _ _ below z e sw np gn goff b off l.length a x j t vg hv v v' Hc H' ns) rfl ⟨r0, p1, p2', hal, hjl, r0, p1, p2', q1, q2', hne, htb, hsw, rfl, rfl, htb, rfl, u3, u5, trivial, u1, u6, ?_⟩
        rw [hwr]
        exact Leads.at (rHead2 e a sw np v' x (j + 1 : Nat)) (by kernel_rfl) (ihr (j + 1) H' v' _ _ hdr hlt u2 (hinv.push hs ht0 htb.2) hr)

/-- What without tells. -/
def outF (sd sf : Seen) (a : Int) : Seen := fun b => sd a && sd b && !sf b

def WoRet (H0 : AH) (np : Nat) (f : Seen) : AV → AH → Prop := fun v H' => ∃ on, v = .slice on 0 np np ∧ H0.nx ≤ on ∧ H'.get on = some (.row (seenCells f np) 4 true (.own none)) ∧ (∀ m, m < H0.nx → H'.get m = H0.get m) ∧ H0.nx ≤ H'.nx

theorem wot_loop (E : OEnv H0 S e sn np vg g hs sd) (hw0 : Wf H0) {below : List AFr} (hp : Pok H0 (fun _ => False) (stackPend below)) {sw on : Nat} {a : Int} (a0 : 0 ≤ a) (a1 : a < (np : Int)) {sf : Seen} (hon : H0.nx ≤ on) (hso : sw ≠ on) :
    ∀ (k i : Nat) (Hc : AH) (f : Seen), i + k = np → (∀ m, m < H0.nx → Hc.get m = H0.get m) → H0.nx ≤ Hc.nx → Hc.get sw = some (.row (seenCells sf np) 4 true (.own none)) → Hc.get on = some (.row (seenCells f np) 4 true (.own none)) → (∀ j : Nat, j < i → f (j : Int) = outF sd sf a (j : Int)) →
      ∀ z, Leads P w0 (RetK P 39 below (WoRet H0 np (outF sd sf a))) ⟨w wT (setL (tz 120 z) (tHead e a sw np on i)), below, Hc⟩ := by
  intro k
  induction k with
  | zero =>
    intro i Hc f hk old nx hsw hOn hf z
    obtain ⟨r0, r3, rs, hmc⟩ := E.row old
    have hal : aLen P Hc 22 vg = some (.int .i64 (g.length : Nat), []) := by rw [← E.mat.len]; exact hmc.top.aLen et22.und
    refine Leads.go fine (woTe w0 _ _ below z e sw np on g.length a i vg Hc) rfl ⟨r0, hal, by have := E.np; simp; omega, on, rfl, hon, ?_, old, nx⟩
    rw [hOn, cells_congr (s := f) (s' := outF sd sf a) fun j hj => hf j (by omega)]
  | succ k ih =>
    intro i Hc f hk old nx hsw hOn hf z
    obtain ⟨r0, r3, rs, hmc⟩ := E.row old
    have hal : aLen P Hc 22 vg = some (.int .i64 (g.length : Nat), []) := by rw [← E.mat.len]; exact hmc.top.aLen et22.und
    have hi : i < np := by omega
    have hib : (0 : Int) ≤ (i : Int) ∧ (i : Int) < (np : Int) := by omega
    have hat : rdAt Hc sn (0 + Int.toNat a * 1) = some (.bool (sd a)) := by
      have := rs a.toNat (by omega)
      rw [show ((a.toNat : Nat) : Int) = a by omega] at this
      rw [show 0 + Int.toNat a * 1 = a.toNat by omega]
      exact this
    have hst : rdAt Hc sn (0 + Int.toNat (i : Int) * 1) = some (.bool (sd i)) := by
      rw [show 0 + Int.toNat (i : Int) * 1 = i by omega]
      exact rs i hi
    have hsf : rdAt Hc sw (0 + Int.toNat (i : Int) * 1) = some (.bool (sf i)) := by
      rw [show 0 + Int.toNat (i : Int) * 1 = i by omega, rdAt_row hsw, seenCells_get _ hi]
    have hso' : StOk Hc on (0 + Int.toNat (i : Int) * 1) 1 := ⟨_, _, _, _, hOn, by simp [seenCells]; omega⟩
    have hao : AOk Hc (stackPend below) (on :: stOld Hc on) := by
      rw [stOld_eq hOn]
      exact AOk.one (pok_new hw0 hp old) hOn rfl rfl hon
    have next : ∀ b : Bool, b = outF sd sf a (i : Int) → ∀ z, Leads P w0 (RetK P 39 below (WoRet H0 np (outF sd sf a))) ⟨w wT (setL (tz 120 z) (tHead e a sw np on (i + 1 : Nat))), below, stO Hc on (0 + Int.toNat (i : Int) * 1) [.bool b]⟩ := fun b hb => by
      have hg := get_stO (off := 0 + Int.toNat (i : Int) * 1) (vs := [.bool b]) hOn
      rw [show 0 + Int.toNat (i : Int) * 1 = i by omega] at hg ⊢
      rw [setAt_one _ _ _ (by simp [seenCells]; omega), cells_set f hi] at hg
      refine ih (i + 1) _ _ (by omega) (fun m hm => by rw [hg, if_neg (by omega)]; exact old m hm) (by rw [nx_stO]; exact nx) (by rw [hg, if_neg hso]; exact hsw) (by rw [hg, if_pos rfl]) fun j hj => ?_
      by_cases c : (j : Int) = (i : Int)
      · rw [if_pos c, hb, c]
      · rw [if_neg c]
        exact hf j (by omega)
    have hwr := wrap1 i (by have := E.np; have := E.g1; omega)
    refine Leads.go fine (woT w0 _ _ below z e sw sn np on g.length a i (sd a) (sd i) (sf i) vg Hc) rfl ⟨r0, hal, by have := E.np; simp; omega, r3, ⟨a0, a1⟩, hat, fun ha => ⟨r3, hib, hst, rfl, fun hi => ⟨hib, hsf, rfl, hib, rfl, hso', hao, ?_⟩, fun hi => ⟨rfl, hib, rfl, hso', hao, ?_⟩⟩, fun ha => ⟨rfl, rfl, rfl, hib, rfl, hso', hao, ?_⟩⟩
    · rw [hwr]
      exact Leads.at (tHead e a sw np on (i + 1 : Nat)) (by kernel_rfl) (next _ (by unfold outF; rw [ha, hi]; simp))
    · rw [hwr]
      exact Leads.at (tHead e a sw np on (i + 1 : Nat)) (by kernel_rfl) (next _ (by unfold outF; rw [ha, hi]; simp))
    · rw [hwr]
      exact Leads.at (tHead e a sw np on (i + 1 : Nat)) (by kernel_rfl) (next _ (by unfold outF; rw [ha]; simp))

theorem mk4 {len : Nat} (h : len ≤ 1024) : MkOk P 4 (len : Int) (len : Int) := by
  refine ⟨by omega, Int.le_refl _, by omega, ?_⟩
  rw [show bytesT P 4 = 1 by kernel_rfl]
  simp only [Int.toNat_natCast]
  omega

theorem woq_loop (E : OEnv H0 S e sn np vg g hs sd) (hw0 : Wf H0) {below : List AFr} (hp : Pok H0 (fun _ => False) (stackPend below)) {sw : Nat} {a : Int} (a0 : 0 ≤ a) (a1 : a < (np : Int)) {sf : Seen} {s : Seen} {todo : List Int} (hR : WRun g a s todo sf) :
    ∀ (Hc : AH) (v : AV), WSt H0 sw np Hc v s todo → WInv np s todo → ∀ z, Leads P w0 (RetK P 39 below (WoRet H0 np (outF sd sf a))) ⟨w wQ (setL (tz 120 z) (qHead e a sw np v)), below, Hc⟩ := by
  induction hR with
  | @done s =>
    intro Hc v h hinv z
    refine Leads.wf fun hw => ?_
    obtain ⟨r0, r3, rs, hmc⟩ := E.row h.old
    have hal : aLen P Hc 22 vg = some (.int .i64 (g.length : Nat), []) := by rw [← E.mat.len]; exact hmc.top.aLen et22.und
    have hlv : aLen P Hc 34 v = some (.int .i64 ((0 : Nat) : Int), []) := by have := h.stk.slr.aLen (P := P) et34.und; simpa using this
    have hsl := hw sw _ h.swr
    have hnp := E.np
    refine Leads.go fine (woE w0 _ _ below z e 0 g.length sw np a vg v Hc) rfl ⟨hlv, by simp, r0, hal, mk4 E.g1, trivial, ?_⟩
    simp only [Int.toNat_natCast]
    rw [← hnp]
    refine Leads.at (tHead e a sw np Hc.nx (0 : Nat)) (by kernel_rfl) (wot_loop E hw0 hp a0 a1 h.nx (by omega) np 0 _ (fun _ => false) (by omega) (fun m hm => ?_) ?_ ?_ ?_ (fun j hj => by omega))
    · rw [get_new, if_neg (by have := h.nx; omega)]
      exact h.old m hm
    · have := h.nx
      show H0.nx ≤ Hc.nx + 1
      omega
    · rw [get_new, if_neg (by omega)]
      exact h.swr
    · rw [get_new, if_pos rfl, reps_cells]
  | @step x todo todo1 s s1 sf hrow hrest ih =>
    intro Hc v h hinv z
    refine Leads.wf fun hw => ?_
    have hlx := hinv.range x (by simp)
    have hnp := E.np
    have hlt : x.toNat < g.length := by omega
    have hgl : g[x.toNat]? = some g[x.toNat] := List.getElem?_eq_getElem hlt
    have hgd : g.getD x.toNat [] = g[x.toNat] := by rw [List.getD_eq_getElem?_getD, hgl]; rfl
    obtain ⟨v2, u1, u2, u3⟩ := h.stk.pop
    have hlv : aLen P Hc 34 v = some (.int .i64 ((todo.length + 1 : Nat) : Int), []) := by have := h.stk.slr.aLen (P := P) et34.und; simpa using this
    have hlen := nodup_len np _ hinv.nodup hinv.range
    have hg1 := E.g1
    simp only [List.length_append, List.length_singleton] at hlen
    have hwk : IntKind.wrap .i64 (((todo.length + 1 : Nat) : Int) - 1) = (todo.length : Int) := by rw [wrapI (by omega) (by omega)]; omega
    obtain ⟨tn, toff, hb, q1, q2⟩ := h.stk.slr.int (i := todo.length) (x := x) (by simp)
    refine Leads.go fine (woP w0 _ _ below z e (todo.length + 1) sw np tn toff a x v v2 Hc) rfl ⟨hlv, by simp, hlv, by rw [hwk]; exact q1, by rw [hwk]; simpa using q2, hlv, by rw [hwk]; exact u1, ?_⟩
    have hst2 : WSt H0 sw np Hc v2 s todo := ⟨h.old, h.nx, h.swr, h.swn, u2, fun m hm => h.ln m ((u3 m).1 hm)⟩
    have hinv2 := hinv.pop
    have hrr := wRow_ok (a := a) (g.getD x.toNat []) s todo (fun t ht => by rw [hnp]; exact good_at E.good _ t ht) hinv2
    rw [hrow] at hrr
    rw [hgd] at hrow
    exact Leads.at (rHead2 e a sw np v2 x (0 : Nat)) (by kernel_rfl) (wor_loop E hw0 hp hlx.1 hgl (fun Hc v h2 => ih Hc v h2 hrr.inv) _ 0 Hc v2 s todo rfl (Nat.zero_le _) hst2 hinv2 hrow)

/-- THE CONTRACT OF the document's without. -/
theorem wo_ret (E : OEnv H0 S e sn np vg g hs sd) {a : Int} (a0 : 0 ≤ a) (a1 : a < (np : Int)) {sf : Seen} (hR : WRun g a (w00 a) (t00 a) sf) : Ret P w0 39 [.ptr e 0, .int .i64 a] H0 (fun _ => False) (WoRet H0 np (outF sd sf a)) := Ret.mk fun below hp => by
  refine Leads.wf fun hw => ?_
  have hnp := E.np
  have hg1 := E.g1
  have hg0 := E.g0'
  have hal : aLen P H0 22 vg = some (.int .i64 (g.length : Nat), []) := by rw [← E.mat.len]; exact E.mat.top.aLen et22.und
  let H1 := H0.new (.row (seenCells (fun _ => false) np) 4 true (.own none))
  have hst1 : WSt H0 H0.nx np H1 (.nslice 0 0) (fun _ => false) [] := ⟨fun m hm => get_lt hm, Nat.le_succ _, get_at rfl, Nat.le_refl _, .inl ⟨rfl, rfl⟩, fun m hm => absurd hm (LN_nil _ _)⟩
  have hw1 : Wf H1 := hw.new _
  obtain ⟨v', H', ns, u1, u2, u3, u4⟩ := hst1.push hw1 (t := 0) (Int.le_refl _) (by omega) (by simp)
  obtain ⟨u5, u6⟩ := u4 _ hw hp
  have e1 : reps [AV.bool false] (Int.toNat ((g.length : Nat) : Int)) = seenCells (fun _ => false) np := by rw [Int.toNat_natCast, ← hnp, reps_cells]
  have hwo := wo0 w0 (Leads P w0 (RetK P 39 below (WoRet H0 np (outF sd sf a)))) (WoRet H0 np (outF sd sf a)) below e g.length a vg v' H0 H' ns
  rw [e1, Int.toNat_natCast, ← hnp] at hwo
  refine Leads.go fine hwo (by kernel_rfl) ⟨E.g0, by rw [hnp]; exact hal, by rw [hnp]; exact mk4 hg1, trivial, fun ha => ⟨⟨Int.le_refl _, by omega⟩, rfl, u3, u5, trivial, u1, u6, ?_⟩, fun ha => ?_⟩
  · have ha : a ≠ 0 := by simpa using ha
    unfold w00 t00 at hR
    rw [if_pos ha, if_pos ha] at hR
    exact Leads.at (qHead e a H0.nx np v') (by kernel_rfl) (woq_loop E hw hp a0 a1 hR H' v' u2 ⟨by simp, fun x hx => by simp at hx; subst hx; simp [Go.Proofs.DomP.mark], fun x hx => by simp at hx; subst hx; omega⟩)
  · have ha : a = 0 := by simpa using ha
    unfold w00 t00 at hR
    rw [if_neg (by simpa using ha), if_neg (by simpa using ha)] at hR
    exact Leads.at (qHead e a H0.nx np (.nslice 0 0)) (by kernel_rfl) (woq_loop E hw hp a0 a1 hR H1 (.nslice 0 0) hst1 ⟨by simp, by simp, by simp⟩)
end
end Go.Dm
