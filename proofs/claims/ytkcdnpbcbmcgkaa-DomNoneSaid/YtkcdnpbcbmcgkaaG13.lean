/- The engine and the contracts, part 13. No condition beyond the hypotheses of each theorem. -/
import Derived.Test.YtkcdnpbcbmcgkaaG12
/- The document's New. -/
set_option linter.unusedVariables false
namespace Go.Dm
open Go Go.Sx Go.Sy Go.RowKit Go.Proofs.DomP

noncomputable def kA : AFr := hd P 10 [.r, .r, .r, .l, .r, .i]

noncomputable def kB : AFr := hd P 10 [.r, .r, .r, .r, .l, .r, .i]

noncomputable def kC : AFr := hd P 10 [.r, .r, .r, .r, .l, .r, .i, .i, .r, .l, .i, .r, .i]

noncomputable def kD : AFr := hd P 10 [.r, .r, .r, .r, .r, .r, .r, .l, .r, .i]

theorem rn0 (w0 : World) (K : AM → Prop) (Kr : AV → AH → Prop) (below : List AFr) (len : Nat) (v : AV) (H : AH) : (trun P w0 10 K Kr 300 0 [] ⟨frOf P 10 [v], below, H⟩ (.ln len (.br .stop (.ln len (.br .stop .stop))))) = (aLen P H 22 v = some (AV.int IntKind.i64 (↑len : Int), []) ∧ (((↑len : Int) == (0 : Int)) = true → Kr (AV.tuple [AV.nptr, AV.int IntKind.i64 (1 : Int)]) H) ∧ (((↑len : Int) == (0 : Int)) = false → aLen P H 22 v = some (AV.int IntKind.i64 (↑len : Int), []) ∧ (decide ((↑len : Int) > (1024 : Int)) = true → Kr (AV.tuple [AV.nptr, AV.int IntKind.i64 (3 : Int)]) H) ∧ (decide ((↑len : Int) > (1024 : Int)) = false → K (AM.mk (w kA (tl [v, AV.tuple [], AV.nptr, AV.int IntKind.i64 (0 : Int), AV.int IntKind.i64 (0 : Int), AV.tuple [], AV.tuple [], AV.tuple [], AV.tuple [], v, AV.int IntKind.i64 (↑len : Int), AV.bool false, v, AV.int IntKind.i64 (↑len : Int), AV.bool false, AV.tuple [], AV.tuple [], AV.tuple [], AV.tuple [], AV.tuple [], AV.tuple [], AV.tuple [], AV.tuple [], AV.tuple [], AV.tuple [], AV.tuple [], AV.tuple [], AV.tuple [], AV.tuple [], AV.tuple [], AV.tuple [], AV.tuple [], AV.tuple [], AV.tuple [], AV.tuple [], AV.tuple [], AV.tuple [], AV.tuple [], AV.tuple [], AV.tuple [], AV.tuple [], AV.tuple [], AV.tuple [], AV.tuple [], AV.tuple [], AV.tuple [], AV.tuple [], AV.tuple [], AV.tuple [], AV.tuple [], AV.tuple [], AV.tuple [], AV.tuple [], AV.tuple [], AV.tuple [], AV.tuple [], AV.tuple [], AV.tuple [], AV.tuple [], AV.tuple [], AV.tuple [], AV.tuple [], AV.tuple [], AV.tuple [], AV.tuple [], AV.tuple [], AV.tuple [], AV.tuple [], AV.tuple [], AV.tuple [], AV.tuple [], AV.tuple [], AV.tuple [], AV.tuple [], AV.tuple [], AV.tuple [], AV.tuple [], AV.tuple [], AV.tuple [], AV.tuple [], AV.tuple [], AV.tuple [], AV.tuple [], AV.tuple [], AV.tuple [], AV.tuple [], AV.tuple [], AV.tuple [], AV.tuple []])) below H)))) := by kernel_rfl

theorem rnA (w0 : World) (K : AM → Prop) (Kr : AV → AH → Prop) (below : List AFr) (z : Nat → AV) (len a ao hl : Nat) (v hv : AV) (i : Int) (H : AH) : (trun P w0 10 K Kr 300 0 [] ⟨w kA (setL (tz 89 z) [(0, v), (4, .int .i64 i)]), below, H⟩ (.ln len (.tt (.bs a ao (.v hv (.ln hl (.br .stop .stop))))))) = (aLen P H 22 v = some (AV.int IntKind.i64 (↑len : Int), []) ∧ decide (i < (↑len : Int)) = true ∧ SlAt v a ao i ∧ rdAt H a (ao + Int.toNat i * 1) = some hv ∧ aLen P H 34 hv = some (AV.int IntKind.i64 (↑hl : Int), []) ∧ (decide ((↑hl : Int) > (1024 : Int)) = true → Kr (AV.tuple [AV.nptr, AV.int IntKind.i64 (3 : Int)]) H) ∧ (decide ((↑hl : Int) > (1024 : Int)) = false → K (AM.mk (w kA (tl [v, z 1, z 2, z 3, AV.int IntKind.i64 (IntKind.wrap IntKind.i64 (i + (1 : Int))), z 5, z 6, z 7, z 8, z 9, z 10, z 11, z 12, z 13, z 14, AV.int IntKind.i64 i, v, AV.int IntKind.i64 (↑len : Int), AV.bool true, AV.int IntKind.i64 i, AV.int IntKind.i64 (IntKind.wrap IntKind.i64 (i + (1 : Int))), v, AV.int IntKind.i64 i, AV.ptr a (ao + Int.toNat i * 1), hv, AV.int IntKind.i64 (↑hl : Int), AV.bool false, z 27, z 28, z 29, z 30, z 31, z 32, z 33, z 34, z 35, z 36, z 37, z 38, z 39, z 40, z 41, z 42, z 43, z 44, z 45, z 46, z 47, z 48, z 49, z 50, z 51, z 52, z 53, z 54, z 55, z 56, z 57, z 58, z 59, z 60, z 61, z 62, z 63, z 64, z 65, z 66, z 67, z 68, z 69, z 70, z 71, z 72, z 73, z 74, z 75, z 76, z 77, z 78, z 79, z 80, z 81, z 82, z 83, z 84, z 85, z 86, z 87, z 88])) below H))) := by kernel_rfl

theorem rnAo (w0 : World) (K : AM → Prop) (Kr : AV → AH → Prop) (below : List AFr) (z : Nat → AV) (len : Nat) (v : AV) (i : Int) (H : AH) : (trun P w0 10 K Kr 300 0 [] ⟨w kA (setL (tz 89 z) [(0, v), (4, .int .i64 i)]), below, H⟩ (.ln len (.ff .stop))) = (aLen P H 22 v = some (AV.int IntKind.i64 (↑len : Int), []) ∧ decide (i < (↑len : Int)) = false ∧ K (AM.mk (w kB (tl [v, z 1, z 2, z 3, AV.int IntKind.i64 i, AV.int IntKind.i64 (0 : Int), z 6, z 7, z 8, z 9, z 10, z 11, z 12, z 13, z 14, AV.int IntKind.i64 i, v, AV.int IntKind.i64 (↑len : Int), AV.bool false, z 19, z 20, z 21, z 22, z 23, z 24, z 25, z 26, z 27, z 28, z 29, z 30, z 31, z 32, z 33, z 34, z 35, z 36, z 37, z 38, z 39, z 40, z 41, z 42, z 43, z 44, z 45, z 46, z 47, z 48, z 49, z 50, z 51, z 52, z 53, z 54, z 55, z 56, z 57, z 58, z 59, z 60, z 61, z 62, z 63, z 64, z 65, z 66, z 67, z 68, z 69, z 70, z 71, z 72, z 73, z 74, z 75, z 76, z 77, z 78, z 79, z 80, z 81, z 82, z 83, z 84, z 85, z 86, z 87, z 88])) below H)) := by kernel_rfl

theorem rnB (w0 : World) (K : AM → Prop) (Kr : AV → AH → Prop) (below : List AFr) (z : Nat → AV) (len : Nat) (v : AV) (i : Int) (H : AH) : (trun P w0 10 K Kr 300 0 [] ⟨w kB (setL (tz 89 z) [(0, v), (5, .int .i64 i)]), below, H⟩ (.ln len (.tt .stop))) = (aLen P H 22 v = some (AV.int IntKind.i64 (↑len : Int), []) ∧ decide (i < (↑len : Int)) = true ∧ K (AM.mk (w kC (tl [v, z 1, z 2, z 3, z 4, AV.int IntKind.i64 i, AV.int IntKind.i64 (0 : Int), z 7, z 8, z 9, z 10, z 11, z 12, z 13, z 14, z 15, z 16, z 17, z 18, z 19, z 20, z 21, z 22, z 23, z 24, z 25, z 26, AV.int IntKind.i64 i, v, AV.int IntKind.i64 (↑len : Int), AV.bool true, z 31, z 32, z 33, z 34, z 35, z 36, z 37, z 38, z 39, z 40, z 41, z 42, z 43, z 44, z 45, z 46, z 47, z 48, z 49, z 50, z 51, z 52, z 53, z 54, z 55, z 56, z 57, z 58, z 59, z 60, z 61, z 62, z 63, z 64, z 65, z 66, z 67, z 68, z 69, z 70, z 71, z 72, z 73, z 74, z 75, z 76, z 77, z 78, z 79, z 80, z 81, z 82, z 83, z 84, z 85, z 86, z 87, z 88])) below H)) := by kernel_rfl

theorem rnBo (w0 : World) (K : AM → Prop) (Kr : AV → AH → Prop) (below : List AFr) (z : Nat → AV) (len vn vo vc : Nat) (i : Int) (H : AH) (W : Nat → Prop) (Q : Unit → AH → Prop) : (trun P w0 10 K Kr 300 0 [] ⟨w kB (setL (tz 89 z) [(0, .slice vn vo len vc), (5, .int .i64 i)]), below, H⟩ (.ff (.call Unit W (fun _ => .tuple []) Q (fun _ _ => .stop)))) = (decide (i < (↑len : Int)) = false ∧ MkOk P 4 (↑len : Int) (↑len : Int) ∧ True ∧ True ∧ True ∧ (Ret P w0 38 [AV.ptr (AH.nx H + 1) 0, AV.int IntKind.i64 (0 : Int)] (AH.new (AH.new H (AObj.row (reps [AV.bool false] (Int.toNat (↑len : Int))) 4 true (St.own none))) (AObj.row [AV.slice vn vo len vc, AV.nslice 0 0, AV.nslice 0 0, AV.slice (AH.nx H) 0 (Int.toNat (↑len : Int)) (Int.toNat (↑len : Int))] 37 true (St.own none))) W fun (v : AV) (H' : AH) ↦ ∃ (x : Unit), v = AV.tuple [] ∧ Q x H') ∧ Pok (AH.new (AH.new H (AObj.row (reps [AV.bool false] (Int.toNat (↑len : Int))) 4 true (St.own none))) (AObj.row [AV.slice vn vo len vc, AV.nslice 0 0, AV.nslice 0 0, AV.slice (AH.nx H) 0 (Int.toNat (↑len : Int)) (Int.toNat (↑len : Int))] 37 true (St.own none))) W (stackPend below) ∧ ∀ (x : Unit) (H' : AH), Q x H' → K (AM.mk (w kD (tl [AV.slice vn vo len vc, z 1, z 2, z 3, z 4, AV.int IntKind.i64 i, z 6, AV.ptr (AH.nx H + 1) 0, AV.int IntKind.i64 (0 : Int), z 9, z 10, z 11, z 12, z 13, z 14, z 15, z 16, z 17, z 18, z 19, z 20, z 21, z 22, z 23, z 24, z 25, z 26, AV.int IntKind.i64 i, AV.slice vn vo len vc, AV.int IntKind.i64 (↑len : Int), AV.bool false, z 31, z 32, z 33, z 34, z 35, z 36, z 37, z 38, z 39, z 40, z 41, z 42, z 43, z 44, z 45, z 46, z 47, z 48, z 49, z 50, z 51, z 52, z 53, z 54, z 55, z 56, z 57, z 58, z 59, z 60, z 61, AV.slice vn vo len vc, AV.slice vn vo len vc, AV.int IntKind.i64 (↑len : Int), AV.slice (AH.nx H) 0 (Int.toNat (↑len : Int)) (Int.toNat (↑len : Int)), AV.agg [AV.slice vn vo len vc, AV.nslice 0 0, AV.nslice 0 0, AV.slice (AH.nx H) 0 (Int.toNat (↑len : Int)) (Int.toNat (↑len : Int))], AV.ptr (AH.nx H + 1) 0, AV.ptr (AH.nx H + 1) 0, AV.tuple [], z 70, z 71, z 72, z 73, z 74, z 75, z 76, z 77, z 78, z 79, z 80, z 81, z 82, z 83, z 84, z 85, z 86, z 87, z 88])) below H')) := by kernel_rfl

theorem rnBo2 (w0 : World) (K : AM → Prop) (Kr : AV → AH → Prop) (below : List AFr) (z : Nat → AV) (len vn vo vc : Nat) (i : Int) (H : AH) (W : Nat → Prop) (Q : Unit → AH → Prop) : (trun P w0 10 K Kr 300 0 [] ⟨w kB (setL (tz 89 z) [(0, .eslice vn vo len vc), (5, .int .i64 i)]), below, H⟩ (.ff (.call Unit W (fun _ => .tuple []) Q (fun _ _ => .stop)))) = (decide (i < (↑len : Int)) = false ∧ MkOk P 4 (↑len : Int) (↑len : Int) ∧ True ∧ True ∧ True ∧ (Ret P w0 38 [AV.ptr (AH.nx H + 1) 0, AV.int IntKind.i64 (0 : Int)] (AH.new (AH.new H (AObj.row (reps [AV.bool false] (Int.toNat (↑len : Int))) 4 true (St.own none))) (AObj.row [AV.eslice vn vo len vc, AV.nslice 0 0, AV.nslice 0 0, AV.slice (AH.nx H) 0 (Int.toNat (↑len : Int)) (Int.toNat (↑len : Int))] 37 true (St.own none))) W fun (v : AV) (H' : AH) ↦ ∃ (x : Unit), v = AV.tuple [] ∧ Q x H') ∧ Pok (AH.new (AH.new H (AObj.row (reps [AV.bool false] (Int.toNat (↑len : Int))) 4 true (St.own none))) (AObj.row [AV.eslice vn vo len vc, AV.nslice 0 0, AV.nslice 0 0, AV.slice (AH.nx H) 0 (Int.toNat (↑len : Int)) (Int.toNat (↑len : Int))] 37 true (St.own none))) W (stackPend below) ∧ ∀ (x : Unit) (H' : AH), Q x H' → K (AM.mk (w kD (tl [AV.eslice vn vo len vc, z 1, z 2, z 3, z 4, AV.int IntKind.i64 i, z 6, AV.ptr (AH.nx H + 1) 0, AV.int IntKind.i64 (0 : Int), z 9, z 10, z 11, z 12, z 13, z 14, z 15, z 16, z 17, z 18, z 19, z 20, z 21, z 22, z 23, z 24, z 25, z 26, AV.int IntKind.i64 i, AV.eslice vn vo len vc, AV.int IntKind.i64 (↑len : Int), AV.bool false, z 31, z 32, z 33, z 34, z 35, z 36, z 37, z 38, z 39, z 40, z 41, z 42, z 43, z 44, z 45, z 46, z 47, z 48, z 49, z 50, z 51, z 52, z 53, z 54, z 55, z 56, z 57, z 58, z 59, z 60, z 61, AV.eslice vn vo len vc, AV.eslice vn vo len vc, AV.int IntKind.i64 (↑len : Int), AV.slice (AH.nx H) 0 (Int.toNat (↑len : Int)) (Int.toNat (↑len : Int)), AV.agg [AV.eslice vn vo len vc, AV.nslice 0 0, AV.nslice 0 0, AV.slice (AH.nx H) 0 (Int.toNat (↑len : Int)) (Int.toNat (↑len : Int))], AV.ptr (AH.nx H + 1) 0, AV.ptr (AH.nx H + 1) 0, AV.tuple [], z 70, z 71, z 72, z 73, z 74, z 75, z 76, z 77, z 78, z 79, z 80, z 81, z 82, z 83, z 84, z 85, z 86, z 87, z 88])) below H')) := by kernel_rfl

theorem rnC (w0 : World) (K : AM → Prop) (Kr : AV → AH → Prop) (below : List AFr) (z : Nat → AV) (len a ao b bo hl : Nat) (v hv : AV) (i j t : Int) (H : AH) : (trun P w0 10 K Kr 300 0 [] ⟨w kC (setL (tz 89 z) [(0, v), (5, .int .i64 i), (6, .int .i64 j)]), below, H⟩ (.bs a ao (.v hv (.ln hl (.tt (.bs a ao (.v hv (.bs b bo (.v (.int .i64 t) (.br (.tt (.br .stop .stop)) (.bs a ao (.v hv (.bs b bo (.v (.int .i64 t) (.ln len (.ff (.br .stop .stop))))))))))))))))) = (SlAt v a ao i ∧ rdAt H a (ao + Int.toNat i * 1) = some hv ∧ aLen P H 34 hv = some (AV.int IntKind.i64 (↑hl : Int), []) ∧ decide (j < (↑hl : Int)) = true ∧ SlAt v a ao i ∧ rdAt H a (ao + Int.toNat i * 1) = some hv ∧ SlAt hv b bo j ∧ rdAt H b (bo + Int.toNat j * 1) = some (AV.int IntKind.i64 t) ∧ (decide (t < (0 : Int)) = true → true = true ∧ (true = true → Kr (AV.tuple [AV.nptr, AV.int IntKind.i64 (1 : Int)]) H) ∧ (true = false → K (AM.mk (w kC (tl [v, z 1, z 2, z 3, z 4, AV.int IntKind.i64 i, AV.int IntKind.i64 (IntKind.wrap IntKind.i64 (j + (1 : Int))), z 7, z 8, z 9, z 10, z 11, z 12, z 13, z 14, z 15, z 16, z 17, z 18, z 19, z 20, z 21, z 22, z 23, z 24, z 25, z 26, z 27, z 28, z 29, z 30, z 31, z 32, AV.int IntKind.i64 j, v, AV.int IntKind.i64 i, AV.ptr a (ao + Int.toNat i * 1), hv, AV.int IntKind.i64 (↑hl : Int), AV.bool true, AV.int IntKind.i64 j, AV.int IntKind.i64 (IntKind.wrap IntKind.i64 (j + (1 : Int))), v, AV.int IntKind.i64 i, AV.ptr a (ao + Int.toNat i * 1), hv, AV.int IntKind.i64 j, AV.ptr b (bo + Int.toNat j * 1), AV.int IntKind.i64 t, AV.bool (decide (t < (0 : Int))), AV.bool true, AV.tuple [], AV.tuple [], AV.tuple [], AV.tuple [], AV.tuple [], AV.tuple [], AV.tuple [], AV.tuple [], AV.tuple [], AV.tuple [], AV.bool false, z 62, z 63, z 64, z 65, z 66, z 67, z 68, z 69, z 70, z 71, z 72, z 73, z 74, z 75, z 76, z 77, z 78, z 79, z 80, z 81, z 82, z 83, z 84, z 85, z 86, z 87, z 88])) below H))) ∧ (decide (t < (0 : Int)) = false → SlAt v a ao i ∧ rdAt H a (ao + Int.toNat i * 1) = some hv ∧ SlAt hv b bo j ∧ rdAt H b (bo + Int.toNat j * 1) = some (AV.int IntKind.i64 t) ∧ aLen P H 22 v = some (AV.int IntKind.i64 (↑len : Int), []) ∧ false = false ∧ (decide (t ≥ (↑len : Int)) = true → Kr (AV.tuple [AV.nptr, AV.int IntKind.i64 (1 : Int)]) H) ∧ (decide (t ≥ (↑len : Int)) = false → K (AM.mk (w kC (tl [v, z 1, z 2, z 3, z 4, AV.int IntKind.i64 i, AV.int IntKind.i64 (IntKind.wrap IntKind.i64 (j + (1 : Int))), z 7, z 8, z 9, z 10, z 11, z 12, z 13, z 14, z 15, z 16, z 17, z 18, z 19, z 20, z 21, z 22, z 23, z 24, z 25, z 26, z 27, z 28, z 29, z 30, z 31, z 32, AV.int IntKind.i64 j, v, AV.int IntKind.i64 i, AV.ptr a (ao + Int.toNat i * 1), hv, AV.int IntKind.i64 (↑hl : Int), AV.bool true, AV.int IntKind.i64 j, AV.int IntKind.i64 (IntKind.wrap IntKind.i64 (j + (1 : Int))), v, AV.int IntKind.i64 i, AV.ptr a (ao + Int.toNat i * 1), hv, AV.int IntKind.i64 j, AV.ptr b (bo + Int.toNat j * 1), AV.int IntKind.i64 t, AV.bool (decide (t < (0 : Int))), AV.bool false, v, AV.int IntKind.i64 i, AV.ptr a (ao + Int.toNat i * 1), hv, AV.int IntKind.i64 j, AV.ptr b (bo + Int.toNat j * 1), AV.int IntKind.i64 t, v, AV.int IntKind.i64 (↑len : Int), AV.bool (decide (t ≥ (↑len : Int))), AV.bool false, z 62, z 63, z 64, z 65, z 66, z 67, z 68, z 69, z 70, z 71, z 72, z 73, z 74, z 75, z 76, z 77, z 78, z 79, z 80, z 81, z 82, z 83, z 84, z 85, z 86, z 87, z 88])) below H)))) := by kernel_rfl

theorem rnCo (w0 : World) (K : AM → Prop) (Kr : AV → AH → Prop) (below : List AFr) (z : Nat → AV) (a ao hl : Nat) (v hv : AV) (i j : Int) (H : AH) : (trun P w0 10 K Kr 300 0 [] ⟨w kC (setL (tz 89 z) [(0, v), (5, .int .i64 i), (6, .int .i64 j)]), below, H⟩ (.bs a ao (.v hv (.ln hl (.ff .stop))))) = (SlAt v a ao i ∧ rdAt H a (ao + Int.toNat i * 1) = some hv ∧ aLen P H 34 hv = some (AV.int IntKind.i64 (↑hl : Int), []) ∧ decide (j < (↑hl : Int)) = false ∧ K (AM.mk (w kB (tl [v, z 1, z 2, z 3, z 4, AV.int IntKind.i64 (IntKind.wrap IntKind.i64 (i + (1 : Int))), AV.int IntKind.i64 j, z 7, z 8, z 9, z 10, z 11, z 12, z 13, z 14, z 15, z 16, z 17, z 18, z 19, z 20, z 21, z 22, z 23, z 24, z 25, z 26, z 27, z 28, z 29, z 30, AV.int IntKind.i64 i, AV.int IntKind.i64 (IntKind.wrap IntKind.i64 (i + (1 : Int))), AV.int IntKind.i64 j, v, AV.int IntKind.i64 i, AV.ptr a (ao + Int.toNat i * 1), hv, AV.int IntKind.i64 (↑hl : Int), AV.bool false, z 40, z 41, z 42, z 43, z 44, z 45, z 46, z 47, z 48, z 49, z 50, z 51, z 52, z 53, z 54, z 55, z 56, z 57, z 58, z 59, z 60, z 61, z 62, z 63, z 64, z 65, z 66, z 67, z 68, z 69, z 70, z 71, z 72, z 73, z 74, z 75, z 76, z 77, z 78, z 79, z 80, z 81, z 82, z 83, z 84, z 85, z 86, z 87, z 88])) below H)) := by kernel_rfl

theorem rnD (w0 : World) (K : AM → Prop) (Kr : AV → AH → Prop) (below : List AFr) (z : Nat → AV) (len d a m : Nat) (v vv : AV) (i : Int) (H : AH) (v' : Nat → AH → AV) (H' : Nat → AH → AH) (ns : Nat → AH → List Nat) (Q : Nat → AH → Prop) : (trun P w0 10 K Kr 300 0 [] ⟨w kD (setL (tz 89 z) [(0, v), (7, .ptr d 0), (8, .int .i64 i)]), below, H⟩ (.ln len (.tt (.v vv (.call Nat (fun _ => False) (fun x => .slice x 0 m m) Q (fun x Hc => .r (.val (v' x Hc), H' x Hc, ns x Hc) .stop)))))) = (aLen P H 22 v = some (AV.int IntKind.i64 (↑len : Int), []) ∧ decide (i < (↑len : Int)) = true ∧ rdAt H d 1 = some vv ∧ True ∧ (Ret P w0 39 [AV.ptr d 0, AV.int IntKind.i64 i] H (fun (x : Nat) ↦ False) fun (v : AV) (H' : AH) ↦ ∃ (x : Nat), v = AV.slice x (0 : Nat) m m ∧ Q x H') ∧ Pok H (fun (x : Nat) ↦ False) (d :: stackPend below) ∧ ∀ (x : Nat) (H'_1 : AH), Q x H'_1 → True ∧ aAppend P (AH.new H'_1 (AObj.row [AV.slice x 0 m m] 35 true (St.own none))) [33, 33] [vv, AV.slice (AH.nx H'_1) 0 1 1] = some [(AN.val (v' x H'_1), H' x H'_1, ns x H'_1)] ∧ apartOk (AH.new H'_1 (AObj.row [AV.slice x 0 m m] 35 true (St.own none))) (stackPend below) (ns x H'_1) = true ∧ AV.single (v' x H'_1) = true ∧ StOk (H' x H'_1) d 1 1 ∧ apartOk (H' x H'_1) (stackPend below) (d :: stOld (H' x H'_1) d) = true ∧ K (AM.mk (w kD (tl [v, z 1, z 2, z 3, z 4, z 5, z 6, AV.ptr d 0, AV.int IntKind.i64 (IntKind.wrap IntKind.i64 (i + (1 : Int))), z 9, z 10, z 11, z 12, z 13, z 14, z 15, z 16, z 17, z 18, z 19, z 20, z 21, z 22, z 23, z 24, z 25, z 26, z 27, z 28, z 29, z 30, z 31, z 32, z 33, z 34, z 35, z 36, z 37, z 38, z 39, z 40, z 41, z 42, z 43, z 44, z 45, z 46, z 47, z 48, z 49, z 50, z 51, z 52, z 53, z 54, z 55, z 56, z 57, z 58, z 59, z 60, z 61, z 62, z 63, z 64, z 65, z 66, z 67, z 68, z 69, AV.int IntKind.i64 i, v, AV.int IntKind.i64 (↑len : Int), AV.bool true, AV.int IntKind.i64 i, AV.int IntKind.i64 (IntKind.wrap IntKind.i64 (i + (1 : Int))), AV.ptr d 0, AV.ptr d 0, AV.ptr d 0, AV.ptr d 1, vv, AV.ptr d 0, AV.int IntKind.i64 i, AV.slice x 0 m m, AV.slice (AH.nx H'_1) 0 1 1, v' x H'_1, AV.ptr d 0, AV.ptr d 1, z 88])) below (stO (H' x H'_1) d 1 [v' x H'_1]))) := by kernel_rfl

theorem rnDo (w0 : World) (K : AM → Prop) (Kr : AV → AH → Prop) (below : List AFr) (z : Nat → AV) (len d : Nat) (v : AV) (i : Int) (H : AH) : (trun P w0 10 K Kr 300 0 [] ⟨w kD (setL (tz 89 z) [(0, v), (7, .ptr d 0), (8, .int .i64 i)]), below, H⟩ (.ln len (.ff .stop))) = (aLen P H 22 v = some (AV.int IntKind.i64 (↑len : Int), []) ∧ decide (i < (↑len : Int)) = false ∧ Kr (AV.tuple [AV.ptr d 0, AV.int IntKind.i64 (0 : Int)]) H) := by kernel_rfl


section
variable {w0 : World} {H0 : AH} {S : Nat → Prop} {v : AV} {g : List (List Int)} {hs : List AV} {below : List AFr} {Kr : AV → AH → Prop}

theorem et33 : ET P 33 35 := ⟨by kernel_rfl, by kernel_rfl, ⟨.nslice 0 0, by kernel_rfl, rfl⟩, by kernel_rfl, by rw [show bytesT P 35 = 24 by kernel_rfl]; decide⟩

def kAh (v : AV) (i : Int) : List (Nat × AV) := [(0, v), (4, .int .i64 i)]

def kBh (v : AV) (i : Int) : List (Nat × AV) := [(0, v), (5, .int .i64 i)]

def kCh (v : AV) (i j : Int) : List (Nat × AV) := [(0, v), (5, .int .i64 i), (6, .int .i64 j)]

def kDh (v : AV) (e : Nat) (i : Int) : List (Nat × AV) := [(0, v), (7, .ptr e 0), (8, .int .i64 i)]

theorem gtlen {n : Nat} (h : decide ((n : Int) > 1024) = true) : 1024 < n := by
  have : (n : Int) > 1024 := by simpa using h
  omega

theorem rnA_loop (hmat : Mat H0 S v g hs) (hg1 : g.length ≤ 1024) (hbad : (∃ l ∈ g, 1024 < l.length) → Kr (.tuple [.nptr, .int .i64 3]) H0)
    (hend : (∀ l ∈ g, l.length ≤ 1024) → ∀ z, Leads P w0 (RetK P 10 below Kr) ⟨w kB (setL (tz 89 z) (kBh v (0 : Nat))), below, H0⟩) :
    ∀ (r : List (List Int)) (i : Nat), g.drop i = r → i ≤ g.length → (∀ l ∈ g.take i, l.length ≤ 1024) → ∀ z, Leads P w0 (RetK P 10 below Kr) ⟨w kA (setL (tz 89 z) (kAh v i)), below, H0⟩
  | [], i, hdr, hi, ht, z => by
    have hil := drop_end hdr hi
    have hal : aLen P H0 22 v = some (.int .i64 (g.length : Nat), []) := by rw [← hmat.len]; exact hmat.top.aLen et22.und
    refine Leads.go fine (rnAo w0 _ _ below z g.length v i H0) rfl ⟨hal, by simp [hil], Leads.at (kBh v (0 : Nat)) (by kernel_rfl) (hend ?_)⟩
    rw [hil, List.take_length] at ht
    exact ht
  | l :: r, i, hdr, hi, ht, z => by
    obtain ⟨hlt, hx, hdr'⟩ := drop_step hdr
    have hal : aLen P H0 22 v = some (.int .i64 (g.length : Nat), []) := by rw [← hmat.len]; exact hmat.top.aLen et22.und
    obtain ⟨gn, goff, hv, p1, p2, p3, p4, p5⟩ := hmat.at hx
    refine Leads.go fine (rnA w0 _ _ below z g.length gn goff l.length v hv i H0) rfl ⟨hal, by simpa using hlt, p1, by simpa using p2, by have := p4.aLen (P := P) et34.und; simpa using this, fun hb => hbad ⟨l, List.mem_of_getElem? hx, gtlen hb⟩, fun hb => ?_⟩
    rw [wrap1 i (by omega)]
    refine Leads.at (kAh v (i + 1 : Nat)) (by kernel_rfl) (rnA_loop hmat hg1 hbad hend r (i + 1) hdr' hlt fun q hq => ?_)
    rw [List.take_add_one, hx] at hq
    rcases List.mem_append.1 hq with hq | hq
    · exact ht q hq
    · simp at hq
      subst hq
      have : ¬ ((q.length : Nat) : Int) > 1024 := by simpa using hb
      omega

theorem rnC_loop (hmat : Mat H0 S v g hs) (hg1 : g.length ≤ 1024) (hbad : ¬ Go.Proofs.DomP.Good g → Kr (.tuple [.nptr, .int .i64 1]) H0) {i : Nat} {l : List Int} (hx : g[i]? = some l) (hll : l.length ≤ 1024)
    (hend : (∀ t ∈ l, 0 ≤ t ∧ t < (g.length : Int)) → ∀ z, Leads P w0 (RetK P 10 below Kr) ⟨w kB (setL (tz 89 z) (kBh v (i + 1 : Nat))), below, H0⟩) :
    ∀ (r : List Int) (j : Nat), l.drop j = r → j ≤ l.length → (∀ t ∈ l.take j, 0 ≤ t ∧ t < (g.length : Int)) → ∀ z, Leads P w0 (RetK P 10 below Kr) ⟨w kC (setL (tz 89 z) (kCh v i j)), below, H0⟩
  | [], j, hdr, hj, ht, z => by
    have hjl := drop_end hdr hj
    have hlt := (List.getElem?_eq_some_iff.1 hx).1
    obtain ⟨gn, goff, hv, p1, p2, p3, p4, p5⟩ := hmat.at hx
    refine Leads.go fine (rnCo w0 _ _ below z gn goff l.length v hv i j H0) rfl ⟨p1, by simpa using p2, by have := p4.aLen (P := P) et34.und; simpa using this, by simp [hjl], ?_⟩
    rw [wrap1 i (by omega)]
    refine Leads.at (kBh v (i + 1 : Nat)) (by kernel_rfl) (hend ?_)
    rw [hjl, List.take_length] at ht
    exact ht
  | t :: r, j, hdr, hj, ht, z => by
    obtain ⟨hlt, hjt, hdr'⟩ := drop_step hdr
    obtain ⟨gn, goff, hv, p1, p2, p3, p4, p5⟩ := hmat.at hx
    have hal : aLen P H0 22 v = some (.int .i64 (g.length : Nat), []) := by rw [← hmat.len]; exact hmat.top.aLen et22.und
    have hah : aLen P H0 34 hv = some (.int .i64 (l.length : Nat), []) := by have := p4.aLen (P := P) et34.und; simpa using this
    obtain ⟨b, off, hb, q1, q2⟩ := p4.int hjt
    have p2' : rdAt H0 gn (goff + Int.toNat (i : Int) * 1) = some hv := by simpa using p2
    have q2' : rdAt H0 b (off + Int.toNat (j : Int) * 1) = some (.int .i64 t) := by simpa using q2
    have bad : ¬ (0 ≤ t ∧ t < (g.length : Int)) → Kr (.tuple [.nptr, .int .i64 1]) H0 := fun hb => hbad fun hgd => hb (hgd l (List.mem_of_getElem? hx) t (List.mem_of_getElem? hjt))
    refine Leads.go fine (rnC w0 _ _ below z g.length gn goff b off l.length v hv i j t H0) rfl ⟨p1, p2', hah, by simpa using hlt, p1, p2', q1, q2', fun h0 => ⟨rfl, fun _ => bad fun hc => ?_, fun h => by cases h⟩, fun h0 => ⟨p1, p2', q1, q2', hal, rfl, fun h1 => bad fun hc => ?_, fun h1 => ?_⟩⟩
    · have : t < 0 := by simpa using h0
      omega
    · have : t ≥ (g.length : Int) := by simpa using h1
      omega
    · rw [wrap1 j (by omega)]
      refine Leads.at (kCh v i (j + 1 : Nat)) (by kernel_rfl) (rnC_loop hmat hg1 hbad hx hll hend r (j + 1) hdr' hlt fun q hq => ?_)
      rw [List.take_add_one, hjt] at hq
      rcases List.mem_append.1 hq with hq | hq
      · exact ht q hq
      · simp at hq
        subst hq
        have a1 : ¬ q < 0 := by simpa using h0
        have a2 : ¬ q ≥ (g.length : Int) := by simpa using h1
        omega

theorem rnB_loop (hmat : Mat H0 S v g hs) (hg1 : g.length ≤ 1024) (hsm : ∀ l ∈ g, l.length ≤ 1024) (hbad : ¬ Go.Proofs.DomP.Good g → Kr (.tuple [.nptr, .int .i64 1]) H0)
    (hend : Go.Proofs.DomP.Good g → ∀ z, Leads P w0 (RetK P 10 below Kr) ⟨w kB (setL (tz 89 z) (kBh v (g.length : Nat))), below, H0⟩) :
    ∀ (r : List (List Int)) (i : Nat), g.drop i = r → i ≤ g.length → (∀ l ∈ g.take i, ∀ t ∈ l, 0 ≤ t ∧ t < (g.length : Int)) → ∀ z, Leads P w0 (RetK P 10 below Kr) ⟨w kB (setL (tz 89 z) (kBh v i)), below, H0⟩
  | [], i, hdr, hi, ht, z => by
    have hil := drop_end hdr hi
    subst hil
    rw [List.take_length] at ht
    exact hend ht z
  | l :: r, i, hdr, hi, ht, z => by
    obtain ⟨hlt, hx, hdr'⟩ := drop_step hdr
    have hal : aLen P H0 22 v = some (.int .i64 (g.length : Nat), []) := by rw [← hmat.len]; exact hmat.top.aLen et22.und
    refine Leads.go fine (rnB w0 _ _ below z g.length v i H0) rfl ⟨hal, by simpa using hlt, ?_⟩
    refine Leads.at (kCh v i (0 : Nat)) (by kernel_rfl) (rnC_loop hmat hg1 hbad hx (hsm l (List.mem_of_getElem? hx)) (fun hl => rnB_loop hmat hg1 hsm hbad hend r (i + 1) hdr' hlt fun q hq => ?_) l 0 rfl (Nat.zero_le _) (by simp))
    rw [List.take_add_one, hx] at hq
    rcases List.mem_append.1 hq with hq | hq
    · exact ht q hq
    · simp at hq
      subst hq
      exact hl

/-- One of the rows that without told. -/
def OverAt (H : AH) (np : Nat) (g : List (List Int)) (sf : Seen) (lo : Nat) (i : Nat) (on : Nat) : Prop := lo ≤ on ∧ ∃ wf : Seen, (∀ x, wf x = true ↔ Av g (i : Int) x) ∧ H.get on = some (.row (seenCells (outF sf wf (i : Int)) np) 4 true (.own none))

structure DS (H0 H1 : AH) (e sn np : Nat) (v vo : AV) (g : List (List Int)) (sf : Seen) (H : AH) (vov : AV) (ovs : List AV) : Prop where
  old : ∀ m, m < H1.nx → m ≠ e → H.get m = H1.get m
  nx : H1.nx ≤ H.nx
  en : e < H1.nx
  low : H0.nx ≤ e
  old0 : ∀ m, m < H0.nx → H.get m = H0.get m
  row : H.get e = some (.row [v, vov, vo, .slice sn 0 np np] 37 true (.own none))
  lst : Lst H vov 35 ovs
  ln : ∀ m, LN H vov m → H1.nx ≤ m
  each : ∀ (i : Nat) (x : AV), ovs[i]? = some x → ∃ on, x = .slice on 0 np np ∧ OverAt H np g sf H1.nx i on ∧ on < H.nx ∧ ¬ LN H vov on

theorem DS.put {H0 H1 H Hc : AH} {e sn np : Nat} {vo vov : AV} {sf : Seen} {ovs : List AV} (hw : Wf H) (h : DS H0 H1 e sn np v vo g sf H vov ovs) (hwc : Wf Hc) {on : Nat} (hs : ∀ m, m < H.nx → Hc.get m = H.get m) (hnx : H.nx ≤ Hc.nx) (hov : OverAt Hc np g sf H.nx ovs.length on) (hlen : ovs.length + 1 ≤ 100000000) :
    ∃ v' H' ns, aAppend P (Hc.new (.row [.slice on 0 np np] 35 true (.own none))) [33, 33] [vov, .slice Hc.nx 0 1 1] = some [(.val v', H', ns)] ∧ AV.single v' = true ∧ StOk H' e 1 1 ∧
      DS H0 H1 e sn np v vo g sf (stO H' e 1 [v']) v' (ovs ++ [.slice on 0 np np]) ∧
      ∀ pend, Wf H0 → Pok H0 (fun _ => False) pend → AOk (Hc.new (.row [.slice on 0 np np] 35 true (.own none))) pend ns ∧ AOk H' pend (e :: stOld H' e) := by
  have hen := h.en
  have hn1 := h.nx
  let H2 := Hc.new (.row [.slice on 0 np np] 35 true (.own none))
  have hg2 : ∀ m, m < H.nx → H2.get m = H.get m := fun m hm => by
    show (Hc.new _).get m = _
    rw [get_new, if_neg (by omega)]
    exact hs m hm
  have hbn : ∀ n off, slBase vov = some (n, off) → n < H.nx := fun n off hb => h.lst.lt hw ⟨n, off, hb, .inl rfl⟩
  have hl2 : Lst H2 vov 35 ovs := h.lst.congr fun n off hb => hg2 n (hbn n off hb)
  have hln : ∀ m, LN H2 vov m ↔ LN H vov m := LN_same fun n off hb => hg2 n (hbn n off hb)
  obtain ⟨v', H', ns, q1, q2, q3, q4, q5⟩ := hl2.append et33 (t2 := 33) (by kernel_rfl) et33.made (hwc.new _) (x := .slice Hc.nx 0 1 1) (new := [.slice on 0 np np]) rfl
    (by show aFirst (Hc.new _) 1 1 (.slice Hc.nx 0 1 1) = _; simp [aFirst, get_new]) rfl (by simpa using hlen)
  have hx2 : H2.nx = Hc.nx + 1 := rfl
  have hnx' : Hc.nx + 1 ≤ H'.nx := q3.nx
  have hk : ∀ m, m < Hc.nx + 1 → ¬ LN H vov m → H'.get m = H2.get m := fun m h1 h2 => q3.get m h1 fun hx => h2 ((hln m).1 hx)
  have heL : ¬ LN H vov e := fun hx => by have := h.ln e hx; omega
  have hrow' : H'.get e = some (.row [v, vov, vo, .slice sn 0 np np] 37 true (.own none)) := by
    rw [hk e (by omega) heL, hg2 e (by omega)]
    exact h.row
  have hst2 : stO H' e 1 [v'] = H'.put e (.row [v, v', vo, .slice sn 0 np np] 37 true (.own none)) := stO_eq (vs := [v']) (off := 1) hrow'
  have hln' : ∀ m, LN H' v' m → LN H vov m ∨ Hc.nx + 1 ≤ m := fun m hm => by
    rcases q4 m hm with h' | h'
    · exact .inl ((hln m).1 h')
    · exact .inr h'
  have hne : ∀ m, LN H' v' m → m ≠ e := fun m hm he => by
    subst he
    rcases hln' m hm with h' | h'
    · exact heL h'
    · omega
  have hln3 : ∀ m, LN (stO H' e 1 [v']) v' m ↔ LN H' v' m := LN_same fun n off hb => by rw [hst2, get_put, if_neg (hne n ⟨n, off, hb, .inl rfl⟩)]
  have hget : ∀ m, m < Hc.nx + 1 → ¬ LN H vov m → m ≠ e → (stO H' e 1 [v']).get m = H2.get m := fun m h1 h2 h3 => by rw [hst2, get_put, if_neg h3]; exact hk m h1 h2
  obtain ⟨o1, wf, o2, o3⟩ := hov
  have honc : on < Hc.nx := hwc on _ o3
  refine ⟨v', H', ns, q1, q2.single, ⟨_, _, _, _, hrow', by simp⟩, ⟨fun m hm hme => ?_, by rw [nx_stO]; omega, hen, h.low, fun m hm => ?_, by rw [hst2, get_put, if_pos rfl], ?_, fun m hm => ?_, fun i x hi => ?_⟩, fun pend hw0 hp => ⟨?_, ?_⟩⟩
  · rw [hget m (by omega) (fun hx => by have := h.ln m hx; omega) hme, hg2 m (by omega)]
    exact h.old m hm hme
  · have := h.low
    rw [hget m (by omega) (fun hx => by have := h.ln m hx; omega) (by omega), hg2 m (by omega)]
    exact h.old0 m hm
  · exact q2.congr fun n off hb => by rw [hst2, get_put, if_neg (hne n ⟨n, off, hb, .inl rfl⟩)]
  · rcases hln' m ((hln3 m).1 hm) with h' | h'
    · exact h.ln m h'
    · omega
  · by_cases c : i < ovs.length
    · rw [List.getElem?_append_left c] at hi
      obtain ⟨on', e1, ⟨e2, wf', e3, e4⟩, e5, e6⟩ := h.each i x hi
      have : on' ≠ e := fun he => by omega
      refine ⟨on', e1, ⟨e2, wf', e3, by rw [hget on' (by omega) e6 this, hg2 on' e5]; exact e4⟩, by rw [nx_stO]; omega, fun hx => ?_⟩
      rcases hln' on' ((hln3 on').1 hx) with h' | h'
      · exact e6 h'
      · omega
    · rw [List.getElem?_append_right (by omega)] at hi
      have hi0 : i - ovs.length = 0 := by
        have := (List.getElem?_eq_some_iff.1 hi).1
        simp at this
        omega
      rw [hi0] at hi
      simp at hi
      have hil : i = ovs.length := by omega
      subst hil
      refine ⟨on, hi.symm, ⟨by omega, wf, o2, ?_⟩, by rw [nx_stO]; omega, fun hx => ?_⟩
      · rw [hget on (by omega) (fun hx => by have := h.lst.lt hw hx; omega) (by omega)]
        show (Hc.new _).get on = _
        rw [get_new, if_neg (by omega)]
        exact o3
      · rcases hln' on ((hln3 on).1 hx) with h' | h'
        · have := h.lst.lt hw h'
          omega
        · omega
  · have := h.low
    have hp2 : Pok H2 (fun m => H0.nx ≤ m) pend := pok_new hw0 hp fun m hm => (hg2 m (by omega)).trans (h.old0 m hm)
    exact q5 _ pend hp2 fun m hm => .inl (by have := h.ln m ((hln m).1 hm); omega)
  · have := h.low
    rw [stOld_eq hrow']
    refine AOk.one (pok_new hw0 hp fun m hm => ?_) hrow' rfl rfl h.low
    rw [hk m (by omega) (fun hx => by have := h.ln m hx; omega), hg2 m (by omega)]
    exact h.old0 m hm

noncomputable def apO (Hc : AH) (x vov : AV) : AV × AH × List Nat := match aAppend P (Hc.new (.row [x] 35 true (.own none))) [33, 33] [vov, .slice Hc.nx 0 1 1] with
  | some [(.val v', H', ns)] => (v', H', ns)
  | _ => (.tuple [], Hc, [])

theorem apO_eq {Hc : AH} {x vov v' : AV} {H' : AH} {ns : List Nat} (h : aAppend P (Hc.new (.row [x] 35 true (.own none))) [33, 33] [vov, .slice Hc.nx 0 1 1] = some [(.val v', H', ns)]) : apO Hc x vov = (v', H', ns) := by unfold apO; rw [h]

def RefOk (H0 H' : AH) (e : Nat) (v : AV) (g : List (List Int)) (sf : Seen) (done : List Int) : Prop := ∃ vov vo sn ovs, H'.get e = some (.row [v, vov, vo, .slice sn 0 g.length g.length] 37 true (.own none)) ∧ H0.nx ≤ e ∧ H0.nx ≤ sn ∧ SlR H' vo (done.map kI) ∧ (∀ n off, slBase vo = some (n, off) → H0.nx ≤ n) ∧
  H'.get sn = some (.row (seenCells sf g.length) 4 true (.own none)) ∧ SlR H' vov ovs ∧ (∀ n off, slBase vov = some (n, off) → H0.nx ≤ n) ∧ ovs.length = g.length ∧ ∀ i : Nat, i < g.length → ∃ on, ovs[i]? = some (.slice on 0 g.length g.length) ∧ OverAt H' g.length g sf H0.nx i on

def RNewR (H : AH) (v : AV) (g : List (List Int)) (sf : Seen) (done : List Int) (y : AV) (H' : AH) : Prop :=
  (∀ m, m < H.nx → H'.get m = H.get m) ∧ H.nx ≤ H'.nx ∧
  ((g.length = 0 ∧ y = .tuple [.nptr, .int .i64 1]) ∨ (0 < g.length ∧ (1024 < g.length ∨ ∃ l ∈ g, 1024 < l.length) ∧ y = .tuple [.nptr, .int .i64 3]) ∨
   (0 < g.length ∧ g.length ≤ 1024 ∧ (∀ l ∈ g, l.length ≤ 1024) ∧ ¬ Go.Proofs.DomP.Good g ∧ y = .tuple [.nptr, .int .i64 1]) ∨
   (0 < g.length ∧ g.length ≤ 1024 ∧ (∀ l ∈ g, l.length ≤ 1024) ∧ Go.Proofs.DomP.Good g ∧ ∃ e, y = .tuple [.ptr e 0, .int .i64 0] ∧ RefOk H H' e v g sf done))

theorem rnD_loop (hw0 : Wf H0) (hp : Pok H0 (fun _ => False) (stackPend below)) (hmat : Mat H0 S v g hs) (hS : ∀ m, S m → m < H0.nx) (hg1 : g.length ≤ 1024) (hg0 : 0 < g.length) (hsm : ∀ l ∈ g, l.length ≤ 1024) (hgood : Go.Proofs.DomP.Good g) {H1 : AH} {e sn : Nat} {vo : AV} {sf : Seen}
    (hsn : H1.get sn = some (.row (seenCells sf g.length) 4 true (.own none))) (hsl : sn < H1.nx) (hse : sn ≠ e)
    (hend : ∀ H vov ovs, ovs.length = g.length → DS H0 H1 e sn g.length v vo g sf H vov ovs → Kr (.tuple [.ptr e 0, .int .i64 0]) H) :
    ∀ (k : Nat) (H : AH) (vov : AV) (ovs : List AV), ovs.length + k = g.length → DS H0 H1 e sn g.length v vo g sf H vov ovs → ∀ z, Leads P w0 (RetK P 10 below Kr) ⟨w kD (setL (tz 89 z) (kDh v e (ovs.length : Nat))), below, H⟩ := by
  intro k
  induction k with
  | zero =>
    intro H vov ovs hk h z
    have hmc : Mat H S v g hs := hmat.congr fun m hm => h.old0 m (hS m hm)
    have hal : aLen P H 22 v = some (.int .i64 (g.length : Nat), []) := by rw [← hmat.len]; exact hmc.top.aLen et22.und
    exact Leads.go fine (rnDo w0 _ _ below z g.length e v (ovs.length : Nat) H) rfl ⟨hal, by simp; omega, hend H vov ovs (by omega) h⟩
  | succ k ih =>
    intro H vov ovs hk h z
    refine Leads.wf fun hw => ?_
    have hlow := h.low
    have hen := h.en
    have hnx := h.nx
    have hmc : Mat H S v g hs := hmat.congr fun m hm => h.old0 m (hS m hm)
    have hal : aLen P H 22 v = some (.int .i64 (g.length : Nat), []) := by rw [← hmat.len]; exact hmc.top.aLen et22.und
    have hsnH : H.get sn = some (.row (seenCells sf g.length) 4 true (.own none)) := by rw [h.old sn hsl hse]; exact hsn
    have E : OEnv H S e sn g.length v g hs sf := ⟨by rw [rdAt_row h.row]; rfl, by rw [rdAt_row h.row]; rfl, fun i hi => by rw [rdAt_row hsnH, seenCells_get _ hi], hmc, fun m hm => by have := hS m hm; omega, rfl, hgood, hsm, hg1, hg0, by omega, by omega⟩
    obtain ⟨wf, hR, hav⟩ := wrun_start hgood hg0 ((ovs.length : Nat) : Int)
    have hret := (wo_ret (w0 := w0) E (a := ((ovs.length : Nat) : Int)) (by omega) (by omega) hR).wf
    have hpd : Pok H (fun _ => False) (e :: stackPend below) := fun p hpp => by
      rcases List.mem_cons.1 hpp with rfl | hpp
      · exact ⟨by rw [h.row]; rfl, fun hx => hx⟩
      · exact ⟨(pok_new hw0 hp h.old0 p hpp).1, fun hx => hx⟩
    refine Leads.go fine (rnD w0 _ _ below z g.length e 0 g.length v vov (ovs.length : Nat) H (fun x Hc => (apO Hc (.slice x 0 g.length g.length) vov).1) (fun x Hc => (apO Hc (.slice x 0 g.length g.length) vov).2.1) (fun x Hc => (apO Hc (.slice x 0 g.length g.length) vov).2.2)
      (fun x Hc => (H.nx ≤ x ∧ Hc.get x = some (.row (seenCells (outF sf wf ((ovs.length : Nat) : Int)) g.length) 4 true (.own none)) ∧ (∀ m, m < H.nx → Hc.get m = H.get m) ∧ H.nx ≤ Hc.nx) ∧ Wf Hc)) rfl
      ⟨hal, by simp; omega, by rw [rdAt_row h.row]; rfl, trivial, hret.mono fun y Hc q => ?_, hpd, fun x Hc q => ?_⟩
    · obtain ⟨⟨on, q1, q2, q3, q4, q5⟩, qw⟩ := q
      exact ⟨on, q1, ⟨q2, q3, q4, q5⟩, qw⟩
    · obtain ⟨⟨q1, q2, q3, q4⟩, qw⟩ := q
      obtain ⟨v', H', ns, r1, r2, r3, r4, r5⟩ := h.put hw qw q3 q4 (on := x) ⟨q1, wf, hav, q2⟩ (by omega)
      obtain ⟨r6, r7⟩ := r5 _ hw0 hp
      dsimp only
      rw [apO_eq r1]
      refine ⟨trivial, r1, r6, r2, r3, r7, ?_⟩
      rw [wrap1 ovs.length (by omega)]
      have := ih _ v' (ovs ++ [.slice x 0 g.length g.length]) (by simp; omega) r4
      rw [List.length_append] at this
      exact Leads.at (kDh v e (ovs.length + 1 : Nat)) (by kernel_rfl) this

/-- THE CONTRACT OF the document's New. -/
theorem rnew_ret (hmat : Mat H0 S v g hs) (hS : ∀ m, S m → m < H0.nx) {k : Nat} {sf : Seen} {done : List Int}
    (hok : 0 < g.length → g.length ≤ 1024 → (∀ l ∈ g, l.length ≤ 1024) → Go.Proofs.DomP.Good g → dfsN g k 0 (fun _ => false) [] = some (sf, done) ∧ done.length ≤ 100000000) : Ret P w0 10 [v] H0 (fun _ => False) (RNewR H0 v g sf done) := Ret.mk fun below hp => by
  refine Leads.wf fun hw => ?_
  have hal : aLen P H0 22 v = some (.int .i64 (g.length : Nat), []) := by rw [← hmat.len]; exact hmat.top.aLen et22.und
  refine Leads.go fine (rn0 w0 _ _ below g.length v H0) (by kernel_rfl) ⟨hal, fun h0 => ⟨fun _ _ => rfl, Nat.le_refl _, .inl ⟨?_, rfl⟩⟩, fun h0 => ⟨hal, fun h1 => ⟨fun _ _ => rfl, Nat.le_refl _, .inr (.inl ⟨?_, .inl (gtlen h1), rfl⟩)⟩, fun h1 => ?_⟩⟩
  · have : ((g.length : Nat) : Int) = 0 := by simpa using h0
    omega
  · have : ¬ ((g.length : Nat) : Int) = 0 := by simpa using h0
    omega
  · have hg0 : 0 < g.length := by
      have : ¬ ((g.length : Nat) : Int) = 0 := by simpa using h0
      omega
    have hg1 : g.length ≤ 1024 := by
      have : ¬ ((g.length : Nat) : Int) > 1024 := by simpa using h1
      omega
    refine Leads.at (kAh v (0 : Nat)) (by kernel_rfl) (rnA_loop hmat hg1 (fun hb => ⟨fun _ _ => rfl, Nat.le_refl _, .inr (.inl ⟨hg0, .inr hb, rfl⟩)⟩) (fun hsm => ?_) g 0 rfl (Nat.zero_le _) (by simp))
    refine rnB_loop hmat hg1 hsm (fun hb => ⟨fun _ _ => rfl, Nat.le_refl _, .inr (.inr (.inl ⟨hg0, hg1, hsm, hb, rfl⟩))⟩) (fun hgood => ?_) g 0 rfl (Nat.zero_le _) (by simp)
    obtain ⟨hd, hdl⟩ := hok hg0 hg1 hsm hgood
    intro z
    -- the search
    let HA := H0.new (.row (seenCells (fun _ => false) g.length) 4 true (.own none))
    let HB := HA.new (.row [v, .nslice 0 0, .nslice 0 0, .slice H0.nx 0 g.length g.length] 37 true (.own none))
    have hAget : ∀ m, m < H0.nx → HB.get m = H0.get m := fun m hm => by
      show (HA.new _).get m = _
      rw [get_new, if_neg (by show m ≠ H0.nx + 1; omega)]
      exact get_lt hm
    have hwB : Wf HB := (hw.new _).new _
    have hR : RSt H0 S (H0.nx + 1) H0.nx g.length v (.nslice 0 0) HB (.nslice 0 0) (fun _ => false) [] :=
      ⟨fun m hm => hAget m (hS m hm), get_at rfl, by rw [show HB.get H0.nx = HA.get H0.nx from get_lt (Nat.lt_succ_self _)]; exact get_at rfl, Lst.nil _ 3, by omega, LN_nil _ _, LN_nil _ _, fun m hm => by
        have := hS m hm
        exact ⟨by show m < H0.nx + 1 + 1; omega, by omega, by omega, LN_nil _ _⟩⟩
    have hret := (rdeep_ret (w0 := w0) (vov := .nslice 0 0) hmat rfl hgood hsm k 0 (fun _ => false) [] sf done HB (.nslice 0 0) hR rfl (Int.le_refl _) (by omega) hd hdl).wf
    have hpB : Pok HB (DO (H0.nx + 1) H0.nx HB (.nslice 0 0)) (stackPend below) := (pok_new hw hp hAget).weak fun m hm => by
      rcases hm with hm | hm | hm
      · show H0.nx ≤ m; omega
      · show H0.nx ≤ m; omega
      · exact absurd hm (LN_nil _ _)
    have fin : ∀ H1, RRet H0 S (H0.nx + 1) H0.nx g.length v (.nslice 0 0) HB (.nslice 0 0) sf done (.tuple []) H1 ∧ Wf H1 → ∀ z, Leads P w0 (RetK P 10 below (RNewR H0 v g sf done)) ⟨w kD (setL (tz 89 z) (kDh v (H0.nx + 1) (0 : Nat))), below, H1⟩ := fun H1 hq => by
      obtain ⟨⟨_, vo, hst, hstep⟩, hw1⟩ := hq
      have hnxB : HB.nx = H0.nx + 2 := rfl
      have hnx1 : H0.nx + 2 ≤ H1.nx := by have := hstep.kept.nx; omega
      have hold0 : ∀ m, m < H0.nx → H1.get m = H0.get m := fun m hm => by
        rw [hstep.kept.get m (by omega) (fun hx => by
          rcases hx with hx | hx | hx
          · omega
          · omega
          · exact LN_nil _ _ hx)]
        exact hAget m hm
      have hds : DS H0 H1 (H0.nx + 1) H0.nx g.length v vo g sf H1 (.nslice 0 0) [] := ⟨fun _ _ _ => rfl, Nat.le_refl _, by omega, by omega, hold0, hst.row, Lst.nil _ 35, fun m hm => absurd hm (LN_nil _ _), fun i x hx => by simp at hx⟩
      refine rnD_loop hw hp hmat hS hg1 hg0 hsm hgood hst.seen (by omega) (by omega) (fun H vov ovs hlen h => ⟨h.old0, by have := h.nx; omega, .inr (.inr (.inr ⟨hg0, hg1, hsm, hgood, _, rfl, vov, vo, H0.nx, ovs, h.row, by omega, Nat.le_refl _, ?_, fun n off hb => ?_, ?_, h.lst.slr, fun n off hb => ?_, hlen, fun i hi => ?_⟩))⟩) g.length H1 (.nslice 0 0) [] (by simp) hds
      · exact hst.ord.slr.congr fun n off hb => h.old n (hst.ord.slr.lt hw1 hb) fun he => hst.ld ⟨n, off, hb, .inl he.symm⟩
      · rcases hstep.ln n ⟨n, off, hb, .inl rfl⟩ with h' | h'
        · exact absurd h' (LN_nil _ _)
        · omega
      · rw [h.old H0.nx (by omega) (by omega)]
        exact hst.seen
      · have := h.ln n ⟨n, off, hb, .inl rfl⟩
        omega
      · have hx : ovs[i]? = some ovs[i] := List.getElem?_eq_getElem (by omega)
        obtain ⟨on, e1, ⟨e2, wf, e3, e4⟩, e5, e6⟩ := h.each i _ hx
        exact ⟨on, by rw [hx, e1], by omega, wf, e3, e4⟩
    have hbase := hmat.top
    have hvl := hbase.len
    rw [hmat.len] at hvl
    have e1 : reps [AV.bool false] (Int.toNat ((g.length : Nat) : Int)) = seenCells (fun _ => false) g.length := by rw [Int.toNat_natCast, reps_cells]
    have sl := hbase.sl
    cases v with
    | slice vn vo len vc =>
      simp only [aLenOf, Option.some.injEq] at hvl
      subst hvl
      have hvc := rnBo w0 (Leads P w0 (RetK P 10 below (RNewR H0 (.slice vn vo g.length vc) g sf done))) (RNewR H0 (.slice vn vo g.length vc) g sf done) below z g.length vn vo vc (g.length : Nat) H0 (DO (H0.nx + 1) H0.nx HB (.nslice 0 0)) (fun _ H' => RRet H0 S (H0.nx + 1) H0.nx g.length (.slice vn vo g.length vc) (.nslice 0 0) HB (.nslice 0 0) sf done (.tuple []) H' ∧ Wf H')
      rw [e1, Int.toNat_natCast] at hvc
      exact Leads.go fine hvc rfl ⟨by simp, mk4 hg1, trivial, trivial, trivial, hret.mono (fun y H' q => ⟨(), q.1.1, by rw [← q.1.1]; exact q⟩), hpB, fun _ H1 hq => Leads.at (kDh (.slice vn vo g.length vc) (H0.nx + 1) (0 : Nat)) (by kernel_rfl) (fin H1 hq)⟩
    | eslice vn vo len vc =>
      simp only [aLenOf, Option.some.injEq] at hvl
      subst hvl
      have hvc := rnBo2 w0 (Leads P w0 (RetK P 10 below (RNewR H0 (.eslice vn vo g.length vc) g sf done))) (RNewR H0 (.eslice vn vo g.length vc) g sf done) below z g.length vn vo vc (g.length : Nat) H0 (DO (H0.nx + 1) H0.nx HB (.nslice 0 0)) (fun _ H' => RRet H0 S (H0.nx + 1) H0.nx g.length (.eslice vn vo g.length vc) (.nslice 0 0) HB (.nslice 0 0) sf done (.tuple []) H' ∧ Wf H')
      rw [e1, Int.toNat_natCast] at hvc
      exact Leads.go fine hvc rfl ⟨by simp, mk4 hg1, trivial, trivial, trivial, hret.mono (fun y H' q => ⟨(), q.1.1, by rw [← q.1.1]; exact q⟩), hpB, fun _ H1 hq => Leads.at (kDh (.eslice vn vo g.length vc) (H0.nx + 1) (0 : Nat)) (by kernel_rfl) (fin H1 hq)⟩
    | nslice a b => have := hbase.emp rfl; rw [this] at hmat; have := hmat.len; simp at this; omega
    | zslice a b c d => have := hbase.emp rfl; rw [this] at hmat; have := hmat.len; simp at this; omega
    | hslice a => have := hbase.emp rfl; rw [this] at hmat; have := hmat.len; simp at this; omega
    | _ => simp [isSl] at sl
end
end Go.Dm
/- The document's Order. -/
set_option linter.unusedVariables false
namespace Go.Dm
open Go Go.Sx Go.Sy Go.RowKit Go.Proofs.DomP

noncomputable def oR : AFr := hd P 15 [.r, .r, .l, .r, .i]

theorem ro0 (w0 : World) (K : AM → Prop) (Kr : AV → AH → Prop) (below : List AFr) (e len : Nat) (vd : AV) (H : AH) : (trun P w0 15 K Kr 300 0 [] ⟨frOf P 15 [.ptr e 0], below, H⟩ (.v vd (.ln len .stop))) = (rdAt H e 2 = some vd ∧ aLen P H 34 vd = some (AV.int IntKind.i64 (↑len : Int), []) ∧ K (AM.mk (w oR (tl [AV.ptr e 0, AV.tuple [], AV.nslice 0 0, AV.nslice 0 0, AV.int IntKind.i64 (IntKind.wrap IntKind.i64 ((↑len : Int) - (1 : Int))), AV.ptr e 0, AV.ptr e 0, AV.ptr e 2, vd, AV.int IntKind.i64 (↑len : Int), AV.int IntKind.i64 (IntKind.wrap IntKind.i64 ((↑len : Int) - (1 : Int))), AV.tuple [], AV.tuple [], AV.tuple [], AV.tuple [], AV.tuple [], AV.tuple [], AV.tuple [], AV.tuple [], AV.tuple [], AV.tuple [], AV.tuple [], AV.tuple [], AV.tuple [], AV.tuple [], AV.tuple []])) below H)) := by kernel_rfl

theorem roI (w0 : World) (K : AM → Prop) (Kr : AV → AH → Prop) (below : List AFr) (z : Nat → AV) (e a ao : Nat) (vd vo v' : AV) (i x : Int) (H H' : AH) (ns : List Nat) : (trun P w0 15 K Kr 300 0 [] ⟨w oR (setL (tz 26 z) [(0, .ptr e 0), (3, vo), (4, .int .i64 i)]), below, H⟩ (.tt (.v vd (.bs a ao (.v (.int .i64 x) (.r (.val v', H', ns) .stop)))))) = (decide (i ≥ (0 : Int)) = true ∧ rdAt H e 2 = some vd ∧ SlAt vd a ao i ∧ rdAt H a (ao + Int.toNat i * 1) = some (AV.int IntKind.i64 x) ∧ True ∧ aAppend P (AH.new H (AObj.row [AV.int IntKind.i64 x] 3 true (St.own none))) [34, 34] [vo, AV.slice (AH.nx H) 0 1 1] = some [(AN.val v', H', ns)] ∧ apartOk (AH.new H (AObj.row [AV.int IntKind.i64 x] 3 true (St.own none))) (stackPend below) ns = true ∧ K (AM.mk (w oR (tl [AV.ptr e 0, z 1, z 2, v', AV.int IntKind.i64 (IntKind.wrap IntKind.i64 (i - (1 : Int))), z 5, z 6, z 7, z 8, z 9, z 10, AV.int IntKind.i64 i, AV.bool true, AV.int IntKind.i64 i, AV.int IntKind.i64 (IntKind.wrap IntKind.i64 (i - (1 : Int))), vo, AV.ptr e 0, AV.ptr e 0, AV.ptr e 2, vd, AV.int IntKind.i64 i, AV.ptr a (ao + Int.toNat i * 1), AV.int IntKind.i64 x, AV.slice (AH.nx H) 0 1 1, v', z 25])) below H')) := by kernel_rfl

theorem roO (w0 : World) (K : AM → Prop) (Kr : AV → AH → Prop) (below : List AFr) (z : Nat → AV) (e : Nat) (vo : AV) (i : Int) (H : AH) : (trun P w0 15 K Kr 300 0 [] ⟨w oR (setL (tz 26 z) [(0, .ptr e 0), (3, vo), (4, .int .i64 i)]), below, H⟩ (.ff .stop)) = (decide (i ≥ (0 : Int)) = false ∧ Kr vo H) := by kernel_rfl

section
variable {w0 : World} {H0 : AH}

def oRh (e : Nat) (vo : AV) (i : Int) : List (Nat × AV) := [(0, .ptr e 0), (3, vo), (4, .int .i64 i)]

def OrdQ (H0 : AH) (l : List Int) : AV → AH → Prop := fun x H' => SlR H' x (l.map kI) ∧ (∀ n off, slBase x = some (n, off) → H0.nx ≤ n) ∧ Kept (fun _ => False) H0 H'

theorem ror_loop (hw0 : Wf H0) {below : List AFr} (hp : Pok H0 (fun _ => False) (stackPend below)) {e : Nat} {vd : AV} {done : List Int} (hd : rdAt H0 e 2 = some vd) (hen : e < H0.nx) (hs : SlR H0 vd (done.map kI)) (hlen : done.length ≤ 1000000) :
    ∀ (n : Nat) (Hc : AH) (vo : AV), n ≤ done.length → (∀ m, m < H0.nx → Hc.get m = H0.get m) → H0.nx ≤ Hc.nx → Lst Hc vo 3 ((done.drop n).reverse.map kI) → (∀ m, LN Hc vo m → H0.nx ≤ m) →
      ∀ z, Leads P w0 (RetK P 15 below (OrdQ H0 done.reverse)) ⟨w oR (setL (tz 26 z) (oRh e vo ((n : Int) - 1))), below, Hc⟩ := by
  intro n
  induction n with
  | zero =>
    intro Hc vo hn old nx hl hln z
    refine Leads.go fine (roO w0 _ _ below z e vo (((0 : Nat) : Int) - 1) Hc) rfl ⟨by simp, by simpa using hl.slr, fun n off hb => hln n ⟨n, off, hb, .inl rfl⟩, nx, fun m hm _ => old m hm⟩
  | succ n ih =>
    intro Hc vo hn old nx hl hln z
    refine Leads.wf fun hw => ?_
    have hx : done[n]? = some done[n] := List.getElem?_eq_getElem (by omega)
    have hsc : SlR Hc vd (done.map kI) := hs.congr fun m off hb => old m (hs.lt hw0 hb)
    obtain ⟨a, ao, hb, q1, q2⟩ := hsc.int hx
    have ei : ((n + 1 : Nat) : Int) - 1 = (n : Int) := by omega
    let Hb := Hc.new (.row [.int .i64 done[n]] 3 true (.own none))
    have hbget : ∀ m, m < Hc.nx → Hb.get m = Hc.get m := fun m hm => get_lt hm
    have hl0 : Lst Hb vo 3 ((done.drop (n + 1)).reverse.map kI) := hl.congr fun m off hb => hbget m (hl.lt hw ⟨m, off, hb, .inl rfl⟩)
    have hlnb : ∀ m, LN Hb vo m ↔ LN Hc vo m := LN_same fun m off hb => hbget m (hl.lt hw ⟨m, off, hb, .inl rfl⟩)
    obtain ⟨v', H', ns, h1, h2, h3, h4, h5⟩ := hl0.append et34 (t2 := 34) (by kernel_rfl) et34.made (hw.new _) (x := .slice Hc.nx 0 1 1) (new := [.int .i64 done[n]]) rfl
      (by show aFirst (Hc.new _) 1 1 (.slice Hc.nx 0 1 1) = _; simp [aFirst, get_new]) rfl (by simp; omega)
    have hnb : Hc.nx + 1 ≤ H'.nx := h3.nx
    refine Leads.go fine (roI w0 _ _ below z e a ao vd vo v' (((n + 1 : Nat) : Int) - 1) done[n] Hc H' ns) rfl ⟨by rw [ei]; simp, by rw [rdAt_congr (old e hen)]; exact hd, by rw [ei]; exact q1, by rw [ei]; simpa using q2, trivial, h1, h5 (fun m => H0.nx ≤ m) _ (pok_new hw0 hp fun m hm => (hbget m (by omega)).trans (old m hm)) fun m hm => .inl (hln m ((hlnb m).1 hm)), ?_⟩
    rw [ei, wrapI (by omega) (by omega)]
    refine Leads.at (oRh e v' ((n : Int) - 1)) (by kernel_rfl) (ih H' v' (by omega) (fun m hm => ?_) (by omega) ?_ fun m hm => ?_)
    · rw [h3.get m (by show m < Hc.nx + 1; omega) (fun hx => by have := hln m ((hlnb m).1 hx); omega), hbget m (by omega)]
      exact old m hm
    · have e2 : (done.drop n).reverse = (done.drop (n + 1)).reverse ++ [done[n]] := by
        rw [List.drop_eq_getElem_cons (by omega : n < done.length), List.reverse_cons]
      rw [e2, List.map_append]
      exact h2
    · rcases h4 m hm with h' | h'
      · exact hln m ((hlnb m).1 h')
      · have : Hc.nx + 1 ≤ m := h'
        omega

theorem rorder_ret {e : Nat} {vd : AV} {done : List Int} (hd : rdAt H0 e 2 = some vd) (hs : SlR H0 vd (done.map kI)) (hlen : done.length ≤ 1000000) : Ret P w0 15 [.ptr e 0] H0 (fun _ => False) (OrdQ H0 done.reverse) := Ret.mk fun below hp => by
  refine Leads.wf fun hw => ?_
  refine Leads.go fine (ro0 w0 _ _ below e done.length vd H0) (by kernel_rfl) ⟨hd, by have := hs.aLen (P := P) et34.und; simpa using this, ?_⟩
  rw [wrapI (by omega) (by omega)]
  exact Leads.at (oRh e (.nslice 0 0) ((done.length : Int) - 1)) (by kernel_rfl) (ror_loop hw hp hd (rdAt_lt hw hd) hs hlen done.length H0 (.nslice 0 0) (Nat.le_refl _) (fun _ _ => rfl) (Nat.le_refl _) (by rw [List.drop_length]; exact Lst.nil _ 3) (fun m hm => absurd hm (LN_nil _ _)))
end
end Go.Dm
/- Where a reign ends. -/
set_option linter.unusedVariables false
namespace Go.Dm
open Go Go.Sx Go.Sy Go.RowKit Go.Proofs.DomP

noncomputable def iL : AFr := hd P 41 [.r, .r, .l, .r, .i]

noncomputable def jL : AFr := hd P 40 [.r, .l, .r, .i]

theorem idyF (w0 : World) (K : AM → Prop) (Kr : AV → AH → Prop) (below : List AFr) (z : Nat → AV) (n off len bd bn : Nat) (v : AV) (i x : Int) (b : Bool) (H : AH) : (trun P w0 55 K Kr 200 0 [] ⟨w xB (setL (tz 19 z) [(0, v), (1, .func 44 [] [.ptr bd 0, .ptr bn 0]), (7, .int .i64 len), (8, .int .i64 i)]), below, H⟩ (.tt (.bs n off (.v (.int .i64 x) (.call Unit (fun _ => False) (fun _ => .bool b) (fun _ H' => H' = H) (fun _ _ => .br .stop .stop)))))) = (decide (i < (↑len : Int)) = true ∧ SlAt v n off i ∧ rdAt H n (off + Int.toNat i * 1) = some (AV.int IntKind.i64 x) ∧ True ∧ (Ret P w0 44 [AV.int IntKind.i64 x, AV.ptr bd 0, AV.ptr bn 0] H (fun (x : Nat) ↦ False) fun (v : AV) (H' : AH) ↦ ∃ (x : Unit), v = AV.bool b ∧ H' = H) ∧ Pok H (fun (x : Nat) ↦ False) (stackPend below) ∧ ∀ (x_1 : Unit) (H' : AH), H' = H → (b = true → Kr (AV.int IntKind.i64 i) H') ∧ (b = false → K (AM.mk (w xB (tl [v, AV.func 44 [] [AV.ptr bd 0, AV.ptr bn 0], z 2, z 3, z 4, AV.int IntKind.i64 i, z 6, AV.int IntKind.i64 (↑len : Int), AV.int IntKind.i64 (IntKind.wrap IntKind.i64 (i + (1 : Int))), AV.bool true, AV.int IntKind.i64 i, AV.func 44 [] [AV.ptr bd 0, AV.ptr bn 0], v, AV.int IntKind.i64 i, AV.ptr n (off + Int.toNat i * 1), AV.int IntKind.i64 x, AV.bool false, z 17, AV.int IntKind.i64 (IntKind.wrap IntKind.i64 (i + (1 : Int)))])) below H'))) := by kernel_rfl

theorem fr1 (w0 : World) (K : AM → Prop) (Kr : AV → AH → Prop) (below : List AFr) (bd bn d : Nat) (n p : Int) (b : Bool) (H : AH) : (trun P w0 44 K Kr 200 0 [] ⟨frOf P 44 [.int .i64 p, .ptr bd 0, .ptr bn 0], below, H⟩ (.v (.ptr d 0) (.v (.int .i64 n) (.call Unit (fun _ => False) (fun _ => .bool b) (fun _ H' => H' = H) (fun _ _ => .stop))))) = (rdAt H bd 0 = some (AV.ptr d 0) ∧ rdAt H bn 0 = some (AV.int IntKind.i64 n) ∧ True ∧ (Ret P w0 17 [AV.ptr d 0, AV.int IntKind.i64 n, AV.int IntKind.i64 p] H (fun (x : Nat) ↦ False) fun (v : AV) (H' : AH) ↦ ∃ (x : Unit), v = AV.bool b ∧ H' = H) ∧ Pok H (fun (x : Nat) ↦ False) (stackPend below) ∧ ∀ (x : Unit) (H' : AH), H' = H → Kr (AV.bool b) H') := by kernel_rfl

theorem fr2 (w0 : World) (K : AM → Prop) (Kr : AV → AH → Prop) (below : List AFr) (bd bn d pn poff : Nat) (n k : Int) (o c : Bool) (vp hv : AV) (H : AH) : (trun P w0 43 K Kr 200 0 [] ⟨frOf P 43 [.int .i64 k, .ptr bn 0, .ptr bd 0], below, H⟩ (.v (.int .i64 n) (.br (.tt (.tt (.v (.ptr d 0) (.v vp (.bs pn poff (.v hv (.call Unit (fun _ => False) (fun _ => .bool c) (fun _ H' => H' = H) (fun _ _ => .tt .stop)))))))) (.v (.ptr d 0) (.v (.int .i64 n) (.call Unit (fun _ => False) (fun _ => .bool o) (fun _ H' => H' = H) (fun _ _ => .ff (.br (.v (.ptr d 0) (.v vp (.bs pn poff (.v hv (.call Unit (fun _ => False) (fun _ => .bool c) (fun _ H' => H' = H) (fun _ _ => .tt .stop)))))) (.ff .stop))))))))) = (rdAt H bn 0 = some (AV.int IntKind.i64 n) ∧ ((n == k) = true → true = true ∧ true = true ∧ rdAt H bd 0 = some (AV.ptr d 0) ∧ rdAt H d 1 = some vp ∧ SlAt vp pn poff k ∧ rdAt H pn (poff + Int.toNat k * 1) = some hv ∧ True ∧ (Ret P w0 32 [hv, AV.func 44 [] [AV.ptr bd 0, AV.ptr bn 0]] H (fun (x : Nat) ↦ False) fun (v : AV) (H' : AH) ↦ ∃ (x : Unit), v = AV.bool c ∧ H' = H) ∧ Pok H (fun (x : Nat) ↦ False) (stackPend below) ∧ ∀ (x : Unit) (H' : AH), H' = H → true = true ∧ Kr (AV.bool c) H') ∧ ((n == k) = false → rdAt H bd 0 = some (AV.ptr d 0) ∧ rdAt H bn 0 = some (AV.int IntKind.i64 n) ∧ True ∧ (Ret P w0 17 [AV.ptr d 0, AV.int IntKind.i64 n, AV.int IntKind.i64 k] H (fun (x : Nat) ↦ False) fun (v : AV) (H' : AH) ↦ ∃ (x : Unit), v = AV.bool o ∧ H' = H) ∧ Pok H (fun (x : Nat) ↦ False) (stackPend below) ∧ ∀ (x : Unit) (H' : AH), H' = H → false = false ∧ ((!o) = true → rdAt H' bd 0 = some (AV.ptr d 0) ∧ rdAt H' d 1 = some vp ∧ SlAt vp pn poff k ∧ rdAt H' pn (poff + Int.toNat k * 1) = some hv ∧ True ∧ (Ret P w0 32 [hv, AV.func 44 [] [AV.ptr bd 0, AV.ptr bn 0]] H' (fun (x : Nat) ↦ False) fun (v : AV) (H' : AH) ↦ ∃ (x : Unit), v = AV.bool c ∧ H' = H) ∧ Pok H' (fun (x : Nat) ↦ False) (stackPend below) ∧ ∀ (x : Unit) (H' : AH), H' = H → true = true ∧ Kr (AV.bool c) H') ∧ ((!o) = false → false = false ∧ Kr (AV.bool false) H'))) := by kernel_rfl

theorem ris0 (w0 : World) (K : AM → Prop) (Kr : AV → AH → Prop) (below : List AFr) (d len : Nat) (f : AV) (H : AH) : (trun P w0 41 K Kr 200 0 [] ⟨frOf P 41 [.ptr d 0, f], below, H⟩ (.call Unit (fun _ => False) (fun _ => .int .i64 len) (fun _ H' => H' = H) (fun _ _ => .stop))) = (True ∧ (Ret P w0 11 [AV.ptr d 0] H (fun (x : Nat) ↦ False) fun (v : AV) (H' : AH) ↦ ∃ (x : Unit), v = AV.int IntKind.i64 (↑len : Int) ∧ H' = H) ∧ Pok H (fun (x : Nat) ↦ False) (stackPend below) ∧ ∀ (x : Unit) (H' : AH), H' = H → K (AM.mk (w iL (tl [AV.ptr d 0, f, AV.tuple [], AV.tuple [], AV.nslice 0 0, AV.nslice 0 0, AV.tuple [], AV.ptr d 0, AV.int IntKind.i64 (↑len : Int), AV.int IntKind.i64 (0 : Int), AV.tuple [], AV.tuple [], AV.tuple [], AV.tuple [], AV.tuple [], AV.tuple [], AV.tuple [], AV.tuple [], AV.tuple [], AV.tuple [], AV.tuple []])) below H')) := by kernel_rfl

theorem risI (w0 : World) (K : AM → Prop) (Kr : AV → AH → Prop) (below : List AFr) (z : Nat → AV) (d len bd bn : Nat) (l v' : AV) (i : Int) (b : Bool) (ns : List Nat) (H H' : AH) : (trun P w0 41 K Kr 200 0 [] ⟨w iL (setL (tz 21 z) [(0, .ptr d 0), (1, .func 43 [] [.ptr bn 0, .ptr bd 0]), (5, l), (8, .int .i64 len), (9, .int .i64 i)]), below, H⟩ (.tt (.call Unit (fun _ => False) (fun _ => .bool b) (fun _ H' => H' = H) (fun _ _ => .br (.r (.val v', H', ns) .stop) .stop)))) = (decide (i < (↑len : Int)) = true ∧ True ∧ (Ret P w0 43 [AV.int IntKind.i64 i, AV.ptr bn 0, AV.ptr bd 0] H (fun (x : Nat) ↦ False) fun (v : AV) (H' : AH) ↦ ∃ (x : Unit), v = AV.bool b ∧ H' = H) ∧ Pok H (fun (x : Nat) ↦ False) (stackPend below) ∧ ∀ (x : Unit) (H'_1 : AH), H'_1 = H → (b = true → True ∧ aAppend P (AH.new H'_1 (AObj.row [AV.int IntKind.i64 i] 3 true (St.own none))) [34, 34] [l, AV.slice (AH.nx H'_1) 0 1 1] = some [(AN.val v', H', ns)] ∧ apartOk (AH.new H'_1 (AObj.row [AV.int IntKind.i64 i] 3 true (St.own none))) (stackPend below) ns = true ∧ K (AM.mk (w iL (tl [AV.ptr d 0, AV.func 43 [] [AV.ptr bn 0, AV.ptr bd 0], z 2, z 3, z 4, v', AV.int IntKind.i64 i, z 7, AV.int IntKind.i64 (↑len : Int), AV.int IntKind.i64 (IntKind.wrap IntKind.i64 (i + (1 : Int))), AV.bool true, AV.int IntKind.i64 i, AV.func 43 [] [AV.ptr bn 0, AV.ptr bd 0], AV.int IntKind.i64 i, AV.bool true, l, AV.int IntKind.i64 i, AV.slice (AH.nx H'_1) 0 1 1, v', AV.int IntKind.i64 (IntKind.wrap IntKind.i64 (i + (1 : Int))), z 20])) below H')) ∧ (b = false → K (AM.mk (w iL (tl [AV.ptr d 0, AV.func 43 [] [AV.ptr bn 0, AV.ptr bd 0], z 2, z 3, z 4, l, AV.int IntKind.i64 i, z 7, AV.int IntKind.i64 (↑len : Int), AV.int IntKind.i64 (IntKind.wrap IntKind.i64 (i + (1 : Int))), AV.bool true, AV.int IntKind.i64 i, AV.func 43 [] [AV.ptr bn 0, AV.ptr bd 0], AV.int IntKind.i64 i, AV.bool false, z 15, z 16, z 17, z 18, AV.int IntKind.i64 (IntKind.wrap IntKind.i64 (i + (1 : Int))), z 20])) below H'_1))) := by kernel_rfl

theorem risO (w0 : World) (K : AM → Prop) (Kr : AV → AH → Prop) (below : List AFr) (z : Nat → AV) (d len : Nat) (l f : AV) (i : Int) (H : AH) : (trun P w0 41 K Kr 200 0 [] ⟨w iL (setL (tz 21 z) [(0, .ptr d 0), (1, f), (5, l), (8, .int .i64 len), (9, .int .i64 i)]), below, H⟩ (.ff .stop)) = (decide (i < (↑len : Int)) = false ∧ Kr l H) := by kernel_rfl

theorem fro (w0 : World) (K : AM → Prop) (Kr : AV → AH → Prop) (below : List AFr) (d : Nat) (n : Int) (H : AH) (Q : AV → AH → Prop) : (trun P w0 22 K Kr 200 0 [] ⟨frOf P 22 [.ptr d 0, .int .i64 n], below, H⟩ (.v (.ptr d 0) (.call AV (fun _ => False) (fun v => v) Q (fun _ _ => .stop)))) = (True ∧ True ∧ rdAt (AH.new (AH.new H (AObj.row [AV.ptr d 0] 24 true (St.own none))) (AObj.row [AV.int IntKind.i64 n] 3 true (St.own none))) (AH.nx H) 0 = some (AV.ptr d 0) ∧ True ∧ (Ret P w0 41 [AV.ptr d 0, AV.func 43 [] [AV.ptr (AH.nx H + 1) 0, AV.ptr (AH.nx H) 0]] (AH.new (AH.new H (AObj.row [AV.ptr d 0] 24 true (St.own none))) (AObj.row [AV.int IntKind.i64 n] 3 true (St.own none))) (fun (x : Nat) ↦ False) fun (v : AV) (H' : AH) ↦ ∃ (x : AV), v = x ∧ Q x H') ∧ Pok (AH.new (AH.new H (AObj.row [AV.ptr d 0] 24 true (St.own none))) (AObj.row [AV.int IntKind.i64 n] 3 true (St.own none))) (fun (x : Nat) ↦ False) (stackPend below) ∧ ∀ (x : AV) (H' : AH), Q x H' → Kr x H') := by kernel_rfl

theorem ix0 (w0 : World) (K : AM → Prop) (Kr : AV → AH → Prop) (below : List AFr) (len : Nat) (v : AV) (x : Int) (H : AH) : (trun P w0 40 K Kr 200 0 [] ⟨frOf P 40 [v, .int .i64 x], below, H⟩ (.ln len .stop)) = (aLen P H 34 v = some (AV.int IntKind.i64 (↑len : Int), []) ∧ K (AM.mk (w jL (tl [v, AV.int IntKind.i64 x, AV.tuple [], AV.tuple [], AV.int IntKind.i64 (0 : Int), AV.tuple [], v, AV.int IntKind.i64 (↑len : Int), AV.int IntKind.i64 (0 : Int), AV.tuple [], AV.tuple [], AV.tuple [], AV.tuple [], AV.tuple [], AV.tuple [], AV.tuple [], AV.tuple [], AV.tuple [], AV.tuple []])) below H)) := by kernel_rfl

theorem ixI (w0 : World) (K : AM → Prop) (Kr : AV → AH → Prop) (below : List AFr) (z : Nat → AV) (len a off : Nat) (v : AV) (x i y : Int) (H : AH) : (trun P w0 40 K Kr 200 0 [] ⟨w jL (setL (tz 19 z) [(0, v), (1, .int .i64 x), (7, .int .i64 len), (8, .int .i64 i)]), below, H⟩ (.tt (.bs a off (.v (.int .i64 y) (.br .stop .stop))))) = (decide (i < (↑len : Int)) = true ∧ SlAt v a off i ∧ rdAt H a (off + Int.toNat i * 1) = some (AV.int IntKind.i64 y) ∧ ((x == y) = true → Kr (AV.int IntKind.i64 i) H) ∧ ((x == y) = false → K (AM.mk (w jL (tl [v, AV.int IntKind.i64 x, z 2, z 3, z 4, AV.int IntKind.i64 i, z 6, AV.int IntKind.i64 (↑len : Int), AV.int IntKind.i64 (IntKind.wrap IntKind.i64 (i + (1 : Int))), AV.bool true, AV.int IntKind.i64 i, AV.int IntKind.i64 x, v, AV.int IntKind.i64 i, AV.ptr a (off + Int.toNat i * 1), AV.int IntKind.i64 y, AV.bool false, z 17, AV.int IntKind.i64 (IntKind.wrap IntKind.i64 (i + (1 : Int)))])) below H))) := by kernel_rfl

theorem ixO (w0 : World) (K : AM → Prop) (Kr : AV → AH → Prop) (below : List AFr) (z : Nat → AV) (len : Nat) (v : AV) (x i : Int) (H : AH) : (trun P w0 40 K Kr 200 0 [] ⟨w jL (setL (tz 19 z) [(0, v), (1, .int .i64 x), (7, .int .i64 len), (8, .int .i64 i)]), below, H⟩ (.ff .stop)) = (decide (i < (↑len : Int)) = false ∧ Kr (AV.int IntKind.i64 (-1 : Int)) H) := by kernel_rfl

theorem cnt (w0 : World) (K : AM → Prop) (Kr : AV → AH → Prop) (below : List AFr) (v : AV) (x : Int) (H : AH) (Q : Int → Prop) : (trun P w0 20 K Kr 200 0 [] ⟨frOf P 20 [v, .int .i64 x], below, H⟩ (.call Int (fun _ => False) (fun i => .int .i64 i) (fun i H' => H' = H ∧ Q i) (fun _ _ => .stop))) = (True ∧ (Ret P w0 40 [v, AV.int IntKind.i64 x] H (fun (x : Nat) ↦ False) fun (v : AV) (H' : AH) ↦ ∃ (x : Int), v = AV.int IntKind.i64 x ∧ H' = H ∧ Q x) ∧ Pok H (fun (x : Nat) ↦ False) (stackPend below) ∧ ∀ (x : Int) (H' : AH), H' = H ∧ Q x → Kr (AV.bool (decide (x ≥ (0 : Int)))) H') := by kernel_rfl

section
variable {w0 : World} {H : AH} {S : Nat → Prop} {d : Nat} {g : List (List Int)} {order idom : List Int} {pl : Fn} {vg vp vo vi : AV} {pm : Nat} {hs : List AV}

def big : Nat := 4000000000000000000

/-- Who stands over whom, told by ov. -/
def OverOk (pl : Fn) (idom : List Int) (ov : Int → Int → Bool) : Prop := ∀ a b, (pl a).isSome = true → (pl b).isSome = true → 0 ≤ a ∧ OverR idom a b (ov a b)

def overB (pl : Fn) (ov : Int → Int → Bool) (a b : Int) : Bool := (pl a).isSome && (pl b).isSome && ov a b

theorem overB_ret (h : DomIs H S d g order pl idom vg vp vo vi pm hs) (hO : ∀ a, (pl a).isSome = true → 0 ≤ a) {ov : Int → Int → Bool} (hV : ∀ a b, (pl a).isSome = true → (pl b).isSome = true → OverR idom a b (ov a b)) (a b : Int) : Ret P w0 17 [.ptr d 0, .int .i64 a, .int .i64 b] H (fun _ => False) fun v H' => v = .bool (overB pl ov a b) ∧ H' = H :=
  over_ret h a b (hO a) (hV a b)

/-! ### Contains -/
theorem ix_loop {below : List AFr} {v : AV} {l : List Int} {x : Int} (hv : SlR H v (l.map kI)) (hlen : l.length ≤ big) :
    ∀ (r : List Int) (i : Nat), l.drop i = r → i ≤ l.length → ∀ z, Leads P w0 (RetK P 40 below fun y H' => ∃ k : Int, y = .int .i64 k ∧ H' = H ∧ (k ≥ 0 ↔ x ∈ r)) ⟨w jL (setL (tz 19 z) [(0, v), (1, .int .i64 x), (7, .int .i64 l.length), (8, .int .i64 i)]), below, H⟩
  | [], i, hdr, hi, z => Leads.go fine (ixO w0 _ _ below z l.length v x i H) rfl ⟨by simp [drop_end hdr hi], -1, rfl, rfl, by simp⟩
  | y :: r, i, hdr, hi, z => by
    obtain ⟨hlt, hc, hdr'⟩ := drop_step hdr
    obtain ⟨n, off, hb, q1, q2⟩ := hv.int hc
    refine Leads.go fine (ixI w0 _ _ below z l.length n off v x i y H) rfl ⟨by simpa using hlt, q1, by simpa using q2, fun h => ⟨i, rfl, rfl, ?_⟩, fun h => ?_⟩
    · have : x = y := by simpa using h
      simp [this]
    · have hne : x ≠ y := by simpa using h
      rw [wrap1 i (by unfold big at hlen; omega)]
      refine Leads.at [(0, v), (1, .int .i64 x), (7, .int .i64 l.length), (8, .int .i64 (i + 1 : Nat))] (by kernel_rfl) fun z => ?_
      have := ix_loop (x := x) hv hlen r (i + 1) hdr' hlt z (below := below)
      simpa [hne] using this

theorem contains_ret {v : AV} {l : List Int} (hv : SlR H v (l.map kI)) (hlen : l.length ≤ big) (x : Int) : Ret P w0 20 [v, .int .i64 x] H (fun _ => False) fun y H' => y = .bool (decide (x ∈ l)) ∧ H' = H := Ret.mk fun below hp => by
  have h40 : Ret P w0 40 [v, .int .i64 x] H (fun _ => False) fun y H' => ∃ k : Int, y = .int .i64 k ∧ H' = H ∧ (k ≥ 0 ↔ x ∈ l) := Ret.mk fun below hpk =>
    Leads.go fine (ix0 w0 _ _ below l.length v x H) (by kernel_rfl) ⟨by have := hv.aLen (P := P) et34.und; simpa using this, Leads.at [(0, v), (1, .int .i64 x), (7, .int .i64 l.length), (8, .int .i64 (0 : Nat))] (by kernel_rfl) (ix_loop hv hlen l 0 rfl (Nat.zero_le _))⟩
  refine Leads.go fine (cnt w0 _ _ below v x H fun k => k ≥ 0 ↔ x ∈ l) (by kernel_rfl) ⟨trivial, h40, hp, fun k H' hq => ⟨?_, hq.1⟩⟩
  exact congrArg AV.bool (decide_eq_decide.2 hq.2)

/-! ### The frontier -/
variable {bd bn : Nat} {n : Int} {ov : Int → Int → Bool}

theorem fr1_ret (h : DomIs H S d g order pl idom vg vp vo vi pm hs) (hO : ∀ a, (pl a).isSome = true → 0 ≤ a) (hV : ∀ a b, (pl a).isSome = true → (pl b).isSome = true → OverR idom a b (ov a b)) (hbd : rdAt H bd 0 = some (.ptr d 0)) (hbn : rdAt H bn 0 = some (.int .i64 n)) (p : Int) :
    Ret P w0 44 [.int .i64 p, .ptr bd 0, .ptr bn 0] H (fun _ => False) fun y H' => y = .bool (overB pl ov n p) ∧ H' = H := Ret.mk fun below hp =>
  Leads.go fine (fr1 w0 _ _ below bd bn d n p (overB pl ov n p) H) (by kernel_rfl) ⟨hbd, hbn, trivial, (overB_ret h hO hV n p).mono fun y H' q => ⟨(), q⟩, hp, fun _ H' he => ⟨rfl, he⟩⟩

theorem idyF_loop (h : DomIs H S d g order pl idom vg vp vo vi pm hs) (hO : ∀ a, (pl a).isSome = true → 0 ≤ a) (hV : ∀ a b, (pl a).isSome = true → (pl b).isSome = true → OverR idom a b (ov a b)) (hbd : rdAt H bd 0 = some (.ptr d 0)) (hbn : rdAt H bn 0 = some (.int .i64 n))
    {below : List AFr} (hp : Pok H (fun _ => False) (stackPend below)) {v : AV} {l : List Int} (hv : SlR H v (l.map kI)) (hlen : l.length ≤ big) :
    ∀ (r : List Int) (i : Nat), l.drop i = r → i ≤ l.length → ∀ z, Leads P w0 (RetK P 55 below fun y H' => ∃ k : Int, y = .int .i64 k ∧ H' = H ∧ (k ≥ 0 ↔ r.any (overB pl ov n) = true)) ⟨w xB (setL (tz 19 z) (xHead v (.func 44 [] [.ptr bd 0, .ptr bn 0]) l.length i)), below, H⟩
  | [], i, hdr, hi, z => Leads.go fine (idyO w0 _ _ below z l.length v _ i H) rfl ⟨by simp [drop_end hdr hi], -1, rfl, rfl, by simp⟩
  | t :: r, i, hdr, hi, z => by
    obtain ⟨hlt, hc, hdr'⟩ := drop_step hdr
    obtain ⟨a, off, hb, q1, q2⟩ := hv.int hc
    refine Leads.go fine (idyF w0 _ _ below z a off l.length bd bn v i t (overB pl ov n t) H) rfl ⟨by simpa using hlt, q1, by simpa using q2, trivial, (fr1_ret h hO hV hbd hbn t).mono fun y H' q => ⟨(), q⟩, hp, fun _ H' he => ⟨fun hb => ⟨i, rfl, he, ?_⟩, fun hb => ?_⟩⟩
    · simp [hb]
    · rw [he]
      rw [wrap1 i (by unfold big at hlen; omega)]
      refine Leads.at (xHead v (.func 44 [] [.ptr bd 0, .ptr bn 0]) l.length (i + 1 : Nat)) (by kernel_rfl) fun z => ?_
      have := idyF_loop h hO hV hbd hbn hp hv hlen r (i + 1) hdr' hlt z
      simpa [hb] using this

theorem cfF_ret (h : DomIs H S d g order pl idom vg vp vo vi pm hs) (hO : ∀ a, (pl a).isSome = true → 0 ≤ a) (hV : ∀ a b, (pl a).isSome = true → (pl b).isSome = true → OverR idom a b (ov a b)) (hbd : rdAt H bd 0 = some (.ptr d 0)) (hbn : rdAt H bn 0 = some (.int .i64 n))
    {v : AV} {l : List Int} (hv : SlR H v (l.map kI)) (hlen : l.length ≤ big) : Ret P w0 32 [v, .func 44 [] [.ptr bd 0, .ptr bn 0]] H (fun _ => False) fun y H' => y = .bool (l.any (overB pl ov n)) ∧ H' = H := Ret.mk fun below hp => by
  have h55 : Ret P w0 55 [v, .func 44 [] [.ptr bd 0, .ptr bn 0]] H (fun _ => False) fun y H' => ∃ k : Int, y = .int .i64 k ∧ H' = H ∧ (k ≥ 0 ↔ l.any (overB pl ov n) = true) := Ret.mk fun below hpk =>
    Leads.go fine (idy0 w0 _ _ below l.length v _ H) (by kernel_rfl) ⟨by simpa using hv.aLen (P := P) et34.und, Leads.at (xHead v (.func 44 [] [.ptr bd 0, .ptr bn 0]) l.length (0 : Nat)) (by kernel_rfl) (idyF_loop h hO hV hbd hbn hpk hv hlen l 0 rfl (Nat.zero_le _))⟩
  refine Leads.go fine (cfB w0 _ _ below v _ H fun k => k ≥ 0 ↔ l.any (overB pl ov n) = true) (by kernel_rfl) ⟨trivial, h55, hp, fun k H' hq => ⟨?_, hq.1⟩⟩
  refine congrArg AV.bool ?_
  cases hx : l.any (overB pl ov n) with
  | true => simpa using hq.2.2 hx
  | false =>
    have : ¬ k ≥ 0 := fun h => by rw [hq.2.1 h] at hx; cases hx
    simpa using this

/-- Whether a reign ends at a node. -/
def frontB (pl : Fn) (ov : Int → Int → Bool) (g : List (List Int)) (order : List Int) (n k : Int) : Bool := (n == k || !overB pl ov n k) && ((predsAll g order (List.replicate g.length [])).getD k.toNat []).any (overB pl ov n)

theorem fr2_ret (h : DomIs H S d g order pl idom vg vp vo vi pm hs) (hO : ∀ a, (pl a).isSome = true → 0 ≤ a) (hV : ∀ a b, (pl a).isSome = true → (pl b).isSome = true → OverR idom a b (ov a b)) (hbd : rdAt H bd 0 = some (.ptr d 0)) (hbn : rdAt H bn 0 = some (.int .i64 n))
    (hpl : ∀ l ∈ predsAll g order (List.replicate g.length []), l.length ≤ big) {k : Nat} (hk : k < g.length) : Ret P w0 43 [.int .i64 k, .ptr bn 0, .ptr bd 0] H (fun _ => False) fun y H' => y = .bool (frontB pl ov g order n k) ∧ H' = H := Ret.mk fun below hp => by
  obtain ⟨ps, hps⟩ := h.pre
  have hkl : k < (predsAll g order (List.replicate g.length [])).length := by rw [predsAll_len]; simpa using hk
  have hgl : (predsAll g order (List.replicate g.length []))[k]? = some (predsAll g order (List.replicate g.length []))[k] := List.getElem?_eq_getElem hkl
  have hgd : (predsAll g order (List.replicate g.length [])).getD ((k : Int).toNat) [] = (predsAll g order (List.replicate g.length []))[k] := by rw [Int.toNat_natCast, List.getD_eq_getElem?_getD, hgl]; rfl
  obtain ⟨pn, poff, hv, p1, p2, p3, p4, p5⟩ := hps.at hgl
  have hcf := (cfF_ret (w0 := w0) h hO hV hbd hbn p4 (hpl _ (List.getElem_mem hkl))).mono (R' := fun y H' => ∃ _ : Unit, y = .bool ((predsAll g order (List.replicate g.length []))[k].any (overB pl ov n)) ∧ H' = H) fun y H' q => ⟨(), q⟩
  have p2' : rdAt H pn (poff + Int.toNat (k : Int) * 1) = some hv := by simpa using p2
  unfold frontB
  rw [hgd]
  refine Leads.go fine (fr2 w0 _ _ below bd bn d pn poff n k (overB pl ov n k) ((predsAll g order (List.replicate g.length []))[k].any (overB pl ov n)) vp hv H) (by kernel_rfl) ⟨hbn, fun hn => ⟨rfl, rfl, hbd, h.rd.2.1, p1, p2', trivial, hcf, hp, fun _ H' he => ⟨rfl, ?_, he⟩⟩,
    fun hn => ⟨hbd, hbn, trivial, (overB_ret h hO hV n k).mono fun y H' q => ⟨(), q⟩, hp, fun _ H' he => ?_⟩⟩
  · rw [hn]; simp
  · subst he
    refine ⟨rfl, fun ho => ⟨hbd, h.rd.2.1, p1, p2', trivial, hcf, hp, fun _ H' he => ⟨rfl, ?_, he⟩⟩, fun ho => ⟨rfl, ?_, rfl⟩⟩
    · rw [hn, ho]; simp
    · rw [hn, ho]; simp

/-- What rising gives: those of the first i of which f is so. -/
def risL (f : Int → Bool) : Nat → List Int
  | 0 => []
  | i + 1 => risL f i ++ if f (i : Int) = true then [(i : Int)] else []

theorem risL_len (f : Int → Bool) : ∀ i, (risL f i).length ≤ i
  | 0 => Nat.le_refl _
  | i + 1 => by
    have := risL_len f i
    unfold risL
    split <;> simp <;> omega

def iHd (d bd bn len : Nat) (l : AV) (i : Int) : List (Nat × AV) := [(0, .ptr d 0), (1, .func 43 [] [.ptr bn 0, .ptr bd 0]), (5, l), (8, .int .i64 len), (9, .int .i64 i)]

theorem ris_loop {H0 : AH} (hw0 : Wf H0) {below : List AFr} (hp : Pok H0 (fun _ => False) (stackPend below)) (hg1 : g.length ≤ 1024) {f : Int → Bool} (hret : ∀ (Hc : AH) (k : Nat), (∀ m, m < H0.nx → Hc.get m = H0.get m) → H0.nx ≤ Hc.nx → k < g.length → Ret P w0 43 [.int .i64 k, .ptr bn 0, .ptr bd 0] Hc (fun _ => False) fun y H' => y = .bool (f k) ∧ H' = Hc) :
    ∀ (k i : Nat) (Hc : AH) (l : AV), i + k = g.length → (∀ m, m < H0.nx → Hc.get m = H0.get m) → H0.nx ≤ Hc.nx → Lst Hc l 3 ((risL f i).map kI) → (∀ m, LN Hc l m → H0.nx ≤ m) →
      ∀ z, Leads P w0 (RetK P 41 below (OrdQ H0 (risL f g.length))) ⟨w iL (setL (tz 21 z) (iHd d bd bn g.length l i)), below, Hc⟩ := by
  intro k
  induction k with
  | zero =>
    intro i Hc l hk old nx hl hln z
    have : i = g.length := by omega
    subst this
    exact Leads.go fine (risO w0 _ _ below z d g.length l _ (g.length : Nat) Hc) rfl ⟨by simp, hl.slr, fun n off hb => hln n ⟨n, off, hb, .inl rfl⟩, nx, fun m hm _ => old m hm⟩
  | succ k ih =>
    intro i Hc l hk old nx hl hln z
    refine Leads.wf fun hw => ?_
    let Hb := Hc.new (.row [.int .i64 (i : Int)] 3 true (.own none))
    have hbget : ∀ m, m < Hc.nx → Hb.get m = Hc.get m := fun m hm => get_lt hm
    have hl0 : Lst Hb l 3 ((risL f i).map kI) := hl.congr fun m off hb => hbget m (hl.lt hw ⟨m, off, hb, .inl rfl⟩)
    have hlnb : ∀ m, LN Hb l m ↔ LN Hc l m := LN_same fun m off hb => hbget m (hl.lt hw ⟨m, off, hb, .inl rfl⟩)
    have hrl := risL_len f i
    obtain ⟨v', H', ns, h1, h2, h3, h4, h5⟩ := hl0.append et34 (t2 := 34) (by kernel_rfl) et34.made (hw.new _) (x := .slice Hc.nx 0 1 1) (new := [.int .i64 (i : Int)]) rfl
      (by show aFirst (Hc.new _) 1 1 (.slice Hc.nx 0 1 1) = _; simp [aFirst, get_new]) rfl (by simp; omega)
    have hnb : Hc.nx + 1 ≤ H'.nx := h3.nx
    have hpc : Pok Hc (fun _ => False) (stackPend below) := (pok_new hw0 hp old).weak fun m hm => hm.elim
    refine Leads.go fine (risI w0 _ _ below z d g.length bd bn l v' i (f i) ns Hc H') rfl ⟨by simp; omega, trivial, (hret Hc i old nx (by omega)).mono fun y H' q => ⟨(), q⟩, hpc, fun _ H2 he => ?_⟩
    subst he
    rw [wrap1 i (by omega)]
    refine ⟨fun hb => ⟨trivial, h1, h5 (fun m => H0.nx ≤ m) _ (pok_new hw0 hp fun m hm => (hbget m (by omega)).trans (old m hm)) fun m hm => .inl (hln m ((hlnb m).1 hm)), ?_⟩, fun hb => ?_⟩
    · refine Leads.at (iHd d bd bn g.length v' (i + 1 : Nat)) (by kernel_rfl) (ih (i + 1) H' v' (by omega) (fun m hm => ?_) (by omega) ?_ fun m hm => ?_)
      · rw [h3.get m (by show m < H2.nx + 1; omega) (fun hx => by have := hln m ((hlnb m).1 hx); omega), hbget m (by omega)]
        exact old m hm
      · have : risL f (i + 1) = risL f i ++ [(i : Int)] := by rw [risL, if_pos hb]
        rw [this, List.map_append]
        exact h2
      · rcases h4 m hm with h' | h'
        · exact hln m ((hlnb m).1 h')
        · have : H2.nx + 1 ≤ m := h'
          omega
    · refine Leads.at (iHd d bd bn g.length l (i + 1 : Nat)) (by kernel_rfl) (ih (i + 1) H2 l (by omega) old nx ?_ hln)
      have : risL f (i + 1) = risL f i := by rw [risL, if_neg (by rw [hb]; simp), List.append_nil]
      rw [this]
      exact hl

/-- THE CONTRACT OF Frontier. -/
theorem front_ret (h : DomIs H S d g order pl idom vg vp vo vi pm hs) (hS : ∀ m, S m → m < H.nx) (hO : ∀ a, (pl a).isSome = true → 0 ≤ a) (hV : ∀ a b, (pl a).isSome = true → (pl b).isSome = true → OverR idom a b (ov a b)) (hg1 : g.length ≤ 1024)
    (hpl : ∀ l ∈ predsAll g order (List.replicate g.length []), l.length ≤ big) (n : Int) : Ret P w0 22 [.ptr d 0, .int .i64 n] H (fun _ => False) (OrdQ H (risL (frontB pl ov g order n) g.length)) := Ret.mk fun below hp => by
  refine Leads.wf fun hw => ?_
  let HA := H.new (.row [.ptr d 0] 24 true (.own none))
  let HB := HA.new (.row [.int .i64 n] 3 true (.own none))
  have hAg : ∀ m, m < H.nx → HB.get m = H.get m := fun m hm => by
    show (HA.new _).get m = _
    rw [get_new, if_neg (by show m ≠ H.nx + 1; omega)]
    exact get_lt hm
  have hwB : Wf HB := (hw.new _).new _
  have hpB : Pok HB (fun _ => False) (stackPend below) := (pok_new hw hp hAg).weak fun m hm => hm.elim
  have hbd : HB.get H.nx = some (.row [.ptr d 0] 24 true (.own none)) := by rw [show HB.get H.nx = HA.get H.nx from get_lt (Nat.lt_succ_self _)]; exact get_at rfl
  have hbn : HB.get (H.nx + 1) = some (.row [.int .i64 n] 3 true (.own none)) := get_at rfl
  have hnB : HB.nx = H.nx + 2 := rfl
  have h41 : Ret P w0 41 [.ptr d 0, .func 43 [] [.ptr (H.nx + 1) 0, .ptr H.nx 0]] HB (fun _ => False) (OrdQ HB (risL (frontB pl ov g order n) g.length)) := Ret.mk fun below hp2 => by
    have hB : DomIs HB S d g order pl idom vg vp vo vi pm hs := h.congr fun m hm => hAg m (hS m hm)
    refine Leads.go fine (ris0 w0 _ _ below d g.length _ HB) (by kernel_rfl) ⟨trivial, (len_ret hB).mono fun y H' q => ⟨(), q⟩, hp2, fun _ H' he => ?_⟩
    subst he
    refine Leads.at (iHd d H.nx (H.nx + 1) g.length (.nslice 0 0) (0 : Nat)) (by kernel_rfl) (ris_loop hwB hp2 hg1 (fun Hc k old nx hk => ?_) g.length 0 HB (.nslice 0 0) (by omega) (fun _ _ => rfl) (Nat.le_refl _) (Lst.nil _ 3) fun m hm => absurd hm (LN_nil _ _))
    refine fr2_ret (hB.congr fun m hm => old m (by have := hS m hm; omega)) hO hV ?_ ?_ hpl hk
    · rw [rdAt_congr (old H.nx (by omega)), rdAt_row hbd]; rfl
    · rw [rdAt_congr (old (H.nx + 1) (by omega)), rdAt_row hbn]; rfl
  refine Leads.go fine (fro w0 _ _ below d n H (OrdQ HB (risL (frontB pl ov g order n) g.length))) (by kernel_rfl) ⟨trivial, trivial, by rw [rdAt_row hbd]; rfl, trivial, h41.mono fun y H' q => ⟨y, rfl, q⟩, hpB, fun x H' q => ?_⟩
  obtain ⟨q1, q2, q3⟩ := q
  exact ⟨q1, fun n off hb => by have := q2 n off hb; omega, by have := q3.nx; omega, fun m hm _ => (q3.get m (by omega) (fun h => h)).trans (hAg m hm)⟩
end
end Go.Dm
