/- The engine and the contracts, part 8. No condition beyond the hypotheses of each theorem. -/
import Derived.Test.YtkcdnpbcbmcgkaaG07
/- dom.solve. -/
set_option linter.unusedVariables false
namespace Go.Dm
open Go Go.Sx Go.Sy Go.RowKit Go.Proofs.DomP

noncomputable def sM : AFr := hd P 37 [.r, .l, .r, .i]

noncomputable def sN : AFr := hd P 37 [.r, .l, .r, .i, .i, .r, .i, .r, .r, .i]

noncomputable def sP : AFr := hd P 37 [.r, .l, .r, .i, .i, .r, .i, .r, .r, .i, .i, .r, .r, .l, .i, .r, .r, .l, .r, .i]

noncomputable def sR : AFr := hd P 37 [.r, .r, .r, .i]

theorem sol0 (w0 : World) (K : AM → Prop) (Kr : AV → AH → Prop) (below : List AFr) (d : Nat) (H : AH) : (trun P w0 37 K Kr 200 0 [] ⟨frOf P 37 [.ptr d 0], below, H⟩ .stop) = (True ∧ MsOk P (AH.new H (AObj.map [] 0)) (AH.nx H) 3 (AV.int IntKind.i64 (0 : Int)) ∧ apartOk (AH.new H (AObj.map [] 0)) (stackPend below) [AH.nx H] = true ∧ K (AM.mk (w sM (tl [AV.ptr d 0, AV.tuple [], AV.map (AH.nx H), AV.bool true, AV.tuple [], AV.tuple [], AV.tuple [], AV.tuple [], AV.tuple [], AV.tuple [], AV.tuple [], AV.tuple [], AV.tuple [], AV.tuple [], AV.tuple [], AV.map (AH.nx H), AV.map (AH.nx H), AV.tuple [], AV.tuple [], AV.tuple [], AV.tuple [], AV.tuple [], AV.tuple [], AV.tuple [], AV.tuple [], AV.tuple [], AV.tuple [], AV.tuple [], AV.tuple [], AV.tuple [], AV.tuple [], AV.tuple [], AV.tuple [], AV.tuple [], AV.tuple [], AV.tuple [], AV.tuple [], AV.tuple [], AV.tuple [], AV.tuple [], AV.tuple [], AV.tuple [], AV.tuple [], AV.tuple [], AV.tuple [], AV.tuple [], AV.tuple [], AV.tuple [], AV.tuple [], AV.tuple [], AV.tuple [], AV.tuple [], AV.tuple [], AV.tuple [], AV.tuple [], AV.tuple [], AV.tuple [], AV.tuple [], AV.tuple [], AV.tuple [], AV.tuple [], AV.tuple [], AV.tuple [], AV.tuple [], AV.tuple [], AV.tuple [], AV.tuple [], AV.tuple [], AV.tuple [], AV.tuple [], AV.tuple [], AV.tuple [], AV.tuple [], AV.tuple [], AV.tuple [], AV.tuple [], AV.tuple [], AV.tuple [], AV.tuple [], AV.tuple [], AV.tuple [], AV.tuple [], AV.tuple [], AV.tuple [], AV.tuple [], AV.tuple [], AV.tuple [], AV.tuple [], AV.tuple [], AV.tuple []])) below (mset P (AH.new H (AObj.map [] 0)) (AH.nx H) 3 (AV.int IntKind.i64 (0 : Int)) (AV.int IntKind.i64 (0 : Int))))) := by kernel_rfl

theorem solM (w0 : World) (K : AM → Prop) (Kr : AV → AH → Prop) (below : List AFr) (z : Nat → AV) (d u len : Nat) (vo vt : AV) (H : AH) : (trun P w0 37 K Kr 200 0 [] ⟨w sM (setL (tz 90 z) [(0, .ptr d 0), (2, .map u), (3, .bool true)]), below, H⟩ (.tt (.v vo (.v vt (.ln len .stop))))) = (true = true ∧ rdAt H d 2 = some vo ∧ aSlice P H 34 vo (some (AV.int IntKind.i64 (1 : Int))) none none = some vt ∧ aLen P H 34 vt = some (AV.int IntKind.i64 (↑len : Int), []) ∧ K (AM.mk (w sN (tl [AV.ptr d 0, z 1, AV.map u, AV.bool false, z 4, z 5, z 6, z 7, z 8, z 9, z 10, z 11, z 12, z 13, z 14, z 15, z 16, AV.bool true, AV.ptr d 0, AV.ptr d 0, AV.ptr d 2, vo, vt, AV.int IntKind.i64 (↑len : Int), AV.int IntKind.i64 (0 : Int), z 25, z 26, z 27, z 28, z 29, z 30, z 31, z 32, z 33, z 34, z 35, z 36, z 37, z 38, z 39, z 40, z 41, z 42, z 43, z 44, z 45, z 46, z 47, z 48, z 49, z 50, z 51, z 52, z 53, z 54, z 55, z 56, z 57, z 58, z 59, z 60, z 61, z 62, z 63, z 64, z 65, z 66, z 67, z 68, z 69, z 70, z 71, z 72, z 73, z 74, z 75, z 76, z 77, z 78, z 79, z 80, z 81, z 82, z 83, z 84, z 85, z 86, z 87, z 88, z 89])) below H)) := by kernel_rfl

theorem solMo (w0 : World) (K : AM → Prop) (Kr : AV → AH → Prop) (below : List AFr) (z : Nat → AV) (d u : Nat) (H : AH) : (trun P w0 37 K Kr 200 0 [] ⟨w sM (setL (tz 90 z) [(0, .ptr d 0), (2, .map u), (3, .bool false)]), below, H⟩ (.ff .stop)) = (false = false ∧ IsMap H u ∧ True ∧ K (AM.mk (w sR (tl [AV.ptr d 0, z 1, AV.map u, AV.bool false, z 4, z 5, z 6, z 7, z 8, z 9, z 10, z 11, z 12, z 13, z 14, z 15, z 16, AV.bool false, z 18, z 19, z 20, z 21, z 22, z 23, z 24, z 25, z 26, z 27, z 28, z 29, z 30, z 31, z 32, z 33, z 34, z 35, z 36, z 37, z 38, z 39, z 40, z 41, z 42, z 43, z 44, z 45, z 46, z 47, z 48, z 49, z 50, z 51, z 52, z 53, z 54, z 55, z 56, z 57, z 58, z 59, z 60, z 61, z 62, z 63, z 64, z 65, z 66, z 67, z 68, z 69, z 70, z 71, z 72, z 73, AV.map u, AV.ptr (AH.nx H) 0, z 76, z 77, z 78, z 79, z 80, z 81, z 82, z 83, z 84, z 85, z 86, z 87, z 88, z 89])) below (AH.new H (AObj.iter (some u) (mapClock H u) [] (mapClock H u))))) := by kernel_rfl

theorem solN (w0 : World) (K : AM → Prop) (Kr : AV → AH → Prop) (below : List AFr) (z : Nat → AV) (d u n off len pn np pl : Nat) (vt ph : AV) (more : Bool) (i x : Int) (H : AH) : (trun P w0 37 K Kr 200 0 [] ⟨w sN (setL (tz 90 z) [(0, .ptr d 0), (2, .map u), (3, .bool more), (22, vt), (23, .int .i64 len), (24, .int .i64 i)]), below, H⟩ (.tt (.bs n off (.v (.int .i64 x) (.v (.slice pn 0 np np) (.v ph (.ln pl .stop))))))) = (decide (i < (↑len : Int)) = true ∧ SlAt vt n off i ∧ rdAt H n (off + Int.toNat i * 1) = some (AV.int IntKind.i64 x) ∧ rdAt H d 1 = some (AV.slice pn 0 np np) ∧ ((0 : Int) ≤ x ∧ x < (↑np : Int)) ∧ rdAt H pn (0 + Int.toNat x * 1) = some ph ∧ aLen P H 34 ph = some (AV.int IntKind.i64 (↑pl : Int), []) ∧ K (AM.mk (w sP (tl [AV.ptr d 0, z 1, AV.map u, AV.bool more, z 4, AV.int IntKind.i64 x, AV.int IntKind.i64 (-1 : Int), z 7, z 8, z 9, z 10, z 11, z 12, z 13, z 14, z 15, z 16, z 17, z 18, z 19, z 20, z 21, vt, AV.int IntKind.i64 (↑len : Int), AV.int IntKind.i64 i, AV.bool true, AV.ptr n (off + Int.toNat i * 1), AV.int IntKind.i64 x, AV.ptr d 0, AV.ptr d 0, AV.ptr d 1, AV.slice pn 0 np np, AV.int IntKind.i64 x, AV.ptr pn (0 + Int.toNat x * 1), ph, AV.int IntKind.i64 (↑pl : Int), AV.int IntKind.i64 (0 : Int), z 37, z 38, z 39, z 40, z 41, z 42, z 43, z 44, z 45, z 46, z 47, z 48, z 49, z 50, z 51, z 52, z 53, z 54, z 55, z 56, z 57, z 58, z 59, z 60, z 61, z 62, z 63, z 64, z 65, z 66, z 67, z 68, z 69, z 70, z 71, z 72, z 73, z 74, z 75, z 76, z 77, z 78, z 79, z 80, z 81, z 82, z 83, z 84, z 85, z 86, z 87, z 88, z 89])) below H)) := by kernel_rfl

theorem solNo (w0 : World) (K : AM → Prop) (Kr : AV → AH → Prop) (below : List AFr) (z : Nat → AV) (d u len : Nat) (vt : AV) (more : Bool) (i : Int) (H : AH) : (trun P w0 37 K Kr 200 0 [] ⟨w sN (setL (tz 90 z) [(0, .ptr d 0), (2, .map u), (3, .bool more), (22, vt), (23, .int .i64 len), (24, .int .i64 i)]), below, H⟩ (.ff .stop)) = (decide (i < (↑len : Int)) = false ∧ K (AM.mk (w sM (tl [AV.ptr d 0, z 1, AV.map u, AV.bool more, z 4, z 5, z 6, z 7, z 8, z 9, z 10, z 11, z 12, z 13, z 14, z 15, z 16, z 17, z 18, z 19, z 20, z 21, vt, AV.int IntKind.i64 (↑len : Int), AV.int IntKind.i64 i, AV.bool false, z 26, z 27, z 28, z 29, z 30, z 31, z 32, z 33, z 34, z 35, z 36, z 37, z 38, z 39, z 40, z 41, z 42, z 43, z 44, z 45, z 46, z 47, z 48, z 49, z 50, z 51, z 52, z 53, z 54, z 55, z 56, z 57, z 58, z 59, z 60, z 61, z 62, z 63, z 64, z 65, z 66, z 67, z 68, z 69, z 70, z 71, z 72, z 73, z 74, z 75, z 76, z 77, z 78, z 79, z 80, z 81, z 82, z 83, z 84, z 85, z 86, z 87, z 88, z 89])) below H)) := by kernel_rfl

theorem solSkip (w0 : World) (K : AM → Prop) (Kr : AV → AH → Prop) (below : List AFr) (z : Nat → AV) (d u n off len pl : Nat) (vt ph : AV) (more : Bool) (i x b j p : Int) (H : AH) : (trun P w0 37 K Kr 200 0 [] ⟨w sP (setL (tz 90 z) [(0, .ptr d 0), (2, .map u), (3, .bool more), (5, .int .i64 x), (6, .int .i64 b), (22, vt), (23, .int .i64 len), (24, .int .i64 i), (34, ph), (35, .int .i64 pl), (36, .int .i64 j)]), below, H⟩ (.tt (.bs n off (.v (.int .i64 p) (.ff (.tt .stop)))))) = (decide (j < (↑pl : Int)) = true ∧ SlAt ph n off j ∧ rdAt H n (off + Int.toNat j * 1) = some (AV.int IntKind.i64 p) ∧ Miss P H u 3 (AV.int IntKind.i64 p) ∧ (!false) = true ∧ K (AM.mk (w sP (tl [AV.ptr d 0, z 1, AV.map u, AV.bool more, z 4, AV.int IntKind.i64 x, AV.int IntKind.i64 b, z 7, AV.int IntKind.i64 p, AV.int IntKind.i64 (0 : Int), AV.bool false, z 11, z 12, z 13, z 14, z 15, z 16, z 17, z 18, z 19, z 20, z 21, vt, AV.int IntKind.i64 (↑len : Int), AV.int IntKind.i64 i, z 25, z 26, z 27, z 28, z 29, z 30, z 31, z 32, z 33, ph, AV.int IntKind.i64 (↑pl : Int), AV.int IntKind.i64 (IntKind.wrap IntKind.i64 (j + (1 : Int))), AV.bool true, AV.ptr n (off + Int.toNat j * 1), AV.int IntKind.i64 p, AV.tuple [AV.int IntKind.i64 (0 : Int), AV.bool false], AV.map u, AV.int IntKind.i64 p, AV.tuple [AV.int IntKind.i64 (0 : Int), AV.bool false], AV.int IntKind.i64 (0 : Int), AV.bool false, AV.bool false, AV.bool true, z 48, z 49, z 50, z 51, z 52, z 53, z 54, z 55, AV.int IntKind.i64 (IntKind.wrap IntKind.i64 (j + (1 : Int))), z 57, z 58, z 59, z 60, z 61, z 62, z 63, z 64, z 65, z 66, z 67, z 68, z 69, z 70, z 71, z 72, z 73, z 74, z 75, z 76, z 77, z 78, z 79, z 80, z 81, z 82, z 83, z 84, z 85, z 86, z 87, z 88, z 89])) below H)) := by kernel_rfl

theorem solFirst (w0 : World) (K : AM → Prop) (Kr : AV → AH → Prop) (below : List AFr) (z : Nat → AV) (d u n off len pl : Nat) (vt ph : AV) (more : Bool) (i x b j p q : Int) (H : AH) : (trun P w0 37 K Kr 200 0 [] ⟨w sP (setL (tz 90 z) [(0, .ptr d 0), (2, .map u), (3, .bool more), (5, .int .i64 x), (6, .int .i64 b), (22, vt), (23, .int .i64 len), (24, .int .i64 i), (34, ph), (35, .int .i64 pl), (36, .int .i64 j)]), below, H⟩ (.tt (.bs n off (.v (.int .i64 p) (.v (.int .i64 q) (.ff (.tt .stop))))))) = (decide (j < (↑pl : Int)) = true ∧ SlAt ph n off j ∧ rdAt H n (off + Int.toNat j * 1) = some (AV.int IntKind.i64 p) ∧ Hit P H u 3 (AV.int IntKind.i64 p) (AV.int IntKind.i64 q) ∧ (!true) = false ∧ decide (b < (0 : Int)) = true ∧ K (AM.mk (w sP (tl [AV.ptr d 0, z 1, AV.map u, AV.bool more, z 4, AV.int IntKind.i64 x, AV.int IntKind.i64 p, z 7, AV.int IntKind.i64 p, AV.int IntKind.i64 q, AV.bool true, z 11, z 12, z 13, z 14, z 15, z 16, z 17, z 18, z 19, z 20, z 21, vt, AV.int IntKind.i64 (↑len : Int), AV.int IntKind.i64 i, z 25, z 26, z 27, z 28, z 29, z 30, z 31, z 32, z 33, ph, AV.int IntKind.i64 (↑pl : Int), AV.int IntKind.i64 (IntKind.wrap IntKind.i64 (j + (1 : Int))), AV.bool true, AV.ptr n (off + Int.toNat j * 1), AV.int IntKind.i64 p, AV.tuple [AV.int IntKind.i64 q, AV.bool true], AV.map u, AV.int IntKind.i64 p, AV.tuple [AV.int IntKind.i64 q, AV.bool true], AV.int IntKind.i64 q, AV.bool true, AV.bool true, AV.bool false, AV.int IntKind.i64 b, AV.bool true, AV.int IntKind.i64 p, z 51, z 52, z 53, z 54, z 55, AV.int IntKind.i64 (IntKind.wrap IntKind.i64 (j + (1 : Int))), z 57, z 58, z 59, z 60, z 61, z 62, z 63, z 64, z 65, z 66, z 67, z 68, z 69, z 70, z 71, z 72, z 73, z 74, z 75, z 76, z 77, z 78, z 79, z 80, z 81, z 82, z 83, z 84, z 85, z 86, z 87, z 88, z 89])) below H)) := by kernel_rfl

theorem solMeet (w0 : World) (K : AM → Prop) (Kr : AV → AH → Prop) (below : List AFr) (z : Nat → AV) (d u n off len pl : Nat) (vt ph : AV) (more : Bool) (i x b j p q m : Int) (H : AH) : (trun P w0 37 K Kr 200 0 [] ⟨w sP (setL (tz 90 z) [(0, .ptr d 0), (2, .map u), (3, .bool more), (5, .int .i64 x), (6, .int .i64 b), (22, vt), (23, .int .i64 len), (24, .int .i64 i), (34, ph), (35, .int .i64 pl), (36, .int .i64 j)]), below, H⟩ (.tt (.bs n off (.v (.int .i64 p) (.v (.int .i64 q) (.ff (.ff (.call Unit (fun _ => False) (fun _ => .int .i64 m) (fun _ H' => H' = H) (fun _ _ => .stop))))))))) = (decide (j < (↑pl : Int)) = true ∧ SlAt ph n off j ∧ rdAt H n (off + Int.toNat j * 1) = some (AV.int IntKind.i64 p) ∧ Hit P H u 3 (AV.int IntKind.i64 p) (AV.int IntKind.i64 q) ∧ (!true) = false ∧ decide (b < (0 : Int)) = false ∧ True ∧ (Ret P w0 59 [AV.ptr d 0, AV.map u, AV.int IntKind.i64 b, AV.int IntKind.i64 p] H (fun (x : Nat) ↦ False) fun (v : AV) (H' : AH) ↦ ∃ (x : Unit), v = AV.int IntKind.i64 m ∧ H' = H) ∧ Pok H (fun (x : Nat) ↦ False) (stackPend below) ∧ ∀ (x_1 : Unit) (H' : AH), H' = H → K (AM.mk (w sP (tl [AV.ptr d 0, z 1, AV.map u, AV.bool more, z 4, AV.int IntKind.i64 x, AV.int IntKind.i64 m, z 7, AV.int IntKind.i64 p, AV.int IntKind.i64 q, AV.bool true, z 11, z 12, z 13, z 14, z 15, z 16, z 17, z 18, z 19, z 20, z 21, vt, AV.int IntKind.i64 (↑len : Int), AV.int IntKind.i64 i, z 25, z 26, z 27, z 28, z 29, z 30, z 31, z 32, z 33, ph, AV.int IntKind.i64 (↑pl : Int), AV.int IntKind.i64 (IntKind.wrap IntKind.i64 (j + (1 : Int))), AV.bool true, AV.ptr n (off + Int.toNat j * 1), AV.int IntKind.i64 p, AV.tuple [AV.int IntKind.i64 q, AV.bool true], AV.map u, AV.int IntKind.i64 p, AV.tuple [AV.int IntKind.i64 q, AV.bool true], AV.int IntKind.i64 q, AV.bool true, AV.bool true, AV.bool false, AV.int IntKind.i64 b, AV.bool false, z 50, AV.ptr d 0, AV.map u, AV.int IntKind.i64 b, AV.int IntKind.i64 p, AV.int IntKind.i64 m, AV.int IntKind.i64 (IntKind.wrap IntKind.i64 (j + (1 : Int))), z 57, z 58, z 59, z 60, z 61, z 62, z 63, z 64, z 65, z 66, z 67, z 68, z 69, z 70, z 71, z 72, z 73, z 74, z 75, z 76, z 77, z 78, z 79, z 80, z 81, z 82, z 83, z 84, z 85, z 86, z 87, z 88, z 89])) below H')) := by kernel_rfl

theorem solUpd0 (w0 : World) (K : AM → Prop) (Kr : AV → AH → Prop) (below : List AFr) (z : Nat → AV) (d u len pl : Nat) (vt ph : AV) (more : Bool) (i x b j : Int) (H : AH) : (trun P w0 37 K Kr 200 0 [] ⟨w sP (setL (tz 90 z) [(0, .ptr d 0), (2, .map u), (3, .bool more), (5, .int .i64 x), (6, .int .i64 b), (22, vt), (23, .int .i64 len), (24, .int .i64 i), (34, ph), (35, .int .i64 pl), (36, .int .i64 j)]), below, H⟩ (.ff (.ff (.tt (.tt (.tt .stop)))))) = (decide (j < (↑pl : Int)) = false ∧ Miss P H u 3 (AV.int IntKind.i64 x) ∧ (!false) = true ∧ true = true ∧ true = true ∧ MsOk P H u 3 (AV.int IntKind.i64 x) ∧ apartOk H (stackPend below) [u] = true ∧ K (AM.mk (w sN (tl [AV.ptr d 0, z 1, AV.map u, AV.bool true, z 4, AV.int IntKind.i64 x, AV.int IntKind.i64 b, z 7, z 8, z 9, z 10, AV.int IntKind.i64 (0 : Int), AV.bool false, z 13, z 14, z 15, z 16, z 17, z 18, z 19, z 20, z 21, vt, AV.int IntKind.i64 (↑len : Int), AV.int IntKind.i64 (IntKind.wrap IntKind.i64 (i + (1 : Int))), z 25, z 26, z 27, z 28, z 29, z 30, z 31, z 32, z 33, ph, AV.int IntKind.i64 (↑pl : Int), AV.int IntKind.i64 j, AV.bool false, z 38, z 39, z 40, z 41, z 42, z 43, z 44, z 45, z 46, z 47, z 48, z 49, z 50, z 51, z 52, z 53, z 54, z 55, z 56, AV.tuple [AV.int IntKind.i64 (0 : Int), AV.bool false], AV.map u, AV.int IntKind.i64 x, AV.tuple [AV.int IntKind.i64 (0 : Int), AV.bool false], AV.int IntKind.i64 (0 : Int), AV.bool false, AV.bool false, AV.bool !false, AV.bool true, AV.tuple [], AV.tuple [], AV.tuple [], AV.bool true, AV.map u, AV.int IntKind.i64 x, AV.int IntKind.i64 b, AV.int IntKind.i64 (IntKind.wrap IntKind.i64 (i + (1 : Int))), z 74, z 75, z 76, z 77, z 78, z 79, z 80, z 81, z 82, z 83, z 84, z 85, z 86, z 87, z 88, z 89])) below (mset P H u 3 (AV.int IntKind.i64 x) (AV.int IntKind.i64 b)))) := by kernel_rfl

theorem solUpd1 (w0 : World) (K : AM → Prop) (Kr : AV → AH → Prop) (below : List AFr) (z : Nat → AV) (d u len pl : Nat) (vt ph : AV) (more : Bool) (i x b j old : Int) (H : AH) : (trun P w0 37 K Kr 200 0 [] ⟨w sP (setL (tz 90 z) [(0, .ptr d 0), (2, .map u), (3, .bool more), (5, .int .i64 x), (6, .int .i64 b), (22, vt), (23, .int .i64 len), (24, .int .i64 i), (34, ph), (35, .int .i64 pl), (36, .int .i64 j)]), below, H⟩ (.ff (.v (.int .i64 old) (.ff (.ff (.br .stop .stop)))))) = (decide (j < (↑pl : Int)) = false ∧ Hit P H u 3 (AV.int IntKind.i64 x) (AV.int IntKind.i64 old) ∧ (!true) = false ∧ false = false ∧ ((old != b) = true → MsOk P H u 3 (AV.int IntKind.i64 x) ∧ apartOk H (stackPend below) [u] = true ∧ K (AM.mk (w sN (tl [AV.ptr d 0, z 1, AV.map u, AV.bool true, z 4, AV.int IntKind.i64 x, AV.int IntKind.i64 b, z 7, z 8, z 9, z 10, AV.int IntKind.i64 old, AV.bool true, z 13, z 14, z 15, z 16, z 17, z 18, z 19, z 20, z 21, vt, AV.int IntKind.i64 (↑len : Int), AV.int IntKind.i64 (IntKind.wrap IntKind.i64 (i + (1 : Int))), z 25, z 26, z 27, z 28, z 29, z 30, z 31, z 32, z 33, ph, AV.int IntKind.i64 (↑pl : Int), AV.int IntKind.i64 j, AV.bool false, z 38, z 39, z 40, z 41, z 42, z 43, z 44, z 45, z 46, z 47, z 48, z 49, z 50, z 51, z 52, z 53, z 54, z 55, z 56, AV.tuple [AV.int IntKind.i64 old, AV.bool true], AV.map u, AV.int IntKind.i64 x, AV.tuple [AV.int IntKind.i64 old, AV.bool true], AV.int IntKind.i64 old, AV.bool true, AV.bool true, AV.bool !true, AV.bool false, AV.int IntKind.i64 old, AV.int IntKind.i64 b, AV.bool (old != b), AV.bool true, AV.map u, AV.int IntKind.i64 x, AV.int IntKind.i64 b, AV.int IntKind.i64 (IntKind.wrap IntKind.i64 (i + (1 : Int))), z 74, z 75, z 76, z 77, z 78, z 79, z 80, z 81, z 82, z 83, z 84, z 85, z 86, z 87, z 88, z 89])) below (mset P H u 3 (AV.int IntKind.i64 x) (AV.int IntKind.i64 b)))) ∧ ((old != b) = false → K (AM.mk (w sN (tl [AV.ptr d 0, z 1, AV.map u, AV.bool more, z 4, AV.int IntKind.i64 x, AV.int IntKind.i64 b, z 7, z 8, z 9, z 10, AV.int IntKind.i64 old, AV.bool true, z 13, z 14, z 15, z 16, z 17, z 18, z 19, z 20, z 21, vt, AV.int IntKind.i64 (↑len : Int), AV.int IntKind.i64 (IntKind.wrap IntKind.i64 (i + (1 : Int))), z 25, z 26, z 27, z 28, z 29, z 30, z 31, z 32, z 33, ph, AV.int IntKind.i64 (↑pl : Int), AV.int IntKind.i64 j, AV.bool false, z 38, z 39, z 40, z 41, z 42, z 43, z 44, z 45, z 46, z 47, z 48, z 49, z 50, z 51, z 52, z 53, z 54, z 55, z 56, AV.tuple [AV.int IntKind.i64 old, AV.bool true], AV.map u, AV.int IntKind.i64 x, AV.tuple [AV.int IntKind.i64 old, AV.bool true], AV.int IntKind.i64 old, AV.bool true, AV.bool true, AV.bool !true, AV.bool false, AV.int IntKind.i64 old, AV.int IntKind.i64 b, AV.bool (old != b), AV.bool false, z 70, z 71, z 72, AV.int IntKind.i64 (IntKind.wrap IntKind.i64 (i + (1 : Int))), z 74, z 75, z 76, z 77, z 78, z 79, z 80, z 81, z 82, z 83, z 84, z 85, z 86, z 87, z 88, z 89])) below H))) := by kernel_rfl

def fI (e : Int × Int × Nat) : AV × AV × Nat := (.int .i64 e.1, .int .i64 e.2.1, e.2.2)

theorem solR (w0 : World) (K : AM → Prop) (Kr : AV → AH → Prop) (below : List AFr) (z : Nat → AV) (d u it im np c : Nat) (seen : List Nat) (last : Nat) (l : List (Int × Int × Nat)) (H : AH) : (trun P w0 37 K Kr 200 0 [] ⟨w sR (setL (tz 90 z) [(0, .ptr d 0), (75, .ptr it 0)]), below, H⟩ (.nx u c seen last (l.map fI) c (Int × Int × Nat) fI (.ff .stop) (fun e => .tt (.r (.val (.tuple [.int .i64 e.1, .int .i64 e.2.1]), H, [it, u]) (.br (.v (.slice im 0 np np) .stop) .stop))))) = (AH.get H it = some (AObj.iter (some u) c seen last) ∧ AH.get H u = some (AObj.map (List.map fI l) c) ∧ NxOk last seen (List.map fI l) ∧ (∀ (e : AV × AV × Nat), e ∈ List.map fI l → ∃ (x : Int × Int × Nat), e = fI x) ∧ ((∀ (e : AV × AV × Nat), e ∈ List.map fI l → List.contains seen (Prod.snd (Prod.snd e)) = false → c ≤ Prod.snd (Prod.snd e)) → True ∧ false = false ∧ Kr (AV.tuple []) H) ∧ ∀ (x : Int × Int × Nat), (AV.int IntKind.i64 (Prod.fst x), AV.int IntKind.i64 (Prod.fst (Prod.snd x)), Prod.snd (Prod.snd x)) ∈ List.map fI l → List.contains seen (Prod.snd (Prod.snd x)) = false → apartOk H (stackPend below) [it] = true ∧ true = true ∧ aEntry (AH.put H it (AObj.iter (some u) c (seen ++ [Prod.snd (Prod.snd x)]) c)) (AV.ptr it 0) = some (AV.tuple [AV.int IntKind.i64 (Prod.fst x), AV.int IntKind.i64 (Prod.fst (Prod.snd x))], [it, u]) ∧ ((Prod.fst x != (0 : Int)) = true → rdAt (AH.put H it (AObj.iter (some u) c (seen ++ [Prod.snd (Prod.snd x)]) c)) d 4 = some (AV.slice im 0 np np) ∧ ((0 : Int) ≤ Prod.fst x ∧ Prod.fst x < (↑np : Int)) ∧ AV.single (AV.int IntKind.i64 (Prod.fst (Prod.snd x))) = true ∧ StOk (AH.put H it (AObj.iter (some u) c (seen ++ [Prod.snd (Prod.snd x)]) c)) im (0 + Int.toNat (Prod.fst x) * 1) 1 ∧ apartOk (AH.put H it (AObj.iter (some u) c (seen ++ [Prod.snd (Prod.snd x)]) c)) (stackPend below) (im :: stOld (AH.put H it (AObj.iter (some u) c (seen ++ [Prod.snd (Prod.snd x)]) c)) im) = true ∧ K (AM.mk (w sR (tl [AV.ptr d 0, z 1, z 2, z 3, z 4, z 5, z 6, z 7, z 8, z 9, z 10, z 11, z 12, AV.int IntKind.i64 (Prod.fst x), AV.int IntKind.i64 (Prod.fst (Prod.snd x)), z 15, z 16, z 17, z 18, z 19, z 20, z 21, z 22, z 23, z 24, z 25, z 26, z 27, z 28, z 29, z 30, z 31, z 32, z 33, z 34, z 35, z 36, z 37, z 38, z 39, z 40, z 41, z 42, z 43, z 44, z 45, z 46, z 47, z 48, z 49, z 50, z 51, z 52, z 53, z 54, z 55, z 56, z 57, z 58, z 59, z 60, z 61, z 62, z 63, z 64, z 65, z 66, z 67, z 68, z 69, z 70, z 71, z 72, z 73, z 74, AV.ptr it 0, AV.tuple [AV.bool true, AV.int IntKind.i64 (Prod.fst x), AV.int IntKind.i64 (Prod.fst (Prod.snd x))], AV.bool true, AV.tuple [AV.int IntKind.i64 (Prod.fst x), AV.int IntKind.i64 (Prod.fst (Prod.snd x))], AV.int IntKind.i64 (Prod.fst x), AV.int IntKind.i64 (Prod.fst (Prod.snd x)), AV.int IntKind.i64 (Prod.fst x), AV.bool true, AV.ptr d 0, AV.ptr d 0, AV.ptr d 4, AV.slice im 0 np np, AV.int IntKind.i64 (Prod.fst x), AV.int IntKind.i64 (Prod.fst (Prod.snd x)), AV.ptr im (0 + Int.toNat (Prod.fst x) * 1)])) below (stO (AH.put H it (AObj.iter (some u) c (seen ++ [Prod.snd (Prod.snd x)]) c)) im (0 + Int.toNat (Prod.fst x) * 1) [AV.int IntKind.i64 (Prod.fst (Prod.snd x))]))) ∧ ((Prod.fst x != (0 : Int)) = false → K (AM.mk (w sR (tl [AV.ptr d 0, z 1, z 2, z 3, z 4, z 5, z 6, z 7, z 8, z 9, z 10, z 11, z 12, AV.int IntKind.i64 (Prod.fst x), AV.int IntKind.i64 (Prod.fst (Prod.snd x)), z 15, z 16, z 17, z 18, z 19, z 20, z 21, z 22, z 23, z 24, z 25, z 26, z 27, z 28, z 29, z 30, z 31, z 32, z 33, z 34, z 35, z 36, z 37, z 38, z 39, z 40, z 41, z 42, z 43, z 44, z 45, z 46, z 47, z 48, z 49, z 50, z 51, z 52, z 53, z 54, z 55, z 56, z 57, z 58, z 59, z 60, z 61, z 62, z 63, z 64, z 65, z 66, z 67, z 68, z 69, z 70, z 71, z 72, z 73, z 74, AV.ptr it 0, AV.tuple [AV.bool true, AV.int IntKind.i64 (Prod.fst x), AV.int IntKind.i64 (Prod.fst (Prod.snd x))], AV.bool true, AV.tuple [AV.int IntKind.i64 (Prod.fst x), AV.int IntKind.i64 (Prod.fst (Prod.snd x))], AV.int IntKind.i64 (Prod.fst x), AV.int IntKind.i64 (Prod.fst (Prod.snd x)), AV.int IntKind.i64 (Prod.fst x), AV.bool false, z 83, z 84, z 85, z 86, z 87, z 88, z 89])) below (AH.put H it (AObj.iter (some u) c (seen ++ [Prod.snd (Prod.snd x)]) c))))) := by kernel_rfl

abbrev Fn := Int → Option Int

def upd (up : Fn) (n b : Int) : Fn := fun j => if j = n then some b else up j

/-- The nearest over all of a list that are known. -/
inductive BestR (pl up : Fn) : List Int → Int → Int → Prop
  | nil {b : Int} : BestR pl up [] b b
  | skip {p b b' : Int} {r : List Int} : up p = none → BestR pl up r b b' → BestR pl up (p :: r) b b'
  | first {p q b b' : Int} {r : List Int} : up p = some q → b < 0 → BestR pl up r p b' → BestR pl up (p :: r) b b'
  | meet {p q b m b' : Int} {r : List Int} : up p = some q → ¬ b < 0 → MeetR pl up b p m → BestR pl up r m b' → BestR pl up (p :: r) b b'

inductive StepN (up : Fn) (x b : Int) (m : Bool) : Fn → Bool → Prop
  | new : up x = none → StepN up x b m (upd up x b) true
  | same : up x = some b → StepN up x b m up m
  | diff {o : Int} : up x = some o → o ≠ b → StepN up x b m (upd up x b) true

inductive PassR (pl : Fn) (pss : List (List Int)) : List Int → Fn → Bool → Fn → Bool → Prop
  | nil {up : Fn} {m : Bool} : PassR pl pss [] up m up m
  | cons {n b : Int} {r : List Int} {up up1 up' : Fn} {m m1 m' : Bool} : BestR pl up (pss.getD n.toNat []) (-1) b → StepN up n b m up1 m1 → PassR pl pss r up1 m1 up' m' → PassR pl pss (n :: r) up m up' m'

inductive SolveR (pl : Fn) (pss : List (List Int)) (nodes : List Int) : Fn → Fn → Prop
  | last {up up' : Fn} : PassR pl pss nodes up false up' false → SolveR pl pss nodes up up'
  | more {up up1 up' : Fn} : PassR pl pss nodes up false up1 true → SolveR pl pss nodes up1 up' → SolveR pl pss nodes up up'

section
variable {w0 : World} {H : AH} {d pm pn np im : Nat} {vg vo vt : AV} {pl : Fn} {pss : List (List Int)} {ps : List AV} {nodes : List Int} {root : Int}

/-- What solve stands on. -/
structure SEnv (H : AH) (d pm pn np im : Nat) (vg vo : AV) (pl : Fn) (pss : List (List Int)) (ps : List AV) (root : Int) (nodes : List Int) : Prop where
  row : H.get d = some (.row [vg, .slice pn 0 np np, vo, .map pm, .slice im 0 np np] 52 true (.own none))
  ord : Lst H vo 3 ((root :: nodes).map kI)
  place : MapF H pm kI kI pl
  preds : Preds H pn pss ps
  npp : pss.length = np
  idom : H.get im = some (.row ((List.replicate np (-1 : Int)).map kI) 3 true (.own none))
  range : ∀ n ∈ nodes, 0 ≤ n ∧ n < (np : Int)
  nlen : nodes.length ≤ 1024
  plen : ∀ l ∈ pss, l.length ≤ 2000000

structure SSt (H : AH) (Hc : AH) (up : Fn) : Prop where
  same : ∀ m, m < H.nx → Hc.get m = H.get m
  nx : Hc.nx = H.nx + 1
  map : MapF Hc H.nx kI kI up

/-- All but the first of a list. -/
theorem _root_.Go.Sy.Lst.tail {H : AH} {v : AV} {c : AV} {cs : List AV} (h : Lst H v 3 (c :: cs)) : ∃ vt, aSlice P H 34 v (some (.int .i64 1)) none none = some vt ∧ SlR H vt cs ∧ ∀ n off, slBase vt = some (n, off) → ∃ off', slBase v = some (n, off') := by
  rcases h with ⟨_, h⟩ | ⟨n, old, rfl, h1, h2, h3⟩
  · cases h
  · have hu := et34.und
    have hz := et34.sz
    have hr : rowHas H n (0 + (c :: cs).length * 1) = true := by unfold rowHas; rw [h1]; simp [Nat.ble_eq]
    by_cases hc : cs = []
    · subst hc
      refine ⟨.zslice n 0 1 1, ?_, ⟨rfl, rfl, fun _ _ hb => by simp [slBase] at hb, fun _ => rfl⟩, fun _ _ hb => by simp [slBase] at hb⟩
      simp only [aSlice, hu, hz, hr]
      simp [aBounds, bndM, bndH, bndL, aBound]
    · have hpos : 0 < cs.length := by
        cases cs with
        | nil => exact absurd rfl hc
        | cons _ _ => simp
      refine ⟨.eslice n 1 cs.length 1, ?_, ⟨rfl, rfl, fun m off hb => ?_, fun hb => by cases hb⟩, fun m off hb => ?_⟩
      · simp only [aSlice, hu, hz, hr]
        simp [aBounds, bndM, bndH, bndL, aBound]
        rw [if_pos (by omega)]
        simp [hpos]
      · simp [slBase] at hb
        obtain ⟨rfl, rfl⟩ := hb
        exact ⟨_, _, _, _, h1, by simp; omega, by simp⟩
      · simp [slBase] at hb
        obtain ⟨rfl, rfl⟩ := hb
        exact ⟨0, rfl⟩

def mHead (d u : Nat) (more : Bool) : List (Nat × AV) := [(0, .ptr d 0), (2, .map u), (3, .bool more)]

def nHead (d u : Nat) (more : Bool) (vt : AV) (len : Nat) (i : Int) : List (Nat × AV) := [(0, .ptr d 0), (2, .map u), (3, .bool more), (22, vt), (23, .int .i64 len), (24, .int .i64 i)]

def sHead (d u : Nat) (more : Bool) (x b : Int) (vt : AV) (len : Nat) (i : Int) (ph : AV) (pl : Nat) (j : Int) : List (Nat × AV) := [(0, .ptr d 0), (2, .map u), (3, .bool more), (5, .int .i64 x), (6, .int .i64 b), (22, vt), (23, .int .i64 len), (24, .int .i64 i), (34, ph), (35, .int .i64 pl), (36, .int .i64 j)]

theorem SSt.set {Hc : AH} {up : Fn} (h : SSt H Hc up) (x b : Int) : SSt H (mset P Hc H.nx 3 (.int .i64 x) (.int .i64 b)) (upd up x b) :=
  ⟨fun m hm => by rw [get_mset _ _ _ _ _ _ (by omega)]; exact h.same m hm, by rw [nx_mset]; exact h.nx, h.map.set (vf := kI) key3 x b⟩

theorem SSt.aok {Hc : AH} {up : Fn} (hw : Wf H) (h : SSt H Hc up) {pend : List Nat} (hp : Pok H (fun m => m = im) pend) : AOk Hc pend [H.nx] := by
  obtain ⟨es, c, hobj⟩ := h.map.obj
  refine AOk.one (W := fun m => H.nx ≤ m) (fun p hq => ?_) hobj rfl rfl (Nat.le_refl _)
  obtain ⟨a1, a2⟩ := hp p hq
  obtain ⟨o, ho⟩ := Option.isSome_iff_exists.1 a1
  have := hw p o ho
  exact ⟨by rw [h.same p this]; exact a1, by omega⟩

/-- The nearest over those that lead to one. -/
theorem best_loop {Kr : AV → AH → Prop} {below : List AFr} (hw : Wf H) (E : SEnv H d pm pn np im vg vo pl pss ps root nodes) (hp : Pok H (fun m => m = im) (stackPend below)) {ph : AV} {l : List Int} (hph : SlR H ph (l.map kI)) (hll : l.length ≤ 2000000) {len i : Nat} (hi : i < 1024) {more : Bool} {x : Int} {Hc : AH} {up : Fn} (hst : SSt H Hc up) {b' : Int}
    (hend : ∀ Hc' up' more', StepN up x b' more up' more' → SSt H Hc' up' → ∀ z, Leads P w0 (RetK P 37 below Kr) ⟨w sN (setL (tz 90 z) (nHead d H.nx more' vt len (i + 1 : Nat))), below, Hc'⟩) :
    ∀ (r : List Int) (b : Int) (j : Nat), BestR pl up r b b' → l.drop j = r → j ≤ l.length → ∀ z, Leads P w0 (RetK P 37 below Kr) ⟨w sP (setL (tz 90 z) (sHead d H.nx more x b vt len i ph l.length j)), below, Hc⟩ := by
  have hphc : SlR Hc ph (l.map kI) := hph.congr fun n off hb => hst.same n (hph.lt hw hb)
  have hwi : IntKind.wrap .i64 ((i : Int) + 1) = ((i + 1 : Nat) : Int) := wrap1 i (by omega)
  have hplc : MapF Hc pm kI kI pl := E.place.congr (hst.same pm (E.place.lt hw))
  have hd3 : rdAt Hc d 3 = some (.map pm) := by rw [rdAt_congr (hst.same d (hw d _ E.row)), rdAt_row E.row]; rfl
  have hpc : Pok Hc (fun _ => False) (stackPend below) := fun p hq => by
    obtain ⟨a1, a2⟩ := hp p hq
    obtain ⟨o, ho⟩ := Option.isSome_iff_exists.1 a1
    exact ⟨by rw [hst.same p (hw p o ho)]; exact a1, id⟩
  intro r b j hB
  induction hB generalizing j with
  | @nil b =>
    intro hdr hj z
    have hjl := drop_end hdr hj
    cases hx : up x with
    | none =>
      refine Leads.go fine (solUpd0 w0 _ _ below z d H.nx len l.length vt ph more i x b j Hc) rfl ⟨by simp [hjl], hst.map.miss (vf := kI) key3 hx, rfl, rfl, rfl, hst.map.ms (vf := kI) key3 x, hst.aok hw hp, ?_⟩
      rw [hwi]
      exact Leads.at (nHead d H.nx true vt len (i + 1 : Nat)) (by kernel_rfl) (hend _ _ _ (.new hx) (hst.set x b))
    | some o =>
      refine Leads.go fine (solUpd1 w0 _ _ below z d H.nx len l.length vt ph more i x b j o Hc) rfl ⟨by simp [hjl], hst.map.hit (vf := kI) key3 hx, rfl, rfl, fun hne => ⟨hst.map.ms (vf := kI) key3 x, hst.aok hw hp, ?_⟩, fun he => ?_⟩
      · rw [hwi]
        exact Leads.at (nHead d H.nx true vt len (i + 1 : Nat)) (by kernel_rfl) (hend _ _ _ (.diff hx (by simpa using hne)) (hst.set x b))
      · rw [hwi]
        have he : o = b := by simpa using he
        subst he
        exact Leads.at (nHead d H.nx more vt len (i + 1 : Nat)) (by kernel_rfl) (hend _ _ _ (.same hx) hst)
  | @skip p b b' r hup _ ih =>
    intro hdr hj z
    obtain ⟨hlt, ht, hdr'⟩ := drop_step hdr
    obtain ⟨a, off, hb, q1, q2⟩ := hphc.int ht
    refine Leads.go fine (solSkip w0 _ _ below z d H.nx a off len l.length vt ph more i x b j p Hc) rfl ⟨by simpa using hlt, q1, by simpa using q2, hst.map.miss (vf := kI) key3 hup, rfl, ?_⟩
    rw [wrap1 j (by omega)]
    exact Leads.at (sHead d H.nx more x b vt len i ph l.length (j + 1 : Nat)) (by kernel_rfl) (ih hend (j + 1) hdr' hlt)
  | @first p q b b' r hup hbn _ ih =>
    intro hdr hj z
    obtain ⟨hlt, ht, hdr'⟩ := drop_step hdr
    obtain ⟨a, off, hb, q1, q2⟩ := hphc.int ht
    refine Leads.go fine (solFirst w0 _ _ below z d H.nx a off len l.length vt ph more i x b j p q Hc) rfl ⟨by simpa using hlt, q1, by simpa using q2, hst.map.hit (vf := kI) key3 hup, rfl, by simpa using hbn, ?_⟩
    rw [wrap1 j (by omega)]
    exact Leads.at (sHead d H.nx more x p vt len i ph l.length (j + 1 : Nat)) (by kernel_rfl) (ih hend (j + 1) hdr' hlt)
  | @meet p q b m b' r hup hbn hm _ ih =>
    intro hdr hj z
    obtain ⟨hlt, ht, hdr'⟩ := drop_step hdr
    obtain ⟨a, off, hb, q1, q2⟩ := hphc.int ht
    refine Leads.go fine (solMeet w0 _ _ below z d H.nx a off len l.length vt ph more i x b j p q m Hc) rfl ⟨by simpa using hlt, q1, by simpa using q2, hst.map.hit (vf := kI) key3 hup, rfl, by simpa using hbn, trivial, (meet_ret hd3 hplc hst.map hm _).mono fun v H' q => ⟨(), q.1, q.2⟩, hpc, fun _ H' he => ?_⟩
    subst he
    rw [wrap1 j (by omega)]
    exact Leads.at (sHead d H.nx more x m vt len i ph l.length (j + 1 : Nat)) (by kernel_rfl) (ih hend (j + 1) hdr' hlt)

theorem pass_loop {Kr : AV → AH → Prop} {below : List AFr} (hw : Wf H) (E : SEnv H d pm pn np im vg vo pl pss ps root nodes) (hp : Pok H (fun m => m = im) (stackPend below)) (hvt : SlR H vt (nodes.map kI)) {up' : Fn} {more' : Bool}
    (hend : ∀ Hc, SSt H Hc up' → ∀ z, Leads P w0 (RetK P 37 below Kr) ⟨w sM (setL (tz 90 z) (mHead d H.nx more')), below, Hc⟩) :
    ∀ (r : List Int) (i : Nat) (up : Fn) (more : Bool) (Hc : AH), PassR pl pss r up more up' more' → nodes.drop i = r → i ≤ nodes.length → SSt H Hc up →
      ∀ z, Leads P w0 (RetK P 37 below Kr) ⟨w sN (setL (tz 90 z) (nHead d H.nx more vt nodes.length i)), below, Hc⟩ := by
  intro r i up more Hc hP
  induction hP generalizing i Hc with
  | @nil up m =>
    intro hdr hi hst z
    have hil := drop_end hdr hi
    exact Leads.go fine (solNo w0 _ _ below z d H.nx nodes.length vt m i Hc) rfl ⟨by simp [hil], Leads.at (mHead d H.nx m) (by kernel_rfl) (hend Hc hst)⟩
  | @cons n b r up up1 up' m m1 m' hB hS _ ih =>
    intro hdr hi hst z
    obtain ⟨hlt, hn, hdr'⟩ := drop_step hdr
    have hnr := E.range n (List.mem_of_getElem? hn)
    have hvc : SlR Hc vt (nodes.map kI) := hvt.congr fun a off hb => hst.same a (hvt.lt hw hb)
    obtain ⟨a, off, hb, q1, q2⟩ := hvc.int hn
    have hnl : n.toNat < pss.length := by rw [E.npp]; omega
    have hpl : pss[n.toNat]? = some pss[n.toNat] := List.getElem?_eq_getElem hnl
    have hgd : pss.getD n.toNat [] = pss[n.toNat] := by rw [List.getD_eq_getElem?_getD, hpl]; rfl
    have hpsl : n.toNat < ps.length := by rw [E.preds.len]; exact hnl
    have hph : ps[n.toNat]? = some ps[n.toNat] := List.getElem?_eq_getElem hpsl
    have hL := E.preds.each _ _ _ hph hpl
    have hLc : SlR Hc ps[n.toNat] ((pss[n.toNat]).map kI) := hL.slr.congr fun a off hb => hst.same a (hL.slr.lt hw hb)
    have hd1 : rdAt Hc d 1 = some (.slice pn 0 np np) := by rw [rdAt_congr (hst.same d (hw d _ E.row)), rdAt_row E.row]; rfl
    have hpnr : Hc.get pn = some (.row ps 34 true (.own none)) := by rw [hst.same pn (hw pn _ E.preds.row)]; exact E.preds.row
    have hll := E.plen _ (List.mem_of_getElem? hpl)
    refine Leads.go fine (solN w0 _ _ below z d H.nx a off nodes.length pn np (pss[n.toNat]).length vt ps[n.toNat] m i n Hc) rfl ⟨by simpa using hlt, q1, by simpa using q2, hd1, hnr, by rw [rdAt_row hpnr]; simp [hph], by have := hLc.aLen (P := P) et34.und; simpa using this, ?_⟩
    rw [hgd] at hB
    exact Leads.at (sHead d H.nx m n (-1) vt nodes.length i ps[n.toNat] (pss[n.toNat]).length (0 : Nat)) (by kernel_rfl)
      (best_loop (pl := pl) hw E hp hL.slr hll (by have := E.nlen; omega) hst (fun Hc' up2 more2 h1 h2 => by
        cases h1 with
        | new hx => cases hS with
          | new _ => exact ih hend (i + 1) Hc' hdr' hlt h2
          | same h => rw [hx] at h; cases h
          | diff h _ => rw [hx] at h; cases h
        | same hx => cases hS with
          | new h => rw [hx] at h; cases h
          | same _ => exact ih hend (i + 1) Hc' hdr' hlt h2
          | diff h hne => rw [hx] at h; injection h with h; exact absurd h.symm hne
        | diff hx hne => cases hS with
          | new h => rw [hx] at h; cases h
          | same h => rw [hx] at h; injection h with h; exact absurd h hne
          | diff _ _ => exact ih hend (i + 1) Hc' hdr' hlt h2) _ _ 0 hB rfl (Nat.zero_le _))

theorem solve_loop {Kr : AV → AH → Prop} {below : List AFr} (hw : Wf H) (E : SEnv H d pm pn np im vg vo pl pss ps root nodes) (hp : Pok H (fun m => m = im) (stackPend below)) {up' : Fn}
    (hend : ∀ Hc, SSt H Hc up' → ∀ z, Leads P w0 (RetK P 37 below Kr) ⟨w sM (setL (tz 90 z) (mHead d H.nx false)), below, Hc⟩) :
    ∀ (up : Fn) (Hc : AH), SolveR pl pss nodes up up' → SSt H Hc up → ∀ z, Leads P w0 (RetK P 37 below Kr) ⟨w sM (setL (tz 90 z) (mHead d H.nx true)), below, Hc⟩ := by
  obtain ⟨vt, hs1, hs2, hs3⟩ := E.ord.tail
  have one : ∀ (up up1 : Fn) (m1 : Bool) (Hc : AH), PassR pl pss nodes up false up1 m1 → SSt H Hc up → (∀ Hc, SSt H Hc up1 → ∀ z, Leads P w0 (RetK P 37 below Kr) ⟨w sM (setL (tz 90 z) (mHead d H.nx m1)), below, Hc⟩) → ∀ z, Leads P w0 (RetK P 37 below Kr) ⟨w sM (setL (tz 90 z) (mHead d H.nx true)), below, Hc⟩ := by
    intro up up1 m1 Hc hP hst hk z
    have hd2 : rdAt Hc d 2 = some vo := by rw [rdAt_congr (hst.same d (hw d _ E.row)), rdAt_row E.row]; rfl
    have hordc : Lst Hc vo 3 ((root :: nodes).map kI) := E.ord.congr fun a off hb => hst.same a (E.ord.slr.lt hw hb)
    obtain ⟨vt', hs1', hs2', _⟩ := hordc.tail
    have hvt : vt' = vt := by
      have : aSlice P Hc 34 vo (some (.int .i64 1)) none none = aSlice P H 34 vo (some (.int .i64 1)) none none := by
        rcases E.ord with ⟨_, h⟩ | ⟨n, old, rfl, h1, h2, h3⟩
        · cases h
        · have := hst.same n (hw n _ h1)
          have hr : ∀ k, rowHas Hc n k = rowHas H n k := fun k => by unfold rowHas; rw [this]
          simp only [aSlice, et34.und, hr]
      exact Option.some.inj (hs1'.symm.trans (this.trans hs1))
    subst hvt
    refine Leads.go fine (solM w0 _ _ below z d H.nx nodes.length vo vt' Hc) rfl ⟨rfl, hd2, hs1', by have := hs2'.aLen (P := P) et34.und; simpa using this, ?_⟩
    exact Leads.at (nHead d H.nx false vt' nodes.length (0 : Nat)) (by kernel_rfl) (pass_loop hw E hp hs2 hk nodes 0 up false Hc hP rfl (Nat.zero_le _) hst)
  intro up Hc hS
  induction hS generalizing Hc with
  | last hP => intro hst; exact one _ _ _ Hc hP hst hend
  | more hP _ ih => intro hst; exact one _ _ _ Hc hP hst (ih hend)

/-- Who stands right over whom, laid into the row. -/
def idomF (up : Fn) (np : Nat) : List Int := (List.range np).map fun (i : Nat) => if i = 0 then -1 else (up (i : Int)).getD (-1)

theorem mget_of_mem : ∀ {l : List (Int × Int × Nat)} {e : Int × Int × Nat}, (l.map (·.1)).Nodup → e ∈ l → mget l e.1 = some e.2.1
  | [], e, _, h => by cases h
  | x :: r, e, hn, h => by
    rw [List.map_cons, List.nodup_cons] at hn
    rw [mget_cons]
    rcases List.mem_cons.1 h with rfl | h
    · rw [if_pos rfl]
    · rw [if_neg, mget_of_mem hn.2 h]
      intro he
      exact hn.1 (by rw [he]; exact List.mem_map_of_mem h)

theorem find_born : ∀ {l : List (Int × Int × Nat)} {e : Int × Int × Nat}, (l.map (·.2.2)).Nodup → e ∈ l → ((l.map fI).find? fun x => x.2.2 == e.2.2) = some (fI e)
  | [], e, _, h => by cases h
  | x :: r, e, hn, h => by
    rw [List.map_cons, List.nodup_cons] at hn
    rw [List.map_cons, List.find?_cons]
    rcases List.mem_cons.1 h with rfl | h
    · simp [fI]
    · have : ((fI x).2.2 == e.2.2) = false := by
        have hne : x.2.2 ≠ e.2.2 := fun he => hn.1 (by rw [he]; exact List.mem_map_of_mem h)
        simpa [fI] using hne
      rw [this]
      exact find_born hn.2 h

theorem entry_ok {H : AH} {it u s since c : Nat} {seen : List Nat} {es : List (AV × AV × Nat)} {e : AV × AV × Nat} (h1 : H.get it = some (.iter (some u) since seen c)) (h2 : H.get u = some (.map es c)) (h3 : seen.getLast? = some s) (h4 : (es.find? fun x => x.2.2 == s) = some e) : aEntry H (.ptr it 0) = some (.tuple [e.1, e.2.1], [it, u]) := by
  unfold aEntry
  simp only [h1, h2, h3, if_true, h4, Option.map_some]

theorem fI_inj {x y : Int × Int × Nat} (h : fI x = fI y) : x = y := by
  obtain ⟨a, b, c⟩ := x
  obtain ⟨a', b', c'⟩ := y
  simp only [fI, Prod.mk.injEq, AV.int.injEq, true_and] at h
  obtain ⟨rfl, rfl, rfl⟩ := h
  rfl

theorem born_inj {l : List (Int × Int × Nat)} (hn : (l.map (·.2.2)).Nodup) {x y : Int × Int × Nat} (hx : x ∈ l) (hy : y ∈ l) (h : x.2.2 = y.2.2) : x = y := by
  have h1 := find_born hn hx
  have h2 := find_born hn hy
  rw [h] at h1
  rw [h1] at h2
  exact fI_inj (Option.some.inj h2)

theorem range_loop {Kr : AV → AH → Prop} {below : List AFr} {H1 : AH} {u it c : Nat} {l : List (Int × Int × Nat)} {up : Fn} (hw : Wf H1) (hd4 : rdAt H1 d 4 = some (.slice im 0 np np)) (hl : MapL H1 u kI kI l c) (hI : MI l c) (hup : ∀ k, mget l k = up k) (hrange : ∀ k v, up k = some v → 0 ≤ k ∧ k < (np : Int))
    (hdi : d ≠ im) (hdt : d ≠ it) (hui : u ≠ im) (hut : u ≠ it) (hit : im ≠ it) (hp : Pok H1 (fun m => m = im ∨ m = it) (stackPend below))
    (hend : ∀ Hc, (∀ m, m ≠ im → m ≠ it → Hc.get m = H1.get m) → Hc.nx = H1.nx → Hc.get im = some (.row ((idomF up np).map kI) 3 true (.own none)) → Kr (.tuple []) Hc) :
    ∀ (k : Nat) (dn : List (Int × Int × Nat)) (Hc : AH) (xs : List Int) (last : Nat), (l.filter fun e => decide (e ∉ dn)).length ≤ k → (∀ e ∈ dn, e ∈ l) → (∀ m, m ≠ im → m ≠ it → Hc.get m = H1.get m) → Hc.nx = H1.nx → Hc.get it = some (.iter (some u) c (dn.map (·.2.2)) last) → (dn ≠ [] → last = c) →
      Hc.get im = some (.row (xs.map kI) 3 true (.own none)) → xs.length = np → (∀ i : Nat, i < np → xs[i]? = some (if i ≠ 0 ∧ ∃ e ∈ dn, e.1 = (i : Int) then (up (i : Int)).getD (-1) else -1)) →
      ∀ z, Leads P w0 (RetK P 37 below Kr) ⟨w sR (setL (tz 90 z) [(0, .ptr d 0), (75, .ptr it 0)]), below, Hc⟩ := by
  intro k
  induction k with
  | zero | succ k ih =>
    intro dn Hc xs last hk hsub hg hn hiter hlast him hxl hxs z
    have hgu : Hc.get u = some (.map (l.map fI) c) := by rw [hg u hui hut]; exact hl
    have hseen : ∀ e ∈ l, (dn.map (·.2.2)).contains e.2.2 = false → e ∉ dn := fun e he hc hd => by
      have : (dn.map (·.2.2)).contains e.2.2 = true := by simpa using ⟨e.1, e.2.1, hd⟩
      rw [hc] at this; cases this
    have hseen' : ∀ e ∈ l, e ∉ dn → (dn.map (·.2.2)).contains e.2.2 = false := fun e he hd => by
      cases hc : (dn.map (·.2.2)).contains e.2.2 with
      | false => rfl
      | true =>
        have : e.2.2 ∈ dn.map (·.2.2) := by simpa using hc
        obtain ⟨e', he', h'⟩ := List.mem_map.1 this
        exact absurd (born_inj hI.born (hsub e' he') he h' ▸ he') hd
    refine Leads.go fine (solR w0 _ _ below z d u it im np c (dn.map (·.2.2)) last l Hc) rfl ⟨hiter, hgu, ?_, fun e he => ?_, fun hall => ⟨trivial, rfl, ?_⟩, fun x hx hns => ?_⟩
    · cases hd : dn with
      | nil => exact .inl rfl
      | cons e r =>
        have he : e ∈ dn := by rw [hd]; simp
        exact .inr (.inr ⟨fI e, List.mem_map_of_mem (hsub e he), by rw [hlast (by rw [hd]; simp)]; exact hI.lt e (hsub e he)⟩)
    · obtain ⟨x, _, rfl⟩ := List.mem_map.1 he
      exact ⟨x, rfl⟩
    · have hmem : ∀ e ∈ l, e ∈ dn := fun e he => by
        by_cases h : e ∈ dn
        · exact h
        · have h1 : c ≤ e.2.2 := hall (fI e) (List.mem_map_of_mem he) (hseen' e he h)
          have h2 := hI.lt e he
          omega
      refine hend Hc hg hn ?_
      rw [him]
      have hxe : xs = idomF up np := by
        apply List.ext_getElem?
        intro i
        unfold idomF
        rw [List.getElem?_map]
        rcases Nat.lt_or_ge i np with hi | hi
        · rw [hxs i hi, List.getElem?_range hi, Option.map_some]
          congr 1
          by_cases h0 : i = 0
          · subst h0; simp
          · rw [if_neg h0]
            by_cases he : ∃ e ∈ dn, e.1 = (i : Int)
            · rw [if_pos ⟨h0, he⟩]
            · rw [if_neg fun h => he h.2]
              have : up (i : Int) = none := by
                rw [← hup, mget_mem]
                intro hm
                obtain ⟨e, hel, hei⟩ := List.mem_map.1 hm
                exact he ⟨e, hmem e hel, hei⟩
              rw [this]; rfl
        · rw [List.getElem?_eq_none (by omega), List.getElem?_eq_none (by simpa using hi)]; rfl
      rw [hxe]
    · have hxl' : x ∈ l := by
        obtain ⟨y, hy, hxy⟩ := List.mem_map.1 hx
        have : y = x := fI_inj hxy
        rw [← this]; exact hy
      have hxd := hseen x hxl' hns
      have hxv : up x.1 = some x.2.1 := by rw [← hup]; exact mget_of_mem hI.keys hxl'
      have hxr := hrange x.1 x.2.1 hxv
      have hpc : Pok Hc (fun m => m = im ∨ m = it) (stackPend below) := fun p hq => by
        obtain ⟨a1, a2⟩ := hp p hq
        exact ⟨by rw [hg p (fun e => a2 (.inl e)) (fun e => a2 (.inr e))]; exact a1, a2⟩
      have hH' : ∀ m, m ≠ it → (Hc.put it (.iter (some u) c (dn.map (·.2.2) ++ [x.2.2]) c)).get m = Hc.get m := fun m hm => by rw [get_put, if_neg hm]
      have hHit : (Hc.put it (.iter (some u) c (dn.map (·.2.2) ++ [x.2.2]) c)).get it = some (.iter (some u) c ((dn ++ [x]).map (·.2.2)) c) := by rw [get_put, if_pos rfl]; simp
      have hpc' : Pok (Hc.put it (.iter (some u) c (dn.map (·.2.2) ++ [x.2.2]) c)) (fun m => m = im ∨ m = it) (stackPend below) := fun p hq => by
        obtain ⟨a1, a2⟩ := hpc p hq
        exact ⟨by rw [hH' p fun e => a2 (.inr e)]; exact a1, a2⟩
      have hent : aEntry (Hc.put it (.iter (some u) c (dn.map (·.2.2) ++ [x.2.2]) c)) (.ptr it 0) = some (.tuple [.int .i64 x.1, .int .i64 x.2.1], [it, u]) := by
        have := entry_ok (s := x.2.2) hHit ((hH' u hut).trans hgu) (by simp) (find_born hI.born hxl')
        exact this
      have him' : (Hc.put it (.iter (some u) c (dn.map (·.2.2) ++ [x.2.2]) c)).get im = some (.row (xs.map kI) 3 true (.own none)) := by rw [hH' im hit]; exact him
      have hfilt : (l.filter fun e => decide (e ∉ dn ++ [x])).length < (l.filter fun e => decide (e ∉ dn)).length := by
        have h1 : (l.filter fun e => decide (e ∉ dn ++ [x])) = (l.filter fun e => decide (e ∉ dn)).filter fun e => decide (e ≠ x) := by
          rw [List.filter_filter]
          congr 1
          funext e
          simp only [List.mem_append, List.mem_singleton, not_or, Bool.decide_and, ne_eq, Bool.and_comm]
        rw [h1]
        have hmem : x ∈ l.filter fun e => decide (e ∉ dn) := by rw [List.mem_filter]; exact ⟨hxl', by simpa using hxd⟩
        rcases Nat.lt_or_ge (((l.filter fun e => decide (e ∉ dn)).filter fun e => decide (e ≠ x)).length) ((l.filter fun e => decide (e ∉ dn)).length) with h | h
        · exact h
        · have := List.length_filter_le (fun e => decide (e ≠ x)) (l.filter fun e => decide (e ∉ dn))
          have heq := List.length_filter_eq_length_iff.1 (Nat.le_antisymm this h) x hmem
          simp at heq
      first
        | (exfalso; omega)
        | (have hxi : x.1.toNat < np := by omega
           have etn : (0 + x.1.toNat * 1) = x.1.toNat := by omega
           have hsub' : ∀ e ∈ dn ++ [x], e ∈ l := fun e he => by
             rcases List.mem_append.1 he with he | he
             · exact hsub e he
             · rw [List.mem_singleton.1 he]; exact hxl'
           refine ⟨AOk.one hpc hiter rfl rfl (.inr rfl), rfl, hent, fun hne => ⟨?_, hxr, rfl, ⟨_, _, _, _, him', by simp; omega⟩, ?_, ?_⟩, fun he0 => ?_⟩
           · rw [rdAt_congr (hH' d hdt), rdAt_congr (hg d hdi hdt)]; exact hd4
           · rw [stOld_eq him']
             exact AOk.one hpc' him' rfl rfl (.inl rfl)
           · rw [etn]
             have hst := get_stO (off := x.1.toNat) (vs := [.int .i64 x.2.1]) him'
             have hlen2 : x.1.toNat < (xs.map kI).length := by simp; omega
             have hne0 : x.1 ≠ 0 := by simpa using hne
             refine Leads.at [(0, .ptr d 0), (75, .ptr it 0)] (by kernel_rfl) (ih (dn ++ [x]) _ (xs.set x.1.toNat x.2.1) c (by omega) hsub' (fun m h1 h2 => ?_) ?_ ?_ (fun _ => rfl) ?_ (by simpa using hxl) (fun i hi => ?_))
             · rw [hst, if_neg h1, hH' m h2]; exact hg m h1 h2
             · rw [nx_stO]; exact hn
             · rw [hst, if_neg fun e => hit e.symm]; exact hHit
             · rw [hst, if_pos rfl, setAt_one _ _ _ hlen2, List.map_set]; rfl
             · rw [List.getElem?_set]
               by_cases hxi' : x.1.toNat = i
               · rw [if_pos hxi', if_pos (by omega)]
                 have hcast : (i : Int) = x.1 := by omega
                 rw [if_pos ⟨by omega, x, by simp, hcast.symm⟩, hcast, hxv]; rfl
               · rw [if_neg hxi', hxs i hi]
                 congr 1
                 by_cases h : i ≠ 0 ∧ ∃ e ∈ dn, e.1 = (i : Int)
                 · rw [if_pos h, if_pos ⟨h.1, by obtain ⟨e, he, h2⟩ := h.2; exact ⟨e, by simp [he], h2⟩⟩]
                 · rw [if_neg h, if_neg]
                   rintro ⟨h0, e, he, h2⟩
                   rcases List.mem_append.1 he with he | he
                   · exact h ⟨h0, e, he, h2⟩
                   · rw [List.mem_singleton.1 he] at h2; omega
           · have he0 : x.1 = 0 := by simpa using he0
             refine Leads.at [(0, .ptr d 0), (75, .ptr it 0)] (by kernel_rfl) (ih (dn ++ [x]) _ xs c (by omega) hsub' (fun m h1 h2 => ?_) hn hHit (fun _ => rfl) him' hxl (fun i hi => ?_))
             · rw [hH' m h2]; exact hg m h1 h2
             · rw [hxs i hi]
               congr 1
               by_cases h : i ≠ 0 ∧ ∃ e ∈ dn, e.1 = (i : Int)
               · rw [if_pos h, if_pos ⟨h.1, by obtain ⟨e, he, h2⟩ := h.2; exact ⟨e, by simp [he], h2⟩⟩]
               · rw [if_neg h, if_neg]
                 rintro ⟨h0, e, he, h2⟩
                 rcases List.mem_append.1 he with he | he
                 · exact h ⟨h0, e, he, h2⟩
                 · rw [List.mem_singleton.1 he] at h2; omega)

def up0 : Fn := fun j => if j = 0 then some 0 else none

/-- THE CONTRACT OF solve. -/
theorem solve_ret (E : SEnv H d pm pn np im vg vo pl pss ps root nodes) (hdi : d ≠ im) {upF : Fn} (hS : SolveR pl pss nodes up0 upF) (hrange : ∀ k v, upF k = some v → 0 ≤ k ∧ k < (np : Int)) :
    Ret P w0 37 [.ptr d 0] H (fun m => m = im) fun v H' => v = .tuple [] ∧ H'.get im = some (.row ((idomF upF np).map kI) 3 true (.own none)) ∧ (∀ m, m < H.nx → m ≠ im → H'.get m = H.get m) ∧ H.nx ≤ H'.nx := Ret.mk fun below hp => by
  refine Leads.wf fun hw => ?_
  have himlt := hw im _ E.idom
  have hdlt := hw d _ E.row
  have hm0 : MapF (H.new (.map [] 0)) H.nx kI kI (fun _ => none) := MapF.new H
  have hst0 : SSt H (mset P (H.new (.map [] 0)) H.nx 3 (.int .i64 0) (.int .i64 0)) up0 :=
    ⟨fun m hm => by rw [get_mset _ _ _ _ _ _ (by omega), get_new, if_neg (by omega)], by rw [nx_mset]; rfl, MapF.fn (hm0.set (vf := kI) key3 0 0) fun _ => rfl⟩
  have haok : AOk (H.new (.map [] 0)) (stackPend below) [H.nx] := by
    have hg : (H.new (.map [] 0)).get H.nx = some (.map [] 0) := by rw [get_new, if_pos rfl]
    refine AOk.one (W := fun m => H.nx ≤ m) (fun p hq => ?_) hg rfl rfl (Nat.le_refl _)
    obtain ⟨a1, a2⟩ := hp p hq
    obtain ⟨o, ho⟩ := Option.isSome_iff_exists.1 a1
    have := hw p o ho
    exact ⟨by rw [get_new, if_neg (by omega)]; exact a1, by omega⟩
  refine Leads.go fine (sol0 w0 _ _ below d H) (by kernel_rfl) ⟨trivial, hm0.ms (vf := kI) key3 0, haok, ?_⟩
  refine Leads.at (mHead d H.nx true) (by kernel_rfl) (solve_loop hw E hp (fun Hc hst z => ?_) up0 _ hS hst0)
  obtain ⟨l, c, hl, hup, hI⟩ := hst.map
  have hclk : mapClock Hc H.nx = c := by unfold mapClock; rw [hl]
  refine Leads.go fine (solMo w0 _ _ below z d H.nx Hc) rfl ⟨rfl, isMap_of hl, trivial, ?_⟩
  rw [hclk]
  have hnx := hst.nx
  have hg1 : ∀ m, m < Hc.nx → (Hc.new (.iter (some H.nx) c [] c)).get m = Hc.get m := fun m hm => by rw [get_new, if_neg (by omega)]
  refine Leads.at [(0, .ptr d 0), (75, .ptr Hc.nx 0)] (by kernel_rfl) fun z => Leads.wf fun hw1 => ?_
  refine range_loop (im := im) (np := np) (up := upF) (u := H.nx) (it := Hc.nx) (c := c) (l := l) hw1 ?_ (show (Hc.new _).get H.nx = _ by rw [hg1 _ (by omega)]; exact hl) hI hup hrange hdi (by omega) (by omega) (by omega) (by omega) (fun p hq => ?_) (fun Hf h1 h2 h3 => ⟨rfl, h3, fun m hm hne => ?_, ?_⟩) l.length [] _ (List.replicate np (-1)) c (List.length_filter_le _ _) (fun e he => by cases he) (fun _ _ _ => rfl) rfl (by rw [get_new, if_pos rfl]; rfl) (fun h => absurd rfl h) ?_ (by simp) (fun i hi => ?_) z
  · rw [rdAt_congr (hg1 d (by omega)), rdAt_congr (hst.same d hdlt), rdAt_row E.row]; rfl
  · obtain ⟨a1, a2⟩ := hp p hq
    obtain ⟨o, ho⟩ := Option.isSome_iff_exists.1 a1
    have hlt := hw p o ho
    refine ⟨by rw [hg1 p (by omega), hst.same p hlt]; exact a1, ?_⟩
    rintro (h | h)
    · exact a2 h
    · omega
  · rw [hg1 im (by omega), hst.same im himlt]; exact E.idom
  · rw [if_neg (by simp), List.getElem?_replicate, if_pos hi]
  · rw [h1 m hne (by omega), hg1 m (by omega), hst.same m hm]
  · rw [h2]; show H.nx ≤ Hc.nx + 1; omega
end
end Go.Dm
