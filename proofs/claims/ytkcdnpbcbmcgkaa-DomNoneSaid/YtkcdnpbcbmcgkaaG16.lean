/- The engine and the contracts, part 16. No condition beyond the hypotheses of each theorem. -/
import Derived.Test.YtkcdnpbcbmcgkaaG15
import Derived.Test.YtkcdnpbcbmcgkaaG14
/- DomTree. -/
set_option linter.unusedVariables false
namespace Go.Dm
open Go Go.Sx Go.Sy Go.RowKit Go.Proofs.DomP

noncomputable def dtH : AFr := hd P 6 [.r, .r, .r, .l]

noncomputable def dtA : AFr := hd P 6 [.r, .r, .r, .r, .l, .r, .i]

noncomputable def dtB : AFr := hd P 6 [.r, .r, .r, .r, .l, .r, .i, .i, .r, .r, .l, .i, .r, .r, .r, .i]

noncomputable def dtC : AFr := hd P 6 [.r, .r, .r, .r, .l, .r, .i, .i, .r, .r, .l, .i, .r, .r, .r, .i, .i, .r, .r, .l, .i, .r, .r, .l, .r, .i]

theorem dt0E (w0 : World) (K : AM → Prop) (Kr : AV → AH → Prop) (below : List AFr) (v : AV) (len : Nat) (H : AH) (Q1 : AH → Prop) (Q2 Q3 : AH → AH → Prop) : (trun P w0 6 K Kr 300 0 [] ⟨frOf P 6 [v], below, H⟩ (.call Unit (fun _ => False) (fun _ => .tuple [.nptr, .nptr, .bool false]) (fun _ => Q1) (fun _ H1 => (.tt (.tt (.tt (.call Unit (fun _ => False) (fun _ => .bool true) (fun _ => Q2 H1) (fun _ H2 => (.tt (.ln len (.tt .stop))))))))))) = (True ∧ (Ret P w0 16 [v] H (fun (x : Nat) ↦ False) fun (v : AV) (H' : AH) ↦ ∃ (x : Unit), v = AV.tuple [AV.nptr, AV.nptr, AV.bool false] ∧ Q1 H') ∧ Pok H (fun (x : Nat) ↦ False) (stackPend below) ∧ ∀ (x : Unit) (H' : AH), Q1 H' → (!false) = true ∧ true = true ∧ true = true ∧ True ∧ (Ret P w0 8 [] H' (fun (x : Nat) ↦ False) fun (v : AV) (H'_1 : AH) ↦ ∃ (x : Unit), v = AV.bool true ∧ Q2 H' H'_1) ∧ Pok H' (fun (x : Nat) ↦ False) (stackPend below) ∧ ∀ (x : Unit) (H'_1 : AH), Q2 H' H'_1 → true = true ∧ aLen P H'_1 41 v = some (AV.int IntKind.i64 (↑len : Int), []) ∧ true = true ∧ Kr (AV.bool ((↑len : Int) == (0 : Int))) H'_1) := by kernel_rfl

theorem dt0O (w0 : World) (K : AM → Prop) (Kr : AV → AH → Prop) (below : List AFr) (v : AV) (H : AH) (Q1 : Nat × Nat → AH → Prop) (Q2 : AH → AH → Prop) : (trun P w0 6 K Kr 300 0 [] ⟨frOf P 6 [v], below, H⟩ (.call (Nat × Nat) (fun _ => False) (fun p => .tuple [.ptr p.1 0, .ptr p.2 0, .bool true]) Q1 (fun p H1 => (.ff (.call Unit (fun _ => False) (fun _ => .bool true) (fun _ => Q2 H1) (fun _ H2 => (.ff (.ff .halt)))))))) = (True ∧ (Ret P w0 16 [v] H (fun (x : Nat) ↦ False) fun (v : AV) (H' : AH) ↦ ∃ (x : Nat × Nat), v = AV.tuple [AV.ptr (Prod.fst x) (0 : Nat), AV.ptr (Prod.snd x) (0 : Nat), AV.bool true] ∧ Q1 x H') ∧ Pok H (fun (x : Nat) ↦ False) (stackPend below) ∧ ∀ (x : Nat × Nat) (H' : AH), Q1 x H' → (!true) = false ∧ True ∧ (Ret P w0 8 [] H' (fun (x : Nat) ↦ False) fun (v : AV) (H'_1 : AH) ↦ ∃ (x : Unit), v = AV.bool true ∧ Q2 H' H'_1) ∧ Pok H' (fun (x : Nat) ↦ False) (stackPend below) ∧ ∀ (x_1 : Unit) (H'_1 : AH), Q2 H' H'_1 → false = false ∧ (!true) = false ∧ K (AM.mk (w dtH (tl [v, AV.tuple [], AV.bool false, AV.ptr (Prod.fst x) 0, AV.ptr (Prod.snd x) 0, AV.bool true, AV.tuple [], AV.tuple [], AV.tuple [], AV.tuple [], AV.tuple [], AV.tuple [AV.ptr (Prod.fst x) 0, AV.ptr (Prod.snd x) 0, AV.bool true], v, AV.tuple [AV.ptr (Prod.fst x) 0, AV.ptr (Prod.snd x) 0, AV.bool true], AV.ptr (Prod.fst x) 0, AV.ptr (Prod.snd x) 0, AV.bool true, AV.bool true, AV.bool !true, AV.bool false, AV.bool true, AV.bool !true, AV.bool false, AV.tuple [], AV.tuple [], AV.tuple [], AV.tuple [], AV.tuple [], AV.tuple [], AV.tuple [], AV.tuple [], AV.tuple [], AV.tuple [], AV.tuple [], AV.tuple [], AV.tuple [], AV.tuple [], AV.tuple [], AV.tuple [], AV.tuple [], AV.tuple [], AV.tuple [], AV.tuple [], AV.tuple [], AV.tuple [], AV.tuple [], AV.tuple [], AV.tuple [], AV.tuple [], AV.tuple [], AV.tuple [], AV.tuple [], AV.tuple [], AV.tuple [], AV.tuple [], AV.tuple [], AV.tuple [], AV.tuple [], AV.tuple [], AV.tuple [], AV.tuple [], AV.tuple [], AV.tuple [], AV.tuple [], AV.tuple [], AV.tuple [], AV.tuple [], AV.tuple [], AV.tuple [], AV.tuple [], AV.tuple [], AV.tuple [], AV.tuple [], AV.tuple [], AV.tuple [], AV.tuple [], AV.tuple [], AV.tuple [], AV.tuple [], AV.tuple [], AV.tuple [], AV.tuple [], AV.tuple [], AV.tuple [], AV.tuple [], AV.tuple [], AV.tuple [], AV.tuple [], AV.tuple [], AV.tuple [], AV.tuple [], AV.tuple [], AV.tuple [], AV.tuple [], AV.tuple [], AV.tuple [], AV.tuple [], AV.tuple [], AV.tuple [], AV.tuple [], AV.tuple [], AV.tuple [], AV.tuple [], AV.tuple [], AV.tuple [], AV.tuple [], AV.tuple [], AV.tuple [], AV.tuple [], AV.tuple [], AV.tuple [], AV.tuple [], AV.tuple [], AV.tuple [], AV.tuple [], AV.tuple [], AV.tuple [], AV.tuple [], AV.tuple [], AV.tuple [], AV.tuple [], AV.tuple [], AV.tuple [], AV.tuple [], AV.tuple [], AV.tuple [], AV.tuple [], AV.tuple [], AV.tuple [], AV.tuple [], AV.tuple [], AV.tuple [], AV.tuple [], AV.tuple [], AV.tuple [], AV.tuple [], AV.tuple [], AV.tuple [], AV.tuple [], AV.tuple [], AV.tuple [], AV.tuple [], AV.tuple [], AV.tuple [], AV.tuple [], AV.tuple [], AV.tuple [], AV.tuple [], AV.tuple [], AV.tuple [], AV.tuple [], AV.tuple [], AV.tuple []])) below H'_1)) := by kernel_rfl

theorem dt1 (w0 : World) (K : AM → Prop) (Kr : AV → AH → Prop) (below : List AFr) (z : Nat → AV) (d len : Nat) (v : AV) (H : AH) (Q : AV → AH → Prop) : (trun P w0 6 K Kr 300 0 [] ⟨w dtH (setL (tz 153 z) [(0, v), (3, .ptr d 0)]), below, H⟩ (.call AV (fun _ => False) (fun x => x) Q (fun x H1 => (.ln len .stop)))) = (True ∧ (Ret P w0 18 [v] H (fun (x : Nat) ↦ False) fun (v : AV) (H' : AH) ↦ ∃ (x : AV), v = x ∧ Q x H') ∧ Pok H (fun (x : Nat) ↦ False) (stackPend below) ∧ ∀ (x : AV) (H' : AH), Q x H' → aLen P H' 22 x = some (AV.int IntKind.i64 (↑len : Int), []) ∧ K (AM.mk (w dtA (tl [v, z 1, z 2, AV.ptr d 0, z 4, z 5, x, z 7, z 8, z 9, z 10, z 11, z 12, z 13, z 14, z 15, z 16, z 17, z 18, z 19, z 20, z 21, z 22, z 23, z 24, z 25, z 26, z 27, z 28, v, x, x, AV.int IntKind.i64 (↑len : Int), AV.int IntKind.i64 (0 : Int), z 34, z 35, z 36, z 37, z 38, z 39, z 40, z 41, z 42, z 43, z 44, z 45, z 46, z 47, z 48, z 49, z 50, z 51, z 52, z 53, z 54, z 55, z 56, z 57, z 58, z 59, z 60, z 61, z 62, z 63, z 64, z 65, z 66, z 67, z 68, z 69, z 70, z 71, z 72, z 73, z 74, z 75, z 76, z 77, z 78, z 79, z 80, z 81, z 82, z 83, z 84, z 85, z 86, z 87, z 88, z 89, z 90, z 91, z 92, z 93, z 94, z 95, z 96, z 97, z 98, z 99, z 100, z 101, z 102, z 103, z 104, z 105, z 106, z 107, z 108, z 109, z 110, z 111, z 112, z 113, z 114, z 115, z 116, z 117, z 118, z 119, z 120, z 121, z 122, z 123, z 124, z 125, z 126, z 127, z 128, z 129, z 130, z 131, z 132, z 133, z 134, z 135, z 136, z 137, z 138, z 139, z 140, z 141, z 142, z 143, z 144, z 145, z 146, z 147, z 148, z 149, z 150, z 151, z 152])) below H')) := by kernel_rfl

theorem dtAr (w0 : World) (K : AM → Prop) (Kr : AV → AH → Prop) (below : List AFr) (z : Nat → AV) (d len : Nat) (x : AV) (i : Int) (ra : Bool) (H : AH) : (trun P w0 6 K Kr 400 0 [] ⟨w dtA (setL (tz 153 z) [(3, .ptr d 0), (6, x), (32, .int .i64 len), (33, .int .i64 i)]), below, H⟩ (.tt (.call Unit (fun _ => False) (fun _ => .bool ra) (fun _ H' => H' = H) (fun _ _ => (.call Unit (fun _ => False) (fun _ => .bool ra) (fun _ H' => H' = H) (fun _ _ => (.ff (.call Unit (fun _ => False) (fun _ => .bool ra) (fun _ H' => H' = H) (fun _ _ => (.call Unit (fun _ => False) (fun _ => .bool ra) (fun _ H' => H' = H) (fun _ _ => (.ff (.ff (.ln len .stop)))))))))))))) = (decide (i < (↑len : Int)) = true ∧ True ∧ (Ret P w0 17 [AV.ptr d 0, AV.int IntKind.i64 i, AV.int IntKind.i64 i] H (fun (x : Nat) ↦ False) fun (v : AV) (H' : AH) ↦ ∃ (x : Unit), v = AV.bool ra ∧ H' = H) ∧ Pok H (fun (x : Nat) ↦ False) (stackPend below) ∧ ∀ (x_1 : Unit) (H' : AH), H' = H → True ∧ (Ret P w0 12 [AV.ptr d 0, AV.int IntKind.i64 i] H' (fun (x : Nat) ↦ False) fun (v : AV) (H' : AH) ↦ ∃ (x : Unit), v = AV.bool ra ∧ H' = H) ∧ Pok H' (fun (x : Nat) ↦ False) (stackPend below) ∧ ∀ (x_2 : Unit) (H' : AH), H' = H → (!ra == ra) = false ∧ True ∧ (Ret P w0 17 [AV.ptr d 0, AV.int IntKind.i64 (0 : Int), AV.int IntKind.i64 i] H' (fun (x : Nat) ↦ False) fun (v : AV) (H' : AH) ↦ ∃ (x : Unit), v = AV.bool ra ∧ H' = H) ∧ Pok H' (fun (x : Nat) ↦ False) (stackPend below) ∧ ∀ (x_3 : Unit) (H' : AH), H' = H → True ∧ (Ret P w0 12 [AV.ptr d 0, AV.int IntKind.i64 i] H' (fun (x : Nat) ↦ False) fun (v : AV) (H' : AH) ↦ ∃ (x : Unit), v = AV.bool ra ∧ H' = H) ∧ Pok H' (fun (x : Nat) ↦ False) (stackPend below) ∧ ∀ (x_4 : Unit) (H' : AH), H' = H → false = false ∧ (!ra == ra) = false ∧ aLen P H' 22 x = some (AV.int IntKind.i64 (↑len : Int), []) ∧ K (AM.mk (w dtB (tl [z 0, z 1, z 2, AV.ptr d 0, z 4, z 5, x, AV.int IntKind.i64 i, z 8, z 9, z 10, z 11, z 12, z 13, z 14, z 15, z 16, z 17, z 18, z 19, z 20, z 21, z 22, z 23, z 24, z 25, z 26, z 27, z 28, z 29, z 30, z 31, AV.int IntKind.i64 (↑len : Int), AV.int IntKind.i64 i, AV.bool true, AV.int IntKind.i64 i, AV.ptr d 0, AV.int IntKind.i64 i, AV.int IntKind.i64 i, AV.bool ra, AV.ptr d 0, AV.int IntKind.i64 i, AV.bool ra, AV.bool !ra == ra, AV.bool false, AV.ptr d 0, AV.int IntKind.i64 i, AV.bool ra, AV.ptr d 0, AV.int IntKind.i64 i, AV.bool ra, AV.bool !ra == ra, AV.bool false, x, AV.int IntKind.i64 (↑len : Int), AV.int IntKind.i64 (0 : Int), z 56, z 57, z 58, z 59, z 60, z 61, z 62, z 63, z 64, z 65, z 66, z 67, z 68, z 69, z 70, z 71, z 72, z 73, z 74, z 75, z 76, z 77, z 78, z 79, z 80, z 81, z 82, z 83, z 84, z 85, z 86, z 87, z 88, z 89, z 90, z 91, z 92, z 93, z 94, z 95, z 96, z 97, z 98, z 99, z 100, z 101, z 102, z 103, z 104, z 105, z 106, z 107, z 108, z 109, z 110, z 111, z 112, z 113, z 114, z 115, z 116, z 117, z 118, z 119, z 120, z 121, z 122, z 123, z 124, z 125, z 126, z 127, z 128, z 129, z 130, z 131, z 132, z 133, z 134, z 135, z 136, z 137, z 138, z 139, z 140, z 141, z 142, z 143, z 144, z 145, z 146, z 147, z 148, z 149, z 150, z 151, z 152])) below H')) := by kernel_rfl

theorem dtAe (w0 : World) (K : AM → Prop) (Kr : AV → AH → Prop) (below : List AFr) (z : Nat → AV) (d len : Nat) (x : AV) (i : Int) (H : AH) : (trun P w0 6 K Kr 400 0 [] ⟨w dtA (setL (tz 153 z) [(3, .ptr d 0), (6, x), (32, .int .i64 len), (33, .int .i64 i)]), below, H⟩ (.ff .stop)) = (decide (i < (↑len : Int)) = false ∧ Kr (AV.bool true) H) := by kernel_rfl

theorem dtBr (w0 : World) (K : AM → Prop) (Kr : AV → AH → Prop) (below : List AFr) (z : Nat → AV) (d len : Nat) (x : AV) (i j ia : Int) (ab : Bool) (H : AH) : (trun P w0 6 K Kr 400 0 [] ⟨w dtB (setL (tz 153 z) [(3, .ptr d 0), (6, x), (7, .int .i64 ia), (32, .int .i64 len), (33, .int .i64 i), (54, .int .i64 len), (55, .int .i64 j)]), below, H⟩ (.tt (.br (.call Unit (fun _ => False) (fun _ => .bool ab) (fun _ H' => H' = H) (fun _ _ => (.tt (.br (.call Unit (fun _ => False) (fun _ => .bool false) (fun _ H' => H' = H) (fun _ _ => (.tt (.ff (.ln len .stop))))) (.ff (.ff (.ln len .stop))))))) (.ff (.ff (.ff (.ff (.ln len .stop)))))))) = (decide (j < (↑len : Int)) = true ∧ ((ia != j) = true → True ∧ (Ret P w0 17 [AV.ptr d 0, AV.int IntKind.i64 ia, AV.int IntKind.i64 j] H (fun (x : Nat) ↦ False) fun (v : AV) (H' : AH) ↦ ∃ (x : Unit), v = AV.bool ab ∧ H' = H) ∧ Pok H (fun (x : Nat) ↦ False) (stackPend below) ∧ ∀ (x_1 : Unit) (H' : AH), H' = H → true = true ∧ (ab = true → True ∧ (Ret P w0 17 [AV.ptr d 0, AV.int IntKind.i64 j, AV.int IntKind.i64 ia] H' (fun (x : Nat) ↦ False) fun (v : AV) (H' : AH) ↦ ∃ (x : Unit), v = AV.bool false ∧ H' = H) ∧ Pok H' (fun (x : Nat) ↦ False) (stackPend below) ∧ ∀ (x_2 : Unit) (H' : AH), H' = H → true = true ∧ false = false ∧ aLen P H' 22 x = some (AV.int IntKind.i64 (↑len : Int), []) ∧ K (AM.mk (w dtC (tl [z 0, z 1, z 2, AV.ptr d 0, z 4, z 5, x, AV.int IntKind.i64 ia, AV.int IntKind.i64 j, z 9, z 10, z 11, z 12, z 13, z 14, z 15, z 16, z 17, z 18, z 19, z 20, z 21, z 22, z 23, z 24, z 25, z 26, z 27, z 28, z 29, z 30, z 31, AV.int IntKind.i64 (↑len : Int), AV.int IntKind.i64 i, z 34, z 35, z 36, z 37, z 38, z 39, z 40, z 41, z 42, z 43, z 44, z 45, z 46, z 47, z 48, z 49, z 50, z 51, z 52, z 53, AV.int IntKind.i64 (↑len : Int), AV.int IntKind.i64 j, AV.bool true, AV.int IntKind.i64 j, AV.int IntKind.i64 ia, AV.int IntKind.i64 j, AV.bool (ia != j), AV.bool true, AV.ptr d 0, AV.int IntKind.i64 ia, AV.int IntKind.i64 j, AV.bool ab, AV.bool ab, AV.bool true, AV.ptr d 0, AV.int IntKind.i64 j, AV.int IntKind.i64 ia, AV.bool false, AV.bool false, x, AV.int IntKind.i64 (↑len : Int), AV.int IntKind.i64 (0 : Int), z 76, z 77, z 78, z 79, z 80, z 81, z 82, z 83, z 84, z 85, z 86, z 87, z 88, z 89, z 90, z 91, z 92, z 93, z 94, z 95, z 96, z 97, z 98, z 99, z 100, z 101, z 102, z 103, z 104, z 105, z 106, z 107, z 108, z 109, z 110, z 111, z 112, z 113, z 114, z 115, z 116, z 117, z 118, z 119, z 120, z 121, z 122, z 123, z 124, z 125, z 126, z 127, z 128, z 129, z 130, z 131, z 132, z 133, z 134, z 135, z 136, z 137, z 138, z 139, z 140, z 141, z 142, z 143, z 144, z 145, z 146, z 147, z 148, z 149, z 150, z 151, z 152])) below H')) ∧ (ab = false → false = false ∧ false = false ∧ aLen P H' 22 x = some (AV.int IntKind.i64 (↑len : Int), []) ∧ K (AM.mk (w dtC (tl [z 0, z 1, z 2, AV.ptr d 0, z 4, z 5, x, AV.int IntKind.i64 ia, AV.int IntKind.i64 j, z 9, z 10, z 11, z 12, z 13, z 14, z 15, z 16, z 17, z 18, z 19, z 20, z 21, z 22, z 23, z 24, z 25, z 26, z 27, z 28, z 29, z 30, z 31, AV.int IntKind.i64 (↑len : Int), AV.int IntKind.i64 i, z 34, z 35, z 36, z 37, z 38, z 39, z 40, z 41, z 42, z 43, z 44, z 45, z 46, z 47, z 48, z 49, z 50, z 51, z 52, z 53, AV.int IntKind.i64 (↑len : Int), AV.int IntKind.i64 j, AV.bool true, AV.int IntKind.i64 j, AV.int IntKind.i64 ia, AV.int IntKind.i64 j, AV.bool (ia != j), AV.bool true, AV.ptr d 0, AV.int IntKind.i64 ia, AV.int IntKind.i64 j, AV.bool ab, AV.bool ab, AV.bool false, AV.tuple [], AV.tuple [], AV.tuple [], AV.tuple [], AV.bool false, x, AV.int IntKind.i64 (↑len : Int), AV.int IntKind.i64 (0 : Int), z 76, z 77, z 78, z 79, z 80, z 81, z 82, z 83, z 84, z 85, z 86, z 87, z 88, z 89, z 90, z 91, z 92, z 93, z 94, z 95, z 96, z 97, z 98, z 99, z 100, z 101, z 102, z 103, z 104, z 105, z 106, z 107, z 108, z 109, z 110, z 111, z 112, z 113, z 114, z 115, z 116, z 117, z 118, z 119, z 120, z 121, z 122, z 123, z 124, z 125, z 126, z 127, z 128, z 129, z 130, z 131, z 132, z 133, z 134, z 135, z 136, z 137, z 138, z 139, z 140, z 141, z 142, z 143, z 144, z 145, z 146, z 147, z 148, z 149, z 150, z 151, z 152])) below H'))) ∧ ((ia != j) = false → false = false ∧ false = false ∧ false = false ∧ false = false ∧ aLen P H 22 x = some (AV.int IntKind.i64 (↑len : Int), []) ∧ K (AM.mk (w dtC (tl [z 0, z 1, z 2, AV.ptr d 0, z 4, z 5, x, AV.int IntKind.i64 ia, AV.int IntKind.i64 j, z 9, z 10, z 11, z 12, z 13, z 14, z 15, z 16, z 17, z 18, z 19, z 20, z 21, z 22, z 23, z 24, z 25, z 26, z 27, z 28, z 29, z 30, z 31, AV.int IntKind.i64 (↑len : Int), AV.int IntKind.i64 i, z 34, z 35, z 36, z 37, z 38, z 39, z 40, z 41, z 42, z 43, z 44, z 45, z 46, z 47, z 48, z 49, z 50, z 51, z 52, z 53, AV.int IntKind.i64 (↑len : Int), AV.int IntKind.i64 j, AV.bool true, AV.int IntKind.i64 j, AV.int IntKind.i64 ia, AV.int IntKind.i64 j, AV.bool (ia != j), AV.bool false, AV.tuple [], AV.tuple [], AV.tuple [], AV.tuple [], AV.bool false, AV.bool false, AV.tuple [], AV.tuple [], AV.tuple [], AV.tuple [], AV.bool false, x, AV.int IntKind.i64 (↑len : Int), AV.int IntKind.i64 (0 : Int), z 76, z 77, z 78, z 79, z 80, z 81, z 82, z 83, z 84, z 85, z 86, z 87, z 88, z 89, z 90, z 91, z 92, z 93, z 94, z 95, z 96, z 97, z 98, z 99, z 100, z 101, z 102, z 103, z 104, z 105, z 106, z 107, z 108, z 109, z 110, z 111, z 112, z 113, z 114, z 115, z 116, z 117, z 118, z 119, z 120, z 121, z 122, z 123, z 124, z 125, z 126, z 127, z 128, z 129, z 130, z 131, z 132, z 133, z 134, z 135, z 136, z 137, z 138, z 139, z 140, z 141, z 142, z 143, z 144, z 145, z 146, z 147, z 148, z 149, z 150, z 151, z 152])) below H))) := by kernel_rfl

theorem dtBe (w0 : World) (K : AM → Prop) (Kr : AV → AH → Prop) (below : List AFr) (z : Nat → AV) (d len : Nat) (x : AV) (i j ia : Int) (H : AH) : (trun P w0 6 K Kr 400 0 [] ⟨w dtB (setL (tz 153 z) [(3, .ptr d 0), (6, x), (7, .int .i64 ia), (32, .int .i64 len), (33, .int .i64 i), (54, .int .i64 len), (55, .int .i64 j)]), below, H⟩ (.ff .stop)) = (decide (j < (↑len : Int)) = false ∧ K (AM.mk (w dtA (tl [z 0, z 1, z 2, AV.ptr d 0, z 4, z 5, x, AV.int IntKind.i64 ia, z 8, z 9, z 10, z 11, z 12, z 13, z 14, z 15, z 16, z 17, z 18, z 19, z 20, z 21, z 22, z 23, z 24, z 25, z 26, z 27, z 28, z 29, z 30, z 31, AV.int IntKind.i64 (↑len : Int), AV.int IntKind.i64 (IntKind.wrap IntKind.i64 (i + (1 : Int))), z 34, z 35, z 36, z 37, z 38, z 39, z 40, z 41, z 42, z 43, z 44, z 45, z 46, z 47, z 48, z 49, z 50, z 51, z 52, z 53, AV.int IntKind.i64 (↑len : Int), AV.int IntKind.i64 j, AV.bool false, z 57, z 58, z 59, z 60, z 61, z 62, z 63, z 64, z 65, z 66, z 67, z 68, z 69, z 70, z 71, z 72, z 73, z 74, z 75, z 76, z 77, z 78, z 79, z 80, z 81, z 82, z 83, z 84, z 85, z 86, z 87, z 88, z 89, z 90, z 91, z 92, z 93, z 94, z 95, z 96, z 97, z 98, z 99, z 100, z 101, z 102, z 103, z 104, z 105, z 106, z 107, z 108, z 109, z 110, z 111, z 112, z 113, z 114, z 115, z 116, z 117, z 118, z 119, z 120, z 121, z 122, z 123, z 124, z 125, z 126, z 127, z 128, z 129, z 130, z 131, z 132, z 133, z 134, z 135, z 136, z 137, z 138, z 139, z 140, z 141, z 142, z 143, z 144, z 145, z 146, z 147, z 148, z 149, z 150, z 151, AV.int IntKind.i64 (IntKind.wrap IntKind.i64 (i + (1 : Int)))])) below H)) := by kernel_rfl

set_option maxRecDepth 100000 in
theorem dtCr (w0 : World) (K : AM → Prop) (Kr : AV → AH → Prop) (below : List AFr) (z : Nat → AV) (d len : Nat) (x : AV) (i j k ia jb : Int) (ac bc ab ba : Bool) (H : AH) : (trun P w0 6 K Kr 400 0 [] ⟨w dtC (setL (tz 153 z) [(3, .ptr d 0), (6, x), (7, .int .i64 ia), (8, .int .i64 jb), (32, .int .i64 len), (33, .int .i64 i), (54, .int .i64 len), (55, .int .i64 j), (74, .int .i64 len), (75, .int .i64 k)]), below, H⟩ (.tt (.call Unit (fun _ => False) (fun _ => .bool ac) (fun _ H' => H' = H) (fun _ _ => (.br (.call Unit (fun _ => False) (fun _ => .bool bc) (fun _ H' => H' = H) (fun _ _ => (.tt (.br (.call Unit (fun _ => False) (fun _ => .bool ab) (fun _ H' => H' = H) (fun _ _ => (.tt (.br (.call Unit (fun _ => False) (fun _ => .bool ba) (fun _ H' => H' = H) (fun _ _ => (.tt (.ff (.call Unit (fun _ => False) (fun _ => .bool ab) (fun _ H' => H' = H) (fun _ _ => (.ff (.ff (.ff (.ff (.ff (.ff .stop)))))))))))) (.ff (.ff (.call Unit (fun _ => False) (fun _ => .bool ab) (fun _ H' => H' = H) (fun _ _ => (.tt (.call Unit (fun _ => False) (fun _ => .bool bc) (fun _ H' => H' = H) (fun _ _ => (.tt (.tt (.call Unit (fun _ => False) (fun _ => .bool ac) (fun _ H' => H' = H) (fun _ _ => (.tt (.ff (.ff .stop)))))))))))))))))) (.ff (.ff (.ff (.ff (.call Unit (fun _ => False) (fun _ => .bool ab) (fun _ H' => H' = H) (fun _ _ => (.br (.call Unit (fun _ => False) (fun _ => .bool bc) (fun _ H' => H' = H) (fun _ _ => (.tt (.ff (.ff (.ff (.ff .stop))))))) (.ff (.ff (.ff (.ff (.ff .stop)))))))))))))))) (.ff (.ff (.ff (.ff (.ff (.ff (.call Unit (fun _ => False) (fun _ => .bool ab) (fun _ H' => H' = H) (fun _ _ => (.br (.call Unit (fun _ => False) (fun _ => .bool bc) (fun _ H' => H' = H) (fun _ _ => (.tt (.ff (.ff (.ff (.ff .stop))))))) (.ff (.ff (.ff (.ff (.ff .stop))))))))))))))))))) = (decide (k < (↑len : Int)) = true ∧ True ∧ (Ret P w0 17 [AV.ptr d 0, AV.int IntKind.i64 ia, AV.int IntKind.i64 k] H (fun (x : Nat) ↦ False) fun (v : AV) (H' : AH) ↦ ∃ (x : Unit), v = AV.bool ac ∧ H' = H) ∧ Pok H (fun (x : Nat) ↦ False) (stackPend below) ∧ ∀ (x_1 : Unit) (H' : AH), H' = H → (ac = true → True ∧ (Ret P w0 17 [AV.ptr d 0, AV.int IntKind.i64 jb, AV.int IntKind.i64 k] H' (fun (x : Nat) ↦ False) fun (v : AV) (H' : AH) ↦ ∃ (x : Unit), v = AV.bool bc ∧ H' = H) ∧ Pok H' (fun (x : Nat) ↦ False) (stackPend below) ∧ ∀ (x_2 : Unit) (H' : AH), H' = H → true = true ∧ (bc = true → True ∧ (Ret P w0 17 [AV.ptr d 0, AV.int IntKind.i64 ia, AV.int IntKind.i64 jb] H' (fun (x : Nat) ↦ False) fun (v : AV) (H' : AH) ↦ ∃ (x : Unit), v = AV.bool ab ∧ H' = H) ∧ Pok H' (fun (x : Nat) ↦ False) (stackPend below) ∧ ∀ (x_3 : Unit) (H' : AH), H' = H → true = true ∧ ((!ab) = true → True ∧ (Ret P w0 17 [AV.ptr d 0, AV.int IntKind.i64 jb, AV.int IntKind.i64 ia] H' (fun (x : Nat) ↦ False) fun (v : AV) (H' : AH) ↦ ∃ (x : Unit), v = AV.bool ba ∧ H' = H) ∧ Pok H' (fun (x : Nat) ↦ False) (stackPend below) ∧ ∀ (x_4 : Unit) (H' : AH), H' = H → true = true ∧ (!ba) = false ∧ True ∧ (Ret P w0 17 [AV.ptr d 0, AV.int IntKind.i64 ia, AV.int IntKind.i64 jb] H' (fun (x : Nat) ↦ False) fun (v : AV) (H' : AH) ↦ ∃ (x : Unit), v = AV.bool ab ∧ H' = H) ∧ Pok H' (fun (x : Nat) ↦ False) (stackPend below) ∧ ∀ (x_5 : Unit) (H' : AH), H' = H → ab = false ∧ false = false ∧ false = false ∧ false = false ∧ false = false ∧ false = false ∧ K (AM.mk (w dtC (tl [z 0, z 1, z 2, AV.ptr d 0, z 4, z 5, x, AV.int IntKind.i64 ia, AV.int IntKind.i64 jb, AV.int IntKind.i64 k, z 10, z 11, z 12, z 13, z 14, z 15, z 16, z 17, z 18, z 19, z 20, z 21, z 22, z 23, z 24, z 25, z 26, z 27, z 28, z 29, z 30, z 31, AV.int IntKind.i64 (↑len : Int), AV.int IntKind.i64 i, z 34, z 35, z 36, z 37, z 38, z 39, z 40, z 41, z 42, z 43, z 44, z 45, z 46, z 47, z 48, z 49, z 50, z 51, z 52, z 53, AV.int IntKind.i64 (↑len : Int), AV.int IntKind.i64 j, z 56, z 57, z 58, z 59, z 60, z 61, z 62, z 63, z 64, z 65, z 66, z 67, z 68, z 69, z 70, z 71, z 72, z 73, AV.int IntKind.i64 (↑len : Int), AV.int IntKind.i64 (IntKind.wrap IntKind.i64 (k + (1 : Int))), AV.bool true, AV.int IntKind.i64 k, AV.ptr d 0, AV.int IntKind.i64 ia, AV.int IntKind.i64 k, AV.bool ac, AV.bool true, AV.ptr d 0, AV.int IntKind.i64 jb, AV.int IntKind.i64 k, AV.bool bc, AV.bool bc, AV.bool true, AV.ptr d 0, AV.int IntKind.i64 ia, AV.int IntKind.i64 jb, AV.bool ab, AV.bool !ab, AV.bool !ab, AV.bool true, AV.ptr d 0, AV.int IntKind.i64 jb, AV.int IntKind.i64 ia, AV.bool ba, AV.bool !ba, AV.bool !ba, AV.bool false, AV.ptr d 0, AV.int IntKind.i64 ia, AV.int IntKind.i64 jb, AV.bool ab, AV.bool false, AV.tuple [], AV.tuple [], AV.tuple [], AV.tuple [], AV.bool false, AV.bool false, AV.tuple [], AV.tuple [], AV.tuple [], AV.tuple [], AV.tuple [], AV.bool false, AV.bool false, AV.int IntKind.i64 (IntKind.wrap IntKind.i64 (k + (1 : Int))), z 122, z 123, z 124, z 125, z 126, z 127, z 128, z 129, z 130, z 131, z 132, z 133, z 134, z 135, z 136, z 137, z 138, z 139, z 140, z 141, z 142, z 143, z 144, z 145, z 146, z 147, z 148, z 149, z 150, z 151, z 152])) below H')) ∧ ((!ab) = false → false = false ∧ false = false ∧ True ∧ (Ret P w0 17 [AV.ptr d 0, AV.int IntKind.i64 ia, AV.int IntKind.i64 jb] H' (fun (x : Nat) ↦ False) fun (v : AV) (H' : AH) ↦ ∃ (x : Unit), v = AV.bool ab ∧ H' = H) ∧ Pok H' (fun (x : Nat) ↦ False) (stackPend below) ∧ ∀ (x_4 : Unit) (H' : AH), H' = H → ab = true ∧ True ∧ (Ret P w0 17 [AV.ptr d 0, AV.int IntKind.i64 jb, AV.int IntKind.i64 k] H' (fun (x : Nat) ↦ False) fun (v : AV) (H' : AH) ↦ ∃ (x : Unit), v = AV.bool bc ∧ H' = H) ∧ Pok H' (fun (x : Nat) ↦ False) (stackPend below) ∧ ∀ (x_5 : Unit) (H' : AH), H' = H → true = true ∧ bc = true ∧ True ∧ (Ret P w0 17 [AV.ptr d 0, AV.int IntKind.i64 ia, AV.int IntKind.i64 k] H' (fun (x : Nat) ↦ False) fun (v : AV) (H' : AH) ↦ ∃ (x : Unit), v = AV.bool ac ∧ H' = H) ∧ Pok H' (fun (x : Nat) ↦ False) (stackPend below) ∧ ∀ (x_6 : Unit) (H' : AH), H' = H → true = true ∧ false = false ∧ (!ac) = false ∧ K (AM.mk (w dtC (tl [z 0, z 1, z 2, AV.ptr d 0, z 4, z 5, x, AV.int IntKind.i64 ia, AV.int IntKind.i64 jb, AV.int IntKind.i64 k, z 10, z 11, z 12, z 13, z 14, z 15, z 16, z 17, z 18, z 19, z 20, z 21, z 22, z 23, z 24, z 25, z 26, z 27, z 28, z 29, z 30, z 31, AV.int IntKind.i64 (↑len : Int), AV.int IntKind.i64 i, z 34, z 35, z 36, z 37, z 38, z 39, z 40, z 41, z 42, z 43, z 44, z 45, z 46, z 47, z 48, z 49, z 50, z 51, z 52, z 53, AV.int IntKind.i64 (↑len : Int), AV.int IntKind.i64 j, z 56, z 57, z 58, z 59, z 60, z 61, z 62, z 63, z 64, z 65, z 66, z 67, z 68, z 69, z 70, z 71, z 72, z 73, AV.int IntKind.i64 (↑len : Int), AV.int IntKind.i64 (IntKind.wrap IntKind.i64 (k + (1 : Int))), AV.bool true, AV.int IntKind.i64 k, AV.ptr d 0, AV.int IntKind.i64 ia, AV.int IntKind.i64 k, AV.bool ac, AV.bool true, AV.ptr d 0, AV.int IntKind.i64 jb, AV.int IntKind.i64 k, AV.bool bc, AV.bool bc, AV.bool true, AV.ptr d 0, AV.int IntKind.i64 ia, AV.int IntKind.i64 jb, AV.bool ab, AV.bool !ab, AV.bool !ab, AV.bool false, AV.tuple [], AV.tuple [], AV.tuple [], AV.tuple [], AV.tuple [], AV.bool false, AV.bool false, AV.ptr d 0, AV.int IntKind.i64 ia, AV.int IntKind.i64 jb, AV.bool ab, AV.bool true, AV.ptr d 0, AV.int IntKind.i64 jb, AV.int IntKind.i64 k, AV.bool bc, AV.bool bc, AV.bool true, AV.ptr d 0, AV.int IntKind.i64 ia, AV.int IntKind.i64 k, AV.bool ac, AV.bool !ac, AV.bool !ac, AV.bool false, AV.int IntKind.i64 (IntKind.wrap IntKind.i64 (k + (1 : Int))), z 122, z 123, z 124, z 125, z 126, z 127, z 128, z 129, z 130, z 131, z 132, z 133, z 134, z 135, z 136, z 137, z 138, z 139, z 140, z 141, z 142, z 143, z 144, z 145, z 146, z 147, z 148, z 149, z 150, z 151, z 152])) below H'))) ∧ (bc = false → false = false ∧ false = false ∧ false = false ∧ false = false ∧ True ∧ (Ret P w0 17 [AV.ptr d 0, AV.int IntKind.i64 ia, AV.int IntKind.i64 jb] H' (fun (x : Nat) ↦ False) fun (v : AV) (H' : AH) ↦ ∃ (x : Unit), v = AV.bool ab ∧ H' = H) ∧ Pok H' (fun (x : Nat) ↦ False) (stackPend below) ∧ ∀ (x_3 : Unit) (H' : AH), H' = H → (ab = true → True ∧ (Ret P w0 17 [AV.ptr d 0, AV.int IntKind.i64 jb, AV.int IntKind.i64 k] H' (fun (x : Nat) ↦ False) fun (v : AV) (H' : AH) ↦ ∃ (x : Unit), v = AV.bool bc ∧ H' = H) ∧ Pok H' (fun (x : Nat) ↦ False) (stackPend below) ∧ ∀ (x_4 : Unit) (H' : AH), H' = H → true = true ∧ bc = false ∧ false = false ∧ false = false ∧ false = false ∧ K (AM.mk (w dtC (tl [z 0, z 1, z 2, AV.ptr d 0, z 4, z 5, x, AV.int IntKind.i64 ia, AV.int IntKind.i64 jb, AV.int IntKind.i64 k, z 10, z 11, z 12, z 13, z 14, z 15, z 16, z 17, z 18, z 19, z 20, z 21, z 22, z 23, z 24, z 25, z 26, z 27, z 28, z 29, z 30, z 31, AV.int IntKind.i64 (↑len : Int), AV.int IntKind.i64 i, z 34, z 35, z 36, z 37, z 38, z 39, z 40, z 41, z 42, z 43, z 44, z 45, z 46, z 47, z 48, z 49, z 50, z 51, z 52, z 53, AV.int IntKind.i64 (↑len : Int), AV.int IntKind.i64 j, z 56, z 57, z 58, z 59, z 60, z 61, z 62, z 63, z 64, z 65, z 66, z 67, z 68, z 69, z 70, z 71, z 72, z 73, AV.int IntKind.i64 (↑len : Int), AV.int IntKind.i64 (IntKind.wrap IntKind.i64 (k + (1 : Int))), AV.bool true, AV.int IntKind.i64 k, AV.ptr d 0, AV.int IntKind.i64 ia, AV.int IntKind.i64 k, AV.bool ac, AV.bool true, AV.ptr d 0, AV.int IntKind.i64 jb, AV.int IntKind.i64 k, AV.bool bc, AV.bool bc, AV.bool false, AV.tuple [], AV.tuple [], AV.tuple [], AV.tuple [], AV.tuple [], AV.bool false, AV.bool false, AV.tuple [], AV.tuple [], AV.tuple [], AV.tuple [], AV.tuple [], AV.bool false, AV.bool false, AV.ptr d 0, AV.int IntKind.i64 ia, AV.int IntKind.i64 jb, AV.bool ab, AV.bool true, AV.ptr d 0, AV.int IntKind.i64 jb, AV.int IntKind.i64 k, AV.bool bc, AV.bool bc, AV.bool false, AV.tuple [], AV.tuple [], AV.tuple [], AV.tuple [], AV.tuple [], AV.bool false, AV.bool false, AV.int IntKind.i64 (IntKind.wrap IntKind.i64 (k + (1 : Int))), z 122, z 123, z 124, z 125, z 126, z 127, z 128, z 129, z 130, z 131, z 132, z 133, z 134, z 135, z 136, z 137, z 138, z 139, z 140, z 141, z 142, z 143, z 144, z 145, z 146, z 147, z 148, z 149, z 150, z 151, z 152])) below H')) ∧ (ab = false → false = false ∧ false = false ∧ false = false ∧ false = false ∧ false = false ∧ K (AM.mk (w dtC (tl [z 0, z 1, z 2, AV.ptr d 0, z 4, z 5, x, AV.int IntKind.i64 ia, AV.int IntKind.i64 jb, AV.int IntKind.i64 k, z 10, z 11, z 12, z 13, z 14, z 15, z 16, z 17, z 18, z 19, z 20, z 21, z 22, z 23, z 24, z 25, z 26, z 27, z 28, z 29, z 30, z 31, AV.int IntKind.i64 (↑len : Int), AV.int IntKind.i64 i, z 34, z 35, z 36, z 37, z 38, z 39, z 40, z 41, z 42, z 43, z 44, z 45, z 46, z 47, z 48, z 49, z 50, z 51, z 52, z 53, AV.int IntKind.i64 (↑len : Int), AV.int IntKind.i64 j, z 56, z 57, z 58, z 59, z 60, z 61, z 62, z 63, z 64, z 65, z 66, z 67, z 68, z 69, z 70, z 71, z 72, z 73, AV.int IntKind.i64 (↑len : Int), AV.int IntKind.i64 (IntKind.wrap IntKind.i64 (k + (1 : Int))), AV.bool true, AV.int IntKind.i64 k, AV.ptr d 0, AV.int IntKind.i64 ia, AV.int IntKind.i64 k, AV.bool ac, AV.bool true, AV.ptr d 0, AV.int IntKind.i64 jb, AV.int IntKind.i64 k, AV.bool bc, AV.bool bc, AV.bool false, AV.tuple [], AV.tuple [], AV.tuple [], AV.tuple [], AV.tuple [], AV.bool false, AV.bool false, AV.tuple [], AV.tuple [], AV.tuple [], AV.tuple [], AV.tuple [], AV.bool false, AV.bool false, AV.ptr d 0, AV.int IntKind.i64 ia, AV.int IntKind.i64 jb, AV.bool ab, AV.bool false, AV.tuple [], AV.tuple [], AV.tuple [], AV.tuple [], AV.bool false, AV.bool false, AV.tuple [], AV.tuple [], AV.tuple [], AV.tuple [], AV.tuple [], AV.bool false, AV.bool false, AV.int IntKind.i64 (IntKind.wrap IntKind.i64 (k + (1 : Int))), z 122, z 123, z 124, z 125, z 126, z 127, z 128, z 129, z 130, z 131, z 132, z 133, z 134, z 135, z 136, z 137, z 138, z 139, z 140, z 141, z 142, z 143, z 144, z 145, z 146, z 147, z 148, z 149, z 150, z 151, z 152])) below H')))) ∧ (ac = false → false = false ∧ false = false ∧ false = false ∧ false = false ∧ false = false ∧ false = false ∧ True ∧ (Ret P w0 17 [AV.ptr d 0, AV.int IntKind.i64 ia, AV.int IntKind.i64 jb] H' (fun (x : Nat) ↦ False) fun (v : AV) (H' : AH) ↦ ∃ (x : Unit), v = AV.bool ab ∧ H' = H) ∧ Pok H' (fun (x : Nat) ↦ False) (stackPend below) ∧ ∀ (x_2 : Unit) (H' : AH), H' = H → (ab = true → True ∧ (Ret P w0 17 [AV.ptr d 0, AV.int IntKind.i64 jb, AV.int IntKind.i64 k] H' (fun (x : Nat) ↦ False) fun (v : AV) (H' : AH) ↦ ∃ (x : Unit), v = AV.bool bc ∧ H' = H) ∧ Pok H' (fun (x : Nat) ↦ False) (stackPend below) ∧ ∀ (x_3 : Unit) (H' : AH), H' = H → true = true ∧ bc = false ∧ false = false ∧ false = false ∧ false = false ∧ K (AM.mk (w dtC (tl [z 0, z 1, z 2, AV.ptr d 0, z 4, z 5, x, AV.int IntKind.i64 ia, AV.int IntKind.i64 jb, AV.int IntKind.i64 k, z 10, z 11, z 12, z 13, z 14, z 15, z 16, z 17, z 18, z 19, z 20, z 21, z 22, z 23, z 24, z 25, z 26, z 27, z 28, z 29, z 30, z 31, AV.int IntKind.i64 (↑len : Int), AV.int IntKind.i64 i, z 34, z 35, z 36, z 37, z 38, z 39, z 40, z 41, z 42, z 43, z 44, z 45, z 46, z 47, z 48, z 49, z 50, z 51, z 52, z 53, AV.int IntKind.i64 (↑len : Int), AV.int IntKind.i64 j, z 56, z 57, z 58, z 59, z 60, z 61, z 62, z 63, z 64, z 65, z 66, z 67, z 68, z 69, z 70, z 71, z 72, z 73, AV.int IntKind.i64 (↑len : Int), AV.int IntKind.i64 (IntKind.wrap IntKind.i64 (k + (1 : Int))), AV.bool true, AV.int IntKind.i64 k, AV.ptr d 0, AV.int IntKind.i64 ia, AV.int IntKind.i64 k, AV.bool ac, AV.bool false, AV.tuple [], AV.tuple [], AV.tuple [], AV.tuple [], AV.bool false, AV.bool false, AV.tuple [], AV.tuple [], AV.tuple [], AV.tuple [], AV.tuple [], AV.bool false, AV.bool false, AV.tuple [], AV.tuple [], AV.tuple [], AV.tuple [], AV.tuple [], AV.bool false, AV.bool false, AV.ptr d 0, AV.int IntKind.i64 ia, AV.int IntKind.i64 jb, AV.bool ab, AV.bool true, AV.ptr d 0, AV.int IntKind.i64 jb, AV.int IntKind.i64 k, AV.bool bc, AV.bool bc, AV.bool false, AV.tuple [], AV.tuple [], AV.tuple [], AV.tuple [], AV.tuple [], AV.bool false, AV.bool false, AV.int IntKind.i64 (IntKind.wrap IntKind.i64 (k + (1 : Int))), z 122, z 123, z 124, z 125, z 126, z 127, z 128, z 129, z 130, z 131, z 132, z 133, z 134, z 135, z 136, z 137, z 138, z 139, z 140, z 141, z 142, z 143, z 144, z 145, z 146, z 147, z 148, z 149, z 150, z 151, z 152])) below H')) ∧ (ab = false → false = false ∧ false = false ∧ false = false ∧ false = false ∧ false = false ∧ K (AM.mk (w dtC (tl [z 0, z 1, z 2, AV.ptr d 0, z 4, z 5, x, AV.int IntKind.i64 ia, AV.int IntKind.i64 jb, AV.int IntKind.i64 k, z 10, z 11, z 12, z 13, z 14, z 15, z 16, z 17, z 18, z 19, z 20, z 21, z 22, z 23, z 24, z 25, z 26, z 27, z 28, z 29, z 30, z 31, AV.int IntKind.i64 (↑len : Int), AV.int IntKind.i64 i, z 34, z 35, z 36, z 37, z 38, z 39, z 40, z 41, z 42, z 43, z 44, z 45, z 46, z 47, z 48, z 49, z 50, z 51, z 52, z 53, AV.int IntKind.i64 (↑len : Int), AV.int IntKind.i64 j, z 56, z 57, z 58, z 59, z 60, z 61, z 62, z 63, z 64, z 65, z 66, z 67, z 68, z 69, z 70, z 71, z 72, z 73, AV.int IntKind.i64 (↑len : Int), AV.int IntKind.i64 (IntKind.wrap IntKind.i64 (k + (1 : Int))), AV.bool true, AV.int IntKind.i64 k, AV.ptr d 0, AV.int IntKind.i64 ia, AV.int IntKind.i64 k, AV.bool ac, AV.bool false, AV.tuple [], AV.tuple [], AV.tuple [], AV.tuple [], AV.bool false, AV.bool false, AV.tuple [], AV.tuple [], AV.tuple [], AV.tuple [], AV.tuple [], AV.bool false, AV.bool false, AV.tuple [], AV.tuple [], AV.tuple [], AV.tuple [], AV.tuple [], AV.bool false, AV.bool false, AV.ptr d 0, AV.int IntKind.i64 ia, AV.int IntKind.i64 jb, AV.bool ab, AV.bool false, AV.tuple [], AV.tuple [], AV.tuple [], AV.tuple [], AV.bool false, AV.bool false, AV.tuple [], AV.tuple [], AV.tuple [], AV.tuple [], AV.tuple [], AV.bool false, AV.bool false, AV.int IntKind.i64 (IntKind.wrap IntKind.i64 (k + (1 : Int))), z 122, z 123, z 124, z 125, z 126, z 127, z 128, z 129, z 130, z 131, z 132, z 133, z 134, z 135, z 136, z 137, z 138, z 139, z 140, z 141, z 142, z 143, z 144, z 145, z 146, z 147, z 148, z 149, z 150, z 151, z 152])) below H')))) := by kernel_rfl

set_option maxRecDepth 100000 in
theorem dtCe (w0 : World) (K : AM → Prop) (Kr : AV → AH → Prop) (below : List AFr) (z : Nat → AV) (d len : Nat) (x : AV) (i j k ia jb ib : Int) (ra cb : Bool) (a ao : Nat) (h : AV) (H : AH) : (trun P w0 6 K Kr 400 0 [] ⟨w dtC (setL (tz 153 z) [(3, .ptr d 0), (6, x), (7, .int .i64 ia), (8, .int .i64 jb), (32, .int .i64 len), (33, .int .i64 i), (54, .int .i64 len), (55, .int .i64 j), (74, .int .i64 len), (75, .int .i64 k)]), below, H⟩ (.ff (.call Unit (fun _ => False) (fun _ => .int .i64 ib) (fun _ H' => H' = H) (fun _ _ => (.call Unit (fun _ => False) (fun _ => .bool ra) (fun _ H' => H' = H) (fun _ _ => (.br (.bs a ao (.v h (.call Unit (fun _ => False) (fun _ => .bool cb) (fun _ H' => H' = H) (fun _ _ => (.tt (.br (.tt (.br (.ff (.call Unit (fun _ => False) (fun _ => .bool true) (fun _ H' => H' = H) (fun _ _ => (.ff (.tt (.ff .stop)))))) (.ff (.ff .stop)))) (.ff (.ff (.ff (.ff .stop)))))))))) (.ff (.ff (.ff (.ff (.ff (.ff .stop))))))))))))) = (decide (k < (↑len : Int)) = false ∧ True ∧ (Ret P w0 19 [AV.ptr d 0, AV.int IntKind.i64 jb] H (fun (x : Nat) ↦ False) fun (v : AV) (H' : AH) ↦ ∃ (x : Unit), v = AV.int IntKind.i64 ib ∧ H' = H) ∧ Pok H (fun (x : Nat) ↦ False) (stackPend below) ∧ ∀ (x_1 : Unit) (H' : AH), H' = H → True ∧ (Ret P w0 12 [AV.ptr d 0, AV.int IntKind.i64 ia] H' (fun (x : Nat) ↦ False) fun (v : AV) (H' : AH) ↦ ∃ (x : Unit), v = AV.bool ra ∧ H' = H) ∧ Pok H' (fun (x : Nat) ↦ False) (stackPend below) ∧ ∀ (x_2 : Unit) (H' : AH), H' = H → (ra = true → SlAt x a ao ia ∧ rdAt H' a (ao + Int.toNat ia * 1) = some h ∧ True ∧ (Ret P w0 20 [h, AV.int IntKind.i64 jb] H' (fun (x : Nat) ↦ False) fun (v : AV) (H' : AH) ↦ ∃ (x : Unit), v = AV.bool cb ∧ H' = H) ∧ Pok H' (fun (x : Nat) ↦ False) (stackPend below) ∧ ∀ (x_3 : Unit) (H' : AH), H' = H → true = true ∧ (cb = true → true = true ∧ ((jb != (0 : Int)) = true → decide (ib < (0 : Int)) = false ∧ True ∧ (Ret P w0 17 [AV.ptr d 0, AV.int IntKind.i64 ib, AV.int IntKind.i64 ia] H' (fun (x : Nat) ↦ False) fun (v : AV) (H' : AH) ↦ ∃ (x : Unit), v = AV.bool true ∧ H' = H) ∧ Pok H' (fun (x : Nat) ↦ False) (stackPend below) ∧ ∀ (x_4 : Unit) (H' : AH), H' = H → false = false ∧ true = true ∧ (!true) = false ∧ K (AM.mk (w dtB (tl [z 0, z 1, z 2, AV.ptr d 0, z 4, z 5, x, AV.int IntKind.i64 ia, AV.int IntKind.i64 jb, z 9, AV.int IntKind.i64 ib, z 11, z 12, z 13, z 14, z 15, z 16, z 17, z 18, z 19, z 20, z 21, z 22, z 23, z 24, z 25, z 26, z 27, z 28, z 29, z 30, z 31, AV.int IntKind.i64 (↑len : Int), AV.int IntKind.i64 i, z 34, z 35, z 36, z 37, z 38, z 39, z 40, z 41, z 42, z 43, z 44, z 45, z 46, z 47, z 48, z 49, z 50, z 51, z 52, z 53, AV.int IntKind.i64 (↑len : Int), AV.int IntKind.i64 (IntKind.wrap IntKind.i64 (j + (1 : Int))), z 56, z 57, z 58, z 59, z 60, z 61, z 62, z 63, z 64, z 65, z 66, z 67, z 68, z 69, z 70, z 71, z 72, z 73, AV.int IntKind.i64 (↑len : Int), AV.int IntKind.i64 k, AV.bool false, z 77, z 78, z 79, z 80, z 81, z 82, z 83, z 84, z 85, z 86, z 87, z 88, z 89, z 90, z 91, z 92, z 93, z 94, z 95, z 96, z 97, z 98, z 99, z 100, z 101, z 102, z 103, z 104, z 105, z 106, z 107, z 108, z 109, z 110, z 111, z 112, z 113, z 114, z 115, z 116, z 117, z 118, z 119, z 120, z 121, AV.ptr d 0, AV.int IntKind.i64 jb, AV.int IntKind.i64 ib, AV.ptr d 0, AV.int IntKind.i64 ia, AV.bool ra, AV.bool true, x, AV.int IntKind.i64 ia, AV.ptr a (ao + Int.toNat ia * 1), h, AV.int IntKind.i64 jb, AV.bool cb, AV.bool cb, AV.bool true, AV.int IntKind.i64 jb, AV.bool (jb != (0 : Int)), AV.bool (jb != (0 : Int)), AV.bool true, AV.int IntKind.i64 ib, AV.bool (decide (ib < (0 : Int))), AV.bool false, AV.ptr d 0, AV.int IntKind.i64 ib, AV.int IntKind.i64 ia, AV.bool true, AV.bool !true, AV.bool !true, AV.bool false, AV.int IntKind.i64 (IntKind.wrap IntKind.i64 (j + (1 : Int))), z 152])) below H')) ∧ ((jb != (0 : Int)) = false → false = false ∧ false = false ∧ K (AM.mk (w dtB (tl [z 0, z 1, z 2, AV.ptr d 0, z 4, z 5, x, AV.int IntKind.i64 ia, AV.int IntKind.i64 jb, z 9, AV.int IntKind.i64 ib, z 11, z 12, z 13, z 14, z 15, z 16, z 17, z 18, z 19, z 20, z 21, z 22, z 23, z 24, z 25, z 26, z 27, z 28, z 29, z 30, z 31, AV.int IntKind.i64 (↑len : Int), AV.int IntKind.i64 i, z 34, z 35, z 36, z 37, z 38, z 39, z 40, z 41, z 42, z 43, z 44, z 45, z 46, z 47, z 48, z 49, z 50, z 51, z 52, z 53, AV.int IntKind.i64 (↑len : Int), AV.int IntKind.i64 (IntKind.wrap IntKind.i64 (j + (1 : Int))), z 56, z 57, z 58, z 59, z 60, z 61, z 62, z 63, z 64, z 65, z 66, z 67, z 68, z 69, z 70, z 71, z 72, z 73, AV.int IntKind.i64 (↑len : Int), AV.int IntKind.i64 k, AV.bool false, z 77, z 78, z 79, z 80, z 81, z 82, z 83, z 84, z 85, z 86, z 87, z 88, z 89, z 90, z 91, z 92, z 93, z 94, z 95, z 96, z 97, z 98, z 99, z 100, z 101, z 102, z 103, z 104, z 105, z 106, z 107, z 108, z 109, z 110, z 111, z 112, z 113, z 114, z 115, z 116, z 117, z 118, z 119, z 120, z 121, AV.ptr d 0, AV.int IntKind.i64 jb, AV.int IntKind.i64 ib, AV.ptr d 0, AV.int IntKind.i64 ia, AV.bool ra, AV.bool true, x, AV.int IntKind.i64 ia, AV.ptr a (ao + Int.toNat ia * 1), h, AV.int IntKind.i64 jb, AV.bool cb, AV.bool cb, AV.bool true, AV.int IntKind.i64 jb, AV.bool (jb != (0 : Int)), AV.bool (jb != (0 : Int)), AV.bool false, AV.tuple [], AV.tuple [], AV.tuple [], AV.tuple [], AV.tuple [], AV.tuple [], AV.tuple [], AV.tuple [], AV.tuple [], AV.bool false, AV.int IntKind.i64 (IntKind.wrap IntKind.i64 (j + (1 : Int))), z 152])) below H'))) ∧ (cb = false → false = false ∧ false = false ∧ false = false ∧ false = false ∧ K (AM.mk (w dtB (tl [z 0, z 1, z 2, AV.ptr d 0, z 4, z 5, x, AV.int IntKind.i64 ia, AV.int IntKind.i64 jb, z 9, AV.int IntKind.i64 ib, z 11, z 12, z 13, z 14, z 15, z 16, z 17, z 18, z 19, z 20, z 21, z 22, z 23, z 24, z 25, z 26, z 27, z 28, z 29, z 30, z 31, AV.int IntKind.i64 (↑len : Int), AV.int IntKind.i64 i, z 34, z 35, z 36, z 37, z 38, z 39, z 40, z 41, z 42, z 43, z 44, z 45, z 46, z 47, z 48, z 49, z 50, z 51, z 52, z 53, AV.int IntKind.i64 (↑len : Int), AV.int IntKind.i64 (IntKind.wrap IntKind.i64 (j + (1 : Int))), z 56, z 57, z 58, z 59, z 60, z 61, z 62, z 63, z 64, z 65, z 66, z 67, z 68, z 69, z 70, z 71, z 72, z 73, AV.int IntKind.i64 (↑len : Int), AV.int IntKind.i64 k, AV.bool false, z 77, z 78, z 79, z 80, z 81, z 82, z 83, z 84, z 85, z 86, z 87, z 88, z 89, z 90, z 91, z 92, z 93, z 94, z 95, z 96, z 97, z 98, z 99, z 100, z 101, z 102, z 103, z 104, z 105, z 106, z 107, z 108, z 109, z 110, z 111, z 112, z 113, z 114, z 115, z 116, z 117, z 118, z 119, z 120, z 121, AV.ptr d 0, AV.int IntKind.i64 jb, AV.int IntKind.i64 ib, AV.ptr d 0, AV.int IntKind.i64 ia, AV.bool ra, AV.bool true, x, AV.int IntKind.i64 ia, AV.ptr a (ao + Int.toNat ia * 1), h, AV.int IntKind.i64 jb, AV.bool cb, AV.bool cb, AV.bool false, AV.tuple [], AV.tuple [], AV.bool false, AV.bool false, AV.tuple [], AV.tuple [], AV.tuple [], AV.tuple [], AV.tuple [], AV.tuple [], AV.tuple [], AV.tuple [], AV.tuple [], AV.bool false, AV.int IntKind.i64 (IntKind.wrap IntKind.i64 (j + (1 : Int))), z 152])) below H'))) ∧ (ra = false → false = false ∧ false = false ∧ false = false ∧ false = false ∧ false = false ∧ false = false ∧ K (AM.mk (w dtB (tl [z 0, z 1, z 2, AV.ptr d 0, z 4, z 5, x, AV.int IntKind.i64 ia, AV.int IntKind.i64 jb, z 9, AV.int IntKind.i64 ib, z 11, z 12, z 13, z 14, z 15, z 16, z 17, z 18, z 19, z 20, z 21, z 22, z 23, z 24, z 25, z 26, z 27, z 28, z 29, z 30, z 31, AV.int IntKind.i64 (↑len : Int), AV.int IntKind.i64 i, z 34, z 35, z 36, z 37, z 38, z 39, z 40, z 41, z 42, z 43, z 44, z 45, z 46, z 47, z 48, z 49, z 50, z 51, z 52, z 53, AV.int IntKind.i64 (↑len : Int), AV.int IntKind.i64 (IntKind.wrap IntKind.i64 (j + (1 : Int))), z 56, z 57, z 58, z 59, z 60, z 61, z 62, z 63, z 64, z 65, z 66, z 67, z 68, z 69, z 70, z 71, z 72, z 73, AV.int IntKind.i64 (↑len : Int), AV.int IntKind.i64 k, AV.bool false, z 77, z 78, z 79, z 80, z 81, z 82, z 83, z 84, z 85, z 86, z 87, z 88, z 89, z 90, z 91, z 92, z 93, z 94, z 95, z 96, z 97, z 98, z 99, z 100, z 101, z 102, z 103, z 104, z 105, z 106, z 107, z 108, z 109, z 110, z 111, z 112, z 113, z 114, z 115, z 116, z 117, z 118, z 119, z 120, z 121, AV.ptr d 0, AV.int IntKind.i64 jb, AV.int IntKind.i64 ib, AV.ptr d 0, AV.int IntKind.i64 ia, AV.bool ra, AV.bool false, AV.tuple [], AV.tuple [], AV.tuple [], AV.tuple [], AV.tuple [], AV.tuple [], AV.bool false, AV.bool false, AV.tuple [], AV.tuple [], AV.bool false, AV.bool false, AV.tuple [], AV.tuple [], AV.tuple [], AV.tuple [], AV.tuple [], AV.tuple [], AV.tuple [], AV.tuple [], AV.tuple [], AV.bool false, AV.int IntKind.i64 (IntKind.wrap IntKind.i64 (j + (1 : Int))), z 152])) below H'))) := by kernel_rfl


section
variable {w0 : World} {H0 : AH} {S : Nat → Prop} {v : AV} {g : List (List Int)} {hs : List AV} {below : List AFr}

section
variable {G : List (List Int)} {sf : Seen} {done nodes : List Int} {upF : Fn}

/-- Who stands over whom, told as a truth. -/
noncomputable def OvB (nodes : List Int) (upF : Fn) (a b : Int) : Bool := overB (placeF (0 :: nodes) 0 fun _ => none) (ovF upF) a b

theorem Made.rch (M : Made G sf done nodes upF) (a : Int) : (placeF (0 :: nodes) 0 (fun _ => none) a).isSome = true ↔ a ∈ (0 :: nodes) := M.ord.plS a

open Classical in
theorem ovB_iff (M : Made G sf done nodes upF) (a b : Int) : OvB nodes upF a b = true ↔ a ∈ (0 :: nodes) ∧ b ∈ (0 :: nodes) ∧ On upF b a := by
  unfold OvB overB ovF
  rw [Bool.and_eq_true, Bool.and_eq_true, M.rch, M.rch, decide_eq_true_eq, and_assoc]

theorem On.root {up : Fn} {place : Int → Int} (T : Tree place up) : ∀ (k : Nat) (n : Int), (up n).isSome = true → place n < (k : Int) → On up n 0
  | 0, n, hn, hk => by have := T.nonneg n hn; omega
  | k + 1, n, hn, hk => by
    by_cases c : n = 0
    · subst c; exact .self 0
    · obtain ⟨u, hu⟩ := Option.isSome_iff_exists.1 hn
      obtain ⟨ku, lu⟩ := T.step n u hu c
      exact .next hu c (On.root T k u ku (by omega))

theorem ovB_self (M : Made G sf done nodes upF) (a : Int) : OvB nodes upF a a = (placeF (0 :: nodes) 0 (fun _ => none) a).isSome := by
  rw [Bool.eq_iff_iff, ovB_iff M, M.rch]
  exact ⟨fun h => h.1, fun h => ⟨h, h, .self a⟩⟩

theorem ovB_root (M : Made G sf done nodes upF) (a : Int) : OvB nodes upF 0 a = (placeF (0 :: nodes) 0 (fun _ => none) a).isSome := by
  rw [Bool.eq_iff_iff, ovB_iff M, M.rch]
  exact ⟨fun h => h.2.1, fun h => ⟨by simp, h, On.root M.fin.full.ok.tree (plc (placeF (0 :: nodes) 0 fun _ => none) a + 1).toNat a (M.known.2 h) (by omega)⟩⟩

theorem ovB_anti (M : Made G sf done nodes upF) {a b : Int} (hne : a ≠ b) (h : OvB nodes upF a b = true) : OvB nodes upF b a = false := by
  cases hc : OvB nodes upF b a with
  | false => rfl
  | true =>
    obtain ⟨ha, hb, h1⟩ := (ovB_iff M a b).1 h
    obtain ⟨_, _, h2⟩ := (ovB_iff M b a).1 hc
    have T := M.fin.full.ok.tree
    have l1 := (h1.known T (M.known.2 hb)).2
    have l2 := (h2.known T (M.known.2 ha)).2
    exact absurd (T.inj a b (M.known.2 ha) (M.known.2 hb) (by omega)) hne

theorem ovB_cmp (M : Made G sf done nodes upF) {a b c : Int} (h1 : OvB nodes upF a c = true) (h2 : OvB nodes upF b c = true) (h3 : OvB nodes upF a b = false) : OvB nodes upF b a = true := by
  obtain ⟨ha, hc, o1⟩ := (ovB_iff M a c).1 h1
  obtain ⟨hb, _, o2⟩ := (ovB_iff M b c).1 h2
  have T := M.fin.full.ok.tree
  rcases Int.le_total (plc (placeF (0 :: nodes) 0 fun _ => none) a) (plc (placeF (0 :: nodes) 0 fun _ => none) b) with l | l
  · have := o2.cmp T (M.known.2 hc) o1 l
    rw [(ovB_iff M a b).2 ⟨ha, hb, this⟩] at h3
    cases h3
  · exact (ovB_iff M b a).2 ⟨hb, ha, o1.cmp T (M.known.2 hc) o2 l⟩

theorem ovB_trans (M : Made G sf done nodes upF) {a b c : Int} (h1 : OvB nodes upF a b = true) (h2 : OvB nodes upF b c = true) : OvB nodes upF a c = true := by
  obtain ⟨ha, hb, o1⟩ := (ovB_iff M a b).1 h1
  obtain ⟨_, hc, o2⟩ := (ovB_iff M b c).1 h2
  exact (ovB_iff M a c).2 ⟨ha, hc, o2.trans o1⟩

/-- The nearest stands over each from which a way comes. -/
theorem ovB_edge (M : Made G sf done nodes upF) {a b : Int} (ha : (placeF (0 :: nodes) 0 (fun _ => none) a).isSome = true) (hab : b ∈ G.getD a.toNat []) (hb : b ≠ 0) :
    ∃ u, (if (placeF (0 :: nodes) 0 (fun _ => none) b).isSome = true then (idomF upF G.length).getD b.toNat (-1) else -1) = u ∧ 0 ≤ u ∧ OvB nodes upF u a = true := by
  have ham := (M.rch a).1 ha
  have hbm := M.ord.closed a ham b hab
  have hbn : b ∈ nodes := by
    rcases List.mem_cons.1 hbm with e | e
    · exact absurd e hb
    · exact e
  obtain ⟨u, hu⟩ := Option.isSome_iff_exists.1 (M.known.2 hbm)
  have ho := M.fin.fix b hbn u hu a ((M.ord.preds b hbn a).2 ⟨ham, hab⟩)
  have hum := M.known.1 (M.fin.full.ok.tree.step b u hu hb).1
  refine ⟨u, ?_, (M.ord.range u hum).1, (ovB_iff M u a).2 ⟨hum, ham, ho⟩⟩
  rw [if_pos ((M.rch b).2 hbm), M.idom hbm, if_neg hb, hu]
  rfl

variable {H : AH} {d : Nat} {S2 : Nat → Prop} {vg vp vo vi x : AV} {pm : Nat} {hs' xs : List AV}

def dtAh (d : Nat) (x : AV) (len : Nat) (i : Int) : List (Nat × AV) := [(3, .ptr d 0), (6, x), (32, .int .i64 len), (33, .int .i64 i)]

def dtBh (d : Nat) (x : AV) (len : Nat) (i ia j : Int) : List (Nat × AV) := [(3, .ptr d 0), (6, x), (7, .int .i64 ia), (32, .int .i64 len), (33, .int .i64 i), (54, .int .i64 len), (55, .int .i64 j)]

def dtCh (d : Nat) (x : AV) (len : Nat) (i ia j jb k : Int) : List (Nat × AV) := [(3, .ptr d 0), (6, x), (7, .int .i64 ia), (8, .int .i64 jb), (32, .int .i64 len), (33, .int .i64 i), (54, .int .i64 len), (55, .int .i64 j), (74, .int .i64 len), (75, .int .i64 k)]

/-- What the loops of DomTree stand on. -/
structure TEnv (G : List (List Int)) (sf : Seen) (done nodes : List Int) (upF : Fn) (H : AH) (S S2 : Nat → Prop) (d : Nat) (vg vp vo vi x : AV) (pm : Nat) (hs' xs : List AV) (below : List AFr) : Prop where
  M : Made G sf done nodes upF
  D : DomIs H S d G (0 :: nodes) (placeF (0 :: nodes) 0 fun _ => none) (idomF upF G.length) vg vp vo vi pm hs'
  hp : Pok H (fun _ => False) (stackPend below)
  mat : Mat H S2 x G xs
  le : G.length ≤ 24
  rows : ∀ l ∈ G, l.length ≤ 24

theorem TEnv.al (E : TEnv G sf done nodes upF H S S2 d vg vp vo vi x pm hs' xs below) : aLen P H 22 x = some (.int .i64 (G.length : Nat), []) := by rw [← E.mat.len]; exact E.mat.top.aLen et22.und

theorem TEnv.over (E : TEnv G sf done nodes upF H S S2 d vg vp vo vi x pm hs' xs below) (a b : Int) : Ret P w0 17 [.ptr d 0, .int .i64 a, .int .i64 b] H (fun _ => False) fun y H' => ∃ _ : Unit, y = .bool (OvB nodes upF a b) ∧ H' = H := (overB_ret E.D E.M.hO E.M.hV a b).mono fun y H' q => ⟨(), q⟩

theorem TEnv.rch (E : TEnv G sf done nodes upF H S S2 d vg vp vo vi x pm hs' xs below) (a : Int) : Ret P w0 12 [.ptr d 0, .int .i64 a] H (fun _ => False) fun y H' => ∃ _ : Unit, y = .bool (placeF (0 :: nodes) 0 (fun _ => none) a).isSome ∧ H' = H := (reach_ret E.D a).mono fun y H' q => ⟨(), q⟩

theorem dtC_loop (E : TEnv G sf done nodes upF H S S2 d vg vp vo vi x pm hs' xs below) {R : AV → AH → Prop} {i j : Nat} (hi : i < G.length) (hj : j < G.length)
    (hend : ∀ z, Leads P w0 (RetK P 6 below R) ⟨w dtB (setL (tz 153 z) (dtBh d x G.length i i (j + 1 : Nat))), below, H⟩) :
    ∀ (n k : Nat), k + n = G.length → ∀ z, Leads P w0 (RetK P 6 below R) ⟨w dtC (setL (tz 153 z) (dtCh d x G.length i i j j k)), below, H⟩ := by
  have hle := E.le
  intro n
  induction n with
  | zero =>
    intro k hk z
    have hgi : G[i]? = some G[i] := List.getElem?_eq_getElem hi
    obtain ⟨a, ao, h, p1, p2, _, p4, _⟩ := E.mat.at hgi
    have hcb := (contains_ret (w0 := w0) p4 (by have := E.rows G[i] (List.getElem_mem hi); unfold big; omega) (j : Int)).mono (R' := fun y H' => ∃ _ : Unit, y = .bool (decide ((j : Int) ∈ G[i])) ∧ H' = H) fun y H' q => ⟨(), q⟩
    have hid := idom_ret (w0 := w0) E.D (j : Int) (fun hr => by
      have := E.M.ord.range _ ((E.M.rch _).1 hr)
      simpa [idomF] using this)
    have key : ∀ (hra : (placeF (0 :: nodes) 0 (fun _ => none) (i : Int)).isSome = true) (hcb : decide ((j : Int) ∈ G[i]) = true) (hj0 : ((j : Int) != 0) = true), ∃ u, (if (placeF (0 :: nodes) 0 (fun _ => none) (j : Int)).isSome = true then (idomF upF G.length).getD (j : Int).toNat (-1) else -1) = u ∧ 0 ≤ u ∧ OvB nodes upF u i = true := fun hra hcb hj0 =>
      ovB_edge E.M hra (by
        rw [Int.toNat_natCast, List.getD_eq_getElem?_getD, hgi]
        simpa using hcb) (by simpa using hj0)
    have fin : ∀ H', H' = H → ∀ z, Leads P w0 (RetK P 6 below R) ⟨w dtB (setL (tz 153 z) (dtBh d x G.length i i (IntKind.wrap .i64 ((j : Int) + 1)))), below, H'⟩ := fun H' he z => by
      rw [he, wrap1 j (by omega)]
      exact hend z
    refine Leads.go fine (dtCe w0 _ _ below z d G.length x i j k i j (if (placeF (0 :: nodes) 0 (fun _ => none) (j : Int)).isSome = true then (idomF upF G.length).getD (j : Int).toNat (-1) else -1) (placeF (0 :: nodes) 0 (fun _ => none) (i : Int)).isSome (decide ((j : Int) ∈ G[i])) a ao h H) rfl
      ⟨by simp; omega, trivial, hid.mono fun y H' q => ⟨(), q⟩, E.hp, fun _ H1 e1 => ?_⟩
    subst e1
    refine ⟨trivial, E.rch i, E.hp, fun _ H2 e2 => ?_⟩
    subst e2
    refine ⟨fun hra => ⟨p1, by simpa using p2, trivial, hcb, E.hp, fun _ H3 e3 => ?_⟩, fun _ => ⟨rfl, rfl, rfl, rfl, rfl, rfl, Leads.at (dtBh d x G.length i i (IntKind.wrap .i64 ((j : Int) + 1))) (by kernel_rfl) (fin _ rfl)⟩⟩
    subst e3
    refine ⟨rfl, fun hcb => ⟨rfl, fun hj0 => ?_, fun _ => ⟨rfl, rfl, Leads.at (dtBh d x G.length i i (IntKind.wrap .i64 ((j : Int) + 1))) (by kernel_rfl) (fin _ rfl)⟩⟩, fun _ => ⟨rfl, rfl, rfl, rfl, Leads.at (dtBh d x G.length i i (IntKind.wrap .i64 ((j : Int) + 1))) (by kernel_rfl) (fin _ rfl)⟩⟩
    obtain ⟨u, hu, hu0, huo⟩ := key hra hcb hj0
    rw [hu]
    have hov := E.over (w0 := w0) u i
    rw [huo] at hov
    exact ⟨by simp; omega, trivial, hov, E.hp, fun _ H4 e4 => ⟨rfl, rfl, rfl, Leads.at (dtBh d x G.length i i (IntKind.wrap .i64 ((j : Int) + 1))) (by kernel_rfl) (fin _ e4)⟩⟩
  | succ n ih =>
    intro k hk z
    have nxt : ∀ H', H' = H → ∀ z, Leads P w0 (RetK P 6 below R) ⟨w dtC (setL (tz 153 z) (dtCh d x G.length i i j j (IntKind.wrap .i64 ((k : Int) + 1)))), below, H'⟩ := fun H' he z => by
      rw [he, wrap1 k (by omega)]
      exact ih (k + 1) (by omega) z
    have go : ∀ H', H' = H → ∀ {l : List AV}, tl l = setL (tz l.length (nthD l)) (dtCh d x G.length i i j j (IntKind.wrap .i64 ((k : Int) + 1))) → l.length = 153 → Leads P w0 (RetK P 6 below R) ⟨w dtC (tl l), below, H'⟩ := fun H' he {l} h1 h2 =>
      Leads.at (dtCh d x G.length i i j j (IntKind.wrap .i64 ((k : Int) + 1))) h1 (by rw [h2]; exact nxt H' he)
    have ac := E.over (w0 := w0) (i : Int) (k : Int)
    have bc := E.over (w0 := w0) (j : Int) (k : Int)
    have ab := E.over (w0 := w0) (i : Int) (j : Int)
    have ba := E.over (w0 := w0) (j : Int) (i : Int)
    have hp := E.hp
    refine Leads.go fine (dtCr w0 _ _ below z d G.length x i j k i j (OvB nodes upF i k) (OvB nodes upF j k) (OvB nodes upF i j) (OvB nodes upF j i) H) rfl ⟨by simp; omega, trivial, ac, hp, fun _ H1 e1 => ⟨fun hac => ?_, fun hac => ?_⟩⟩
    · rw [e1]
      refine ⟨trivial, bc, hp, fun _ H2 e2 => ⟨rfl, fun hbc => ?_, fun hbc => ?_⟩⟩
      · rw [e2]
        refine ⟨trivial, ab, hp, fun _ H3 e3 => ⟨rfl, fun hab => ?_, fun hab => ?_⟩⟩
        · rw [e3]
          have hab : OvB nodes upF i j = false := by simpa using hab
          refine ⟨trivial, ba, hp, fun _ H4 e4 => ⟨rfl, by rw [ovB_cmp E.M hac hbc hab]; rfl, ?_⟩⟩
          rw [e4]
          exact ⟨trivial, ab, hp, fun _ H5 e5 => ⟨hab, rfl, rfl, rfl, rfl, rfl, go _ e5 (by kernel_rfl) rfl⟩⟩
        · rw [e3]
          have hab : OvB nodes upF i j = true := by simpa using hab
          refine ⟨rfl, rfl, trivial, ab, hp, fun _ H4 e4 => ⟨hab, ?_⟩⟩
          rw [e4]
          refine ⟨trivial, bc, hp, fun _ H5 e5 => ⟨rfl, hbc, ?_⟩⟩
          rw [e5]
          exact ⟨trivial, ac, hp, fun _ H6 e6 => ⟨rfl, rfl, by rw [hac]; rfl, go _ e6 (by kernel_rfl) rfl⟩⟩
      · rw [e2]
        refine ⟨rfl, rfl, rfl, rfl, trivial, ab, hp, fun _ H3 e3 => ⟨fun hab => ?_, fun hab => ⟨rfl, rfl, rfl, rfl, rfl, go _ e3 (by kernel_rfl) rfl⟩⟩⟩
        rw [e3]
        exact ⟨trivial, bc, hp, fun _ H4 e4 => ⟨rfl, hbc, rfl, rfl, rfl, go _ e4 (by kernel_rfl) rfl⟩⟩
    · rw [e1]
      refine ⟨rfl, rfl, rfl, rfl, rfl, rfl, trivial, ab, hp, fun _ H3 e3 => ⟨fun hab => ?_, fun hab => ⟨rfl, rfl, rfl, rfl, rfl, go _ e3 (by kernel_rfl) rfl⟩⟩⟩
      rw [e3]
      refine ⟨trivial, bc, hp, fun _ H4 e4 => ⟨rfl, ?_, rfl, rfl, rfl, go _ e4 (by kernel_rfl) rfl⟩⟩
      cases hbc : OvB nodes upF (j : Int) (k : Int) with
      | false => rfl
      | true => rw [ovB_trans E.M hab hbc] at hac; cases hac

theorem dtB_loop (E : TEnv G sf done nodes upF H S S2 d vg vp vo vi x pm hs' xs below) {R : AV → AH → Prop} {i : Nat} (hi : i < G.length)
    (hend : ∀ z, Leads P w0 (RetK P 6 below R) ⟨w dtA (setL (tz 153 z) (dtAh d x G.length (i + 1 : Nat))), below, H⟩) :
    ∀ (n j : Nat), j + n = G.length → ∀ z, Leads P w0 (RetK P 6 below R) ⟨w dtB (setL (tz 153 z) (dtBh d x G.length i i j)), below, H⟩ := by
  have hle := E.le
  intro n
  induction n with
  | zero =>
    intro j hj z
    refine Leads.go fine (dtBe w0 _ _ below z d G.length x i j i H) rfl ⟨by simp; omega, ?_⟩
    rw [wrap1 i (by omega)]
    exact Leads.at (dtAh d x G.length (i + 1 : Nat)) (by kernel_rfl) hend
  | succ n ih =>
    intro j hj z
    have nxt : ∀ H', H' = H → ∀ z, Leads P w0 (RetK P 6 below R) ⟨w dtC (setL (tz 153 z) (dtCh d x G.length i i j j (0 : Nat))), below, H'⟩ := fun H' he z => by
      rw [he]
      exact dtC_loop E hi (by omega) (ih (j + 1) (by omega)) G.length 0 (by omega) z
    have ab := E.over (w0 := w0) (i : Int) (j : Int)
    have ba := E.over (w0 := w0) (j : Int) (i : Int)
    have hp := E.hp
    refine Leads.go fine (dtBr w0 _ _ below z d G.length x i j i (OvB nodes upF i j) H) rfl ⟨by simp; omega, fun hne => ⟨trivial, ab, hp, fun _ H1 e1 => ⟨rfl, fun hab => ?_, fun hab => ?_⟩⟩, fun hne => ⟨rfl, rfl, rfl, rfl, E.al, Leads.at (dtCh d x G.length i i j j (0 : Nat)) (by kernel_rfl) (nxt _ rfl)⟩⟩
    · have hne : (i : Int) ≠ (j : Int) := by simpa using hne
      rw [ovB_anti E.M hne hab] at ba
      rw [e1]
      refine ⟨trivial, ba, hp, fun _ H2 e2 => ⟨rfl, rfl, ?_, Leads.at (dtCh d x G.length i i j j (0 : Nat)) (by kernel_rfl) (nxt _ e2)⟩⟩
      rw [e2]
      exact E.al
    · refine ⟨rfl, rfl, ?_, Leads.at (dtCh d x G.length i i j j (0 : Nat)) (by kernel_rfl) (nxt _ e1)⟩
      rw [e1]
      exact E.al

theorem dtA_loop (E : TEnv G sf done nodes upF H S S2 d vg vp vo vi x pm hs' xs below) {R : AV → AH → Prop} (hR : R (.bool true) H) :
    ∀ (n i : Nat), i + n = G.length → ∀ z, Leads P w0 (RetK P 6 below R) ⟨w dtA (setL (tz 153 z) (dtAh d x G.length i)), below, H⟩ := by
  intro n
  induction n with
  | zero =>
    intro i hi z
    exact Leads.go fine (dtAe w0 _ _ below z d G.length x i H) rfl ⟨by simp; omega, hR⟩
  | succ n ih =>
    intro i hi z
    have hp := E.hp
    have aa := E.over (w0 := w0) (i : Int) (i : Int)
    have oa := E.over (w0 := w0) 0 (i : Int)
    rw [ovB_self E.M] at aa
    rw [ovB_root E.M] at oa
    have ra := E.rch (w0 := w0) (i : Int)
    have hx : ∀ b : Bool, (!b == b) = false := fun b => by cases b <;> rfl
    refine Leads.go fine (dtAr w0 _ _ below z d G.length x i (placeF (0 :: nodes) 0 (fun _ => none) (i : Int)).isSome H) rfl ⟨by simp; omega, trivial, aa, hp, fun _ H1 e1 => ?_⟩
    rw [e1]
    refine ⟨trivial, ra, hp, fun _ H2 e2 => ?_⟩
    rw [e2]
    refine ⟨by simp, trivial, oa, hp, fun _ H3 e3 => ?_⟩
    rw [e3]
    refine ⟨trivial, ra, hp, fun _ H4 e4 => ?_⟩
    rw [e4]
    exact ⟨rfl, by simp, E.al, Leads.at (dtBh d x G.length i i (0 : Nat)) (by kernel_rfl) (dtB_loop E (by omega) (ih (i + 1) (by omega)) G.length 0 (by omega))⟩
end

/-- DomTree IS TRUE. -/
theorem dtree_ret (hmat : MatB H0 S v g hs) (hS : ∀ m, S m → m < H0.nx) : Ret P w0 6 [v] H0 (fun _ => False) (KR H0) := Ret.mk fun below hp => by
  refine Leads.wf fun hw => ?_
  by_cases hg : g = []
  · refine Leads.go fine (dt0E w0 _ _ below v g.length H0 (fun H1 => Kept (fun _ => False) H0 H1 ∧ Wf H1) (fun H1 H2 => Kept (fun _ => False) H1 H2) (fun _ _ => True)) (by kernel_rfl)
      ⟨trivial, (both_nil hmat hS hg).mono fun y H1 q => ⟨(), q.1.1, q.1.2, q.2⟩, hp, fun _ H1 q => ⟨rfl, rfl, rfl, trivial, live_ret.mono fun y H2 q => ⟨(), q⟩, pokK hw hp q.1, fun _ H2 k2 => ⟨rfl, ?_, rfl, ?_, q.1.trans k2⟩⟩⟩
    · have := (hmat.congr (H' := H2) fun m hm => (q.1.trans k2).get m (hS m hm) (fun h => h)).top.aLen (P := P) et41
      rw [hmat.len] at this
      exact this
    · rw [hg]; rfl
  · obtain ⟨sf, done, nodes, upF, M⟩ := made (cutG_good hmat.byte) (cutG_pos hg)
    refine Leads.go fine (dt0O w0 _ _ below v H0 (fun p H1 => BothO H0 g sf done nodes upF p.1 p.2 H1 ∧ Wf H1) (fun H1 H2 => Kept (fun _ => False) H1 H2 ∧ Wf H2)) (by kernel_rfl)
      ⟨trivial, (both_ok hmat hS hg M).mono fun y H1 q => ?_, hp, fun p H1 q => ?_⟩
    · obtain ⟨⟨p, q1, q2⟩, q3⟩ := q
      exact ⟨p, q1, q2, q3⟩
    · obtain ⟨⟨⟨vg, vp, vo, vi, pm, hs', hD⟩, _, k1⟩, w1⟩ := q
      have hp1 := pokK hw hp k1
      refine ⟨rfl, trivial, live_ret.wf.mono fun y H2 q => ⟨(), q.1.1, q.1.2, q.2⟩, hp1, fun _ H2 q => ⟨rfl, rfl, ?_⟩⟩
      obtain ⟨k2, w2⟩ := q
      have hp2 := pokK w1 hp1 k2
      have hD2 := hD.congr (H' := H2) fun m hm => k2.get m hm.2 (fun h => h)
      have n1 := k1.nx
      have n2 := k2.nx
      have hm2 : MatB H2 S v g hs := hmat.congr fun m hm => (k1.trans k2).get m (hS m hm) (fun h => h)
      refine Leads.at [(0, v), (3, .ptr p.1 0)] (by kernel_rfl) fun z => ?_
      refine Leads.go fine (dt1 w0 _ _ below z p.1 (cutG g).length v H2 fun x H3 => CutQ H2 g x H3 ∧ Wf H3) rfl
        ⟨trivial, (cut_ret hm2 fun m hm => by have := hS m hm; omega).mono fun y H3 q => ⟨y, rfl, q⟩, hp2, fun x H3 q => ?_⟩
      obtain ⟨⟨⟨os, hmx, _⟩, _, k3⟩, w3⟩ := q
      have hD3 := hD2.congr (H' := H3) fun m hm => k3.get m (by have := hm.2; omega) (fun h => h)
      have E : TEnv (cutG g) sf done nodes upF H3 (fun m => H0.nx ≤ m ∧ m < H1.nx) (fun m => H2.nx ≤ m ∧ m < H3.nx) p.1 vg vp vo vi x pm hs' os below := ⟨M, hD3, pokK w2 hp2 k3, hmx, cutG_le g, fun l hl => cutG_row hl⟩
      exact ⟨E.al, Leads.at (dtAh p.1 x (cutG g).length (0 : Nat)) (by kernel_rfl) (dtA_loop E ⟨rfl, (k1.trans k2).trans k3⟩ (cutG g).length 0 (by omega))⟩
end
end Go.Dm
/- Contracts over the store of names, out of contracts over worlds; out of runs of functions that are closed but for numbers. -/
set_option linter.unusedVariables false
set_option linter.unusedSimpArgs false
namespace Go.Sy
open Go Go.Sx Go.RowKit

section
variable {P : Program} {w0 w w' : World} {E E' : Env}
/-- A frame that is entered is told by its store. -/
theorem entry_one {ι : Val} {fr : AFr} {f1 f2 : Frame} {c : Code} (ht : fr.todo = [.code c]) (hd : fr.defers = []) (hr : fr.ret = false) (hn : fr.rnd = none) (h1 : FRel P E ι w fr f1) (h2 : FRel P E ι w fr f2) : f1 = f2 := by
  obtain ⟨b1, a1, ct1, V1, g1⟩ := h1
  obtain ⟨b2, a2, ct2, V2, g2⟩ := h2
  have e1 := g1.frame.1 hr
  have e2 := g2.frame.1 hr
  have t1 := g1.todo
  have t2 := g2.todo
  rw [ht] at t1 t2
  unfold TodoR at t1 t2
  simp only at t1 t2
  have its : ∀ {ct : List Item}, ItsR E [.code c] ct → ct = [.code c] := fun h => by
    cases h with
    | cons h3 h4 =>
      cases h3
      cases h4
      rfl
  have d : ∀ {a : Act}, DefR E ι fr.defers a.defers → a.defers = [] := fun {a} h => by
    rw [hd] at h
    cases hx : a.defers with
    | nil => rfl
    | cons _ _ => rw [hx] at h; exact h.elim
  have r : ∀ {b : Frame}, RndR E fr.rnd b.roundOf → b.roundOf = none := fun {b} h => by
    rw [hn] at h
    cases hx : b.roundOf with
    | none => rfl
    | some _ => rw [hx] at h; exact h.elim
  have hV : V1 = V2 := by
    apply Array.ext_getElem?
    intro i
    have q1 := g1.tm.2 i
    have q2 := g2.tm.2 i
    rw [q1] at q2
    have q := Option.some.inj q2
    have s1 := g1.tm.1
    have s2 := g2.tm.1
    by_cases hi : i < V1.size
    · rw [Array.getD_eq_getD_getElem?, Array.getD_eq_getD_getElem?, Array.getElem?_eq_getElem hi, Array.getElem?_eq_getElem (by omega)] at q
      simp only [Option.getD_some] at q
      rw [Array.getElem?_eq_getElem hi, Array.getElem?_eq_getElem (by omega), q]
    · rw [Array.getElem?_eq_none (by omega), Array.getElem?_eq_none (by omega)]
  rw [e1, e2]
  unfold Frame.atR
  rw [g1.fn, g2.fn, t1.1, t2.1, hV, its t1.2, its t2.2, d g1.defs, d g2.defs, g1.kind, g2.kind, r g1.rnd, r g2.rnd]
theorem enterFr_form {f : FuncId} {args : List AV} {fr : AFr} (h : enterFr P f args = some fr) : ∃ c, fr.todo = [.code c] ∧ fr.defers = [] ∧ fr.ret = false ∧ fr.rnd = none := by
  unfold enterFr at h
  split at h
  · split at h
    · simp only [Option.some.injEq] at h
      subst h
      exact ⟨_, rfl, rfl, rfl, rfl⟩
    · cases h
  · cases h
/-- A CONTRACT OUT OF A CALL's. -/
theorem Ret.of_calls {f : FuncId} {args : List AV} {H : AH} {W : Nat → Prop} {R : AV → AH → Prop} (ha : ∀ E w, HR noBase w0 E noArgs H w → ∃ cargs, cvs E noArgs args = some cargs)
    (h : ∀ E w cargs, HR noBase w0 E noArgs H w → cvs E noArgs args = some cargs → Calls P f cargs.toArray w fun e w' => ∃ v c E' H', e = .returned c ∧ Ext E E' ∧ HR noBase w0 E' noArgs H' w' ∧ cv E' noArgs v = some c ∧ R v H' ∧
      ∀ n o, H.get n = some o → ¬ W n → ∀ e, E[n]? = some e → w'.heap[e.1]? = w.heap[e.1]?) : Ret P w0 f args H W R := fun fr hfr below hp base M hM => by
  obtain ⟨E, w, fr', cs, rfl, hh, hf, hfs⟩ := hM
  obtain ⟨cargs, hc⟩ := ha E w hh
  obtain ⟨c, q1, q2, q3, q4⟩ := enterFr_form hfr
  have : fr' = Frame.enter P f cargs.toArray .normal := entry_one q1 q2 q3 q4 hf (enterFr_ok hc hfr)
  subst this
  obtain ⟨e, w', frm, ⟨v, cc, E', H', rfl, hE, hh', hcv, hR, hkeep⟩, hst, hfn, hlv⟩ := h E w cargs hh hc (cs ++ base)
  refine ⟨_, hst, E', w', frm, cs, v, cc, H', rfl, hh', hfs.later hE fun p hpp e he => ?_, hfn, hlv, hcv, hR⟩
  obtain ⟨h1, h2⟩ := hp p hpp
  obtain ⟨o, ho⟩ := Option.isSome_iff_exists.1 h1
  exact hkeep p o ho h2 e he
/-- The store stands, where nothing that was there has turned. -/
theorem HR.stay {H : AH} (h : HR noBase w0 E noArgs H w) (g : Below w.heap.size w w') : HR noBase w0 E noArgs H w' := by
  obtain ⟨g1, g2, g3, g4, g5⟩ := g
  refine ⟨h.below.then g1 g2 g3 g4 fun k hk _ => g5 k (Nat.lt_of_lt_of_le hk h.base), Nat.le_trans h.base g4, h.nx, fun n e he => Nat.lt_of_lt_of_le (h.inb n e he) g4, fun n o ho => ?_, h.sep, h.pc, h.own, h.ext⟩
  obtain ⟨e, he, hr⟩ := h.obj n o ho
  exact ⟨e, he, by rw [g5 e.1 (h.inb n e he)]; exact hr⟩
/-- Numbers that are handed on, unknown. -/
def opqs : Nat → List AV → List AV
  | _, [] => []
  | i, .int _ _ :: r => .opq i :: opqs (i + 1) r
  | i, a :: r => a :: opqs i r
def numV : List AV → List Value
  | [] => []
  | .int k n :: r => .int k n :: numV r
  | _ :: r => numV r
def valOf (l : List Value) : Val := { v := fun i => l.getD i (.bool false) }
theorem valOf_ok {l : List Value} (h : ∀ v ∈ l, v.oneCell' = true) : Scalars (valOf l) := fun i => by
  show (l.getD i (.bool false)).oneCell' = true
  rw [List.getD_eq_getElem?_getD]
  cases hx : l[i]? with
  | none => rfl
  | some c => exact h c (List.mem_of_getElem? hx)
theorem numV_one : ∀ (l : List AV), ∀ v ∈ numV l, v.oneCell' = true
  | [], v, h => by simp [numV] at h
  | a :: r, v, h => by
    cases a with
    | int k n =>
      rcases List.mem_cons.1 h with rfl | h
      · rfl
      · exact numV_one r v h
    | _ => exact numV_one r v h
/-- A FUNCTION THAT IS HANDED NUMBERS AND NIL ALONE: its run, whatever the numbers. -/
theorem Ret.of_run (hP : Fine P) {f : FuncId} {args : List AV} {H : AH} {k : AV} {fuel : Nat} (num : List Value) (hnum : ∀ v ∈ num, v.oneCell' = true) (args' : List AV) (hargs : ∀ E, cvs E (valOf num) args' = cvs E noArgs args) (hcl : ∃ c, cvs [] noArgs args = some c) (test : AV → Bool)
    (hrun : runsAt P fuel f args' emptyH (fun v _ => test v) = true) (hk : ∀ v, test v = true → v = k) (hkc : ∃ c, ∀ E ι, cv E ι k = some c) : Ret P w0 f args H (fun _ => False) fun v H' => v = k ∧ H' = H := by
  obtain ⟨ca, hca⟩ := hcl
  obtain ⟨ck, hck⟩ := hkc
  have hE : ∀ E : Env, cvs E noArgs args = some ca := fun E => cvs_ext (fun n e he => by simp at he) _ _ hca
  refine Ret.of_calls (fun E w _ => ⟨ca, hE E⟩) fun E w cargs hh hc => ?_
  rw [hE E] at hc
  injection hc with hc
  subst hc
  have hh0 : HR noBase w [] (valOf num) emptyH w := ⟨Stay.refl _ _, Nat.le_refl _, rfl, fun n e he => (by simp at he), fun n o ho => (by rw [get_emptyH] at ho; cases ho), fun n m o p e d ho => (by rw [get_emptyH] at ho; cases ho), (by simp [emptyH]), fun n o e ho => (by rw [get_emptyH] at ho; cases ho), fun _ _ h => h⟩
  refine (calls_gen hP (valOf_ok hnum) (B := noBase) (w := w) hh0 (args := args') (cargs := ca) (by show cvs [] (valOf num) args' = _; rw [hargs, hE]) hrun).mono fun e w' h => ?_
  obtain ⟨A, E2, v, c, h1, _, h3, rfl, h5⟩ := h
  have := hk v h1
  subst this
  rw [hck] at h3
  injection h3 with h3
  subst h3
  have bel : Below w.heap.size w w' := ⟨h5.below.os, h5.below.tape, h5.below.output, h5.below.size, fun k hk => h5.below.block k hk (fun h => h)⟩
  exact ⟨v, ck, E, H, rfl, Ext.refl _, HR.stay hh bel, hck _ _, ⟨rfl, rfl⟩, fun n o ho _ e he => (by obtain ⟨_, _, _, _, b5⟩ := bel; exact b5 e.1 (hh.inb n e he))⟩
/-! ### Runs over some rows that are read only -/
mutual
/-- Names and numbers laid into what a run was told. -/
def ren (ns : List Nat) (num : List AV) : AV → AV
  | .ptr n off => .ptr (ns.getD n 0) off
  | .slice n off l c => .slice (ns.getD n 0) off l c
  | .func f a b => .func f (renL ns num a) (renL ns num b)
  | .opq i => num.getD i (.bool false)
  | v => v
def renL (ns : List Nat) (num : List AV) : List AV → List AV
  | [] => []
  | v :: r => ren ns num v :: renL ns num r
end
mutual
def renOk (L M : Nat) : AV → Bool
  | .ptr n _ => Nat.blt n L
  | .slice n _ _ _ => Nat.blt n L
  | .func _ a b => renOkL L M a && renOkL L M b
  | .opq i => Nat.blt i M
  | .int _ _ => true
  | .bool _ => true
  | .nptr => true
  | .nslice _ _ => true
  | .nmap => true
  | .nfunc => true
  | _ => false
def renOkL (L M : Nat) : List AV → Bool
  | [] => true
  | v :: r => renOk L M v && renOkL L M r
end
theorem renL_map (ns : List Nat) (num : List AV) : ∀ l, renL ns num l = l.map (ren ns num)
  | [] => by unfold renL; rfl
  | v :: r => by unfold renL; rw [renL_map ns num r]; rfl
theorem renOkL_mem {L M : Nat} : ∀ {l : List AV}, renOkL L M l = true → ∀ v ∈ l, renOk L M v = true
  | v :: r, h, x, hx => by
    unfold renOkL at h
    rw [Bool.and_eq_true] at h
    rcases List.mem_cons.1 hx with rfl | hx
    · exact h.1
    · exact renOkL_mem h.2 x hx
def numOf (num : List AV) : List Value := num.map fun a => match a with | .int k n => .int k n | _ => .bool false
section
variable {E Es : Env} {ns : List Nat} {num : List AV}
mutual
theorem cv_ren (hE : ∀ i, i < ns.length → Es[i]? = E[ns.getD i 0]?) (hn : ∀ a ∈ num, ∃ k n, a = .int k n) : ∀ v, renOk ns.length num.length v = true → cv Es (valOf (numOf num)) v = cv E noArgs (ren ns num v)
  | .bool b, _ => by simp [ren, cv]
  | .int k n, _ => by simp [ren, cv]
  | .str s, h => by simp [renOk] at h
  | .nptr, _ => by simp [ren, cv]
  | .ptr n off, h => by
    simp only [renOk, Nat.blt_eq] at h
    simp only [ren, cv, hE n h]
  | .nslice l k, _ => by simp [ren, cv]
  | .slice n off len cap, h => by
    simp only [renOk, Nat.blt_eq] at h
    simp only [ren, cv, hE n h]
  | .eslice n off len sz, h => by simp [renOk] at h
  | .zslice n off l sz, h => by simp [renOk] at h
  | .hslice a, h => by simp [renOk] at h
  | .sym k e, h => by simp [renOk] at h
  | .symb s pos, h => by simp [renOk] at h
  | .nmap, _ => by simp [ren, cv]
  | .map n, h => by simp [renOk] at h
  | .func f a b, h => by
    simp only [renOk, Bool.and_eq_true] at h
    simp only [ren, cv, cvs_ren hE hn a h.1, cvs_ren hE hn b h.2]
  | .yld n, h => by simp [renOk] at h
  | .nfunc, _ => by simp [ren, cv]
  | .iface t v, h => by simp [renOk] at h
  | .niface, h => by simp [renOk] at h
  | .agg l, h => by simp [renOk] at h
  | .tuple l, h => by simp [renOk] at h
  | .opq i, h => by
    simp only [renOk, Nat.blt_eq] at h
    have hx : num[i]? = some num[i] := List.getElem?_eq_getElem h
    obtain ⟨k, n, hk⟩ := hn num[i] (List.getElem_mem h)
    simp only [ren, cv, valOf, List.getD_eq_getElem?_getD, hx, Option.getD_some, hk]
    unfold numOf
    rw [List.getElem?_map, hx, hk]
    rfl
theorem cvs_ren (hE : ∀ i, i < ns.length → Es[i]? = E[ns.getD i 0]?) (hn : ∀ a ∈ num, ∃ k n, a = .int k n) : ∀ l, renOkL ns.length num.length l = true → cvs Es (valOf (numOf num)) l = cvs E noArgs (renL ns num l)
  | [], _ => by simp [renL, cvs]
  | v :: r, h => by
    simp only [renOkL, Bool.and_eq_true] at h
    simp only [renL, cvs, cv_ren hE hn v h.1, cvs_ren hE hn r h.2]
end
end
section
variable {Es : Env} {ι : Val} {L M : Nat}
mutual
theorem cv_someR (hE : ∀ i, i < L → ∃ e, Es[i]? = some e) : ∀ v, renOk L M v = true → ∃ c, cv Es ι v = some c
  | .bool b, _ => ⟨_, by simp only [cv]; rfl⟩
  | .int k n, _ => ⟨_, by simp only [cv]; rfl⟩
  | .str s, h => by simp [renOk] at h
  | .nptr, _ => ⟨_, by simp only [cv]; rfl⟩
  | .ptr n off, h => by
    simp only [renOk, Nat.blt_eq] at h
    obtain ⟨e, he⟩ := hE n h
    exact ⟨_, by simp only [cv, he, Option.map_some]; rfl⟩
  | .nslice l k, _ => ⟨_, by simp only [cv]; rfl⟩
  | .slice n off len cap, h => by
    simp only [renOk, Nat.blt_eq] at h
    obtain ⟨e, he⟩ := hE n h
    exact ⟨_, by simp only [cv, he, Option.map_some]; rfl⟩
  | .eslice n off len sz, h => by simp [renOk] at h
  | .zslice n off l sz, h => by simp [renOk] at h
  | .hslice a, h => by simp [renOk] at h
  | .sym k e, h => by simp [renOk] at h
  | .symb s pos, h => by simp [renOk] at h
  | .nmap, _ => ⟨_, by simp only [cv]; rfl⟩
  | .map n, h => by simp [renOk] at h
  | .func f a b, h => by
    simp only [renOk, Bool.and_eq_true] at h
    obtain ⟨x, hx⟩ := cvs_someR hE a h.1
    obtain ⟨y, hy⟩ := cvs_someR hE b h.2
    exact ⟨_, by simp only [cv, hx, hy, Option.bind_some, Option.map_some]; rfl⟩
  | .yld n, h => by simp [renOk] at h
  | .nfunc, _ => ⟨_, by simp only [cv]; rfl⟩
  | .iface t v, h => by simp [renOk] at h
  | .niface, h => by simp [renOk] at h
  | .agg l, h => by simp [renOk] at h
  | .tuple l, h => by simp [renOk] at h
  | .opq i, _ => ⟨_, by simp only [cv]; rfl⟩
theorem cvs_someR (hE : ∀ i, i < L → ∃ e, Es[i]? = some e) : ∀ l, renOkL L M l = true → ∃ c, cvs Es ι l = some c
  | [], _ => ⟨_, cvs_nil⟩
  | v :: r, h => by
    simp only [renOkL, Bool.and_eq_true] at h
    obtain ⟨x, hx⟩ := cv_someR hE v h.1
    obtain ⟨y, hy⟩ := cvs_someR hE r h.2
    exact ⟨_, cvs_cons.2 ⟨x, y, hx, hy, rfl⟩⟩
end
end
def rowsH (rows : List (List AV × TypeId)) : AH := rows.foldl (fun H r => H.new (.row r.1 r.2 true .view)) emptyH
theorem rowsH_get : ∀ (rows : List (List AV × TypeId)) (H : AH), (∀ n o, H.get n = some o → n < H.nx) → (rows.foldl (fun H r => H.new (.row r.1 r.2 true .view)) H).nx = H.nx + rows.length ∧ (rows.foldl (fun H r => H.new (.row r.1 r.2 true .view)) H).pc = H.pc ∧
    ∀ n, (rows.foldl (fun H r => H.new (.row r.1 r.2 true .view)) H).get n = if n < H.nx then H.get n else (rows[n - H.nx]?).map fun r => .row r.1 r.2 true .view
  | [], H, hw => ⟨rfl, rfl, fun n => by
    simp only [List.foldl_nil]
    by_cases h : n < H.nx
    · rw [if_pos h]
    · rw [if_neg h]
      cases hg : H.get n with
      | none => simp
      | some o => exact absurd (hw n o hg) h⟩
  | r :: rows, H, hw => by
    have hw' : ∀ n o, (H.new (.row r.1 r.2 true .view)).get n = some o → n < (H.new (.row r.1 r.2 true .view)).nx := fun n o ho => by
      rw [get_new] at ho
      show n < H.nx + 1
      split at ho
      · omega
      · have := hw n o ho; omega
    obtain ⟨h1, h2, h3⟩ := rowsH_get rows (H.new (.row r.1 r.2 true .view)) hw'
    simp only [List.foldl_cons]
    refine ⟨by rw [h1]; show H.nx + 1 + _ = _; simp; omega, by rw [h2]; rfl, fun n => ?_⟩
    rw [h3]
    show (if n < H.nx + 1 then _ else _) = _
    by_cases c : n < H.nx
    · rw [if_pos (by omega), if_pos c, get_new, if_neg (by omega)]
    · rw [if_neg c]
      by_cases c2 : n = H.nx
      · rw [if_pos (by omega), get_new, if_pos c2]
        subst c2
        simp
      · rw [if_neg (by omega), show n - H.nx = (n - (H.nx + 1)) + 1 by omega, List.getElem?_cons_succ]
        rfl
/-- A FUNCTION THAT IS HANDED NUMBERS, NIL, AND ROWS THAT ARE READ ONLY: its run, whatever the numbers and wherever the rows. -/
theorem Ret.of_rows (hP : Fine P) {f : FuncId} {args args' : List AV} {H : AH} {k : AV} {fuel : Nat} (ns : List Nat) (num : List AV) (rows : List (List AV × TypeId)) (hn : ∀ a ∈ num, ∃ k n, a = .int k n) (hl : ns.length = rows.length)
    (hH : ∀ (i n : Nat) r, ns[i]? = some n → rows[i]? = some r → ∃ st, H.get n = some (.row (r.1.map (ren ns num)) r.2 true st)) (hargs : args = args'.map (ren ns num)) (hok : renOkL ns.length num.length args' = true) (hrok : (rows.all fun r => renOkL ns.length num.length r.1) = true)
    (test : AV → Bool) (hrun : runsAt P fuel f args' (rowsH rows) (fun v _ => test v) = true) (hk : ∀ v, test v = true → v = k) (hkc : ∃ c, ∀ E ι, cv E ι k = some c) : Ret P w0 f args H (fun _ => False) fun v H' => v = k ∧ H' = H := by
  obtain ⟨ck, hck⟩ := hkc
  have hnum : ∀ v ∈ numOf num, v.oneCell' = true := fun v hv => by
    obtain ⟨a, _, rfl⟩ := List.mem_map.1 hv
    split <;> rfl
  -- where the names stand
  have hent : ∀ E w, HR noBase w0 E noArgs H w → ∀ i, i < ns.length → ∃ e, E[ns.getD i 0]? = some e := fun E w hh i hi => by
    have h1 : ns[i]? = some ns[i] := List.getElem?_eq_getElem hi
    obtain ⟨st, hg⟩ := hH i _ _ h1 (List.getElem?_eq_getElem (show i < rows.length by omega))
    obtain ⟨e, he, _⟩ := hh.obj _ _ hg
    exact ⟨e, by rw [List.getD_eq_getElem?_getD, h1]; exact he⟩
  have henv : ∀ E w, HR noBase w0 E noArgs H w → ∀ i, i < ns.length → ((ns.map fun n => (E[n]?).getD (0, 0, 0)) : Env)[i]? = E[ns.getD i 0]? := fun E w hh i hi => by
    obtain ⟨e, he⟩ := hent E w hh i hi
    rw [List.getElem?_map, List.getElem?_eq_getElem hi, he]
    rw [List.getD_eq_getElem?_getD, List.getElem?_eq_getElem hi, Option.getD_some] at he
    simp [he]
  have hag : ∀ E w, HR noBase w0 E noArgs H w → ∃ ca, cvs E noArgs args = some ca ∧ cvs (ns.map fun n => (E[n]?).getD (0, 0, 0)) (valOf (numOf num)) args' = some ca := fun E w hh => by
    obtain ⟨ca, hca⟩ := cvs_someR (ι := valOf (numOf num)) (Es := ns.map fun n => (E[n]?).getD (0, 0, 0)) (fun i hi => by rw [henv E w hh i hi]; exact hent E w hh i hi) args' hok
    refine ⟨ca, ?_, hca⟩
    rw [hargs, ← renL_map, ← cvs_ren (henv E w hh) hn args' hok]
    exact hca
  refine Ret.of_calls (fun E w hh => by obtain ⟨ca, h1, _⟩ := hag E w hh; exact ⟨ca, h1⟩) fun E w cargs hh hc => ?_
  obtain ⟨ca, h1, h2⟩ := hag E w hh
  rw [hc] at h1
  injection h1 with h1
  subst h1
  obtain ⟨g1, g2, g3⟩ := rowsH_get rows emptyH (fun n o ho => by rw [get_emptyH] at ho; cases ho)
  have hnx0 : emptyH.nx = 0 := rfl
  have hget : ∀ n o, (rowsH rows).get n = some o → ∃ r, rows[n]? = some r ∧ o = .row r.1 r.2 true .view := fun n o ho => by
    have := g3 n
    rw [hnx0, if_neg (by omega), Nat.sub_zero] at this
    unfold rowsH at ho
    rw [this] at ho
    obtain ⟨r, hr, rfl⟩ := Option.map_eq_some_iff.1 ho
    exact ⟨r, hr, rfl⟩
  have hh0 : HR ⟨fun _ => False, ns.map fun n => (E[n]?).getD (0, 0, 0)⟩ w (ns.map fun n => (E[n]?).getD (0, 0, 0)) (valOf (numOf num)) (rowsH rows) w := by
    refine ⟨Stay.refl _ _, Nat.le_refl _, ?_, fun n e he => ?_, fun n o ho => ?_, fun n m o p e1 e2 ho hpp hne _ _ _ => ?_, ?_, fun n o e ho hv => ?_, fun _ _ h => h⟩
    · unfold rowsH
      rw [g1, hnx0, List.length_map]
      omega
    · have hi : n < ns.length := by have := (List.getElem?_eq_some_iff.1 he).1; simpa using this
      rw [henv E w hh n hi] at he
      exact hh.inb _ _ he
    · obtain ⟨r, hr, rfl⟩ := hget n o ho
      have hi : n < ns.length := by rw [hl]; exact (List.getElem?_eq_some_iff.1 hr).1
      obtain ⟨st, hg⟩ := hH n _ r (List.getElem?_eq_getElem hi) hr
      obtain ⟨e, he, hor⟩ := hh.obj _ _ hg
      have hrk : renOkL ns.length num.length r.1 = true := List.all_eq_true.1 hrok r (List.mem_of_getElem? hr)
      refine ⟨e, ?_, ?_⟩
      · rw [henv E w hh n hi, List.getD_eq_getElem?_getD, List.getElem?_eq_getElem hi, Option.getD_some]
        exact he
      · generalize hob : w.heap[e.1]? = ob at hor
        cases hor with
        | @row _ _ _ _ _ cs fz hr2 =>
          refine .row ⟨fun i v hi2 => ?_, by have := hr2.len; simpa using this, hr2.fits, fun hx => by have := hr2.exact hx; simpa using this, hr2.free⟩
          obtain ⟨c, hc1, hc2⟩ := hr2.at_ i (ren ns num v) (by rw [List.getElem?_map, hi2]; rfl)
          exact ⟨c, by rw [cv_ren (henv E w hh) hn v (renOkL_mem hrk v (List.mem_of_getElem? hi2))]; exact hc1, hc2⟩
    · obtain ⟨r, _, rfl⟩ := hget n o ho
      obtain ⟨r2, _, rfl⟩ := hget m p hpp
      exact ⟨.inl rfl, fun h => by cases h⟩
    · intro x hx
      unfold rowsH at hx
      rw [g2] at hx
      simp [emptyH] at hx
    · obtain ⟨r, _, rfl⟩ := hget n o ho
      cases hv
  refine (calls_gen hP (valOf_ok hnum) (B := ⟨fun _ => False, ns.map fun n => (E[n]?).getD (0, 0, 0)⟩) (w := w) hh0 (args := args') (cargs := cargs) h2 hrun).mono fun en w' h => ?_
  obtain ⟨A, E2, v, c, h1, _, h3, rfl, h5⟩ := h
  have := hk v h1
  subst this
  rw [hck] at h3
  injection h3 with h3
  subst h3
  have bel : Below w.heap.size w w' := ⟨h5.below.os, h5.below.tape, h5.below.output, h5.below.size, fun k hk => h5.below.block k hk (fun h => h)⟩
  exact ⟨v, ck, E, H, rfl, Ext.refl _, HR.stay hh bel, hck _ _, ⟨rfl, rfl⟩, fun n o ho _ e he => (by obtain ⟨_, _, _, _, b5⟩ := bel; exact b5 e.1 (hh.inb n e he))⟩
end
end Go.Sy
