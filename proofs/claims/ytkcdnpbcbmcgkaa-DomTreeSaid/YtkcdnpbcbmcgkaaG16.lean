/- The engine and the contracts, part 16. No condition beyond the hypotheses of each theorem. -/
import Derived.Test.YtkcdnpbcbmcgkaaG15
/- DomTree. -/
set_option linter.unusedVariables false
namespace Go.Dm
open Go Go.Sx Go.Sy Go.RowKit Go.Proofs.DomP

noncomputable def dtH : AFr := hd P 6 [.r, .r, .r, .l]

noncomputable def dtA : AFr := hd P 6 [.r, .r, .r, .r, .l, .r, .i]

noncomputable def dtB : AFr := hd P 6 [.r, .r, .r, .r, .l, .r, .i, .i, .r, .r, .l, .i, .r, .r, .r, .i]

noncomputable def dtC : AFr := hd P 6 [.r, .r, .r, .r, .l, .r, .i, .i, .r, .r, .l, .i, .r, .r, .r, .i, .i, .r, .r, .l, .i, .r, .r, .l, .r, .i]

theorem dt0E (w0 : World) (K : AM → Prop) (Kr : AV → AH → Prop) (below : List AFr) (v : AV) (len : Nat) (H : AH) (Q1 : AH → Prop) (Q2 Q3 : AH → AH → Prop) : (trun P w0 6 K Kr 300 0 [] ⟨frOf P 6 [v], below, H⟩ (.call Unit (fun _ => False) (fun _ => .tuple [.nptr, .nptr, .bool false]) (fun _ => Q1) (fun _ H1 => (.tt (.tt (.tt (.call Unit (fun _ => False) (fun _ => .bool true) (fun _ => Q2 H1) (fun _ H2 => (.tt (.ln len (.tt .stop))))))))))) = (True ∧ (Ret P w0 16 [v] H (fun (x : Nat) ↦ False) fun (v : AV) (H' : AH) ↦ ∃ (x : Unit), v = AV.tuple [AV.nptr, AV.nptr, AV.bool false] ∧ Q1 H') ∧ Pok H (fun (x : Nat) ↦ False) (stackPend below) ∧ ∀ (x : Unit) (H' : AH), Q1 H' → (!false) = true ∧ true = true ∧ true = true ∧ True ∧ (Ret P w0 8 [] H' (fun (x : Nat) ↦ False) fun (v : AV) (H'_1 : AH) ↦ ∃ (x : Unit), v = AV.bool true ∧ Q2 H' H'_1) ∧ Pok H' (fun (x : Nat) ↦ False) (stackPend below) ∧ ∀ (x : Unit) (H'_1 : AH), Q2 H' H'_1 → true = true ∧ aLen P H'_1 41 v = some (AV.int IntKind.i64 (↑len : Int), []) ∧ true = true ∧ Kr (AV.bool ((↑len : Int) == (0 : Int))) H'_1) := by kernel_rfl

theorem dt0O (w0 : World) (K : AM → Prop) (Kr : AV → AH → Prop) (below : List AFr) (v : AV) (H : AH) (Q1 : Nat × Nat → AH → Prop) (Q2 : AH → AH → Prop) : (trun P w0 6 K Kr 300 0 [] ⟨frOf P 6 [v], below, H⟩ (.call (Nat × Nat) (fun _ => False) (fun p => .tuple [.ptr p.1 0, .ptr p.2 0, .bool true]) Q1 (fun p H1 => (.ff (.call Unit (fun _ => False) (fun _ => .bool true) (fun _ => Q2 H1) (fun _ H2 => (.ff (.ff .halt)))))))) = (True ∧ (Ret P w0 16 [v] H (fun (x : Nat) ↦ False) fun (v : AV) (H' : AH) ↦ ∃ (x : Nat × Nat), v = AV.tuple [AV.ptr (Prod.fst x) (0 : Nat), AV.ptr (Prod.snd x) (0 : Nat), AV.bool true] ∧ Q1 x H') ∧ Pok H (fun (x : Nat) ↦ False) (stackPend below) ∧ ∀ (x : Nat × Nat) (H' : AH), Q1 x H' → (!true) = false ∧ True ∧ (Ret P w0 8 [] H' (fun (x : Nat) ↦ False) fun (v : AV) (H'_1 : AH) ↦ ∃ (x : Unit), v = AV.bool true ∧ Q2 H' H'_1) ∧ Pok H' (fun (x : Nat) ↦ False) (stackPend below) ∧ ∀ (x_1 : Unit) (H'_1 : AH), Q2 H' H'_1 → false = false ∧ (!true) = false ∧ K (AM.mk (w dtH (tl [v, AV.tuple [], AV.bool false, AV.ptr (Prod.fst x) 0, AV.ptr (Prod.snd x) 0, AV.bool true, AV.tuple [], AV.tuple [], AV.tuple [], AV.tuple [], AV.tuple [], AV.tuple [AV.ptr (Prod.fst x) 0, AV.ptr (Prod.snd x) 0, AV.bool true], v, AV.tuple [AV.ptr (Prod.fst x) 0, AV.ptr (Prod.snd x) 0, AV.bool true], AV.ptr (Prod.fst x) 0, AV.ptr (Prod.snd x) 0, AV.bool true, AV.bool true, AV.bool !true, AV.bool false, AV.bool true, AV.bool !true, AV.bool false, AV.tuple [], AV.tuple [], AV.tuple [], AV.tuple [], AV.tuple [], AV.tuple [], AV.tuple [], AV.tuple [], AV.tuple [], AV.tuple [], AV.tuple [], AV.tuple [], AV.tuple [], AV.tuple [], AV.tuple [], AV.tuple [], AV.tuple [], AV.tuple [], AV.tuple [], AV.tuple [], AV.tuple [], AV.tuple [], AV.tuple [], AV.tuple [], AV.tuple [], AV.tuple [], AV.tuple [], AV.tuple [], AV.tuple [], AV.tuple [], AV.tuple [], AV.tuple [], AV.tuple [], AV.tuple [], AV.tuple [], AV.tuple [], AV.tuple [], AV.tuple [], AV.tuple [], AV.tuple [], AV.tuple [], AV.tuple [], AV.tuple [], AV.tuple [], AV.tuple [], AV.tuple [], AV.tuple [], AV.tuple [], AV.tuple [], AV.tuple [], AV.tuple [], AV.tuple [], AV.tuple [], AV.tuple [], AV.tuple [], AV.tuple [], AV.tuple [], AV.tuple [], AV.tuple [], AV.tuple [], AV.tuple [], AV.tuple [], AV.tuple [], AV.tuple [], AV.tuple [], AV.tuple [], AV.tuple [], AV.tuple [], AV.tuple [], AV.tuple [], AV.tuple [], AV.tuple [], AV.tuple [], AV.tuple [], AV.tuple [], AV.tuple [], AV.tuple [], AV.tuple [], AV.tuple [], AV.tuple [], AV.tuple [], AV.tuple [], AV.tuple [], AV.tuple [], AV.tuple [], AV.tuple [], AV.tuple [], AV.tuple [], AV.tuple [], AV.tuple [], AV.tuple [], AV.tuple [], AV.tuple [], AV.tuple [], AV.tuple [], AV.tuple [], AV.tuple [], AV.tuple [], AV.tuple [], AV.tuple [], AV.tuple [], AV.tuple [], AV.tuple [], AV.tuple [], AV.tuple [], AV.tuple [], AV.tuple [], AV.tuple [], AV.tuple [], AV.tuple [], AV.tuple [], AV.tuple [], AV.tuple [], AV.tuple [], AV.tuple [], AV.tuple [], AV.tuple [], AV.tuple [], AV.tuple [], AV.tuple [], AV.tuple [], AV.tuple [], AV.tuple [], AV.tuple [], AV.tuple [], AV.tuple [], AV.tuple [], AV.tuple [], AV.tuple [], AV.tuple []])) below H'_1)) := by kernel_rfl

theorem dt1 (w0 : World) (K : AM → Prop) (Kr : AV → AH → Prop) (below : List AFr) (z : Nat → AV) (d len : Nat) (v : AV) (H : AH) (Q : AV → AH → Prop) : (trun P w0 6 K Kr 300 0 [] ⟨w dtH (setL (tz 153 z) [(0, v), (3, .ptr d 0)]), below, H⟩ (.call AV (fun _ => False) (fun x => x) Q (fun x H1 => (.ln len .stop)))) = (True ∧ (Ret P w0 18 [v] H (fun (x : Nat) ↦ False) fun (v : AV) (H' : AH) ↦ ∃ (x : AV), v = x ∧ Q x H') ∧ Pok H (fun (x : Nat) ↦ False) (stackPend below) ∧ ∀ (x : AV) (H' : AH), Q x H' → aLen P H' 22 x = some (AV.int IntKind.i64 (↑len : Int), []) ∧ K (AM.mk (w dtA (tl [v, z 1, z 2, AV.ptr d 0, z 4, z 5, x, z 7, z 8, z 9, z 10, z 11, z 12, z 13, z 14, z 15, z 16, z 17, z 18, z 19, z 20, z 21, z 22, z 23, z 24, z 25, z 26, z 27, z 28, v, x, x, AV.int IntKind.i64 (↑len : Int), AV.int IntKind.i64 (0 : Int), z 34, z 35, z 36, z 37, z 38, z 39, z 40, z 41, z 42, z 43, z 44, z 45, z 46, z 47, z 48, z 49, z 50, z 51, z 52, z 53, z 54, z 55, z 56, z 57, z 58, z 59, z 60, z 61, z 62, z 63, z 64, z 65, z 66, z 67, z 68, z 69, z 70, z 71, z 72, z 73, z 74, z 75, z 76, z 77, z 78, z 79, z 80, z 81, z 82, z 83, z 84, z 85, z 86, z 87, z 88, z 89, z 90, z 91, z 92, z 93, z 94, z 95, z 96, z 97, z 98, z 99, z 100, z 101, z 102, z 103, z 104, z 105, z 106, z 107, z 108, z 109, z 110, z 111, z 112, z 113, z 114, z 115, z 116, z 117, z 118, z 119, z 120, z 121, z 122, z 123, z 124, z 125, z 126, z 127, z 128, z 129, z 130, z 131, z 132, z 133, z 134, z 135, z 136, z 137, z 138, z 139, z 140, z 141, z 142, z 143, z 144, z 145, z 146, z 147, z 148, z 149, z 150, z 151, z 152])) below H')) := by kernel_rfl

theorem dtAr (w0 : World) (K : AM → Prop) (Kr : AV → AH → Prop) (below : List AFr) (z : Nat → AV) (d len : Nat) (x : AV) (i : Int) (ra : Bool) (H : AH) : (trun P w0 6 K Kr 400 0 [] ⟨w dtA (setL (tz 153 z) [(3, .ptr d 0), (6, x), (32, .int .i64 len), (33, .int .i64 i)]), below, H⟩ (.tt (.call Unit (fun _ => False) (fun _ => .bool ra) (fun _ H' => H' = H) (fun _ _ => (.call Unit (fun _ => False) (fun _ => .bool ra) (fun _ H' => H' = H) (fun _ _ => (.ff (.call Unit (fun _ => False) (fun _ => .bool ra) (fun _ H' => H' = H) (fun _ _ => (.call Unit (fun _ => False) (fun _ => .bool ra) (fun _ H' => H' = H) (fun _ _ => (.ff (.ff (.ln len .stop)))))))))))))) = (decide (i < (↑len : Int)) = true ∧ True ∧ (Ret P w0 17 [AV.ptr d 0, AV.int IntKind.i64 i, AV.int IntKind.i64 i] H (fun (x : Nat) ↦ False) fun (v : AV) (H' : AH) ↦ ∃ (x : Unit), v = AV.bool ra ∧ H' = H) ∧ Pok H (fun (x : Nat) ↦ False) (stackPend below) ∧ ∀ (x_1 : Unit) (H' : AH), H' = H → True ∧ (Ret P w0 12 [AV.ptr d 0, AV.int IntKind.i64 i] H' (fun (x : Nat) ↦ False) fun (v : AV) (H' : AH) ↦ ∃ (x : Unit), v = AV.bool ra ∧ H' = H) ∧ Pok H' (fun (x : Nat) ↦ False) (stackPend below) ∧ ∀ (x_2 : Unit) (H' : AH), H' = H → (!ra == ra) = false ∧ True ∧ (Ret P w0 17 [AV.ptr d 0, AV.int IntKind.i64 (0 : Int), AV.int IntKind.i64 i] H' (fun (x : Nat) ↦ False) fun (v : AV) (H' : AH) ↦ ∃ (x : Unit), v = AV.bool ra ∧ H' = H) ∧ Pok H' (fun (x : Nat) ↦ False) (stackPend below) ∧ ∀ (x_3 : Unit) (H' : AH), H' = H → True ∧ (Ret P w0 12 [AV.ptr d 0, AV.int IntKind.i64 i] H' (fun (x : Nat) ↦ False) fun (v : AV) (H' : AH) ↦ ∃ (x : Unit), v = AV.bool ra ∧ H' = H) ∧ Pok H' (fun (x : Nat) ↦ False) (stackPend below) ∧ ∀ (x_4 : Unit) (H' : AH), H' = H → false = false ∧ (!ra == ra) = false ∧ aLen P H' 22 x = some (AV.int IntKind.i64 (↑len : Int), []) ∧ K (AM.mk (w dtB (tl [z 0, z 1, z 2, AV.ptr d 0, z 4, z 5, x, AV.int IntKind.i64 i, z 8, z 9, z 10, z 11, z 12, z 13, z 14, z 15, z 16, z 17, z 18, z 19, z 20, z 21, z 22, z 23, z 24, z 25, z 26, z 27, z 28, z 29, z 30, z 31, AV.int IntKind.i64 (↑len : Int), AV.int IntKind.i64 i, AV.bool true, AV.int IntKind.i64 i, AV.ptr d 0, AV.int IntKind.i64 i, AV.int IntKind.i64 i, AV.bool ra, AV.ptr d 0, AV.int IntKind.i64 i, AV.bool ra, AV.bool !ra == ra, AV.bool false, AV.ptr d 0, AV.int IntKind.i64 i, AV.bool ra, AV.ptr d 0, AV.int IntKind.i64 i, AV.bool ra, AV.bool !ra == ra, AV.bool false, x, AV.int IntKind.i64 (↑len : Int), AV.int IntKind.i64 (0 : Int), z 56, z 57, z 58, z 59, z 60, z 61, z 62, z 63, z 64, z 65, z 66, z 67, z 68, z 69, z 70, z 71, z 72, z 73, z 74, z 75, z 76, z 77, z 78, z 79, z 80, z 81, z 82, z 83, z 84, z 85, z 86, z 87, z 88, z 89, z 90, z 91, z 92, z 93, z 94, z 95, z 96, z 97, z 98, z 99, z 100, z 101, z 102, z 103, z 104, z 105, z 106, z 107, z 108, z 109, z 110, z 111, z 112, z 113, z 114, z 115, z 116, z 117, z 118, z 119, z 120, z 121, z 122, z 123, z 124, z 125, z 126, z 127, z 128, z 129, z 130, z 131, z 132, z 133, z 134, z 135, z 136, z 137, z 138, z 139, z 140, z 141, z 142, z 143, z 144, z 145, z 146, z 147, z 148, z 149, z 150, z 151, z 152])) below H')) := by kernel_rfl

theorem dtAe (w0 : World) (K : AM → Prop) (Kr : AV → AH → Prop) (below : List AFr) (z : Nat → AV) (d len : Nat) (x : AV) (i : Int) (H : AH) : (trun P w0 6 K Kr 400 0 [] ⟨w dtA (setL (tz 153 z) [(3, .ptr d 0), (6, x), (32, .int .i64 len), (33, .int .i64 i)]), below, H⟩ (.ff .stop)) = (decide (i < (↑len : Int)) = false ∧ Kr (AV.bool true) H) := by kernel_rfl

theorem dtBr (w0 : World) (K : AM → Prop) (Kr : AV → AH → Prop) (below : List AFr) (z : Nat → AV) (d len : Nat) (x : AV) (i j ia : Int) (ab : Bool) (H : AH) : (trun P w0 6 K Kr 400 0 [] ⟨w dtB (setL (tz 153 z) [(3, .ptr d 0), (6, x), (7, .int .i64 ia), (32, .int .i64 len), (33, .int .i64 i), (54, .int .i64 len), (55, .int .i64 j)]), below, H⟩ (.tt (.br (.call Unit (fun _ => False) (fun _ => .bool ab) (fun _ H' => H' = H) (fun _ _ => (.tt (.br (.call Unit (fun _ => False) (fun _ => .bool false) (fun _ H' => H' = H) (fun _ _ => (.tt (.ff (.ln len .stop))))) (.ff (.ff (.ln len .stop))))))) (.ff (.ff (.ff (.ff (.ln len .stop)))))))) = (decide (j < (↑len : Int)) = true ∧ ((ia != j) = true → True ∧ (Ret P w0 17 [AV.ptr d 0, AV.int IntKind.i64 ia, AV.int IntKind.i64 j] H (fun (x : Nat) ↦ False) fun (v : AV) (H' : AH) ↦ ∃ (x : Unit), v = AV.bool ab ∧ H' = H) ∧ Pok H (fun (x : Nat) ↦ False) (stackPend below) ∧ ∀ (x_1 : Unit) (H' : AH), H' = H → true = true ∧ (ab = true → True ∧ (Ret P w0 17 [AV.ptr d 0, AV.int IntKind.i64 j, AV.int IntKind.i64 ia] H' (fun (x : Nat) ↦ False) fun (v : AV) (H' : AH) ↦ ∃ (x : Unit), v = AV.bool false ∧ H' = H) ∧ Pok H' (fun (x : Nat) ↦ False) (stackPend below) ∧ ∀ (x_2 : Unit) (H' : AH), H' = H → true = true ∧ false = false ∧ aLen P H' 22 x = some (AV.int IntKind.i64 (↑len : Int), []) ∧ K (AM.mk (w dtC (tl [z 0, z 1, z 2, AV.ptr d 0, z 4, z 5, x, AV.int IntKind.i64 ia, AV.int IntKind.i64 j, z 9, z 10, z 11, z 12, z 13, z 14, z 15, z 16, z 17, z 18, z 19, z 20, z 21, z 22, z 23, z 24, z 25, z 26, z 27, z 28, z 29, z 30, z 31, AV.int IntKind.i64 (↑len : Int), AV.int IntKind.i64 i, z 34, z 35, z 36, z 37, z 38, z 39, z 40, z 41, z 42, z 43, z 44, z 45, z 46, z 47, z 48, z 49, z 50, z 51, z 52, z 53, AV.int IntKind.i64 (↑len : Int), AV.int IntKind.i64 j, AV.bool true, AV.int IntKind.i64 j, AV.int IntKind.i64 ia, AV.int IntKind.i64 j, AV.bool (ia != j), AV.bool true, AV.ptr d 0, AV.int IntKind.i64 ia, AV.int IntKind.i64 j, AV.bool ab, AV.bool ab, AV.bool true, AV.ptr d 0, AV.int IntKind.i64 j, AV.int IntKind.i64 ia, AV.bool false, AV.bool false, x, AV.int IntKind.i64 (↑len : Int), AV.int IntKind.i64 (0 : Int), z 76, z 77, z 78, z 79, z 80, z 81, z 82, z 83, z 84, z 85, z 86, z 87, z 88, z 89, z 90, z 91, z 92, z 93, z 94, z 95, z 96, z 97, z 98, z 99, z 100, z 101, z 102, z 103, z 104, z 105, z 106, z 107, z 108, z 109, z 110, z 111, z 112, z 113, z 114, z 115, z 116, z 117, z 118, z 119, z 120, z 121, z 122, z 123, z 124, z 125, z 126, z 127, z 128, z 129, z 130, z 131, z 132, z 133, z 134, z 135, z 136, z 137, z 138, z 139, z 140, z 141, z 142, z 143, z 144, z 145, z 146, z 147, z 148, z 149, z 150, z 151, z 152])) below H')) ∧ (ab = false → false = false ∧ false = false ∧ aLen P H' 22 x = some (AV.int IntKind.i64 (↑len : Int), []) ∧ K (AM.mk (w dtC (tl [z 0, z 1, z 2, AV.ptr d 0, z 4, z 5, x, AV.int IntKind.i64 ia, AV.int IntKind.i64 j, z 9, z 10, z 11, z 12, z 13, z 14, z 15, z 16, z 17, z 18, z 19, z 20, z 21, z 22, z 23, z 24, z 25, z 26, z 27, z 28, z 29, z 30, z 31, AV.int IntKind.i64 (↑len : Int), AV.int IntKind.i64 i, z 34, z 35, z 36, z 37, z 38, z 39, z 40, z 41, z 42, z 43, z 44, z 45, z 46, z 47, z 48, z 49, z 50, z 51, z 52, z 53, AV.int IntKind.i64 (↑len : Int), AV.int IntKind.i64 j, AV.bool true, AV.int IntKind.i64 j, AV.int IntKind.i64 ia, AV.int IntKind.i64 j, AV.bool (ia != j), AV.bool true, AV.ptr d 0, AV.int IntKind.i64 ia, AV.int IntKind.i64 j, AV.bool ab, AV.bool ab, AV.bool false, AV.tuple [], AV.tuple [], AV.tuple [], AV.tuple [], AV.bool false, x, AV.int IntKind.i64 (↑len : Int), AV.int IntKind.i64 (0 : Int), z 76, z 77, z 78, z 79, z 80, z 81, z 82, z 83, z 84, z 85, z 86, z 87, z 88, z 89, z 90, z 91, z 92, z 93, z 94, z 95, z 96, z 97, z 98, z 99, z 100, z 101, z 102, z 103, z 104, z 105, z 106, z 107, z 108, z 109, z 110, z 111, z 112, z 113, z 114, z 115, z 116, z 117, z 118, z 119, z 120, z 121, z 122, z 123, z 124, z 125, z 126, z 127, z 128, z 129, z 130, z 131, z 132, z 133, z 134, z 135, z 136, z 137, z 138, z 139, z 140, z 141, z 142, z 143, z 144, z 145, z 146, z 147, z 148, z 149, z 150, z 151, z 152])) below H'))) ∧ ((ia != j) = false → false = false ∧ false = false ∧ false = false ∧ false = false ∧ aLen P H 22 x = some (AV.int IntKind.i64 (↑len : Int), []) ∧ K (AM.mk (w dtC (tl [z 0, z 1, z 2, AV.ptr d 0, z 4, z 5, x, AV.int IntKind.i64 ia, AV.int IntKind.i64 j, z 9, z 10, z 11, z 12, z 13, z 14, z 15, z 16, z 17, z 18, z 19, z 20, z 21, z 22, z 23, z 24, z 25, z 26, z 27, z 28, z 29, z 30, z 31, AV.int IntKind.i64 (↑len : Int), AV.int IntKind.i64 i, z 34, z 35, z 36, z 37, z 38, z 39, z 40, z 41, z 42, z 43, z 44, z 45, z 46, z 47, z 48, z 49, z 50, z 51, z 52, z 53, AV.int IntKind.i64 (↑len : Int), AV.int IntKind.i64 j, AV.bool true, AV.int IntKind.i64 j, AV.int IntKind.i64 ia, AV.int IntKind.i64 j, AV.bool (ia != j), AV.bool false, AV.tuple [], AV.tuple [], AV.tuple [], AV.tuple [], AV.bool false, AV.bool false, AV.tuple [], AV.tuple [], AV.tuple [], AV.tuple [], AV.bool false, x, AV.int IntKind.i64 (↑len : Int), AV.int IntKind.i64 (0 : Int), z 76, z 77, z 78, z 79, z 80, z 81, z 82, z 83, z 84, z 85, z 86, z 87, z 88, z 89, z 90, z 91, z 92, z 93, z 94, z 95, z 96, z 97, z 98, z 99, z 100, z 101, z 102, z 103, z 104, z 105, z 106, z 107, z 108, z 109, z 110, z 111, z 112, z 113, z 114, z 115, z 116, z 117, z 118, z 119, z 120, z 121, z 122, z 123, z 124, z 125, z 126, z 127, z 128, z 129, z 130, z 131, z 132, z 133, z 134, z 135, z 136, z 137, z 138, z 139, z 140, z 141, z 142, z 143, z 144, z 145, z 146, z 147, z 148, z 149, z 150, z 151, z 152])) below H))) := by kernel_rfl

theorem dtBe (w0 : World) (K : AM → Prop) (Kr : AV → AH → Prop) (below : List AFr) (z : Nat → AV) (d len : Nat) (x : AV) (i j ia : Int) (H : AH) : (trun P w0 6 K Kr 400 0 [] ⟨w dtB (setL (tz 153 z) [(3, .ptr d 0), (6, x), (7, .int .i64 ia), (32, .int .i64 len), (33, .int .i64 i), (54, .int .i64 len), (55, .int .i64 j)]), below, H⟩ (.ff .stop)) = (decide (j < (↑len : Int)) = false ∧ K (AM.mk (w dtA (tl [z 0, z 1, z 2, AV.ptr d 0, z 4, z 5, x, AV.int IntKind.i64 ia, z 8, z 9, z 10, z 11, z 12, z 13, z 14, z 15, z 16, z 17, z 18, z 19, z 20, z 21, z 22, z 23, z 24, z 25, z 26, z 27, z 28, z 29, z 30, z 31, AV.int IntKind.i64 (↑len : Int), AV.int IntKind.i64 (IntKind.wrap IntKind.i64 (i + (1 : Int))), z 34, z 35, z 36, z 37, z 38, z 39, z 40, z 41, z 42, z 43, z 44, z 45, z 46, z 47, z 48, z 49, z 50, z 51, z 52, z 53, AV.int IntKind.i64 (↑len : Int), AV.int IntKind.i64 j, AV.bool false, z 57, z 58, z 59, z 60, z 61, z 62, z 63, z 64, z 65, z 66, z 67, z 68, z 69, z 70, z 71, z 72, z 73, z 74, z 75, z 76, z 77, z 78, z 79, z 80, z 81, z 82, z 83, z 84, z 85, z 86, z 87, z 88, z 89, z 90, z 91, z 92, z 93, z 94, z 95, z 96, z 97, z 98, z 99, z 100, z 101, z 102, z 103, z 104, z 105, z 106, z 107, z 108, z 109, z 110, z 111, z 112, z 113, z 114, z 115, z 116, z 117, z 118, z 119, z 120, z 121, z 122, z 123, z 124, z 125, z 126, z 127, z 128, z 129, z 130, z 131, z 132, z 133, z 134, z 135, z 136, z 137, z 138, z 139, z 140, z 141, z 142, z 143, z 144, z 145, z 146, z 147, z 148, z 149, z 150, z 151, AV.int IntKind.i64 (IntKind.wrap IntKind.i64 (i + (1 : Int)))])) below H)) := by kernel_rfl

set_option maxRecDepth 100000 in
theorem dtCr (w0 : World) (K : AM → Prop) (Kr : AV → AH → Prop) (below : List AFr) (z : Nat → AV) (d len : Nat) (x : AV) (i j k ia jb : Int) (ac bc ab ba : Bool) (H : AH) : (trun P w0 6 K Kr 400 0 [] ⟨w dtC (setL (tz 153 z) [(3, .ptr d 0), (6, x), (7, .int .i64 ia), (8, .int .i64 jb), (32, .int .i64 len), (33, .int .i64 i), (54, .int .i64 len), (55, .int .i64 j), (74, .int .i64 len), (75, .int .i64 k)]), below, H⟩ (.tt (.call Unit (fun _ => False) (fun _ => .bool ac) (fun _ H' => H' = H) (fun _ _ => (.br (.call Unit (fun _ => False) (fun _ => .bool bc) (fun _ H' => H' = H) (fun _ _ => (.tt (.br (.call Unit (fun _ => False) (fun _ => .bool ab) (fun _ H' => H' = H) (fun _ _ => (.tt (.br (.call Unit (fun _ => False) (fun _ => .bool ba) (fun _ H' => H' = H) (fun _ _ => (.tt (.ff (.call Unit (fun _ => False) (fun _ => .bool ab) (fun _ H' => H' = H) (fun _ _ => (.ff (.ff (.ff (.ff (.ff (.ff .stop)))))))))))) (.ff (.ff (.call Unit (fun _ => False) (fun _ => .bool ab) (fun _ H' => H' = H) (fun _ _ => (.tt (.call Unit (fun _ => False) (fun _ => .bool bc) (fun _ H' => H' = H) (fun _ _ => (.tt (.tt (.call Unit (fun _ => False) (fun _ => .bool ac) (fun _ H' => H' = H) (fun _ _ => (.tt (.ff (.ff .stop)))))))))))))))))) (.ff (.ff (.ff (.ff (.call Unit (fun _ => False) (fun _ => .bool ab) (fun _ H' => H' = H) (fun _ _ => (.br (.call Unit (fun _ => False) (fun _ => .bool bc) (fun _ H' => H' = H) (fun _ _ => (.tt (.ff (.ff (.ff (.ff .stop))))))) (.ff (.ff (.ff (.ff (.ff .stop)))))))))))))))) (.ff (.ff (.ff (.ff (.ff (.ff (.call Unit (fun _ => False) (fun _ => .bool ab) (fun _ H' => H' = H) (fun _ _ => (.br (.call Unit (fun _ => False) (fun _ => .bool bc) (fun _ H' => H' = H) (fun _ _ => (.tt (.ff (.ff (.ff (.ff .stop))))))) (.ff (.ff (.ff (.ff (.ff .stop))))))))))))))))))) = (decide (k < (↑len : Int)) = true ∧ True ∧ (Ret P w0 17 [AV.ptr d 0, AV.int IntKind.i64 ia, AV.int IntKind.i64 k] H (fun (x : Nat) ↦ False) fun (v : AV) (H' : AH) ↦ ∃ (x : Unit), v = AV.bool ac ∧ H' = H) ∧ Pok H (fun (x : Nat) ↦ False) (stackPend below) ∧ ∀ (x_1 : Unit) (H' : AH), H' = H → (ac = true → True ∧ (Ret P w0 17 [AV.ptr d 0, AV.int IntKind.i64 jb, AV.int IntKind.i64 k] H' (fun (x : Nat) ↦ False) fun (v : AV) (H' : AH) ↦ ∃ (x : Unit), v = AV.bool bc ∧ H' = H) ∧ Pok H' (fun (x : Nat) ↦ False) (stackPend below) ∧ ∀ (x_2 : Unit) (H' : AH), H' = H → true = true ∧ (bc = true → True ∧ (Ret P w0 17 [AV.ptr d 0, AV.int IntKind.i64 ia, AV.int IntKind.i64 jb] H' (fun (x : Nat) ↦ False) fun (v : AV) (H' : AH) ↦ ∃ (x : Unit), v = AV.bool ab ∧ H' = H) ∧ Pok H' (fun (x : Nat) ↦ False) (stackPend below) ∧ ∀ (x_3 : Unit) (H' : AH), H' = H → true = true ∧ ((!ab) = true → True ∧ (Ret P w0 17 [AV.ptr d 0, AV.int IntKind.i64 jb, AV.int IntKind.i64 ia] H' (fun (x : Nat) ↦ False) fun (v : AV) (H' : AH) ↦ ∃ (x : Unit), v = AV.bool ba ∧ H' = H) ∧ Pok H' (fun (x : Nat) ↦ False) (stackPend below) ∧ ∀ (x_4 : Unit) (H' : AH), H' = H → true = true ∧ (!ba) = false ∧ True ∧ (Ret P w0 17 [AV.ptr d 0, AV.int IntKind.i64 ia, AV.int IntKind.i64 jb] H' (fun (x : Nat) ↦ False) fun (v : AV) (H' : AH) ↦ ∃ (x : Unit), v = AV.bool ab ∧ H' = H) ∧ Pok H' (fun (x : Nat) ↦ False) (stackPend below) ∧ ∀ (x_5 : Unit) (H' : AH), H' = H → ab = false ∧ false = false ∧ false = false ∧ false = false ∧ false = false ∧ false = false ∧ K (AM.mk (w dtC (tl [z 0, z 1, z 2, AV.ptr d 0, z 4, z 5, x, AV.int IntKind.i64 ia, AV.int IntKind.i64 jb, AV.int IntKind.i64 k, z 10, z 11, z 12, z 13, z 14, z 15, z 16, z 17, z 18, z 19, z 20, z 21, z 22, z 23, z 24, z 25, z 26, z 27, z 28, z 29, z 30, z 31, AV.int IntKind.i64 (↑len : Int), AV.int IntKind.i64 i, z 34, z 35, z 36, z 37, z 38, z 39, z 40, z 41, z 42, z 43, z 44, z 45, z 46, z 47, z 48, z 49, z 50, z 51, z 52, z 53, AV.int IntKind.i64 (↑len : Int), AV.int IntKind.i64 j, z 56, z 57, z 58, z 59, z 60, z 61, z 62, z 63, z 64, z 65, z 66, z 67, z 68, z 69, z 70, z 71, z 72, z 73, AV.int IntKind.i64 (↑len : Int), AV.int IntKind.i64 (IntKind.wrap IntKind.i64 (k + (1 : Int))), AV.bool true, AV.int IntKind.i64 k, AV.ptr d 0, AV.int IntKind.i64 ia, AV.int IntKind.i64 k, AV.bool ac, AV.bool true, AV.ptr d 0, AV.int IntKind.i64 jb, AV.int IntKind.i64 k, AV.bool bc, AV.bool bc, AV.bool true, AV.ptr d 0, AV.int IntKind.i64 ia, AV.int IntKind.i64 jb, AV.bool ab, AV.bool !ab, AV.bool !ab, AV.bool true, AV.ptr d 0, AV.int IntKind.i64 jb, AV.int IntKind.i64 ia, AV.bool ba, AV.bool !ba, AV.bool !ba, AV.bool false, AV.ptr d 0, AV.int IntKind.i64 ia, AV.int IntKind.i64 jb, AV.bool ab, AV.bool false, AV.tuple [], AV.tuple [], AV.tuple [], AV.tuple [], AV.bool false, AV.bool false, AV.tuple [], AV.tuple [], AV.tuple [], AV.tuple [], AV.tuple [], AV.bool false, AV.bool false, AV.int IntKind.i64 (IntKind.wrap IntKind.i64 (k + (1 : Int))), z 122, z 123, z 124, z 125, z 126, z 127, z 128, z 129, z 130, z 131, z 132, z 133, z 134, z 135, z 136, z 137, z 138, z 139, z 140, z 141, z 142, z 143, z 144, z 145, z 146, z 147, z 148, z 149, z 150, z 151, z 152])) below H')) ∧ ((!ab) = false → false = false ∧ false = false ∧ True ∧ (Ret P w0 17 [AV.ptr d 0, AV.int IntKind.i64 ia, AV.int IntKind.i64 jb] H' (fun (x : Nat) ↦ False) fun (v : AV) (H' : AH) ↦ ∃ (x : Unit), v = AV.bool ab ∧ H' = H) ∧ Pok H' (fun (x : Nat) ↦ False) (stackPend below) ∧ ∀ (x_4 : Unit) (H' : AH), H' = H → ab = true ∧ True ∧ (Ret P w0 17 [AV.ptr d 0, AV.int IntKind.i64 jb, AV.int IntKind.i64 k] H' (fun (x : Nat) ↦ False) fun (v : AV) (H' : AH) ↦ ∃ (x : Unit), v = AV.bool bc ∧ H' = H) ∧ Pok H' (fun (x : Nat) ↦ False) (stackPend below) ∧ ∀ (x_5 : Unit) (H' : AH), H' = H → true = true ∧ bc = true ∧ True ∧ (Ret P w0 17 [AV.ptr d 0, AV.int IntKind.i64 ia, AV.int IntKind.i64 k] H' (fun (x : Nat) ↦ False) fun (v : AV) (H' : AH) ↦ ∃ (x : Unit), v = AV.bool ac ∧ H' = H) ∧ Pok H' (fun (x : Nat) ↦ False) (stackPend below) ∧ ∀ (x_6 : Unit) (H' : AH), H' = H → true = true ∧ false = false ∧ (!ac) = false ∧ K (AM.mk (w dtC (tl [z 0, z 1, z 2, AV.ptr d 0, z 4, z 5, x, AV.int IntKind.i64 ia, AV.int IntKind.i64 jb, AV.int IntKind.i64 k, z 10, z 11, z 12, z 13, z 14, z 15, z 16, z 17, z 18, z 19, z 20, z 21, z 22, z 23, z 24, z 25, z 26, z 27, z 28, z 29, z 30, z 31, AV.int IntKind.i64 (↑len : Int), AV.int IntKind.i64 i, z 34, z 35, z 36, z 37, z 38, z 39, z 40, z 41, z 42, z 43, z 44, z 45, z 46, z 47, z 48, z 49, z 50, z 51, z 52, z 53, AV.int IntKind.i64 (↑len : Int), AV.int IntKind.i64 j, z 56, z 57, z 58, z 59, z 60, z 61, z 62, z 63, z 64, z 65, z 66, z 67, z 68, z 69, z 70, z 71, z 72, z 73, AV.int IntKind.i64 (↑len : Int), AV.int IntKind.i64 (IntKind.wrap IntKind.i64 (k + (1 : Int))), AV.bool true, AV.int IntKind.i64 k, AV.ptr d 0, AV.int IntKind.i64 ia, AV.int IntKind.i64 k, AV.bool ac, AV.bool true, AV.ptr d 0, AV.int IntKind.i64 jb, AV.int IntKind.i64 k, AV.bool bc, AV.bool bc, AV.bool true, AV.ptr d 0, AV.int IntKind.i64 ia, AV.int IntKind.i64 jb, AV.bool ab, AV.bool !ab, AV.bool !ab, AV.bool false, AV.tuple [], AV.tuple [], AV.tuple [], AV.tuple [], AV.tuple [], AV.bool false, AV.bool false, AV.ptr d 0, AV.int IntKind.i64 ia, AV.int IntKind.i64 jb, AV.bool ab, AV.bool true, AV.ptr d 0, AV.int IntKind.i64 jb, AV.int IntKind.i64 k, AV.bool bc, AV.bool bc, AV.bool true, AV.ptr d 0, AV.int IntKind.i64 ia, AV.int IntKind.i64 k, AV.bool ac, AV.bool !ac, AV.bool !ac, AV.bool false, AV.int IntKind.i64 (IntKind.wrap IntKind.i64 (k + (1 : Int))), z 122, z 123, z 124, z 125, z 126, z 127, z 128, z 129, z 130, z 131, z 132, z 133, z 134, z 135, z 136, z 137, z 138, z 139, z 140, z 141, z 142, z 143, z 144, z 145, z 146, z 147, z 148, z 149, z 150, z 151, z 152])) below H'))) ∧ (bc = false → false = false ∧ false = false ∧ false = false ∧ false = false ∧ True ∧ (Ret P w0 17 [AV.ptr d 0, AV.int IntKind.i64 ia, AV.int IntKind.i64 jb] H' (fun (x : Nat) ↦ False) fun (v : AV) (H' : AH) ↦ ∃ (x : Unit), v = AV.bool ab ∧ H' = H) ∧ Pok H' (fun (x : Nat) ↦ False) (stackPend below) ∧ ∀ (x_3 : Unit) (H' : AH), H' = H → (ab = true → True ∧ (Ret P w0 17 [AV.ptr d 0, AV.int IntKind.i64 jb, AV.int IntKind.i64 k] H' (fun (x : Nat) ↦ False) fun (v : AV) (H' : AH) ↦ ∃ (x : Unit), v = AV.bool bc ∧ H' = H) ∧ Pok H' (fun (x : Nat) ↦ False) (stackPend below) ∧ ∀ (x_4 : Unit) (H' : AH), H' = H → true = true ∧ bc = false ∧ false = false ∧ false = false ∧ false = false ∧ K (AM.mk (w dtC (tl [z 0, z 1, z 2, AV.ptr d 0, z 4, z 5, x, AV.int IntKind.i64 ia, AV.int IntKind.i64 jb, AV.int IntKind.i64 k, z 10, z 11, z 12, z 13, z 14, z 15, z 16, z 17, z 18, z 19, z 20, z 21, z 22, z 23, z 24, z 25, z 26, z 27, z 28, z 29, z 30, z 31, AV.int IntKind.i64 (↑len : Int), AV.int IntKind.i64 i, z 34, z 35, z 36, z 37, z 38, z 39, z 40, z 41, z 42, z 43, z 44, z 45, z 46, z 47, z 48, z 49, z 50, z 51, z 52, z 53, AV.int IntKind.i64 (↑len : Int), AV.int IntKind.i64 j, z 56, z 57, z 58, z 59, z 60, z 61, z 62, z 63, z 64, z 65, z 66, z 67, z 68, z 69, z 70, z 71, z 72, z 73, AV.int IntKind.i64 (↑len : Int), AV.int IntKind.i64 (IntKind.wrap IntKind.i64 (k + (1 : Int))), AV.bool true, AV.int IntKind.i64 k, AV.ptr d 0, AV.int IntKind.i64 ia, AV.int IntKind.i64 k, AV.bool ac, AV.bool true, AV.ptr d 0, AV.int IntKind.i64 jb, AV.int IntKind.i64 k, AV.bool bc, AV.bool bc, AV.bool false, AV.tuple [], AV.tuple [], AV.tuple [], AV.tuple [], AV.tuple [], AV.bool false, AV.bool false, AV.tuple [], AV.tuple [], AV.tuple [], AV.tuple [], AV.tuple [], AV.bool false, AV.bool false, AV.ptr d 0, AV.int IntKind.i64 ia, AV.int IntKind.i64 jb, AV.bool ab, AV.bool true, AV.ptr d 0, AV.int IntKind.i64 jb, AV.int IntKind.i64 k, AV.bool bc, AV.bool bc, AV.bool false, AV.tuple [], AV.tuple [], AV.tuple [], AV.tuple [], AV.tuple [], AV.bool false, AV.bool false, AV.int IntKind.i64 (IntKind.wrap IntKind.i64 (k + (1 : Int))), z 122, z 123, z 124, z 125, z 126, z 127, z 128, z 129, z 130, z 131, z 132, z 133, z 134, z 135, z 136, z 137, z 138, z 139, z 140, z 141, z 142, z 143, z 144, z 145, z 146, z 147, z 148, z 149, z 150, z 151, z 152])) below H')) ∧ (ab = false → false = false ∧ false = false ∧ false = false ∧ false = false ∧ false = false ∧ K (AM.mk (w dtC (tl [z 0, z 1, z 2, AV.ptr d 0, z 4, z 5, x, AV.int IntKind.i64 ia, AV.int IntKind.i64 jb, AV.int IntKind.i64 k, z 10, z 11, z 12, z 13, z 14, z 15, z 16, z 17, z 18, z 19, z 20, z 21, z 22, z 23, z 24, z 25, z 26, z 27, z 28, z 29, z 30, z 31, AV.int IntKind.i64 (↑len : Int), AV.int IntKind.i64 i, z 34, z 35, z 36, z 37, z 38, z 39, z 40, z 41, z 42, z 43, z 44, z 45, z 46, z 47, z 48, z 49, z 50, z 51, z 52, z 53, AV.int IntKind.i64 (↑len : Int), AV.int IntKind.i64 j, z 56, z 57, z 58, z 59, z 60, z 61, z 62, z 63, z 64, z 65, z 66, z 67, z 68, z 69, z 70, z 71, z 72, z 73, AV.int IntKind.i64 (↑len : Int), AV.int IntKind.i64 (IntKind.wrap IntKind.i64 (k + (1 : Int))), AV.bool true, AV.int IntKind.i64 k, AV.ptr d 0, AV.int IntKind.i64 ia, AV.int IntKind.i64 k, AV.bool ac, AV.bool true, AV.ptr d 0, AV.int IntKind.i64 jb, AV.int IntKind.i64 k, AV.bool bc, AV.bool bc, AV.bool false, AV.tuple [], AV.tuple [], AV.tuple [], AV.tuple [], AV.tuple [], AV.bool false, AV.bool false, AV.tuple [], AV.tuple [], AV.tuple [], AV.tuple [], AV.tuple [], AV.bool false, AV.bool false, AV.ptr d 0, AV.int IntKind.i64 ia, AV.int IntKind.i64 jb, AV.bool ab, AV.bool false, AV.tuple [], AV.tuple [], AV.tuple [], AV.tuple [], AV.bool false, AV.bool false, AV.tuple [], AV.tuple [], AV.tuple [], AV.tuple [], AV.tuple [], AV.bool false, AV.bool false, AV.int IntKind.i64 (IntKind.wrap IntKind.i64 (k + (1 : Int))), z 122, z 123, z 124, z 125, z 126, z 127, z 128, z 129, z 130, z 131, z 132, z 133, z 134, z 135, z 136, z 137, z 138, z 139, z 140, z 141, z 142, z 143, z 144, z 145, z 146, z 147, z 148, z 149, z 150, z 151, z 152])) below H')))) ∧ (ac = false → false = false ∧ false = false ∧ false = false ∧ false = false ∧ false = false ∧ false = false ∧ True ∧ (Ret P w0 17 [AV.ptr d 0, AV.int IntKind.i64 ia, AV.int IntKind.i64 jb] H' (fun (x : Nat) ↦ False) fun (v : AV) (H' : AH) ↦ ∃ (x : Unit), v = AV.bool ab ∧ H' = H) ∧ Pok H' (fun (x : Nat) ↦ False) (stackPend below) ∧ ∀ (x_2 : Unit) (H' : AH), H' = H → (ab = true → True ∧ (Ret P w0 17 [AV.ptr d 0, AV.int IntKind.i64 jb, AV.int IntKind.i64 k] H' (fun (x : Nat) ↦ False) fun (v : AV) (H' : AH) ↦ ∃ (x : Unit), v = AV.bool bc ∧ H' = H) ∧ Pok H' (fun (x : Nat) ↦ False) (stackPend below) ∧ ∀ (x_3 : Unit) (H' : AH), H' = H → true = true ∧ bc = false ∧ false = false ∧ false = false ∧ false = false ∧ K (AM.mk (w dtC (tl [z 0, z 1, z 2, AV.ptr d 0, z 4, z 5, x, AV.int IntKind.i64 ia, AV.int IntKind.i64 jb, AV.int IntKind.i64 k, z 10, z 11, z 12, z 13, z 14, z 15, z 16, z 17, z 18, z 19, z 20, z 21, z 22, z 23, z 24, z 25, z 26, z 27, z 28, z 29, z 30, z 31, AV.int IntKind.i64 (↑len : Int), AV.int IntKind.i64 i, z 34, z 35, z 36, z 37, z 38, z 39, z 40, z 41, z 42, z 43, z 44, z 45, z 46, z 47, z 48, z 49, z 50, z 51, z 52, z 53, AV.int IntKind.i64 (↑len : Int), AV.int IntKind.i64 j, z 56, z 57, z 58, z 59, z 60, z 61, z 62, z 63, z 64, z 65, z 66, z 67, z 68, z 69, z 70, z 71, z 72, z 73, AV.int IntKind.i64 (↑len : Int), AV.int IntKind.i64 (IntKind.wrap IntKind.i64 (k + (1 : Int))), AV.bool true, AV.int IntKind.i64 k, AV.ptr d 0, AV.int IntKind.i64 ia, AV.int IntKind.i64 k, AV.bool ac, AV.bool false, AV.tuple [], AV.tuple [], AV.tuple [], AV.tuple [], AV.bool false, AV.bool false, AV.tuple [], AV.tuple [], AV.tuple [], AV.tuple [], AV.tuple [], AV.bool false, AV.bool false, AV.tuple [], AV.tuple [], AV.tuple [], AV.tuple [], AV.tuple [], AV.bool false, AV.bool false, AV.ptr d 0, AV.int IntKind.i64 ia, AV.int IntKind.i64 jb, AV.bool ab, AV.bool true, AV.ptr d 0, AV.int IntKind.i64 jb, AV.int IntKind.i64 k, AV.bool bc, AV.bool bc, AV.bool false, AV.tuple [], AV.tuple [], AV.tuple [], AV.tuple [], AV.tuple [], AV.bool false, AV.bool false, AV.int IntKind.i64 (IntKind.wrap IntKind.i64 (k + (1 : Int))), z 122, z 123, z 124, z 125, z 126, z 127, z 128, z 129, z 130, z 131, z 132, z 133, z 134, z 135, z 136, z 137, z 138, z 139, z 140, z 141, z 142, z 143, z 144, z 145, z 146, z 147, z 148, z 149, z 150, z 151, z 152])) below H')) ∧ (ab = false → false = false ∧ false = false ∧ false = false ∧ false = false ∧ false = false ∧ K (AM.mk (w dtC (tl [z 0, z 1, z 2, AV.ptr d 0, z 4, z 5, x, AV.int IntKind.i64 ia, AV.int IntKind.i64 jb, AV.int IntKind.i64 k, z 10, z 11, z 12, z 13, z 14, z 15, z 16, z 17, z 18, z 19, z 20, z 21, z 22, z 23, z 24, z 25, z 26, z 27, z 28, z 29, z 30, z 31, AV.int IntKind.i64 (↑len : Int), AV.int IntKind.i64 i, z 34, z 35, z 36, z 37, z 38, z 39, z 40, z 41, z 42, z 43, z 44, z 45, z 46, z 47, z 48, z 49, z 50, z 51, z 52, z 53, AV.int IntKind.i64 (↑len : Int), AV.int IntKind.i64 j, z 56, z 57, z 58, z 59, z 60, z 61, z 62, z 63, z 64, z 65, z 66, z 67, z 68, z 69, z 70, z 71, z 72, z 73, AV.int IntKind.i64 (↑len : Int), AV.int IntKind.i64 (IntKind.wrap IntKind.i64 (k + (1 : Int))), AV.bool true, AV.int IntKind.i64 k, AV.ptr d 0, AV.int IntKind.i64 ia, AV.int IntKind.i64 k, AV.bool ac, AV.bool false, AV.tuple [], AV.tuple [], AV.tuple [], AV.tuple [], AV.bool false, AV.bool false, AV.tuple [], AV.tuple [], AV.tuple [], AV.tuple [], AV.tuple [], AV.bool false, AV.bool false, AV.tuple [], AV.tuple [], AV.tuple [], AV.tuple [], AV.tuple [], AV.bool false, AV.bool false, AV.ptr d 0, AV.int IntKind.i64 ia, AV.int IntKind.i64 jb, AV.bool ab, AV.bool false, AV.tuple [], AV.tuple [], AV.tuple [], AV.tuple [], AV.bool false, AV.bool false, AV.tuple [], AV.tuple [], AV.tuple [], AV.tuple [], AV.tuple [], AV.bool false, AV.bool false, AV.int IntKind.i64 (IntKind.wrap IntKind.i64 (k + (1 : Int))), z 122, z 123, z 124, z 125, z 126, z 127, z 128, z 129, z 130, z 131, z 132, z 133, z 134, z 135, z 136, z 137, z 138, z 139, z 140, z 141, z 142, z 143, z 144, z 145, z 146, z 147, z 148, z 149, z 150, z 151, z 152])) below H')))) := by kernel_rfl

set_option maxRecDepth 100000 in
theorem dtCe (w0 : World) (K : AM → Prop) (Kr : AV → AH → Prop) (below : List AFr) (z : Nat → AV) (d len : Nat) (x : AV) (i j k ia jb ib : Int) (ra cb : Bool) (a ao : Nat) (h : AV) (H : AH) : (trun P w0 6 K Kr 400 0 [] ⟨w dtC (setL (tz 153 z) [(3, .ptr d 0), (6, x), (7, .int .i64 ia), (8, .int .i64 jb), (32, .int .i64 len), (33, .int .i64 i), (54, .int .i64 len), (55, .int .i64 j), (74, .int .i64 len), (75, .int .i64 k)]), below, H⟩ (.ff (.call Unit (fun _ => False) (fun _ => .int .i64 ib) (fun _ H' => H' = H) (fun _ _ => (.call Unit (fun _ => False) (fun _ => .bool ra) (fun _ H' => H' = H) (fun _ _ => (.br (.bs a ao (.v h (.call Unit (fun _ => False) (fun _ => .bool cb) (fun _ H' => H' = H) (fun _ _ => (.tt (.br (.tt (.br (.ff (.call Unit (fun _ => False) (fun _ => .bool true) (fun _ H' => H' = H) (fun _ _ => (.ff (.tt (.ff .stop)))))) (.ff (.ff .stop)))) (.ff (.ff (.ff (.ff .stop)))))))))) (.ff (.ff (.ff (.ff (.ff (.ff .stop))))))))))))) = (decide (k < (↑len : Int)) = false ∧ True ∧ (Ret P w0 19 [AV.ptr d 0, AV.int IntKind.i64 jb] H (fun (x : Nat) ↦ False) fun (v : AV) (H' : AH) ↦ ∃ (x : Unit), v = AV.int IntKind.i64 ib ∧ H' = H) ∧ Pok H (fun (x : Nat) ↦ False) (stackPend below) ∧ ∀ (x_1 : Unit) (H' : AH), H' = H → True ∧ (Ret P w0 12 [AV.ptr d 0, AV.int IntKind.i64 ia] H' (fun (x : Nat) ↦ False) fun (v : AV) (H' : AH) ↦ ∃ (x : Unit), v = AV.bool ra ∧ H' = H) ∧ Pok H' (fun (x : Nat) ↦ False) (stackPend below) ∧ ∀ (x_2 : Unit) (H' : AH), H' = H → (ra = true → SlAt x a ao ia ∧ rdAt H' a (ao + Int.toNat ia * 1) = some h ∧ True ∧ (Ret P w0 20 [h, AV.int IntKind.i64 jb] H' (fun (x : Nat) ↦ False) fun (v : AV) (H' : AH) ↦ ∃ (x : Unit), v = AV.bool cb ∧ H' = H) ∧ Pok H' (fun (x : Nat) ↦ False) (stackPend below) ∧ ∀ (x_3 : Unit) (H' : AH), H' = H → true = true ∧ (cb = true → true = true ∧ ((jb != (0 : Int)) = true → decide (ib < (0 : Int)) = false ∧ True ∧ (Ret P w0 17 [AV.ptr d 0, AV.int IntKind.i64 ib, AV.int IntKind.i64 ia] H' (fun (x : Nat) ↦ False) fun (v : AV) (H' : AH) ↦ ∃ (x : Unit), v = AV.bool true ∧ H' = H) ∧ Pok H' (fun (x : Nat) ↦ False) (stackPend below) ∧ ∀ (x_4 : Unit) (H' : AH), H' = H → false = false ∧ true = true ∧ (!true) = false ∧ K (AM.mk (w dtB (tl [z 0, z 1, z 2, AV.ptr d 0, z 4, z 5, x, AV.int IntKind.i64 ia, AV.int IntKind.i64 jb, z 9, AV.int IntKind.i64 ib, z 11, z 12, z 13, z 14, z 15, z 16, z 17, z 18, z 19, z 20, z 21, z 22, z 23, z 24, z 25, z 26, z 27, z 28, z 29, z 30, z 31, AV.int IntKind.i64 (↑len : Int), AV.int IntKind.i64 i, z 34, z 35, z 36, z 37, z 38, z 39, z 40, z 41, z 42, z 43, z 44, z 45, z 46, z 47, z 48, z 49, z 50, z 51, z 52, z 53, AV.int IntKind.i64 (↑len : Int), AV.int IntKind.i64 (IntKind.wrap IntKind.i64 (j + (1 : Int))), z 56, z 57, z 58, z 59, z 60, z 61, z 62, z 63, z 64, z 65, z 66, z 67, z 68, z 69, z 70, z 71, z 72, z 73, AV.int IntKind.i64 (↑len : Int), AV.int IntKind.i64 k, AV.bool false, z 77, z 78, z 79, z 80, z 81, z 82, z 83, z 84, z 85, z 86, z 87, z 88, z 89, z 90, z 91, z 92, z 93, z 94, z 95, z 96, z 97, z 98, z 99, z 100, z 101, z 102, z 103, z 104, z 105, z 106, z 107, z 108, z 109, z 110, z 111, z 112, z 113, z 114, z 115, z 116, z 117, z 118, z 119, z 120, z 121, AV.ptr d 0, AV.int IntKind.i64 jb, AV.int IntKind.i64 ib, AV.ptr d 0, AV.int IntKind.i64 ia, AV.bool ra, AV.bool true, x, AV.int IntKind.i64 ia, AV.ptr a (ao + Int.toNat ia * 1), h, AV.int IntKind.i64 jb, AV.bool cb, AV.bool cb, AV.bool true, AV.int IntKind.i64 jb, AV.bool (jb != (0 : Int)), AV.bool (jb != (0 : Int)), AV.bool true, AV.int IntKind.i64 ib, AV.bool (decide (ib < (0 : Int))), AV.bool false, AV.ptr d 0, AV.int IntKind.i64 ib, AV.int IntKind.i64 ia, AV.bool true, AV.bool !true, AV.bool !true, AV.bool false, AV.int IntKind.i64 (IntKind.wrap IntKind.i64 (j + (1 : Int))), z 152])) below H')) ∧ ((jb != (0 : Int)) = false → false = false ∧ false = false ∧ K (AM.mk (w dtB (tl [z 0, z 1, z 2, AV.ptr d 0, z 4, z 5, x, AV.int IntKind.i64 ia, AV.int IntKind.i64 jb, z 9, AV.int IntKind.i64 ib, z 11, z 12, z 13, z 14, z 15, z 16, z 17, z 18, z 19, z 20, z 21, z 22, z 23, z 24, z 25, z 26, z 27, z 28, z 29, z 30, z 31, AV.int IntKind.i64 (↑len : Int), AV.int IntKind.i64 i, z 34, z 35, z 36, z 37, z 38, z 39, z 40, z 41, z 42, z 43, z 44, z 45, z 46, z 47, z 48, z 49, z 50, z 51, z 52, z 53, AV.int IntKind.i64 (↑len : Int), AV.int IntKind.i64 (IntKind.wrap IntKind.i64 (j + (1 : Int))), z 56, z 57, z 58, z 59, z 60, z 61, z 62, z 63, z 64, z 65, z 66, z 67, z 68, z 69, z 70, z 71, z 72, z 73, AV.int IntKind.i64 (↑len : Int), AV.int IntKind.i64 k, AV.bool false, z 77, z 78, z 79, z 80, z 81, z 82, z 83, z 84, z 85, z 86, z 87, z 88, z 89, z 90, z 91, z 92, z 93, z 94, z 95, z 96, z 97, z 98, z 99, z 100, z 101, z 102, z 103, z 104, z 105, z 106, z 107, z 108, z 109, z 110, z 111, z 112, z 113, z 114, z 115, z 116, z 117, z 118, z 119, z 120, z 121, AV.ptr d 0, AV.int IntKind.i64 jb, AV.int IntKind.i64 ib, AV.ptr d 0, AV.int IntKind.i64 ia, AV.bool ra, AV.bool true, x, AV.int IntKind.i64 ia, AV.ptr a (ao + Int.toNat ia * 1), h, AV.int IntKind.i64 jb, AV.bool cb, AV.bool cb, AV.bool true, AV.int IntKind.i64 jb, AV.bool (jb != (0 : Int)), AV.bool (jb != (0 : Int)), AV.bool false, AV.tuple [], AV.tuple [], AV.tuple [], AV.tuple [], AV.tuple [], AV.tuple [], AV.tuple [], AV.tuple [], AV.tuple [], AV.bool false, AV.int IntKind.i64 (IntKind.wrap IntKind.i64 (j + (1 : Int))), z 152])) below H'))) ∧ (cb = false → false = false ∧ false = false ∧ false = false ∧ false = false ∧ K (AM.mk (w dtB (tl [z 0, z 1, z 2, AV.ptr d 0, z 4, z 5, x, AV.int IntKind.i64 ia, AV.int IntKind.i64 jb, z 9, AV.int IntKind.i64 ib, z 11, z 12, z 13, z 14, z 15, z 16, z 17, z 18, z 19, z 20, z 21, z 22, z 23, z 24, z 25, z 26, z 27, z 28, z 29, z 30, z 31, AV.int IntKind.i64 (↑len : Int), AV.int IntKind.i64 i, z 34, z 35, z 36, z 37, z 38, z 39, z 40, z 41, z 42, z 43, z 44, z 45, z 46, z 47, z 48, z 49, z 50, z 51, z 52, z 53, AV.int IntKind.i64 (↑len : Int), AV.int IntKind.i64 (IntKind.wrap IntKind.i64 (j + (1 : Int))), z 56, z 57, z 58, z 59, z 60, z 61, z 62, z 63, z 64, z 65, z 66, z 67, z 68, z 69, z 70, z 71, z 72, z 73, AV.int IntKind.i64 (↑len : Int), AV.int IntKind.i64 k, AV.bool false, z 77, z 78, z 79, z 80, z 81, z 82, z 83, z 84, z 85, z 86, z 87, z 88, z 89, z 90, z 91, z 92, z 93, z 94, z 95, z 96, z 97, z 98, z 99, z 100, z 101, z 102, z 103, z 104, z 105, z 106, z 107, z 108, z 109, z 110, z 111, z 112, z 113, z 114, z 115, z 116, z 117, z 118, z 119, z 120, z 121, AV.ptr d 0, AV.int IntKind.i64 jb, AV.int IntKind.i64 ib, AV.ptr d 0, AV.int IntKind.i64 ia, AV.bool ra, AV.bool true, x, AV.int IntKind.i64 ia, AV.ptr a (ao + Int.toNat ia * 1), h, AV.int IntKind.i64 jb, AV.bool cb, AV.bool cb, AV.bool false, AV.tuple [], AV.tuple [], AV.bool false, AV.bool false, AV.tuple [], AV.tuple [], AV.tuple [], AV.tuple [], AV.tuple [], AV.tuple [], AV.tuple [], AV.tuple [], AV.tuple [], AV.bool false, AV.int IntKind.i64 (IntKind.wrap IntKind.i64 (j + (1 : Int))), z 152])) below H'))) ∧ (ra = false → false = false ∧ false = false ∧ false = false ∧ false = false ∧ false = false ∧ false = false ∧ K (AM.mk (w dtB (tl [z 0, z 1, z 2, AV.ptr d 0, z 4, z 5, x, AV.int IntKind.i64 ia, AV.int IntKind.i64 jb, z 9, AV.int IntKind.i64 ib, z 11, z 12, z 13, z 14, z 15, z 16, z 17, z 18, z 19, z 20, z 21, z 22, z 23, z 24, z 25, z 26, z 27, z 28, z 29, z 30, z 31, AV.int IntKind.i64 (↑len : Int), AV.int IntKind.i64 i, z 34, z 35, z 36, z 37, z 38, z 39, z 40, z 41, z 42, z 43, z 44, z 45, z 46, z 47, z 48, z 49, z 50, z 51, z 52, z 53, AV.int IntKind.i64 (↑len : Int), AV.int IntKind.i64 (IntKind.wrap IntKind.i64 (j + (1 : Int))), z 56, z 57, z 58, z 59, z 60, z 61, z 62, z 63, z 64, z 65, z 66, z 67, z 68, z 69, z 70, z 71, z 72, z 73, AV.int IntKind.i64 (↑len : Int), AV.int IntKind.i64 k, AV.bool false, z 77, z 78, z 79, z 80, z 81, z 82, z 83, z 84, z 85, z 86, z 87, z 88, z 89, z 90, z 91, z 92, z 93, z 94, z 95, z 96, z 97, z 98, z 99, z 100, z 101, z 102, z 103, z 104, z 105, z 106, z 107, z 108, z 109, z 110, z 111, z 112, z 113, z 114, z 115, z 116, z 117, z 118, z 119, z 120, z 121, AV.ptr d 0, AV.int IntKind.i64 jb, AV.int IntKind.i64 ib, AV.ptr d 0, AV.int IntKind.i64 ia, AV.bool ra, AV.bool false, AV.tuple [], AV.tuple [], AV.tuple [], AV.tuple [], AV.tuple [], AV.tuple [], AV.bool false, AV.bool false, AV.tuple [], AV.tuple [], AV.bool false, AV.bool false, AV.tuple [], AV.tuple [], AV.tuple [], AV.tuple [], AV.tuple [], AV.tuple [], AV.tuple [], AV.tuple [], AV.tuple [], AV.bool false, AV.int IntKind.i64 (IntKind.wrap IntKind.i64 (j + (1 : Int))), z 152])) below H'))) := by kernel_rfl


section
variable {w0 : World} {H0 : AH} {S : Nat → Prop} {v : AV} {g : List (List Int)} {hs : List AV} {below : List AFr}

section
variable {G : List (List Int)} {sf : Seen} {done nodes : List Int} {upF : Fn}

/-- Who stands over whom, told as a truth. -/
noncomputable def OvB (nodes : List Int) (upF : Fn) (a b : Int) : Bool := overB (placeF (0 :: nodes) 0 fun _ => none) (ovF upF) a b

theorem Made.rch (M : Made G sf done nodes upF) (a : Int) : (placeF (0 :: nodes) 0 (fun _ => none) a).isSome = true ↔ a ∈ (0 :: nodes) := M.ord.plS a

open Classical in
theorem ovB_iff (M : Made G sf done nodes upF) (a b : Int) : OvB nodes upF a b = true ↔ a ∈ (0 :: nodes) ∧ b ∈ (0 :: nodes) ∧ On upF b a := by
  unfold OvB overB ovF
  rw [Bool.and_eq_true, Bool.and_eq_true, M.rch, M.rch, decide_eq_true_eq, and_assoc]

theorem On.root {up : Fn} {place : Int → Int} (T : Tree place up) : ∀ (k : Nat) (n : Int), (up n).isSome = true → place n < (k : Int) → On up n 0
  | 0, n, hn, hk => by have := T.nonneg n hn; omega
  | k + 1, n, hn, hk => by
    by_cases c : n = 0
    · subst c; exact .self 0
    · obtain ⟨u, hu⟩ := Option.isSome_iff_exists.1 hn
      obtain ⟨ku, lu⟩ := T.step n u hu c
      exact .next hu c (On.root T k u ku (by omega))

theorem ovB_self (M : Made G sf done nodes upF) (a : Int) : OvB nodes upF a a = (placeF (0 :: nodes) 0 (fun _ => none) a).isSome := by
  rw [Bool.eq_iff_iff, ovB_iff M, M.rch]
  exact ⟨fun h => h.1, fun h => ⟨h, h, .self a⟩⟩

theorem ovB_root (M : Made G sf done nodes upF) (a : Int) : OvB nodes upF 0 a = (placeF (0 :: nodes) 0 (fun _ => none) a).isSome := by
  rw [Bool.eq_iff_iff, ovB_iff M, M.rch]
  exact ⟨fun h => h.2.1, fun h => ⟨by simp, h, On.root M.fin.full.ok.tree (plc (placeF (0 :: nodes) 0 fun _ => none) a + 1).toNat a (M.known.2 h) (by omega)⟩⟩

theorem ovB_anti (M : Made G sf done nodes upF) {a b : Int} (hne : a ≠ b) (h : OvB nodes upF a b = true) : OvB nodes upF b a = false := by
  cases hc : OvB nodes upF b a with
  | false => rfl
  | true =>
    obtain ⟨ha, hb, h1⟩ := (ovB_iff M a b).1 h
    obtain ⟨_, _, h2⟩ := (ovB_iff M b a).1 hc
    have T := M.fin.full.ok.tree
    have l1 := (h1.known T (M.known.2 hb)).2
    have l2 := (h2.known T (M.known.2 ha)).2
    exact absurd (T.inj a b (M.known.2 ha) (M.known.2 hb) (by omega)) hne

theorem ovB_cmp (M : Made G sf done nodes upF) {a b c : Int} (h1 : OvB nodes upF a c = true) (h2 : OvB nodes upF b c = true) (h3 : OvB nodes upF a b = false) : OvB nodes upF b a = true := by
  obtain ⟨ha, hc, o1⟩ := (ovB_iff M a c).1 h1
  obtain ⟨hb, _, o2⟩ := (ovB_iff M b c).1 h2
  have T := M.fin.full.ok.tree
  rcases Int.le_total (plc (placeF (0 :: nodes) 0 fun _ => none) a) (plc (placeF (0 :: nodes) 0 fun _ => none) b) with l | l
  · have := o2.cmp T (M.known.2 hc) o1 l
    rw [(ovB_iff M a b).2 ⟨ha, hb, this⟩] at h3
    cases h3
  · exact (ovB_iff M b a).2 ⟨hb, ha, o1.cmp T (M.known.2 hc) o2 l⟩

theorem ovB_trans (M : Made G sf done nodes upF) {a b c : Int} (h1 : OvB nodes upF a b = true) (h2 : OvB nodes upF b c = true) : OvB nodes upF a c = true := by
  obtain ⟨ha, hb, o1⟩ := (ovB_iff M a b).1 h1
  obtain ⟨_, hc, o2⟩ := (ovB_iff M b c).1 h2
  exact (ovB_iff M a c).2 ⟨ha, hc, o2.trans o1⟩

/-- The nearest stands over each from which a way comes. -/
theorem ovB_edge (M : Made G sf done nodes upF) {a b : Int} (ha : (placeF (0 :: nodes) 0 (fun _ => none) a).isSome = true) (hab : b ∈ G.getD a.toNat []) (hb : b ≠ 0) :
    ∃ u, (if (placeF (0 :: nodes) 0 (fun _ => none) b).isSome = true then (idomF upF G.length).getD b.toNat (-1) else -1) = u ∧ 0 ≤ u ∧ OvB nodes upF u a = true := by
  have ham := (M.rch a).1 ha
  have hbm := M.ord.closed a ham b hab
  have hbn : b ∈ nodes := by
    rcases List.mem_cons.1 hbm with e | e
    · exact absurd e hb
    · exact e
  obtain ⟨u, hu⟩ := Option.isSome_iff_exists.1 (M.known.2 hbm)
  have ho := M.fin.fix b hbn u hu a ((M.ord.preds b hbn a).2 ⟨ham, hab⟩)
  have hum := M.known.1 (M.fin.full.ok.tree.step b u hu hb).1
  refine ⟨u, ?_, (M.ord.range u hum).1, (ovB_iff M u a).2 ⟨hum, ham, ho⟩⟩
  rw [if_pos ((M.rch b).2 hbm), M.idom hbm, if_neg hb, hu]
  rfl

variable {H : AH} {d : Nat} {S2 : Nat → Prop} {vg vp vo vi x : AV} {pm : Nat} {hs' xs : List AV}

def dtAh (d : Nat) (x : AV) (len : Nat) (i : Int) : List (Nat × AV) := [(3, .ptr d 0), (6, x), (32, .int .i64 len), (33, .int .i64 i)]

def dtBh (d : Nat) (x : AV) (len : Nat) (i ia j : Int) : List (Nat × AV) := [(3, .ptr d 0), (6, x), (7, .int .i64 ia), (32, .int .i64 len), (33, .int .i64 i), (54, .int .i64 len), (55, .int .i64 j)]

def dtCh (d : Nat) (x : AV) (len : Nat) (i ia j jb k : Int) : List (Nat × AV) := [(3, .ptr d 0), (6, x), (7, .int .i64 ia), (8, .int .i64 jb), (32, .int .i64 len), (33, .int .i64 i), (54, .int .i64 len), (55, .int .i64 j), (74, .int .i64 len), (75, .int .i64 k)]

/-- What the loops of DomTree stand on. -/
structure TEnv (G : List (List Int)) (sf : Seen) (done nodes : List Int) (upF : Fn) (H : AH) (S S2 : Nat → Prop) (d : Nat) (vg vp vo vi x : AV) (pm : Nat) (hs' xs : List AV) (below : List AFr) : Prop where
  M : Made G sf done nodes upF
  D : DomIs H S d G (0 :: nodes) (placeF (0 :: nodes) 0 fun _ => none) (idomF upF G.length) vg vp vo vi pm hs'
  hp : Pok H (fun _ => False) (stackPend below)
  mat : Mat H S2 x G xs
  le : G.length ≤ 24
  rows : ∀ l ∈ G, l.length ≤ 24

theorem TEnv.al (E : TEnv G sf done nodes upF H S S2 d vg vp vo vi x pm hs' xs below) : aLen P H 22 x = some (.int .i64 (G.length : Nat), []) := by rw [← E.mat.len]; exact E.mat.top.aLen et22.und

theorem TEnv.over (E : TEnv G sf done nodes upF H S S2 d vg vp vo vi x pm hs' xs below) (a b : Int) : Ret P w0 17 [.ptr d 0, .int .i64 a, .int .i64 b] H (fun _ => False) fun y H' => ∃ _ : Unit, y = .bool (OvB nodes upF a b) ∧ H' = H := (overB_ret E.D E.M.hO E.M.hV a b).mono fun y H' q => ⟨(), q⟩

theorem TEnv.rch (E : TEnv G sf done nodes upF H S S2 d vg vp vo vi x pm hs' xs below) (a : Int) : Ret P w0 12 [.ptr d 0, .int .i64 a] H (fun _ => False) fun y H' => ∃ _ : Unit, y = .bool (placeF (0 :: nodes) 0 (fun _ => none) a).isSome ∧ H' = H := (reach_ret E.D a).mono fun y H' q => ⟨(), q⟩

theorem dtC_loop (E : TEnv G sf done nodes upF H S S2 d vg vp vo vi x pm hs' xs below) {R : AV → AH → Prop} {i j : Nat} (hi : i < G.length) (hj : j < G.length)
    (hend : ∀ z, Leads P w0 (RetK P 6 below R) ⟨w dtB (setL (tz 153 z) (dtBh d x G.length i i (j + 1 : Nat))), below, H⟩) :
    ∀ (n k : Nat), k + n = G.length → ∀ z, Leads P w0 (RetK P 6 below R) ⟨w dtC (setL (tz 153 z) (dtCh d x G.length i i j j k)), below, H⟩ := by
  have hle := E.le
  intro n
  induction n with
  | zero =>
    intro k hk z
    have hgi : G[i]? = some G[i] := List.getElem?_eq_getElem hi
    obtain ⟨a, ao, h, p1, p2, _, p4, _⟩ := E.mat.at hgi
    have hcb := (contains_ret (w0 := w0) p4 (by have := E.rows G[i] (List.getElem_mem hi); unfold big; omega) (j : Int)).mono (R' := fun y H' => ∃ _ : Unit, y = .bool (decide ((j : Int) ∈ G[i])) ∧ H' = H) fun y H' q => ⟨(), q⟩
    have hid := idom_ret (w0 := w0) E.D (j : Int) (fun hr => by
      have := E.M.ord.range _ ((E.M.rch _).1 hr)
      simpa [idomF] using this)
    have key : ∀ (hra : (placeF (0 :: nodes) 0 (fun _ => none) (i : Int)).isSome = true) (hcb : decide ((j : Int) ∈ G[i]) = true) (hj0 : ((j : Int) != 0) = true), ∃ u, (if (placeF (0 :: nodes) 0 (fun _ => none) (j : Int)).isSome = true then (idomF upF G.length).getD (j : Int).toNat (-1) else -1) = u ∧ 0 ≤ u ∧ OvB nodes upF u i = true := fun hra hcb hj0 =>
      ovB_edge E.M hra (by
        rw [Int.toNat_natCast, List.getD_eq_getElem?_getD, hgi]
        simpa using hcb) (by simpa using hj0)
    have fin : ∀ H', H' = H → ∀ z, Leads P w0 (RetK P 6 below R) ⟨w dtB (setL (tz 153 z) (dtBh d x G.length i i (IntKind.wrap .i64 ((j : Int) + 1)))), below, H'⟩ := fun H' he z => by
      rw [he, wrap1 j (by omega)]
      exact hend z
    refine Leads.go fine (dtCe w0 _ _ below z d G.length x i j k i j (if (placeF (0 :: nodes) 0 (fun _ => none) (j : Int)).isSome = true then (idomF upF G.length).getD (j : Int).toNat (-1) else -1) (placeF (0 :: nodes) 0 (fun _ => none) (i : Int)).isSome (decide ((j : Int) ∈ G[i])) a ao h H) rfl
      ⟨by simp; omega, trivial, hid.mono fun y H' q => ⟨(), q⟩, E.hp, fun _ H1 e1 => ?_⟩
    subst e1
    refine ⟨trivial, E.rch i, E.hp, fun _ H2 e2 => ?_⟩
    subst e2
    refine ⟨fun hra => ⟨p1, by simpa using p2, trivial, hcb, E.hp, fun _ H3 e3 => ?_⟩, fun _ => ⟨rfl, rfl, rfl, rfl, rfl, rfl, Leads.at (dtBh d x G.length i i (IntKind.wrap .i64 ((j : Int) + 1))) (by kernel_rfl) (fin _ rfl)⟩⟩
    subst e3
    refine ⟨rfl, fun hcb => ⟨rfl, fun hj0 => ?_, fun _ => ⟨rfl, rfl, Leads.at (dtBh d x G.length i i (IntKind.wrap .i64 ((j : Int) + 1))) (by kernel_rfl) (fin _ rfl)⟩⟩, fun _ => ⟨rfl, rfl, rfl, rfl, Leads.at (dtBh d x G.length i i (IntKind.wrap .i64 ((j : Int) + 1))) (by kernel_rfl) (fin _ rfl)⟩⟩
    obtain ⟨u, hu, hu0, huo⟩ := key hra hcb hj0
    rw [hu]
    have hov := E.over (w0 := w0) u i
    rw [huo] at hov
    exact ⟨by simp; omega, trivial, hov, E.hp, fun _ H4 e4 => ⟨rfl, rfl, rfl, Leads.at (dtBh d x G.length i i (IntKind.wrap .i64 ((j : Int) + 1))) (by kernel_rfl) (fin _ e4)⟩⟩
  | succ n ih =>
    intro k hk z
    have nxt : ∀ H', H' = H → ∀ z, Leads P w0 (RetK P 6 below R) ⟨w dtC (setL (tz 153 z) (dtCh d x G.length i i j j (IntKind.wrap .i64 ((k : Int) + 1)))), below, H'⟩ := fun H' he z => by
      rw [he, wrap1 k (by omega)]
      exact ih (k + 1) (by omega) z
    have go : ∀ H', H' = H → ∀ {l : List AV}, tl l = setL (tz l.length (nthD l)) (dtCh d x G.length i i j j (IntKind.wrap .i64 ((k : Int) + 1))) → l.length = 153 → Leads P w0 (RetK P 6 below R) ⟨w dtC (tl l), below, H'⟩ := fun H' he {l} h1 h2 =>
      Leads.at (dtCh d x G.length i i j j (IntKind.wrap .i64 ((k : Int) + 1))) h1 (by rw [h2]; exact nxt H' he)
    have ac := E.over (w0 := w0) (i : Int) (k : Int)
    have bc := E.over (w0 := w0) (j : Int) (k : Int)
    have ab := E.over (w0 := w0) (i : Int) (j : Int)
    have ba := E.over (w0 := w0) (j : Int) (i : Int)
    have hp := E.hp
    refine Leads.go fine (dtCr w0 _ _ below z d G.length x i j k i j (OvB nodes upF i k) (OvB nodes upF j k) (OvB nodes upF i j) (OvB nodes upF j i) H) rfl ⟨by simp; omega, trivial, ac, hp, fun _ H1 e1 => ⟨fun hac => ?_, fun hac => ?_⟩⟩
    · rw [e1]
      refine ⟨trivial, bc, hp, fun _ H2 e2 => ⟨rfl, fun hbc => ?_, fun hbc => ?_⟩⟩
      · rw [e2]
        refine ⟨trivial, ab, hp, fun _ H3 e3 => ⟨rfl, fun hab => ?_, fun hab => ?_⟩⟩
        · rw [e3]
          have hab : OvB nodes upF i j = false := by simpa using hab
          refine ⟨trivial, ba, hp, fun _ H4 e4 => ⟨rfl, by rw [ovB_cmp E.M hac hbc hab]; rfl, ?_⟩⟩
          rw [e4]
          exact ⟨trivial, ab, hp, fun _ H5 e5 => ⟨hab, rfl, rfl, rfl, rfl, rfl, go _ e5 (by kernel_rfl) rfl⟩⟩
        · rw [e3]
          have hab : OvB nodes upF i j = true := by simpa using hab
          refine ⟨rfl, rfl, trivial, ab, hp, fun _ H4 e4 => ⟨hab, ?_⟩⟩
          rw [e4]
          refine ⟨trivial, bc, hp, fun _ H5 e5 => ⟨rfl, hbc, ?_⟩⟩
          rw [e5]
          exact ⟨trivial, ac, hp, fun _ H6 e6 => ⟨rfl, rfl, by rw [hac]; rfl, go _ e6 (by kernel_rfl) rfl⟩⟩
      · rw [e2]
        refine ⟨rfl, rfl, rfl, rfl, trivial, ab, hp, fun _ H3 e3 => ⟨fun hab => ?_, fun hab => ⟨rfl, rfl, rfl, rfl, rfl, go _ e3 (by kernel_rfl) rfl⟩⟩⟩
        rw [e3]
        exact ⟨trivial, bc, hp, fun _ H4 e4 => ⟨rfl, hbc, rfl, rfl, rfl, go _ e4 (by kernel_rfl) rfl⟩⟩
    · rw [e1]
      refine ⟨rfl, rfl, rfl, rfl, rfl, rfl, trivial, ab, hp, fun _ H3 e3 => ⟨fun hab => ?_, fun hab => ⟨rfl, rfl, rfl, rfl, rfl, go _ e3 (by kernel_rfl) rfl⟩⟩⟩
      rw [e3]
      refine ⟨trivial, bc, hp, fun _ H4 e4 => ⟨rfl, ?_, rfl, rfl, rfl, go _ e4 (by kernel_rfl) rfl⟩⟩
      cases hbc : OvB nodes upF (j : Int) (k : Int) with
      | false => rfl
      | true => rw [ovB_trans E.M hab hbc] at hac; cases hac

theorem dtB_loop (E : TEnv G sf done nodes upF H S S2 d vg vp vo vi x pm hs' xs below) {R : AV → AH → Prop} {i : Nat} (hi : i < G.length)
    (hend : ∀ z, Leads P w0 (RetK P 6 below R) ⟨w dtA (setL (tz 153 z) (dtAh d x G.length (i + 1 : Nat))), below, H⟩) :
    ∀ (n j : Nat), j + n = G.length → ∀ z, Leads P w0 (RetK P 6 below R) ⟨w dtB (setL (tz 153 z) (dtBh d x G.length i i j)), below, H⟩ := by
  have hle := E.le
  intro n
  induction n with
  | zero =>
    intro j hj z
    refine Leads.go fine (dtBe w0 _ _ below z d G.length x i j i H) rfl ⟨by simp; omega, ?_⟩
    rw [wrap1 i (by omega)]
    exact Leads.at (dtAh d x G.length (i + 1 : Nat)) (by kernel_rfl) hend
  | succ n ih =>
    intro j hj z
    have nxt : ∀ H', H' = H → ∀ z, Leads P w0 (RetK P 6 below R) ⟨w dtC (setL (tz 153 z) (dtCh d x G.length i i j j (0 : Nat))), below, H'⟩ := fun H' he z => by
      rw [he]
      exact dtC_loop E hi (by omega) (ih (j + 1) (by omega)) G.length 0 (by omega) z
    have ab := E.over (w0 := w0) (i : Int) (j : Int)
    have ba := E.over (w0 := w0) (j : Int) (i : Int)
    have hp := E.hp
    refine Leads.go fine (dtBr w0 _ _ below z d G.length x i j i (OvB nodes upF i j) H) rfl ⟨by simp; omega, fun hne => ⟨trivial, ab, hp, fun _ H1 e1 => ⟨rfl, fun hab => ?_, fun hab => ?_⟩⟩, fun hne => ⟨rfl, rfl, rfl, rfl, E.al, Leads.at (dtCh d x G.length i i j j (0 : Nat)) (by kernel_rfl) (nxt _ rfl)⟩⟩
    · have hne : (i : Int) ≠ (j : Int) := by simpa using hne
      rw [ovB_anti E.M hne hab] at ba
      rw [e1]
      refine ⟨trivial, ba, hp, fun _ H2 e2 => ⟨rfl, rfl, ?_, Leads.at (dtCh d x G.length i i j j (0 : Nat)) (by kernel_rfl) (nxt _ e2)⟩⟩
      rw [e2]
      exact E.al
    · refine ⟨rfl, rfl, ?_, Leads.at (dtCh d x G.length i i j j (0 : Nat)) (by kernel_rfl) (nxt _ e1)⟩
      rw [e1]
      exact E.al

theorem dtA_loop (E : TEnv G sf done nodes upF H S S2 d vg vp vo vi x pm hs' xs below) {R : AV → AH → Prop} (hR : R (.bool true) H) :
    ∀ (n i : Nat), i + n = G.length → ∀ z, Leads P w0 (RetK P 6 below R) ⟨w dtA (setL (tz 153 z) (dtAh d x G.length i)), below, H⟩ := by
  intro n
  induction n with
  | zero =>
    intro i hi z
    exact Leads.go fine (dtAe w0 _ _ below z d G.length x i H) rfl ⟨by simp; omega, hR⟩
  | succ n ih =>
    intro i hi z
    have hp := E.hp
    have aa := E.over (w0 := w0) (i : Int) (i : Int)
    have oa := E.over (w0 := w0) 0 (i : Int)
    rw [ovB_self E.M] at aa
    rw [ovB_root E.M] at oa
    have ra := E.rch (w0 := w0) (i : Int)
    have hx : ∀ b : Bool, (!b == b) = false := fun b => by cases b <;> rfl
    refine Leads.go fine (dtAr w0 _ _ below z d G.length x i (placeF (0 :: nodes) 0 (fun _ => none) (i : Int)).isSome H) rfl ⟨by simp; omega, trivial, aa, hp, fun _ H1 e1 => ?_⟩
    rw [e1]
    refine ⟨trivial, ra, hp, fun _ H2 e2 => ?_⟩
    rw [e2]
    refine ⟨by simp, trivial, oa, hp, fun _ H3 e3 => ?_⟩
    rw [e3]
    refine ⟨trivial, ra, hp, fun _ H4 e4 => ?_⟩
    rw [e4]
    exact ⟨rfl, by simp, E.al, Leads.at (dtBh d x G.length i i (0 : Nat)) (by kernel_rfl) (dtB_loop E (by omega) (ih (i + 1) (by omega)) G.length 0 (by omega))⟩
end

/-- DomTree IS TRUE. -/
theorem dtree_ret (hmat : MatB H0 S v g hs) (hS : ∀ m, S m → m < H0.nx) : Ret P w0 6 [v] H0 (fun _ => False) (KR H0) := Ret.mk fun below hp => by
  refine Leads.wf fun hw => ?_
  by_cases hg : g = []
  · refine Leads.go fine (dt0E w0 _ _ below v g.length H0 (fun H1 => Kept (fun _ => False) H0 H1 ∧ Wf H1) (fun H1 H2 => Kept (fun _ => False) H1 H2) (fun _ _ => True)) (by kernel_rfl)
      ⟨trivial, (both_nil hmat hS hg).mono fun y H1 q => ⟨(), q.1.1, q.1.2, q.2⟩, hp, fun _ H1 q => ⟨rfl, rfl, rfl, trivial, live_ret.mono fun y H2 q => ⟨(), q⟩, pokK hw hp q.1, fun _ H2 k2 => ⟨rfl, ?_, rfl, ?_, q.1.trans k2⟩⟩⟩
    · have := (hmat.congr (H' := H2) fun m hm => (q.1.trans k2).get m (hS m hm) (fun h => h)).top.aLen (P := P) et41
      rw [hmat.len] at this
      exact this
    · rw [hg]; rfl
  · obtain ⟨sf, done, nodes, upF, M⟩ := made (cutG_good hmat.byte) (cutG_pos hg)
    refine Leads.go fine (dt0O w0 _ _ below v H0 (fun p H1 => BothO H0 g sf done nodes upF p.1 p.2 H1 ∧ Wf H1) (fun H1 H2 => Kept (fun _ => False) H1 H2 ∧ Wf H2)) (by kernel_rfl)
      ⟨trivial, (both_ok hmat hS hg M).mono fun y H1 q => ?_, hp, fun p H1 q => ?_⟩
    · obtain ⟨⟨p, q1, q2⟩, q3⟩ := q
      exact ⟨p, q1, q2, q3⟩
    · obtain ⟨⟨⟨vg, vp, vo, vi, pm, hs', hD⟩, _, k1⟩, w1⟩ := q
      have hp1 := pokK hw hp k1
      refine ⟨rfl, trivial, live_ret.wf.mono fun y H2 q => ⟨(), q.1.1, q.1.2, q.2⟩, hp1, fun _ H2 q => ⟨rfl, rfl, ?_⟩⟩
      obtain ⟨k2, w2⟩ := q
      have hp2 := pokK w1 hp1 k2
      have hD2 := hD.congr (H' := H2) fun m hm => k2.get m hm.2 (fun h => h)
      have n1 := k1.nx
      have n2 := k2.nx
      have hm2 : MatB H2 S v g hs := hmat.congr fun m hm => (k1.trans k2).get m (hS m hm) (fun h => h)
      refine Leads.at [(0, v), (3, .ptr p.1 0)] (by kernel_rfl) fun z => ?_
      refine Leads.go fine (dt1 w0 _ _ below z p.1 (cutG g).length v H2 fun x H3 => CutQ H2 g x H3 ∧ Wf H3) rfl
        ⟨trivial, (cut_ret hm2 fun m hm => by have := hS m hm; omega).mono fun y H3 q => ⟨y, rfl, q⟩, hp2, fun x H3 q => ?_⟩
      obtain ⟨⟨⟨os, hmx, _⟩, _, k3⟩, w3⟩ := q
      have hD3 := hD2.congr (H' := H3) fun m hm => k3.get m (by have := hm.2; omega) (fun h => h)
      have E : TEnv (cutG g) sf done nodes upF H3 (fun m => H0.nx ≤ m ∧ m < H1.nx) (fun m => H2.nx ≤ m ∧ m < H3.nx) p.1 vg vp vo vi x pm hs' os below := ⟨M, hD3, pokK w2 hp2 k3, hmx, cutG_le g, fun l hl => cutG_row hl⟩
      exact ⟨E.al, Leads.at (dtAh p.1 x (cutG g).length (0 : Nat)) (by kernel_rfl) (dtA_loop E ⟨rfl, (k1.trans k2).trans k3⟩ (cutG g).length 0 (by omega))⟩
end
end Go.Dm
/- DomCuts. -/
set_option linter.unusedVariables false
namespace Go.Dm
open Go Go.Sx Go.Sy Go.RowKit Go.Proofs.DomP

noncomputable def dcH : AFr := hd P 5 [.r, .r, .r, .l]

noncomputable def dcK : AFr := hd P 5 [.r, .r, .r, .r, .r, .r, .l]

theorem dc0E (w0 : World) (K : AM → Prop) (Kr : AV → AH → Prop) (below : List AFr) (v : AV) (a b : Int) (len : Nat) (H : AH) (Q1 : AH → Prop) (Q2 Q3 : AH → AH → Prop) : (trun P w0 5 K Kr 300 0 [] ⟨frOf P 5 [v, .int .u8 a, .int .u8 b], below, H⟩ (.call Unit (fun _ => False) (fun _ => .tuple [.nptr, .nptr, .bool false]) (fun _ => Q1) (fun _ H1 => (.tt (.tt (.tt (.call Unit (fun _ => False) (fun _ => .bool true) (fun _ => Q2 H1) (fun _ H2 => (.tt (.ln len (.tt .stop))))))))))) = (True ∧ (Ret P w0 16 [v] H (fun (x : Nat) ↦ False) fun (v : AV) (H' : AH) ↦ ∃ (x : Unit), v = AV.tuple [AV.nptr, AV.nptr, AV.bool false] ∧ Q1 H') ∧ Pok H (fun (x : Nat) ↦ False) (stackPend below) ∧ ∀ (x : Unit) (H' : AH), Q1 H' → (!false) = true ∧ true = true ∧ true = true ∧ True ∧ (Ret P w0 8 [] H' (fun (x : Nat) ↦ False) fun (v : AV) (H'_1 : AH) ↦ ∃ (x : Unit), v = AV.bool true ∧ Q2 H' H'_1) ∧ Pok H' (fun (x : Nat) ↦ False) (stackPend below) ∧ ∀ (x : Unit) (H'_1 : AH), Q2 H' H'_1 → true = true ∧ aLen P H'_1 41 v = some (AV.int IntKind.i64 (↑len : Int), []) ∧ true = true ∧ Kr (AV.bool ((↑len : Int) == (0 : Int))) H'_1) := by kernel_rfl

theorem dc0O (w0 : World) (K : AM → Prop) (Kr : AV → AH → Prop) (below : List AFr) (v : AV) (a b : Int) (H : AH) (Q1 : Nat × Nat → AH → Prop) (Q2 : AH → AH → Prop) : (trun P w0 5 K Kr 300 0 [] ⟨frOf P 5 [v, .int .u8 a, .int .u8 b], below, H⟩ (.call (Nat × Nat) (fun _ => False) (fun p => .tuple [.ptr p.1 0, .ptr p.2 0, .bool true]) Q1 (fun p H1 => (.ff (.call Unit (fun _ => False) (fun _ => .bool true) (fun _ => Q2 H1) (fun _ H2 => (.ff (.ff .halt)))))))) = (True ∧ (Ret P w0 16 [v] H (fun (x : Nat) ↦ False) fun (v : AV) (H' : AH) ↦ ∃ (x : Nat × Nat), v = AV.tuple [AV.ptr (Prod.fst x) (0 : Nat), AV.ptr (Prod.snd x) (0 : Nat), AV.bool true] ∧ Q1 x H') ∧ Pok H (fun (x : Nat) ↦ False) (stackPend below) ∧ ∀ (x : Nat × Nat) (H' : AH), Q1 x H' → (!true) = false ∧ True ∧ (Ret P w0 8 [] H' (fun (x : Nat) ↦ False) fun (v : AV) (H'_1 : AH) ↦ ∃ (x : Unit), v = AV.bool true ∧ Q2 H' H'_1) ∧ Pok H' (fun (x : Nat) ↦ False) (stackPend below) ∧ ∀ (x_1 : Unit) (H'_1 : AH), Q2 H' H'_1 → false = false ∧ (!true) = false ∧ K (AM.mk (w dcH (tl [v, AV.int IntKind.u8 a, AV.int IntKind.u8 b, AV.tuple [], AV.tuple [], AV.tuple [], AV.bool false, AV.ptr (Prod.fst x) 0, AV.ptr (Prod.snd x) 0, AV.bool true, AV.tuple [], AV.tuple [], AV.tuple [], AV.tuple [], AV.tuple [], AV.tuple [AV.ptr (Prod.fst x) 0, AV.ptr (Prod.snd x) 0, AV.bool true], v, AV.tuple [AV.ptr (Prod.fst x) 0, AV.ptr (Prod.snd x) 0, AV.bool true], AV.ptr (Prod.fst x) 0, AV.ptr (Prod.snd x) 0, AV.bool true, AV.bool true, AV.bool !true, AV.bool false, AV.bool true, AV.bool !true, AV.bool false, AV.tuple [], AV.tuple [], AV.tuple [], AV.tuple [], AV.tuple [], AV.tuple [], AV.tuple [], AV.tuple [], AV.tuple [], AV.tuple [], AV.tuple [], AV.tuple [], AV.tuple [], AV.tuple [], AV.tuple [], AV.tuple [], AV.tuple [], AV.tuple [], AV.tuple [], AV.tuple [], AV.tuple [], AV.tuple [], AV.tuple [], AV.tuple [], AV.tuple [], AV.tuple [], AV.tuple [], AV.tuple [], AV.tuple [], AV.tuple [], AV.tuple [], AV.tuple [], AV.tuple [], AV.tuple [], AV.tuple [], AV.tuple [], AV.tuple [], AV.tuple [], AV.tuple [], AV.tuple [], AV.tuple [], AV.tuple [], AV.tuple [], AV.tuple [], AV.tuple [], AV.tuple [], AV.tuple [], AV.tuple [], AV.tuple [], AV.tuple [], AV.tuple [], AV.tuple [], AV.tuple []])) below H'_1)) := by kernel_rfl

theorem dc1 (w0 : World) (K : AM → Prop) (Kr : AV → AH → Prop) (below : List AFr) (z : Nat → AV) (d len : Nat) (v : AV) (a b : Int) (ry : Bool) (H : AH) (Q : AV → AH → Prop) : (trun P w0 5 K Kr 300 0 [] ⟨w dcH (setL (tz 80 z) [(0, v), (1, .int .u8 a), (2, .int .u8 b), (7, .ptr d 0)]), below, H⟩ (.call AV (fun _ => False) (fun x => x) Q (fun x H1 => (.ln len (.ln len (.br (.tt (.tt .stop)) (.call Unit (fun _ => False) (fun _ => .bool ry) (fun _ H' => H' = H1) (fun _ _ => (.ff (.br .stop .halt)))))))))) = (True ∧ (Ret P w0 18 [v] H (fun (x : Nat) ↦ False) fun (v : AV) (H' : AH) ↦ ∃ (x : AV), v = x ∧ Q x H') ∧ Pok H (fun (x : Nat) ↦ False) (stackPend below) ∧ ∀ (x : AV) (H' : AH), Q x H' → aLen P H' 22 x = some (AV.int IntKind.i64 (↑len : Int), []) ∧ (↑len : Int) ≠ (0 : Int) ∧ aLen P H' 22 x = some (AV.int IntKind.i64 (↑len : Int), []) ∧ (↑len : Int) ≠ (0 : Int) ∧ ((Int.tmod (IntKind.wrap IntKind.i64 a) (↑len : Int) == Int.tmod (IntKind.wrap IntKind.i64 b) (↑len : Int)) = true → true = true ∧ true = true ∧ Kr (AV.bool true) H') ∧ ((Int.tmod (IntKind.wrap IntKind.i64 a) (↑len : Int) == Int.tmod (IntKind.wrap IntKind.i64 b) (↑len : Int)) = false → True ∧ (Ret P w0 12 [AV.ptr d 0, AV.int IntKind.i64 (Int.tmod (IntKind.wrap IntKind.i64 b) (↑len : Int))] H' (fun (x : Nat) ↦ False) fun (v : AV) (H'_1 : AH) ↦ ∃ (x : Unit), v = AV.bool ry ∧ H'_1 = H') ∧ Pok H' (fun (x : Nat) ↦ False) (stackPend below) ∧ ∀ (x_1 : Unit) (H'_1 : AH), H'_1 = H' → false = false ∧ ((!ry) = true → Kr (AV.bool true) H'_1) ∧ ((!ry) = false → K (AM.mk (w dcK (tl [v, AV.int IntKind.u8 a, AV.int IntKind.u8 b, z 3, z 4, z 5, z 6, AV.ptr d 0, z 8, z 9, x, AV.int IntKind.i64 (Int.tmod (IntKind.wrap IntKind.i64 a) (↑len : Int)), AV.int IntKind.i64 (Int.tmod (IntKind.wrap IntKind.i64 b) (↑len : Int)), z 13, z 14, z 15, z 16, z 17, z 18, z 19, z 20, z 21, z 22, z 23, z 24, z 25, z 26, z 27, z 28, z 29, z 30, z 31, z 32, v, x, AV.int IntKind.u8 a, AV.int IntKind.i64 (IntKind.wrap IntKind.i64 a), x, AV.int IntKind.i64 (↑len : Int), AV.int IntKind.i64 (Int.tmod (IntKind.wrap IntKind.i64 a) (↑len : Int)), AV.int IntKind.u8 b, AV.int IntKind.i64 (IntKind.wrap IntKind.i64 b), x, AV.int IntKind.i64 (↑len : Int), AV.int IntKind.i64 (Int.tmod (IntKind.wrap IntKind.i64 b) (↑len : Int)), AV.int IntKind.i64 (Int.tmod (IntKind.wrap IntKind.i64 a) (↑len : Int)), AV.int IntKind.i64 (Int.tmod (IntKind.wrap IntKind.i64 b) (↑len : Int)), AV.bool (Int.tmod (IntKind.wrap IntKind.i64 a) (↑len : Int) == Int.tmod (IntKind.wrap IntKind.i64 b) (↑len : Int)), AV.bool false, AV.ptr d 0, AV.int IntKind.i64 (Int.tmod (IntKind.wrap IntKind.i64 b) (↑len : Int)), AV.bool ry, AV.bool !ry, AV.bool false, z 54, z 55, z 56, z 57, z 58, z 59, z 60, z 61, z 62, z 63, z 64, z 65, z 66, z 67, z 68, z 69, z 70, z 71, z 72, z 73, z 74, z 75, z 76, z 77, z 78, z 79])) below H'_1)))) := by kernel_rfl

theorem dc2 (w0 : World) (K : AM → Prop) (Kr : AV → AH → Prop) (below : List AFr) (z : Nat → AV) (d t toff : Nat) (x : AV) (xi yi : Int) (o rx ey : Bool) (H : AH) (Q : Nat → AH → Prop) : (trun P w0 5 K Kr 300 0 [] ⟨w dcK (setL (tz 80 z) [(7, .ptr d 0), (10, x), (11, .int .i64 xi), (12, .int .i64 yi)]), below, H⟩ (.bs t toff (.call Nat (fun _ => False) (fun e => .tuple [.ptr e 0, .int .i64 0]) Q (fun e H1 => (.tt (.call Unit (fun _ => False) (fun _ => .bool o) (fun _ H' => H' = H1) (fun _ _ => (.call Unit (fun _ => False) (fun _ => .bool rx) (fun _ H' => H' = H1) (fun _ _ => (.br (.call Unit (fun _ => False) (fun _ => .bool ey) (fun _ H' => H' = H1) (fun _ _ => (.tt (.tt .stop)))) (.ff (.tt .stop)))))))))))) = (SlAt x t toff xi ∧ AV.single (AV.nslice 0 0) = true ∧ StOk H t (toff + Int.toNat xi * 1) 1 ∧ apartOk H (stackPend below) (t :: stOld H t) = true ∧ True ∧ (Ret P w0 9 [x] (stO H t (toff + Int.toNat xi * 1) [AV.nslice 0 0]) (fun (x : Nat) ↦ False) fun (v : AV) (H' : AH) ↦ ∃ (x : Nat), v = AV.tuple [AV.ptr x (0 : Nat), AV.int IntKind.i64 (0 : Int)] ∧ Q x H') ∧ Pok (stO H t (toff + Int.toNat xi * 1) [AV.nslice 0 0]) (fun (x : Nat) ↦ False) (stackPend below) ∧ ∀ (x : Nat) (H' : AH), Q x H' → ((0 : Int) == (0 : Int)) = true ∧ True ∧ (Ret P w0 17 [AV.ptr d 0, AV.int IntKind.i64 xi, AV.int IntKind.i64 yi] H' (fun (x : Nat) ↦ False) fun (v : AV) (H'_1 : AH) ↦ ∃ (x : Unit), v = AV.bool o ∧ H'_1 = H') ∧ Pok H' (fun (x : Nat) ↦ False) (stackPend below) ∧ ∀ (x_1 : Unit) (H'_1 : AH), H'_1 = H' → True ∧ (Ret P w0 12 [AV.ptr d 0, AV.int IntKind.i64 xi] H'_1 (fun (x : Nat) ↦ False) fun (v : AV) (H'_2 : AH) ↦ ∃ (x : Unit), v = AV.bool rx ∧ H'_2 = H') ∧ Pok H'_1 (fun (x : Nat) ↦ False) (stackPend below) ∧ ∀ (x_2 : Unit) (H'_2 : AH), H'_2 = H' → (rx = true → True ∧ (Ret P w0 12 [AV.ptr x 0, AV.int IntKind.i64 yi] H'_2 (fun (x : Nat) ↦ False) fun (v : AV) (H'_3 : AH) ↦ ∃ (x : Unit), v = AV.bool ey ∧ H'_3 = H') ∧ Pok H'_2 (fun (x : Nat) ↦ False) (stackPend below) ∧ ∀ (x : Unit) (H'_3 : AH), H'_3 = H' → true = true ∧ true = true ∧ Kr (AV.bool (o == !ey)) H'_3) ∧ (rx = false → false = false ∧ true = true ∧ Kr (AV.bool (o == false)) H'_2)) := by kernel_rfl

/-! ### A node's ways taken away -/
theorem av_ne {g : List (List Int)} {x y : Int} (h : Av g x y) : y ≠ x := by
  cases h with
  | root h => exact fun e => h e.symm
  | step _ _ h => exact h

theorem getD_set {g : List (List Int)} {x p : Int} (hx : 0 ≤ x) (hp : 0 ≤ p) (hne : p ≠ x) : (g.set x.toNat []).getD p.toNat [] = g.getD p.toNat [] := by
  rw [List.getD_eq_getElem?_getD, List.getElem?_set_ne (by omega), ← List.getD_eq_getElem?_getD]

theorem getD_set_self {g : List (List Int)} {x : Int} : (g.set x.toNat []).getD x.toNat [] = [] := by
  rw [List.getD_eq_getElem?_getD, List.getElem?_set]
  rw [if_pos rfl]
  split <;> rfl

theorem av_ge {g : List (List Int)} (hg : Go.Proofs.DomP.Good g) {x y : Int} (h : Av g x y) : 0 ≤ y := by
  cases h with
  | root _ => exact Int.le_refl _
  | @step p t _ h2 _ => exact (good_at hg _ y h2).1

theorem cut_av {g : List (List Int)} (hg : Go.Proofs.DomP.Good g) {x : Int} (hx : 0 ≤ x) {y : Int} (hne : y ≠ x) : Av (g.set x.toNat []) (-1) y ↔ Av g x y := by
  have hg2 : ∀ p : Int, 0 ≤ p → ∀ t ∈ (g.set x.toNat []).getD p.toNat [], 0 ≤ t ∧ p ≠ x ∧ t ∈ g.getD p.toNat [] := fun p hp t ht => by
    by_cases e : p = x
    · subst e; rw [getD_set_self] at ht; simp at ht
    · rw [getD_set hx hp e] at ht
      exact ⟨(good_at hg _ t ht).1, e, ht⟩
  constructor
  · intro h
    have key : ∀ y, Av (g.set x.toNat []) (-1) y → 0 ≤ y ∧ (y = x ∨ Av g x y) := fun y h => by
      induction h with
      | root _ =>
        refine ⟨Int.le_refl _, ?_⟩
        by_cases c : x = 0
        · exact .inl c.symm
        · exact .inr (.root c)
      | @step p t h1 h2 h3 ih =>
        obtain ⟨hp0, ih⟩ := ih
        obtain ⟨t0, pe, tm⟩ := hg2 p hp0 t h2
        refine ⟨t0, ?_⟩
        by_cases c : t = x
        · exact .inl c
        · exact .inr (.step (ih.resolve_left pe) tm c)
    exact (key y h).2.resolve_left hne
  · intro h
    induction h with
    | root hr => exact .root (by decide)
    | @step p t h1 h2 h3 ih =>
      have hp0 := av_ge hg h1
      have t0 := (good_at hg _ t h2).1
      exact .step (ih (av_ne h1)) (by rw [getD_set hx hp0 (av_ne h1)]; exact h2) (by omega)

section
variable {w0 : World} {H0 : AH} {S : Nat → Prop} {v : AV} {g : List (List Int)} {hs : List AV}

theorem ovB_cut {G : List (List Int)} {sf sf2 : Seen} {done nodes done2 nodes2 : List Int} {upF upF2 : Fn} (hg : Go.Proofs.DomP.Good G) (M : Made G sf done nodes upF) {x y : Int} (hx : 0 ≤ x) (M2 : Made (G.set x.toNat []) sf2 done2 nodes2 upF2) (hne : x ≠ y) (hrx : (placeF (0 :: nodes) 0 (fun _ => none) x).isSome = true) (hry : (placeF (0 :: nodes) 0 (fun _ => none) y).isSome = true) :
    OvB nodes upF x y = !(placeF (0 :: nodes2) 0 (fun _ => none) y).isSome := by
  rw [Bool.eq_iff_iff, ovB_iff M, Bool.not_eq_true', Bool.eq_false_iff, Ne, M2.rch, M2.reach, cut_av hg hx (fun e => hne e.symm), M.dom ((M.rch y).1 hry)]
  exact ⟨fun h => h.2.2, fun h => ⟨(M.rch x).1 hrx, (M.rch y).1 hry, h⟩⟩

/-- DomCuts IS TRUE. -/
theorem dcuts_ret (hmat : MatB H0 S v g hs) (hS : ∀ m, S m → m < H0.nx) {a b : Int} (ha : 0 ≤ a ∧ a < 256) (hb : 0 ≤ b ∧ b < 256) : Ret P w0 5 [v, .int .u8 a, .int .u8 b] H0 (fun _ => False) (KR H0) := Ret.mk fun below hp => by
  refine Leads.wf fun hw => ?_
  by_cases hg : g = []
  · refine Leads.go fine (dc0E w0 _ _ below v a b g.length H0 (fun H1 => Kept (fun _ => False) H0 H1 ∧ Wf H1) (fun H1 H2 => Kept (fun _ => False) H1 H2) (fun _ _ => True)) (by kernel_rfl)
      ⟨trivial, (both_nil hmat hS hg).mono fun y H1 q => ⟨(), q.1.1, q.1.2, q.2⟩, hp, fun _ H1 q => ⟨rfl, rfl, rfl, trivial, live_ret.mono fun y H2 q => ⟨(), q⟩, pokK hw hp q.1, fun _ H2 k2 => ⟨rfl, ?_, rfl, ?_, q.1.trans k2⟩⟩⟩
    · have := (hmat.congr (H' := H2) fun m hm => (q.1.trans k2).get m (hS m hm) (fun h => h)).top.aLen (P := P) et41
      rw [hmat.len] at this
      exact this
    · rw [hg]; rfl
  · have hgood := cutG_good hmat.byte
    have hpos := cutG_pos hg
    have hle := cutG_le g
    obtain ⟨sf, done, nodes, upF, M⟩ := made hgood hpos
    refine Leads.go fine (dc0O w0 _ _ below v a b H0 (fun p H1 => BothO H0 g sf done nodes upF p.1 p.2 H1 ∧ Wf H1) (fun H1 H2 => Kept (fun _ => False) H1 H2 ∧ Wf H2)) (by kernel_rfl)
      ⟨trivial, (both_ok hmat hS hg M).mono fun y H1 q => ?_, hp, fun p H1 q => ?_⟩
    · obtain ⟨⟨p, q1, q2⟩, q3⟩ := q
      exact ⟨p, q1, q2, q3⟩
    · obtain ⟨⟨⟨vg, vp, vo, vi, pm, hs', hD⟩, _, k1⟩, w1⟩ := q
      have hp1 := pokK hw hp k1
      refine ⟨rfl, trivial, live_ret.wf.mono fun y H2 q => ⟨(), q.1.1, q.1.2, q.2⟩, hp1, fun _ H2 q => ⟨rfl, rfl, ?_⟩⟩
      obtain ⟨k2, w2⟩ := q
      have hp2 := pokK w1 hp1 k2
      have hD2 := hD.congr (H' := H2) fun m hm => k2.get m hm.2 (fun h => h)
      have n1 := k1.nx
      have n2 := k2.nx
      have hm2 : MatB H2 S v g hs := hmat.congr fun m hm => (k1.trans k2).get m (hS m hm) (fun h => h)
      have ea : Int.tmod (IntKind.wrap .i64 a) ((cutG g).length : Int) = a.tmod ((cutG g).length : Int) := by rw [wrapI (by omega) (by omega)]
      have eb : Int.tmod (IntKind.wrap .i64 b) ((cutG g).length : Int) = b.tmod ((cutG g).length : Int) := by rw [wrapI (by omega) (by omega)]
      have xa : 0 ≤ a.tmod ((cutG g).length : Int) ∧ a.tmod ((cutG g).length : Int) < ((cutG g).length : Int) := ⟨Int.tmod_nonneg _ ha.1, Int.tmod_lt_of_pos _ (by omega)⟩
      generalize hX : a.tmod ((cutG g).length : Int) = X at ea xa
      generalize hY : b.tmod ((cutG g).length : Int) = Y at eb
      refine Leads.at [(0, v), (1, .int .u8 a), (2, .int .u8 b), (7, .ptr p.1 0)] (by kernel_rfl) fun z => ?_
      have hvc := dc1 w0 (Leads P w0 (RetK P 5 below (KR H0))) (KR H0) below z p.1 (cutG g).length v a b (placeF (0 :: nodes) 0 (fun _ => none) Y).isSome H2 (fun x H3 => CutQ H2 g x H3 ∧ Wf H3)
      rw [ea, eb] at hvc
      refine Leads.go fine hvc rfl ⟨trivial, (cut_ret hm2 fun m hm => by have := hS m hm; omega).mono fun y H3 q => ⟨y, rfl, q⟩, hp2, fun x H3 q => ?_⟩
      obtain ⟨⟨⟨os, hmx, hlst, hsep⟩, hln, k3⟩, w3⟩ := q
      have n3 := k3.nx
      have hp3 := pokK w2 hp2 k3
      have hD3 := hD2.congr (H' := H3) fun m hm => k3.get m (by have := hm.2; omega) (fun h => h)
      have hal : aLen P H3 22 x = some (.int .i64 ((cutG g).length : Nat), []) := by rw [← hmx.len]; exact hmx.top.aLen et22.und
      have kall := (k1.trans k2).trans k3
      refine ⟨hal, by omega, hal, by omega, fun _ => ⟨rfl, rfl, rfl, kall⟩, fun hXY => ⟨trivial, (reach_ret hD3 Y).mono fun y H' q => ⟨(), q⟩, hp3, fun _ H3' e3 => ⟨rfl, fun _ => ⟨rfl, by rw [e3]; exact kall⟩, fun hry => ?_⟩⟩⟩
      subst e3
      have hXY : X ≠ Y := by simpa using hXY
      have hry : (placeF (0 :: nodes) 0 (fun _ => none) Y).isSome = true := by simpa using hry
      refine Leads.at [(7, .ptr p.1 0), (10, x), (11, .int .i64 X), (12, .int .i64 Y)] (by kernel_rfl) fun z => ?_
      -- the ways of X are taken away
      have hXl : X.toNat < os.length := by rw [hmx.len]; omega
      obtain ⟨t, toff, hbx⟩ := hlst.slr.some_base (fun e => by rw [e] at hXl; simp at hXl)
      obtain ⟨s1, s2, s3, s4, s5⟩ := hlst.store hbx (i := X.toNat) hXl (.nslice 0 0)
      obtain ⟨u1, _⟩ := hlst.slr.at hbx (i := X.toNat) (c := os[X.toNat]) (List.getElem?_eq_getElem hXl)
      rw [show ((X.toNat : Nat) : Int) = X by omega] at u1
      have ex : toff + X.toNat * 1 = toff + X.toNat := by omega
      have hk4 : Kept (fun _ => False) H2 (stO H3' t (toff + X.toNat) [.nslice 0 0]) := ⟨by rw [nx_stO]; exact n3, fun m hm _ => (s3.get m (by omega) (fun hx => by have := hln m hx; omega)).trans (k3.get m hm (fun h => h))⟩
      have hp4 := pokK w2 hp2 hk4
      have hD4 := hD2.congr (H' := stO H3' t (toff + X.toNat) [.nslice 0 0]) fun m hm => hk4.get m (by have := hm.2; omega) (fun h => h)
      have hgood2 : Go.Proofs.DomP.Good ((cutG g).set X.toNat []) := fun l hl t ht => by
        rw [List.length_set]
        rcases List.mem_or_eq_of_mem_set hl with hl | hl
        · exact hgood l hl t ht
        · subst hl; simp at ht
      have hsm2 : ∀ l ∈ (cutG g).set X.toNat [], l.length ≤ 1024 := fun l hl => by
        rcases List.mem_or_eq_of_mem_set hl with hl | hl
        · have := cutG_row hl; omega
        · subst hl; simp
      have hm4 : Mat (stO H3' t (toff + X.toNat) [.nslice 0 0]) (fun m => H2.nx ≤ m ∧ m < H3'.nx) x ((cutG g).set X.toNat []) (os.set X.toNat (.nslice 0 0)) := by
        refine ⟨s2.slr, hmx.topS, by simp [hmx.len], fun i h l hi hl => ?_⟩
        rw [List.getElem?_set] at hi hl
        by_cases c : X.toNat = i
        · rw [if_pos c] at hi hl
          rw [if_pos (by omega)] at hi
          rw [if_pos (by rw [← hmx.len]; omega)] at hl
          simp only [Option.some.injEq] at hi hl
          subst hi hl
          exact ⟨SlR.nil _ 0, fun n off hb => by simp [slBase] at hb⟩
        · rw [if_neg c] at hi hl
          obtain ⟨r1, r2⟩ := hmx.row i h l hi hl
          exact ⟨r1.congr fun n off hb => s3.get n (r2 n off hb).2 (hsep i h hi n off hb), r2⟩
      obtain ⟨sf2, done2, nodes2, upF2, M2⟩ := made hgood2 (by rw [List.length_set]; exact hpos)
      obtain ⟨k, ok⟩ := M2.ok
      have hA := new_ret (w0 := w0) hm4 fun _ _ _ _ => ok
      have hw4 : Wf (stO H3' t (toff + X.toNat) [.nslice 0 0]) → True := fun _ => trivial
      have hvc2 := dc2 w0 (Leads P w0 (RetK P 5 below (KR H0))) (KR H0) below z p.1 t toff x X Y (OvB nodes upF X Y) (placeF (0 :: nodes) 0 (fun _ => none) X).isSome (placeF (0 :: nodes2) 0 (fun _ => none) Y).isSome H3'
        (fun e H5 => (∃ vg vp vo vi pm hs, DomIs H5 (fun m => (stO H3' t (toff + X.toNat) [AV.nslice 0 0]).nx ≤ m ∧ m < H5.nx) e ((cutG g).set X.toNat []) (0 :: nodes2) (placeF (0 :: nodes2) 0 fun _ => none) (idomF upF2 ((cutG g).set X.toNat []).length) vg vp vo vi pm hs) ∧ Kept (fun _ => False) (stO H3' t (toff + X.toNat) [.nslice 0 0]) H5)
      rw [ex] at hvc2
      refine Leads.go fine hvc2 rfl ⟨u1, rfl, s1, s5 (fun m => H2.nx ≤ m) _ (pok_new w2 hp2 fun m hm => k3.get m hm (fun h => h)) fun m hm => .inl (hln m hm), trivial, hA.mono fun y H5 q => ?_, hp4, fun e H5 q => ?_⟩
      · obtain ⟨q1, q2, q3⟩ := q
        rcases q3 with ⟨q3, _⟩ | ⟨_, q3, _⟩ | ⟨_, _, _, q3, _⟩ | ⟨_, _, _, _, e, q4, q5⟩
        · rw [List.length_set] at q3; omega
        · rcases q3 with q3 | ⟨l, hl, q3⟩
          · rw [List.length_set] at q3; omega
          · have := hsm2 l hl; omega
        · exact absurd hgood2 q3
        · obtain ⟨vg', vp', vo', vi', pm', hs'', hD5, _, _⟩ := q5
          rw [M2.rev] at hD5
          exact ⟨e, q4, ⟨vg', vp', vo', vi', pm', hs'', hD5⟩, keptOf q1 q2⟩
      · obtain ⟨⟨vg', vp', vo', vi', pm', hs'', hD5⟩, k5⟩ := q
        have k25 : Kept (fun _ => False) H2 H5 := hk4.trans k5
        have hp5 := pokK w2 hp2 k25
        have hD5' := hD2.congr (H' := H5) fun m hm => k25.get m (by have := hm.2; omega) (fun h => h)
        have kend : Kept (fun _ => False) H0 H5 := (k1.trans k2).trans k25
        refine ⟨rfl, trivial, (overB_ret hD5' M.hO M.hV X Y).mono fun y H' q => ⟨(), q⟩, hp5, fun _ H6 e6 => ?_⟩
        rw [e6]
        refine ⟨trivial, (reach_ret hD5' X).mono fun y H' q => ⟨(), q⟩, hp5, fun _ H7 e7 => ⟨fun hrx => ?_, fun hrx => ⟨rfl, rfl, ?_, by rw [e7]; exact kend⟩⟩⟩
        · rw [e7]
          refine ⟨trivial, (reach_ret hD5 Y).mono fun y H' q => ⟨(), q⟩, hp5, fun _ H8 e8 => ⟨rfl, rfl, ?_, by rw [e8]; exact kend⟩⟩
          rw [ovB_cut hgood M xa.1 M2 hXY hrx hry]
          simp
        · have : OvB nodes upF X Y = false := by
            cases ho : OvB nodes upF X Y with
            | false => rfl
            | true => rw [(M.rch X).2 ((ovB_iff M X Y).1 ho).1] at hrx; cases hrx
          rw [this]
          rfl
end
end Go.Dm
