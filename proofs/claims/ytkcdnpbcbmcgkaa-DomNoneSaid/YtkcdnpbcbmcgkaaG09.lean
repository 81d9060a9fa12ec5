/- The engine and the contracts, part 9. No condition beyond the hypotheses of each theorem. -/
import Derived.Test.YtkcdnpbcbmcgkaaG08
/- dom.New: what is asked of a graph; copies. -/
set_option linter.unusedVariables false
namespace Go.Dm
open Go Go.Sx Go.Sy Go.RowKit Go.Proofs.DomP

noncomputable def xA : AFr := hd P 54 [.r, .l, .r, .i]

noncomputable def xB : AFr := hd P 55 [.r, .l, .r, .i]

theorem idx0 (w0 : World) (K : AM → Prop) (Kr : AV → AH → Prop) (below : List AFr) (len : Nat) (v f : AV) (H : AH) : (trun P w0 54 K Kr 200 0 [] ⟨frOf P 54 [v, f], below, H⟩ (.ln len .stop)) = (aLen P H 22 v = some (AV.int IntKind.i64 (↑len : Int), []) ∧ K (AM.mk (w xA (tl [v, f, AV.tuple [], AV.tuple [], AV.int IntKind.i64 (0 : Int), AV.tuple [], v, AV.int IntKind.i64 (↑len : Int), AV.int IntKind.i64 (0 : Int), AV.tuple [], AV.tuple [], AV.tuple [], AV.tuple [], AV.tuple [], AV.tuple [], AV.tuple [], AV.tuple [], AV.tuple [], AV.tuple []])) below H)) := by kernel_rfl

theorem idxI (w0 : World) (K : AM → Prop) (Kr : AV → AH → Prop) (below : List AFr) (z : Nat → AV) (n off len hl : Nat) (v h : AV) (i : Int) (H : AH) : (trun P w0 54 K Kr 200 0 [] ⟨w xA (setL (tz 19 z) [(0, v), (1, .func 30 [] []), (7, .int .i64 len), (8, .int .i64 i)]), below, H⟩ (.tt (.bs n off (.v h (.into (.ln hl (.br .stop .stop))))))) = (decide (i < (↑len : Int)) = true ∧ SlAt v n off i ∧ rdAt H n (off + Int.toNat i * 1) = some h ∧ True ∧ aLen P H 34 h = some (AV.int IntKind.i64 (↑hl : Int), []) ∧ (decide ((↑hl : Int) > (1024 : Int)) = true → Kr (AV.int IntKind.i64 i) H) ∧ (decide ((↑hl : Int) > (1024 : Int)) = false → K (AM.mk (w xA (tl [v, AV.func 30 [] [], z 2, z 3, z 4, AV.int IntKind.i64 i, z 6, AV.int IntKind.i64 (↑len : Int), AV.int IntKind.i64 (IntKind.wrap IntKind.i64 (i + (1 : Int))), AV.bool true, AV.int IntKind.i64 i, AV.func 30 [] [], v, AV.int IntKind.i64 i, AV.ptr n (off + Int.toNat i * 1), h, AV.bool false, z 17, AV.int IntKind.i64 (IntKind.wrap IntKind.i64 (i + (1 : Int)))])) below H))) := by kernel_rfl

theorem idxJ (w0 : World) (K : AM → Prop) (Kr : AV → AH → Prop) (below : List AFr) (z : Nat → AV) (n off len bn : Nat) (v h : AV) (i : Int) (b : Bool) (H : AH) : (trun P w0 54 K Kr 200 0 [] ⟨w xA (setL (tz 19 z) [(0, v), (1, .func 31 [] [.ptr bn 0]), (7, .int .i64 len), (8, .int .i64 i)]), below, H⟩ (.tt (.bs n off (.v h (.call Unit (fun _ => False) (fun _ => .bool b) (fun _ H' => H' = H) (fun _ _ => .br .stop .stop)))))) = (decide (i < (↑len : Int)) = true ∧ SlAt v n off i ∧ rdAt H n (off + Int.toNat i * 1) = some h ∧ True ∧ (Ret P w0 31 [h, AV.ptr bn 0] H (fun (x : Nat) ↦ False) fun (v : AV) (H' : AH) ↦ ∃ (x : Unit), v = AV.bool b ∧ H' = H) ∧ Pok H (fun (x : Nat) ↦ False) (stackPend below) ∧ ∀ (x : Unit) (H' : AH), H' = H → (b = true → Kr (AV.int IntKind.i64 i) H') ∧ (b = false → K (AM.mk (w xA (tl [v, AV.func 31 [] [AV.ptr bn 0], z 2, z 3, z 4, AV.int IntKind.i64 i, z 6, AV.int IntKind.i64 (↑len : Int), AV.int IntKind.i64 (IntKind.wrap IntKind.i64 (i + (1 : Int))), AV.bool true, AV.int IntKind.i64 i, AV.func 31 [] [AV.ptr bn 0], v, AV.int IntKind.i64 i, AV.ptr n (off + Int.toNat i * 1), h, AV.bool false, z 17, AV.int IntKind.i64 (IntKind.wrap IntKind.i64 (i + (1 : Int)))])) below H'))) := by kernel_rfl

theorem idxO (w0 : World) (K : AM → Prop) (Kr : AV → AH → Prop) (below : List AFr) (z : Nat → AV) (len : Nat) (v f : AV) (i : Int) (H : AH) : (trun P w0 54 K Kr 200 0 [] ⟨w xA (setL (tz 19 z) [(0, v), (1, f), (7, .int .i64 len), (8, .int .i64 i)]), below, H⟩ (.ff .stop)) = (decide (i < (↑len : Int)) = false ∧ Kr (AV.int IntKind.i64 (-1 : Int)) H) := by kernel_rfl

theorem idy0 (w0 : World) (K : AM → Prop) (Kr : AV → AH → Prop) (below : List AFr) (len : Nat) (v f : AV) (H : AH) : (trun P w0 55 K Kr 200 0 [] ⟨frOf P 55 [v, f], below, H⟩ (.ln len .stop)) = (aLen P H 34 v = some (AV.int IntKind.i64 (↑len : Int), []) ∧ K (AM.mk (w xB (tl [v, f, AV.tuple [], AV.tuple [], AV.int IntKind.i64 (0 : Int), AV.tuple [], v, AV.int IntKind.i64 (↑len : Int), AV.int IntKind.i64 (0 : Int), AV.tuple [], AV.tuple [], AV.tuple [], AV.tuple [], AV.tuple [], AV.tuple [], AV.tuple [], AV.tuple [], AV.tuple [], AV.tuple []])) below H)) := by kernel_rfl

theorem idyI (w0 : World) (K : AM → Prop) (Kr : AV → AH → Prop) (below : List AFr) (z : Nat → AV) (n off len bn : Nat) (v : AV) (i x g : Int) (H : AH) : (trun P w0 55 K Kr 200 0 [] ⟨w xB (setL (tz 19 z) [(0, v), (1, .func 33 [] [.ptr bn 0]), (7, .int .i64 len), (8, .int .i64 i)]), below, H⟩ (.tt (.bs n off (.v (.int .i64 x) (.into (.br (.tt (.br .stop .stop)) (.v (.int .i64 g) (.ff (.br .stop .stop))))))))) = (decide (i < (↑len : Int)) = true ∧ SlAt v n off i ∧ rdAt H n (off + Int.toNat i * 1) = some (AV.int IntKind.i64 x) ∧ True ∧ (decide (x < (0 : Int)) = true → true = true ∧ (true = true → Kr (AV.int IntKind.i64 i) H) ∧ (true = false → K (AM.mk (w xB (tl [v, AV.func 33 [] [AV.ptr bn 0], z 2, z 3, z 4, AV.int IntKind.i64 i, z 6, AV.int IntKind.i64 (↑len : Int), AV.int IntKind.i64 (IntKind.wrap IntKind.i64 (i + (1 : Int))), AV.bool true, AV.int IntKind.i64 i, AV.func 33 [] [AV.ptr bn 0], v, AV.int IntKind.i64 i, AV.ptr n (off + Int.toNat i * 1), AV.int IntKind.i64 x, AV.bool false, z 17, AV.int IntKind.i64 (IntKind.wrap IntKind.i64 (i + (1 : Int)))])) below H))) ∧ (decide (x < (0 : Int)) = false → rdAt H bn 0 = some (AV.int IntKind.i64 g) ∧ false = false ∧ (decide (x ≥ g) = true → Kr (AV.int IntKind.i64 i) H) ∧ (decide (x ≥ g) = false → K (AM.mk (w xB (tl [v, AV.func 33 [] [AV.ptr bn 0], z 2, z 3, z 4, AV.int IntKind.i64 i, z 6, AV.int IntKind.i64 (↑len : Int), AV.int IntKind.i64 (IntKind.wrap IntKind.i64 (i + (1 : Int))), AV.bool true, AV.int IntKind.i64 i, AV.func 33 [] [AV.ptr bn 0], v, AV.int IntKind.i64 i, AV.ptr n (off + Int.toNat i * 1), AV.int IntKind.i64 x, AV.bool false, z 17, AV.int IntKind.i64 (IntKind.wrap IntKind.i64 (i + (1 : Int)))])) below H)))) := by kernel_rfl

theorem idyO (w0 : World) (K : AM → Prop) (Kr : AV → AH → Prop) (below : List AFr) (z : Nat → AV) (len : Nat) (v f : AV) (i : Int) (H : AH) : (trun P w0 55 K Kr 200 0 [] ⟨w xB (setL (tz 19 z) [(0, v), (1, f), (7, .int .i64 len), (8, .int .i64 i)]), below, H⟩ (.ff .stop)) = (decide (i < (↑len : Int)) = false ∧ Kr (AV.int IntKind.i64 (-1 : Int)) H) := by kernel_rfl

theorem cfA (w0 : World) (K : AM → Prop) (Kr : AV → AH → Prop) (below : List AFr) (v f : AV) (H : AH) (Q : Int → Prop) : (trun P w0 29 K Kr 200 0 [] ⟨frOf P 29 [v, f], below, H⟩ (.call Int (fun _ => False) (fun i => .int .i64 i) (fun i H' => H' = H ∧ Q i) (fun _ _ => .stop))) = (True ∧ (Ret P w0 54 [v, f] H (fun (x : Nat) ↦ False) fun (v : AV) (H' : AH) ↦ ∃ (x : Int), v = AV.int IntKind.i64 x ∧ H' = H ∧ Q x) ∧ Pok H (fun (x : Nat) ↦ False) (stackPend below) ∧ ∀ (x : Int) (H' : AH), H' = H ∧ Q x → Kr (AV.bool (decide (x ≥ (0 : Int)))) H') := by kernel_rfl

theorem cfB (w0 : World) (K : AM → Prop) (Kr : AV → AH → Prop) (below : List AFr) (v f : AV) (H : AH) (Q : Int → Prop) : (trun P w0 32 K Kr 200 0 [] ⟨frOf P 32 [v, f], below, H⟩ (.call Int (fun _ => False) (fun i => .int .i64 i) (fun i H' => H' = H ∧ Q i) (fun _ _ => .stop))) = (True ∧ (Ret P w0 55 [v, f] H (fun (x : Nat) ↦ False) fun (v : AV) (H' : AH) ↦ ∃ (x : Int), v = AV.int IntKind.i64 x ∧ H' = H ∧ Q x) ∧ Pok H (fun (x : Nat) ↦ False) (stackPend below) ∧ ∀ (x : Int) (H' : AH), H' = H ∧ Q x → Kr (AV.bool (decide (x ≥ (0 : Int)))) H') := by kernel_rfl

theorem cl2 (w0 : World) (K : AM → Prop) (Kr : AV → AH → Prop) (below : List AFr) (bn : Nat) (v : AV) (b : Bool) (H : AH) : (trun P w0 31 K Kr 200 0 [] ⟨frOf P 31 [v, .ptr bn 0], below, H⟩ (.call Unit (fun _ => False) (fun _ => .bool b) (fun _ H' => H' = H) (fun _ _ => .stop))) = (True ∧ (Ret P w0 32 [v, AV.func 33 [] [AV.ptr bn 0]] H (fun (x : Nat) ↦ False) fun (v : AV) (H' : AH) ↦ ∃ (x : Unit), v = AV.bool b ∧ H' = H) ∧ Pok H (fun (x : Nat) ↦ False) (stackPend below) ∧ ∀ (x : Unit) (H' : AH), H' = H → Kr (AV.bool b) H') := by kernel_rfl

noncomputable def pL : AFr := hd P 34 [.r, .r, .r, .r, .r, .r, .l, .i]

def andU (a b : Int) : Int := IntKind.u64.wrap (BitVec.ofInt IntKind.u64.bits a &&& BitVec.ofInt IntKind.u64.bits b).toNat

def shrU (a : Int) : Int := a.fdiv (2 ^ (min (32 : Int).toNat IntKind.u64.bits))

def addU (a b : Int) : Int := IntKind.u64.wrap (a + b)

def mulU (a b : Int) : Int := IntKind.u64.wrap (a * b)

def mulT (x y : Int) : Int := addU (mulU (shrU x) (andU y 4294967295)) (shrU (mulU (andU x 4294967295) (andU y 4294967295)))

def mulHi (x y : Int) : Int := addU (addU (mulU (shrU x) (shrU y)) (shrU (mulT x y))) (shrU (addU (andU (mulT x y) 4294967295) (mulU (andU x 4294967295) (shrU y))))

theorem mul0 (w0 : World) (K : AM → Prop) (Kr : AV → AH → Prop) (below : List AFr) (m : Int) (H : AH) : trun P w0 56 K Kr 300 0 [] ⟨frOf P 56 [.int .u64 1, .int .u64 m], below, H⟩ (.into .stop) = (True ∧ Kr (.tuple [.int .u64 (mulHi 1 m), .int .u64 (mulU 1 m)]) H) := by kernel_rfl

theorem mulHi_small : ∀ m : Nat, m < 1025 → mulHi 1 (m : Int) = 0 ∧ mulU 1 (m : Int) = m := by decide +kernel

theorem mul_ret {w0 : World} {H : AH} {m : Nat} (hm : m ≤ 1024) : Ret P w0 56 [.int .u64 1, .int .u64 m] H (fun _ => False) fun v H' => v = .tuple [.int .u64 0, .int .u64 m] ∧ H' = H := Ret.mk fun below hp => by
  obtain ⟨h1, h2⟩ := mulHi_small m (by omega)
  exact Leads.go fine (mul0 w0 _ _ below m H) (by kernel_rfl) ⟨trivial, by rw [h1, h2], rfl⟩

theorem rep0 (w0 : World) (K : AM → Prop) (Kr : AV → AH → Prop) (below : List AFr) (n m : Nat) (c : Int) (s : AV) (H H1 H2 : AH) : (trun P w0 34 K Kr 200 0 [] ⟨frOf P 34 [.slice n 0 1 1, .int .i64 m], below, H⟩ (.ff (.call Unit (fun _ => False) (fun _ => .tuple [.int .u64 0, .int .u64 m]) (fun _ H' => H' = H) (fun _ H' => .ff (.ff (.ff (.r (.val (.int .i64 c), H2, [H'.nx]) .stop))))))) = (decide ((↑m : Int) < (0 : Int)) = false ∧ True ∧ (Ret P w0 56 [AV.int IntKind.u64 (IntKind.wrap IntKind.u64 (↑1 : Int)), AV.int IntKind.u64 (IntKind.wrap IntKind.u64 (↑m : Int))] H (fun (x : Nat) ↦ False) fun (v : AV) (H' : AH) ↦ ∃ (x : Unit), v = AV.tuple [AV.int IntKind.u64 (0 : Int), AV.int IntKind.u64 (↑m : Int)] ∧ H' = H) ∧ Pok H (fun (x : Nat) ↦ False) (stackPend below) ∧ ∀ (x : Unit) (H' : AH), H' = H → decide ((0 : Int) > (0 : Int)) = false ∧ false = false ∧ decide ((↑m : Int) > (9223372036854775807 : Int)) = false ∧ MkOk P 3 (IntKind.wrap IntKind.i64 (↑m : Int)) (IntKind.wrap IntKind.i64 (↑m : Int)) ∧ True ∧ aCopy P (AH.new H' (AObj.row (reps [AV.int IntKind.i64 (0 : Int)] (Int.toNat (IntKind.wrap IntKind.i64 (↑m : Int)))) 3 true (St.own none))) [34, 34] [AV.slice (AH.nx H') 0 (Int.toNat (IntKind.wrap IntKind.i64 (↑m : Int))) (Int.toNat (IntKind.wrap IntKind.i64 (↑m : Int))), AV.slice n 0 1 1] = some [(AN.val (AV.int IntKind.i64 c), H2, [AH.nx H'])] ∧ apartOk (AH.new H' (AObj.row (reps [AV.int IntKind.i64 (0 : Int)] (Int.toNat (IntKind.wrap IntKind.i64 (↑m : Int)))) 3 true (St.own none))) (stackPend below) [AH.nx H'] = true ∧ K (AM.mk (w pL (tl [AV.slice n 0 1 1, AV.int IntKind.i64 (↑m : Int), AV.tuple [], AV.tuple [], AV.nslice 0 0, AV.int IntKind.u64 (0 : Int), AV.int IntKind.u64 (↑m : Int), AV.slice (AH.nx H') 0 (Int.toNat (IntKind.wrap IntKind.i64 (↑m : Int))) (Int.toNat (IntKind.wrap IntKind.i64 (↑m : Int))), AV.int IntKind.i64 c, AV.int IntKind.i64 (↑m : Int), AV.bool false, AV.tuple [], AV.tuple [AV.int IntKind.u64 (0 : Int), AV.int IntKind.u64 (↑m : Int)], AV.slice n 0 1 1, AV.int IntKind.i64 (↑1 : Int), AV.int IntKind.u64 (IntKind.wrap IntKind.u64 (↑1 : Int)), AV.int IntKind.i64 (↑m : Int), AV.int IntKind.u64 (IntKind.wrap IntKind.u64 (↑m : Int)), AV.tuple [AV.int IntKind.u64 (0 : Int), AV.int IntKind.u64 (↑m : Int)], AV.int IntKind.u64 (0 : Int), AV.int IntKind.u64 (↑m : Int), AV.int IntKind.u64 (0 : Int), AV.bool (decide ((0 : Int) > (0 : Int))), AV.bool false, AV.int IntKind.u64 (↑m : Int), AV.bool (decide ((↑m : Int) > (9223372036854775807 : Int))), AV.bool false, AV.tuple [], AV.int IntKind.u64 (↑m : Int), AV.int IntKind.i64 (IntKind.wrap IntKind.i64 (↑m : Int)), AV.slice (AH.nx H') 0 (Int.toNat (IntKind.wrap IntKind.i64 (↑m : Int))) (Int.toNat (IntKind.wrap IntKind.i64 (↑m : Int))), AV.slice (AH.nx H') 0 (Int.toNat (IntKind.wrap IntKind.i64 (↑m : Int))) (Int.toNat (IntKind.wrap IntKind.i64 (↑m : Int))), AV.slice n 0 1 1, AV.int IntKind.i64 c, AV.tuple [], AV.tuple [], AV.tuple [], AV.tuple [], AV.tuple [], AV.tuple [], AV.tuple [], AV.tuple [], AV.tuple [], AV.tuple [], AV.tuple [], AV.tuple [], AV.tuple [], AV.tuple []])) below H2)) := by kernel_rfl

theorem repL (w0 : World) (K : AM → Prop) (Kr : AV → AH → Prop) (below : List AFr) (z : Nat → AV) (r m : Nat) (k c : Int) (sa sb : AV) (H H2 : AH) : (trun P w0 34 K Kr 200 0 [] ⟨w pL (setL (tz 48 z) [(7, .slice r 0 m m), (8, .int .i64 k)]), below, H⟩ (.tt (.v sa (.v sb (.r (.val (.int .i64 c), H2, [r]) .stop))))) = (decide (k < (↑m : Int)) = true ∧ aSlice P H 34 (AV.slice r 0 m m) (some (AV.int IntKind.i64 k)) none none = some sa ∧ aSlice P H 34 (AV.slice r 0 m m) none (some (AV.int IntKind.i64 k)) none = some sb ∧ aCopy P H [34, 34] [sa, sb] = some [(AN.val (AV.int IntKind.i64 c), H2, [r])] ∧ apartOk H (stackPend below) [r] = true ∧ K (AM.mk (w pL (tl [z 0, z 1, z 2, z 3, z 4, z 5, z 6, AV.slice r 0 m m, AV.int IntKind.i64 (IntKind.wrap IntKind.i64 (k + c)), z 9, z 10, z 11, z 12, z 13, z 14, z 15, z 16, z 17, z 18, z 19, z 20, z 21, z 22, z 23, z 24, z 25, z 26, z 27, z 28, z 29, z 30, z 31, z 32, z 33, AV.int IntKind.i64 k, AV.slice r 0 m m, AV.int IntKind.i64 (↑m : Int), AV.bool true, AV.int IntKind.i64 k, AV.slice r 0 m m, AV.int IntKind.i64 k, sa, AV.slice r 0 m m, AV.int IntKind.i64 k, sb, AV.int IntKind.i64 c, AV.int IntKind.i64 (IntKind.wrap IntKind.i64 (k + c)), z 47])) below H2)) := by kernel_rfl

theorem repO (w0 : World) (K : AM → Prop) (Kr : AV → AH → Prop) (below : List AFr) (z : Nat → AV) (r m : Nat) (k : Int) (H : AH) : (trun P w0 34 K Kr 200 0 [] ⟨w pL (setL (tz 48 z) [(7, .slice r 0 m m), (8, .int .i64 k)]), below, H⟩ (.ff .stop)) = (decide (k < (↑m : Int)) = false ∧ Kr (AV.slice r 0 m m) H) := by kernel_rfl

theorem cloN (w0 : World) (K : AM → Prop) (Kr : AV → AH → Prop) (below : List AFr) (v : AV) (H : AH) : (trun P w0 35 K Kr 200 0 [] ⟨frOf P 35 [v], below, H⟩ (.is (.bool true) (.tt .stop))) = ((guardOk P BinOp.eql 34 (Operand.tmp 3) (Operand.const (Value.slice none 0 0)) v (AV.nslice 0 0) = true ∧ aBin P BinOp.eql 34 v (AV.nslice 0 0) = some (AV.bool true)) ∧ true = true ∧ Kr (AV.nslice 0 0) H) := by kernel_rfl

theorem cloS (w0 : World) (K : AM → Prop) (Kr : AV → AH → Prop) (below : List AFr) (v v' : AV) (H H' : AH) (ns : List Nat) : (trun P w0 35 K Kr 200 0 [] ⟨frOf P 35 [v], below, H⟩ (.is (.bool false) (.ff (.r (.val v', H', ns) .stop)))) = ((guardOk P BinOp.eql 34 (Operand.tmp 3) (Operand.const (Value.slice none 0 0)) v (AV.nslice 0 0) = true ∧ aBin P BinOp.eql 34 v (AV.nslice 0 0) = some (AV.bool false)) ∧ false = false ∧ True ∧ aAppend P (AH.new H (AObj.row [] 3 true (St.own none))) [34, 34] [AV.slice (AH.nx H) 0 0 0, v] = some [(AN.val v', H', ns)] ∧ apartOk (AH.new H (AObj.row [] 3 true (St.own none))) (stackPend below) ns = true ∧ Kr v' H') := by kernel_rfl

section
variable {w0 : World}

def firstIx (p : AV → Bool) : List AV → Nat → Int
  | [], _ => -1
  | c :: r, i => if p c = true then i else firstIx p r (i + 1)

theorem firstIx_any (p : AV → Bool) : ∀ (l : List AV) (i : Nat), (firstIx p l i ≥ 0 ↔ l.any p = true)
  | [], i => by simp [firstIx]
  | c :: r, i => by
    unfold firstIx
    by_cases h : p c = true
    · simp [h]
    · rw [if_neg h, firstIx_any p r (i + 1)]; simp [h]

def xHead (v f : AV) (len : Nat) (i : Int) : List (Nat × AV) := [(0, v), (1, f), (7, .int .i64 len), (8, .int .i64 i)]

/-- IndexFunc over rows, asked for what is too long. -/
theorem idxI_loop {below : List AFr} {H : AH} {v : AV} {cs : List AV} (hv : SlR H v cs) (hlen : cs.length ≤ 1000000) {p : AV → Bool} (hp : ∀ c ∈ cs, ∃ l, SlR H c l ∧ p c = decide (1024 < l.length)) :
    ∀ (r : List AV) (i : Nat), cs.drop i = r → i ≤ cs.length → ∀ z, Leads P w0 (RetK P 54 below fun x H' => x = .int .i64 (firstIx p r i) ∧ H' = H) ⟨w xA (setL (tz 19 z) (xHead v (.func 30 [] []) cs.length i)), below, H⟩
  | [], i, hdr, hi, z => Leads.go fine (idxO w0 _ _ below z cs.length v _ i H) rfl ⟨by simp [drop_end hdr hi], rfl, rfl⟩
  | c :: r, i, hdr, hi, z => by
    obtain ⟨hlt, hc, hdr'⟩ := drop_step hdr
    obtain ⟨n, off, hb⟩ := hv.some_base (fun e => by rw [e] at hlt; simp at hlt)
    obtain ⟨q1, q2⟩ := hv.at hb hc
    obtain ⟨l, hl, hpc⟩ := hp c (List.mem_of_getElem? hc)
    refine Leads.go fine (idxI w0 _ _ below z n off cs.length l.length v c i H) rfl ⟨by simpa using hlt, q1, by simpa using q2, trivial, by simpa using hl.aLen (P := P) et34.und, fun h => ?_, fun h => ?_⟩
    · have : p c = true := by rw [hpc]; simp at h ⊢; omega
      exact ⟨by unfold firstIx; rw [if_pos this], rfl⟩
    · have : ¬ p c = true := by rw [hpc]; simp at h ⊢; omega
      rw [wrap1 i (by omega)]
      unfold firstIx
      rw [if_neg this]
      exact Leads.at (xHead v (.func 30 [] []) cs.length (i + 1 : Nat)) (by kernel_rfl) (idxI_loop hv hlen hp r (i + 1) hdr' hlt)

theorem containsA_ret {H : AH} {v : AV} {cs : List AV} (hv : SlR H v cs) (hlen : cs.length ≤ 1000000) {p : AV → Bool} (hp : ∀ c ∈ cs, ∃ l, SlR H c l ∧ p c = decide (1024 < l.length)) (hu : P.underlying 22 = some (.slice 34)) :
    Ret P w0 29 [v, .func 30 [] []] H (fun _ => False) fun x H' => x = .bool (cs.any p) ∧ H' = H := Ret.mk fun below hpk => by
  have h54 : Ret P w0 54 [v, .func 30 [] []] H (fun _ => False) fun x H' => x = .int .i64 (firstIx p cs 0) ∧ H' = H := Ret.mk fun below hpk =>
    Leads.go fine (idx0 w0 _ _ below cs.length v _ H) (by kernel_rfl) ⟨by simpa using hv.aLen (P := P) hu, Leads.at (xHead v (.func 30 [] []) cs.length (0 : Nat)) (by kernel_rfl) (idxI_loop hv hlen hp cs 0 rfl (Nat.zero_le _))⟩
  refine Leads.go fine (cfA w0 _ _ below v (.func 30 [] []) H fun i => i = firstIx p cs 0) (by kernel_rfl) ⟨trivial, h54.mono fun x H' q => ⟨firstIx p cs 0, q.1, q.2, rfl⟩, hpk, fun i H' hq => ⟨?_, hq.1⟩⟩
  obtain ⟨_, rfl⟩ := hq
  have := firstIx_any p cs 0
  refine congrArg AV.bool ?_
  cases hx : cs.any p with
  | true => simpa using this.2 hx
  | false =>
    have h : ¬ firstIx p cs 0 ≥ 0 := fun h => by rw [this.1 h] at hx; cases hx
    simpa using h

theorem idyI_loop {below : List AFr} {H : AH} {v : AV} {l : List Int} {bn : Nat} {g : Int} (hv : SlR H v (l.map kI)) (hlen : l.length ≤ 1000000) (hg : rdAt H bn 0 = some (.int .i64 g)) :
    ∀ (r : List Int) (i : Nat), l.drop i = r → i ≤ l.length → ∀ z, Leads P w0 (RetK P 55 below fun x H' => (∃ k : Int, x = .int .i64 k ∧ (k ≥ 0 ↔ (r.any fun t => decide (t < 0) || decide (g ≤ t)) = true)) ∧ H' = H) ⟨w xB (setL (tz 19 z) (xHead v (.func 33 [] [.ptr bn 0]) l.length i)), below, H⟩
  | [], i, hdr, hi, z => Leads.go fine (idyO w0 _ _ below z l.length v _ i H) rfl ⟨by simp [drop_end hdr hi], ⟨-1, rfl, by simp⟩, rfl⟩
  | t :: r, i, hdr, hi, z => by
    obtain ⟨hlt, hc, hdr'⟩ := drop_step hdr
    obtain ⟨n, off, hb, q1, q2⟩ := hv.int hc
    have hend : ∀ (hnot : ¬ t < 0) (hnot2 : ¬ g ≤ t), ∀ z, Leads P w0 (RetK P 55 below fun x H' => (∃ k : Int, x = .int .i64 k ∧ (k ≥ 0 ↔ ((t :: r).any fun t => decide (t < 0) || decide (g ≤ t)) = true)) ∧ H' = H) ⟨w xB (setL (tz 19 z) (xHead v (.func 33 [] [.ptr bn 0]) l.length (i + 1 : Nat))), below, H⟩ := fun h1 h2 z => by
      have := idyI_loop (below := below) hv hlen hg r (i + 1) hdr' hlt z
      simpa [h1, h2] using this
    refine Leads.go fine (idyI w0 _ _ below z n off l.length bn v i t g H) rfl ⟨by simpa using hlt, q1, by simpa using q2, trivial, fun h => ⟨rfl, fun _ => ⟨⟨i, rfl, ?_⟩, rfl⟩, fun h => by cases h⟩, fun h => ⟨hg, rfl, fun h2 => ⟨⟨i, rfl, ?_⟩, rfl⟩, fun h2 => ?_⟩⟩
    · have : t < 0 := by simpa using h
      simp [this]
    · have : g ≤ t := by simpa using h2
      simp [this]
    · rw [wrap1 i (by omega)]
      exact Leads.at (xHead v (.func 33 [] [.ptr bn 0]) l.length (i + 1 : Nat)) (by kernel_rfl) (hend (by simpa using h) (by simpa using h2))

/-- Whether a way goes to no node. -/
def badTo (g : Int) (l : List Int) : Bool := l.any fun t => decide (t < 0) || decide (g ≤ t)

theorem cl2_ret {H : AH} {v : AV} {l : List Int} {bn : Nat} {g : Int} (hv : SlR H v (l.map kI)) (hlen : l.length ≤ 1000000) (hg : rdAt H bn 0 = some (.int .i64 g)) : Ret P w0 31 [v, .ptr bn 0] H (fun _ => False) fun x H' => x = .bool (badTo g l) ∧ H' = H := Ret.mk fun below hpk => by
  have h55 : Ret P w0 55 [v, .func 33 [] [.ptr bn 0]] H (fun _ => False) fun x H' => (∃ k : Int, x = .int .i64 k ∧ (k ≥ 0 ↔ badTo g l = true)) ∧ H' = H := Ret.mk fun below hpk =>
    Leads.go fine (idy0 w0 _ _ below l.length v _ H) (by kernel_rfl) ⟨by simpa using hv.aLen (P := P) et34.und, Leads.at (xHead v (.func 33 [] [.ptr bn 0]) l.length (0 : Nat)) (by kernel_rfl) (idyI_loop hv hlen hg l 0 rfl (Nat.zero_le _))⟩
  have h32 : Ret P w0 32 [v, .func 33 [] [.ptr bn 0]] H (fun _ => False) fun x H' => x = .bool (badTo g l) ∧ H' = H := Ret.mk fun below hpk => by
    refine Leads.go fine (cfB w0 _ _ below v _ H fun k => k ≥ 0 ↔ badTo g l = true) (by kernel_rfl) ⟨trivial, h55.mono fun x H' q => by obtain ⟨⟨k, q1, q2⟩, q3⟩ := q; exact ⟨k, q1, q3, q2⟩, hpk, fun i H' hq => ⟨?_, hq.1⟩⟩
    congr 1
    cases hx : badTo g l with
    | true => simpa using hq.2.2 hx
    | false =>
      have h : ¬ i ≥ 0 := fun h => by rw [hq.2.1 h] at hx; cases hx
      simpa using h
  exact Leads.go fine (cl2 w0 _ _ below bn v (badTo g l) H) (by kernel_rfl) ⟨trivial, h32.mono fun x H' q => ⟨(), q.1, q.2⟩, hpk, fun _ H' hq => ⟨rfl, hq⟩⟩

theorem idxJ_loop {below : List AFr} {H : AH} {v : AV} {cs : List AV} (hv : SlR H v cs) (hlen : cs.length ≤ 1000000) {bn : Nat} {g : Int} (hg : rdAt H bn 0 = some (.int .i64 g)) (hpk : Pok H (fun _ => False) (stackPend below)) {p : AV → Bool} (hp : ∀ c ∈ cs, ∃ l : List Int, SlR H c (l.map kI) ∧ l.length ≤ 1000000 ∧ p c = badTo g l) :
    ∀ (r : List AV) (i : Nat), cs.drop i = r → i ≤ cs.length → ∀ z, Leads P w0 (RetK P 54 below fun x H' => x = .int .i64 (firstIx p r i) ∧ H' = H) ⟨w xA (setL (tz 19 z) (xHead v (.func 31 [] [.ptr bn 0]) cs.length i)), below, H⟩
  | [], i, hdr, hi, z => Leads.go fine (idxO w0 _ _ below z cs.length v _ i H) rfl ⟨by simp [drop_end hdr hi], rfl, rfl⟩
  | c :: r, i, hdr, hi, z => by
    obtain ⟨hlt, hc, hdr'⟩ := drop_step hdr
    obtain ⟨n, off, hb⟩ := hv.some_base (fun e => by rw [e] at hlt; simp at hlt)
    obtain ⟨q1, q2⟩ := hv.at hb hc
    obtain ⟨l, hl, hll, hpc⟩ := hp c (List.mem_of_getElem? hc)
    refine Leads.go fine (idxJ w0 _ _ below z n off cs.length bn v c i (p c) H) rfl ⟨by simpa using hlt, q1, by simpa using q2, trivial, (cl2_ret hl hll hg).mono fun x H' q => ⟨(), by rw [hpc]; exact q.1, q.2⟩, hpk, fun _ H' he => ?_⟩
    subst he
    refine ⟨fun h => ⟨by unfold firstIx; rw [if_pos h], rfl⟩, fun h => ?_⟩
    rw [wrap1 i (by omega)]
    unfold firstIx
    rw [if_neg (by rw [h]; simp)]
    exact Leads.at (xHead v (.func 31 [] [.ptr bn 0]) cs.length (i + 1 : Nat)) (by kernel_rfl) (idxJ_loop hv hlen hg hpk hp r (i + 1) hdr' hlt)

theorem containsB_ret {H : AH} {v : AV} {cs : List AV} (hv : SlR H v cs) (hlen : cs.length ≤ 1000000) {bn : Nat} {g : Int} (hg : rdAt H bn 0 = some (.int .i64 g)) {p : AV → Bool} (hp : ∀ c ∈ cs, ∃ l : List Int, SlR H c (l.map kI) ∧ l.length ≤ 1000000 ∧ p c = badTo g l) (hu : P.underlying 22 = some (.slice 34)) :
    Ret P w0 29 [v, .func 31 [] [.ptr bn 0]] H (fun _ => False) fun x H' => x = .bool (cs.any p) ∧ H' = H := Ret.mk fun below hpk => by
  have h54 : Ret P w0 54 [v, .func 31 [] [.ptr bn 0]] H (fun _ => False) fun x H' => x = .int .i64 (firstIx p cs 0) ∧ H' = H := Ret.mk fun below hpk =>
    Leads.go fine (idx0 w0 _ _ below cs.length v _ H) (by kernel_rfl) ⟨by simpa using hv.aLen (P := P) hu, Leads.at (xHead v (.func 31 [] [.ptr bn 0]) cs.length (0 : Nat)) (by kernel_rfl) (idxJ_loop hv hlen hg hpk hp cs 0 rfl (Nat.zero_le _))⟩
  refine Leads.go fine (cfA w0 _ _ below v (.func 31 [] [.ptr bn 0]) H fun i => i = firstIx p cs 0) (by kernel_rfl) ⟨trivial, h54.mono fun x H' q => ⟨firstIx p cs 0, q.1, q.2, rfl⟩, hpk, fun i H' hq => ⟨?_, hq.1⟩⟩
  obtain ⟨_, rfl⟩ := hq
  have := firstIx_any p cs 0
  refine congrArg AV.bool ?_
  cases hx : cs.any p with
  | true => simpa using this.2 hx
  | false =>
    have h : ¬ firstIx p cs 0 ≥ 0 := fun h => by rw [this.1 h] at hx; cases hx
    simpa using h
end

section
variable {w0 : World}

theorem wrapU {x : Int} (h1 : 0 ≤ x) (h2 : x < 18446744073709551616) : IntKind.wrap .u64 x = x := by
  unfold IntKind.wrap
  simp [IntKind.bits, IntKind.signed]
  omega

theorem slice_hi {H : AH} {r k m : Nat} (hk : k < m) : aSlice P H 34 (.slice r 0 m m) (some (.int .i64 (k : Int))) none none = some (.slice r k (m - k) (m - k)) := by
  have hu := et34.und
  have hz := et34.sz
  simp only [aSlice, hu, hz]
  simp [aBounds, bndM, bndH, bndL, aBound]
  rw [if_pos (by omega)]
  simp
  try omega

theorem slice_lo {H : AH} {r k m : Nat} (hk : k < m) : aSlice P H 34 (.slice r 0 m m) none (some (.int .i64 (k : Int))) none = some (.slice r 0 k m) := by
  have hu := et34.und
  have hz := et34.sz
  simp only [aSlice, hu, hz]
  simp [aBounds, bndM, bndH, bndL, aBound]
  rw [if_pos (by omega)]
  simp

/-- Numbers are copied within, or into, a row. -/
theorem copy_row {H : AH} {r k l cap q off xl cap' : Nat} {cs src new : List AV} {st : Go.Sx.St} {t' : TypeId} {ex' : Bool} (hr : H.get r = some (.row cs 3 true (.own none))) (hq : H.get q = some (.row src t' ex' st)) (hn : new = (src.drop off).take (min xl l)) (h1 : off + min xl l ≤ src.length) (h2 : k + min xl l ≤ cs.length) (hs : new.all AV.single = true) :
    aCopy P H [34, 34] [.slice r k l cap, .slice q off xl cap'] = some [(.val (.int .i64 (min xl l : Nat)), H.write r (setAt cs k new) 3 true none, [r])] := by
  unfold aCopy
  simp only [et34.und, et34.sz, aLenOf]
  unfold copyTo
  have hf : aFirst H 1 (Nat.min xl l) (.slice q off xl cap') = some new := by
    simp only [aFirst, hq, Nat.mul_one]
    rw [if_pos (by exact h1), hn]
  rw [hf]
  simp only [hr]
  rw [if_pos]
  · rfl
  · have hl : new.length = Nat.min xl l := by rw [hn, List.length_take, List.length_drop]; show min _ (src.length - off) = min xl l; omega
    simp only [hl, Nat.mul_one, hs, Bool.and_true, Bool.and_eq_true, decide_eq_true_eq]
    exact ⟨trivial, h2⟩

theorem rep_loop {below : List AFr} {H : AH} {r m : Nat} {c : Int} (hp : Pok H (fun _ => False) (stackPend below)) (hw : Wf H) (hr : r = H.nx) (hm : m ≤ 1024) :
    ∀ (q k : Nat) (ys : List Int) (Hc : AH), m ≤ k + q → 1 ≤ k → k ≤ m → Hc.get r = some (.row (ys.map kI) 3 true (.own none)) → (∀ j, j < H.nx → Hc.get j = H.get j) → Hc.nx = H.nx + 1 → ys.length = m → (∀ i, i < k → ys[i]? = some c) →
      ∀ z, Leads P w0 (RetK P 34 below fun v H' => v = .slice r 0 m m ∧ H'.get r = some (.row ((List.replicate m c).map kI) 3 true (.own none)) ∧ (∀ j, j < H.nx → H'.get j = H.get j) ∧ H'.nx = H.nx + 1) ⟨w pL (setL (tz 48 z) [(7, .slice r 0 m m), (8, .int .i64 k)]), below, Hc⟩ := by
  intro q
  induction q with
  | zero | succ q ih =>
    intro k ys Hc hq h1 hk hg hsame hnx hlen hys z
    rcases Nat.lt_or_ge k m with hlt | hge
    · first
        | (exfalso; omega)
        | (have hcp := copy_row (r := r) (k := k) (l := m - k) (cap := m - k) (q := r) (off := 0) (xl := k) (cap' := m) (new := ((ys.map kI).drop 0).take (min k (m - k))) hg hg rfl (by simp; omega) (by simp; omega) (by simp [List.all_eq_true]; intro x hx; obtain ⟨y, _, rfl⟩ := List.mem_map.1 (List.mem_of_mem_take hx); rfl)
           have haok : AOk Hc (stackPend below) [r] := AOk.one (W := fun j => H.nx ≤ j) (fun p hpp => by
             obtain ⟨a1, a2⟩ := hp p hpp
             obtain ⟨o, ho⟩ := Option.isSome_iff_exists.1 a1
             have := hw p o ho
             exact ⟨by rw [hsame p this]; exact a1, by omega⟩) hg rfl rfl (by omega)
           refine Leads.go fine (repL w0 _ _ below z r m k (min k (m - k) : Nat) (.slice r k (m - k) (m - k)) (.slice r 0 k m) Hc _) rfl ⟨by simp; omega, slice_hi hlt, slice_lo hlt, hcp, haok, ?_⟩
           have ew : IntKind.wrap .i64 ((k : Int) + (min k (m - k) : Nat)) = ((k + min k (m - k) : Nat) : Int) := by rw [wrapI (by omega) (by omega)]; omega
           rw [ew]
           have hset : setAt (ys.map kI) k (((ys.map kI).drop 0).take (min k (m - k))) = (ys.take k ++ ys.take (min k (m - k)) ++ ys.drop (k + min k (m - k))).map kI := by
             unfold setAt
             rw [List.drop_zero, show (List.take (min k (m - k)) (ys.map kI)).length = min k (m - k) by (simp; omega)]
             simp only [List.map_append, List.map_take, List.map_drop]
           refine Leads.at [(7, .slice r 0 m m), (8, .int .i64 (k + min k (m - k) : Nat))] (by kernel_rfl) (ih (k + min k (m - k)) (ys.take k ++ ys.take (min k (m - k)) ++ ys.drop (k + min k (m - k))) _ (by omega) (by omega) (by omega) (by rw [get_write, if_pos rfl, hset]) (fun j hj => by rw [get_write, if_neg (by omega), if_neg (by simp)]; exact hsame j hj) (by rw [nx_write]; exact hnx) (by simp; omega) (fun i hi => ?_))
           rcases Nat.lt_or_ge i k with h | h
           · rw [List.append_assoc, List.getElem?_append_left (by simp; omega), List.getElem?_take, if_pos h]; exact hys i h
           · rw [List.append_assoc, List.getElem?_append_right (by simp; omega), List.getElem?_append_left (by simp; omega), List.getElem?_take, if_pos (by simp; omega)]
             exact hys _ (by simp; omega))
    · have hkm : k = m := by omega
      have hye : ys = List.replicate m c := by
        apply List.ext_getElem?
        intro i
        rw [List.getElem?_replicate]
        rcases Nat.lt_or_ge i m with h | h
        · rw [if_pos h]; exact hys i (by omega)
        · rw [if_neg (by omega), List.getElem?_eq_none (by omega)]
      exact Leads.go fine (repO w0 _ _ below z r m k Hc) rfl ⟨by simp; omega, rfl, by rw [hg, hye], hsame, hnx⟩

theorem reps_map (c : Int) : ∀ m, reps [AV.int .i64 c] m = (List.replicate m c).map kI
  | 0 => rfl
  | m + 1 => by show _ :: reps _ m = _; rw [reps_map c m]; rfl

theorem rep_ret {H : AH} {n m : Nat} {c : Int} (hn : H.get n = some (.row [.int .i64 c] 3 true (.own none))) (hm : m ≤ 1024) (hm1 : 1 ≤ m) :
    Ret P w0 34 [.slice n 0 1 1, .int .i64 m] H (fun _ => False) fun v H' => v = .slice H.nx 0 m m ∧ H'.get H.nx = some (.row ((List.replicate m c).map kI) 3 true (.own none)) ∧ (∀ j, j < H.nx → H'.get j = H.get j) ∧ H'.nx = H.nx + 1 := Ret.mk fun below hp => by
  refine Leads.wf fun hw => ?_
  have hnlt := hw n _ hn
  let H1 := H.new (.row (reps [AV.int .i64 0] (Int.toNat (IntKind.wrap .i64 (m : Int)))) 3 true (.own none))
  have em : Int.toNat (IntKind.wrap .i64 (m : Int)) = m := by rw [wrapI (by omega) (by omega)]; omega
  have hg1 : H1.get H.nx = some (.row ((List.replicate m (0 : Int)).map kI) 3 true (.own none)) := by show (H.new _).get _ = _; rw [get_new, if_pos rfl, em, reps_map]
  have hgn : H1.get n = some (.row [.int .i64 c] 3 true (.own none)) := by show (H.new _).get _ = _; rw [get_new, if_neg (by omega)]; exact hn
  have hcp := copy_row (r := H.nx) (k := 0) (l := m) (cap := m) (q := n) (off := 0) (xl := 1) (cap' := 1) (new := [.int .i64 c]) hg1 hgn (by rw [show min 1 m = 1 by omega]; rfl) (by simp; omega) (by simp; omega) rfl
  have e1 : min 1 m = 1 := by omega
  rw [e1] at hcp
  have haok : AOk H1 (stackPend below) [H.nx] := AOk.one (W := fun j => H.nx ≤ j) (fun p hpp => by
    obtain ⟨a1, a2⟩ := hp p hpp
    obtain ⟨o, ho⟩ := Option.isSome_iff_exists.1 a1
    have := hw p o ho
    exact ⟨by show ((H.new _).get p).isSome = true; rw [get_new, if_neg (by omega)]; exact a1, by omega⟩) hg1 rfl rfl (Nat.le_refl _)
  refine Leads.go fine (rep0 w0 _ _ below n m (1 : Nat) (.nslice 0 0) H H (H1.write H.nx (setAt ((List.replicate m (0 : Int)).map kI) 0 [.int .i64 c]) 3 true none)) (by kernel_rfl) ⟨by simp, trivial, ?_, hp, fun _ H' he => ?_⟩
  · have := mul_ret (w0 := w0) (H := H) hm
    rw [show IntKind.wrap .u64 (m : Int) = m by rw [wrapU (by omega) (by omega)]]
    exact this.mono fun v H' q => ⟨(), q.1, q.2⟩
  · subst he
    have hmk : IntKind.wrap .i64 (m : Int) = m := wrapI (by omega) (by omega)
    refine ⟨by decide, rfl, by simp; omega, ⟨by rw [hmk]; omega, Int.le_refl _, by rw [hmk]; omega, ?_⟩, trivial, ?_, haok, ?_⟩
    · rw [hmk]
      have : bytesT P 3 = 8 := by kernel_rfl
      rw [this]; omega
    · have := hcp
      simp only [em]
      rw [show (reps [AV.int .i64 0] m) = reps [AV.int .i64 0] (Int.toNat (IntKind.wrap .i64 (m : Int))) by rw [em]]
      exact this
    · simp only [em]
      refine Leads.at [(7, .slice H'.nx 0 m m), (8, .int .i64 (1 : Nat))] (by kernel_rfl) (rep_loop (c := c) hp hw rfl hm m 1 (c :: List.replicate (m - 1) 0) _ (by omega) (Nat.le_refl _) hm1 ?_ (fun j hj => ?_) (by rw [nx_write]; rfl) (by simp; omega) (fun i hi => ?_))
      · rw [get_write, if_pos rfl]
        have e : setAt ((List.replicate m (0 : Int)).map kI) 0 [.int .i64 c] = (c :: List.replicate (m - 1) 0).map kI := by
          unfold setAt
          cases m with
          | zero => omega
          | succ m => simp [List.replicate_succ]; rfl
        rw [e]
      · rw [get_write, if_neg (by omega), if_neg (by simp)]
        show (H'.new _).get j = _
        rw [get_new, if_neg (by omega)]
      · have : i = 0 := by omega
        subst this; rfl
end

section
variable {w0 : World}

theorem eql_nil {H : AH} {v : AV} {cs : List AV} (h : SlR H v cs) : ∃ b : Bool, aBin P .eql 34 v (.nslice 0 0) = some (.bool b) ∧ guardOk P .eql 34 (.tmp 3) (.const (.slice none 0 0)) v (.nslice 0 0) = true ∧ (b = true → cs = []) := by
  have hu := et34.und
  have hs := h.sl
  cases v with
  | nslice l c => exact ⟨true, by simp [aBin, isSym, aBinC, aEqual, aEq, hu], rfl, fun _ => h.emp rfl⟩
  | slice n off l c => exact ⟨false, by simp [aBin, isSym, aBinC, aEqual, aEq, hu], rfl, fun h => by cases h⟩
  | eslice n off l z => exact ⟨false, by simp [aBin, isSym, aBinC, aEqual, aEq, hu], rfl, fun h => by cases h⟩
  | zslice n off l z => exact ⟨false, by simp [aBin, isSym, aBinC, aEqual, aEq, hu], rfl, fun h => by cases h⟩
  | hslice a => exact ⟨false, by simp [aBin, isSym, aBinC, aEqual, aEq, hu], rfl, fun h => by cases h⟩
  | _ => simp [isSl] at hs

/-- THE CONTRACT OF Clone. -/
theorem clone_ret' {H : AH} {v : AV} {cs : List AV} (h : SlR H v cs) (hlen : cs.length ≤ 1000000) (hsg : cs.all AV.single = true) : Ret P w0 35 [v] H (fun _ => False) fun x H' => (SlR H' x cs ∧ (∀ n off, slBase x = some (n, off) → H.nx ≤ n) ∧ Kept (fun _ => False) H H') ∧ (cs ≠ [] → ∃ n, x = .eslice n 0 cs.length 1) := Ret.mk fun below hp => by
  refine Leads.wf fun hw => ?_
  obtain ⟨b, h1, h2, h3⟩ := eql_nil h
  cases b with
  | true =>
    have := h3 rfl
    subst this
    exact Leads.go fine (cloN w0 _ _ below v H) (by kernel_rfl) ⟨⟨h2, h1⟩, rfl, ⟨SlR.nil H 0, fun n off hb => (by simp [slBase] at hb), Kept.refl _ _⟩, fun h => absurd rfl h⟩
  | false =>
    let H1 := H.new (.row [] 3 true (.own none))
    have hg1 : H1.get H.nx = some (.row [] 3 true (.own none)) := by show (H.new _).get _ = _; rw [get_new, if_pos rfl]
    have hv1 : SlR H1 v cs := h.congr fun n off hb => by show (H.new _).get _ = _; rw [get_new, if_neg (by have := h.lt hw hb; omega)]
    have hbase : aAppend P H1 [34, 34] [.slice H.nx 0 0 0, v] = appTo P H1 3 1 cs.length cs (.slice H.nx 0 0 0) := by
      obtain ⟨zv, hz, hzl⟩ := et34.z
      unfold aAppend
      simp only [et34.und, et34.sz, hz, List.head?_cons, et34.made, appN, hv1.len, hv1.first, Option.bind_some, Option.map_some, Bool.false_eq_true, if_false]
      rw [if_pos (by simp [hzl, et34.und]), if_pos (by simp)]
    by_cases hn : cs.length = 0
    · have : cs = [] := List.length_eq_zero_iff.1 hn
      subst this
      refine Leads.go fine (cloS w0 _ _ below v (.slice H.nx 0 0 0) H H1 []) (by kernel_rfl) ⟨⟨h2, h1⟩, rfl, trivial, ?_, by unfold apartOk; simp, ?_⟩
      · rw [hbase]; simp [appTo, appSlice, hg1]
      · exact ⟨⟨⟨rfl, rfl, fun n off hb => (by simp [slBase] at hb; obtain ⟨rfl, rfl⟩ := hb; exact ⟨_, _, _, _, hg1, by simp, by simp⟩), fun hb => (by simp [slBase] at hb)⟩, fun n off hb => (by simp [slBase] at hb; omega), Kept.new _ _ _⟩, fun h => absurd rfl h⟩
    · have hroom := et34.roomy (n := 0 + cs.length) (by omega)
      refine Leads.go fine (cloS w0 _ _ below v (.eslice H1.nx 0 (0 + cs.length) 1) H (H1.new (.row ((([] : List AV).drop 0).take (0 * 1) ++ cs) 3 false (.own none))) []) (by kernel_rfl) ⟨⟨h2, h1⟩, rfl, trivial, ?_, by unfold apartOk; simp, ?_⟩
      · rw [hbase]
        simp only [appTo, appSlice, hg1]
        rw [if_neg (by omega), if_pos (by simpa using hroom)]
      · have hg2 : (H1.new (.row ((([] : List AV).drop 0).take (0 * 1) ++ cs) 3 false (.own none))).get H1.nx = some (.row cs 3 false (.own none)) := by rw [get_new, if_pos rfl]; rfl
        refine ⟨⟨⟨rfl, by simp [aLenOf], fun n off hb => ?_, fun hb => by simp [slBase] at hb⟩, fun n off hb => ?_, (Kept.new _ _ _).trans (Kept.new _ _ _)⟩, fun _ => ⟨_, by rw [Nat.zero_add]⟩⟩
        · simp [slBase] at hb
          obtain ⟨rfl, rfl⟩ := hb
          exact ⟨_, _, _, _, hg2, by simp, by simp⟩
        · simp [slBase] at hb
          have : H1.nx = H.nx + 1 := rfl
          omega

theorem clone_ret {H : AH} {v : AV} {cs : List AV} (h : SlR H v cs) (hlen : cs.length ≤ 1000000) (hsg : cs.all AV.single = true) : Ret P w0 35 [v] H (fun _ => False) fun x H' => SlR H' x cs ∧ (∀ n off, slBase x = some (n, off) → H.nx ≤ n) ∧ Kept (fun _ => False) H H' := (clone_ret' h hlen hsg).mono fun _ _ q => q.1
end

noncomputable def nB : AFr := hd P 9 [.r, .r, .r, .r, .l, .r, .i]

theorem et22 : ET P 22 34 := ⟨by kernel_rfl, by kernel_rfl, ⟨.nslice 0 0, by kernel_rfl, rfl⟩, by kernel_rfl, by rw [show bytesT P 34 = 24 by kernel_rfl]; decide⟩
end Go.Dm
/- What a dom.Dom is asked. -/
set_option linter.unusedVariables false
namespace Go.Dm
open Go Go.Sx Go.Sy Go.RowKit Go.Proofs.DomP

/-- A graph of dom that was made, within names of S. -/
structure DomIs (H : AH) (S : Nat → Prop) (d : Nat) (g : List (List Int)) (order : List Int) (pl : Fn) (idom : List Int) (vg vp vo vi : AV) (pm : Nat) (hs : List AV) : Prop where
  row : ∃ st, H.get d = some (.row [vg, vp, vo, .map pm, vi] 52 true st)
  sd : S d
  mat : Mat H S vg g hs
  ord : SlR H vo (order.map kI)
  so : ∀ n off, slBase vo = some (n, off) → S n
  place : MapF H pm kI kI pl
  sp : S pm
  idom : SlR H vi (idom.map kI)
  si : ∀ n off, slBase vi = some (n, off) → S n
  pre : ∃ ps, Mat H S vp (predsAll g order (List.replicate g.length [])) ps

theorem DomIs.congr {H H' : AH} {S : Nat → Prop} {d : Nat} {g : List (List Int)} {order : List Int} {pl : Fn} {idom : List Int} {vg vp vo vi : AV} {pm : Nat} {hs : List AV} (h : DomIs H S d g order pl idom vg vp vo vi pm hs) (e : ∀ m, S m → H'.get m = H.get m) : DomIs H' S d g order pl idom vg vp vo vi pm hs :=
  ⟨by obtain ⟨st, hr⟩ := h.row; exact ⟨st, by rw [e d h.sd]; exact hr⟩, h.sd, h.mat.congr e, h.ord.congr fun n off hb => e n (h.so n off hb), h.so, h.place.congr (e pm h.sp), h.sp, h.idom.congr fun n off hb => e n (h.si n off hb), h.si, by obtain ⟨ps, hp⟩ := h.pre; exact ⟨ps, hp.congr e⟩⟩

theorem DomIs.rd {H : AH} {S : Nat → Prop} {d : Nat} {g : List (List Int)} {order : List Int} {pl : Fn} {idom : List Int} {vg vp vo vi : AV} {pm : Nat} {hs : List AV} (h : DomIs H S d g order pl idom vg vp vo vi pm hs) : rdAt H d 0 = some vg ∧ rdAt H d 1 = some vp ∧ rdAt H d 2 = some vo ∧ rdAt H d 3 = some (.map pm) ∧ rdAt H d 4 = some vi := by
  obtain ⟨st, hr⟩ := h.row
  refine ⟨?_, ?_, ?_, ?_, ?_⟩ <;> (rw [rdAt_row hr]; rfl)

noncomputable def oL : AFr := hd P 17 [.r, .r, .l, .i]

theorem len0 (w0 : World) (K : AM → Prop) (Kr : AV → AH → Prop) (below : List AFr) (d n : Nat) (vg : AV) (H : AH) : (trun P w0 11 K Kr 200 0 [] ⟨frOf P 11 [.ptr d 0], below, H⟩ (.ff (.v vg (.ln n .stop)))) = (false = false ∧ rdAt H d 0 = some vg ∧ aLen P H 22 vg = some (AV.int IntKind.i64 (↑n : Int), []) ∧ Kr (AV.int IntKind.i64 (↑n : Int)) H) := by kernel_rfl

theorem reachY (w0 : World) (K : AM → Prop) (Kr : AV → AH → Prop) (below : List AFr) (d pm : Nat) (n i : Int) (H : AH) : (trun P w0 12 K Kr 200 0 [] ⟨frOf P 12 [.ptr d 0, .int .i64 n], below, H⟩ (.ff (.v (.map pm) (.v (.int .i64 i) .stop)))) = (false = false ∧ rdAt H d 3 = some (AV.map pm) ∧ Hit P H pm 3 (AV.int IntKind.i64 n) (AV.int IntKind.i64 i) ∧ Kr (AV.bool true) H) := by kernel_rfl

theorem reachN (w0 : World) (K : AM → Prop) (Kr : AV → AH → Prop) (below : List AFr) (d pm : Nat) (n : Int) (H : AH) : (trun P w0 12 K Kr 200 0 [] ⟨frOf P 12 [.ptr d 0, .int .i64 n], below, H⟩ (.ff (.v (.map pm) (.ff .stop)))) = (false = false ∧ rdAt H d 3 = some (AV.map pm) ∧ Miss P H pm 3 (AV.int IntKind.i64 n) ∧ Kr (AV.bool false) H) := by kernel_rfl

theorem ord0 (w0 : World) (K : AM → Prop) (Kr : AV → AH → Prop) (below : List AFr) (d : Nat) (vo : AV) (H : AH) (Q : AV → AH → Prop) : (trun P w0 14 K Kr 200 0 [] ⟨frOf P 14 [.ptr d 0], below, H⟩ (.ff (.v vo (.call AV (fun _ => False) (fun v => v) Q (fun _ _ => .stop))))) = (false = false ∧ rdAt H d 2 = some vo ∧ True ∧ (Ret P w0 35 [vo] H (fun (x : Nat) ↦ False) fun (v : AV) (H' : AH) ↦ ∃ (x : AV), v = x ∧ Q x H') ∧ Pok H (fun (x : Nat) ↦ False) (stackPend below) ∧ ∀ (x : AV) (H' : AH), Q x H' → Kr x H') := by kernel_rfl

theorem idomN (w0 : World) (K : AM → Prop) (Kr : AV → AH → Prop) (below : List AFr) (d : Nat) (n : Int) (H : AH) : (trun P w0 19 K Kr 200 0 [] ⟨frOf P 19 [.ptr d 0, .int .i64 n], below, H⟩ (.call Unit (fun _ => False) (fun _ => .bool false) (fun _ H' => H' = H) (fun _ _ => .tt .stop))) = (True ∧ (Ret P w0 12 [AV.ptr d 0, AV.int IntKind.i64 n] H (fun (x : Nat) ↦ False) fun (v : AV) (H' : AH) ↦ ∃ (x : Unit), v = AV.bool false ∧ H' = H) ∧ Pok H (fun (x : Nat) ↦ False) (stackPend below) ∧ ∀ (x : Unit) (H' : AH), H' = H → (!false) = true ∧ Kr (AV.int IntKind.i64 (-1 : Int)) H') := by kernel_rfl

theorem idomY (w0 : World) (K : AM → Prop) (Kr : AV → AH → Prop) (below : List AFr) (d a off : Nat) (n i : Int) (vi : AV) (H : AH) : (trun P w0 19 K Kr 200 0 [] ⟨frOf P 19 [.ptr d 0, .int .i64 n], below, H⟩ (.call Unit (fun _ => False) (fun _ => .bool true) (fun _ H' => H' = H) (fun _ _ => .ff (.v vi (.bs a off (.v (.int .i64 i) .stop)))))) = (True ∧ (Ret P w0 12 [AV.ptr d 0, AV.int IntKind.i64 n] H (fun (x : Nat) ↦ False) fun (v : AV) (H' : AH) ↦ ∃ (x : Unit), v = AV.bool true ∧ H' = H) ∧ Pok H (fun (x : Nat) ↦ False) (stackPend below) ∧ ∀ (x : Unit) (H' : AH), H' = H → (!true) = false ∧ rdAt H' d 4 = some vi ∧ SlAt vi a off n ∧ rdAt H' a (off + Int.toNat n * 1) = some (AV.int IntKind.i64 i) ∧ Kr (AV.int IntKind.i64 i) H') := by kernel_rfl

theorem over0 (w0 : World) (K : AM → Prop) (Kr : AV → AH → Prop) (below : List AFr) (d : Nat) (a b : Int) (ra rb : Bool) (H : AH) : (trun P w0 17 K Kr 200 0 [] ⟨frOf P 17 [.ptr d 0, .int .i64 a, .int .i64 b], below, H⟩ (.call Unit (fun _ => False) (fun _ => .bool ra) (fun _ H' => H' = H) (fun _ _ => .br (.tt (.tt .stop)) (.call Unit (fun _ => False) (fun _ => .bool rb) (fun _ H' => H' = H) (fun _ _ => .ff (.br .stop .stop)))))) = (True ∧ (Ret P w0 12 [AV.ptr d 0, AV.int IntKind.i64 a] H (fun (x : Nat) ↦ False) fun (v : AV) (H' : AH) ↦ ∃ (x : Unit), v = AV.bool ra ∧ H' = H) ∧ Pok H (fun (x : Nat) ↦ False) (stackPend below) ∧ ∀ (x : Unit) (H' : AH), H' = H → ((!ra) = true → true = true ∧ true = true ∧ Kr (AV.bool false) H') ∧ ((!ra) = false → True ∧ (Ret P w0 12 [AV.ptr d 0, AV.int IntKind.i64 b] H' (fun (x : Nat) ↦ False) fun (v : AV) (H' : AH) ↦ ∃ (x : Unit), v = AV.bool rb ∧ H' = H) ∧ Pok H' (fun (x : Nat) ↦ False) (stackPend below) ∧ ∀ (x : Unit) (H' : AH), H' = H → false = false ∧ ((!rb) = true → Kr (AV.bool false) H') ∧ ((!rb) = false → K (AM.mk (w oL (tl [AV.ptr d 0, AV.int IntKind.i64 a, AV.int IntKind.i64 b, AV.tuple [], AV.tuple [], AV.tuple [], AV.bool false, AV.ptr d 0, AV.int IntKind.i64 a, AV.bool ra, AV.bool !ra, AV.bool false, AV.ptr d 0, AV.int IntKind.i64 b, AV.bool rb, AV.bool !rb, AV.bool false, AV.tuple [], AV.tuple [], AV.tuple [], AV.tuple [], AV.tuple [], AV.tuple [], AV.tuple [], AV.tuple [], AV.tuple [], AV.tuple [], AV.tuple [], AV.tuple [], AV.tuple [], AV.tuple [], AV.tuple [], AV.tuple [], AV.tuple []])) below H')))) := by kernel_rfl

theorem overL (w0 : World) (K : AM → Prop) (Kr : AV → AH → Prop) (below : List AFr) (z : Nat → AV) (d n off : Nat) (vi : AV) (a b c : Int) (H : AH) : (trun P w0 17 K Kr 200 0 [] ⟨w oL (setL (tz 34 z) [(0, .ptr d 0), (1, .int .i64 a), (2, .int .i64 b)]), below, H⟩ (.tt (.tt (.tt (.v vi (.bs n off (.v (.int .i64 c) .stop))))))) = (decide (b ≥ (0 : Int)) = true ∧ true = true ∧ (b != a) = true ∧ rdAt H d 4 = some vi ∧ SlAt vi n off b ∧ rdAt H n (off + Int.toNat b * 1) = some (AV.int IntKind.i64 c) ∧ K (AM.mk (w oL (tl [AV.ptr d 0, AV.int IntKind.i64 a, AV.int IntKind.i64 c, z 3, z 4, z 5, z 6, z 7, z 8, z 9, z 10, z 11, z 12, z 13, z 14, z 15, z 16, AV.int IntKind.i64 b, AV.bool (decide (b ≥ (0 : Int))), AV.bool true, AV.int IntKind.i64 b, AV.int IntKind.i64 a, AV.bool (b != a), AV.bool true, AV.ptr d 0, AV.ptr d 0, AV.ptr d 4, vi, AV.int IntKind.i64 b, AV.ptr n (off + Int.toNat b * 1), AV.int IntKind.i64 c, z 31, z 32, z 33])) below H)) := by kernel_rfl

theorem overN (w0 : World) (K : AM → Prop) (Kr : AV → AH → Prop) (below : List AFr) (z : Nat → AV) (d : Nat) (a b : Int) (H : AH) : (trun P w0 17 K Kr 200 0 [] ⟨w oL (setL (tz 34 z) [(0, .ptr d 0), (1, .int .i64 a), (2, .int .i64 b)]), below, H⟩ (.ff (.ff (.ff .stop)))) = (decide (b ≥ (0 : Int)) = false ∧ false = false ∧ false = false ∧ Kr (AV.bool (a == b)) H) := by kernel_rfl

theorem overE (w0 : World) (K : AM → Prop) (Kr : AV → AH → Prop) (below : List AFr) (z : Nat → AV) (d : Nat) (a b : Int) (H : AH) : (trun P w0 17 K Kr 200 0 [] ⟨w oL (setL (tz 34 z) [(0, .ptr d 0), (1, .int .i64 a), (2, .int .i64 b)]), below, H⟩ (.tt (.tt (.ff .stop)))) = (decide (b ≥ (0 : Int)) = true ∧ true = true ∧ (b != a) = false ∧ Kr (AV.bool (a == b)) H) := by kernel_rfl

section
variable {w0 : World} {H : AH} {S : Nat → Prop} {d : Nat} {g : List (List Int)} {order idom : List Int} {pl : Fn} {vg vp vo vi : AV} {pm : Nat} {hs : List AV}

theorem len_ret (h : DomIs H S d g order pl idom vg vp vo vi pm hs) : Ret P w0 11 [.ptr d 0] H (fun _ => False) fun v H' => v = .int .i64 (g.length : Nat) ∧ H' = H := Ret.mk fun below hp =>
  Leads.go fine (len0 w0 _ _ below d g.length vg H) (by kernel_rfl) ⟨rfl, h.rd.1, by rw [← h.mat.len]; exact h.mat.top.aLen et22.und, rfl, rfl⟩

theorem reach_ret (h : DomIs H S d g order pl idom vg vp vo vi pm hs) (n : Int) : Ret P w0 12 [.ptr d 0, .int .i64 n] H (fun _ => False) fun v H' => v = .bool (pl n).isSome ∧ H' = H := Ret.mk fun below hp => by
  cases hn : pl n with
  | some i => exact Leads.go fine (reachY w0 _ _ below d pm n i H) (by kernel_rfl) ⟨rfl, h.rd.2.2.2.1, h.place.hit (vf := kI) key3 hn, rfl, rfl⟩
  | none => exact Leads.go fine (reachN w0 _ _ below d pm n H) (by kernel_rfl) ⟨rfl, h.rd.2.2.2.1, h.place.miss (vf := kI) key3 hn, rfl, rfl⟩

theorem order_ret' (h : DomIs H S d g order pl idom vg vp vo vi pm hs) (hlen : order.length ≤ 1000000) : Ret P w0 14 [.ptr d 0] H (fun _ => False) fun x H' => (SlR H' x (order.map kI) ∧ (∀ n off, slBase x = some (n, off) → H.nx ≤ n) ∧ Kept (fun _ => False) H H') ∧ (order.map kI ≠ [] → ∃ n, x = .eslice n 0 (order.map kI).length 1) := Ret.mk fun below hp =>
  Leads.go fine (ord0 w0 _ _ below d vo H fun x H' => (SlR H' x (order.map kI) ∧ (∀ n off, slBase x = some (n, off) → H.nx ≤ n) ∧ Kept (fun _ => False) H H') ∧ (order.map kI ≠ [] → ∃ n, x = .eslice n 0 (order.map kI).length 1)) (by kernel_rfl)
    ⟨rfl, h.rd.2.2.1, trivial, (clone_ret' h.ord (by simpa using hlen) (by simp [List.all_eq_true]; intro x hx; rfl)).mono fun v H' q => ⟨v, rfl, q⟩, hp, fun x H' q => q⟩

theorem order_ret (h : DomIs H S d g order pl idom vg vp vo vi pm hs) (hlen : order.length ≤ 1000000) : Ret P w0 14 [.ptr d 0] H (fun _ => False) fun x H' => SlR H' x (order.map kI) ∧ (∀ n off, slBase x = some (n, off) → H.nx ≤ n) ∧ Kept (fun _ => False) H H' := (order_ret' h hlen).mono fun _ _ q => q.1

theorem idom_ret (h : DomIs H S d g order pl idom vg vp vo vi pm hs) (n : Int) (hr : (pl n).isSome = true → 0 ≤ n ∧ n < (idom.length : Int)) : Ret P w0 19 [.ptr d 0, .int .i64 n] H (fun _ => False) fun v H' => v = .int .i64 (if (pl n).isSome = true then idom.getD n.toNat (-1) else -1) ∧ H' = H := Ret.mk fun below hp => by
  have hre := reach_ret (w0 := w0) h n
  cases hn : (pl n).isSome with
  | false =>
    rw [hn] at hre
    refine Leads.go fine (idomN w0 _ _ below d n H) (by kernel_rfl) ⟨trivial, hre.mono fun v H' q => ⟨(), q.1, q.2⟩, hp, fun _ H' he => ⟨rfl, ?_, he⟩⟩
    simp
  | true =>
    rw [hn] at hre
    obtain ⟨h0, h1⟩ := hr hn
    have hx : idom[n.toNat]? = some (idom.getD n.toNat (-1)) := by
      have : n.toNat < idom.length := by omega
      rw [List.getD_eq_getElem?_getD, List.getElem?_eq_getElem this]; rfl
    obtain ⟨a, off, hb, q1, q2⟩ := h.idom.int hx
    rw [show ((n.toNat : Nat) : Int) = n by omega] at q1
    refine Leads.go fine (idomY w0 _ _ below d a off n (idom.getD n.toNat (-1)) vi H) (by kernel_rfl) ⟨trivial, hre.mono fun v H' q => ⟨(), q.1, q.2⟩, hp, fun _ H' he => ?_⟩
    subst he
    exact ⟨rfl, h.rd.2.2.2.2, q1, by simpa using q2, by simp, rfl⟩

/-- Whether a stands on the chain from b up. -/
inductive OverR (idom : List Int) (a : Int) : Int → Bool → Prop
  | neg {b : Int} : b < 0 → OverR idom a b false
  | hit {b : Int} : 0 ≤ b → b = a → OverR idom a b true
  | step {b : Int} {r : Bool} : 0 ≤ b → b < (idom.length : Int) → b ≠ a → OverR idom a (idom.getD b.toNat (-1)) r → OverR idom a b r

theorem over_loop {below : List AFr} (h : DomIs H S d g order pl idom vg vp vo vi pm hs) {a : Int} (ha : 0 ≤ a) {b : Int} {r : Bool} (hO : OverR idom a b r) : ∀ z, Leads P w0 (RetK P 17 below fun v H' => v = .bool r ∧ H' = H) ⟨w oL (setL (tz 34 z) [(0, .ptr d 0), (1, .int .i64 a), (2, .int .i64 b)]), below, H⟩ := by
  induction hO with
  | @neg b hb => exact fun z => Leads.go fine (overN w0 _ _ below z d a b H) rfl ⟨by simp; omega, rfl, rfl, by rw [show (a == b) = false by (simp; omega)], rfl⟩
  | @hit b h0 hb => exact fun z => Leads.go fine (overE w0 _ _ below z d a b H) rfl ⟨by simpa using h0, rfl, by simpa using hb, by simp [hb], rfl⟩
  | @step b r h0 h1 hne _ ih =>
    intro z
    have hx : idom[b.toNat]? = some (idom.getD b.toNat (-1)) := by
      have : b.toNat < idom.length := by omega
      rw [List.getD_eq_getElem?_getD, List.getElem?_eq_getElem this]; rfl
    obtain ⟨n, off, hb, q1, q2⟩ := h.idom.int hx
    rw [show ((b.toNat : Nat) : Int) = b by omega] at q1
    exact Leads.go fine (overL w0 _ _ below z d n off vi a b (idom.getD b.toNat (-1)) H) rfl ⟨by simpa using h0, rfl, by simpa using hne, h.rd.2.2.2.2, q1, by simpa using q2, Leads.at [(0, .ptr d 0), (1, .int .i64 a), (2, .int .i64 (idom.getD b.toNat (-1)))] (by kernel_rfl) ih⟩

theorem over_ret (h : DomIs H S d g order pl idom vg vp vo vi pm hs) (a b : Int) (ha : (pl a).isSome = true → 0 ≤ a) {r : Bool} (hO : (pl a).isSome = true → (pl b).isSome = true → OverR idom a b r) : Ret P w0 17 [.ptr d 0, .int .i64 a, .int .i64 b] H (fun _ => False) fun v H' => v = .bool ((pl a).isSome && (pl b).isSome && r) ∧ H' = H := Ret.mk fun below hp => by
  have hra := reach_ret (w0 := w0) h a
  have hrb := reach_ret (w0 := w0) h b
  refine Leads.go fine (over0 w0 _ _ below d a b (pl a).isSome (pl b).isSome H) (by kernel_rfl) ⟨trivial, hra.mono fun v H' q => ⟨(), q.1, q.2⟩, hp, fun _ H' he => ?_⟩
  subst he
  refine ⟨fun hn => ⟨rfl, rfl, ?_, rfl⟩, fun hn => ⟨trivial, hrb.mono fun v H' q => ⟨(), q.1, q.2⟩, hp, fun _ H2 he => ?_⟩⟩
  · have : (pl a).isSome = false := by simpa using hn
    simp [this]
  · subst he
    have h1 : (pl a).isSome = true := by simpa using hn
    refine ⟨rfl, fun hn2 => ⟨?_, rfl⟩, fun hn2 => ?_⟩
    · have : (pl b).isSome = false := by simpa using hn2
      simp [this]
    · have h2 : (pl b).isSome = true := by simpa using hn2
      have := over_loop (w0 := w0) (below := below) h (ha h1) (hO h1 h2)
      rw [h1, h2]
      exact Leads.at [(0, .ptr d 0), (1, .int .i64 a), (2, .int .i64 b)] (by kernel_rfl) this
end
end Go.Dm
/- slices.Equal; the document's search. -/
set_option linter.unusedVariables false
namespace Go.Dm
open Go Go.Sx Go.Sy Go.RowKit Go.Proofs.DomP

noncomputable def eL : AFr := hd P 13 [.r, .r, .l, .r, .i]

theorem eq0 (w0 : World) (K : AM → Prop) (Kr : AV → AH → Prop) (below : List AFr) (n m : Nat) (u v : AV) (H : AH) : (trun P w0 13 K Kr 200 0 [] ⟨frOf P 13 [u, v], below, H⟩ (.ln n (.ln m (.br .stop (.ln n .stop))))) = (aLen P H 34 u = some (AV.int IntKind.i64 (↑n : Int), []) ∧ aLen P H 34 v = some (AV.int IntKind.i64 (↑m : Int), []) ∧ (((↑n : Int) != (↑m : Int)) = true → Kr (AV.bool false) H) ∧ (((↑n : Int) != (↑m : Int)) = false → aLen P H 34 u = some (AV.int IntKind.i64 (↑n : Int), []) ∧ K (AM.mk (w eL (tl [u, v, AV.tuple [], AV.tuple [], AV.bool false, AV.tuple [], u, AV.int IntKind.i64 (↑n : Int), v, AV.int IntKind.i64 (↑m : Int), AV.bool false, u, AV.int IntKind.i64 (↑n : Int), AV.int IntKind.i64 (0 : Int), AV.tuple [], AV.tuple [], AV.tuple [], AV.tuple [], AV.tuple [], AV.tuple [], AV.tuple [], AV.tuple [], AV.tuple [], AV.tuple [], AV.tuple [], AV.tuple []])) below H))) := by kernel_rfl

theorem eqL (w0 : World) (K : AM → Prop) (Kr : AV → AH → Prop) (below : List AFr) (z : Nat → AV) (len a ao b bo : Nat) (u v : AV) (i x y : Int) (H : AH) : (trun P w0 13 K Kr 200 0 [] ⟨w eL (setL (tz 26 z) [(0, u), (1, v), (12, .int .i64 len), (13, .int .i64 i)]), below, H⟩ (.tt (.bs a ao (.v (.int .i64 x) (.bs b bo (.v (.int .i64 y) (.br .stop .stop))))))) = (decide (i < (↑len : Int)) = true ∧ SlAt u a ao i ∧ rdAt H a (ao + Int.toNat i * 1) = some (AV.int IntKind.i64 x) ∧ SlAt v b bo i ∧ rdAt H b (bo + Int.toNat i * 1) = some (AV.int IntKind.i64 y) ∧ ((x != y) = true → Kr (AV.bool false) H) ∧ ((x != y) = false → K (AM.mk (w eL (tl [u, v, z 2, z 3, z 4, AV.int IntKind.i64 i, z 6, z 7, z 8, z 9, z 10, z 11, AV.int IntKind.i64 (↑len : Int), AV.int IntKind.i64 (IntKind.wrap IntKind.i64 (i + (1 : Int))), AV.bool true, AV.int IntKind.i64 i, u, AV.int IntKind.i64 i, AV.ptr a (ao + Int.toNat i * 1), AV.int IntKind.i64 x, v, AV.int IntKind.i64 i, AV.ptr b (bo + Int.toNat i * 1), AV.int IntKind.i64 y, AV.bool false, AV.int IntKind.i64 (IntKind.wrap IntKind.i64 (i + (1 : Int)))])) below H))) := by kernel_rfl

theorem eqO (w0 : World) (K : AM → Prop) (Kr : AV → AH → Prop) (below : List AFr) (z : Nat → AV) (len : Nat) (u v : AV) (i : Int) (H : AH) : (trun P w0 13 K Kr 200 0 [] ⟨w eL (setL (tz 26 z) [(0, u), (1, v), (12, .int .i64 len), (13, .int .i64 i)]), below, H⟩ (.ff .stop)) = (decide (i < (↑len : Int)) = false ∧ Kr (AV.bool true) H) := by kernel_rfl

section
variable {w0 : World}

def eHead (u v : AV) (len : Nat) (i : Int) : List (Nat × AV) := [(0, u), (1, v), (12, .int .i64 len), (13, .int .i64 i)]

theorem eq_loop {below : List AFr} {H : AH} {u v : AV} {xs ys : List Int} (hu : SlR H u (xs.map kI)) (hv : SlR H v (ys.map kI)) (hl : xs.length = ys.length) (hs : xs.length ≤ 100000000) :
    ∀ (r : List Int) (i : Nat), xs.drop i = r → i ≤ xs.length → xs.take i = ys.take i → ∀ z, Leads P w0 (RetK P 13 below fun x H' => x = .bool (decide (xs = ys)) ∧ H' = H) ⟨w eL (setL (tz 26 z) (eHead u v xs.length i)), below, H⟩
  | [], i, hdr, hi, ht, z => by
    have hil := drop_end hdr hi
    have : xs = ys := by
      rw [hil, List.take_length, hl, List.take_length] at ht; exact ht
    exact Leads.go fine (eqO w0 _ _ below z xs.length u v i H) rfl ⟨by simp [hil], by simp [this], rfl⟩
  | x :: r, i, hdr, hi, ht, z => by
    obtain ⟨hlt, hx, hdr'⟩ := drop_step hdr
    have hly : i < ys.length := by omega
    have hy : ys[i]? = some ys[i] := List.getElem?_eq_getElem hly
    obtain ⟨a, ao, hb, q1, q2⟩ := hu.int hx
    obtain ⟨b, bo, hb', p1, p2⟩ := hv.int hy
    refine Leads.go fine (eqL w0 _ _ below z xs.length a ao b bo u v i x ys[i] H) rfl ⟨by simpa using hlt, q1, by simpa using q2, p1, by simpa using p2, fun hne => ⟨?_, rfl⟩, fun he => ?_⟩
    · have hne : x ≠ ys[i] := by simpa using hne
      have : xs ≠ ys := fun e => by
        subst e
        rw [List.getElem?_eq_getElem hlt] at hx
        injection hx with hx
        exact hne hx.symm
      simp [this]
    · have he : x = ys[i] := by simpa using he
      rw [wrap1 i (by omega)]
      refine Leads.at (eHead u v xs.length (i + 1 : Nat)) (by kernel_rfl) (eq_loop hu hv hl hs r (i + 1) hdr' hlt ?_)
      rw [List.take_add_one, List.take_add_one, ht, hx, hy, he]

theorem equal_ret {H : AH} {u v : AV} {xs ys : List Int} (hu : SlR H u (xs.map kI)) (hv : SlR H v (ys.map kI)) (hs : xs.length ≤ 100000000) : Ret P w0 13 [u, v] H (fun _ => False) fun x H' => x = .bool (decide (xs = ys)) ∧ H' = H := Ret.mk fun below hp => by
  have h1 : aLen P H 34 u = some (.int .i64 (xs.length : Nat), []) := by have := hu.aLen (P := P) et34.und; simpa using this
  have h2 : aLen P H 34 v = some (.int .i64 (ys.length : Nat), []) := by have := hv.aLen (P := P) et34.und; simpa using this
  refine Leads.go fine (eq0 w0 _ _ below xs.length ys.length u v H) (by kernel_rfl) ⟨h1, h2, fun hne => ⟨?_, rfl⟩, fun he => ⟨h1, ?_⟩⟩
  · have hne : (xs.length : Int) ≠ ys.length := by simpa using hne
    have : xs ≠ ys := fun e => by subst e; exact hne rfl
    simp [this]
  · have he : (xs.length : Int) = ys.length := by simpa using he
    exact Leads.at (eHead u v xs.length (0 : Nat)) (by kernel_rfl) (eq_loop hu hv (by omega) hs xs 0 rfl (Nat.zero_le _) (by simp))
end

noncomputable def zL : AFr := hd P 38 [.r, .l, .r, .i]

theorem rdeep0 (w0 : World) (K : AM → Prop) (Kr : AV → AH → Prop) (below : List AFr) (e sn np : Nat) (n : Int) (H : AH) : (trun P w0 38 K Kr 200 0 [] ⟨frOf P 38 [.ptr e 0, .int .i64 n], below, H⟩ (.v (.slice sn 0 np np) .stop)) = (rdAt H e 3 = some (AV.slice sn 0 np np) ∧ ((0 : Int) ≤ n ∧ n < (↑np : Int)) ∧ AV.single (AV.bool true) = true ∧ StOk H sn (0 + Int.toNat n * 1) 1 ∧ apartOk H (stackPend below) (sn :: stOld H sn) = true ∧ K (AM.mk (w zL (tl [AV.ptr e 0, AV.int IntKind.i64 n, AV.tuple [], AV.tuple [], AV.int IntKind.i64 (0 : Int), AV.ptr e 0, AV.ptr e 0, AV.ptr e 3, AV.slice sn 0 np np, AV.int IntKind.i64 n, AV.ptr sn (0 + Int.toNat n * 1), AV.tuple [], AV.tuple [], AV.tuple [], AV.tuple [], AV.tuple [], AV.tuple [], AV.tuple [], AV.tuple [], AV.tuple [], AV.tuple [], AV.tuple [], AV.tuple [], AV.tuple [], AV.tuple [], AV.tuple [], AV.tuple [], AV.tuple [], AV.tuple [], AV.tuple [], AV.tuple [], AV.tuple [], AV.tuple [], AV.tuple [], AV.tuple [], AV.tuple [], AV.tuple [], AV.tuple [], AV.tuple [], AV.tuple [], AV.tuple [], AV.tuple [], AV.tuple [], AV.tuple [], AV.tuple [], AV.tuple [], AV.tuple [], AV.tuple [], AV.tuple [], AV.tuple [], AV.tuple [], AV.tuple [], AV.tuple [], AV.tuple [], AV.tuple [], AV.tuple [], AV.tuple [], AV.tuple [], AV.tuple [], AV.tuple [], AV.tuple [], AV.tuple []])) below (stO H sn (0 + Int.toNat n * 1) [AV.bool true]))) := by kernel_rfl

theorem rdeepS (w0 : World) (K : AM → Prop) (Kr : AV → AH → Prop) (below : List AFr) (z : Nat → AV) (e sn np gn goff hn hoff len : Nat) (vg hv : AV) (n i t : Int) (H : AH) : (trun P w0 38 K Kr 200 0 [] ⟨w zL (setL (tz 62 z) [(0, .ptr e 0), (1, .int .i64 n), (4, .int .i64 i)]), below, H⟩ (.v vg (.bs gn goff (.v hv (.ln len (.tt (.v (.slice sn 0 np np) (.v vg (.bs gn goff (.v hv (.bs hn hoff (.v (.int .i64 t) (.v (.bool true) (.ff .stop)))))))))))))) = (rdAt H e 0 = some vg ∧ SlAt vg gn goff n ∧ rdAt H gn (goff + Int.toNat n * 1) = some hv ∧ aLen P H 34 hv = some (AV.int IntKind.i64 (↑len : Int), []) ∧ decide (i < (↑len : Int)) = true ∧ rdAt H e 3 = some (AV.slice sn 0 np np) ∧ rdAt H e 0 = some vg ∧ SlAt vg gn goff n ∧ rdAt H gn (goff + Int.toNat n * 1) = some hv ∧ SlAt hv hn hoff i ∧ rdAt H hn (hoff + Int.toNat i * 1) = some (AV.int IntKind.i64 t) ∧ ((0 : Int) ≤ t ∧ t < (↑np : Int)) ∧ rdAt H sn (0 + Int.toNat t * 1) = some (AV.bool true) ∧ (!true) = false ∧ K (AM.mk (w zL (tl [AV.ptr e 0, AV.int IntKind.i64 n, z 2, z 3, AV.int IntKind.i64 (IntKind.wrap IntKind.i64 (i + (1 : Int))), z 5, z 6, z 7, z 8, z 9, z 10, AV.int IntKind.i64 i, AV.ptr e 0, AV.ptr e 0, AV.ptr e 0, vg, AV.int IntKind.i64 n, AV.ptr gn (goff + Int.toNat n * 1), hv, AV.int IntKind.i64 (↑len : Int), AV.bool true, AV.int IntKind.i64 i, AV.int IntKind.i64 (IntKind.wrap IntKind.i64 (i + (1 : Int))), AV.ptr e 0, AV.ptr e 0, AV.ptr e 3, AV.slice sn 0 np np, AV.ptr e 0, AV.ptr e 0, AV.ptr e 0, vg, AV.int IntKind.i64 n, AV.ptr gn (goff + Int.toNat n * 1), hv, AV.int IntKind.i64 i, AV.ptr hn (hoff + Int.toNat i * 1), AV.int IntKind.i64 t, AV.ptr sn (0 + Int.toNat t * 1), AV.bool true, AV.bool false, z 40, z 41, z 42, z 43, z 44, z 45, z 46, z 47, z 48, z 49, z 50, z 51, z 52, z 53, z 54, z 55, z 56, z 57, z 58, z 59, z 60, z 61])) below H)) := by kernel_rfl

theorem rdeepN (w0 : World) (K : AM → Prop) (Kr : AV → AH → Prop) (below : List AFr) (z : Nat → AV) (e sn np gn goff hn hoff len : Nat) (vg hv : AV) (n i t : Int) (H : AH) (W : Nat → Prop) (Q : Unit → AH → Prop) : (trun P w0 38 K Kr 200 0 [] ⟨w zL (setL (tz 62 z) [(0, .ptr e 0), (1, .int .i64 n), (4, .int .i64 i)]), below, H⟩ (.v vg (.bs gn goff (.v hv (.ln len (.tt (.v (.slice sn 0 np np) (.v vg (.bs gn goff (.v hv (.bs hn hoff (.v (.int .i64 t) (.v (.bool false) (.tt (.v vg (.bs gn goff (.v hv (.bs hn hoff (.v (.int .i64 t) (.call Unit W (fun _ => .tuple []) Q (fun _ _ => .stop))))))))))))))))))))) = (rdAt H e 0 = some vg ∧ SlAt vg gn goff n ∧ rdAt H gn (goff + Int.toNat n * 1) = some hv ∧ aLen P H 34 hv = some (AV.int IntKind.i64 (↑len : Int), []) ∧ decide (i < (↑len : Int)) = true ∧ rdAt H e 3 = some (AV.slice sn 0 np np) ∧ rdAt H e 0 = some vg ∧ SlAt vg gn goff n ∧ rdAt H gn (goff + Int.toNat n * 1) = some hv ∧ SlAt hv hn hoff i ∧ rdAt H hn (hoff + Int.toNat i * 1) = some (AV.int IntKind.i64 t) ∧ ((0 : Int) ≤ t ∧ t < (↑np : Int)) ∧ rdAt H sn (0 + Int.toNat t * 1) = some (AV.bool false) ∧ (!false) = true ∧ rdAt H e 0 = some vg ∧ SlAt vg gn goff n ∧ rdAt H gn (goff + Int.toNat n * 1) = some hv ∧ SlAt hv hn hoff i ∧ rdAt H hn (hoff + Int.toNat i * 1) = some (AV.int IntKind.i64 t) ∧ True ∧ (Ret P w0 38 [AV.ptr e 0, AV.int IntKind.i64 t] H W fun (v : AV) (H' : AH) ↦ ∃ (x : Unit), v = AV.tuple [] ∧ Q x H') ∧ Pok H W (stackPend below) ∧ ∀ (x : Unit) (H' : AH), Q x H' → K (AM.mk (w zL (tl [AV.ptr e 0, AV.int IntKind.i64 n, z 2, z 3, AV.int IntKind.i64 (IntKind.wrap IntKind.i64 (i + (1 : Int))), z 5, z 6, z 7, z 8, z 9, z 10, AV.int IntKind.i64 i, AV.ptr e 0, AV.ptr e 0, AV.ptr e 0, vg, AV.int IntKind.i64 n, AV.ptr gn (goff + Int.toNat n * 1), hv, AV.int IntKind.i64 (↑len : Int), AV.bool true, AV.int IntKind.i64 i, AV.int IntKind.i64 (IntKind.wrap IntKind.i64 (i + (1 : Int))), AV.ptr e 0, AV.ptr e 0, AV.ptr e 3, AV.slice sn 0 np np, AV.ptr e 0, AV.ptr e 0, AV.ptr e 0, vg, AV.int IntKind.i64 n, AV.ptr gn (goff + Int.toNat n * 1), hv, AV.int IntKind.i64 i, AV.ptr hn (hoff + Int.toNat i * 1), AV.int IntKind.i64 t, AV.ptr sn (0 + Int.toNat t * 1), AV.bool false, AV.bool true, AV.ptr e 0, AV.ptr e 0, AV.ptr e 0, AV.ptr e 0, vg, AV.int IntKind.i64 n, AV.ptr gn (goff + Int.toNat n * 1), hv, AV.int IntKind.i64 i, AV.ptr hn (hoff + Int.toNat i * 1), AV.int IntKind.i64 t, AV.tuple [], z 52, z 53, z 54, z 55, z 56, z 57, z 58, z 59, z 60, z 61])) below H')) := by kernel_rfl

theorem rdeepE (w0 : World) (K : AM → Prop) (Kr : AV → AH → Prop) (below : List AFr) (z : Nat → AV) (e gn goff len : Nat) (vg hv vo vo' : AV) (n i : Int) (H H' : AH) (ns : List Nat) : (trun P w0 38 K Kr 200 0 [] ⟨w zL (setL (tz 62 z) [(0, .ptr e 0), (1, .int .i64 n), (4, .int .i64 i)]), below, H⟩ (.v vg (.bs gn goff (.v hv (.ln len (.ff (.v vo (.r (.val vo', H', ns) .stop)))))))) = (rdAt H e 0 = some vg ∧ SlAt vg gn goff n ∧ rdAt H gn (goff + Int.toNat n * 1) = some hv ∧ aLen P H 34 hv = some (AV.int IntKind.i64 (↑len : Int), []) ∧ decide (i < (↑len : Int)) = false ∧ rdAt H e 2 = some vo ∧ True ∧ aAppend P (AH.new H (AObj.row [AV.int IntKind.i64 n] 3 true (St.own none))) [34, 34] [vo, AV.slice (AH.nx H) 0 1 1] = some [(AN.val vo', H', ns)] ∧ apartOk (AH.new H (AObj.row [AV.int IntKind.i64 n] 3 true (St.own none))) (stackPend below) ns = true ∧ AV.single vo' = true ∧ StOk H' e 2 1 ∧ apartOk H' (stackPend below) (e :: stOld H' e) = true ∧ Kr (AV.tuple []) (stO H' e 2 [vo'])) := by kernel_rfl

section
variable {w0 : World} {H0 : AH} {S : Nat → Prop} {e sn np : Nat} {vg vov : AV} {g : List (List Int)} {hs : List AV}

def seenCells (s : Seen) (np : Nat) : List AV := (List.range np).map fun (i : Nat) => .bool (s (i : Int))

theorem seenCells_get (s : Seen) {np i : Nat} (h : i < np) : (seenCells s np)[i]? = some (.bool (s (i : Int))) := by
  unfold seenCells; rw [List.getElem?_map, List.getElem?_range h]; rfl

theorem seenCells_mark (s : Seen) {np : Nat} {n : Int} (h0 : 0 ≤ n) (h : n < (np : Int)) : (seenCells s np).set n.toNat (.bool true) = seenCells (Go.Proofs.DomP.mark n s) np := by
  apply List.ext_getElem?
  intro i
  have hl : (seenCells s np).length = np := by simp [seenCells]
  rw [List.getElem?_set]
  by_cases hi : i < np
  · rw [seenCells_get _ hi, seenCells_get _ hi]
    unfold Go.Proofs.DomP.mark
    by_cases hn : n.toNat = i
    · rw [if_pos hn, if_pos (by omega), if_pos (by omega)]
    · rw [if_neg hn, if_neg (by omega)]
  · rw [List.getElem?_eq_none (by omega), List.getElem?_eq_none (by simp [seenCells]; omega)]
    split
    · rw [if_neg (by omega)]
    · rfl

structure RSt (H0 : AH) (S : Nat → Prop) (e sn np : Nat) (vg vov : AV) (H : AH) (vo : AV) (s : Seen) (ord : List Int) : Prop where
  same : ∀ m, S m → H.get m = H0.get m
  row : H.get e = some (.row [vg, vov, vo, .slice sn 0 np np] 37 true (.own none))
  seen : H.get sn = some (.row (seenCells s np) 4 true (.own none))
  ord : Lst H vo 3 (ord.map kI)
  dsn : e ≠ sn
  ld : ¬ LN H vo e
  ls : ¬ LN H vo sn
  st : ∀ m, S m → m < H.nx ∧ m ≠ e ∧ m ≠ sn ∧ ¬ LN H vo m

theorem rdeep_put {H : AH} {vo : AV} {s : Seen} {ord : List Int} (hw : Wf H) (h : RSt H0 S e sn np vg vov H vo s ord) (n : Int) (hlen : ord.length + 1 ≤ 100000000) :
    ∃ v' H' ns, aAppend P (H.new (.row [.int .i64 n] 3 true (.own none))) [34, 34] [vo, .slice H.nx 0 1 1] = some [(.val v', H', ns)] ∧ AV.single v' = true ∧ StOk H' e 2 1 ∧
      RSt H0 S e sn np vg vov (stO H' e 2 [v']) v' s (ord ++ [n]) ∧ DStep e sn H vo (stO H' e 2 [v']) v' ∧
      (∀ pend, Pok H (DO e sn H vo) pend → AOk (H.new (.row [.int .i64 n] 3 true (.own none))) pend ns ∧ AOk H' pend (e :: stOld H' e)) := by
  have hdlt := hw e _ h.row
  have hslt := hw sn _ h.seen
  let Hb := H.new (.row [.int .i64 n] 3 true (.own none))
  have hbget : ∀ m, m < H.nx → Hb.get m = H.get m := fun m hm => by show (H.new _).get m = _; rw [get_new, if_neg (by omega)]
  have hl0 : Lst Hb vo 3 (ord.map kI) := h.ord.congr fun m off hb => hbget m (h.ord.slr.lt hw hb)
  have hln : ∀ m, LN Hb vo m ↔ LN H vo m := LN_same fun a off hb => hbget a (h.ord.slr.lt hw hb)
  obtain ⟨v', H', ns, h1, h2, h3, h4, h5⟩ := hl0.append et34 (t2 := 34) (by kernel_rfl) et34.made (hw.new _) (x := .slice H.nx 0 1 1) (new := [.int .i64 n]) rfl
    (by show aFirst (H.new _) 1 1 (.slice H.nx 0 1 1) = _; simp [aFirst, get_new]) rfl (by simpa using hlen)
  have hnx : H.nx + 1 ≤ H'.nx := h3.nx
  have hkept : ∀ m, m < H.nx → ¬ LN H vo m → H'.get m = H.get m := fun m hm hx => by
    rw [h3.get m (Nat.lt_succ_of_lt hm) (fun x => hx ((hln m).1 x)), hbget m hm]
  have hd' : H'.get e = some (.row [vg, vov, vo, .slice sn 0 np np] 37 true (.own none)) := by rw [hkept e hdlt h.ld]; exact h.row
  have hst2 : stO H' e 2 [v'] = H'.put e (.row [vg, vov, v', .slice sn 0 np np] 37 true (.own none)) := stO_eq (vs := [v']) (off := 2) hd'
  have hln' : ∀ m, LN H' v' m → LN H vo m ∨ H.nx ≤ m := fun m hm => by
    rcases h4 m hm with h | h
    · exact .inl ((hln m).1 h)
    · have : H.nx + 1 ≤ m := h; exact .inr (by omega)
  have hdb : ∀ a off, slBase v' = some (a, off) → a ≠ e := fun a off hb he => by
    subst he
    rcases hln' a ⟨a, off, hb, .inl rfl⟩ with h' | h'
    · exact h.ld h'
    · omega
  have hln2 : ∀ m, LN (stO H' e 2 [v']) v' m ↔ LN H' v' m := LN_same fun a off hb => by rw [hst2, get_put, if_neg (hdb a off hb)]
  refine ⟨v', H', ns, h1, h2.single, ⟨_, _, _, _, hd', by simp⟩, ?_, ⟨⟨?_, fun m hm hx => ?_⟩, fun m hm => hln' m ((hln2 m).1 hm)⟩, fun pend hp => ?_⟩
  · refine ⟨fun m hm => ?_, ?_, ?_, ?_, h.dsn, fun hx => ?_, fun hx => ?_, fun m hm => ?_⟩
    · obtain ⟨q1, q2, q3, q4⟩ := h.st m hm
      rw [hst2, get_put, if_neg q2, hkept m q1 q4]; exact h.same m hm
    · rw [hst2, get_put, if_pos rfl]
    · rw [hst2, get_put, if_neg (fun he => h.dsn he.symm), hkept sn hslt h.ls]; exact h.seen
    · rw [List.map_append]
      exact h2.congr fun a off hb => by rw [hst2, get_put, if_neg (hdb a off hb)]
    · rcases hln' e ((hln2 e).1 hx) with h' | h'
      · exact h.ld h'
      · omega
    · rcases hln' sn ((hln2 sn).1 hx) with h' | h'
      · exact h.ls h'
      · omega
    · obtain ⟨q1, q2, q3, q4⟩ := h.st m hm
      refine ⟨by rw [nx_stO]; omega, q2, q3, fun hx => ?_⟩
      rcases hln' m ((hln2 m).1 hx) with h' | h'
      · exact q4 h'
      · omega
  · rw [nx_stO]; omega
  · rw [hst2, get_put, if_neg (fun he => hx (.inl he)), hkept m hm fun he => hx (.inr (.inr he))]
  · have hpb : Pok Hb (DO e sn H vo) pend := hp.mono hw (Kept.new _ _ _) fun m _ hx => hx
    refine ⟨h5 _ pend hpb fun m hm => .inl (.inr (.inr ((hln m).1 hm))), ?_⟩
    rw [stOld_eq hd']
    have hp' : Pok H' (DO e sn H vo) pend := hp.mono hw ⟨by omega, fun m hm hx => hkept m hm fun he => hx (.inr (.inr he))⟩ fun m _ hx => hx
    exact AOk.one hp' hd' rfl rfl (.inl rfl)

def zHead (e : Nat) (n i : Int) : List (Nat × AV) := [(0, .ptr e 0), (1, .int .i64 n), (4, .int .i64 i)]

def RRet (H0 : AH) (S : Nat → Prop) (e sn np : Nat) (vg vov : AV) (H : AH) (vo : AV) (s : Seen) (ord : List Int) : AV → AH → Prop := fun v H' => v = .tuple [] ∧ ∃ vo', RSt H0 S e sn np vg vov H' vo' s ord ∧ DStep e sn H vo H' vo'

theorem rdeep_loop (hmat : Mat H0 S vg g hs) (hnp : np = g.length) (hgood : Go.Proofs.DomP.Good g) (hsm : ∀ l ∈ g, l.length ≤ 1024) {k : Nat} {n : Int} (h0 : 0 ≤ n) (h1 : n < (g.length : Int)) {below : List AFr} {H : AH} {vo : AV} {l : List Int} (hgl : g[n.toNat]? = some l) (hw0 : Wf H) (hp : Pok H (DO e sn H vo) (stackPend below)) {s2 : Seen} {ord2 : List Int} (hlen : ord2.length + 1 ≤ 100000000)
    (ih : ∀ (t : Int) (s : Seen) (ord : List Int) (s' : Seen) (ord' : List Int) (H : AH) (vo : AV), RSt H0 S e sn np vg vov H vo s ord → s t = false → 0 ≤ t → t < (g.length : Int) → dfsN g k t s ord = some (s', ord') → ord'.length ≤ 100000000 → Ret P w0 38 [.ptr e 0, .int .i64 t] H (DO e sn H vo) (RRet H0 S e sn np vg vov H vo s' ord')) :
    ∀ (r : List Int) (j : Nat) (Hc : AH) (voc : AV) (s1 : Seen) (ord1 : List Int), l.drop j = r → j ≤ l.length → RSt H0 S e sn np vg vov Hc voc s1 ord1 → DStep e sn H vo Hc voc → dfsL (dfsN g k) r s1 ord1 = some (s2, ord2) →
      ∀ z, Leads P w0 (RetK P 38 below (RRet H0 S e sn np vg vov H vo s2 (ord2 ++ [n]))) ⟨w zL (setL (tz 62 z) (zHead e n j)), below, Hc⟩ := by
  intro r
  have en : ((n.toNat : Nat) : Int) = n := by omega
  have hlm := List.mem_of_getElem? hgl
  have hll := hsm l hlm
  induction r with
  | nil =>
    intro j Hc voc s1 ord1 hdrop hj h hst hd z
    refine Leads.wf fun hw => ?_
    simp only [dfsL, Option.some.injEq, Prod.mk.injEq] at hd
    obtain ⟨rfl, rfl⟩ := hd
    have hjl := drop_end hdrop hj
    have hmc : Mat Hc S vg g hs := hmat.congr h.same
    obtain ⟨gn, goff, hv, p1, p2, p3, p4, p5⟩ := hmc.at hgl
    rw [en] at p1
    obtain ⟨v', H', ns, q1, q2, q3, q4, q5, q6⟩ := rdeep_put hw h n hlen
    have hpc := hst.pok hw0 hp
    exact Leads.go fine (rdeepE w0 _ _ below z e gn goff l.length vg hv voc v' n j Hc H' ns) rfl ⟨by rw [rdAt_row h.row]; rfl, p1, by simpa using p2, by have := p4.aLen (P := P) et34.und; simpa using this, by simp [hjl], by rw [rdAt_row h.row]; rfl, trivial, q1, (q6 _ hpc).1, q2, q3, (q6 _ hpc).2, rfl, v', q4, hst.trans q5⟩
  | cons t r ihr =>
    intro j Hc voc s1 ord1 hdrop hj h hst hd z
    refine Leads.wf fun hw => ?_
    obtain ⟨hlt, hjt, hdr⟩ := drop_step hdrop
    have htl := List.mem_of_getElem? hjt
    obtain ⟨ht0, ht1⟩ := hgood l hlm t htl
    have hmc : Mat Hc S vg g hs := hmat.congr h.same
    obtain ⟨gn, goff, hv, p1, p2, p3, p4, p5⟩ := hmc.at hgl
    rw [en] at p1
    have p2' : rdAt Hc gn (goff + Int.toNat n * 1) = some hv := by simpa using p2
    have hal : aLen P Hc 34 hv = some (.int .i64 (l.length : Nat), []) := by have := p4.aLen (P := P) et34.und; simpa using this
    obtain ⟨a, off, hb, q1, q2⟩ := p4.int hjt
    have q2' : rdAt Hc a (off + Int.toNat (j : Int) * 1) = some (.int .i64 t) := by simpa using q2
    have r0 : rdAt Hc e 0 = some vg := by rw [rdAt_row h.row]; rfl
    have r3 : rdAt Hc e 3 = some (.slice sn 0 np np) := by rw [rdAt_row h.row]; rfl
    have hwr := wrap1 j (by omega)
    have hsn : rdAt Hc sn (0 + Int.toNat t * 1) = some (.bool (s1 t)) := by
      rw [show 0 + Int.toNat t * 1 = t.toNat by omega, rdAt_row h.seen, seenCells_get _ (by omega), show ((t.toNat : Nat) : Int) = t by omega]
    have htb : 0 ≤ t ∧ t < (np : Int) := ⟨ht0, by rw [hnp]; exact ht1⟩
    unfold dfsL at hd
    by_cases c : s1 t = true
    · rw [if_pos c] at hd
      rw [c] at hsn
      refine Leads.go fine (rdeepS w0 _ _ below z e sn np gn goff a off l.length vg hv n j t Hc) rfl ⟨r0, p1, p2', hal, by simpa using hlt, r3, r0, p1, p2', q1, q2', htb, hsn, rfl, ?_⟩
      rw [hwr]
      exact Leads.at (zHead e n (j + 1 : Nat)) (by kernel_rfl) (ihr (j + 1) Hc voc s1 ord1 hdr hlt h hst hd)
    · rw [if_neg c] at hd
      have c' : s1 t = false := by simpa using c
      rw [c'] at hsn
      obtain ⟨⟨s3, ord3⟩, e3, hd⟩ := Option.bind_eq_some_iff.1 hd
      dsimp only at hd
      have hle := dfsL_len r _ _ _ _ hd
      have hret := ih t s1 ord1 s3 ord3 Hc voc h c' ht0 ht1 e3 (by omega)
      refine Leads.go fine (rdeepN w0 _ _ below z e sn np gn goff a off l.length vg hv n j t Hc (DO e sn Hc voc) (fun _ H' => RRet H0 S e sn np vg vov Hc voc s3 ord3 (.tuple []) H')) rfl
        ⟨r0, p1, p2', hal, by simpa using hlt, r3, r0, p1, p2', q1, q2', htb, hsn, rfl, r0, p1, p2', q1, q2', trivial, hret.mono (fun v H' q => ⟨(), q.1, by rw [← q.1]; exact q⟩), hst.pok hw0 hp, fun _ H' hq => ?_⟩
      obtain ⟨_, vo', q3, q4⟩ := hq
      rw [hwr]
      exact Leads.at (zHead e n (j + 1 : Nat)) (by kernel_rfl) (ihr (j + 1) H' vo' s3 ord3 hdr hlt q3 (hst.trans q4) hd)

/-- THE CONTRACT OF the document's deep. -/
theorem rdeep_ret (hmat : Mat H0 S vg g hs) (hnp : np = g.length) (hgood : Go.Proofs.DomP.Good g) (hsm : ∀ l ∈ g, l.length ≤ 1024) : ∀ (k : Nat) (n : Int) (s : Seen) (ord : List Int) (s' : Seen) (ord' : List Int) (H : AH) (vo : AV), RSt H0 S e sn np vg vov H vo s ord → s n = false → 0 ≤ n → n < (g.length : Int) → dfsN g k n s ord = some (s', ord') → ord'.length ≤ 100000000 →
      Ret P w0 38 [.ptr e 0, .int .i64 n] H (DO e sn H vo) (RRet H0 S e sn np vg vov H vo s' ord')
  | 0, n, s, ord, s', ord', H, vo, h, hs, h0, h1, hd, hlen => by simp [dfsN] at hd
  | k + 1, n, s, ord, s', ord', H, vo, h, hs, h0, h1, hd, hlen => Ret.mk fun below hp => by
    refine Leads.wf fun hw => ?_
    unfold dfsN at hd
    obtain ⟨⟨s2, ord2⟩, e2, hd⟩ := Option.map_eq_some_iff.1 hd
    simp only [Prod.mk.injEq] at hd
    obtain ⟨rfl, rfl⟩ := hd
    have hlt : n.toNat < g.length := by omega
    have hgl : g[n.toNat]? = some g[n.toNat] := List.getElem?_eq_getElem hlt
    have hgd : g.getD n.toNat [] = g[n.toNat] := by rw [List.getD_eq_getElem?_getD, hgl]; rfl
    have hlen2 : ord2.length + 1 ≤ 100000000 := by simpa using hlen
    have hcl : n.toNat < (seenCells s np).length := by simp [seenCells]; omega
    have hg1 := get_stO (off := n.toNat) (vs := [.bool true]) h.seen
    rw [setAt_one _ _ _ hcl, seenCells_mark s h0 (by rw [hnp]; exact h1)] at hg1
    have hn1 : (stO H sn n.toNat [.bool true]).nx = H.nx := nx_stO _ _ _ _
    have hne : ∀ m, m ≠ sn → (stO H sn n.toNat [.bool true]).get m = H.get m := fun m hm => by rw [hg1, if_neg hm]
    have hln : ∀ m, LN (stO H sn n.toNat [.bool true]) vo m ↔ LN H vo m := LN_same fun a off hb => hne a fun he => h.ls ⟨a, off, hb, .inl he.symm⟩
    have h1s : RSt H0 S e sn np vg vov (stO H sn n.toNat [.bool true]) vo (Go.Proofs.DomP.mark n s) ord := by
      refine ⟨fun m hm => by rw [hne m (h.st m hm).2.2.1]; exact h.same m hm, by rw [hne e h.dsn]; exact h.row, by rw [hg1, if_pos rfl], h.ord.congr fun a off hb => hne a fun he => h.ls ⟨a, off, hb, .inl he.symm⟩, h.dsn, fun hx => h.ld ((hln e).1 hx), fun hx => h.ls ((hln sn).1 hx), fun m hm => ?_⟩
      obtain ⟨a1, a2, a3, a4⟩ := h.st m hm
      exact ⟨by rw [hn1]; exact a1, a2, a3, fun hx => a4 ((hln m).1 hx)⟩
    have hstep : DStep e sn H vo (stO H sn n.toNat [.bool true]) vo := ⟨⟨by rw [hn1]; exact Nat.le_refl _, fun m hm hx => hne m fun he => hx (.inr (.inl he))⟩, fun m hm => .inl ((hln m).1 hm)⟩
    have etn : 0 + Int.toNat n * 1 = n.toNat := by omega
    refine Leads.go fine (rdeep0 w0 _ _ below e sn np n H) (by kernel_rfl) ⟨by rw [rdAt_row h.row]; rfl, ⟨h0, by rw [hnp]; exact h1⟩, rfl, by rw [etn]; exact ⟨_, _, _, _, h.seen, by omega⟩, by rw [stOld_eq h.seen]; exact AOk.one hp h.seen rfl rfl (.inr (.inl rfl)), ?_⟩
    rw [etn]
    rw [hgd] at e2
    exact Leads.at (zHead e n (0 : Nat)) (by kernel_rfl) (rdeep_loop (w0 := w0) (vov := vov) hmat hnp hgood hsm h0 h1 hgl hw hp hlen2 (rdeep_ret hmat hnp hgood hsm k) _ 0 _ vo (Go.Proofs.DomP.mark n s) ord rfl (Nat.zero_le _) h1s hstep e2)
end
end Go.Dm
/- The document's without. -/
set_option linter.unusedVariables false
namespace Go.Dm
open Go Go.Sx Go.Sy Go.RowKit Go.Proofs.DomP

/-- A list that grows and shrinks. -/
def Stk (H : AH) (v : AV) (xs : List Int) : Prop := (v = .nslice 0 0 ∧ xs = []) ∨ ∃ n old junk, v = .eslice n 0 xs.length 1 ∧ H.get n = some (.row (xs.map kI ++ junk) 3 false (.own old)) ∧ ∀ m, old = some m → m < n

theorem Stk.slr {H : AH} {v : AV} {xs : List Int} (h : Stk H v xs) : SlR H v (xs.map kI) := by
  rcases h with ⟨rfl, rfl⟩ | ⟨n, old, junk, rfl, h1, h2⟩
  · exact SlR.nil H 0
  · exact ⟨rfl, by simp [aLenOf], fun m off hb => by simp [slBase] at hb; obtain ⟨rfl, rfl⟩ := hb; exact ⟨_, _, _, _, h1, by simp, by simp⟩, fun h => by simp [slBase] at h⟩

theorem Stk.congr {H H' : AH} {v : AV} {xs : List Int} (h : Stk H v xs) (g : ∀ n off, slBase v = some (n, off) → H'.get n = H.get n) : Stk H' v xs := by
  rcases h with h | ⟨n, old, junk, rfl, h1, h2⟩
  · exact .inl h
  · exact .inr ⟨n, old, junk, rfl, by rw [g n 0 rfl]; exact h1, h2⟩

theorem Stk.lt {H : AH} {v : AV} {xs : List Int} (h : Stk H v xs) (hw : Wf H) {m : Nat} (hm : LN H v m) : m < H.nx := by
  rcases h with ⟨rfl, rfl⟩ | ⟨n, old, junk, rfl, h1, h3⟩
  · obtain ⟨a, b, q, _⟩ := hm; cases q
  · obtain ⟨a, b, q1, q2⟩ := hm
    simp [slBase] at q1
    obtain ⟨rfl, rfl⟩ := q1
    have := hw n _ h1
    rcases q2 with rfl | q2
    · exact this
    · rw [stOld_eq h1] at q2
      have := h3 m (by simpa using q2)
      omega

theorem Stk.push {H : AH} {v : AV} {xs : List Int} (hw : Wf H) (h : Stk H v xs) (x : Int) {a : Nat} (ha : H.get a = some (.row [kI x] 3 true (.own none))) (hr : xs.length + 1 ≤ 100000000) :
    ∃ v' H' ns, aAppend P H [34, 34] [v, .slice a 0 1 1] = some [(.val v', H', ns)] ∧ Stk H' v' (xs ++ [x]) ∧ Kept (LN H v) H H' ∧ (∀ m, LN H' v' m → LN H v m ∨ H.nx ≤ m) ∧
      (∀ (W : Nat → Prop) (pend : List Nat), Pok H W pend → (∀ m, LN H v m → W m ∨ H.get m = none) → AOk H pend ns) := by
  have viaLst : Lst H v 3 (xs.map kI) → _ := fun hl => hl.append et34 (t2 := 34) (by kernel_rfl) et34.made hw (x := .slice a 0 1 1) (new := [kI x]) rfl (by simp [aFirst, ha]) rfl (by simpa using hr)
  have fromLst : Lst H v 3 (xs.map kI) → ∃ v' H' ns, aAppend P H [34, 34] [v, .slice a 0 1 1] = some [(.val v', H', ns)] ∧ Stk H' v' (xs ++ [x]) ∧ Kept (LN H v) H H' ∧ (∀ m, LN H' v' m → LN H v m ∨ H.nx ≤ m) ∧
      (∀ (W : Nat → Prop) (pend : List Nat), Pok H W pend → (∀ m, LN H v m → W m ∨ H.get m = none) → AOk H pend ns) := fun hl => by
    obtain ⟨v', H', ns, q1, q2, q3, q4, q5⟩ := viaLst hl
    refine ⟨v', H', ns, q1, ?_, q3, q4, q5⟩
    rcases q2 with ⟨_, q2⟩ | ⟨n, old, rfl, u1, u2, u3⟩
    · simp at q2
    · exact .inr ⟨n, old, [], by simp, by simpa using u1, u3⟩
  rcases h with ⟨rfl, rfl⟩ | ⟨n, old, junk, rfl, h1, h2⟩
  · exact fromLst (Lst.nil H 3)
  · by_cases hj : junk = []
    · subst hj
      by_cases hx : xs = []
      · subst hx
        -- an empty row: it grows
        obtain ⟨zv, hz, hzl⟩ := et34.z
        have hroom := et34.roomy (n := 0 + 1) (by omega)
        have hbase : aAppend P H [34, 34] [.eslice n 0 ([] : List Int).length 1, .slice a 0 1 1] = appTo P H 3 1 1 [kI x] (.eslice n 0 0 1) := by
          unfold aAppend
          simp only [et34.und, et34.sz, hz, List.head?_cons, et34.made, appN, Bool.false_eq_true, if_false]
          rw [if_pos (by simp [hzl, et34.und])]
          simp [aLenOf, aFirst, ha]
        simp only [List.map_nil, List.append_nil] at h1
        have h1' : H.get n = some (.row [] 3 false (.own old)) := h1
        rw [hbase]
        have hnlt := hw n _ h1'
        refine ⟨.eslice H.nx 0 (0 + 1) 1, _, n :: old.toList, by
          simp only [appTo, appEnd, h1']
          rw [if_neg (by simp), if_pos (by simp; rfl), if_neg (by omega)]
          rw [hroom]; rfl, .inr ⟨H.nx, some n, [], rfl, ?_, fun m hm => by simp at hm; omega⟩, ?_, fun m hm => ?_, fun W pend hp hq => ?_⟩
        · have : ((H.unold old).put n (.row [] 3 false .view)).nx = H.nx := nx_unold H old
          rw [get_new, if_pos this.symm]; rfl
        · refine ⟨by show H.nx ≤ ((H.unold old).put n _).nx + 1; rw [AH.nx_put, nx_unold]; omega, fun m hm hx => ?_⟩
          rw [get_new, if_neg (by rw [AH.nx_put, nx_unold]; omega), get_put, if_neg, get_unold, if_neg]
          · intro ho; exact hx ⟨n, 0, rfl, .inr (by rw [stOld_eq h1', ho]; simp)⟩
          · rintro rfl; exact hx ⟨m, 0, rfl, .inl rfl⟩
        · obtain ⟨b, c, q1, q2⟩ := hm
          simp [slBase] at q1
          obtain ⟨rfl, rfl⟩ := q1
          have hg : (((H.unold old).put n (.row [] 3 false .view)).new (.row (([] : List AV).drop 0 ++ [kI x]) 3 false (.own (some n)))).get H.nx = some (.row (([] : List AV).drop 0 ++ [kI x]) 3 false (.own (some n))) := by rw [get_new, if_pos (by rw [AH.nx_put, nx_unold])]
          rw [stOld_eq hg] at q2
          rcases q2 with rfl | q2
          · exact .inr (Nat.le_refl _)
          · simp at q2; subst q2; exact .inl ⟨m, 0, rfl, .inl rfl⟩
        · refine AOk.of hp h1' rfl (fun m hm => ?_) (fun m hm => ?_)
          · cases old with
            | none => cases hm
            | some o => simp [AObj.old] at hm; subst hm; simp
          · exact hq m ⟨n, 0, rfl, by
              rcases List.mem_cons.1 hm with rfl | hm
              · exact .inl rfl
              · exact .inr (by rw [stOld_eq h1']; exact hm)⟩
      · exact fromLst (.inr ⟨n, old, by simp, by simpa using h1, by simpa using hx, h2⟩)
    · obtain ⟨c, junk', rfl⟩ : ∃ c j, junk = c :: j := by
        cases junk with
        | nil => exact absurd rfl hj
        | cons c j => exact ⟨c, j, rfl⟩
      obtain ⟨zv, hz, hzl⟩ := et34.z
      have hbase : aAppend P H [34, 34] [.eslice n 0 xs.length 1, .slice a 0 1 1] = appTo P H 3 1 1 [kI x] (.eslice n 0 xs.length 1) := by
        unfold aAppend
        simp only [et34.und, et34.sz, hz, List.head?_cons, et34.made, appN, Bool.false_eq_true, if_false]
        rw [if_pos (by simp [hzl, et34.und])]
        simp [aLenOf, aFirst, ha]
      have hset : setAt (xs.map kI ++ c :: junk') (0 + xs.length * 1) [kI x] = (xs ++ [x]).map kI ++ junk' := by
        unfold setAt
        rw [show 0 + xs.length * 1 = (xs.map kI).length by simp, List.take_left', List.map_append]
        · simp [List.drop_append]
        · rfl
      refine ⟨.eslice n 0 (xs.length + 1) 1, H.write n (setAt (xs.map kI ++ c :: junk') (0 + xs.length * 1) [kI x]) 3 false old, n :: old.toList, ?_, .inr ⟨n, none, junk', by simp, by rw [get_write, if_pos rfl, hset], fun m h => by cases h⟩, ?_, fun m hm => ?_, fun W pend hp hq => ?_⟩
      · rw [hbase]
        simp only [appTo, appEnd, h1]
        rw [if_pos]
        simp [kI, AV.single]
      · exact Kept.write (.inl ⟨n, 0, rfl, .inl rfl⟩) fun m hm => .inl ⟨n, 0, rfl, .inr (by rw [stOld_eq h1, hm]; simp)⟩
      · obtain ⟨b, d, q1, q2⟩ := hm
        simp [slBase] at q1
        obtain ⟨rfl, rfl⟩ := q1
        rw [stOld_eq (by rw [get_write, if_pos rfl])] at q2
        rcases q2 with rfl | q2
        · exact .inl ⟨m, 0, rfl, .inl rfl⟩
        · cases q2
      · refine AOk.of hp h1 rfl (fun m hm => ?_) (fun m hm => ?_)
        · cases old with
          | none => cases hm
          | some o => simp [AObj.old] at hm; subst hm; simp
        · exact hq m ⟨n, 0, rfl, by
            rcases List.mem_cons.1 hm with rfl | hm
            · exact .inl rfl
            · exact .inr (by rw [stOld_eq h1]; exact hm)⟩

/-- The last is taken away. -/
theorem Stk.pop {H : AH} {v : AV} {xs : List Int} {x : Int} (h : Stk H v (xs ++ [x])) : ∃ v', aSlice P H 34 v none (some (.int .i64 (xs.length : Nat))) none = some v' ∧ Stk H v' xs ∧ (∀ m, LN H v' m ↔ LN H v m) := by
  rcases h with ⟨_, h⟩ | ⟨n, old, junk, rfl, h1, h2⟩
  · simp at h
  · have hu := et34.und
    have hz := et34.sz
    have hr : rowHas H n (0 + (xs ++ [x]).length * 1) = true := by unfold rowHas; rw [h1]; simp [Nat.ble_eq]
    refine ⟨.eslice n 0 xs.length 1, ?_, .inr ⟨n, old, kI x :: junk, rfl, by simpa using h1, h2⟩, fun m => ?_⟩
    · simp only [aSlice, hu, hz, hr]
      simp [aBounds, bndM, bndH, bndL, aBound]
    · unfold LN; simp [slBase]
end Go.Dm
