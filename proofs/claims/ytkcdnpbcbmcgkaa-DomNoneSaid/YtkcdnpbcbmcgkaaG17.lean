/- The engine and the contracts, part 17. No condition beyond the hypotheses of each theorem. -/
import Derived.Test.YtkcdnpbcbmcgkaaG16
/- What no call made: nil, and the zero value. -/
set_option linter.unusedVariables false
namespace Go.Dm
open Go Go.Sx Go.Sy Go.RowKit Go.Proofs.DomP

theorem reachZ (w0 : World) (K : AM → Prop) (Kr : AV → AH → Prop) (below : List AFr) (d : Nat) (n : Int) (H : AH) : (trun P w0 12 K Kr 200 0 [] ⟨frOf P 12 [.ptr d 0, .int .i64 n], below, H⟩ (.ff (.v .nmap .stop))) = (false = false ∧ rdAt H d 3 = some AV.nmap ∧ Kr (AV.bool false) H) := by kernel_rfl

def isN0 : AV → Bool
  | .nslice 0 0 => true
  | _ => false

theorem isN0_k : ∀ v, isN0 v = true → v = .nslice 0 0 := fun v h => by
  unfold isN0 at h
  split at h
  · rfl
  · cases h

def isI (k : Int) : AV → Bool
  | .int .i64 n => n == k
  | _ => false

theorem isI_k (k : Int) : ∀ v, isI k v = true → v = .int .i64 k := fun v h => by
  unfold isI at h
  split at h
  · simp at h; rw [h]
  · cases h

def isB (b : Bool) : AV → Bool
  | .bool x => x == b
  | _ => false

theorem isB_k (b : Bool) : ∀ v, isB b v = true → v = .bool b := fun v h => by
  unfold isB at h
  split at h
  · simp at h; rw [h]
  · cases h

theorem kn0 : ∃ c, ∀ E ι, cv E ι (.nslice 0 0) = some c := ⟨_, fun _ _ => by simp only [cv]; rfl⟩

theorem kI_ (k : Int) : ∃ c, ∀ E ι, cv E ι (.int .i64 k) = some c := ⟨_, fun _ _ => by simp only [cv]; rfl⟩

theorem kB_ (b : Bool) : ∃ c, ∀ E ι, cv E ι (.bool b) = some c := ⟨_, fun _ _ => by simp only [cv]; rfl⟩

theorem one_num (n : Int) : ∀ a ∈ [AV.int .i64 n], ∃ k n, a = .int k n := fun a ha => by
  simp at ha
  exact ⟨_, _, ha⟩

section
variable {w0 : World} {H : AH} {n : Int}

theorem nil_run {f : FuncId} {args args' : List AV} {k : AV} (test : AV → Bool) (hargs : args = args'.map (ren [] [.int .i64 n])) (hok : renOkL 0 1 args' = true) (hrun : runsAt P 5000 f args' (rowsH []) (fun v _ => test v) = true) (hk : ∀ v, test v = true → v = k) (hkc : ∃ c, ∀ E ι, cv E ι k = some c) : Ret P w0 f args H (fun _ => False) fun v H' => v = k ∧ H' = H :=
  Ret.of_rows fine [] [.int .i64 n] [] (one_num n) rfl (fun i n r h => by simp at h) hargs hok rfl test hrun hk hkc

theorem nil11 : Ret P w0 11 [.nptr] H (fun _ => False) fun v H' => v = .int .i64 0 ∧ H' = H := nil_run (n := 0) (args' := [.nptr]) (isI 0) rfl rfl (by kernel_rfl) (isI_k 0) (kI_ 0)

theorem nil12 : Ret P w0 12 [.nptr, .int .i64 n] H (fun _ => False) fun v H' => v = .bool false ∧ H' = H := nil_run (n := n) (args' := [.nptr, .opq 0]) (isB false) rfl rfl (by kernel_rfl) (isB_k false) (kB_ false)

theorem nil14 : Ret P w0 14 [.nptr] H (fun _ => False) fun v H' => v = .nslice 0 0 ∧ H' = H := nil_run (n := 0) (args' := [.nptr]) isN0 rfl rfl (by kernel_rfl) isN0_k kn0

theorem nil19 : Ret P w0 19 [.nptr, .int .i64 n] H (fun _ => False) fun v H' => v = .int .i64 (-1) ∧ H' = H := nil_run (n := n) (args' := [.nptr, .opq 0]) (isI (-1)) rfl rfl (by kernel_rfl) (isI_k (-1)) (kI_ (-1))

theorem nil17 : Ret P w0 17 [.nptr, .int .i64 n, .int .i64 n] H (fun _ => False) fun v H' => v = .bool false ∧ H' = H := nil_run (n := n) (args' := [.nptr, .opq 0, .opq 0]) (isB false) rfl rfl (by kernel_rfl) (isB_k false) (kB_ false)

theorem nil21 : Ret P w0 21 [.nptr, .int .i64 n] H (fun _ => False) fun v H' => v = .nslice 0 0 ∧ H' = H := nil_run (n := n) (args' := [.nptr, .opq 0]) isN0 rfl rfl (by kernel_rfl) isN0_k kn0

theorem nil22 : Ret P w0 22 [.nptr, .int .i64 n] H (fun _ => False) fun v H' => v = .nslice 0 0 ∧ H' = H := nil_run (n := n) (args' := [.nptr, .opq 0]) isN0 rfl rfl (by kernel_rfl) isN0_k kn0

theorem nil23 : Ret P w0 23 [.nptr, .int .i64 n] H (fun _ => False) fun v H' => v = .nslice 0 0 ∧ H' = H := nil_run (n := n) (args' := [.nptr, .opq 0]) isN0 rfl rfl (by kernel_rfl) isN0_k kn0

theorem nil24 : Ret P w0 24 [.nptr, .int .i64 n] H (fun _ => False) fun v H' => v = .int .i64 0 ∧ H' = H := nil_run (n := n) (args' := [.nptr, .opq 0]) (isI 0) rfl rfl (by kernel_rfl) (isI_k 0) (kI_ 0)
end

section
variable {w0 : World} {H : AH} {n : Int} {d l b : Nat} {st st2 : Go.Sx.St}

def zeroD : List AV := [.nslice 0 0, .nslice 0 0, .nslice 0 0, .nmap, .nslice 0 0]

theorem rows_at {ns : List Nat} {num : List AV} {rows : List (List AV × TypeId)} (h : ∀ (i n : Nat) r, (ns.zip rows)[i]? = some (n, r) → ∃ st, H.get n = some (.row (r.1.map (ren ns num)) r.2 true st)) : ∀ (i n : Nat) r, ns[i]? = some n → rows[i]? = some r → ∃ st, H.get n = some (.row (r.1.map (ren ns num)) r.2 true st) := fun i n r h1 h2 => h i n r (by rw [List.getElem?_zip_eq_some]; exact ⟨h1, h2⟩)

theorem row1 {ns0 : Nat} {num : List AV} {c : List AV} {t : TypeId} (h : ∃ st, H.get ns0 = some (.row (c.map (ren [ns0] num)) t true st)) : ∀ (i n : Nat) r, [ns0][i]? = some n → [(c, t)][i]? = some r → ∃ st, H.get n = some (.row (r.1.map (ren [ns0] num)) r.2 true st) := fun i n r h1 h2 => by
  cases i with
  | zero => simp at h1 h2; subst h1 h2; exact h
  | succ i => simp at h1

theorem row2 {n0 n1 : Nat} {num : List AV} {c0 c1 : List AV} {t0 t1 : TypeId} (h : ∃ st, H.get n0 = some (.row (c0.map (ren [n0, n1] num)) t0 true st)) (h' : ∃ st, H.get n1 = some (.row (c1.map (ren [n0, n1] num)) t1 true st)) : ∀ (i n : Nat) r, [n0, n1][i]? = some n → [(c0, t0), (c1, t1)][i]? = some r → ∃ st, H.get n = some (.row (r.1.map (ren [n0, n1] num)) r.2 true st) := fun i n r h1 h2 => by
  match i with
  | 0 => simp at h1 h2; subst h1 h2; exact h
  | 1 => simp at h1 h2; subst h1 h2; exact h'
  | i + 2 => simp at h1

theorem nil25 (hl : H.get l = some (.row [.int .i64 n] 3 true st)) : Ret P w0 25 [.nptr, .slice l 0 1 1] H (fun _ => False) fun v H' => v = .nslice 0 0 ∧ H' = H :=
  Ret.of_rows fine (args' := [.nptr, .slice 0 0 1 1]) (fuel := 5000) [l] [.int .i64 n] [([.opq 0], 3)] (one_num n) rfl (row1 ⟨st, hl⟩) rfl rfl rfl isN0 (by kernel_rfl) isN0_k kn0

theorem nil26 (hb : H.get b = some (.row [.nptr] 24 true st)) : Ret P w0 26 [.func 50 [] [.ptr b 0], .nslice 0 0, .int .i64 0] H (fun _ => False) fun v H' => v = .bool true ∧ H' = H :=
  Ret.of_rows fine (args' := [.func 50 [] [.ptr 0 0], .nslice 0 0, .int .i64 0]) (fuel := 5000) [b] [.int .i64 0] [([.nptr], 24)] (one_num 0) rfl (row1 ⟨st, hb⟩) rfl rfl rfl (isB true) (by kernel_rfl) (isB_k true) (kB_ true)

theorem z_run (hd : H.get d = some (.row zeroD 52 true st)) {f : FuncId} {args args' : List AV} {k : AV} (test : AV → Bool) (hargs : args = args'.map (ren [d] [.int .i64 n])) (hok : renOkL 1 1 args' = true) (hrun : runsAt P 5000 f args' (rowsH [(zeroD, 52)]) (fun v _ => test v) = true) (hk : ∀ v, test v = true → v = k) (hkc : ∃ c, ∀ E ι, cv E ι k = some c) : Ret P w0 f args H (fun _ => False) fun v H' => v = k ∧ H' = H :=
  Ret.of_rows fine [d] [.int .i64 n] [(zeroD, 52)] (one_num n) rfl (row1 ⟨st, hd⟩) hargs hok rfl test hrun hk hkc

theorem z11 (hd : H.get d = some (.row zeroD 52 true st)) : Ret P w0 11 [.ptr d 0] H (fun _ => False) fun v H' => v = .int .i64 0 ∧ H' = H := z_run (n := 0) hd (args' := [.ptr 0 0]) (isI 0) rfl rfl (by kernel_rfl) (isI_k 0) (kI_ 0)

theorem z12 (hd : H.get d = some (.row zeroD 52 true st)) : Ret P w0 12 [.ptr d 0, .int .i64 n] H (fun _ => False) fun v H' => v = .bool false ∧ H' = H := Ret.mk fun below hp =>
  Leads.go fine (reachZ w0 _ _ below d n H) (by kernel_rfl) ⟨rfl, by rw [rdAt_row hd]; rfl, rfl, rfl⟩

theorem z14 (hd : H.get d = some (.row zeroD 52 true st)) : Ret P w0 14 [.ptr d 0] H (fun _ => False) fun v H' => v = .nslice 0 0 ∧ H' = H := z_run (n := 0) hd (args' := [.ptr 0 0]) isN0 rfl rfl (by kernel_rfl) isN0_k kn0

theorem z19 (hd : H.get d = some (.row zeroD 52 true st)) : Ret P w0 19 [.ptr d 0, .int .i64 n] H (fun _ => False) fun v H' => v = .int .i64 (-1) ∧ H' = H := Ret.mk fun below hp =>
  Leads.go fine (idomN w0 _ _ below d n H) (by kernel_rfl) ⟨trivial, (z12 hd).mono fun v H' q => ⟨(), q⟩, hp, fun _ H' he => ⟨rfl, rfl, he⟩⟩

theorem z17 (hd : H.get d = some (.row zeroD 52 true st)) : Ret P w0 17 [.ptr d 0, .int .i64 n, .int .i64 n] H (fun _ => False) fun v H' => v = .bool false ∧ H' = H := Ret.mk fun below hp =>
  Leads.go fine (over0 w0 _ _ below d n n false false H) (by kernel_rfl) ⟨trivial, (z12 hd).mono fun v H' q => ⟨(), q⟩, hp, fun _ H' he => ⟨fun _ => ⟨rfl, rfl, rfl, he⟩, fun h => by cases h⟩⟩

theorem z21 (hd : H.get d = some (.row zeroD 52 true st)) : Ret P w0 21 [.ptr d 0, .int .i64 n] H (fun _ => False) fun v H' => v = .nslice 0 0 ∧ H' = H := z_run (n := n) hd (args' := [.ptr 0 0, .opq 0]) isN0 rfl rfl (by kernel_rfl) isN0_k kn0

theorem z22 (hd : H.get d = some (.row zeroD 52 true st)) : Ret P w0 22 [.ptr d 0, .int .i64 n] H (fun _ => False) fun v H' => v = .nslice 0 0 ∧ H' = H := z_run (n := n) hd (args' := [.ptr 0 0, .opq 0]) isN0 rfl rfl (by kernel_rfl) isN0_k kn0

theorem z23 (hd : H.get d = some (.row zeroD 52 true st)) : Ret P w0 23 [.ptr d 0, .int .i64 n] H (fun _ => False) fun v H' => v = .nslice 0 0 ∧ H' = H := z_run (n := n) hd (args' := [.ptr 0 0, .opq 0]) isN0 rfl rfl (by kernel_rfl) isN0_k kn0

theorem z24 (hd : H.get d = some (.row zeroD 52 true st)) : Ret P w0 24 [.ptr d 0, .int .i64 n] H (fun _ => False) fun v H' => v = .int .i64 0 ∧ H' = H := z_run (n := n) hd (args' := [.ptr 0 0, .opq 0]) (isI 0) rfl rfl (by kernel_rfl) (isI_k 0) (kI_ 0)

theorem z25 (hd : H.get d = some (.row zeroD 52 true st)) (hl : H.get l = some (.row [.int .i64 n] 3 true st2)) : Ret P w0 25 [.ptr d 0, .slice l 0 1 1] H (fun _ => False) fun v H' => v = .nslice 0 0 ∧ H' = H :=
  Ret.of_rows fine (args' := [.ptr 0 0, .slice 1 0 1 1]) (fuel := 5000) [d, l] [.int .i64 n] [(zeroD, 52), ([.opq 0], 3)] (one_num n) rfl (row2 ⟨st, hd⟩ ⟨st2, hl⟩) rfl rfl rfl isN0 (by kernel_rfl) isN0_k kn0

theorem z26 (hb : H.get b = some (.row [.ptr d 0] 24 true st2)) (hd : H.get d = some (.row zeroD 52 true st)) : Ret P w0 26 [.func 50 [] [.ptr b 0], .nslice 0 0, .int .i64 0] H (fun _ => False) fun v H' => v = .bool true ∧ H' = H :=
  Ret.of_rows fine (args' := [.func 50 [] [.ptr 0 0], .nslice 0 0, .int .i64 0]) (fuel := 5000) [b, d] [.int .i64 0] [([.ptr 1 0], 24), (zeroD, 52)] (one_num 0) rfl (row2 ⟨st2, hb⟩ ⟨st, hd⟩) rfl rfl rfl (isB true) (by kernel_rfl) (isB_k true) (kB_ true)
end
end Go.Dm
/- The document's Frontier. -/
set_option linter.unusedVariables false
namespace Go.Dm
open Go Go.Sx Go.Sy Go.RowKit Go.Proofs.DomP

noncomputable def fY : AFr := hd P 28 [.r, .r, .l, .r, .i]

noncomputable def fZ : AFr := hd P 28 [.r, .r, .l, .r, .i, .i, .r, .l, .i, .r, .l, .r, .i]

noncomputable def fX : AFr := hd P 28 [.r, .r, .l, .r, .i, .i, .r, .l, .i, .r, .l, .r, .i, .i, .r, .l, .i, .r, .i]

theorem ris (w0 : World) (K : AM → Prop) (Kr : AV → AH → Prop) (below : List AFr) (e len sn np : Nat) (n : Int) (s : Bool) (vg : AV) (H : AH) : (trun P w0 66 K Kr 300 0 [] ⟨frOf P 66 [.ptr e 0, .int .i64 n], below, H⟩ (.br (.v vg (.ln len (.tt (.br (.v (.slice sn 0 np np) (.v (.bool s) (.tt .stop))) (.ff .stop))))) (.ff (.ff (.ff .stop))))) = ((decide (n ≥ (0 : Int)) = true → rdAt H e 0 = some vg ∧ aLen P H 22 vg = some (AV.int IntKind.i64 (↑len : Int), []) ∧ true = true ∧ (decide (n < (↑len : Int)) = true → rdAt H e 3 = some (AV.slice sn 0 np np) ∧ ((0 : Int) ≤ n ∧ n < (↑np : Int)) ∧ rdAt H sn (0 + Int.toNat n * 1) = some (AV.bool s) ∧ true = true ∧ Kr (AV.bool s) H) ∧ (decide (n < (↑len : Int)) = false → false = false ∧ Kr (AV.bool false) H)) ∧ (decide (n ≥ (0 : Int)) = false → false = false ∧ false = false ∧ false = false ∧ Kr (AV.bool false) H)) := by kernel_rfl

theorem rio (w0 : World) (K : AM → Prop) (Kr : AV → AH → Prop) (below : List AFr) (e a ao x np : Nat) (i j : Int) (sa sb o : Bool) (vov : AV) (H : AH) : (trun P w0 53 K Kr 300 0 [] ⟨frOf P 53 [.ptr e 0, .int .i64 i, .int .i64 j], below, H⟩ (.call Unit (fun _ => False) (fun _ => .bool sa) (fun _ H' => H' = H) (fun _ _ => (.br (.call Unit (fun _ => False) (fun _ => .bool sb) (fun _ H' => H' = H) (fun _ _ => (.tt (.br (.v vov (.bs a ao (.v (.slice x 0 np np) (.v (.bool o) (.tt .stop))))) (.ff .stop))))) (.ff (.ff (.ff .stop))))))) = (True ∧ (Ret P w0 66 [AV.ptr e 0, AV.int IntKind.i64 i] H (fun (x : Nat) ↦ False) fun (v : AV) (H' : AH) ↦ ∃ (x : Unit), v = AV.bool sa ∧ H' = H) ∧ Pok H (fun (x : Nat) ↦ False) (stackPend below) ∧ ∀ (x_1 : Unit) (H' : AH), H' = H → (sa = true → True ∧ (Ret P w0 66 [AV.ptr e 0, AV.int IntKind.i64 j] H' (fun (x : Nat) ↦ False) fun (v : AV) (H' : AH) ↦ ∃ (x : Unit), v = AV.bool sb ∧ H' = H) ∧ Pok H' (fun (x : Nat) ↦ False) (stackPend below) ∧ ∀ (x_2 : Unit) (H' : AH), H' = H → true = true ∧ (sb = true → rdAt H' e 1 = some vov ∧ SlAt vov a ao i ∧ rdAt H' a (ao + Int.toNat i * 1) = some (AV.slice x 0 np np) ∧ ((0 : Int) ≤ j ∧ j < (↑np : Int)) ∧ rdAt H' x (0 + Int.toNat j * 1) = some (AV.bool o) ∧ true = true ∧ Kr (AV.bool o) H') ∧ (sb = false → false = false ∧ Kr (AV.bool false) H')) ∧ (sa = false → false = false ∧ false = false ∧ false = false ∧ Kr (AV.bool false) H')) := by kernel_rfl

theorem rf0 (w0 : World) (K : AM → Prop) (Kr : AV → AH → Prop) (below : List AFr) (e : Nat) (n : Int) (H : AH) : (trun P w0 28 K Kr 300 0 [] ⟨frOf P 28 [.ptr e 0, .int .i64 n], below, H⟩ .stop) = (K (AM.mk (w fY (tl [AV.ptr e 0, AV.int IntKind.i64 n, AV.tuple [], AV.tuple [], AV.nslice 0 0, AV.nslice 0 0, AV.int IntKind.i64 (0 : Int), AV.tuple [], AV.tuple [], AV.tuple [], AV.tuple [], AV.tuple [], AV.tuple [], AV.tuple [], AV.tuple [], AV.tuple [], AV.tuple [], AV.tuple [], AV.tuple [], AV.tuple [], AV.tuple [], AV.tuple [], AV.tuple [], AV.tuple [], AV.tuple [], AV.tuple [], AV.tuple [], AV.tuple [], AV.tuple [], AV.tuple [], AV.tuple [], AV.tuple [], AV.tuple [], AV.tuple [], AV.tuple [], AV.tuple [], AV.tuple [], AV.tuple [], AV.tuple [], AV.tuple [], AV.tuple [], AV.tuple [], AV.tuple [], AV.tuple [], AV.tuple [], AV.tuple [], AV.tuple [], AV.tuple [], AV.tuple [], AV.tuple [], AV.tuple [], AV.tuple [], AV.tuple [], AV.tuple [], AV.tuple [], AV.tuple [], AV.tuple [], AV.tuple [], AV.tuple [], AV.tuple [], AV.tuple [], AV.tuple [], AV.tuple [], AV.tuple [], AV.tuple [], AV.tuple [], AV.tuple [], AV.tuple [], AV.tuple [], AV.tuple [], AV.tuple [], AV.tuple [], AV.tuple [], AV.tuple [], AV.tuple [], AV.tuple [], AV.tuple [], AV.tuple [], AV.tuple []])) below H)) := by kernel_rfl

theorem rfO (w0 : World) (K : AM → Prop) (Kr : AV → AH → Prop) (below : List AFr) (z : Nat → AV) (e len : Nat) (n b : Int) (vg l : AV) (H : AH) : (trun P w0 28 K Kr 300 0 [] ⟨w fY (setL (tz 79 z) [(0, .ptr e 0), (1, .int .i64 n), (5, l), (6, .int .i64 b)]), below, H⟩ (.v vg (.ln len (.tt .stop)))) = (rdAt H e 0 = some vg ∧ aLen P H 22 vg = some (AV.int IntKind.i64 (↑len : Int), []) ∧ decide (b < (↑len : Int)) = true ∧ K (AM.mk (w fZ (tl [AV.ptr e 0, AV.int IntKind.i64 n, z 2, z 3, z 4, l, AV.int IntKind.i64 b, AV.bool false, AV.int IntKind.i64 (0 : Int), z 9, AV.int IntKind.i64 b, AV.ptr e 0, AV.ptr e 0, AV.ptr e 0, vg, AV.int IntKind.i64 (↑len : Int), AV.bool true, z 17, z 18, z 19, z 20, z 21, z 22, z 23, z 24, z 25, z 26, z 27, z 28, z 29, z 30, z 31, z 32, z 33, z 34, z 35, z 36, z 37, z 38, z 39, z 40, z 41, z 42, z 43, z 44, z 45, z 46, z 47, z 48, z 49, z 50, z 51, z 52, z 53, z 54, z 55, z 56, z 57, z 58, z 59, z 60, z 61, z 62, z 63, z 64, z 65, z 66, z 67, z 68, z 69, z 70, z 71, z 72, z 73, z 74, z 75, z 76, z 77, z 78])) below H)) := by kernel_rfl

theorem rfOe (w0 : World) (K : AM → Prop) (Kr : AV → AH → Prop) (below : List AFr) (z : Nat → AV) (e len : Nat) (n b : Int) (vg l : AV) (H : AH) : (trun P w0 28 K Kr 300 0 [] ⟨w fY (setL (tz 79 z) [(0, .ptr e 0), (1, .int .i64 n), (5, l), (6, .int .i64 b)]), below, H⟩ (.v vg (.ln len (.ff .stop)))) = (rdAt H e 0 = some vg ∧ aLen P H 22 vg = some (AV.int IntKind.i64 (↑len : Int), []) ∧ decide (b < (↑len : Int)) = false ∧ Kr l H) := by kernel_rfl

theorem rfP (w0 : World) (K : AM → Prop) (Kr : AV → AH → Prop) (below : List AFr) (z : Nat → AV) (e len : Nat) (n b p : Int) (y : Bool) (vg l : AV) (H : AH) : (trun P w0 28 K Kr 300 0 [] ⟨w fZ (setL (tz 79 z) [(0, .ptr e 0), (1, .int .i64 n), (5, l), (6, .int .i64 b), (7, .bool y), (8, .int .i64 p)]), below, H⟩ (.v vg (.ln len (.tt .stop)))) = (rdAt H e 0 = some vg ∧ aLen P H 22 vg = some (AV.int IntKind.i64 (↑len : Int), []) ∧ decide (p < (↑len : Int)) = true ∧ K (AM.mk (w fX (tl [AV.ptr e 0, AV.int IntKind.i64 n, z 2, z 3, z 4, l, AV.int IntKind.i64 b, AV.bool y, AV.int IntKind.i64 p, AV.int IntKind.i64 (0 : Int), z 10, z 11, z 12, z 13, z 14, z 15, z 16, z 17, z 18, AV.int IntKind.i64 p, AV.ptr e 0, AV.ptr e 0, AV.ptr e 0, vg, AV.int IntKind.i64 (↑len : Int), AV.bool true, z 26, z 27, z 28, z 29, z 30, z 31, z 32, z 33, z 34, z 35, z 36, z 37, z 38, z 39, z 40, z 41, z 42, z 43, z 44, z 45, z 46, z 47, z 48, z 49, z 50, z 51, z 52, z 53, z 54, z 55, z 56, z 57, z 58, z 59, z 60, z 61, z 62, z 63, z 64, z 65, z 66, z 67, z 68, z 69, z 70, z 71, z 72, z 73, z 74, z 75, z 76, z 77, z 78])) below H)) := by kernel_rfl

theorem rfPe (w0 : World) (K : AM → Prop) (Kr : AV → AH → Prop) (below : List AFr) (z : Nat → AV) (e len : Nat) (n b p : Int) (y o : Bool) (vg l v' : AV) (H' : AH) (ns : List Nat) (H : AH) : (trun P w0 28 K Kr 300 0 [] ⟨w fZ (setL (tz 79 z) [(0, .ptr e 0), (1, .int .i64 n), (5, l), (6, .int .i64 b), (7, .bool y), (8, .int .i64 p)]), below, H⟩ (.v vg (.ln len (.ff (.br (.br (.tt (.tt (.tt (.r (.val v', H', ns) .stop)))) (.call Unit (fun _ => False) (fun _ => .bool o) (fun _ H2 => H2 = H) (fun _ _ => (.ff (.tt (.br (.r (.val v', H', ns) .stop) .stop)))))) (.ff (.ff .stop))))))) = (rdAt H e 0 = some vg ∧ aLen P H 22 vg = some (AV.int IntKind.i64 (↑len : Int), []) ∧ decide (p < (↑len : Int)) = false ∧ (y = true → ((n == b) = true → true = true ∧ true = true ∧ true = true ∧ True ∧ aAppend P (AH.new H (AObj.row [AV.int IntKind.i64 b] 3 true (St.own none))) [34, 34] [l, AV.slice (AH.nx H) 0 1 1] = some [(AN.val v', H', ns)] ∧ apartOk (AH.new H (AObj.row [AV.int IntKind.i64 b] 3 true (St.own none))) (stackPend below) ns = true ∧ K (AM.mk (w fY (tl [AV.ptr e 0, AV.int IntKind.i64 n, z 2, z 3, z 4, v', AV.int IntKind.i64 (IntKind.wrap IntKind.i64 (b + (1 : Int))), AV.bool y, AV.int IntKind.i64 p, z 9, z 10, z 11, z 12, z 13, z 14, z 15, z 16, AV.int IntKind.i64 b, AV.int IntKind.i64 (IntKind.wrap IntKind.i64 (b + (1 : Int))), AV.int IntKind.i64 p, AV.ptr e 0, AV.ptr e 0, AV.ptr e 0, vg, AV.int IntKind.i64 (↑len : Int), AV.bool false, z 26, z 27, z 28, z 29, z 30, z 31, z 32, z 33, z 34, z 35, z 36, z 37, z 38, z 39, z 40, z 41, z 42, z 43, z 44, z 45, z 46, z 47, z 48, z 49, z 50, z 51, z 52, z 53, z 54, z 55, z 56, z 57, z 58, z 59, z 60, AV.bool y, AV.bool true, AV.int IntKind.i64 n, AV.int IntKind.i64 b, AV.bool (n == b), AV.bool true, AV.tuple [], AV.tuple [], AV.tuple [], AV.tuple [], AV.tuple [], AV.bool true, AV.bool true, l, AV.int IntKind.i64 b, AV.slice (AH.nx H) 0 1 1, v', z 78])) below H')) ∧ ((n == b) = false → True ∧ (Ret P w0 53 [AV.ptr e 0, AV.int IntKind.i64 n, AV.int IntKind.i64 b] H (fun (x : Nat) ↦ False) fun (v : AV) (H' : AH) ↦ ∃ (x : Unit), v = AV.bool o ∧ H' = H) ∧ Pok H (fun (x : Nat) ↦ False) (stackPend below) ∧ ∀ (x : Unit) (H'_1 : AH), H'_1 = H → false = false ∧ true = true ∧ ((!o) = true → True ∧ aAppend P (AH.new H'_1 (AObj.row [AV.int IntKind.i64 b] 3 true (St.own none))) [34, 34] [l, AV.slice (AH.nx H'_1) 0 1 1] = some [(AN.val v', H', ns)] ∧ apartOk (AH.new H'_1 (AObj.row [AV.int IntKind.i64 b] 3 true (St.own none))) (stackPend below) ns = true ∧ K (AM.mk (w fY (tl [AV.ptr e 0, AV.int IntKind.i64 n, z 2, z 3, z 4, v', AV.int IntKind.i64 (IntKind.wrap IntKind.i64 (b + (1 : Int))), AV.bool y, AV.int IntKind.i64 p, z 9, z 10, z 11, z 12, z 13, z 14, z 15, z 16, AV.int IntKind.i64 b, AV.int IntKind.i64 (IntKind.wrap IntKind.i64 (b + (1 : Int))), AV.int IntKind.i64 p, AV.ptr e 0, AV.ptr e 0, AV.ptr e 0, vg, AV.int IntKind.i64 (↑len : Int), AV.bool false, z 26, z 27, z 28, z 29, z 30, z 31, z 32, z 33, z 34, z 35, z 36, z 37, z 38, z 39, z 40, z 41, z 42, z 43, z 44, z 45, z 46, z 47, z 48, z 49, z 50, z 51, z 52, z 53, z 54, z 55, z 56, z 57, z 58, z 59, z 60, AV.bool y, AV.bool true, AV.int IntKind.i64 n, AV.int IntKind.i64 b, AV.bool (n == b), AV.bool false, AV.ptr e 0, AV.int IntKind.i64 n, AV.int IntKind.i64 b, AV.bool o, AV.bool !o, AV.bool !o, AV.bool true, l, AV.int IntKind.i64 b, AV.slice (AH.nx H'_1) 0 1 1, v', z 78])) below H')) ∧ ((!o) = false → K (AM.mk (w fY (tl [AV.ptr e 0, AV.int IntKind.i64 n, z 2, z 3, z 4, l, AV.int IntKind.i64 (IntKind.wrap IntKind.i64 (b + (1 : Int))), AV.bool y, AV.int IntKind.i64 p, z 9, z 10, z 11, z 12, z 13, z 14, z 15, z 16, AV.int IntKind.i64 b, AV.int IntKind.i64 (IntKind.wrap IntKind.i64 (b + (1 : Int))), AV.int IntKind.i64 p, AV.ptr e 0, AV.ptr e 0, AV.ptr e 0, vg, AV.int IntKind.i64 (↑len : Int), AV.bool false, z 26, z 27, z 28, z 29, z 30, z 31, z 32, z 33, z 34, z 35, z 36, z 37, z 38, z 39, z 40, z 41, z 42, z 43, z 44, z 45, z 46, z 47, z 48, z 49, z 50, z 51, z 52, z 53, z 54, z 55, z 56, z 57, z 58, z 59, z 60, AV.bool y, AV.bool true, AV.int IntKind.i64 n, AV.int IntKind.i64 b, AV.bool (n == b), AV.bool false, AV.ptr e 0, AV.int IntKind.i64 n, AV.int IntKind.i64 b, AV.bool o, AV.bool !o, AV.bool !o, AV.bool false, z 74, z 75, z 76, z 77, z 78])) below H'_1)))) ∧ (y = false → false = false ∧ false = false ∧ K (AM.mk (w fY (tl [AV.ptr e 0, AV.int IntKind.i64 n, z 2, z 3, z 4, l, AV.int IntKind.i64 (IntKind.wrap IntKind.i64 (b + (1 : Int))), AV.bool y, AV.int IntKind.i64 p, z 9, z 10, z 11, z 12, z 13, z 14, z 15, z 16, AV.int IntKind.i64 b, AV.int IntKind.i64 (IntKind.wrap IntKind.i64 (b + (1 : Int))), AV.int IntKind.i64 p, AV.ptr e 0, AV.ptr e 0, AV.ptr e 0, vg, AV.int IntKind.i64 (↑len : Int), AV.bool false, z 26, z 27, z 28, z 29, z 30, z 31, z 32, z 33, z 34, z 35, z 36, z 37, z 38, z 39, z 40, z 41, z 42, z 43, z 44, z 45, z 46, z 47, z 48, z 49, z 50, z 51, z 52, z 53, z 54, z 55, z 56, z 57, z 58, z 59, z 60, AV.bool y, AV.bool false, AV.tuple [], AV.tuple [], AV.tuple [], AV.tuple [], AV.tuple [], AV.tuple [], AV.tuple [], AV.tuple [], AV.tuple [], AV.tuple [], AV.bool false, z 74, z 75, z 76, z 77, z 78])) below H))) := by kernel_rfl

theorem rfI (w0 : World) (K : AM → Prop) (Kr : AV → AH → Prop) (below : List AFr) (z : Nat → AV) (e gn goff hn hoff hl : Nat) (n b p i t : Int) (y o : Bool) (vg l hv : AV) (H : AH) : (trun P w0 28 K Kr 300 0 [] ⟨w fX (setL (tz 79 z) [(0, .ptr e 0), (1, .int .i64 n), (5, l), (6, .int .i64 b), (7, .bool y), (8, .int .i64 p), (9, .int .i64 i)]), below, H⟩ (.v vg (.bs gn goff (.v hv (.ln hl (.tt (.br (.tt .stop) (.v vg (.bs gn goff (.v hv (.bs hn hoff (.v (.int .i64 t) (.br (.call Unit (fun _ => False) (fun _ => .bool o) (fun _ H' => H' = H) (fun _ _ => (.tt (.ff .stop)))) (.ff (.ff .stop))))))))))))))) = (rdAt H e 0 = some vg ∧ SlAt vg gn goff p ∧ rdAt H gn (goff + Int.toNat p * 1) = some hv ∧ aLen P H 34 hv = some (AV.int IntKind.i64 (↑hl : Int), []) ∧ decide (i < (↑hl : Int)) = true ∧ (y = true → true = true ∧ K (AM.mk (w fX (tl [AV.ptr e 0, AV.int IntKind.i64 n, z 2, z 3, z 4, l, AV.int IntKind.i64 b, AV.bool true, AV.int IntKind.i64 p, AV.int IntKind.i64 (IntKind.wrap IntKind.i64 (i + (1 : Int))), z 10, z 11, z 12, z 13, z 14, z 15, z 16, z 17, z 18, z 19, z 20, z 21, z 22, z 23, z 24, z 25, z 26, z 27, AV.int IntKind.i64 i, AV.ptr e 0, AV.ptr e 0, AV.ptr e 0, vg, AV.int IntKind.i64 p, AV.ptr gn (goff + Int.toNat p * 1), hv, AV.int IntKind.i64 (↑hl : Int), AV.bool true, AV.int IntKind.i64 i, AV.int IntKind.i64 (IntKind.wrap IntKind.i64 (i + (1 : Int))), AV.bool y, AV.bool true, AV.tuple [], AV.tuple [], AV.tuple [], AV.tuple [], AV.tuple [], AV.tuple [], AV.tuple [], AV.tuple [], AV.tuple [], AV.tuple [], AV.tuple [], AV.tuple [], AV.tuple [], AV.tuple [], AV.tuple [], AV.tuple [], AV.tuple [], AV.tuple [], AV.bool true, z 61, z 62, z 63, z 64, z 65, z 66, z 67, z 68, z 69, z 70, z 71, z 72, z 73, z 74, z 75, z 76, z 77, z 78])) below H)) ∧ (y = false → rdAt H e 0 = some vg ∧ SlAt vg gn goff p ∧ rdAt H gn (goff + Int.toNat p * 1) = some hv ∧ SlAt hv hn hoff i ∧ rdAt H hn (hoff + Int.toNat i * 1) = some (AV.int IntKind.i64 t) ∧ ((t == b) = true → True ∧ (Ret P w0 53 [AV.ptr e 0, AV.int IntKind.i64 n, AV.int IntKind.i64 p] H (fun (x : Nat) ↦ False) fun (v : AV) (H' : AH) ↦ ∃ (x : Unit), v = AV.bool o ∧ H' = H) ∧ Pok H (fun (x : Nat) ↦ False) (stackPend below) ∧ ∀ (x : Unit) (H' : AH), H' = H → true = true ∧ false = false ∧ K (AM.mk (w fX (tl [AV.ptr e 0, AV.int IntKind.i64 n, z 2, z 3, z 4, l, AV.int IntKind.i64 b, AV.bool o, AV.int IntKind.i64 p, AV.int IntKind.i64 (IntKind.wrap IntKind.i64 (i + (1 : Int))), z 10, z 11, z 12, z 13, z 14, z 15, z 16, z 17, z 18, z 19, z 20, z 21, z 22, z 23, z 24, z 25, z 26, z 27, AV.int IntKind.i64 i, AV.ptr e 0, AV.ptr e 0, AV.ptr e 0, vg, AV.int IntKind.i64 p, AV.ptr gn (goff + Int.toNat p * 1), hv, AV.int IntKind.i64 (↑hl : Int), AV.bool true, AV.int IntKind.i64 i, AV.int IntKind.i64 (IntKind.wrap IntKind.i64 (i + (1 : Int))), AV.bool y, AV.bool false, AV.ptr e 0, AV.ptr e 0, AV.ptr e 0, vg, AV.int IntKind.i64 p, AV.ptr gn (goff + Int.toNat p * 1), hv, AV.int IntKind.i64 i, AV.ptr hn (hoff + Int.toNat i * 1), AV.int IntKind.i64 t, AV.int IntKind.i64 b, AV.bool (t == b), AV.bool true, AV.ptr e 0, AV.int IntKind.i64 n, AV.int IntKind.i64 p, AV.bool o, AV.bool o, AV.bool o, z 61, z 62, z 63, z 64, z 65, z 66, z 67, z 68, z 69, z 70, z 71, z 72, z 73, z 74, z 75, z 76, z 77, z 78])) below H')) ∧ ((t == b) = false → false = false ∧ false = false ∧ K (AM.mk (w fX (tl [AV.ptr e 0, AV.int IntKind.i64 n, z 2, z 3, z 4, l, AV.int IntKind.i64 b, AV.bool false, AV.int IntKind.i64 p, AV.int IntKind.i64 (IntKind.wrap IntKind.i64 (i + (1 : Int))), z 10, z 11, z 12, z 13, z 14, z 15, z 16, z 17, z 18, z 19, z 20, z 21, z 22, z 23, z 24, z 25, z 26, z 27, AV.int IntKind.i64 i, AV.ptr e 0, AV.ptr e 0, AV.ptr e 0, vg, AV.int IntKind.i64 p, AV.ptr gn (goff + Int.toNat p * 1), hv, AV.int IntKind.i64 (↑hl : Int), AV.bool true, AV.int IntKind.i64 i, AV.int IntKind.i64 (IntKind.wrap IntKind.i64 (i + (1 : Int))), AV.bool y, AV.bool false, AV.ptr e 0, AV.ptr e 0, AV.ptr e 0, vg, AV.int IntKind.i64 p, AV.ptr gn (goff + Int.toNat p * 1), hv, AV.int IntKind.i64 i, AV.ptr hn (hoff + Int.toNat i * 1), AV.int IntKind.i64 t, AV.int IntKind.i64 b, AV.bool (t == b), AV.bool false, AV.tuple [], AV.tuple [], AV.tuple [], AV.tuple [], AV.bool false, AV.bool false, z 61, z 62, z 63, z 64, z 65, z 66, z 67, z 68, z 69, z 70, z 71, z 72, z 73, z 74, z 75, z 76, z 77, z 78])) below H)))) := by kernel_rfl

theorem rfIe (w0 : World) (K : AM → Prop) (Kr : AV → AH → Prop) (below : List AFr) (z : Nat → AV) (e gn goff hl : Nat) (n b p i : Int) (y : Bool) (vg l hv : AV) (H : AH) : (trun P w0 28 K Kr 300 0 [] ⟨w fX (setL (tz 79 z) [(0, .ptr e 0), (1, .int .i64 n), (5, l), (6, .int .i64 b), (7, .bool y), (8, .int .i64 p), (9, .int .i64 i)]), below, H⟩ (.v vg (.bs gn goff (.v hv (.ln hl (.ff .stop)))))) = (rdAt H e 0 = some vg ∧ SlAt vg gn goff p ∧ rdAt H gn (goff + Int.toNat p * 1) = some hv ∧ aLen P H 34 hv = some (AV.int IntKind.i64 (↑hl : Int), []) ∧ decide (i < (↑hl : Int)) = false ∧ K (AM.mk (w fZ (tl [AV.ptr e 0, AV.int IntKind.i64 n, z 2, z 3, z 4, l, AV.int IntKind.i64 b, AV.bool y, AV.int IntKind.i64 (IntKind.wrap IntKind.i64 (p + (1 : Int))), AV.int IntKind.i64 i, z 10, z 11, z 12, z 13, z 14, z 15, z 16, z 17, z 18, z 19, z 20, z 21, z 22, z 23, z 24, z 25, AV.int IntKind.i64 p, AV.int IntKind.i64 (IntKind.wrap IntKind.i64 (p + (1 : Int))), AV.int IntKind.i64 i, AV.ptr e 0, AV.ptr e 0, AV.ptr e 0, vg, AV.int IntKind.i64 p, AV.ptr gn (goff + Int.toNat p * 1), hv, AV.int IntKind.i64 (↑hl : Int), AV.bool false, z 38, z 39, z 40, z 41, z 42, z 43, z 44, z 45, z 46, z 47, z 48, z 49, z 50, z 51, z 52, z 53, z 54, z 55, z 56, z 57, z 58, z 59, z 60, z 61, z 62, z 63, z 64, z 65, z 66, z 67, z 68, z 69, z 70, z 71, z 72, z 73, z 74, z 75, z 76, z 77, z 78])) below H)) := by kernel_rfl

section
variable {w0 : World} {H : AH} {S : Nat → Prop} {e sn : Nat} {vg vov vo : AV} {g : List (List Int)} {hs ovs : List AV} {sf : Seen} {ov : Int → Int → Bool} {below : List AFr}

/-- A Dom of the document, as its methods read it. -/
structure RfIs (H : AH) (S : Nat → Prop) (e sn : Nat) (vg vov : AV) (g : List (List Int)) (hs ovs : List AV) (sf : Seen) (ov : Int → Int → Bool) : Prop where
  r0 : rdAt H e 0 = some vg
  r1 : rdAt H e 1 = some vov
  r3 : rdAt H e 3 = some (.slice sn 0 g.length g.length)
  seen : H.get sn = some (.row (seenCells sf g.length) 4 true (.own none))
  mat : Mat H S vg g hs
  rows : SlR H vov ovs
  len : ovs.length = g.length
  each : ∀ i : Nat, i < g.length → ∃ on, ∃ f : Seen, ovs[i]? = some (.slice on 0 g.length g.length) ∧ H.get on = some (.row (seenCells f g.length) 4 true (.own none)) ∧ ∀ j : Nat, j < g.length → sf (i : Int) = true → sf (j : Int) = true → f (j : Int) = ov (i : Int) (j : Int)
  rng : ∀ x, sf x = true → 0 ≤ x ∧ x < (g.length : Int)
  both : ∀ i j, ov i j = true → sf i = true ∧ sf j = true

theorem RfIs.congr {H' : AH} (hw : Wf H) (h : RfIs H S e sn vg vov g hs ovs sf ov) (hS : ∀ m, S m → m < H.nx) (old : ∀ m, m < H.nx → H'.get m = H.get m) : RfIs H' S e sn vg vov g hs ovs sf ov := by
  have hlt : ∀ {m o}, H.get m = some o → H'.get m = some o := fun {m o} hm => by rw [old m (hw m o hm)]; exact hm
  have he := old e (rdAt_lt hw h.r0)
  exact ⟨by rw [rdAt_congr he]; exact h.r0, by rw [rdAt_congr he]; exact h.r1, by rw [rdAt_congr he]; exact h.r3, hlt h.seen, h.mat.congr fun m hm => old m (hS m hm),
    h.rows.congr fun m off hb => old m (h.rows.lt hw hb), h.len, fun i hi => by obtain ⟨on, f, o1, o2, o3⟩ := h.each i hi; exact ⟨on, f, o1, hlt o2, o3⟩, h.rng, h.both⟩

theorem ris_ret (h : RfIs H S e sn vg vov g hs ovs sf ov) (n : Int) : Ret P w0 66 [.ptr e 0, .int .i64 n] H (fun _ => False) fun v H' => v = .bool (sf n) ∧ H' = H := Ret.mk fun below hp => by
  have hal : aLen P H 22 vg = some (.int .i64 (g.length : Nat), []) := by rw [← h.mat.len]; exact h.mat.top.aLen et22.und
  have out : ¬ (0 ≤ n ∧ n < (g.length : Int)) → AV.bool false = AV.bool (sf n) := fun c => by
    cases hs : sf n with
    | false => rfl
    | true => exact absurd (h.rng n hs) c
  refine Leads.go fine (ris w0 _ _ below e g.length sn g.length n (sf n) vg H) (by kernel_rfl) ⟨fun h0 => ⟨h.r0, hal, rfl, fun h1 => ?_, fun h1 => ⟨rfl, out fun c => ?_, rfl⟩⟩, fun h0 => ⟨rfl, rfl, rfl, out fun c => ?_, rfl⟩⟩
  · have h0 : 0 ≤ n := by simpa using h0
    have h1 : n < (g.length : Int) := by simpa using h1
    refine ⟨h.r3, ⟨h0, h1⟩, ?_, rfl, rfl, rfl⟩
    rw [show 0 + Int.toNat n * 1 = n.toNat by omega, rdAt_row h.seen, seenCells_get _ (by omega), show ((n.toNat : Nat) : Int) = n by omega]
  · have h1 : (g.length : Int) ≤ n := by simpa using h1
    omega
  · have h0 : n < 0 := by simpa using h0
    omega

theorem rio_ret (h : RfIs H S e sn vg vov g hs ovs sf ov) (i j : Int) : Ret P w0 53 [.ptr e 0, .int .i64 i, .int .i64 j] H (fun _ => False) fun v H' => v = .bool (ov i j) ∧ H' = H := Ret.mk fun below hp => by
  have no : ¬ (sf i = true ∧ sf j = true) → AV.bool false = AV.bool (ov i j) := fun c => by
    cases ho : ov i j with
    | false => rfl
    | true => exact absurd (h.both i j ho) c
  by_cases c : sf i = true ∧ sf j = true
  · obtain ⟨c1, c2⟩ := c
    have ri := h.rng i c1
    have rj := h.rng j c2
    obtain ⟨on, f, o1, o2, o3⟩ := h.each i.toNat (by omega)
    obtain ⟨a, ao, hb⟩ := h.rows.some_base (fun e => by have := h.len; rw [e] at this; simp at this; omega)
    obtain ⟨u1, u2⟩ := h.rows.at hb o1
    have o3 := o3 j.toNat (by omega) (by rw [show ((i.toNat : Nat) : Int) = i by omega]; exact c1) (by rw [show ((j.toNat : Nat) : Int) = j by omega]; exact c2)
    rw [show ((i.toNat : Nat) : Int) = i by omega] at u1 o3
    rw [show ((j.toNat : Nat) : Int) = j by omega] at o3
    refine Leads.go fine (rio w0 _ _ below e a ao on g.length i j (sf i) (sf j) (ov i j) vov H) (by kernel_rfl) ⟨trivial, (ris_ret h i).mono fun y H' q => ⟨(), q⟩, hp, fun _ H1 e1 => ?_⟩
    rw [e1]
    refine ⟨fun _ => ⟨trivial, (ris_ret h j).mono fun y H' q => ⟨(), q⟩, hp, fun _ H2 e2 => ?_⟩, fun hc => by rw [c1] at hc; cases hc⟩
    rw [e2]
    refine ⟨rfl, fun _ => ⟨h.r1, u1, by simpa using u2, rj, ?_, rfl, rfl, rfl⟩, fun hc => by rw [c2] at hc; cases hc⟩
    rw [show 0 + Int.toNat j * 1 = j.toNat by omega, rdAt_row o2, seenCells_get _ (by omega), show ((j.toNat : Nat) : Int) = j by omega, o3]
  · refine Leads.go fine (rio w0 _ _ below e 0 0 0 0 i j (sf i) (sf j) (ov i j) vov H) (by kernel_rfl) ⟨trivial, (ris_ret h i).mono fun y H' q => ⟨(), q⟩, hp, fun _ H1 e1 => ?_⟩
    rw [e1]
    refine ⟨fun h1 => ⟨trivial, (ris_ret h j).mono fun y H' q => ⟨(), q⟩, hp, fun _ H2 e2 => ?_⟩, fun hc => ⟨rfl, rfl, rfl, no c, rfl⟩⟩
    rw [e2]
    exact ⟨rfl, fun h2 => absurd ⟨h1, h2⟩ c, fun _ => ⟨rfl, no c, rfl⟩⟩

def fYh (e : Nat) (n : Int) (l : AV) (b : Int) : List (Nat × AV) := [(0, .ptr e 0), (1, .int .i64 n), (5, l), (6, .int .i64 b)]

def fZh (e : Nat) (n : Int) (l : AV) (b : Int) (y : Bool) (p : Int) : List (Nat × AV) := [(0, .ptr e 0), (1, .int .i64 n), (5, l), (6, .int .i64 b), (7, .bool y), (8, .int .i64 p)]

def fXh (e : Nat) (n : Int) (l : AV) (b : Int) (y : Bool) (p i : Int) : List (Nat × AV) := [(0, .ptr e 0), (1, .int .i64 n), (5, l), (6, .int .i64 b), (7, .bool y), (8, .int .i64 p), (9, .int .i64 i)]

theorem rfX_loop (h : RfIs H S e sn vg vov g hs ovs sf ov) (hp : Pok H (fun _ => False) (stackPend below)) {Kr : AV → AH → Prop} {n b : Int} {p : Nat} {row : List Int} (hrow : g[p]? = some row) (hrl : row.length ≤ 1024) (hg1 : g.length ≤ 1024) {l : AV} {y2 : Bool}
    (hend : ∀ z, Leads P w0 (RetK P 28 below Kr) ⟨w fZ (setL (tz 79 z) (fZh e n l b y2 (p + 1 : Nat))), below, H⟩) :
    ∀ (r : List Int) (i : Nat) (y : Bool), row.drop i = r → i ≤ row.length → (y || (r.any (· == b) && ov n (p : Int))) = y2 → ∀ z, Leads P w0 (RetK P 28 below Kr) ⟨w fX (setL (tz 79 z) (fXh e n l b y p i)), below, H⟩ := by
  intro r
  have hpl : p < g.length := (List.getElem?_eq_some_iff.1 hrow).1
  obtain ⟨gn, goff, hv, p1, p2, p3, p4, p5⟩ := h.mat.at hrow
  have p2' : rdAt H gn (goff + Int.toNat (p : Int) * 1) = some hv := by simpa using p2
  have hal : aLen P H 34 hv = some (.int .i64 (row.length : Nat), []) := by have := p4.aLen (P := P) et34.und; simpa using this
  induction r with
  | nil =>
    intro i y hdrop hi hy z
    have hil := drop_end hdrop hi
    refine Leads.go fine (rfIe w0 _ _ below z e gn goff row.length n b p i y vg l hv H) rfl ⟨h.r0, p1, p2', hal, by simp [hil], ?_⟩
    rw [wrap1 p (by omega)]
    have : y = y2 := by simpa using hy
    subst this
    exact Leads.at (fZh e n l b y (p + 1 : Nat)) (by kernel_rfl) hend
  | cons t r ihr =>
    intro i y hdrop hi hy z
    obtain ⟨hlt, hit, hdr⟩ := drop_step hdrop
    obtain ⟨hn, hoff, hb, q1, q2⟩ := p4.int hit
    have q2' : rdAt H hn (hoff + Int.toNat (i : Int) * 1) = some (.int .i64 t) := by simpa using q2
    refine Leads.go fine (rfI w0 _ _ below z e gn goff hn hoff row.length n b p i t y (ov n p) vg l hv H) rfl ⟨h.r0, p1, p2', hal, by simpa using hlt, fun hy1 => ⟨rfl, ?_⟩, fun hy1 => ⟨h.r0, p1, p2', q1, q2', fun ht => ⟨trivial, (rio_ret h n p).mono fun v H' q => ⟨(), q⟩, hp, fun _ H' e' => ⟨rfl, rfl, ?_⟩⟩, fun ht => ⟨rfl, rfl, ?_⟩⟩⟩
    · rw [wrap1 i (by omega)]
      subst hy1
      exact Leads.at (fXh e n l b true p (i + 1 : Nat)) (by kernel_rfl) (ihr (i + 1) true hdr hlt (by simpa using hy))
    · rw [wrap1 i (by omega), e']
      subst hy1
      refine Leads.at (fXh e n l b (ov n p) p (i + 1 : Nat)) (by kernel_rfl) (ihr (i + 1) (ov n p) hdr hlt ?_)
      rw [List.any_cons, ht] at hy
      rw [← hy]
      cases ov n p <;> simp
    · rw [wrap1 i (by omega)]
      subst hy1
      refine Leads.at (fXh e n l b false p (i + 1 : Nat)) (by kernel_rfl) (ihr (i + 1) false hdr hlt ?_)
      rw [List.any_cons, ht] at hy
      rw [← hy]
      simp

/-- Whether a way leads to b from under n, of the nodes from p on. -/
def inFr (g : List (List Int)) (ov : Int → Int → Bool) (n b : Int) (p k : Nat) : Bool := (List.range' p k).any fun q => (g.getD q []).any (· == b) && ov n (q : Int)

def rfB (g : List (List Int)) (ov : Int → Int → Bool) (n b : Int) : Bool := inFr g ov n b 0 g.length && (n == b || !ov n b)

theorem rfZ_loop (h : RfIs H S e sn vg vov g hs ovs sf ov) (hp : Pok H (fun _ => False) (stackPend below)) {Kr : AV → AH → Prop} {n b : Int} (hrl : ∀ l ∈ g, l.length ≤ 1024) (hg1 : g.length ≤ 1024) {l : AV} {y2 : Bool}
    (hend : ∀ z, Leads P w0 (RetK P 28 below Kr) ⟨w fZ (setL (tz 79 z) (fZh e n l b y2 (g.length : Nat))), below, H⟩) :
    ∀ (k p : Nat) (y : Bool), p + k = g.length → (y || inFr g ov n b p k) = y2 → ∀ z, Leads P w0 (RetK P 28 below Kr) ⟨w fZ (setL (tz 79 z) (fZh e n l b y p)), below, H⟩ := by
  intro k
  have hal : aLen P H 22 vg = some (.int .i64 (g.length : Nat), []) := by rw [← h.mat.len]; exact h.mat.top.aLen et22.und
  induction k with
  | zero =>
    intro p y hk hy z
    have : p = g.length := by omega
    subst this
    have : y = y2 := by simpa [inFr] using hy
    subst this
    exact hend z
  | succ k ih =>
    intro p y hk hy z
    have hrow : g[p]? = some g[p] := List.getElem?_eq_getElem (by omega)
    refine Leads.go fine (rfP w0 _ _ below z e g.length n b p y vg l H) rfl ⟨h.r0, hal, by simp; omega, ?_⟩
    refine Leads.at (fXh e n l b y p (0 : Nat)) (by kernel_rfl) (rfX_loop h hp hrow (hrl _ (List.getElem_mem _)) hg1 (ih (p + 1) _ (by omega) ?_) g[p] 0 y (by simp) (Nat.zero_le _) rfl)
    rw [← hy, inFr, inFr, List.range'_succ, List.any_cons, List.getD_eq_getElem?_getD, hrow, Option.getD_some, Bool.or_assoc]

theorem rfY_loop {H0 : AH} (hw0 : Wf H0) (hp : Pok H0 (fun _ => False) (stackPend below)) (h : RfIs H0 S e sn vg vov g hs ovs sf ov) (hS : ∀ m, S m → m < H0.nx) (hrl : ∀ l ∈ g, l.length ≤ 1024) (hg1 : g.length ≤ 1024) (n : Int) :
    ∀ (k i : Nat) (Hc : AH) (l : AV), i + k = g.length → (∀ m, m < H0.nx → Hc.get m = H0.get m) → H0.nx ≤ Hc.nx → Lst Hc l 3 ((risL (rfB g ov n) i).map kI) → (∀ m, LN Hc l m → H0.nx ≤ m) →
      ∀ z, Leads P w0 (RetK P 28 below (OrdQ H0 (risL (rfB g ov n) g.length))) ⟨w fY (setL (tz 79 z) (fYh e n l i)), below, Hc⟩ := by
  intro k
  induction k with
  | zero =>
    intro i Hc l hk old nx hl hln z
    have hc := h.congr hw0 hS old
    have hal : aLen P Hc 22 vg = some (.int .i64 (g.length : Nat), []) := by rw [← hc.mat.len]; exact hc.mat.top.aLen et22.und
    have : i = g.length := by omega
    subst this
    exact Leads.go fine (rfOe w0 _ _ below z e g.length n (g.length : Nat) vg l Hc) rfl ⟨hc.r0, hal, by simp, hl.slr, fun n off hb => hln n ⟨n, off, hb, .inl rfl⟩, nx, fun m hm _ => old m hm⟩
  | succ k ih =>
    intro i Hc l hk old nx hl hln z
    refine Leads.wf fun hw => ?_
    have hc := h.congr hw0 hS old
    have hal : aLen P Hc 22 vg = some (.int .i64 (g.length : Nat), []) := by rw [← hc.mat.len]; exact hc.mat.top.aLen et22.und
    have hpc : Pok Hc (fun _ => False) (stackPend below) := (pok_new hw0 hp old).weak fun m hm => hm.elim
    refine Leads.go fine (rfO w0 _ _ below z e g.length n i vg l Hc) rfl ⟨hc.r0, hal, by simp; omega, ?_⟩
    refine Leads.at (fZh e n l i false (0 : Nat)) (by kernel_rfl) (rfZ_loop hc hpc hrl hg1 (fun z => ?_) g.length 0 false (by omega) rfl)
    rw [Bool.false_or]
    let Hb := Hc.new (.row [.int .i64 (i : Int)] 3 true (.own none))
    have hbget : ∀ m, m < Hc.nx → Hb.get m = Hc.get m := fun m hm => get_lt hm
    have hl0 : Lst Hb l 3 ((risL (rfB g ov n) i).map kI) := hl.congr fun m off hb => hbget m (hl.lt hw ⟨m, off, hb, .inl rfl⟩)
    have hlnb : ∀ m, LN Hb l m ↔ LN Hc l m := LN_same fun m off hb => hbget m (hl.lt hw ⟨m, off, hb, .inl rfl⟩)
    have hrl' := risL_len (rfB g ov n) i
    obtain ⟨v', H', ns, h1, h2, h3, h4, h5⟩ := hl0.append et34 (t2 := 34) (by kernel_rfl) et34.made (hw.new _) (x := .slice Hc.nx 0 1 1) (new := [.int .i64 (i : Int)]) rfl
      (by show aFirst (Hc.new _) 1 1 (.slice Hc.nx 0 1 1) = _; simp [aFirst, get_new]) rfl (by simp; omega)
    have hnb : Hc.nx + 1 ≤ H'.nx := h3.nx
    have hap := h5 (fun m => H0.nx ≤ m) _ (pok_new hw0 hp fun m hm => (hbget m (by omega)).trans (old m hm)) fun m hm => .inl (hln m ((hlnb m).1 hm))
    have yes : rfB g ov n i = true → ∀ z, Leads P w0 (RetK P 28 below (OrdQ H0 (risL (rfB g ov n) g.length))) ⟨w fY (setL (tz 79 z) (fYh e n v' (i + 1 : Nat))), below, H'⟩ := fun hb => by
      refine ih (i + 1) H' v' (by omega) (fun m hm => ?_) (by omega) ?_ fun m hm => ?_
      · rw [h3.get m (by show m < Hc.nx + 1; omega) (fun hx => by have := hln m ((hlnb m).1 hx); omega), hbget m (by omega)]
        exact old m hm
      · have : risL (rfB g ov n) (i + 1) = risL (rfB g ov n) i ++ [(i : Int)] := by rw [risL, if_pos hb]
        rw [this, List.map_append]
        exact h2
      · rcases h4 m hm with h' | h'
        · exact hln m ((hlnb m).1 h')
        · have : Hc.nx + 1 ≤ m := h'
          omega
    have non : rfB g ov n i = false → ∀ z, Leads P w0 (RetK P 28 below (OrdQ H0 (risL (rfB g ov n) g.length))) ⟨w fY (setL (tz 79 z) (fYh e n l (i + 1 : Nat))), below, Hc⟩ := fun hb => by
      refine ih (i + 1) Hc l (by omega) old nx ?_ hln
      have : risL (rfB g ov n) (i + 1) = risL (rfB g ov n) i := by rw [risL, if_neg (by rw [hb]; simp), List.append_nil]
      rw [this]
      exact hl
    have hwr := wrap1 i (by omega)
    have hB : rfB g ov n i = (inFr g ov n i 0 g.length && (n == (i : Int) || !ov n i)) := rfl
    refine Leads.go fine (rfPe w0 _ _ below z e g.length n i (g.length : Nat) (inFr g ov n i 0 g.length) (ov n i) vg l v' H' ns Hc) rfl ⟨hc.r0, hal, by simp, fun hy => ⟨fun hn => ⟨rfl, rfl, rfl, trivial, h1, hap, ?_⟩, fun hn => ⟨trivial, (rio_ret hc n i).mono fun v H' q => ⟨(), q⟩, hpc, fun _ H2 e2 => ?_⟩⟩, fun hy => ⟨rfl, rfl, ?_⟩⟩
    · rw [hwr]
      exact Leads.at (fYh e n v' (i + 1 : Nat)) (by kernel_rfl) (yes (by rw [hB, hy, hn]; rfl))
    · rw [e2, hwr]
      refine ⟨rfl, rfl, fun ho => ⟨trivial, h1, hap, ?_⟩, fun ho => ?_⟩
      · exact Leads.at (fYh e n v' (i + 1 : Nat)) (by kernel_rfl) (yes (by rw [hB, hy, hn, ho]; rfl))
      · exact Leads.at (fYh e n l (i + 1 : Nat)) (by kernel_rfl) (non (by rw [hB, hy, hn, ho]; rfl))
    · rw [hwr]
      exact Leads.at (fYh e n l (i + 1 : Nat)) (by kernel_rfl) (non (by rw [hB, hy]; rfl))

/-- THE CONTRACT OF THE DOCUMENT'S Frontier. -/
theorem rfront_ret (h : RfIs H S e sn vg vov g hs ovs sf ov) (hS : ∀ m, S m → m < H.nx) (hrl : ∀ l ∈ g, l.length ≤ 1024) (hg1 : g.length ≤ 1024) (n : Int) : Ret P w0 28 [.ptr e 0, .int .i64 n] H (fun _ => False) (OrdQ H (risL (rfB g ov n) g.length)) := Ret.mk fun below hp => by
  refine Leads.wf fun hw => ?_
  exact Leads.go fine (rf0 w0 _ _ below e n H) (by kernel_rfl) (Leads.at (fYh e n (.nslice 0 0) (0 : Nat)) (by kernel_rfl) (rfY_loop hw hp h hS hrl hg1 n g.length 0 H (.nslice 0 0) (by omega) (fun _ _ => rfl) (Nat.le_refl _) (Lst.nil _ 3) fun m hm => absurd hm (LN_nil _ _)))

theorem risL_congr {f f' : Int → Bool} : ∀ i : Nat, (∀ j : Nat, j < i → f (j : Int) = f' (j : Int)) → risL f i = risL f' i
  | 0, _ => rfl
  | i + 1, h => by rw [risL, risL, risL_congr i fun j hj => h j (by omega), h i (by omega)]

theorem rf_of {Hm : AH} {x : AV} {G : List (List Int)} {done nodes : List Int} {upF : Fn} {os : List AV} (h : RefOk Hm H e x G sf done) (hm : Mat H S x G os) (M : Made G sf done nodes upF) : ∃ sn vov ovs vo, RfIs H S e sn x vov G os ovs sf (OvB nodes upF) ∧ rdAt H e 2 = some vo ∧ SlR H vo (done.map kI) := by
  obtain ⟨vov, vo, sn, ovs, r1, r2, r3, r4, r5, r6, r7, r8, r9, r10⟩ := h
  refine ⟨sn, vov, ovs, vo, ⟨by rw [rdAt_row r1]; rfl, by rw [rdAt_row r1]; rfl, by rw [rdAt_row r1]; rfl, r6, hm, r7, r9, fun i hi => ?_, fun y hy => ?_, fun i j ho => ?_⟩, by rw [rdAt_row r1]; rfl, r4⟩
  · obtain ⟨on, o1, _, wf, o2, o3⟩ := r10 i hi
    refine ⟨on, _, o1, o3, fun j hj si sj => ?_⟩
    rw [outF, si, sj, Bool.true_and, Bool.true_and, Bool.eq_iff_iff, ovB_iff M, Bool.not_eq_true', Bool.eq_false_iff, Ne, o2, M.dom ((M.seen _).1 sj)]
    exact ⟨fun hx => ⟨(M.seen _).1 si, (M.seen _).1 sj, hx⟩, fun hx => hx.2.2⟩
  · exact M.ord.range y ((M.seen y).1 hy)
  · obtain ⟨h1, h2, _⟩ := (ovB_iff M i j).1 ho
    exact ⟨(M.seen i).2 h1, (M.seen j).2 h2⟩

theorem front_eq {G : List (List Int)} (hG : Go.Proofs.DomP.Good G) {done nodes : List Int} {upF : Fn} (M : Made G sf done nodes upF) (n : Int) : risL (rfB G (OvB nodes upF) n) G.length = risL (frontB (placeF (0 :: nodes) 0 fun _ => none) (ovF upF) G (0 :: nodes) n) G.length := risL_congr _ fun j hj => by
  unfold rfB frontB
  rw [Bool.and_comm]
  refine congrArg _ ?_
  rw [Bool.eq_iff_iff, inFr, List.any_eq_true, List.any_eq_true]
  constructor
  · rintro ⟨q, hq, h⟩
    rw [Bool.and_eq_true, List.any_eq_true] at h
    obtain ⟨⟨t, ht, h1⟩, h2⟩ := h
    have : t = (j : Int) := by simpa using h1
    subst this
    refine ⟨(q : Int), (preds_mem hG _ (by omega) _).2 ⟨((ovB_iff M n q).1 h2).2.1, ?_⟩, h2⟩
    simpa using ht
  · rintro ⟨p, hp, h⟩
    obtain ⟨h1, h2⟩ := (preds_mem hG _ (by omega) p).1 hp
    have hr := M.ord.range p h1
    refine ⟨p.toNat, by rw [List.mem_range'_1]; omega, ?_⟩
    rw [Bool.and_eq_true, List.any_eq_true]
    refine ⟨⟨(j : Int), h2, by simp⟩, ?_⟩
    rw [show ((p.toNat : Nat) : Int) = p by omega]
    exact h
end
end Go.Dm
