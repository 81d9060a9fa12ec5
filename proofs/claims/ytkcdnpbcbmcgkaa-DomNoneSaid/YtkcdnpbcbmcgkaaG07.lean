/- The engine and the contracts, part 7. No condition beyond the hypotheses of each theorem. -/
import Derived.Test.YtkcdnpbcbmcgkaaG06
/- dom.walk: the order turned round, places, and those that lead to each. -/
set_option linter.unusedVariables false
namespace Go.Dm
open Go Go.Sx Go.Sy Go.RowKit Go.Proofs.DomP

noncomputable def rL : AFr := hd P 58 [.r, .i]

theorem rev0 (w0 : World) (K : AM → Prop) (Kr : AV → AH → Prop) (below : List AFr) (len : Nat) (v : AV) (H : AH) : (trun P w0 58 K Kr 200 0 [] ⟨frOf P 58 [v], below, H⟩ (.ln len .stop)) = (aLen P H 34 v = some (AV.int IntKind.i64 (↑len : Int), []) ∧ K (AM.mk (w rL (tl [v, AV.tuple [], AV.int IntKind.i64 (0 : Int), AV.int IntKind.i64 (IntKind.wrap IntKind.i64 ((↑len : Int) - (1 : Int))), v, AV.int IntKind.i64 (↑len : Int), AV.int IntKind.i64 (IntKind.wrap IntKind.i64 ((↑len : Int) - (1 : Int))), AV.tuple [], AV.tuple [], AV.tuple [], AV.tuple [], AV.tuple [], AV.tuple [], AV.tuple [], AV.tuple [], AV.tuple [], AV.tuple [], AV.tuple [], AV.tuple [], AV.tuple [], AV.tuple [], AV.tuple [], AV.tuple [], AV.tuple [], AV.tuple [], AV.tuple [], AV.tuple [], AV.tuple []])) below H)) := by kernel_rfl

theorem revIn (w0 : World) (K : AM → Prop) (Kr : AV → AH → Prop) (below : List AFr) (z : Nat → AV) (n off : Nat) (v : AV) (i j a b : Int) (H : AH) : (trun P w0 58 K Kr 200 0 [] ⟨w rL (setL (tz 28 z) [(0, v), (2, .int .i64 i), (3, .int .i64 j)]), below, H⟩ (.tt (.bs n off (.v (.int .i64 b) (.bs n off (.v (.int .i64 a) (.bs n off (.bs n off .stop)))))))) = (decide (i < j) = true ∧ SlAt v n off j ∧ rdAt H n (off + Int.toNat j * 1) = some (AV.int IntKind.i64 b) ∧ SlAt v n off i ∧ rdAt H n (off + Int.toNat i * 1) = some (AV.int IntKind.i64 a) ∧ SlAt v n off i ∧ AV.single (AV.int IntKind.i64 b) = true ∧ StOk H n (off + Int.toNat i * 1) 1 ∧ apartOk H (stackPend below) (n :: stOld H n) = true ∧ SlAt v n off j ∧ AV.single (AV.int IntKind.i64 a) = true ∧ StOk (stO H n (off + Int.toNat i * 1) [AV.int IntKind.i64 b]) n (off + Int.toNat j * 1) 1 ∧ apartOk (stO H n (off + Int.toNat i * 1) [AV.int IntKind.i64 b]) (stackPend below) (n :: stOld (stO H n (off + Int.toNat i * 1) [AV.int IntKind.i64 b]) n) = true ∧ K (AM.mk (w rL (tl [v, z 1, AV.int IntKind.i64 (IntKind.wrap IntKind.i64 (i + (1 : Int))), AV.int IntKind.i64 (IntKind.wrap IntKind.i64 (j - (1 : Int))), z 4, z 5, z 6, AV.int IntKind.i64 i, AV.int IntKind.i64 j, AV.bool true, AV.int IntKind.i64 i, AV.int IntKind.i64 (IntKind.wrap IntKind.i64 (i + (1 : Int))), AV.int IntKind.i64 j, AV.int IntKind.i64 (IntKind.wrap IntKind.i64 (j - (1 : Int))), v, AV.int IntKind.i64 i, v, AV.int IntKind.i64 j, v, AV.int IntKind.i64 j, AV.ptr n (off + Int.toNat j * 1), AV.int IntKind.i64 b, v, AV.int IntKind.i64 i, AV.ptr n (off + Int.toNat i * 1), AV.int IntKind.i64 a, AV.ptr n (off + Int.toNat i * 1), AV.ptr n (off + Int.toNat j * 1)])) below (stO (stO H n (off + Int.toNat i * 1) [AV.int IntKind.i64 b]) n (off + Int.toNat j * 1) [AV.int IntKind.i64 a]))) := by kernel_rfl

theorem revOut (w0 : World) (K : AM → Prop) (Kr : AV → AH → Prop) (below : List AFr) (z : Nat → AV) (v : AV) (i j : Int) (H : AH) : (trun P w0 58 K Kr 200 0 [] ⟨w rL (setL (tz 28 z) [(0, v), (2, .int .i64 i), (3, .int .i64 j)]), below, H⟩ (.ff .stop)) = (decide (i < j) = false ∧ Kr (AV.tuple []) H) := by kernel_rfl

def rHead (v : AV) (i j : Int) : List (Nat × AV) := [(0, v), (2, .int .i64 i), (3, .int .i64 j)]

/-- A list whose numbers were changed in place. -/
structure LStep (H : AH) (v : AV) (H' : AH) (ys : List Int) : Prop where
  lst : Lst H' v 3 (ys.map kI)
  kept : Kept (LN H v) H H'
  ln : ∀ m, LN H' v m → LN H v m

theorem LStep.store {H Hc : AH} {v : AV} {ys : List Int} (h : LStep H v Hc ys) (hw : Wf H) {n off : Nat} (hb : slBase v = some (n, off)) {i : Nat} (hi : i < ys.length) (x : Int) {pend : List Nat} (hp : Pok H (LN H v) pend) :
    StOk Hc n (off + i) 1 ∧ LStep H v (stO Hc n (off + i) [.int .i64 x]) (ys.set i x) ∧ AOk Hc pend (n :: stOld Hc n) := by
  obtain ⟨q1, q2, q3, q4, q5⟩ := h.lst.store hb (i := i) (by simpa using hi) (kI x)
  refine ⟨q1, ⟨by rw [List.map_set]; exact q2, h.kept.trans' q3 fun m _ hx => h.ln m hx, fun m hm => h.ln m (q4 m hm)⟩, ?_⟩
  exact q5 _ pend (hp.mono hw h.kept fun m _ hx => h.ln m hx) fun m hm => .inl hm

theorem rev_loop {w0 : World} {below : List AFr} {H : AH} {v : AV} {xs : List Int} (hw0 : Wf H) (hp : Pok H (LN H v) (stackPend below)) (hsm : xs.length ≤ 1000000) : ∀ (m i : Nat) (ys : List Int) (Hc : AH), xs.length ≤ m + 2 * i → 2 * i ≤ xs.length + 1 → LStep H v Hc ys → ys.length = xs.length →
    (∀ p, p < xs.length → ys[p]? = if p < i ∨ xs.length - 1 - i < p then xs[xs.length - 1 - p]? else xs[p]?) →
    ∀ z, Leads P w0 (RetK P 58 below fun r H' => r = .tuple [] ∧ LStep H v H' xs.reverse) ⟨w rL (setL (tz 28 z) (rHead v i ((xs.length : Int) - 1 - i))), below, Hc⟩
  | m, i, ys, Hc, hm, hi, h, hlen, hys, z => by
    by_cases hc : 2 * i + 1 < xs.length
    · cases m with
      | zero => omega
      | succ m =>
      have hbase : ys ≠ [] := fun e => by rw [e] at hlen; simp at hlen; omega
      obtain ⟨n, off, hb⟩ := h.lst.slr.some_base (by simpa using hbase)
      have hyi : i < ys.length := by omega
      have hyj : xs.length - 1 - i < ys.length := by omega
      obtain ⟨a1, a2⟩ := h.lst.slr.at hb (i := i) (c := kI ys[i]) (by rw [List.getElem?_map, List.getElem?_eq_getElem hyi]; rfl)
      obtain ⟨b1, b2⟩ := h.lst.slr.at hb (i := xs.length - 1 - i) (c := kI ys[xs.length - 1 - i]) (by rw [List.getElem?_map, List.getElem?_eq_getElem hyj]; rfl)
      have ej : ((xs.length : Int) - 1 - i) = ((xs.length - 1 - i : Nat) : Int) := by omega
      obtain ⟨s1, s2, s3⟩ := h.store hw0 hb hyi ys[xs.length - 1 - i] hp
      obtain ⟨t1, t2, t3⟩ := s2.store hw0 hb (i := xs.length - 1 - i) (by simpa using hyj) ys[i] hp
      rw [ej]
      refine Leads.go fine (revIn w0 _ _ below z n off v i ((xs.length - 1 - i : Nat) : Int) ys[i] ys[xs.length - 1 - i] Hc) rfl ⟨by simp; omega, b1, by simp only [Int.toNat_natCast, Nat.mul_one]; exact b2, a1, by simp only [Int.toNat_natCast, Nat.mul_one]; exact a2, a1, rfl, by simp only [Int.toNat_natCast, Nat.mul_one]; exact s1, s3, b1, rfl, by simp only [Int.toNat_natCast, Nat.mul_one]; exact t1, by simp only [Int.toNat_natCast, Nat.mul_one]; exact t3, ?_⟩
      simp only [Int.toNat_natCast, Nat.mul_one]
      rw [show IntKind.wrap .i64 ((i : Int) + 1) = ((i + 1 : Nat) : Int) by rw [wrapI (by omega) (by omega)]; rfl, show IntKind.wrap .i64 (((xs.length - 1 - i : Nat) : Int) - 1) = (xs.length : Int) - 1 - (i + 1 : Nat) by rw [wrapI (by omega) (by omega)]; omega]
      refine Leads.at (rHead v (i + 1 : Nat) ((xs.length : Int) - 1 - (i + 1 : Nat))) (by kernel_rfl) (rev_loop hw0 hp hsm m (i + 1) _ _ (by omega) (by omega) t2 (by simp [hlen]) fun p hp => ?_)
      have hpi := hys i (by omega)
      have hpj := hys (xs.length - 1 - i) (by omega)
      rw [if_neg (by omega), List.getElem?_eq_getElem hyi] at hpi
      rw [if_neg (by omega), List.getElem?_eq_getElem hyj] at hpj
      rw [List.getElem?_set]
      by_cases e1 : xs.length - 1 - i = p
      · rw [if_pos e1, if_pos (by simp; omega), if_pos (by omega), hpi, show xs.length - 1 - p = i by omega]
      · rw [if_neg e1, List.getElem?_set]
        by_cases e2 : i = p
        · rw [if_pos e2, if_pos (by omega), if_pos (by omega), hpj, show xs.length - 1 - p = xs.length - 1 - i by omega]
        · rw [if_neg e2, hys p hp]
          by_cases e3 : p < i ∨ xs.length - 1 - i < p
          · rw [if_pos e3, if_pos (by omega)]
          · rw [if_neg e3, if_neg (by omega)]
    · have he : ys = xs.reverse := by
        apply List.ext_getElem?
        intro p
        rcases Nat.lt_or_ge p xs.length with hp | hp
        · rw [hys p hp, List.getElem?_reverse hp]
          split
          · rfl
          · congr 1; omega
        · rw [List.getElem?_eq_none (by omega), List.getElem?_eq_none (by simpa using hp)]
      rw [← he]
      exact Leads.go fine (revOut w0 _ _ below z v i _ Hc) rfl ⟨by simp; omega, rfl, h⟩

theorem rev_ret {w0 : World} {H : AH} {v : AV} {xs : List Int} (h : Lst H v 3 (xs.map kI)) (hsm : xs.length ≤ 1000000) : Ret P w0 58 [v] H (LN H v) fun r H' => r = .tuple [] ∧ LStep H v H' xs.reverse := Ret.mk fun below hp => by
  refine Leads.wf fun hw => ?_
  refine Leads.go fine (rev0 w0 _ _ below xs.length v H) (by kernel_rfl) ⟨by have := h.slr.aLen (P := P) et34.und; simpa using this, ?_⟩
  rw [show IntKind.wrap .i64 ((xs.length : Int) - 1) = (xs.length : Int) - 1 - (0 : Nat) by rw [wrapI (by omega) (by omega)]; omega]
  exact Leads.at (rHead v (0 : Nat) ((xs.length : Int) - 1 - (0 : Nat))) (by kernel_rfl) (rev_loop hw hp hsm xs.length 0 xs H (by omega) (by omega) ⟨h, Kept.refl _ _, fun m hm => hm⟩ rfl fun p hp => by rw [if_neg (by omega)])
end Go.Dm
/- dom.walk: places, and those that lead to each. -/
set_option linter.unusedVariables false
namespace Go.Dm
open Go Go.Sx Go.Sy Go.RowKit Go.Proofs.DomP

noncomputable def wP : AFr := hd P 36 [.r, .r, .r, .r, .r, .r, .l, .r, .i]

noncomputable def wO : AFr := hd P 36 [.r, .r, .r, .r, .r, .r, .r, .r, .i]

noncomputable def wI : AFr := hd P 36 [.r, .r, .r, .r, .r, .r, .r, .r, .i, .i, .r, .r, .l, .i, .r, .r, .i]

set_option maxRecDepth 100000 in
theorem walk0 (w0 : World) (K : AM → Prop) (Kr : AV → AH → Prop) (below : List AFr) (d len : Nat) (H H5 : AH) (W1 : Nat → Prop) (W2 : AV → AH → Nat → Prop) (Q1 : AV → AH → Prop) (Q2 : AV → AH → AH → Prop) : (trun P w0 36 K Kr 200 0 [] ⟨frOf P 36 [.ptr d 0], below, H⟩ (.v (.func 57 [] [.ptr (H.nx + 2) 0, .ptr H.nx 0, .ptr (H.nx + 3) 0]) (.hp H5 (.call AV W1 (fun _ => .tuple []) Q1 (fun vo H1 => .v (.ptr d 0) (.v vo (.call Unit (W2 vo H1) (fun _ => .tuple []) (fun _ => Q2 vo H1) (fun _ H2 => .v (.ptr d 0) (.v vo (.ln len .stop)))))))))) = (True ∧ True ∧ True ∧ AV.single (AV.map (AH.nx H + 1)) = true ∧ StOk (AH.new (AH.new (AH.new H (AObj.row [AV.ptr d 0] 24 true (St.own none))) (AObj.map [] 0)) (AObj.row [AV.nmap] 72 true (St.own none))) (AH.nx H + 1 + 1) 0 1 ∧ apartOk (AH.new (AH.new (AH.new H (AObj.row [AV.ptr d 0] 24 true (St.own none))) (AObj.map [] 0)) (AObj.row [AV.nmap] 72 true (St.own none))) (stackPend below) ((AH.nx H + 1 + 1) :: stOld (AH.new (AH.new (AH.new H (AObj.row [AV.ptr d 0] 24 true (St.own none))) (AObj.map [] 0)) (AObj.row [AV.nmap] 72 true (St.own none))) (AH.nx H + 1 + 1)) = true ∧ True ∧ AV.single (AV.func 57 [] [AV.ptr (AH.nx H + 1 + 1) 0, AV.ptr (AH.nx H) 0, AV.ptr (AH.nx (stO (AH.new (AH.new (AH.new H (AObj.row [AV.ptr d 0] 24 true (St.own none))) (AObj.map [] 0)) (AObj.row [AV.nmap] 72 true (St.own none))) (AH.nx H + 1 + 1) 0 [AV.map (AH.nx H + 1)])) 0]) = true ∧ StOk (AH.new (stO (AH.new (AH.new (AH.new H (AObj.row [AV.ptr d 0] 24 true (St.own none))) (AObj.map [] 0)) (AObj.row [AV.nmap] 72 true (St.own none))) (AH.nx H + 1 + 1) 0 [AV.map (AH.nx H + 1)]) (AObj.row [AV.nfunc] 66 true (St.own none))) (AH.nx (stO (AH.new (AH.new (AH.new H (AObj.row [AV.ptr d 0] 24 true (St.own none))) (AObj.map [] 0)) (AObj.row [AV.nmap] 72 true (St.own none))) (AH.nx H + 1 + 1) 0 [AV.map (AH.nx H + 1)])) 0 1 ∧ apartOk (AH.new (stO (AH.new (AH.new (AH.new H (AObj.row [AV.ptr d 0] 24 true (St.own none))) (AObj.map [] 0)) (AObj.row [AV.nmap] 72 true (St.own none))) (AH.nx H + 1 + 1) 0 [AV.map (AH.nx H + 1)]) (AObj.row [AV.nfunc] 66 true (St.own none))) (stackPend below) (AH.nx (stO (AH.new (AH.new (AH.new H (AObj.row [AV.ptr d 0] 24 true (St.own none))) (AObj.map [] 0)) (AObj.row [AV.nmap] 72 true (St.own none))) (AH.nx H + 1 + 1) 0 [AV.map (AH.nx H + 1)]) :: stOld (AH.new (stO (AH.new (AH.new (AH.new H (AObj.row [AV.ptr d 0] 24 true (St.own none))) (AObj.map [] 0)) (AObj.row [AV.nmap] 72 true (St.own none))) (AH.nx H + 1 + 1) 0 [AV.map (AH.nx H + 1)]) (AObj.row [AV.nfunc] 66 true (St.own none))) (AH.nx (stO (AH.new (AH.new (AH.new H (AObj.row [AV.ptr d 0] 24 true (St.own none))) (AObj.map [] 0)) (AObj.row [AV.nmap] 72 true (St.own none))) (AH.nx H + 1 + 1) 0 [AV.map (AH.nx H + 1)]))) = true ∧ rdAt (stO (AH.new (stO (AH.new (AH.new (AH.new H (AObj.row [AV.ptr d 0] 24 true (St.own none))) (AObj.map [] 0)) (AObj.row [AV.nmap] 72 true (St.own none))) (AH.nx H + 1 + 1) 0 [AV.map (AH.nx H + 1)]) (AObj.row [AV.nfunc] 66 true (St.own none))) (AH.nx (stO (AH.new (AH.new (AH.new H (AObj.row [AV.ptr d 0] 24 true (St.own none))) (AObj.map [] 0)) (AObj.row [AV.nmap] 72 true (St.own none))) (AH.nx H + 1 + 1) 0 [AV.map (AH.nx H + 1)])) 0 [AV.func 57 [] [AV.ptr (AH.nx H + 1 + 1) 0, AV.ptr (AH.nx H) 0, AV.ptr (AH.nx (stO (AH.new (AH.new (AH.new H (AObj.row [AV.ptr d 0] 24 true (St.own none))) (AObj.map [] 0)) (AObj.row [AV.nmap] 72 true (St.own none))) (AH.nx H + 1 + 1) 0 [AV.map (AH.nx H + 1)])) 0]]) (AH.nx (stO (AH.new (AH.new (AH.new H (AObj.row [AV.ptr d 0] 24 true (St.own none))) (AObj.map [] 0)) (AObj.row [AV.nmap] 72 true (St.own none))) (AH.nx H + 1 + 1) 0 [AV.map (AH.nx H + 1)])) 0 = some (AV.func 57 [] [AV.ptr (AH.nx H + 2) 0, AV.ptr (AH.nx H) 0, AV.ptr (AH.nx H + 3) 0]) ∧ HSame (stO (AH.new (stO (AH.new (AH.new (AH.new H (AObj.row [AV.ptr d 0] 24 true (St.own none))) (AObj.map [] 0)) (AObj.row [AV.nmap] 72 true (St.own none))) (AH.nx H + 1 + 1) 0 [AV.map (AH.nx H + 1)]) (AObj.row [AV.nfunc] 66 true (St.own none))) (AH.nx (stO (AH.new (AH.new (AH.new H (AObj.row [AV.ptr d 0] 24 true (St.own none))) (AObj.map [] 0)) (AObj.row [AV.nmap] 72 true (St.own none))) (AH.nx H + 1 + 1) 0 [AV.map (AH.nx H + 1)])) 0 [AV.func 57 [] [AV.ptr (AH.nx H + 1 + 1) 0, AV.ptr (AH.nx H) 0, AV.ptr (AH.nx (stO (AH.new (AH.new (AH.new H (AObj.row [AV.ptr d 0] 24 true (St.own none))) (AObj.map [] 0)) (AObj.row [AV.nmap] 72 true (St.own none))) (AH.nx H + 1 + 1) 0 [AV.map (AH.nx H + 1)])) 0]]) H5 ∧ True ∧ (Ret P w0 57 [AV.int IntKind.i64 (0 : Int), AV.ptr (AH.nx H + 2) 0, AV.ptr (AH.nx H) 0, AV.ptr (AH.nx H + 3) 0] H5 W1 fun (v : AV) (H' : AH) ↦ ∃ (x : AV), v = AV.tuple [] ∧ Q1 x H') ∧ Pok H5 W1 (stackPend below) ∧ ∀ (x : AV) (H' : AH), Q1 x H' → rdAt H' (AH.nx H) 0 = some (AV.ptr d 0) ∧ rdAt H' d 2 = some x ∧ True ∧ (Ret P w0 58 [x] H' (W2 x H') fun (v : AV) (H'_1 : AH) ↦ ∃ (x_1 : Unit), v = AV.tuple [] ∧ Q2 x H' H'_1) ∧ Pok H' (W2 x H') (stackPend below) ∧ ∀ (x_1 : Unit) (H'_1 : AH), Q2 x H' H'_1 → rdAt H'_1 (AH.nx H) 0 = some (AV.ptr d 0) ∧ rdAt H'_1 d 2 = some x ∧ aLen P H'_1 34 x = some (AV.int IntKind.i64 (↑len : Int), []) ∧ K (AM.mk (w wP (tl [AV.ptr d 0, AV.ptr (AH.nx H) 0, AV.ptr (AH.nx H + 1 + 1) 0, AV.ptr (AH.nx (stO (AH.new (AH.new (AH.new H (AObj.row [AV.ptr d 0] 24 true (St.own none))) (AObj.map [] 0)) (AObj.row [AV.nmap] 72 true (St.own none))) (AH.nx H + 1 + 1) 0 [AV.map (AH.nx H + 1)])) 0, AV.tuple [], AV.tuple [], AV.tuple [], AV.tuple [], AV.tuple [], AV.tuple [], AV.map (AH.nx H + 1), AV.func 57 [] [AV.ptr (AH.nx H + 1 + 1) 0, AV.ptr (AH.nx H) 0, AV.ptr (AH.nx (stO (AH.new (AH.new (AH.new H (AObj.row [AV.ptr d 0] 24 true (St.own none))) (AObj.map [] 0)) (AObj.row [AV.nmap] 72 true (St.own none))) (AH.nx H + 1 + 1) 0 [AV.map (AH.nx H + 1)])) 0], AV.func 57 [] [AV.ptr (AH.nx H + 2) 0, AV.ptr (AH.nx H) 0, AV.ptr (AH.nx H + 3) 0], AV.tuple [], AV.ptr d 0, AV.ptr d 0, AV.ptr d 2, x, AV.tuple [], AV.ptr d 0, AV.ptr d 0, AV.ptr d 2, x, AV.int IntKind.i64 (↑len : Int), AV.int IntKind.i64 (0 : Int), AV.tuple [], AV.tuple [], AV.tuple [], AV.tuple [], AV.tuple [], AV.tuple [], AV.tuple [], AV.tuple [], AV.tuple [], AV.tuple [], AV.tuple [], AV.tuple [], AV.tuple [], AV.tuple [], AV.tuple [], AV.tuple [], AV.tuple [], AV.tuple [], AV.tuple [], AV.tuple [], AV.tuple [], AV.tuple [], AV.tuple [], AV.tuple [], AV.tuple [], AV.tuple [], AV.tuple [], AV.tuple [], AV.tuple [], AV.tuple [], AV.tuple [], AV.tuple [], AV.tuple [], AV.tuple [], AV.tuple [], AV.tuple [], AV.tuple [], AV.tuple [], AV.tuple [], AV.tuple [], AV.tuple [], AV.tuple [], AV.tuple [], AV.tuple [], AV.tuple [], AV.tuple [], AV.tuple [], AV.tuple [], AV.tuple [], AV.tuple []])) below H'_1)) := by kernel_rfl

theorem walkP (w0 : World) (K : AM → Prop) (Kr : AV → AH → Prop) (below : List AFr) (z : Nat → AV) (bd d pm n off len : Nat) (vo : AV) (i x : Int) (H : AH) : (trun P w0 36 K Kr 200 0 [] ⟨w wP (setL (tz 75 z) [(1, .ptr bd 0), (22, vo), (23, .int .i64 len), (24, .int .i64 i)]), below, H⟩ (.tt (.bs n off (.v (.int .i64 x) (.v (.ptr d 0) (.v (.map pm) .stop)))))) = (decide (i < (↑len : Int)) = true ∧ SlAt vo n off i ∧ rdAt H n (off + Int.toNat i * 1) = some (AV.int IntKind.i64 x) ∧ rdAt H bd 0 = some (AV.ptr d 0) ∧ rdAt H d 3 = some (AV.map pm) ∧ MsOk P H pm 3 (AV.int IntKind.i64 x) ∧ apartOk H (stackPend below) [pm] = true ∧ K (AM.mk (w wP (tl [z 0, AV.ptr bd 0, z 2, z 3, AV.int IntKind.i64 i, AV.int IntKind.i64 x, z 6, z 7, z 8, z 9, z 10, z 11, z 12, z 13, z 14, z 15, z 16, z 17, z 18, z 19, z 20, z 21, vo, AV.int IntKind.i64 (↑len : Int), AV.int IntKind.i64 (IntKind.wrap IntKind.i64 (i + (1 : Int))), AV.bool true, AV.int IntKind.i64 i, AV.ptr n (off + Int.toNat i * 1), AV.int IntKind.i64 x, AV.ptr d 0, AV.ptr d 0, AV.ptr d 3, AV.map pm, AV.int IntKind.i64 x, AV.int IntKind.i64 i, AV.int IntKind.i64 (IntKind.wrap IntKind.i64 (i + (1 : Int))), z 36, z 37, z 38, z 39, z 40, z 41, z 42, z 43, z 44, z 45, z 46, z 47, z 48, z 49, z 50, z 51, z 52, z 53, z 54, z 55, z 56, z 57, z 58, z 59, z 60, z 61, z 62, z 63, z 64, z 65, z 66, z 67, z 68, z 69, z 70, z 71, z 72, z 73, z 74])) below (mset P H pm 3 (AV.int IntKind.i64 x) (AV.int IntKind.i64 i)))) := by kernel_rfl

theorem walkPo (w0 : World) (K : AM → Prop) (Kr : AV → AH → Prop) (below : List AFr) (z : Nat → AV) (bd d len : Nat) (vo : AV) (i : Int) (H : AH) : (trun P w0 36 K Kr 200 0 [] ⟨w wP (setL (tz 75 z) [(1, .ptr bd 0), (22, vo), (23, .int .i64 len), (24, .int .i64 i)]), below, H⟩ (.ff (.v (.ptr d 0) (.v vo (.ln len .stop))))) = (decide (i < (↑len : Int)) = false ∧ rdAt H bd 0 = some (AV.ptr d 0) ∧ rdAt H d 2 = some vo ∧ aLen P H 34 vo = some (AV.int IntKind.i64 (↑len : Int), []) ∧ K (AM.mk (w wO (tl [z 0, AV.ptr bd 0, z 2, z 3, z 4, z 5, z 6, z 7, z 8, z 9, z 10, z 11, z 12, z 13, z 14, z 15, z 16, z 17, z 18, z 19, z 20, z 21, vo, AV.int IntKind.i64 (↑len : Int), AV.int IntKind.i64 i, AV.bool false, z 26, z 27, z 28, z 29, z 30, z 31, z 32, z 33, z 34, z 35, AV.ptr d 0, AV.ptr d 0, AV.ptr d 2, vo, AV.int IntKind.i64 (↑len : Int), AV.int IntKind.i64 (0 : Int), z 42, z 43, z 44, z 45, z 46, z 47, z 48, z 49, z 50, z 51, z 52, z 53, z 54, z 55, z 56, z 57, z 58, z 59, z 60, z 61, z 62, z 63, z 64, z 65, z 66, z 67, z 68, z 69, z 70, z 71, z 72, z 73, z 74])) below H)) := by kernel_rfl

theorem walkO (w0 : World) (K : AM → Prop) (Kr : AV → AH → Prop) (below : List AFr) (z : Nat → AV) (bd d n off len gn goff hl : Nat) (vo vg hv : AV) (i x : Int) (H : AH) : (trun P w0 36 K Kr 200 0 [] ⟨w wO (setL (tz 75 z) [(1, .ptr bd 0), (39, vo), (40, .int .i64 len), (41, .int .i64 i)]), below, H⟩ (.tt (.bs n off (.v (.int .i64 x) (.v (.ptr d 0) (.v vg (.bs gn goff (.v hv (.ln hl .stop))))))))) = (decide (i < (↑len : Int)) = true ∧ SlAt vo n off i ∧ rdAt H n (off + Int.toNat i * 1) = some (AV.int IntKind.i64 x) ∧ rdAt H bd 0 = some (AV.ptr d 0) ∧ rdAt H d 0 = some vg ∧ SlAt vg gn goff x ∧ rdAt H gn (goff + Int.toNat x * 1) = some hv ∧ aLen P H 34 hv = some (AV.int IntKind.i64 (↑hl : Int), []) ∧ K (AM.mk (w wI (tl [z 0, AV.ptr bd 0, z 2, z 3, z 4, z 5, z 6, AV.int IntKind.i64 x, z 8, z 9, z 10, z 11, z 12, z 13, z 14, z 15, z 16, z 17, z 18, z 19, z 20, z 21, z 22, z 23, z 24, z 25, z 26, z 27, z 28, z 29, z 30, z 31, z 32, z 33, z 34, z 35, z 36, z 37, z 38, vo, AV.int IntKind.i64 (↑len : Int), AV.int IntKind.i64 i, AV.bool true, AV.ptr n (off + Int.toNat i * 1), AV.int IntKind.i64 x, AV.ptr d 0, AV.ptr d 0, AV.ptr d 0, vg, AV.int IntKind.i64 x, AV.ptr gn (goff + Int.toNat x * 1), hv, AV.int IntKind.i64 (↑hl : Int), AV.int IntKind.i64 (0 : Int), z 54, z 55, z 56, z 57, z 58, z 59, z 60, z 61, z 62, z 63, z 64, z 65, z 66, z 67, z 68, z 69, z 70, z 71, z 72, z 73, z 74])) below H)) := by kernel_rfl

theorem walkOo (w0 : World) (K : AM → Prop) (Kr : AV → AH → Prop) (below : List AFr) (z : Nat → AV) (bd len : Nat) (vo : AV) (i : Int) (H : AH) : (trun P w0 36 K Kr 200 0 [] ⟨w wO (setL (tz 75 z) [(1, .ptr bd 0), (39, vo), (40, .int .i64 len), (41, .int .i64 i)]), below, H⟩ (.ff .stop)) = (decide (i < (↑len : Int)) = false ∧ Kr (AV.tuple []) H) := by kernel_rfl

theorem walkI (w0 : World) (K : AM → Prop) (Kr : AV → AH → Prop) (below : List AFr) (z : Nat → AV) (bd d len pn np hl hn hoff : Nat) (vo hv ph v' : AV) (i j x t : Int) (H H' : AH) (ns : List Nat) : (trun P w0 36 K Kr 200 0 [] ⟨w wI (setL (tz 75 z) [(1, .ptr bd 0), (7, .int .i64 x), (39, vo), (40, .int .i64 len), (41, .int .i64 i), (51, hv), (52, .int .i64 hl), (53, .int .i64 j)]), below, H⟩ (.tt (.bs hn hoff (.v (.int .i64 t) (.v (.ptr d 0) (.v (.slice pn 0 np np) (.v (.ptr d 0) (.v (.slice pn 0 np np) (.v ph (.r (.val v', H', ns) .stop)))))))))) = (decide (j < (↑hl : Int)) = true ∧ SlAt hv hn hoff j ∧ rdAt H hn (hoff + Int.toNat j * 1) = some (AV.int IntKind.i64 t) ∧ rdAt H bd 0 = some (AV.ptr d 0) ∧ rdAt H d 1 = some (AV.slice pn 0 np np) ∧ rdAt H bd 0 = some (AV.ptr d 0) ∧ rdAt H d 1 = some (AV.slice pn 0 np np) ∧ ((0 : Int) ≤ t ∧ t < (↑np : Int)) ∧ rdAt H pn (0 + Int.toNat t * 1) = some ph ∧ True ∧ aAppend P (AH.new H (AObj.row [AV.int IntKind.i64 x] 3 true (St.own none))) [34, 34] [ph, AV.slice (AH.nx H) 0 1 1] = some [(AN.val v', H', ns)] ∧ apartOk (AH.new H (AObj.row [AV.int IntKind.i64 x] 3 true (St.own none))) (d :: bd :: stackPend below) ns = true ∧ ((0 : Int) ≤ t ∧ t < (↑np : Int)) ∧ AV.single v' = true ∧ StOk H' pn (0 + Int.toNat t * 1) 1 ∧ apartOk H' (stackPend below) (pn :: stOld H' pn) = true ∧ K (AM.mk (w wI (tl [z 0, AV.ptr bd 0, z 2, z 3, z 4, z 5, z 6, AV.int IntKind.i64 x, z 8, AV.int IntKind.i64 t, z 10, z 11, z 12, z 13, z 14, z 15, z 16, z 17, z 18, z 19, z 20, z 21, z 22, z 23, z 24, z 25, z 26, z 27, z 28, z 29, z 30, z 31, z 32, z 33, z 34, z 35, z 36, z 37, z 38, vo, AV.int IntKind.i64 (↑len : Int), AV.int IntKind.i64 i, z 42, z 43, z 44, z 45, z 46, z 47, z 48, z 49, z 50, hv, AV.int IntKind.i64 (↑hl : Int), AV.int IntKind.i64 (IntKind.wrap IntKind.i64 (j + (1 : Int))), AV.bool true, AV.ptr hn (hoff + Int.toNat j * 1), AV.int IntKind.i64 t, AV.ptr d 0, AV.ptr d 0, AV.ptr d 1, AV.slice pn 0 np np, AV.int IntKind.i64 t, AV.ptr d 0, AV.ptr d 0, AV.ptr d 1, AV.slice pn 0 np np, AV.int IntKind.i64 t, AV.ptr pn (0 + Int.toNat t * 1), ph, AV.int IntKind.i64 x, AV.slice (AH.nx H) 0 1 1, v', AV.ptr pn (0 + Int.toNat t * 1), AV.int IntKind.i64 (IntKind.wrap IntKind.i64 (j + (1 : Int))), z 74])) below (stO H' pn (0 + Int.toNat t * 1) [v']))) := by kernel_rfl

theorem walkIo (w0 : World) (K : AM → Prop) (Kr : AV → AH → Prop) (below : List AFr) (z : Nat → AV) (bd len hl : Nat) (vo hv : AV) (i j x : Int) (H : AH) : (trun P w0 36 K Kr 200 0 [] ⟨w wI (setL (tz 75 z) [(1, .ptr bd 0), (7, .int .i64 x), (39, vo), (40, .int .i64 len), (41, .int .i64 i), (51, hv), (52, .int .i64 hl), (53, .int .i64 j)]), below, H⟩ (.ff .stop)) = (decide (j < (↑hl : Int)) = false ∧ K (AM.mk (w wO (tl [z 0, AV.ptr bd 0, z 2, z 3, z 4, z 5, z 6, AV.int IntKind.i64 x, z 8, z 9, z 10, z 11, z 12, z 13, z 14, z 15, z 16, z 17, z 18, z 19, z 20, z 21, z 22, z 23, z 24, z 25, z 26, z 27, z 28, z 29, z 30, z 31, z 32, z 33, z 34, z 35, z 36, z 37, z 38, vo, AV.int IntKind.i64 (↑len : Int), AV.int IntKind.i64 (IntKind.wrap IntKind.i64 (i + (1 : Int))), z 42, z 43, z 44, z 45, z 46, z 47, z 48, z 49, z 50, hv, AV.int IntKind.i64 (↑hl : Int), AV.int IntKind.i64 j, AV.bool false, z 55, z 56, z 57, z 58, z 59, z 60, z 61, z 62, z 63, z 64, z 65, z 66, z 67, z 68, z 69, z 70, z 71, z 72, z 73, AV.int IntKind.i64 (IntKind.wrap IntKind.i64 (i + (1 : Int)))])) below H)) := by kernel_rfl

theorem _root_.Go.Sy.Wf.same {H H' : AH} (h : HSame H H') (hw : Wf H) : Wf H' := fun n o ho => by rw [h.get] at ho; rw [h.nx]; exact hw n o ho

theorem _root_.Go.Sy.Pok.same {H H' : AH} {W : Nat → Prop} {pend : List Nat} (h : HSame H H') (hp : Pok H W pend) : Pok H' W pend := fun p hq => ⟨by rw [h.get]; exact (hp p hq).1, (hp p hq).2⟩

/-- Where each stands in an order. -/
def placeF : List Int → Nat → (Int → Option Int) → (Int → Option Int)
  | [], _, f => f
  | x :: r, i, f => placeF r (i + 1) (fun j => if j = x then some (i : Int) else f j)

/-- Those that lead to each, along the order. -/
def predsIn (n : Int) : List Int → List (List Int) → List (List Int)
  | [], p => p
  | t :: r, p => predsIn n r (p.set t.toNat (p.getD t.toNat [] ++ [n]))

def predsAll (g : List (List Int)) : List Int → List (List Int) → List (List Int)
  | [], p => p
  | n :: r, p => predsAll g r (predsIn n (g.getD n.toNat []) p)

/-- Lists, each of its own, in one row. -/
structure Preds (H : AH) (pn : Nat) (pss : List (List Int)) (ps : List AV) : Prop where
  row : H.get pn = some (.row ps 34 true (.own none))
  len : ps.length = pss.length
  each : ∀ (i : Nat) (h : AV) (l : List Int), ps[i]? = some h → pss[i]? = some l → Lst H h 3 (l.map kI)
  sep : ∀ (i j : Nat) (h h' : AV), ps[i]? = some h → ps[j]? = some h' → i ≠ j → ∀ m, LN H h m → ¬ LN H h' m
  self : ∀ (i : Nat) (h : AV), ps[i]? = some h → ¬ LN H h pn

def PN (H : AH) (pn : Nat) (ps : List AV) : Nat → Prop := fun m => m = pn ∨ ∃ (i : Nat) (h : AV), ps[i]? = some h ∧ LN H h m

theorem Preds.ln_lt {H : AH} {pn : Nat} {pss : List (List Int)} {ps : List AV} (h : Preds H pn pss ps) (hw : Wf H) {i : Nat} {y : AV} (hy : ps[i]? = some y) {m : Nat} (hm : LN H y m) : m < H.nx := by
  cases hq : pss[i]? with
  | none => exfalso; have := (List.getElem?_eq_some_iff.1 hy).1; rw [List.getElem?_eq_none_iff] at hq; rw [h.len] at this; omega
  | some q => exact (h.each i y q hy hq).lt hw hm

theorem Preds.pn_lt {H : AH} {pn : Nat} {pss : List (List Int)} {ps : List AV} (h : Preds H pn pss ps) (hw : Wf H) {m : Nat} (hm : PN H pn ps m) : m < H.nx := by
  rcases hm with rfl | ⟨i, y, hy, hm⟩
  · exact hw _ _ h.row
  · exact h.ln_lt hw hy hm

theorem LN_same {H H' : AH} {v : AV} (g : ∀ n off, slBase v = some (n, off) → H'.get n = H.get n) (m : Nat) : LN H' v m ↔ LN H v m := by
  cases hb : slBase v with
  | none => unfold LN; rw [hb]; simp
  | some x => exact LN_congr hb (g x.1 x.2 hb) m

theorem Preds.kept {H H' : AH} {pn : Nat} {pss : List (List Int)} {ps : List AV} (h : Preds H pn pss ps) (g : ∀ m, PN H pn ps m → H'.get m = H.get m) : Preds H' pn pss ps ∧ ∀ m, PN H' pn ps m ↔ PN H pn ps m := by
  have hg : ∀ (i : Nat) (x : AV), ps[i]? = some x → ∀ n off, slBase x = some (n, off) → H'.get n = H.get n := fun i x hx n off hb => g n (.inr ⟨i, x, hx, n, off, hb, .inl rfl⟩)
  have hl : ∀ (i : Nat) (x : AV), ps[i]? = some x → ∀ m, LN H' x m ↔ LN H x m := fun i x hx => LN_same (hg i x hx)
  refine ⟨⟨by rw [g pn (.inl rfl)]; exact h.row, h.len, fun i x l h1 h2 => (h.each i x l h1 h2).congr (hg i x h1), fun i j x y h1 h2 hne m hm hm' => h.sep i j x y h1 h2 hne m ((hl i x h1 m).1 hm) ((hl j y h2 m).1 hm'), fun i x hx hm => h.self i x hx ((hl i x hx pn).1 hm)⟩, fun m => ?_⟩
  unfold PN
  constructor
  · rintro (hm | ⟨i, x, hx, hm⟩)
    · exact .inl hm
    · exact .inr ⟨i, x, hx, (hl i x hx m).1 hm⟩
  · rintro (hm | ⟨i, x, hx, hm⟩)
    · exact .inl hm
    · exact .inr ⟨i, x, hx, (hl i x hx m).2 hm⟩

/-- One more that leads to t. -/
theorem Preds.put {H : AH} {pn : Nat} {pss : List (List Int)} {ps : List AV} (hw : Wf H) (h : Preds H pn pss ps) {t : Nat} {ph : AV} {l : List Int} (ht : ps[t]? = some ph) (htl : pss[t]? = some l) (x : Int) (hlen : l.length + 1 ≤ 100000000) :
    ∃ v' H' ns, aAppend P (H.new (.row [.int .i64 x] 3 true (.own none))) [34, 34] [ph, .slice H.nx 0 1 1] = some [(.val v', H', ns)] ∧ AV.single v' = true ∧ StOk H' pn t 1 ∧
      Preds (stO H' pn t [v']) pn (pss.set t (l ++ [x])) (ps.set t v') ∧ Kept (PN H pn ps) H (stO H' pn t [v']) ∧ (∀ m, PN (stO H' pn t [v']) pn (ps.set t v') m → PN H pn ps m ∨ H.nx ≤ m) ∧
      (∀ pend, Pok H (PN H pn ps) pend → AOk (H.new (.row [.int .i64 x] 3 true (.own none))) pend ns ∧ AOk H' pend (pn :: stOld H' pn)) := by
  have hpn := hw pn _ h.row
  let Hb := H.new (.row [.int .i64 x] 3 true (.own none))
  have hbget : ∀ m, m < H.nx → Hb.get m = H.get m := fun m hm => by show (H.new _).get m = _; rw [get_new, if_neg (by omega)]
  have hL := h.each t ph l ht htl
  have hl0 : Lst Hb ph 3 (l.map kI) := hL.congr fun m off hb => hbget m (hL.slr.lt hw hb)
  have hln : ∀ m, LN Hb ph m ↔ LN H ph m := LN_same fun n off hb => hbget n (hL.slr.lt hw hb)
  obtain ⟨v', H', ns, h1, h2, h3, h4, h5⟩ := hl0.append et34 (t2 := 34) (by kernel_rfl) et34.made (hw.new _) (x := .slice H.nx 0 1 1) (new := [.int .i64 x]) rfl
    (by show aFirst (H.new _) 1 1 (.slice H.nx 0 1 1) = _; simp [aFirst, get_new]) rfl (by simpa using hlen)
  have hnx : H.nx + 1 ≤ H'.nx := h3.nx
  have hkept : ∀ m, m < H.nx → ¬ LN H ph m → H'.get m = H.get m := fun m hm hx => by
    rw [h3.get m (Nat.lt_succ_of_lt hm) (fun x => hx ((hln m).1 x)), hbget m hm]
  have hr : H'.get pn = some (.row ps 34 true (.own none)) := by rw [hkept pn hpn (h.self t ph ht)]; exact h.row
  have hlt : t < ps.length := (List.getElem?_eq_some_iff.1 ht).1
  have hst : stO H' pn t [v'] = H'.put pn (.row (ps.set t v') 34 true (.own none)) := by
    rw [stO_eq hr, setAt_one _ _ _ hlt]; rfl
  have hln' : ∀ m, LN H' v' m → LN H ph m ∨ H.nx ≤ m := fun m hm => by
    rcases h4 m hm with h | h
    · exact .inl ((hln m).1 h)
    · have : H.nx + 1 ≤ m := h; exact .inr (by omega)
  have hvp : ∀ m, LN H' v' m → m ≠ pn := fun m hm e => by
    subst e
    rcases hln' m hm with h' | h'
    · exact h.self t ph ht h'
    · omega
  have hlnv : ∀ m, LN (stO H' pn t [v']) v' m ↔ LN H' v' m := LN_same fun n off hb => by rw [hst, get_put, if_neg (hvp n ⟨n, off, hb, .inl rfl⟩)]
  -- the others
  have hoth : ∀ (i : Nat) (y : AV), ps[i]? = some y → i ≠ t → ∀ n off, slBase y = some (n, off) → (stO H' pn t [v']).get n = H.get n := fun i y hy hne n off hb => by
    have hyn : LN H y n := ⟨n, off, hb, .inl rfl⟩
    have hne2 : n ≠ pn := fun e => h.self i y hy (by rw [← e]; exact hyn)
    rw [hst, get_put, if_neg hne2]
    refine hkept n ?_ fun hx => h.sep i t y ph hy ht hne n hyn hx
    cases hq : pss[i]? with
    | none => exfalso; have := (List.getElem?_eq_some_iff.1 hy).1; rw [List.getElem?_eq_none_iff] at hq; rw [h.len] at this; omega
    | some q => exact (h.each i y q hy hq).slr.lt hw hb
  have hlno : ∀ (i : Nat) (y : AV), ps[i]? = some y → i ≠ t → ∀ m, LN (stO H' pn t [v']) y m ↔ LN H y m := fun i y hy hne => LN_same (hoth i y hy hne)
  have hlnlt : ∀ (i : Nat) (y : AV), ps[i]? = some y → ∀ m, LN H y m → m < H.nx ∨ True := fun _ _ _ _ _ => .inr trivial
  refine ⟨v', H', ns, h1, h2.single, ⟨_, _, _, _, hr, by omega⟩, ?_, ?_, fun m hm => ?_, fun pend hp => ?_⟩
  · refine ⟨by rw [hst, get_put, if_pos rfl], by simp [h.len], fun i y q hy hq => ?_, fun i j y y' hy hy' hne m hm hm' => ?_, fun i y hy hm => ?_⟩
    · rw [List.getElem?_set] at hy hq
      by_cases hi : t = i
      · rw [if_pos hi] at hy hq
        subst hi
        rw [if_pos hlt] at hy
        rw [if_pos (by rw [← h.len]; exact hlt)] at hq
        injection hy with hy; injection hq with hq
        subst hy hq
        rw [List.map_append]
        exact h2.congr fun n off hb => by rw [hst, get_put, if_neg (hvp n ⟨n, off, hb, .inl rfl⟩)]
      · rw [if_neg hi] at hy hq
        exact (h.each i y q hy hq).congr (hoth i y hy fun e => hi e.symm)
    · rw [List.getElem?_set] at hy hy'
      by_cases hi : t = i
      · rw [if_pos hi] at hy
        subst hi
        rw [if_pos hlt] at hy
        injection hy with hy
        subst hy
        rw [if_neg hne] at hy'
        rcases hln' m ((hlnv m).1 hm) with h' | h'
        · exact h.sep t j ph y' ht hy' hne m h' ((hlno j y' hy' (fun e => hne e.symm) m).1 hm')
        · have hm2 := (hlno j y' hy' (fun e => hne e.symm) m).1 hm'
          exact absurd hm2 (fun hq => absurd (h.ln_lt hw hy' hq) (by omega))
      · rw [if_neg hi] at hy
        by_cases hj : t = j
        · rw [if_pos hj] at hy'
          subst hj
          rw [if_pos hlt] at hy'
          injection hy' with hy'
          subst hy'
          rcases hln' m ((hlnv m).1 hm') with h' | h'
          · exact h.sep i t y ph hy ht hne m ((hlno i y hy hne m).1 hm) h'
          · exact absurd ((hlno i y hy hne m).1 hm) (fun hq => absurd (h.ln_lt hw hy hq) (by omega))
        · rw [if_neg hj] at hy'
          exact h.sep i j y y' hy hy' hne m ((hlno i y hy (fun e => hi e.symm) m).1 hm) ((hlno j y' hy' (fun e => hj e.symm) m).1 hm')
    · rw [List.getElem?_set] at hy
      by_cases hi : t = i
      · rw [if_pos hi] at hy
        subst hi
        rw [if_pos hlt] at hy
        injection hy with hy
        subst hy
        exact hvp pn ((hlnv pn).1 hm) rfl
      · rw [if_neg hi] at hy
        exact h.self i y hy ((hlno i y hy (fun e => hi e.symm) pn).1 hm)
  · refine ⟨by rw [nx_stO]; omega, fun m hm hx => ?_⟩
    rw [hst, get_put, if_neg fun e => hx (.inl e)]
    exact hkept m hm fun hx' => hx (.inr ⟨t, ph, ht, hx'⟩)
  · rcases hm with hm | ⟨i, y, hy, hm⟩
    · exact .inl (.inl hm)
    · rw [List.getElem?_set] at hy
      by_cases hi : t = i
      · rw [if_pos hi] at hy
        subst hi
        rw [if_pos hlt] at hy
        injection hy with hy
        subst hy
        rcases hln' m ((hlnv m).1 hm) with h' | h'
        · exact .inl (.inr ⟨t, ph, ht, h'⟩)
        · exact .inr h'
      · rw [if_neg hi] at hy
        exact .inl (.inr ⟨i, y, hy, (hlno i y hy (fun e => hi e.symm) m).1 hm⟩)
  · have hpb : Pok Hb (PN H pn ps) pend := hp.mono hw (Kept.new _ _ _) fun m _ hx => hx
    refine ⟨h5 _ pend hpb fun m hm => .inl (.inr ⟨t, ph, ht, (hln m).1 hm⟩), ?_⟩
    rw [stOld_eq hr]
    exact AOk.one (hp.mono hw ⟨by omega, fun m hm hx => hkept m hm fun e => hx (.inr ⟨t, ph, ht, e⟩)⟩ fun m _ hx => hx) hr rfl rfl (.inl rfl)

section
variable {w0 : World} {S : Nat → Prop} {bd d pm pn np : Nat} {vg vo vi : AV} {g : List (List Int)} {hs : List AV} {order : List Int}

/-- What the two loops stand on. -/
structure WEnv (H : AH) (S : Nat → Prop) (bd d pm pn np : Nat) (vg vo vi : AV) (g : List (List Int)) (hs : List AV) (order : List Int) : Prop where
  hbd : rdAt H bd 0 = some (.ptr d 0)
  row : H.get d = some (.row [vg, .slice pn 0 np np, vo, .map pm, vi] 52 true (.own none))
  ord : Lst H vo 3 (order.map kI)
  mat : Mat H S vg g hs
  small : ∀ l ∈ g, l.length ≤ 1024
  good : Go.Proofs.DomP.Good g
  olen : order.length ≤ 1024
  orange : ∀ n ∈ order, 0 ≤ n ∧ n < (g.length : Int)
  npg : np = g.length

theorem WEnv.congr {H H' : AH} (E : WEnv H S bd d pm pn np vg vo vi g hs order) (h1 : H'.get bd = H.get bd) (h2 : H'.get d = H.get d) (h3 : ∀ n off, slBase vo = some (n, off) → H'.get n = H.get n) (h4 : ∀ m, S m → H'.get m = H.get m) : WEnv H' S bd d pm pn np vg vo vi g hs order :=
  ⟨by rw [rdAt_congr h1]; exact E.hbd, by rw [h2]; exact E.row, E.ord.congr h3, E.mat.congr h4, E.small, E.good, E.olen, E.orange, E.npg⟩

def pHead (bd : Nat) (vo : AV) (len : Nat) (i : Int) : List (Nat × AV) := [(1, .ptr bd 0), (22, vo), (23, .int .i64 len), (24, .int .i64 i)]

def oHead (bd : Nat) (vo : AV) (len : Nat) (i : Int) : List (Nat × AV) := [(1, .ptr bd 0), (39, vo), (40, .int .i64 len), (41, .int .i64 i)]

def iHead (bd : Nat) (vo : AV) (len : Nat) (i x : Int) (hv : AV) (hl : Nat) (j : Int) : List (Nat × AV) := [(1, .ptr bd 0), (7, .int .i64 x), (39, vo), (40, .int .i64 len), (41, .int .i64 i), (51, hv), (52, .int .i64 hl), (53, .int .i64 j)]

theorem drop_step {α : Type} {l r : List α} {t : α} {j : Nat} (h : l.drop j = t :: r) : j < l.length ∧ l[j]? = some t ∧ l.drop (j + 1) = r := by
  have hlt : j < l.length := by
    rcases Nat.lt_or_ge j l.length with h' | h'
    · exact h'
    · rw [List.drop_eq_nil_of_le h'] at h; cases h
  have := List.drop_eq_getElem_cons hlt
  rw [this] at h
  injection h with h1 h2
  exact ⟨hlt, by rw [List.getElem?_eq_getElem hlt, h1], h2⟩

theorem drop_end {α : Type} {l : List α} {j : Nat} (h : l.drop j = []) (hj : j ≤ l.length) : j = l.length := by
  have := congrArg List.length h
  simp at this
  omega

theorem wrap1 (n : Nat) (h : n < 4611686018427387904) : IntKind.wrap .i64 ((n : Int) + 1) = ((n + 1 : Nat) : Int) := by rw [wrapI (by omega) (by omega)]; rfl

/-- The places are laid. -/
theorem place_loop {K : AM → Prop} {Kr : AV → AH → Prop} {below : List AFr} {H2 : AH} (hK : K = RetK P 36 below Kr) (E : WEnv H2 S bd d pm pn np vg vo vi g hs order) (hbd : bd ≠ pm) (hd : d ≠ pm) (hvo : ∀ n off, slBase vo = some (n, off) → n ≠ pm) (hp : Pok H2 (fun m => m = pm) (stackPend below))
    (hend : ∀ H3, (∀ m, m ≠ pm → H3.get m = H2.get m) → H3.nx = H2.nx → MapF H3 pm kI kI (placeF order 0 fun _ => none) → ∀ z, Leads P w0 K ⟨w wO (setL (tz 75 z) (oHead bd vo order.length (0 : Nat))), below, H3⟩) :
    ∀ (r : List Int) (i : Nat) (Hc : AH) (f : Int → Option Int), order.drop i = r → i ≤ order.length → (∀ m, m ≠ pm → Hc.get m = H2.get m) → Hc.nx = H2.nx → MapF Hc pm kI kI f → placeF r i f = placeF order 0 (fun _ => none) →
      ∀ z, Leads P w0 K ⟨w wP (setL (tz 75 z) (pHead bd vo order.length i)), below, Hc⟩
  | [], i, Hc, f, hdr, hi, hg, hn, hf, hpl, z => by
    subst hK
    have hil := drop_end hdr hi
    refine Leads.go fine (walkPo w0 _ _ below z bd d order.length vo i Hc) rfl ⟨by simp [hil], (rdAt_congr (hg bd hbd) 0).trans E.hbd, by rw [rdAt_congr (hg d hd), rdAt_row E.row]; rfl, ?_, ?_⟩
    · have := (E.ord.congr (H' := Hc) fun n off hb => hg n (hvo n off hb)).slr.aLen (P := P) et34.und
      simpa using this
    · exact Leads.at (oHead bd vo order.length (0 : Nat)) (by kernel_rfl) (hend Hc hg hn (by rw [← hpl]; exact hf))
  | x :: r, i, Hc, f, hdr, hi, hg, hn, hf, hpl, z => by
    subst hK
    refine Leads.wf fun hw => ?_
    obtain ⟨hlt, hx, hdr'⟩ := drop_step hdr
    obtain ⟨a, off, hb, q1, q2⟩ := (E.ord.congr (H' := Hc) fun n off hb => hg n (hvo n off hb)).slr.int hx
    obtain ⟨es, c, hobj⟩ := hf.obj
    have hp' : Pok Hc (fun m => m = pm) (stackPend below) := fun p hq => ⟨by rw [hg p (hp p hq).2]; exact (hp p hq).1, (hp p hq).2⟩
    refine Leads.go fine (walkP w0 _ _ below z bd d pm a off order.length vo i x Hc) rfl ⟨by simpa using hlt, q1, by simpa using q2, (rdAt_congr (hg bd hbd) 0).trans E.hbd, by rw [rdAt_congr (hg d hd), rdAt_row E.row]; rfl, hf.ms (vf := kI) key3 x, AOk.one hp' hobj rfl rfl rfl, ?_⟩
    rw [wrap1 i (by have := E.olen; omega)]
    refine Leads.at (pHead bd vo order.length (i + 1 : Nat)) (by kernel_rfl) (place_loop rfl E hbd hd hvo hp hend r (i + 1) _ (fun j => if j = x then some (i : Int) else f j) hdr' hlt (fun m hm => ?_) ?_ ?_ hpl)
    · rw [get_mset _ _ _ _ _ _ hm]; exact hg m hm
    · rw [nx_mset]; exact hn
    · exact hf.set (vf := kI) key3 x (i : Int)

/-- What the second loop has done. -/
structure PStep (H : AH) (pn : Nat) (ps0 : List AV) (Hc : AH) (ps : List AV) : Prop where
  kept : Kept (PN H pn ps0) H Hc
  pn : ∀ m, PN Hc pn ps m → PN H pn ps0 m ∨ H.nx ≤ m

theorem preds_inner {K : AM → Prop} {Kr : AV → AH → Prop} {below : List AFr} {H3 : AH} {ps0 : List AV} (hK : K = RetK P 36 below Kr) (hw3 : Wf H3) (E : WEnv H3 S bd d pm pn np vg vo vi g hs order)
    (hs1 : ¬ PN H3 pn ps0 bd) (hs2 : ¬ PN H3 pn ps0 d) (hs4 : ∀ m, S m → m < H3.nx ∧ ¬ PN H3 pn ps0 m) (hp : Pok H3 (PN H3 pn ps0) (stackPend below))
    {i : Nat} {x : Int} {hv : AV} {row : List Int} (hr : SlR H3 hv (row.map kI)) (hrS : ∀ n off, slBase hv = some (n, off) → S n) (hrow : row ∈ g) (hi : i < order.length) {B : Nat} (hB : B ≤ 2000000) {fin : List (List Int)}
    (hend : ∀ Hc ps, Preds Hc pn fin ps → PStep H3 pn ps0 Hc ps → (∀ l ∈ fin, l.length ≤ B + 1024) → ∀ z, Leads P w0 K ⟨w wO (setL (tz 75 z) (oHead bd vo order.length (i + 1 : Nat))), below, Hc⟩) :
    ∀ (r : List Int) (j : Nat) (Hc : AH) (ps : List AV) (pss : List (List Int)), row.drop j = r → j ≤ row.length → Preds Hc pn pss ps → PStep H3 pn ps0 Hc ps → pss.length = np → (∀ l ∈ pss, l.length ≤ B + j) → predsIn x r pss = fin →
      ∀ z, Leads P w0 K ⟨w wI (setL (tz 75 z) (iHead bd vo order.length i x hv row.length j)), below, Hc⟩
  | [], j, Hc, ps, pss, hdr, hj, hps, hst, hnp, hl, hfin, z => by
    subst hK
    have hjl := drop_end hdr hj
    have hsm := E.small row hrow
    refine Leads.go fine (walkIo w0 _ _ below z bd order.length row.length vo hv i j x Hc) rfl ⟨by simp [hjl], ?_⟩
    rw [wrap1 i (by have := E.olen; omega)]
    have hfin : pss = fin := hfin
    exact Leads.at (oHead bd vo order.length (i + 1 : Nat)) (by kernel_rfl) (hend Hc ps (hfin ▸ hps) hst (hfin ▸ fun l hl' => by have := hl l hl'; omega))
  | t :: r, j, Hc, ps, pss, hdr, hj, hps, hst, hnp, hl, hfin, z => by
    subst hK
    refine Leads.wf fun hw => ?_
    obtain ⟨hlt, ht, hdr'⟩ := drop_step hdr
    have hsm := E.small row hrow
    have htr := E.good row hrow t (List.mem_of_getElem? ht)
    have hg : ∀ m, m < H3.nx → ¬ PN H3 pn ps0 m → Hc.get m = H3.get m := hst.kept.get
    have hbdl : bd < H3.nx := by
      have := E.hbd; exact rdAt_lt hw3 this
    have hdl := hw3 d _ E.row
    have E' : ∀ n off, slBase hv = some (n, off) → Hc.get n = H3.get n := fun n off hb => hg n (hs4 n (hrS n off hb)).1 (hs4 n (hrS n off hb)).2
    obtain ⟨a, off, hb, q1, q2⟩ := (hr.congr E').int ht
    have htn : t.toNat < ps.length := by rw [hps.len, hnp, E.npg]; omega
    have hph : ps[t.toNat]? = some ps[t.toNat] := List.getElem?_eq_getElem htn
    have htp : t.toNat < pss.length := by rw [← hps.len]; exact htn
    have hpl : pss[t.toNat]? = some pss[t.toNat] := List.getElem?_eq_getElem htp
    have hgd : pss.getD t.toNat [] = pss[t.toNat] := by rw [List.getD_eq_getElem?_getD, hpl]; rfl
    have hll := hl _ (List.mem_of_getElem? hpl)
    obtain ⟨v', H', ns, u1, u2, u3, u4, u5, u6, u7⟩ := hps.put hw hph hpl x (by omega)
    have hpc : Pok Hc (PN Hc pn ps) (stackPend below) := hp.mono hw3 hst.kept fun m hm hx => by
      rcases hst.pn m hx with h | h
      · exact h
      · omega
    have hcb : ∀ m, m < H3.nx → ¬ PN H3 pn ps0 m → ¬ PN Hc pn ps m := fun m hm hx hx' => by
      rcases hst.pn m hx' with h | h
      · exact hx h
      · omega
    have hpc2 : Pok Hc (PN Hc pn ps) (d :: bd :: stackPend below) := fun p hq => by
      rcases List.mem_cons.1 hq with rfl | hq
      · exact ⟨by rw [hg p hdl hs2, E.row]; rfl, hcb p hdl hs2⟩
      · rcases List.mem_cons.1 hq with rfl | hq
        · refine ⟨?_, hcb p hbdl hs1⟩
          rw [hg p hbdl hs1]
          have := E.hbd
          unfold rdAt at this
          cases hgp : H3.get p with
          | none => rw [hgp] at this; cases this
          | some o => rfl
        · exact hpc p hq
    have hbd' : rdAt Hc bd 0 = some (.ptr d 0) := (rdAt_congr (hg bd hbdl hs1) 0).trans E.hbd
    have hd1 : rdAt Hc d 1 = some (.slice pn 0 np np) := by rw [rdAt_congr (hg d hdl hs2), rdAt_row E.row]; rfl
    have etn : (0 + t.toNat * 1) = t.toNat := by omega
    refine Leads.go fine (walkI w0 _ _ below z bd d order.length pn np row.length a off vo hv ps[t.toNat] v' i j x t Hc H' ns) rfl
      ⟨by simpa using hlt, q1, by simpa using q2, hbd', hd1, hbd', hd1, by rw [E.npg]; exact htr, by rw [etn, rdAt_row hps.row]; exact hph, trivial, u1, (u7 _ hpc2).1, by rw [E.npg]; exact htr, u2, by rw [etn]; exact u3, (u7 _ hpc).2, ?_⟩
    rw [etn, wrap1 j (by omega)]
    refine Leads.at (iHead bd vo order.length i x hv row.length (j + 1 : Nat)) (by kernel_rfl) (preds_inner rfl hw3 E hs1 hs2 hs4 hp hr hrS hrow hi hB hend r (j + 1) _ _ _ hdr' hlt u4 ⟨hst.kept.trans' u5 fun m hm hx => ?_, fun m hm => ?_⟩ (by simpa using hnp) (fun l hl' => ?_) (by rw [← hgd]; exact hfin))
    · rcases hst.pn m hx with h | h
      · exact h
      · omega
    · rcases u6 m hm with h | h
      · exact hst.pn m h
      · have := hst.kept.nx; exact .inr (by omega)
    · rcases List.mem_or_eq_of_mem_set hl' with h | h
      · have := hl l h; omega
      · subst h; simp; omega

/-- Those that lead to each are laid. -/
theorem preds_loop {K : AM → Prop} {Kr : AV → AH → Prop} {below : List AFr} {H3 : AH} {ps0 : List AV} (hK : K = RetK P 36 below Kr) (hw3 : Wf H3) (E : WEnv H3 S bd d pm pn np vg vo vi g hs order)
    (hs1 : ¬ PN H3 pn ps0 bd) (hs2 : ¬ PN H3 pn ps0 d) (hs3 : ∀ n off, slBase vo = some (n, off) → ¬ PN H3 pn ps0 n) (hs4 : ∀ m, S m → m < H3.nx ∧ ¬ PN H3 pn ps0 m) (hp : Pok H3 (PN H3 pn ps0) (stackPend below)) {fin : List (List Int)}
    (hend : ∀ Hc ps, Preds Hc pn fin ps → PStep H3 pn ps0 Hc ps → Kr (.tuple []) Hc) :
    ∀ (r : List Int) (i : Nat) (Hc : AH) (ps : List AV) (pss : List (List Int)), order.drop i = r → i ≤ order.length → Preds Hc pn pss ps → PStep H3 pn ps0 Hc ps → pss.length = np → (∀ l ∈ pss, l.length ≤ 1024 * i) → predsAll g r pss = fin →
      ∀ z, Leads P w0 K ⟨w wO (setL (tz 75 z) (oHead bd vo order.length i)), below, Hc⟩
  | [], i, Hc, ps, pss, hdr, hi, hps, hst, hnp, hl, hfin, z => by
    subst hK
    have hil := drop_end hdr hi
    have hfin : pss = fin := hfin
    exact Leads.go fine (walkOo w0 _ _ below z bd order.length vo i Hc) rfl ⟨by simp [hil], hend Hc ps (hfin ▸ hps) hst⟩
  | x :: r, i, Hc, ps, pss, hdr, hi, hps, hst, hnp, hl, hfin, z => by
    subst hK
    refine Leads.wf fun hw => ?_
    obtain ⟨hlt, hx, hdr'⟩ := drop_step hdr
    have hxr := E.orange x (List.mem_of_getElem? hx)
    have hg : ∀ m, m < H3.nx → ¬ PN H3 pn ps0 m → Hc.get m = H3.get m := hst.kept.get
    have hbdl : bd < H3.nx := rdAt_lt hw3 E.hbd
    have hdl := hw3 d _ E.row
    have E' : WEnv Hc S bd d pm pn np vg vo vi g hs order := E.congr (hg bd hbdl hs1) (hg d hdl hs2) (fun n off hb => hg n (E.ord.slr.lt hw3 hb) (hs3 n off hb)) (fun m hm => hg m (hs4 m hm).1 (hs4 m hm).2)
    obtain ⟨a, off, hb, q1, q2⟩ := E'.ord.slr.int hx
    have hxl : x.toNat < g.length := by omega
    have hgl : g[x.toNat]? = some g[x.toNat] := List.getElem?_eq_getElem hxl
    have hgd : g.getD x.toNat [] = g[x.toNat] := by rw [List.getD_eq_getElem?_getD, hgl]; rfl
    obtain ⟨gn, goff, hv, p1, p2, p3, p4, p5⟩ := E'.mat.at hgl
    obtain ⟨_, _, hv0, _, p2', _, p4', _⟩ := E.mat.at hgl
    have hrow : g[x.toNat] ∈ g := List.mem_of_getElem? hgl
    have hr3 : SlR H3 hv ((g[x.toNat]).map kI) := p4.congr fun n off hb => (hg n (hs4 n (p5 n off hb)).1 (hs4 n (p5 n off hb)).2).symm
    have hB : 1024 * i ≤ 2000000 := by have := E.olen; omega
    refine Leads.go fine (walkO w0 _ _ below z bd d a off order.length gn goff (g[x.toNat]).length vo vg hv i x Hc) rfl ⟨by simpa using hlt, q1, by simpa using q2, E'.hbd, by rw [rdAt_row E'.row]; rfl, by have := p1; rwa [show ((x.toNat : Nat) : Int) = x by omega] at this, by simpa using p2, by have := p4.aLen (P := P) et34.und; simpa using this, ?_⟩
    refine Leads.at (iHead bd vo order.length i x hv (g[x.toNat]).length (0 : Nat)) (by kernel_rfl) (preds_inner rfl hw3 E hs1 hs2 hs4 hp hr3 p5 hrow hlt hB (fin := predsIn x (g[x.toNat]) pss) (fun Hc' ps' h1 h2 h3 => ?_) (g[x.toNat]) 0 Hc ps pss rfl (Nat.zero_le _) hps hst hnp (fun l hl' => by have := hl l hl'; omega) rfl)
    refine preds_loop rfl hw3 E hs1 hs2 hs3 hs4 hp hend r (i + 1) Hc' ps' _ hdr' hlt h1 h2 ?_ (fun l hl' => by have := h3 l hl'; omega) (by rw [← hgd]; exact hfin)
    have : ∀ (l : List Int) (p : List (List Int)), (predsIn x l p).length = p.length := by
      intro l
      induction l with
      | nil => intro p; rfl
      | cons t l ih => intro p; unfold predsIn; rw [ih]; simp
    rw [this]; exact hnp
end

def wH1 (H : AH) (d : Nat) : AH := (H.new (.row [.ptr d 0] 24 true (.own none))).new (.map [] 0)

def wH2 (H : AH) (d : Nat) : AH := (wH1 H d).new (.row [.map (H.nx + 1)] 72 true (.own none))

def wH5 (H : AH) (d : Nat) : AH := (wH2 H d).new (.row [.func 57 [] [.ptr (H.nx + 2) 0, .ptr H.nx 0, .ptr (H.nx + 3) 0]] 66 true (.own none))

theorem wH2_same (H : AH) (d : Nat) : HSame (stO ((wH1 H d).new (.row [.nmap] 72 true (.own none))) (H.nx + 1 + 1) 0 [.map (H.nx + 1)]) (wH2 H d) := HSame.stNew rfl

theorem wH5_same (H : AH) (d : Nat) : HSame (stO ((stO ((wH1 H d).new (.row [.nmap] 72 true (.own none))) (H.nx + 1 + 1) 0 [.map (H.nx + 1)]).new (.row [.nfunc] 66 true (.own none))) (AH.nx (stO ((wH1 H d).new (.row [.nmap] 72 true (.own none))) (H.nx + 1 + 1) 0 [.map (H.nx + 1)])) 0
    [.func 57 [] [.ptr (H.nx + 1 + 1) 0, .ptr H.nx 0, .ptr (AH.nx (stO ((wH1 H d).new (.row [.nmap] 72 true (.own none))) (H.nx + 1 + 1) 0 [.map (H.nx + 1)])) 0]]) (wH5 H d) := by
  refine (HSame.stNew rfl).trans ?_
  have := (wH2_same H d).new (.row [.func 57 [] [.ptr (H.nx + 1 + 1) 0, .ptr H.nx 0, .ptr (AH.nx (stO ((wH1 H d).new (.row [.nmap] 72 true (.own none))) (H.nx + 1 + 1) 0 [.map (H.nx + 1)])) 0]] 66 true (.own none))
  have e : AH.nx (stO ((wH1 H d).new (.row [.nmap] 72 true (.own none))) (H.nx + 1 + 1) 0 [.map (H.nx + 1)]) = H.nx + 3 := by rw [nx_stO]; rfl
  rw [e] at this ⊢
  exact this

theorem wH5_get (H : AH) (d : Nat) : (wH5 H d).nx = H.nx + 4 ∧ (∀ m, m < H.nx → (wH5 H d).get m = H.get m) ∧ (wH5 H d).get H.nx = some (.row [.ptr d 0] 24 true (.own none)) ∧ (wH5 H d).get (H.nx + 1) = some (.map [] 0) ∧
    (wH5 H d).get (H.nx + 2) = some (.row [.map (H.nx + 1)] 72 true (.own none)) ∧ (wH5 H d).get (H.nx + 3) = some (.row [.func 57 [] [.ptr (H.nx + 2) 0, .ptr H.nx 0, .ptr (H.nx + 3) 0]] 66 true (.own none)) := by
  have g : ∀ m, (wH5 H d).get m = if m = H.nx + 3 then some (.row [.func 57 [] [.ptr (H.nx + 2) 0, .ptr H.nx 0, .ptr (H.nx + 3) 0]] 66 true (.own none)) else if m = H.nx + 2 then some (.row [.map (H.nx + 1)] 72 true (.own none)) else if m = H.nx + 1 then some (.map [] 0) else if m = H.nx then some (.row [.ptr d 0] 24 true (.own none)) else H.get m := fun m => by
    unfold wH5 wH2 wH1
    rw [get_new, get_new, get_new, get_new]
    rfl
  refine ⟨rfl, fun m hm => ?_, ?_, ?_, ?_, ?_⟩
  · rw [g, if_neg (by omega), if_neg (by omega), if_neg (by omega), if_neg (by omega)]
  · rw [g, if_neg (by omega), if_neg (by omega), if_neg (by omega), if_pos rfl]
  · rw [g, if_neg (by omega), if_neg (by omega), if_pos rfl]
  · rw [g, if_neg (by omega), if_pos rfl]
  · rw [g, if_pos rfl]

theorem nodup_len : ∀ (n : Nat) (l : List Int), l.Nodup → (∀ x ∈ l, 0 ≤ x ∧ x < (n : Int)) → l.length ≤ n
  | 0, [], _, _ => Nat.le_refl _
  | 0, x :: l, _, h => by have := h x (by simp); omega
  | n + 1, l, hn, h => by
    by_cases hm : (n : Int) ∈ l
    · have h1 : (l.erase (n : Int)).Nodup := hn.erase _
      have := nodup_len n _ h1 fun x hx => by
        have h2 := h x (List.mem_of_mem_erase hx)
        have h3 : x ≠ (n : Int) := fun e => by subst e; exact (List.Nodup.not_mem_erase hn) hx
        omega
      rw [List.length_erase_of_mem hm] at this
      omega
    · have := nodup_len n l hn fun x hx => by
        have h2 := h x hx
        have h3 : x ≠ (n : Int) := fun e => by subst e; exact hm hx
        omega
      omega

/-- What walk leaves. -/
structure WPost (H : AH) (d pm pn np : Nat) (vg vi : AV) (order : List Int) (g : List (List Int)) (ps : List AV) (H' : AH) (vo : AV) (ps' : List AV) : Prop where
  row : H'.get d = some (.row [vg, .slice pn 0 np np, vo, .map pm, vi] 52 true (.own none))
  ord : Lst H' vo 3 (order.map kI)
  place : MapF H' pm kI kI (placeF order 0 fun _ => none)
  preds : Preds H' pn (predsAll g order (List.replicate np [])) ps'
  kept : Kept (fun m => m = d ∨ m = pm ∨ PN H pn ps m) H H'
  ln : ∀ m, LN H' vo m → H.nx ≤ m ∧ ¬ PN H' pn ps' m
  pn : ∀ m, PN H' pn ps' m → PN H pn ps m ∨ H.nx ≤ m

/-- THE CONTRACT OF walk. -/
theorem walk_ret {w0 : World} {H : AH} {S : Nat → Prop} {d pm pn np : Nat} {vg vi : AV} {g : List (List Int)} {hs ps : List AV} (hrow : H.get d = some (.row [vg, .slice pn 0 np np, .nslice 0 0, .map pm, vi] 52 true (.own none)))
    (hpl : MapF H pm kI kI fun _ => none) (hmat : Mat H S vg g hs) (hps : Preds H pn (List.replicate np []) ps) (hd : d ≠ pm) (hd2 : ¬ PN H pn ps d) (hd3 : ¬ PN H pn ps pm) (hS : ∀ m, S m → m < H.nx ∧ m ≠ d ∧ m ≠ pm ∧ ¬ PN H pn ps m)
    (hsm : ∀ l ∈ g, l.length ≤ 1024) (hgood : Go.Proofs.DomP.Good g) (hg1 : g.length ≤ 1024) (hg0 : 0 < g.length) (hnp : np = g.length) {k : Nat} {sf : Seen} {done : List Int} (hdfs : dfsN g k 0 (fun _ => false) [] = some (sf, done)) :
    Ret P w0 36 [.ptr d 0] H (fun m => m = d ∨ m = pm ∨ PN H pn ps m) fun v H' => v = .tuple [] ∧ ∃ vo ps', WPost H d pm pn np vg vi done.reverse g ps H' vo ps' := Ret.mk fun below hp => by
  refine Leads.wf fun hw => ?_
  obtain ⟨new, hdone, hadds⟩ := dfsN_adds hgood k 0 _ _ _ _ rfl (Int.le_refl 0) (by omega) hdfs
  rw [List.nil_append] at hdone
  have hdl : done.length ≤ 1024 := by
    have := nodup_len g.length done (by rw [hdone]; exact hadds.nodup) (fun x hx => hadds.range x (by rw [← hdone]; exact hx))
    omega
  obtain ⟨h5n, h5g, h5d, h5s, h5b, h5f⟩ := wH5_get H d
  have hdlt := hw d _ hrow
  have hpmlt := hpl.lt hw
  let S' : Nat → Prop := fun m => S m ∨ m = H.nx ∨ m = H.nx + 2 ∨ m = H.nx + 3
  have hE : DEnv (wH5 H d) S' (H.nx + 2) H.nx (H.nx + 3) d (H.nx + 1) vg g hs := by
    refine ⟨?_, ?_, ?_, .inr (.inr (.inl rfl)), .inr (.inl rfl), .inr (.inr (.inr rfl)), ?_, hsm, hgood⟩
    · rw [rdAt_row h5b]; rfl
    · rw [rdAt_row h5d]; rfl
    · rw [rdAt_row h5f]; rfl
    · exact (hmat.congr (H' := wH5 H d) fun m hm => h5g m (hS m hm).1).mono fun m hm => .inl hm
  have hnoL : ∀ (H : AH) m, ¬ LN H (.nslice 0 0) m := fun H m ⟨a, b, q, _⟩ => by cases q
  have hst0 : DSt (wH5 H d) S' d (H.nx + 1) vg (.slice pn 0 np np) (.map pm) vi (wH5 H d) (.nslice 0 0) (fun _ => false) [] := by
    refine ⟨fun _ _ => rfl, by rw [h5g d hdlt]; exact hrow, ?_, Lst.nil _ _, by omega, hnoL _ _, hnoL _ _, fun m hm => ?_⟩
    · exact ⟨[], 0, h5s, fun _ => rfl, MI.nil⟩
    · rcases hm with hm | hm | hm | hm
      · obtain ⟨a1, a2, a3, a4⟩ := hS m hm
        exact ⟨by omega, a2, by omega, hnoL _ _⟩
      · exact ⟨by omega, by omega, by omega, hnoL _ _⟩
      · exact ⟨by omega, by omega, by omega, hnoL _ _⟩
      · exact ⟨by omega, by omega, by omega, hnoL _ _⟩
  have hw5 : Wf (wH5 H d) := ((((hw.new _).new _).new _).new _)
  have hpf : Pok H (fun m => (m = d ∨ m = pm ∨ PN H pn ps m) ∨ H.nx ≤ m) (stackPend below) := hp.fresh hw
  have hk5 : Kept (fun _ => False) H (wH5 H d) := ⟨by omega, fun m hm _ => h5g m hm⟩
  have hp5 : Pok (wH5 H d) (fun m => (m = d ∨ m = pm ∨ PN H pn ps m) ∨ H.nx ≤ m) (stackPend below) := fun p hq => by
    obtain ⟨a1, a2⟩ := hpf p hq
    exact ⟨by rw [h5g p (by rcases Nat.lt_or_ge p H.nx with h | h; exact h; exact absurd (.inr h) a2)]; exact a1, a2⟩
  have hdeep := deep_ret (w0 := w0) hE k 0 _ [] sf done (wH5 H d) (.nslice 0 0) hst0 rfl (Int.le_refl 0) (by omega) hdfs (by omega)
  refine Leads.go fine (walk0 w0 _ _ below d done.reverse.length H (wH5 H d) (DO d (H.nx + 1) (wH5 H d) (.nslice 0 0)) (fun vo H1 => LN H1 vo)
    (fun vo H1 => DSt (wH5 H d) S' d (H.nx + 1) vg (.slice pn 0 np np) (.map pm) vi H1 vo sf done ∧ DStep d (H.nx + 1) (wH5 H d) (.nslice 0 0) H1 vo) (fun vo H1 H2 => LStep H1 vo H2 done.reverse)) (by kernel_rfl)
    ⟨trivial, trivial, trivial, rfl, StOk.new rfl (by simp), AOk.new (hp.new hw _ |>.new (hw.new _) _) ((hw.new _).new _) rfl, trivial, rfl, StOk.new rfl (by simp), ?_, ?_, wH5_same H d, trivial, hdeep.mono fun v H' q => ?_, ?_, fun vo H1 hq => ?_⟩
  · exact AOk.new ((((hp.new hw _).new (hw.new _) _).new ((hw.new _).new _) _).same (wH2_same H d).symm) (Wf.same (wH2_same H d).symm (((hw.new _).new _).new _)) rfl
  · refine (rdAt_congr ((wH5_same H d).get _).symm 0).trans ?_
    have e : AH.nx (stO ((wH1 H d).new (.row [.nmap] 72 true (.own none))) (H.nx + 1 + 1) 0 [.map (H.nx + 1)]) = H.nx + 3 := by rw [nx_stO]; rfl
    refine (congrArg (fun n => rdAt (wH5 H d) n 0) e).trans ?_
    rw [rdAt_row h5f]
    rfl
  · obtain ⟨q1, vo, q2, q3⟩ := q
    exact ⟨vo, q1, q2, q3⟩
  · exact hp5.weak fun m hm => by
      rcases hm with hm | hm | hm
      · exact .inl (.inl hm)
      · exact .inr (by omega)
      · exact (hnoL _ _ hm).elim
  · obtain ⟨D1, D2⟩ := hq
    have hdo : Pok (wH5 H d) (DO d (H.nx + 1) (wH5 H d) (.nslice 0 0)) (stackPend below) := hp5.weak fun m hm => by
      rcases hm with hm | hm | hm
      · exact .inl (.inl hm)
      · exact .inr (by omega)
      · exact (hnoL _ _ hm).elim
    have hln1 : ∀ m, LN H1 vo m → H.nx + 4 ≤ m := fun m hm => by
      rcases D2.ln m hm with h | h
      · exact (hnoL _ _ h).elim
      · omega
    have hp1 : Pok H1 (fun m => LN H1 vo m) (stackPend below) := hdo.mono hw5 D2.kept fun m hm hx => by have := hln1 m hx; omega
    have hkd : ∀ m, m < H.nx → m ≠ d → H1.get m = H.get m := fun m hm hne => by
      rw [D2.kept.get m (by omega) ?_, h5g m hm]
      rintro (h | h | h)
      · exact hne h
      · omega
      · exact hnoL _ _ h
    have hn1 : H.nx + 4 ≤ H1.nx := by have := D2.kept.nx; omega
    obtain ⟨bd1, bd2, bd3, bd4⟩ := D1.st H.nx (.inr (.inl rfl))
    have b1 : rdAt H1 H.nx 0 = some (.ptr d 0) := (D1.rd (.inr (.inl rfl))).trans hE.hbd
    refine ⟨b1, by rw [rdAt_row D1.row]; rfl, trivial, (rev_ret D1.ord (by omega)).mono fun v H' q => ⟨(), q.1, q.2⟩, hp1, fun _ H2 L => ?_⟩
    have hk12 : ∀ m, m < H1.nx → ¬ LN H1 vo m → H2.get m = H1.get m := L.kept.get
    have hk02 : ∀ m, m < H.nx → m ≠ d → H2.get m = H.get m := fun m hm hne => by
      rw [hk12 m (by omega) fun h => by have := hln1 m h; omega]; exact hkd m hm hne
    have hn2 : H.nx + 4 ≤ H2.nx := by have := L.kept.nx; omega
    have hd2r : H2.get d = some (.row [vg, .slice pn 0 np np, vo, .map pm, vi] 52 true (.own none)) := by rw [hk12 d (by omega) D1.ld]; exact D1.row
    have E2 : WEnv H2 S H.nx d pm pn np vg vo vi g hs done.reverse := by
      refine ⟨by rw [rdAt_congr (hk12 _ bd1 bd4)]; exact b1, hd2r, L.lst, hmat.congr fun m hm => hk02 m (hS m hm).1 (hS m hm).2.1, hsm, hgood, by simpa using hdl, fun n hn => ?_, hnp⟩
      exact hadds.range n (by rw [← hdone]; simpa using hn)
    refine ⟨E2.hbd, by rw [rdAt_row hd2r]; rfl, by have := E2.ord.slr.aLen (P := P) et34.und; simpa using this, ?_⟩
    have hln2 : ∀ m, LN H2 vo m → H.nx + 4 ≤ m := fun m hm => hln1 m (L.ln m hm)
    have hp2 : Pok H2 (fun m => m = pm) (stackPend below) := fun p hq => by
      obtain ⟨a1, a2⟩ := hpf p hq
      have a3 : p < H.nx := by rcases Nat.lt_or_ge p H.nx with h | h; exact h; exact absurd (.inr h) a2
      exact ⟨by rw [hk02 p a3 fun e => a2 (.inl (.inl e))]; exact a1, fun e => a2 (.inl (.inr (.inl e)))⟩
    refine Leads.at (pHead H.nx vo done.reverse.length (0 : Nat)) (by kernel_rfl) (place_loop rfl E2 (by omega) hd (fun n off hb e => by have := hln2 n ⟨n, off, hb, .inl rfl⟩; omega) hp2 (fun H3 hg3 hn3 hpl3 z => ?_) done.reverse 0 H2 _ rfl (Nat.zero_le _) (fun _ _ => rfl) rfl (hpl.congr (hk02 pm hpmlt fun e => hd e.symm)) rfl)
    refine Leads.wf fun hw3 => ?_
    have hk03 : ∀ m, m < H.nx → m ≠ d → m ≠ pm → H3.get m = H.get m := fun m hm h1 h2 => by rw [hg3 m h2]; exact hk02 m hm h1
    obtain ⟨hps3, hpn3⟩ := hps.kept (H' := H3) fun m hm => hk03 m (hps.pn_lt hw hm) (fun e => hd2 (e ▸ hm)) (fun e => hd3 (e ▸ hm))
    have hpnlt : ∀ m, PN H3 pn ps m → m < H.nx := fun m hm => hps.pn_lt hw ((hpn3 m).1 hm)
    have E3 : WEnv H3 S H.nx d pm pn np vg vo vi g hs done.reverse := E2.congr (hg3 _ (by omega)) (hg3 d hd) (fun n off hb => hg3 n fun e => by have := hln2 n ⟨n, off, hb, .inl rfl⟩; omega) fun m hm => hg3 m (hS m hm).2.2.1
    have hln3 : ∀ m, LN H3 vo m ↔ LN H2 vo m := LN_same fun n off hb => hg3 n fun e => by have := hln2 n ⟨n, off, hb, .inl rfl⟩; omega
    have hp3 : Pok H3 (PN H3 pn ps) (stackPend below) := fun p hq => by
      obtain ⟨a1, a2⟩ := hpf p hq
      have a3 : p < H.nx := by rcases Nat.lt_or_ge p H.nx with h | h; exact h; exact absurd (.inr h) a2
      exact ⟨by rw [hk03 p a3 (fun e => a2 (.inl (.inl e))) fun e => a2 (.inl (.inr (.inl e)))]; exact a1, fun e => a2 (.inl (.inr (.inr ((hpn3 p).1 e))))⟩
    refine preds_loop rfl hw3 E3 (fun h => by have := hpnlt _ h; omega) (fun h => hd2 ((hpn3 d).1 h)) (fun n off hb h => by have := hpnlt _ h; have := hln2 n ⟨n, off, hb, .inl rfl⟩; omega) (fun m hm => ⟨by have := (hS m hm).1; omega, fun h => (hS m hm).2.2.2 ((hpn3 m).1 h)⟩) hp3 (fin := predsAll g done.reverse (List.replicate np [])) (fun Hc ps' q1 q2 => ?_)
      done.reverse 0 H3 ps _ rfl (Nat.zero_le _) hps3 ⟨Kept.refl _ _, fun m hm => .inl hm⟩ (by simp) (fun l hl => by have := List.eq_of_mem_replicate hl; subst this; simp) rfl z
    have hkc : ∀ m, m < H3.nx → ¬ PN H3 pn ps m → Hc.get m = H3.get m := q2.kept.get
    have hlnc : ∀ m, LN Hc vo m ↔ LN H3 vo m := LN_same fun n off hb => hkc n (E3.ord.slr.lt hw3 hb) fun h => by have := hpnlt _ h; have := hln2 n ⟨n, off, hb, .inl rfl⟩; omega
    refine ⟨rfl, vo, ps', ?_, ?_, ?_, q1, ⟨by have := q2.kept.nx; omega, fun m hm hx => ?_⟩, fun m hm => ?_, fun m hm => ?_⟩
    · rw [hkc d (by omega) fun h => hd2 ((hpn3 d).1 h)]; exact E3.row
    · exact E3.ord.congr fun n off hb => hkc n (E3.ord.slr.lt hw3 hb) fun h => by have := hpnlt _ h; have := hln2 n ⟨n, off, hb, .inl rfl⟩; omega
    · exact hpl3.congr (hkc pm (by omega) fun h => hd3 ((hpn3 pm).1 h))
    · rw [hkc m (by omega) fun h => hx (.inr (.inr ((hpn3 m).1 h)))]
      exact hk03 m hm (fun e => hx (.inl e)) fun e => hx (.inr (.inl e))
    · have hm3 := (hlnc m).1 hm
      have := hln2 m ((hln3 m).1 hm3)
      refine ⟨by omega, fun h => ?_⟩
      rcases q2.pn m h with h | h
      · have := hpnlt _ h; omega
      · have := E3.ord.lt hw3 hm3; omega
    · rcases q2.pn m hm with h | h
      · exact .inl ((hpn3 m).1 h)
      · exact .inr (by omega)
end Go.Dm
