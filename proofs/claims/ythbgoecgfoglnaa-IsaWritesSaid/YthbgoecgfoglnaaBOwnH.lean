/- tabardref17.Targets: its loops (printed by xprint.py out of the function with a plain append in the place of the insertion), the insertion by hand. No condition. -/
import Derived.Test.YthbgoecgfoglnaaBOwnF
import Derived.Test.YthbgoecgfoglnaaBPIsax0
namespace Go.Proofs.Ythbgoecgfoglnaa.PW
open Go.RowKit Go.Proofs.Ythbgoecgfoglnaa.PIsa Go.Proofs.Ythbgoecgfoglnaa.Own Go.Proofs.YthbgoecgfoglnaaW.PrintWords Go.Proofs.YthbgoecgfoglnaaW.PrintLast Go.Proofs.YthbgoecgfoglnaaW.PrintMore
attribute [local go_sem] max2_int min2_int max_two min_two max_three min_three max_four min_four
set_option linter.unusedVariables false
set_option linter.unusedSimpArgs false
/-- t put into x3 at place i. -/
def insAt (x3 : List Int) (i t : Int) : List Int := x3.take i.toNat ++ t :: x3.drop i.toNat
/-- A row of the call's own, to be cut at place i: nil, or a block. -/
theorem src_case {e base : Nat} {w : World} {ok : Nat → Prop} {v : Value} {xs : List Int} (h : (Kd.int .i64).R e w base ok v xs) (i : Int) (h0 : 0 ≤ i) (h1 : i ≤ (xs.length : Int)) :
    (v = .slice none 0 0 ∧ xs = [] ∧ i = 0) ∨ ∃ (g cap : Nat) (cur : Array Value), v = .slice (some ⟨g, 0, none⟩) xs.length cap ∧ base ≤ g ∧ w.heap[g]? = some (.cells cur e (0, 0)) ∧ xs.length ≤ cap ∧ cap ≤ maxLen ∧ (∀ (j : Nat) (y : Int), xs[j]? = some y → cur[j]? = some (Value.int IntKind.i64 y)) := by
  have ho := ints_own h
  rcases ho.2 with ⟨hv, hn⟩ | ⟨g, cap, cur, hv, hg, hb, hc, hm, hs, ht⟩
  · have : xs = [] := List.eq_nil_of_length_eq_zero hn
    subst this
    exact .inl ⟨hv, rfl, by simp at h1; omega⟩
  · refine .inr ⟨g, cap, cur, hv, hg, hb, hc, hm, fun j y hj => ?_⟩
    have hjl := (List.getElem?_eq_some_iff.1 hj).1
    have h1 : (cur.toList.take (xs.length * 1))[j]? = (xs.map (Value.int .i64))[j]? := by rw [ht]
    rw [Nat.mul_one, List.getElem?_take_of_lt hjl, List.getElem?_map, hj] at h1
    rw [← Array.getElem?_toList, h1]
    rfl
/-- A part of the row is read in any world that has its block. -/
theorem src_C {e g : Nat} {W : World} {cur : Array Value} {xs : List Int} (hb : W.heap[g]? = some (.cells cur e (0, 0))) (hcur : ∀ (j : Nat) (y : Int), xs[j]? = some y → cur[j]? = some (Value.int IntKind.i64 y)) (hx : xs.length ≤ maxLen) (o n : Nat) (hn : o + n ≤ xs.length) :
    (Kd.int .i64).C W (some ⟨g, o, none⟩) n ((xs.drop o).take n) := by
  unfold maxLen at hx
  refine ⟨by simp; omega, by omega, fun hp => ⟨_, rfl, fun j p hj => ⟨[Value.int .i64 p], rfl, rfl, fun i u hu => ?_⟩⟩⟩
  cases i with
  | succ i => simp at hu
  | zero =>
    simp at hu
    subst hu
    have hj2 : j < n := by have := (List.getElem?_eq_some_iff.1 hj).1; simp at this; omega
    rw [List.getElem?_take_of_lt hj2, List.getElem?_drop] at hj
    have := hcur _ _ hj
    show W.cell? ((⟨g, o, none⟩ : Addr).add (j * 1 + 0)) = _
    rw [show (⟨g, o, none⟩ : Addr).add (j * 1 + 0) = ⟨g, o + (j * 1 + 0), none⟩ by unfold Addr.add; split <;> simp_all]
    rw [blk_cell hb]
    simpa using this
/-- What stays: the row that is cut, and all that is older. -/
def S12 (g : Nat) (cur : Array Value) (w W : World) : Prop := W.heap[g]? = some (.cells cur 3 (0, 0)) ∧ Below w.heap.size w W
theorem lit_C {e B : Nat} {W : World} {t : Int} (hb : W.heap[B]? = some (.cells #[.int .i64 t] e (0, 0))) : (Kd.int .i64).C W (some ⟨B, 0, none⟩) 1 [t] :=
  src_C (xs := [t]) hb (fun j y hj => by
    cases j with
    | zero => simpa using hj
    | succ j => simp at hj) (by unfold maxLen; simp) 0 1 (by simp)
theorem src_C2 {e g cap : Nat} {W : World} {cur : Array Value} {xs : List Int} (hb : W.heap[g]? = some (.cells cur e (0, 0))) (hcur : ∀ (j : Nat) (y : Int), xs[j]? = some y → cur[j]? = some (Value.int IntKind.i64 y)) (hx : xs.length ≤ maxLen) (hcap : xs.length ≤ cap) (o n : Nat) (hn : o + n ≤ xs.length) :
    (Kd.int .i64).C W (if cap = o then some ⟨g, 0, none⟩ else some ⟨g, o, none⟩) n ((xs.drop o).take n) := by
  split
  · have : n = 0 := by omega
    subst this
    exact ⟨by simp, by omega, fun h => absurd h (Nat.lt_irrefl 0)⟩
  · exact src_C hb hcur hx o n hn
theorem nil_C (W : World) (A : Option Addr) : (Kd.int .i64).C W A 0 [] := ⟨rfl, by omega, fun h => absurd h (Nat.lt_irrefl 0)⟩
def B12 (w W : World) : Prop := Below w.heap.size w W
/-! ### tabardref17_Targets: function 34 -/
mutual
def tabardref17_Targets.l0 : Nat → List (S28) → List Int → Int → Option (List Int)
  | 0, _, _, _ => none
  | k + 1, x0, x3, x4 => if x4 < (x0.length : Int) then (if 0 ≤ x4 then (if ((rd_T28 x0 x4).f0) = 24 then (tabardref17_Targets.j1 k x0 x3 x4 false) else (tabardref17_Targets.j1 k x0 x3 x4 (((rd_T28 x0 x4).f0) != 25))) else (none)) else (some x3)
def tabardref17_Targets.j1 : Nat → List (S28) → List Int → Int → Bool → Option (List Int)
  | 0, _, _, _, _ => none
  | k + 1, x0, x3, x4, x27 => if x27 = true then (tabardref17_Targets.l0 k x0 x3 (wrap64 (x4 + 1))) else (if 0 ≤ x4 then (if x4 < (x0.length : Int) then (tabardref17_Targets.l1 k x0 x3 x4 ((rd_T28 x0 x4).f5) 0) else (none)) else (none))
def tabardref17_Targets.l1 : Nat → List (S28) → List Int → Int → Int → Int → Option (List Int)
  | 0, _, _, _, _, _ => none
  | k + 1, x0, x3, x4, x5, x6 => if x6 < (x3.length : Int) then (if 0 ≤ x6 then (if (rd x3 x6) < x5 then (tabardref17_Targets.l1 k x0 x3 x4 x5 (wrap64 (x6 + 1))) else (if (rd x3 x6) = x5 then (tabardref17_Targets.l0 k x0 x3 (wrap64 (x4 + 1))) else (if x3.length < 17592186044416 then (tabardref17_Targets.l0 k x0 (insAt x3 x6 x5) (wrap64 (x4 + 1))) else (none)))) else (none)) else (if x6 = (x3.length : Int) then (if x3.length < 17592186044416 then (tabardref17_Targets.l0 k x0 (insAt x3 x6 x5) (wrap64 (x4 + 1))) else (none)) else (none))
end
def tabardref17_Targets.f (k : Nat) (l0 : List (S28)) : Option (List Int) := tabardref17_Targets.l0 k l0 ([] : List Int) 0
set_option maxHeartbeats 8000000 in
set_option maxRecDepth 100000 in
theorem tabardref17_Targets.calls (k : Nat) (A0 : Option Addr) (c0 : Nat) (l0 : List (S28)) (r : List Int) (w : World) (hr0 : Kd.C k28 w A0 l0.length l0) (hc0 : l0.length ≤ c0) (h : tabardref17_Targets.f k l0 = some r) :
    Calls Try.prog 34 #[.slice A0 l0.length c0] w fun e w' => ∃ v0_ : Value, e = .returned (v0_) ∧ Kd.R (Kd.int .i64) 3 w' w.heap.size (fun _ => True) v0_ r ∧ Below w.heap.size w w' := by
  have HR0 := Aside0.mk hr0
  have HC0 := Aside0.mk hc0
  clear hr0 hc0
  have HB := Aside0.mk (Below.refl w.heap.size w)
  have H : (tabardref17_Targets.l0 k l0 ([] : List Int) 0) = some r := h
  clear h
  have H' := Aside0.mk H
  clear H
  go_enter Try.func34, Try.ntmps34
  go_wp2
  go_loopg [3, 4] k (fun kq v3 v4 w' => ∃ (x3_1 : List Int) (x4_1 : Int), v4 = .int .i64 x4_1 ∧ Aside0 (tabardref17_Targets.l0 kq l0 x3_1 x4_1 = some r) ∧ Aside0 (kq ≤ k) ∧ Aside0 (Kd.R (Kd.int .i64) 3 w' w.heap.size (fun _ => True) v3 x3_1) ∧ Aside0 (Below w.heap.size w w'))
  case atStart => exact ⟨(([] : List Int)), (0), (by first | rfl | (simp; done) | (simp [*]; done)), H', ⟨Nat.le_refl _⟩, ⟨by first | exact Kd.R_nil _ _ _ _ _ | exact Kd.N_nil _ _ _ _ _ | exact Kd.V_nil _ _ _ _ _ | exact Kd.Q_nil _ _ _ _ _ | exact Kd.S_nil _ _ _ _ _⟩, ⟨by repeat (first | (with_reducible first | exact HB.out | apply below_alloc | apply pw_below_drewN | apply below_drew1) | exact HB.out)⟩⟩
  case round =>
    clear H'
    obtain ⟨x3_1, x4_1, rfl, HA, HK1, HO_3, HB⟩ := hrel
    cases gk with
    | zero => exact absurd HA.out (by simp [tabardref17_Targets.l0])
    | succ k1 =>
      have H := HA.out
      clear HA
      simp only [tabardref17_Targets.l0] at H
      by_cases c2 : x4_1 < (l0.length : Int)
      · rw [if_pos c2] at H
        have c2b0 : decide (x4_1 < (l0.length : Int)) = true := decide_eq_true c2
        clear c2
        have HC3 := Aside0.mk H
        clear H
        go_upto_region 5 with (fail)
        go_cut [27] (fun v27 wc => ∃ (kq : Nat) (x27_2 : Bool), v27 = .bool x27_2 ∧ Aside0 (tabardref17_Targets.j1 kq l0 x3_1 x4_1 x27_2 = some r) ∧ Aside0 (kq ≤ k1) ∧ Aside0 (Kd.R (Kd.int .i64) 3 wc w.heap.size (fun _ => True) u3 x3_1) ∧ Aside0 (Below w.heap.size w wc))
        case first =>
          have H := HC3.out
          clear HC3
          by_cases c4 : 0 ≤ x4_1
          · rw [if_pos c4] at H
            have c4b0 : decide (0 ≤ x4_1) = true := decide_eq_true c4
            clear c4
            (first | rw [c4b0] | (simp only [i64_w, i32_w]; rw [c4b0]) | skip)
            by_cases c5 : ((rd_T28 l0 x4_1).f0) = 24
            · rw [if_pos c5] at H
              have c5b0 : (((rd_T28 l0 x4_1).f0) == 24) = true := beq_iff_eq.mpr c5
              have c5b1 : (((rd_T28 l0 x4_1).f0) != 24) = false := bne_eq_false_iff_eq.mpr c5
              clear c5
              have H' := Aside0.mk H
              clear H
              have p109 : 0 ≤ (x4_1 : Int) := of_decide_eq_true (by first | (with_reducible assumption) | assumption)
              have q109 : x4_1 < (l0.length : Int) := of_decide_eq_true (by first | (with_reducible assumption) | assumption)
              obtain ⟨ad109, e109, hx109_0, hx109_1, hx109_2, hx109_3, hx109_4, hx109_5⟩ := at_T28 HR0.out x4_1 p109 q109
              cases e109
              replace hx109_0 := (HB.out.cell (World.block_lt_of_cell? w _ hx109_0)).trans hx109_0
              replace hx109_1 := (HB.out.cell (World.block_lt_of_cell? w _ hx109_1)).trans hx109_1
              replace hx109_2 := (HB.out.cell (World.block_lt_of_cell? w _ hx109_2)).trans hx109_2
              replace hx109_3 := (HB.out.cell (World.block_lt_of_cell? w _ hx109_3)).trans hx109_3
              replace hx109_4 := (HB.out.cell (World.block_lt_of_cell? w _ hx109_4)).trans hx109_4
              replace hx109_5 := (HB.out.cell (World.block_lt_of_cell? w _ hx109_5)).trans hx109_5
              replace p109 := eq_true p109
              replace q109 := eq_true q109
              go_wp2
              go_meet
              case rel => exact ⟨_, (false), (by first | rfl | (simp; done) | (simp [*]; done)), H', ⟨by have := HK1.out; first | omega | exact Nat.le_refl _⟩, ⟨by (with_reducible repeat (first | apply Kd.R_alloc | apply Kd.R_drewN | apply Kd.R_drew)); exact HO_3.out⟩, ⟨by repeat (first | (with_reducible first | exact HB.out | apply below_alloc | apply pw_below_drewN | apply below_drew1) | exact HB.out)⟩⟩
            · rw [if_neg c5] at H
              have c5b0 : (((rd_T28 l0 x4_1).f0) == 24) = false := beq_eq_false_iff_ne.mpr c5
              have c5b1 : (((rd_T28 l0 x4_1).f0) != 24) = true := bne_iff_ne.mpr c5
              have H' := Aside0.mk H
              clear H
              have p109 : 0 ≤ (x4_1 : Int) := of_decide_eq_true (by first | (with_reducible assumption) | assumption)
              have q109 : x4_1 < (l0.length : Int) := of_decide_eq_true (by first | (with_reducible assumption) | assumption)
              obtain ⟨ad109, e109, hx109_0, hx109_1, hx109_2, hx109_3, hx109_4, hx109_5⟩ := at_T28 HR0.out x4_1 p109 q109
              cases e109
              replace hx109_0 := (HB.out.cell (World.block_lt_of_cell? w _ hx109_0)).trans hx109_0
              replace hx109_1 := (HB.out.cell (World.block_lt_of_cell? w _ hx109_1)).trans hx109_1
              replace hx109_2 := (HB.out.cell (World.block_lt_of_cell? w _ hx109_2)).trans hx109_2
              replace hx109_3 := (HB.out.cell (World.block_lt_of_cell? w _ hx109_3)).trans hx109_3
              replace hx109_4 := (HB.out.cell (World.block_lt_of_cell? w _ hx109_4)).trans hx109_4
              replace hx109_5 := (HB.out.cell (World.block_lt_of_cell? w _ hx109_5)).trans hx109_5
              replace p109 := eq_true p109
              replace q109 := eq_true q109
              have p110 : 0 ≤ (x4_1 : Int) := of_decide_eq_true (by first | (with_reducible assumption) | assumption)
              have q110 : x4_1 < (l0.length : Int) := of_decide_eq_true (by first | (with_reducible assumption) | assumption)
              obtain ⟨ad110, e110, hx110_0, hx110_1, hx110_2, hx110_3, hx110_4, hx110_5⟩ := at_T28 HR0.out x4_1 p110 q110
              obtain rfl : ad109 = ad110 := (by injection e110)
              replace hx110_0 := (HB.out.cell (World.block_lt_of_cell? w _ hx110_0)).trans hx110_0
              replace hx110_1 := (HB.out.cell (World.block_lt_of_cell? w _ hx110_1)).trans hx110_1
              replace hx110_2 := (HB.out.cell (World.block_lt_of_cell? w _ hx110_2)).trans hx110_2
              replace hx110_3 := (HB.out.cell (World.block_lt_of_cell? w _ hx110_3)).trans hx110_3
              replace hx110_4 := (HB.out.cell (World.block_lt_of_cell? w _ hx110_4)).trans hx110_4
              replace hx110_5 := (HB.out.cell (World.block_lt_of_cell? w _ hx110_5)).trans hx110_5
              replace p110 := eq_true p110
              replace q110 := eq_true q110
              go_wp2
              go_meet
              case rel => exact ⟨_, ((((rd_T28 l0 x4_1).f0) != 25)), (by first | rfl | (simp; done) | (simp [*]; done)), H', ⟨by have := HK1.out; first | omega | exact Nat.le_refl _⟩, ⟨by (with_reducible repeat (first | apply Kd.R_alloc | apply Kd.R_drewN | apply Kd.R_drew)); exact HO_3.out⟩, ⟨by repeat (first | (with_reducible first | exact HB.out | apply below_alloc | apply pw_below_drewN | apply below_drew1) | exact HB.out)⟩⟩
          · rw [if_neg c4] at H
            exact absurd H (by simp)
        case rest =>
          clear HC3
          try clear p1
          try clear q1
          try clear hx1
          try clear c2
          try clear c2b0
          try clear p2
          try clear c3
          try clear c4
          try clear c4b0
          try clear c5
          try clear c5b0
          try clear c5b1
          try clear hx109_0
          try clear hx109_1
          try clear hx109_2
          try clear hx109_3
          try clear hx109_4
          try clear hx109_5
          try clear hx110_0
          try clear hx110_1
          try clear hx110_2
          try clear hx110_3
          try clear hx110_4
          try clear hx110_5
          try clear p109
          try clear p110
          try clear q109
          try clear q110
          obtain ⟨kq, x27_2, rfl, HA, HJ2, HO_3, HB⟩ := hcut
          cases kq with
          | zero => exact absurd HA.out (by simp [tabardref17_Targets.j1])
          | succ kj2 =>
            have H := HA.out
            clear HA
            simp only [tabardref17_Targets.j1] at H
            by_cases c6 : x27_2 = true
            · subst c6
              have H1 : (tabardref17_Targets.l0 kj2 l0 x3_1 (wrap64 (x4_1 + 1))) = some r := by rw [if_pos rfl] at H; exact H
              clear H
              have H := H1
              clear H1
              have H' := Aside0.mk H
              clear H
              go_wp2
              go_roundg kj2
              case measure => have := HK1.out; have := HJ2.out; omega
              case rel => exact ⟨(x3_1), (wrap64 (x4_1 + 1)), (by first | rfl | (simp; done) | (simp [*]; done)), H', ⟨by have := HK1.out; have := HJ2.out; omega⟩, ⟨by (with_reducible repeat (first | apply Kd.R_alloc | apply Kd.R_drewN | apply Kd.R_drew)); exact HO_3.out⟩, ⟨by repeat (first | (with_reducible first | exact HB.out | apply below_alloc | apply pw_below_drewN | apply below_drew1) | exact HB.out)⟩⟩
            · replace c6 := Bool.eq_false_iff.mpr c6
              subst c6
              have H1 : (if 0 ≤ x4_1 then (if x4_1 < (l0.length : Int) then (tabardref17_Targets.l1 kj2 l0 x3_1 x4_1 ((rd_T28 l0 x4_1).f5) 0) else (none)) else (none)) = some r := by rw [if_neg (show ¬ (false = true) by decide)] at H; exact H
              clear H
              have H := H1
              clear H1
              by_cases c7 : 0 ≤ x4_1
              · rw [if_pos c7] at H
                have c7b0 : decide (0 ≤ x4_1) = true := decide_eq_true c7
                clear c7
                by_cases c8 : x4_1 < (l0.length : Int)
                · rw [if_pos c8] at H
                  have c8b0 : decide (x4_1 < (l0.length : Int)) = true := decide_eq_true c8
                  clear c8
                  have H' := Aside0.mk H
                  clear H
                  have p111 : 0 ≤ (x4_1 : Int) := of_decide_eq_true (by first | (with_reducible assumption) | assumption)
                  have q111 : x4_1 < (l0.length : Int) := of_decide_eq_true (by first | (with_reducible assumption) | assumption)
                  obtain ⟨ad111, e111, hx111_0, hx111_1, hx111_2, hx111_3, hx111_4, hx111_5⟩ := at_T28 HR0.out x4_1 p111 q111
                  cases e111
                  replace hx111_0 := (HB.out.cell (World.block_lt_of_cell? w _ hx111_0)).trans hx111_0
                  replace hx111_1 := (HB.out.cell (World.block_lt_of_cell? w _ hx111_1)).trans hx111_1
                  replace hx111_2 := (HB.out.cell (World.block_lt_of_cell? w _ hx111_2)).trans hx111_2
                  replace hx111_3 := (HB.out.cell (World.block_lt_of_cell? w _ hx111_3)).trans hx111_3
                  replace hx111_4 := (HB.out.cell (World.block_lt_of_cell? w _ hx111_4)).trans hx111_4
                  replace hx111_5 := (HB.out.cell (World.block_lt_of_cell? w _ hx111_5)).trans hx111_5
                  replace p111 := eq_true p111
                  replace q111 := eq_true q111
                  go_wp2
                  go_loopg [6] kj2 (fun kq v6 w' => ∃ (x6_3 : Int), v6 = .int .i64 x6_3 ∧ Aside0 (tabardref17_Targets.l1 kq l0 x3_1 x4_1 ((rd_T28 l0 x4_1).f5) x6_3 = some r) ∧ Aside0 (kq ≤ kj2) ∧ Aside0 (Kd.R (Kd.int .i64) 3 w' w.heap.size (fun _ => True) u3 x3_1) ∧ Aside0 (Below w.heap.size w w'))
                  case atStart => exact ⟨(0), (by first | rfl | (simp; done) | (simp [*]; done)), H', ⟨Nat.le_refl _⟩, ⟨by (with_reducible repeat (first | apply Kd.R_alloc | apply Kd.R_drewN | apply Kd.R_drew)); exact HO_3.out⟩, ⟨by repeat (first | (with_reducible first | exact HB.out | apply below_alloc | apply pw_below_drewN | apply below_drew1) | exact HB.out)⟩⟩
                  case round =>
                    clear H'
                    try clear p1
                    try clear q1
                    try clear hx1
                    try clear c2
                    try clear c2b0
                    try clear p2
                    try clear c3
                    try clear c4
                    try clear c4b0
                    try clear c5
                    try clear c5b0
                    try clear c5b1
                    try clear c6
                    try clear p6
                    try clear c7
                    try clear c7b0
                    try clear c8
                    try clear c8b0
                    try clear hx109_0
                    try clear hx109_1
                    try clear hx109_2
                    try clear hx109_3
                    try clear hx109_4
                    try clear hx109_5
                    try clear hx110_0
                    try clear hx110_1
                    try clear hx110_2
                    try clear hx110_3
                    try clear hx110_4
                    try clear hx110_5
                    try clear hx111_0
                    try clear hx111_1
                    try clear hx111_2
                    try clear hx111_3
                    try clear hx111_4
                    try clear hx111_5
                    try clear p1
                    try clear p109
                    try clear p110
                    try clear p111
                    try clear p2
                    try clear q1
                    try clear q109
                    try clear q110
                    try clear q111
                    obtain ⟨x6_3, rfl, HA, HK3, HO_3, HB⟩ := hrel
                    cases gk with
                    | zero => exact absurd HA.out (by simp [tabardref17_Targets.l1])
                    | succ k3 =>
                      have H := HA.out
                      clear HA
                      simp only [tabardref17_Targets.l1] at H
                      by_cases c9 : x6_3 < (x3_1.length : Int)
                      · rw [if_pos c9] at H
                        have c9b0 : decide (x6_3 < (x3_1.length : Int)) = true := decide_eq_true c9
                        clear c9
                        by_cases c10 : 0 ≤ x6_3
                        · rw [if_pos c10] at H
                          have c10b0 : decide (0 ≤ x6_3) = true := decide_eq_true c10
                          clear c10
                          by_cases c11 : (rd x3_1 x6_3) < ((rd_T28 l0 x4_1).f5)
                          · rw [if_pos c11] at H
                            have c11b0 : decide ((rd x3_1 x6_3) < ((rd_T28 l0 x4_1).f5)) = true := decide_eq_true c11
                            clear c11
                            have H' := Aside0.mk H
                            clear H
                            obtain ⟨Ao12, co12, eo12⟩ := Kd.R_slice HO_3.out
                            subst eo12
                            have p112 : 0 ≤ (x6_3 : Int) := of_decide_eq_true (by first | (with_reducible assumption) | assumption)
                            have q112 : x6_3 < (x3_1.length : Int) := of_decide_eq_true (by first | (with_reducible assumption) | assumption)
                            obtain ⟨ad112, e112, hx112_0⟩ := Kd.at_int (Kd.R_reads' HO_3.out).2.2 x6_3 p112 q112
                            cases e112
                            replace p112 := eq_true p112
                            replace q112 := eq_true q112
                            go_wp2
                            go_roundg k3
                            case measure => have := HK1.out; have := HJ2.out; have := HK3.out; omega
                            case rel => exact ⟨(wrap64 (x6_3 + 1)), (by first | rfl | (simp; done) | (simp [*]; done)), H', ⟨by have := HK1.out; have := HJ2.out; have := HK3.out; omega⟩, ⟨by (with_reducible repeat (first | apply Kd.R_alloc | apply Kd.R_drewN | apply Kd.R_drew)); exact HO_3.out⟩, ⟨by repeat (first | (with_reducible first | exact HB.out | apply below_alloc | apply pw_below_drewN | apply below_drew1) | exact HB.out)⟩⟩
                          · rw [if_neg c11] at H
                            have c11b0 : decide ((rd x3_1 x6_3) < ((rd_T28 l0 x4_1).f5)) = false := decide_eq_false c11
                            clear c11
                            by_cases c13 : (rd x3_1 x6_3) = ((rd_T28 l0 x4_1).f5)
                            · rw [if_pos c13] at H
                              have c13b0 : ((rd x3_1 x6_3) == ((rd_T28 l0 x4_1).f5)) = true := beq_iff_eq.mpr c13
                              have c13b1 : ((rd x3_1 x6_3) != ((rd_T28 l0 x4_1).f5)) = false := bne_eq_false_iff_eq.mpr c13
                              clear c13
                              have H' := Aside0.mk H
                              clear H
                              obtain ⟨Ao14, co14, eo14⟩ := Kd.R_slice HO_3.out
                              subst eo14
                              have p112 : 0 ≤ (x6_3 : Int) := of_decide_eq_true (by first | (with_reducible assumption) | assumption)
                              have q112 : x6_3 < (x3_1.length : Int) := of_decide_eq_true (by first | (with_reducible assumption) | assumption)
                              obtain ⟨ad112, e112, hx112_0⟩ := Kd.at_int (Kd.R_reads' HO_3.out).2.2 x6_3 p112 q112
                              cases e112
                              replace p112 := eq_true p112
                              replace q112 := eq_true q112
                              have p113 : 0 ≤ (x6_3 : Int) := of_decide_eq_true (by first | (with_reducible assumption) | assumption)
                              have q113 : x6_3 < (x3_1.length : Int) := of_decide_eq_true (by first | (with_reducible assumption) | assumption)
                              obtain ⟨ad113, e113, hx113_0⟩ := Kd.at_int (Kd.R_reads' HO_3.out).2.2 x6_3 p113 q113
                              obtain rfl : ad112 = ad113 := (by injection e113)
                              replace p113 := eq_true p113
                              replace q113 := eq_true q113
                              go_wp2
                              go_roundg k3
                              case measure => have := HK1.out; have := HJ2.out; have := HK3.out; omega
                              case rel => exact ⟨(x3_1), (wrap64 (x4_1 + 1)), (by first | rfl | (simp; done) | (simp [*]; done)), H', ⟨by have := HK1.out; have := HJ2.out; have := HK3.out; omega⟩, ⟨by (with_reducible repeat (first | apply Kd.R_alloc | apply Kd.R_drewN | apply Kd.R_drew)); exact HO_3.out⟩, ⟨by repeat (first | (with_reducible first | exact HB.out | apply below_alloc | apply pw_below_drewN | apply below_drew1) | exact HB.out)⟩⟩
                            · rw [if_neg c13] at H
                              have c13b0 : ((rd x3_1 x6_3) == ((rd_T28 l0 x4_1).f5)) = false := beq_eq_false_iff_ne.mpr c13
                              have c13b1 : ((rd x3_1 x6_3) != ((rd_T28 l0 x4_1).f5)) = true := bne_iff_ne.mpr c13
                              by_cases c15 : x3_1.length < 17592186044416
                              · rw [if_pos c15] at H
                                have LMc15 := Aside0.mk c15
                                clear c15
                                obtain ⟨y114, hy114⟩ : ∃ y_ : List Int, y_ = (insAt x3_1 x6_3 ((rd_T28 l0 x4_1).f5)) := ⟨_, rfl⟩
                                replace H : (tabardref17_Targets.l0 k3 l0 y114 (wrap64 (x4_1 + 1))) = some r := by first | (rw [hy114]; with_reducible exact H) | (have H2_ := (Option.bind_some _ _).symm.trans H; rw [hy114]; with_reducible exact H2_) | (have H2_ := (Option.bind_some _ _).symm.trans H; with_reducible exact H2_) | with_reducible exact H | (rw [hy114]; exact H) | exact H
                                have Ny114 := Aside0.mk hy114
                                clear hy114
                                have H' := Aside0.mk H
                                clear H
                                have p112 : 0 ≤ (x6_3 : Int) := of_decide_eq_true (by first | (with_reducible assumption) | assumption)
                                have q112 : x6_3 < (x3_1.length : Int) := of_decide_eq_true (by first | (with_reducible assumption) | assumption)
                                have hle6 : x6_3 ≤ (x3_1.length : Int) := Int.le_of_lt q112
                                have h06 : 0 ≤ x6_3 := p112
                                have hLM := LMc15.out
                                obtain ⟨n6, hn6⟩ : ∃ n : Nat, x6_3 = (n : Int) := ⟨x6_3.toNat, by omega⟩
                                subst hn6
                                rcases src_case HO_3.out n6 h06 hle6 with ⟨rfl, rfl, h06z⟩ | ⟨g, cap, cur, rfl, hgB, hgb, hcap, hmax, hcur⟩
                                · simp at q112
                                  omega
                                · have hcx : wr.cell? ⟨g, n6, none⟩ = some (.int .i64 (rd x3_1 n6)) := by
                                    rw [blk_cell hgb]; exact hcur _ _ (by rw [List.getElem?_eq_getElem (by omega)]; unfold rd; rw [List.getD_eq_getElem?_getD, Int.toNat_natCast, List.getElem?_eq_getElem (by omega)]; rfl)
                                  replace p112 := eq_true p112
                                  replace q112 := eq_true q112
                                  go_upto_region 12 with fail
                                  go_wp2
                                  have hxm : x3_1.length ≤ maxLen := Nat.le_trans hcap hmax
                                  have hl6 : n6 ≤ x3_1.length := by omega
                                  have hx6cap : n6 ≤ cap := by omega
                                  go_region_held3 (S12 g cur w) (first
                                      | exact ⟨hgb, below_drew HB.out⟩
                                      | exact ⟨blk_drew (blk_alloc hgb _), below_drew (below_alloc HB.out _)⟩
                                      | exact ⟨blk_alloc (by assumption : S12 g cur w _).1 _, below_alloc (by assumption : S12 g cur w _).2 _⟩
                                      | exact ⟨(hg70.block _ (blk_lt (by assumption : S12 g cur w _).1) (fun h => ho66.1 g h.symm rfl)).trans (by assumption : S12 g cur w _).1, hb70⟩
                                      | exact ⟨(hg66.block _ (blk_lt (by assumption : S12 g cur w _).1) (fun h => ho63.1 g h.symm rfl)).trans (by assumption : S12 g cur w _).1, hb66⟩
                                      | exact ⟨(hg63.block _ (blk_lt (by assumption : S12 g cur w _).1) (by simp [Value.ownBlock])).trans (by assumption : S12 g cur w _).1, hb63⟩)
                                    (first
                                    | (refine Kd.R_append_rows_step (Kd.int .i64) (w0 := w) w.heap.size (by rfl) (.tmp 59) (.tmp 62) 41 3 (.int .i64 0) 8 rfl Try.underlying41 info3 rfl (by decide) (by omega) (.slice none 0 0) [] ((x3_1.drop 0).take n6) _ _ _ (fun k => k ≠ g) (fun _ => False) rfl rfl (Kd.R_nil _ _ _ _ _) (src_C (by assumption : S12 g cur w _).1 hcur hxm 0 n6 (by omega)) (fun _ _ h => h) (fun _ h => h.elim) (fun k hk => by have := blk_lt (by assumption : S12 g cur w _).1; omega) (by assumption : S12 g cur w _).2 (by assumption : S12 g cur w _).2.size (by simp only [List.length_nil, Nat.zero_add]; omega) ?_; intro v63 w63 ho63 hb63 hg63 hat63)
                                    | (refine Kd.R_append_rows_step (Kd.int .i64) (w0 := w) w.heap.size (by rfl) (.tmp 63) (.tmp 65) 41 3 (.int .i64 0) 8 rfl Try.underlying41 info3 rfl (by decide) (by omega) v63 _ [((rd_T28 l0 x4_1).f5)] _ _ _ (fun k => k ≠ g) (fun _ => False) rfl rfl (by first | exact ho63 | exact Kd.R_alloc ho63 _) (lit_C (by first | exact blk_new _ _ | exact (hg63.block _ (blk_lt (blk_drew (blk_new _ _))) (by simp [Value.ownBlock])).trans (blk_drew (blk_new _ _)))) (fun _ _ h => h) (fun _ h => h.elim) (fun k hk => by have := blk_lt (by assumption : S12 g cur w _).1; omega) (by assumption : S12 g cur w _).2 (by assumption : S12 g cur w _).2.size (by simp only [List.length_nil, List.nil_append, List.length_take, List.length_drop]; omega) ?_; intro v66 w66 ho66 hb66 hg66 hat66)
                                    | (refine Kd.R_append_rows_step (Kd.int .i64) (w0 := w) w.heap.size (by rfl) (.tmp 66) (.tmp 69) 41 3 (.int .i64 0) 8 rfl Try.underlying41 info3 rfl (by decide) (by omega) v66 _ ((x3_1.drop n6).take (x3_1.length - n6)) _ _ _ (fun k => k ≠ g) (fun _ => False) rfl rfl ho66 (src_C2 (by assumption : S12 g cur w _).1 hcur hxm hcap n6 (x3_1.length - n6) (by omega)) (fun _ _ h => h) (fun _ h => h.elim) (fun k hk => by have := blk_lt (by assumption : S12 g cur w _).1; omega) (by assumption : S12 g cur w _).2 (by assumption : S12 g cur w _).2.size (by simp only [List.length_append, List.length_nil, List.nil_append, List.length_take, List.length_drop, List.length_cons]; omega) ?_; intro v70 w70 ho70 hb70 hg70 hat70))
                                  all_goals go_wp2
                                  all_goals (
                                    have HB := Aside0.mk hb70
                                    have HOZ := Aside0.mk (Kd.R_mono (ok' := fun _ => True) ho70 (fun _ _ => trivial))
                                    rw [show ([] ++ List.take n6 (List.drop 0 x3_1) ++ [(rd_T28 l0 x4_1).f5] ++ List.take (x3_1.length - n6) (List.drop n6 x3_1)) = y114 from by rw [Ny114.out]; unfold insAt; rw [Int.toNat_natCast]; simp [List.take_of_length_le]] at HOZ
                                    go_roundg k3
                                    case measure => have := HK1.out; have := HJ2.out; have := HK3.out; omega
                                    case rel => exact ⟨(y114), (wrap64 (x4_1 + 1)), (by first | rfl | (simp; done) | (simp [*]; done)), H', ⟨by have := HK1.out; have := HJ2.out; have := HK3.out; omega⟩, ⟨by (with_reducible repeat (first | apply Kd.R_alloc | apply Kd.R_drewN | apply Kd.R_drew)); exact HOZ.out⟩, ⟨by repeat (first | (with_reducible first | exact HB.out | apply below_alloc | apply pw_below_drewN | apply below_drew1) | exact HB.out)⟩⟩)
                                
                              · rw [if_neg c15] at H
                                exact absurd H (by simp)
                        · rw [if_neg c10] at H
                          exact absurd H (by simp)
                      · rw [if_neg c9] at H
                        have c9b0 : decide (x6_3 < (x3_1.length : Int)) = false := decide_eq_false c9
                        clear c9
                        by_cases c18e : x6_3 = (x3_1.length : Int)
                        case neg => exact absurd H (by rw [if_neg c18e]; simp)
                        rw [if_pos c18e] at H
                        by_cases c18 : x3_1.length < 17592186044416
                        · rw [if_pos c18] at H
                          have LMc18 := Aside0.mk c18
                          clear c18
                          obtain ⟨y117, hy117⟩ : ∃ y_ : List Int, y_ = (insAt x3_1 x6_3 ((rd_T28 l0 x4_1).f5)) := ⟨_, rfl⟩
                          replace H : (tabardref17_Targets.l0 k3 l0 y117 (wrap64 (x4_1 + 1))) = some r := by first | (rw [hy117]; with_reducible exact H) | (have H2_ := (Option.bind_some _ _).symm.trans H; rw [hy117]; with_reducible exact H2_) | (have H2_ := (Option.bind_some _ _).symm.trans H; with_reducible exact H2_) | with_reducible exact H | (rw [hy117]; exact H) | exact H
                          have Ny117 := Aside0.mk hy117
                          clear hy117
                          have H' := Aside0.mk H
                          clear H
                          have hLM := LMc18.out
                          have hle6 : x6_3 ≤ (x3_1.length : Int) := by omega
                          have h06 : 0 ≤ x6_3 := by omega
                          have hge6 : (x3_1.length : Int) ≤ x6_3 := by omega
                          clear c18e
                          obtain ⟨n6, hn6⟩ : ∃ n : Nat, x6_3 = (n : Int) := ⟨x6_3.toNat, by omega⟩
                          subst hn6
                          rcases src_case HO_3.out n6 h06 hle6 with ⟨rfl, rfl, h06z⟩ | ⟨g, cap, cur, rfl, hgB, hgb, hcap, hmax, hcur⟩
                          · obtain rfl : n6 = 0 := by omega
                            have q9 : ((0 : Int) < (([] : List Int).length : Int)) = False := eq_false (by simp)
                            go_upto_region 12 with fail
                            go_region_held3 (B12 w) (first
                                | exact below_drew HB.out
                                | exact below_drew (below_alloc HB.out _)
                                | exact below_alloc (by assumption : B12 w _) _
                                | exact hb70
                                | exact hb66
                                | exact hb63)
                              (first
                              | (refine Kd.R_append_rows_step (Kd.int .i64) (w0 := w) w.heap.size (by rfl) (.tmp 59) (.tmp 62) 41 3 (.int .i64 0) 8 rfl Try.underlying41 info3 rfl (by decide) (by omega) (.slice none 0 0) [] [] _ _ _ (fun _ => True) (fun _ => False) rfl rfl (Kd.R_nil _ _ _ _ _) (nil_C _ _) (fun _ _ h => h) (fun _ h => h.elim) (fun k hk => trivial) (by assumption : B12 w _) (Below.size (by assumption : B12 w _)) (by simp) ?_; intro v63 w63 ho63 hb63 hg63 hat63)
                              | (refine Kd.R_append_rows_step (Kd.int .i64) (w0 := w) w.heap.size (by rfl) (.tmp 63) (.tmp 65) 41 3 (.int .i64 0) 8 rfl Try.underlying41 info3 rfl (by decide) (by omega) v63 _ [((rd_T28 l0 x4_1).f5)] _ _ _ (fun _ => True) (fun _ => False) rfl rfl (by first | exact ho63 | exact Kd.R_alloc ho63 _) (lit_C (by first | exact blk_new _ _ | exact (hg63.block _ (blk_lt (blk_drew (blk_new _ _))) (by simp [Value.ownBlock])).trans (blk_drew (blk_new _ _)))) (fun _ _ h => h) (fun _ h => h.elim) (fun k hk => trivial) (by assumption : B12 w _) (Below.size (by assumption : B12 w _)) (by simp) ?_; intro v66 w66 ho66 hb66 hg66 hat66)
                              | (refine Kd.R_append_rows_step (Kd.int .i64) (w0 := w) w.heap.size (by rfl) (.tmp 66) (.tmp 69) 41 3 (.int .i64 0) 8 rfl Try.underlying41 info3 rfl (by decide) (by omega) v66 _ [] _ _ _ (fun _ => True) (fun _ => False) rfl rfl ho66 (nil_C _ _) (fun _ _ h => h) (fun _ h => h.elim) (fun k hk => trivial) (by assumption : B12 w _) (Below.size (by assumption : B12 w _)) (by simp) ?_; intro v70 w70 ho70 hb70 hg70 hat70))
                            all_goals go_wp2
                            all_goals (
                              have HB := Aside0.mk hb70
                              have HOZ := Aside0.mk ho70
                              rw [show ([] ++ [] ++ [(rd_T28 l0 x4_1).f5] ++ []) = y117 from by rw [Ny117.out]; unfold insAt; simp] at HOZ
                              go_roundg k3
                              case measure => have := HK1.out; have := HJ2.out; have := HK3.out; omega
                              case rel => exact ⟨(y117), (wrap64 (x4_1 + 1)), (by first | rfl | (simp; done) | (simp [*]; done)), H', ⟨by have := HK1.out; have := HJ2.out; have := HK3.out; omega⟩, ⟨by (with_reducible repeat (first | apply Kd.R_alloc | apply Kd.R_drewN | apply Kd.R_drew)); exact HOZ.out⟩, ⟨by repeat (first | (with_reducible first | exact HB.out | apply below_alloc | apply pw_below_drewN | apply below_drew1) | exact HB.out)⟩⟩)
                          · have q9 : ((n6 : Int) < (x3_1.length : Int)) = False := eq_false (by omega)
                            have q9b : (n6 < x3_1.length) = False := eq_false (by omega)
                            have q9c : decide (n6 < x3_1.length) = false := decide_eq_false (by omega)
                            go_upto_region 12 with fail
                            have hxm : x3_1.length ≤ maxLen := Nat.le_trans hcap hmax
                            have hl6 : n6 ≤ x3_1.length := by omega
                            have hx6cap : n6 ≤ cap := by omega
                            go_region_held3 (S12 g cur w) (first
                                | exact ⟨hgb, below_drew HB.out⟩
                                | exact ⟨blk_drew (blk_alloc hgb _), below_drew (below_alloc HB.out _)⟩
                                | exact ⟨blk_alloc (by assumption : S12 g cur w _).1 _, below_alloc (by assumption : S12 g cur w _).2 _⟩
                                | exact ⟨(hg70.block _ (blk_lt (by assumption : S12 g cur w _).1) (fun h => ho66.1 g h.symm rfl)).trans (by assumption : S12 g cur w _).1, hb70⟩
                                | exact ⟨(hg66.block _ (blk_lt (by assumption : S12 g cur w _).1) (fun h => ho63.1 g h.symm rfl)).trans (by assumption : S12 g cur w _).1, hb66⟩
                                | exact ⟨(hg63.block _ (blk_lt (by assumption : S12 g cur w _).1) (by simp [Value.ownBlock])).trans (by assumption : S12 g cur w _).1, hb63⟩)
                              (first
                              | (refine Kd.R_append_rows_step (Kd.int .i64) (w0 := w) w.heap.size (by rfl) (.tmp 59) (.tmp 62) 41 3 (.int .i64 0) 8 rfl Try.underlying41 info3 rfl (by decide) (by omega) (.slice none 0 0) [] ((x3_1.drop 0).take n6) _ _ _ (fun k => k ≠ g) (fun _ => False) rfl rfl (Kd.R_nil _ _ _ _ _) (src_C (by assumption : S12 g cur w _).1 hcur hxm 0 n6 (by omega)) (fun _ _ h => h) (fun _ h => h.elim) (fun k hk => by have := blk_lt (by assumption : S12 g cur w _).1; omega) (by assumption : S12 g cur w _).2 (by assumption : S12 g cur w _).2.size (by simp only [List.length_nil, Nat.zero_add]; omega) ?_; intro v63 w63 ho63 hb63 hg63 hat63)
                              | (refine Kd.R_append_rows_step (Kd.int .i64) (w0 := w) w.heap.size (by rfl) (.tmp 63) (.tmp 65) 41 3 (.int .i64 0) 8 rfl Try.underlying41 info3 rfl (by decide) (by omega) v63 _ [((rd_T28 l0 x4_1).f5)] _ _ _ (fun k => k ≠ g) (fun _ => False) rfl rfl (by first | exact ho63 | exact Kd.R_alloc ho63 _) (lit_C (by first | exact blk_new _ _ | exact (hg63.block _ (blk_lt (blk_drew (blk_new _ _))) (by simp [Value.ownBlock])).trans (blk_drew (blk_new _ _)))) (fun _ _ h => h) (fun _ h => h.elim) (fun k hk => by have := blk_lt (by assumption : S12 g cur w _).1; omega) (by assumption : S12 g cur w _).2 (by assumption : S12 g cur w _).2.size (by simp only [List.length_nil, List.nil_append, List.length_take, List.length_drop]; omega) ?_; intro v66 w66 ho66 hb66 hg66 hat66)
                              | (refine Kd.R_append_rows_step (Kd.int .i64) (w0 := w) w.heap.size (by rfl) (.tmp 66) (.tmp 69) 41 3 (.int .i64 0) 8 rfl Try.underlying41 info3 rfl (by decide) (by omega) v66 _ ((x3_1.drop n6).take (x3_1.length - n6)) _ _ _ (fun k => k ≠ g) (fun _ => False) rfl rfl ho66 (src_C2 (by assumption : S12 g cur w _).1 hcur hxm hcap n6 (x3_1.length - n6) (by omega)) (fun _ _ h => h) (fun _ h => h.elim) (fun k hk => by have := blk_lt (by assumption : S12 g cur w _).1; omega) (by assumption : S12 g cur w _).2 (by assumption : S12 g cur w _).2.size (by simp only [List.length_append, List.length_nil, List.nil_append, List.length_take, List.length_drop, List.length_cons]; omega) ?_; intro v70 w70 ho70 hb70 hg70 hat70))
                            all_goals go_wp2
                            all_goals (
                              have HB := Aside0.mk hb70
                              have HOZ := Aside0.mk (Kd.R_mono (ok' := fun _ => True) ho70 (fun _ _ => trivial))
                              rw [show ([] ++ List.take n6 (List.drop 0 x3_1) ++ [(rd_T28 l0 x4_1).f5] ++ List.take (x3_1.length - n6) (List.drop n6 x3_1)) = y117 from by rw [Ny117.out]; unfold insAt; rw [Int.toNat_natCast]; simp [List.take_of_length_le]] at HOZ
                              go_roundg k3
                              case measure => have := HK1.out; have := HJ2.out; have := HK3.out; omega
                              case rel => exact ⟨(y117), (wrap64 (x4_1 + 1)), (by first | rfl | (simp; done) | (simp [*]; done)), H', ⟨by have := HK1.out; have := HJ2.out; have := HK3.out; omega⟩, ⟨by (with_reducible repeat (first | apply Kd.R_alloc | apply Kd.R_drewN | apply Kd.R_drew)); exact HOZ.out⟩, ⟨by repeat (first | (with_reducible first | exact HB.out | apply below_alloc | apply pw_below_drewN | apply below_drew1) | exact HB.out)⟩⟩)
                          
                        · rw [if_neg c18] at H
                          exact absurd H (by simp)
                · rw [if_neg c8] at H
                  exact absurd H (by simp)
              · rw [if_neg c7] at H
                exact absurd H (by simp)
      · rw [if_neg c2] at H
        have c2b0 : decide (x4_1 < (l0.length : Int)) = false := decide_eq_false c2
        clear c2
        obtain rfl := Option.some.inj H
        go_wp2
        go_ret
        exact ⟨_, by first | rfl | (simp [errW_none, errW_some] <;> rfl) | (simp [*, errW_none, errW_some] <;> rfl), by (with_reducible repeat (first | apply Kd.R_alloc | apply Kd.R_drewN | apply Kd.R_drew)); exact HO_3.out, by repeat (first | (with_reducible first | exact HB.out | apply below_alloc | apply pw_below_drewN | apply below_drew1) | exact HB.out)⟩

end Go.Proofs.Ythbgoecgfoglnaa.PW
