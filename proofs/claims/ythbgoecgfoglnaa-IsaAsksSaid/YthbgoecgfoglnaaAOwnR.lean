/- isa.Reads as an iterator: what it yields, round by round. No condition beyond the hypotheses. -/
import Derived.RangeFuncNested
import Derived.RangeFuncBound
import Derived.RangeFuncCalls
import Derived.RangeFuncLeaves
import Derived.RangeFuncFrom
import Derived.Shelf.Abstract
import Derived.Shelf.RegionOpen
import Derived.OwnWalkIn
import Derived.TacticsInMore
import Derived.LoopNIn
import Derived.LoopIn
import Derived.Test.YthbgoecgfoglnaaAOwn4
set_option linter.unusedVariables false
set_option linter.unusedSimpArgs false
namespace Go.Proofs.Ythbgoecgfoglnaa.Own
open Go.RowKit Go.Shelf Go.Proofs.YthbgoecgfoglnaaW.PrintWords Go.Proofs.YthbgoecgfoglnaaW.PrintLast Go.Proofs.YthbgoecgfoglnaaW.PrintMore
attribute [local go_sem] Oper.semAt_some

/-- What a round keeps: all rows of cells but those in S. -/
def KpX (S : Nat → Prop) (W W' : World) : Prop := W.heap.size ≤ W'.heap.size ∧ ∀ b cs t fr, ¬ S b → W.heap[b]? = some (.cells cs t fr) → W'.heap[b]? = some (.cells cs t fr)
theorem KpX.trans {S : Nat → Prop} {A B C : World} (h : KpX S A B) (k : KpX S B C) : KpX S A C := ⟨Nat.le_trans h.1 k.1, fun b cs t fr hS hb => k.2 b cs t fr hS (h.2 b cs t fr hS hb)⟩
theorem KpX.cell {S : Nat → Prop} {W W' : World} (h : KpX S W W') {b o : Nat} {v : Value} (hS : ¬ S b) (hc : W.cell? ⟨b, o, none⟩ = some v) : W'.cell? ⟨b, o, none⟩ = some v := by
  unfold World.cell? at hc ⊢
  cases hb : W.heap[b]? with
  | none => simp [hb] at hc
  | some x =>
    cases x <;> simp [hb] at hc
    rename_i cs t fr
    simp only [h.2 b cs t fr hS hb]
    simpa using hc
def readsB (q : ByteArray × Bool × Bool × Bool × Bool × Int × Bool) (x0 x1 x2 x3 x5 e : Int) : List Int :=
  match q with
  | (_, _, a, b, _, _, _) => if e = 0 then (if (a && (x0 != 36 || x5 != 0)) = true then [x2] else []) ++ ((if b = true then [x3] else []) ++ (if x0 = 17 then [x1] else [])) else []
set_option maxHeartbeats 8000000 in
set_option maxRecDepth 100000 in
theorem reads_walk (x0 x1 x2 x3 x4 x5 e : Int) (s : ByteArray) (d a b x : Bool) (nn : Int) (i : Bool) (hof : isa_of.f x0 = some (s, d, a, b, x, nn, i)) (he : isa_Check.f x0 x1 x2 x3 x4 x5 = some e) (S : Nat → Prop) (n l Bx : Nat) (J Jx : List Int → World → Prop) (W : World)
    (hJ : AbidesFrom W.heap.size J) (hS : ¬ S Bx) (hS2 : ∀ k, W.heap.size ≤ k → ¬ S k) (N : Nat) (hN : 3 ≤ N)
    (hY : ∀ pre x W1, J pre W1 → pre.length < N → YieldAt Fence.wide (n - 1) Try.prog l #[.int .i64 x] W1 fun e W' =>
      (e = .returned (.bool true) ∧ J (pre ++ [x]) W' ∧ KpX S W1 W') ∨ (e = .returned (.bool false) ∧ Jx (pre ++ [x]) W'))
    (hx : W.heap[Bx]? = some (.cells #[.int .i64 x0, .int .i64 x1, .int .i64 x2, .int .i64 x3, .int .i64 x4, .int .i64 x5] 28 (0, 0)))
    (h0 : J [] W) (ys : List Int) (hys0 : ys = readsB (s, d, a, b, x, nn, i) x0 x1 x2 x3 x5 e) :
    CallsIn Fence.wide n Try.prog 42 #[.func (.yield l) #[] #[], .pointer (some ⟨Bx, 0, none⟩)] W fun e' W' => (∃ v, e' = .returned v) ∧
      ((∃ zs, zs = ys ∧ J zs W') ∨ (∃ pre, pre <+: ys ∧ Jx pre W')) := by
  have hys := Lib.hid hys0
  clear hys0
  have HO := Lib.hid hof
  clear hof
  have HE := Lib.hid he
  clear he
  have c0 : W.cell? ⟨Bx, 0, none⟩ = some (.int .i64 x0) := (blk_cell hx 0).trans rfl
  have c1 : W.cell? ⟨Bx, 1, none⟩ = some (.int .i64 x1) := (blk_cell hx 1).trans rfl
  have c2 : W.cell? ⟨Bx, 2, none⟩ = some (.int .i64 x2) := (blk_cell hx 2).trans rfl
  have c3 : W.cell? ⟨Bx, 3, none⟩ = some (.int .i64 x3) := (blk_cell hx 3).trans rfl
  have c4 : W.cell? ⟨Bx, 4, none⟩ = some (.int .i64 x4) := (blk_cell hx 4).trans rfl
  have c5 : W.cell? ⟨Bx, 5, none⟩ = some (.int .i64 x5) := (blk_cell hx 5).trans rfl
  have hlt := blk_lt hx
  clear hx
  refine callsIn_of_wp Try.func42 rfl trivial ?_ rfl
  simp only [Try.ntmps42, List.size_toArray, List.length_cons, List.length_nil, Nat.reduceAdd, Nat.reduceSub, Array.replicate_succ, Array.replicate_zero, List.push_toArray, List.append_toArray, List.nil_append, List.cons_append]
  gi_wp2_with fail
  refine ⟨trivial, (fun h => by cases h), ?_⟩
  refine (callsIn_wide.2 (isa_of.calls _ _ _ _ _ _ _ _ _ HO.out)).mono ?_
  rintro e w' ⟨rfl, hb⟩
  have HB1 := Aside0.mk hb
  have hz : W.heap.size ≤ w'.heap.size := hb.size
  have k0 := (hb.cell (p := ⟨Bx, 0, none⟩) hlt).trans c0
  have k1 := (hb.cell (p := ⟨Bx, 1, none⟩) hlt).trans c1
  have k2 := (hb.cell (p := ⟨Bx, 2, none⟩) hlt).trans c2
  have k3 := (hb.cell (p := ⟨Bx, 3, none⟩) hlt).trans c3
  have k4 := (hb.cell (p := ⟨Bx, 4, none⟩) hlt).trans c4
  have k5 := (hb.cell (p := ⟨Bx, 5, none⟩) hlt).trans c5
  have hlt2 : Bx < w'.heap.size := by omega
  clear hb c0 c1 c2 c3 c4 c5
  gi_wp2_with fail
  refine ⟨trivial, (fun h => by cases h), ?_⟩
  refine (callsIn_wide.2 (isa_Check.calls _ _ _ _ _ _ _ _ HE.out)).mono ?_
  rintro e' w'' ⟨rfl, hb2⟩
  clear HO HE
  have hW2 : Below W.heap.size W w'' := below_step (below_alloc HB1.out _) hb2
  have hJ0 := hJ [] W w'' none h0 (grown_of_below hW2 none) (fun r e => by cases e)
  have hgx : w''.heap[w'.heap.size]? = some (.cells #[.string s, .bool d, .bool a, .bool b, .bool x, .int .i64 nn] 58 (0, 0)) := (hb2.block _ (by simp)).trans (heap_alloc_new _ _)
  have hSg : ¬ S w'.heap.size := hS2 _ hz
  have m0 := (hb2.cell (p := ⟨Bx, 0, none⟩) (by simp; omega)).trans ((World.cell?_alloc_lt _ _ _ hlt2).trans k0)
  have m1 := (hb2.cell (p := ⟨Bx, 1, none⟩) (by simp; omega)).trans ((World.cell?_alloc_lt _ _ _ hlt2).trans k1)
  have m2 := (hb2.cell (p := ⟨Bx, 2, none⟩) (by simp; omega)).trans ((World.cell?_alloc_lt _ _ _ hlt2).trans k2)
  have m3 := (hb2.cell (p := ⟨Bx, 3, none⟩) (by simp; omega)).trans ((World.cell?_alloc_lt _ _ _ hlt2).trans k3)
  have m5 := (hb2.cell (p := ⟨Bx, 5, none⟩) (by simp; omega)).trans ((World.cell?_alloc_lt _ _ _ hlt2).trans k5)
  have q2 : w''.cell? ⟨w'.heap.size, 2, none⟩ = some (.bool a) := (blk_cell hgx 2).trans rfl
  have q3 : w''.cell? ⟨w'.heap.size, 3, none⟩ = some (.bool b) := (blk_cell hgx 3).trans rfl
  clear hb2 hgx k0 k1 k2 k3 k4 k5 hW2 HB1 hz hlt hlt2 h0 hJ hS2
  generalize w'.heap.size = gh at *
  clear w'
  by_cases he0 : e = 0
  case neg =>
    have b0 : (e != 0) = true := by simpa using he0
    gi_wp2
    refine bodyPost_ret (results_none rfl _ _ _) rfl ?_
    exact ⟨⟨_, rfl⟩, .inl ⟨[], by rw [hys.out]; simp [readsB, he0], hJ0⟩⟩
  case pos =>
    have b0 : (e != 0) = false := by simpa using he0
    have HY : ys = (if (a && (x0 != 36 || x5 != 0)) = true then [x2] else []) ++ ((if b = true then [x3] else []) ++ (if x0 = 17 then [x1] else [])) := by rw [hys.out]; simp [readsB, he0]
    clear hys he0
    have hys := Lib.hid HY
    clear HY
    have e36 : (x0 = 36 ∧ (x0 != 36) = false) ∨ (x0 ≠ 36 ∧ (x0 != 36) = true) := by by_cases h : x0 = 36 <;> simp [h]
    have e5 : (x5 = 0 ∧ (x5 != 0) = false) ∨ (x5 ≠ 0 ∧ (x5 != 0) = true) := by by_cases h : x5 = 0 <;> simp [h]
    have e17 : (x0 = 17 ∧ (x0 == 17) = true) ∨ (x0 ≠ 17 ∧ (x0 == 17) = false) := by by_cases h : x0 = 17 <;> simp [h]
    have H36 := Lib.hid e36
    have H5 := Lib.hid e5
    have H17 := Lib.hid e17
    clear e36 e5 e17
    have hno : ∀ (h : (a && (x0 != 36 || x5 != 0)) = false), (a = false) ∨ (a = true ∧ (x0 != 36) = false ∧ (x5 != 0) = false) := by intro h; revert h; cases a <;> cases (x0 != 36) <;> cases (x5 != 0) <;> simp
    have hyes : ∀ (h : (a && (x0 != 36 || x5 != 0)) = true), a = true ∧ ((x0 != 36) = true ∨ ((x0 != 36) = false ∧ (x5 != 0) = true)) := by intro h; revert h; cases a <;> cases (x0 != 36) <;> cases (x5 != 0) <;> simp
    have HNO := Lib.hid hno
    have HYES := Lib.hid hyes
    clear hno hyes H36 H5
    cases hya : (a && (x0 != 36 || x5 != 0))
    case false =>
      rcases HNO.out hya with rfl | ⟨rfl, p36, p5⟩ <;> (have hyh := Lib.hid hya; clear hya)
      all_goals
        clear HNO HYES
        cases b
        case false =>
          rcases H17.out with ⟨h17', b17⟩ | ⟨h17', b17⟩ <;> have h17 := Lib.hid h17' <;> clear h17'
          · obtain ⟨fn, tmps, assign, body, hy, hR⟩ := hY ([] : List Int) x1 w'' hJ0 (by simp; omega)
            gi_wp2
            repeat (refine ⟨fun _ h => (by cases h), ?_⟩; gi_wp2)
            refine ⟨(fun h => by cases h), hR.mono ?_⟩
            rintro e' W9 (⟨rfl, hJ9, hk9⟩ | ⟨rfl, hJ9⟩)
            · gi_wp2
              repeat (refine ⟨fun _ h => (by cases h), ?_⟩; gi_wp2)
              (first | (refine bodyPost_ret (results_none rfl _ _ _) rfl ?_) | go_end0)
              exact ⟨⟨_, rfl⟩, .inl ⟨_, by rw [hys.out, hyh.out]; simp [h17.out], hJ9⟩⟩
            · gi_wp2
              repeat (refine ⟨fun _ h => (by cases h), ?_⟩; gi_wp2)
              (first | (refine bodyPost_ret (results_none rfl _ _ _) rfl ?_) | go_end0)
              exact ⟨⟨_, rfl⟩, .inr ⟨_, ⟨[], by rw [hys.out, hyh.out]; simp [h17.out]⟩, hJ9⟩⟩
          · skip
            gi_wp2
            repeat (refine ⟨fun _ h => (by cases h), ?_⟩; gi_wp2)
            (first | (refine bodyPost_ret (results_none rfl _ _ _) rfl ?_) | go_end0)
            exact ⟨⟨_, rfl⟩, .inl ⟨_, by rw [hys.out, hyh.out]; simp [h17.out], hJ0⟩⟩
        case true =>
          obtain ⟨fn, tmps, assign, body, hy, hR⟩ := hY ([] : List Int) x3 w'' hJ0 (by simp; omega)
          gi_wp2
          repeat (refine ⟨fun _ h => (by cases h), ?_⟩; gi_wp2)
          refine ⟨(fun h => by cases h), hR.mono ?_⟩
          clear hy
          rintro e' W6 (⟨rfl, hJ6, hk6⟩ | ⟨rfl, hJ6⟩)
          · have u0 := hk6.cell hS m0
            have u1 := hk6.cell hS m1
            rcases H17.out with ⟨h17', b17⟩ | ⟨h17', b17⟩ <;> have h17 := Lib.hid h17' <;> clear h17'
            · obtain ⟨fn, tmps, assign, body, hy, hR⟩ := hY (([] : List Int) ++ [x3]) x1 W6 hJ6 (by simp; omega)
              gi_wp2
              repeat (refine ⟨fun _ h => (by cases h), ?_⟩; gi_wp2)
              refine ⟨(fun h => by cases h), hR.mono ?_⟩
              rintro e' W9 (⟨rfl, hJ9, hk9⟩ | ⟨rfl, hJ9⟩)
              · gi_wp2
                repeat (refine ⟨fun _ h => (by cases h), ?_⟩; gi_wp2)
                (first | (refine bodyPost_ret (results_none rfl _ _ _) rfl ?_) | go_end0)
                exact ⟨⟨_, rfl⟩, .inl ⟨_, by rw [hys.out, hyh.out]; simp [h17.out], hJ9⟩⟩
              · gi_wp2
                repeat (refine ⟨fun _ h => (by cases h), ?_⟩; gi_wp2)
                (first | (refine bodyPost_ret (results_none rfl _ _ _) rfl ?_) | go_end0)
                exact ⟨⟨_, rfl⟩, .inr ⟨_, ⟨[], by rw [hys.out, hyh.out]; simp [h17.out]⟩, hJ9⟩⟩
            · skip
              gi_wp2
              repeat (refine ⟨fun _ h => (by cases h), ?_⟩; gi_wp2)
              (first | (refine bodyPost_ret (results_none rfl _ _ _) rfl ?_) | go_end0)
              exact ⟨⟨_, rfl⟩, .inl ⟨_, by rw [hys.out, hyh.out]; simp [h17.out], hJ6⟩⟩
          · gi_wp2
            repeat (refine ⟨fun _ h => (by cases h), ?_⟩; gi_wp2)
            (first | (refine bodyPost_ret (results_none rfl _ _ _) rfl ?_) | go_end0)
            exact ⟨⟨_, rfl⟩, .inr ⟨_, ⟨if x0 = 17 then [x1] else [], by rw [hys.out, hyh.out]; simp⟩, hJ6⟩⟩
    case true =>
      obtain ⟨rfl, p36 | ⟨p36, p5⟩⟩ := HYES.out hya <;> (have hyh := Lib.hid hya; clear hya)
      all_goals
        clear HNO HYES
        obtain ⟨fn, tmps, assign, body, hy, hR⟩ := hY [] x2 w'' hJ0 (by simp; omega)
        gi_wp2
        repeat (refine ⟨fun _ h => (by cases h), ?_⟩; gi_wp2)
        refine ⟨(fun h => by cases h), hR.mono ?_⟩
        clear hy
        rintro e' W3 (⟨rfl, hJ3, hk3⟩ | ⟨rfl, hJ3⟩)
        · have t0 := hk3.cell hS m0
          have t1 := hk3.cell hS m1
          have t3 := hk3.cell hS m3
          have tq := hk3.cell hSg q3
          cases b
          case false =>
            rcases H17.out with ⟨h17', b17⟩ | ⟨h17', b17⟩ <;> have h17 := Lib.hid h17' <;> clear h17'
            · obtain ⟨fn, tmps, assign, body, hy, hR⟩ := hY ([] ++ [x2] : List Int) x1 W3 hJ3 (by simp; omega)
              gi_wp2
              repeat (refine ⟨fun _ h => (by cases h), ?_⟩; gi_wp2)
              refine ⟨(fun h => by cases h), hR.mono ?_⟩
              rintro e' W9 (⟨rfl, hJ9, hk9⟩ | ⟨rfl, hJ9⟩)
              · gi_wp2
                repeat (refine ⟨fun _ h => (by cases h), ?_⟩; gi_wp2)
                (first | (refine bodyPost_ret (results_none rfl _ _ _) rfl ?_) | go_end0)
                exact ⟨⟨_, rfl⟩, .inl ⟨_, by rw [hys.out, hyh.out]; simp [h17.out], hJ9⟩⟩
              · gi_wp2
                repeat (refine ⟨fun _ h => (by cases h), ?_⟩; gi_wp2)
                (first | (refine bodyPost_ret (results_none rfl _ _ _) rfl ?_) | go_end0)
                exact ⟨⟨_, rfl⟩, .inr ⟨_, ⟨[], by rw [hys.out, hyh.out]; simp [h17.out]⟩, hJ9⟩⟩
            · skip
              gi_wp2
              repeat (refine ⟨fun _ h => (by cases h), ?_⟩; gi_wp2)
              (first | (refine bodyPost_ret (results_none rfl _ _ _) rfl ?_) | go_end0)
              exact ⟨⟨_, rfl⟩, .inl ⟨_, by rw [hys.out, hyh.out]; simp [h17.out], hJ3⟩⟩
          case true =>
            obtain ⟨fn, tmps, assign, body, hy, hR⟩ := hY ([] ++ [x2] : List Int) x3 W3 hJ3 (by simp; omega)
            gi_wp2
            repeat (refine ⟨fun _ h => (by cases h), ?_⟩; gi_wp2)
            refine ⟨(fun h => by cases h), hR.mono ?_⟩
            clear hy
            rintro e' W6 (⟨rfl, hJ6, hk6⟩ | ⟨rfl, hJ6⟩)
            · have u0 := hk6.cell hS t0
              have u1 := hk6.cell hS t1
              rcases H17.out with ⟨h17', b17⟩ | ⟨h17', b17⟩ <;> have h17 := Lib.hid h17' <;> clear h17'
              · obtain ⟨fn, tmps, assign, body, hy, hR⟩ := hY (([] ++ [x2] : List Int) ++ [x3]) x1 W6 hJ6 (by simp; omega)
                gi_wp2
                repeat (refine ⟨fun _ h => (by cases h), ?_⟩; gi_wp2)
                refine ⟨(fun h => by cases h), hR.mono ?_⟩
                rintro e' W9 (⟨rfl, hJ9, hk9⟩ | ⟨rfl, hJ9⟩)
                · gi_wp2
                  repeat (refine ⟨fun _ h => (by cases h), ?_⟩; gi_wp2)
                  (first | (refine bodyPost_ret (results_none rfl _ _ _) rfl ?_) | go_end0)
                  exact ⟨⟨_, rfl⟩, .inl ⟨_, by rw [hys.out, hyh.out]; simp [h17.out], hJ9⟩⟩
                · gi_wp2
                  repeat (refine ⟨fun _ h => (by cases h), ?_⟩; gi_wp2)
                  (first | (refine bodyPost_ret (results_none rfl _ _ _) rfl ?_) | go_end0)
                  exact ⟨⟨_, rfl⟩, .inr ⟨_, ⟨[], by rw [hys.out, hyh.out]; simp [h17.out]⟩, hJ9⟩⟩
              · skip
                gi_wp2
                repeat (refine ⟨fun _ h => (by cases h), ?_⟩; gi_wp2)
                (first | (refine bodyPost_ret (results_none rfl _ _ _) rfl ?_) | go_end0)
                exact ⟨⟨_, rfl⟩, .inl ⟨_, by rw [hys.out, hyh.out]; simp [h17.out], hJ6⟩⟩
            · gi_wp2
              repeat (refine ⟨fun _ h => (by cases h), ?_⟩; gi_wp2)
              (first | (refine bodyPost_ret (results_none rfl _ _ _) rfl ?_) | go_end0)
              exact ⟨⟨_, rfl⟩, .inr ⟨_, ⟨if x0 = 17 then [x1] else [], by rw [hys.out, hyh.out]; simp⟩, hJ6⟩⟩
        · gi_wp2
          repeat (refine ⟨fun _ h => (by cases h), ?_⟩; gi_wp2)
          (first | (refine bodyPost_ret (results_none rfl _ _ _) rfl ?_) | go_end0)
          exact ⟨⟨_, rfl⟩, .inr ⟨_, ⟨(if b = true then [x3] else []) ++ (if x0 = 17 then [x1] else []), by rw [hys.out, hyh.out]; simp⟩, hJ3⟩⟩
end Go.Proofs.Ythbgoecgfoglnaa.Own
