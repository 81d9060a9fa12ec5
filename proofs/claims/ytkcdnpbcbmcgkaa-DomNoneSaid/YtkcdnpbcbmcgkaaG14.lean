/- The engine and the contracts, part 14. No condition beyond the hypotheses of each theorem. -/
import Derived.Test.YtkcdnpbcbmcgkaaG13
import Derived.Test.YtkcdnpbcbmcgkaaG11
import Derived.Test.YtkcdnpbcbmcgkaaG09
import Derived.Test.YtkcdnpbcbmcgkaaG06
import Derived.Deep.Slices
import Derived.ChangeSame
import Derived.SizedLaws
/- live. -/
set_option linter.unusedVariables false
namespace Go.Dm
open Go Go.Sx Go.Sy Go.RowKit Go.Proofs.DomP

noncomputable def lv2 : AFr := hd P 8 [.r, .r, .l]

theorem live1 (w0 : World) (K : AM → Prop) (Kr : AV → AH → Prop) (below : List AFr) (H : AH) (Q : Nat → AH → Prop) (QF QO : AH → AV → AH → Prop) : (trun P w0 8 K Kr 300 0 [] ⟨frOf P 8 [], below, H⟩ (.call Nat (fun _ => False) (fun d => .tuple [.ptr d 0, .int .i64 0]) Q (fun d H1 => (.tt (.tt (.tt (.call Unit (fun _ => False) (fun _ => .int .i64 0) (fun _ H' => H' = H1) (fun _ _ => (.tt (.tt (.call Unit (fun _ => False) (fun _ => .bool true) (fun _ H' => H' = H1) (fun _ _ => (.tt (.tt (.call Unit (fun _ => False) (fun _ => .bool false) (fun _ H' => H' = H1) (fun _ _ => (.tt (.tt (.call AV (fun _ => False) (fun x => x) (QF H1) (fun _ H2 => (.call Unit (fun _ => False) (fun _ => .bool true) (fun _ H' => H' = H2.new (.row [.int .i64 3] 3 true (.own none))) (fun _ H3 => (.tt (.tt (.call AV (fun _ => False) (fun x => x) (QO H3) (fun _ H4 => (.call Unit (fun _ => False) (fun _ => .bool true) (fun _ H' => H' = H4.new (.row [.int .i64 0, .int .i64 2, .int .i64 1, .int .i64 3] 3 true (.own none))) (fun _ _ => (.tt .stop))))))))))))))))))))))))))))) = (True ∧ True ∧ True ∧ True ∧ True ∧ True ∧ (Ret P w0 9 [AV.slice (AH.nx H + 1 + 1 + 1 + 1) 0 4 4] (AH.new (AH.new (AH.new (AH.new (AH.new H (AObj.row [AV.int IntKind.i64 (1 : Int), AV.int IntKind.i64 (2 : Int)] 3 true (St.own none))) (AObj.row [AV.int IntKind.i64 (3 : Int)] 3 true (St.own none))) (AObj.row [AV.int IntKind.i64 (3 : Int)] 3 true (St.own none))) (AObj.row [AV.int IntKind.i64 (1 : Int)] 3 true (St.own none))) (AObj.row [AV.slice (AH.nx H) 0 2 2, AV.slice (AH.nx H + 1) 0 1 1, AV.slice (AH.nx H + 1 + 1) 0 1 1, AV.slice (AH.nx H + 1 + 1 + 1) 0 1 1] 34 true (St.own none))) (fun (x : Nat) ↦ False) fun (v : AV) (H' : AH) ↦ ∃ (x : Nat), v = AV.tuple [AV.ptr x (0 : Nat), AV.int IntKind.i64 (0 : Int)] ∧ Q x H') ∧ Pok (AH.new (AH.new (AH.new (AH.new (AH.new H (AObj.row [AV.int IntKind.i64 (1 : Int), AV.int IntKind.i64 (2 : Int)] 3 true (St.own none))) (AObj.row [AV.int IntKind.i64 (3 : Int)] 3 true (St.own none))) (AObj.row [AV.int IntKind.i64 (3 : Int)] 3 true (St.own none))) (AObj.row [AV.int IntKind.i64 (1 : Int)] 3 true (St.own none))) (AObj.row [AV.slice (AH.nx H) 0 2 2, AV.slice (AH.nx H + 1) 0 1 1, AV.slice (AH.nx H + 1 + 1) 0 1 1, AV.slice (AH.nx H + 1 + 1 + 1) 0 1 1] 34 true (St.own none))) (fun (x : Nat) ↦ False) (stackPend below) ∧ ∀ (x : Nat) (H' : AH), Q x H' → ((0 : Int) == (0 : Int)) = true ∧ true = true ∧ (!false) = true ∧ True ∧ (Ret P w0 19 [AV.ptr x 0, AV.int IntKind.i64 (3 : Int)] H' (fun (x : Nat) ↦ False) fun (v : AV) (H'_1 : AH) ↦ ∃ (x : Unit), v = AV.int IntKind.i64 (0 : Int) ∧ H'_1 = H') ∧ Pok H' (fun (x : Nat) ↦ False) (stackPend below) ∧ ∀ (x_1 : Unit) (H'_1 : AH), H'_1 = H' → true = true ∧ ((0 : Int) == (0 : Int)) = true ∧ True ∧ (Ret P w0 17 [AV.ptr x 0, AV.int IntKind.i64 (0 : Int), AV.int IntKind.i64 (3 : Int)] H'_1 (fun (x : Nat) ↦ False) fun (v : AV) (H'_2 : AH) ↦ ∃ (x : Unit), v = AV.bool true ∧ H'_2 = H') ∧ Pok H'_1 (fun (x : Nat) ↦ False) (stackPend below) ∧ ∀ (x_2 : Unit) (H'_2 : AH), H'_2 = H' → true = true ∧ true = true ∧ True ∧ (Ret P w0 17 [AV.ptr x 0, AV.int IntKind.i64 (1 : Int), AV.int IntKind.i64 (3 : Int)] H'_2 (fun (x : Nat) ↦ False) fun (v : AV) (H'_3 : AH) ↦ ∃ (x : Unit), v = AV.bool false ∧ H'_3 = H') ∧ Pok H'_2 (fun (x : Nat) ↦ False) (stackPend below) ∧ ∀ (x_3 : Unit) (H'_3 : AH), H'_3 = H' → true = true ∧ (!false) = true ∧ True ∧ (Ret P w0 22 [AV.ptr x 0, AV.int IntKind.i64 (2 : Int)] H'_3 (fun (x : Nat) ↦ False) fun (v : AV) (H'_4 : AH) ↦ ∃ (x : AV), v = x ∧ QF H' x H'_4) ∧ Pok H'_3 (fun (x : Nat) ↦ False) (stackPend below) ∧ ∀ (x_4 : AV) (H'_4 : AH), QF H' x_4 H'_4 → True ∧ True ∧ (Ret P w0 13 [x_4, AV.slice (AH.nx H'_4) 0 1 1] (AH.new H'_4 (AObj.row [AV.int IntKind.i64 (3 : Int)] 3 true (St.own none))) (fun (x : Nat) ↦ False) fun (v : AV) (H' : AH) ↦ ∃ (x : Unit), v = AV.bool true ∧ H' = AH.new H'_4 (AObj.row [AV.int IntKind.i64 (3 : Int)] (3 : TypeId) true (St.own none))) ∧ Pok (AH.new H'_4 (AObj.row [AV.int IntKind.i64 (3 : Int)] 3 true (St.own none))) (fun (x : Nat) ↦ False) (stackPend below) ∧ ∀ (x_5 : Unit) (H' : AH), H' = AH.new H'_4 (AObj.row [AV.int IntKind.i64 (3 : Int)] 3 true (St.own none)) → true = true ∧ true = true ∧ True ∧ (Ret P w0 14 [AV.ptr x 0] H' (fun (x : Nat) ↦ False) fun (v : AV) (H'_5 : AH) ↦ ∃ (x : AV), v = x ∧ QO H' x H'_5) ∧ Pok H' (fun (x : Nat) ↦ False) (stackPend below) ∧ ∀ (x : AV) (H'_5 : AH), QO H' x H'_5 → True ∧ True ∧ (Ret P w0 13 [x, AV.slice (AH.nx H'_5) 0 4 4] (AH.new H'_5 (AObj.row [AV.int IntKind.i64 (0 : Int), AV.int IntKind.i64 (2 : Int), AV.int IntKind.i64 (1 : Int), AV.int IntKind.i64 (3 : Int)] 3 true (St.own none))) (fun (x : Nat) ↦ False) fun (v : AV) (H' : AH) ↦ ∃ (x : Unit), v = AV.bool true ∧ H' = AH.new H'_5 (AObj.row [AV.int IntKind.i64 (0 : Int), AV.int IntKind.i64 (2 : Int), AV.int IntKind.i64 (1 : Int), AV.int IntKind.i64 (3 : Int)] (3 : TypeId) true (St.own none))) ∧ Pok (AH.new H'_5 (AObj.row [AV.int IntKind.i64 (0 : Int), AV.int IntKind.i64 (2 : Int), AV.int IntKind.i64 (1 : Int), AV.int IntKind.i64 (3 : Int)] 3 true (St.own none))) (fun (x : Nat) ↦ False) (stackPend below) ∧ ∀ (x : Unit) (H' : AH), H' = AH.new H'_5 (AObj.row [AV.int IntKind.i64 (0 : Int), AV.int IntKind.i64 (2 : Int), AV.int IntKind.i64 (1 : Int), AV.int IntKind.i64 (3 : Int)] 3 true (St.own none)) → true = true ∧ Kr (AV.bool true) H') := by kernel_rfl

/-! ### Its graph -/
def gL : List (List Int) := [[1, 2], [3], [3], [1]]

def oLv : List Int := [0, 2, 1, 3]

def plL : Fn := placeF oLv 0 fun _ => none

def psL : List (List Int) := predsAll gL oLv (List.replicate gL.length [])

def uL1 : Fn := upd up0 2 0

def uL2 : Fn := upd uL1 1 0

def uL3 : Fn := upd uL2 3 0

theorem idL : idomF uL3 gL.length = [-1, 0, 0, 0] := by decide +kernel

theorem goodL : Go.Proofs.DomP.Good gL := by
  intro l hl t ht
  simp [gL] at hl ⊢
  rcases hl with rfl | rfl | rfl <;> simp at ht <;> omega

theorem solveL : SolveR plL psL [2, 1, 3] up0 uL3 := by
  have e2 : psL.getD (2 : Int).toNat [] = [0] := by decide +kernel
  have e1 : psL.getD (1 : Int).toNat [] = [0, 3] := by decide +kernel
  have e3 : psL.getD (3 : Int).toNat [] = [2, 1] := by decide +kernel
  have p0 : plL 0 = some 0 := by decide +kernel
  have p1 : plL 1 = some 2 := by decide +kernel
  have p2 : plL 2 = some 1 := by decide +kernel
  have p3 : plL 3 = some 3 := by decide +kernel
  have m3 : ∀ up : Fn, up 1 = some 0 → up 2 = some 0 → MeetR plL up 2 1 0 := fun up h1 h2 => .right (by decide) p2 p1 (by decide) h1 (.left (by decide) p2 p0 (by decide) h2 (.done p0))
  refine .more (up1 := uL3) (.cons (b := 0) (up1 := uL1) (m1 := true) (by rw [e2]; exact .first (q := 0) rfl (by decide) .nil) (.new rfl) (.cons (b := 0) (up1 := uL2) (m1 := true) (by rw [e1]; exact .first (q := 0) rfl (by decide) (.skip rfl .nil)) (.new rfl)
    (.cons (b := 0) (up1 := uL3) (m1 := true) (by rw [e3]; exact .first (q := 0) rfl (by decide) (.meet (q := 0) rfl (by decide) (m3 _ rfl rfl) .nil)) (.new rfl) .nil))) (.last (.cons (b := 0) (up1 := uL3) (m1 := false) (by rw [e2]; exact .first (q := 0) rfl (by decide) .nil) (.same rfl)
    (.cons (b := 0) (up1 := uL3) (m1 := false) (by rw [e1]; exact .first (q := 0) rfl (by decide) (.meet (q := 0) rfl (by decide) (.right (by decide) p0 p3 (by decide) (by rfl) (.done p0)) .nil)) (.same rfl)
    (.cons (b := 0) (up1 := uL3) (m1 := false) (by rw [e3]; exact .first (q := 0) rfl (by decide) (.meet (q := 0) rfl (by decide) (m3 _ rfl rfl) .nil)) (.same rfl) .nil))))

def ovL (a b : Int) : Bool := decide (a = b) || decide (a = 0)

theorem memL {a : Int} (h : (plL a).isSome = true) : a = 0 ∨ a = 1 ∨ a = 2 ∨ a = 3 := by
  have hm : a ∈ oLv := by
    apply Classical.byContradiction
    intro c
    have := (place_none (o := oLv) (by decide) (x := a)).2 c
    unfold plL at h
    rw [this] at h
    cases h
  simp [oLv] at hm
  omega

theorem overL0 (a : Int) (ha : 0 ≤ a) : OverR [-1, 0, 0, 0] a 0 (decide (a = 0)) := by
  by_cases c : a = 0
  · subst c
    exact .hit (by decide) rfl
  · rw [show decide (a = 0) = false by simp [c]]
    exact .step (by decide) (by decide) (fun e => c e.symm) (.neg (by decide))

theorem overLL : ∀ a b, (plL a).isSome = true → (plL b).isSome = true → OverR [-1, 0, 0, 0] a b (ovL a b) := fun a b ha hb => by
  have ha0 : 0 ≤ a := by rcases memL ha with h | h | h | h <;> omega
  unfold ovL
  by_cases c : a = b
  · subst c
    simp only [decide_true, Bool.true_or]
    exact .hit ha0 rfl
  · rw [show decide (a = b) = false by simp [c], Bool.false_or]
    have h0 := overL0 a ha0
    rcases memL hb with h | h | h | h
    · rw [h]; exact h0
    · subst h; exact .step (by decide) (by decide) (fun e => c e.symm) h0
    · subst h; exact .step (by decide) (by decide) (fun e => c e.symm) h0
    · subst h; exact .step (by decide) (by decide) (fun e => c e.symm) h0

theorem front2 : risL (frontB plL ovL gL oLv 2) gL.length = [3] := by decide +kernel

theorem rangeL (k v : Int) (hk : uL3 k = some v) : 0 ≤ k ∧ k < ((gL.length : Nat) : Int) := by
  show 0 ≤ k ∧ k < 4
  unfold uL3 uL2 uL1 upd up0 at hk
  split at hk
  · omega
  · split at hk
    · omega
    · split at hk
      · omega
      · split at hk
        · omega
        · cases hk

/-- THE CONTRACT OF live. -/
theorem live_ret {w0 : World} {H : AH} : Ret P w0 8 [] H (fun _ => False) fun v H' => v = .bool true ∧ Kept (fun _ => False) H H' := Ret.mk fun below hp => by
  refine Leads.wf fun hw => ?_
  obtain ⟨HB, hHB⟩ : ∃ HB, HB = ((((H.new (.row [.int .i64 1, .int .i64 2] 3 true (.own none))).new (.row [.int .i64 3] 3 true (.own none))).new (.row [.int .i64 3] 3 true (.own none))).new (.row [.int .i64 1] 3 true (.own none))).new (.row [.slice H.nx 0 2 2, .slice (H.nx + 1) 0 1 1, .slice (H.nx + 1 + 1) 0 1 1, .slice (H.nx + 1 + 1 + 1) 0 1 1] 34 true (.own none)) := ⟨_, rfl⟩
  have hnB : HB.nx = H.nx + 5 := by rw [hHB]; rfl
  have hwB : Wf HB := by rw [hHB]; exact ((((hw.new _).new _).new _).new _).new _
  have g0 : HB.get H.nx = some (.row [.int .i64 1, .int .i64 2] 3 true (.own none)) := by
    rw [hHB]
    simp [get_new]
    rw [if_neg (by omega), if_neg (by omega), if_neg (by omega)]
  have g1 : HB.get (H.nx + 1) = some (.row [.int .i64 3] 3 true (.own none)) := by rw [hHB]; simp [get_new]
  have g2 : HB.get (H.nx + 1 + 1) = some (.row [.int .i64 3] 3 true (.own none)) := by rw [hHB]; simp [get_new]
  have g3 : HB.get (H.nx + 1 + 1 + 1) = some (.row [.int .i64 1] 3 true (.own none)) := by rw [hHB]; simp [get_new]
  have g4 : HB.get (H.nx + 1 + 1 + 1 + 1) = some (.row [.slice H.nx 0 2 2, .slice (H.nx + 1) 0 1 1, .slice (H.nx + 1 + 1) 0 1 1, .slice (H.nx + 1 + 1 + 1) 0 1 1] 34 true (.own none)) := by rw [hHB]; simp [get_new]
  have gold : ∀ m, m < H.nx → HB.get m = H.get m := fun m hm => by
    rw [hHB]
    repeat (rw [get_new, if_neg (by first | omega | (simp only [nx_new]; omega))])
  have hmat : Mat HB (fun _ => True) (.slice (H.nx + 1 + 1 + 1 + 1) 0 4 4) gL [.slice H.nx 0 2 2, .slice (H.nx + 1) 0 1 1, .slice (H.nx + 1 + 1) 0 1 1, .slice (H.nx + 1 + 1 + 1) 0 1 1] := by
    refine ⟨SlR.of_row (c := 4) g4, fun _ _ _ => trivial, rfl, fun i h l h1 h2 => ⟨?_, fun _ _ _ => trivial⟩⟩
    match i, h1, h2 with
    | 0, h1, h2 => simp [gL] at h1 h2; subst h1; subst h2; exact SlR.of_row (c := 2) g0
    | 1, h1, h2 => simp [gL] at h1 h2; subst h1; subst h2; exact SlR.of_row (c := 1) g1
    | 2, h1, h2 => simp [gL] at h1 h2; subst h1; subst h2; exact SlR.of_row (c := 1) g2
    | 3, h1, h2 => simp [gL] at h1 h2; subst h1; subst h2; exact SlR.of_row (c := 1) g3
    | i + 4, h1, h2 => simp at h1
  have hnew := new_ret (w0 := w0) hmat (k := 5) (sf := Go.Proofs.DomP.mark 2 (Go.Proofs.DomP.mark 3 (Go.Proofs.DomP.mark 1 (Go.Proofs.DomP.mark 0 fun _ => false)))) (done := [3, 1, 2, 0]) (nodes := [2, 1, 3]) (upF := uL3)
    fun _ _ _ _ => ⟨by rfl, by rfl, solveL, fun k v hk => rangeL k v hk⟩
  have hrev : [3, 1, 2, 0].reverse = oLv := by rfl
  rw [hrev, idL] at hnew
  have hpB : Pok HB (fun _ => False) (stackPend below) := (pok_new hw hp gold).weak fun m hm => hm.elim
  have hO : ∀ a, (plL a).isSome = true → 0 ≤ a := fun a ha => by rcases memL ha with h | h | h | h <;> omega
  have hvc := live1 w0 (Leads P w0 (RetK P 8 below fun v H' => v = .bool true ∧ Kept (fun _ => False) H H')) (fun v H' => v = .bool true ∧ Kept (fun _ => False) H H') below H (fun d H' => NewOk HB H' d gL oLv plL [-1, 0, 0, 0] ∧ Wf H') (fun H1 x H' => OrdQ H1 [3] x H' ∧ Wf H')
    (fun H1 x H' => (SlR H' x (oLv.map kI) ∧ (∀ n off, slBase x = some (n, off) → H1.nx ≤ n) ∧ Kept (fun _ => False) H1 H') ∧ Wf H')
  rw [← hHB] at hvc
  refine Leads.go fine hvc (by kernel_rfl) ⟨trivial, trivial, trivial, trivial, trivial, trivial, hnew.wf.mono fun y H' q => ?_, hpB, fun d H1 q => ?_⟩
  · obtain ⟨⟨q1, q2, q3⟩, qw⟩ := q
    rcases q3 with ⟨q3, _⟩ | ⟨_, q3, _⟩ | ⟨_, _, _, q3, _⟩ | ⟨_, _, _, _, d, q4, q5⟩
    · exact absurd q3 (by decide)
    · exfalso
      rcases q3 with q3 | ⟨l, hl, q3⟩
      · exact absurd q3 (by decide)
      · simp [gL] at hl
        rcases hl with rfl | rfl | rfl <;> simp at q3
    · exact absurd goodL q3
    · exact ⟨d, q4, q5, qw⟩
  · obtain ⟨⟨vg, vp, vo, vi, pm, hs, hD, hold, hnx⟩, hw1⟩ := q
    have hS1 : ∀ m, (HB.nx ≤ m ∧ m < H1.nx) → m < H1.nx := fun m hm => hm.2
    have hp1 : Pok H1 (fun _ => False) (stackPend below) := (pok_new hwB hpB hold).weak fun m hm => hm.elim
    have o1 := overB_ret (w0 := w0) hD hO overLL 0 3
    have o2 := overB_ret (w0 := w0) hD hO overLL 1 3
    have hid := idom_ret (w0 := w0) hD 3 (fun _ => by decide)
    have hfr := (front_ret (w0 := w0) hD hS1 hO overLL (by decide) (by decide +kernel) 2).wf
    rw [front2] at hfr
    rw [show overB plL ovL 0 3 = true by decide +kernel] at o1
    rw [show overB plL ovL 1 3 = false by decide +kernel] at o2
    rw [show (if (plL 3).isSome = true then ([-1, 0, 0, 0] : List Int).getD (3 : Int).toNat (-1) else -1) = 0 by decide +kernel] at hid
    refine ⟨rfl, rfl, rfl, trivial, hid.mono fun y H' q => ⟨(), q⟩, hp1, fun _ H2 he => ?_⟩
    subst he
    refine ⟨rfl, rfl, trivial, o1.mono fun y H' q => ⟨(), q⟩, hp1, fun _ H3 he => ?_⟩
    subst he
    refine ⟨rfl, rfl, trivial, o2.mono fun y H' q => ⟨(), q⟩, hp1, fun _ H4 he => ?_⟩
    subst he
    refine ⟨rfl, rfl, trivial, hfr.mono fun y H' q => ⟨y, rfl, q⟩, hp1, fun x H5 q => ?_⟩
    obtain ⟨⟨q1, q2, q3⟩, hw5⟩ := q
    have hk5 : ∀ m, m < H4.nx → H5.get m = H4.get m := fun m hm => q3.get m hm (fun h => h)
    have hn5 := q3.nx
    obtain ⟨H6, hH6⟩ : ∃ H6, H6 = H5.new (.row [.int .i64 3] 3 true (.own none)) := ⟨_, rfl⟩
    rw [← hH6]
    have hn6 : H6.nx = H5.nx + 1 := by rw [hH6]; rfl
    have hk6 : ∀ m, m < H4.nx → H6.get m = H4.get m := fun m hm => by rw [hH6, get_lt (by omega)]; exact hk5 m hm
    have hp6 : Pok H6 (fun _ => False) (stackPend below) := (pok_new hw1 hp1 hk6).weak fun m hm => hm.elim
    have hw6 : Wf H6 := by rw [hH6]; exact hw5.new _
    have g6 : H6.get H5.nx = some (.row (([3] : List Int).map kI) 3 true (.own none)) := by rw [hH6]; exact get_at rfl
    have s6 : SlR H6 (.slice H5.nx 0 1 1) (([3] : List Int).map kI) := SlR.of_row (c := 1) g6
    have e6 := equal_ret (w0 := w0) (xs := [3]) (ys := [3]) (q1.congr (H' := H6) fun n off hb => by rw [hH6]; exact get_lt (q1.lt hw5 hb)) s6 (by decide)
    rw [show decide (([3] : List Int) = [3]) = true by decide] at e6
    refine ⟨trivial, trivial, e6.mono fun y H' q => ⟨(), q⟩, hp6, fun _ H7 he => ?_⟩
    subst he
    have hD6 := hD.congr (H' := H7) fun m hm => hk6 m hm.2
    have hor := (order_ret (w0 := w0) hD6 (by decide)).wf
    refine ⟨rfl, rfl, trivial, hor.mono fun y H' q => ⟨y, rfl, q⟩, hp6, fun x2 H8 q => ?_⟩
    obtain ⟨⟨r1, r2, r3⟩, hw8⟩ := q
    have hk8 : ∀ m, m < H7.nx → H8.get m = H7.get m := fun m hm => r3.get m hm (fun h => h)
    have hn8 := r3.nx
    obtain ⟨H9, hH9⟩ : ∃ H9, H9 = H8.new (.row [.int .i64 0, .int .i64 2, .int .i64 1, .int .i64 3] 3 true (.own none)) := ⟨_, rfl⟩
    rw [← hH9]
    have hn9 : H9.nx = H8.nx + 1 := by rw [hH9]; rfl
    have hk9 : ∀ m, m < H7.nx → H9.get m = H7.get m := fun m hm => by rw [hH9, get_lt (by omega)]; exact hk8 m hm
    have hp9 : Pok H9 (fun _ => False) (stackPend below) := (pok_new hw6 hp6 hk9).weak fun m hm => hm.elim
    have g9 : H9.get H8.nx = some (.row (oLv.map kI) 3 true (.own none)) := by rw [hH9]; exact get_at rfl
    have s9 : SlR H9 (.slice H8.nx 0 4 4) (oLv.map kI) := SlR.of_row (c := 4) g9
    have e9 := equal_ret (w0 := w0) (xs := oLv) (ys := oLv) (r1.congr (H' := H9) fun n off hb => by rw [hH9]; exact get_lt (r1.lt hw8 hb)) s9 (by decide)
    rw [show decide (oLv = oLv) = true by decide] at e9
    refine ⟨trivial, trivial, e9.mono fun y H' q => ⟨(), q⟩, hp9, fun _ H10 he => ⟨rfl, rfl, by rw [he]; omega, fun m hm _ => ?_⟩⟩
    rw [he, hk9 m (by omega), hk6 m (by omega), hold m (by omega)]
    exact gold m hm
end Go.Dm
/- What dom.New makes of a graph, plain. No program. -/
set_option linter.unusedVariables false
namespace Go.Dm
open Go.Proofs.DomP

/-- What a search and solve make of a graph. -/
structure Made (g : List (List Int)) (sf : Seen) (done nodes : List Int) (upF : Fn) : Prop where
  dfs : ∃ k, dfsN g k 0 (fun _ => false) [] = some (sf, done)
  rev : done.reverse = 0 :: nodes
  ord : Ordr g nodes (placeF (0 :: nodes) 0 fun _ => none) (predsAll g (0 :: nodes) (List.replicate g.length []))
  solve : SolveR (placeF (0 :: nodes) 0 fun _ => none) (predsAll g (0 :: nodes) (List.replicate g.length [])) nodes up0 upF
  fin : Done g nodes (placeF (0 :: nodes) 0 fun _ => none) (predsAll g (0 :: nodes) (List.replicate g.length [])) upF
  seen : ∀ x, sf x = true ↔ x ∈ (0 :: nodes)
  reach : ∀ x, x ∈ (0 :: nodes) ↔ Av g (-1) x

theorem made {g : List (List Int)} (hg : Go.Proofs.DomP.Good g) (h0 : 0 < g.length) : ∃ sf done nodes upF, Made g sf done nodes upF := by
  obtain ⟨sf, done, hd, _⟩ := dfsN_some hg (left g.length fun _ => false) 0 (fun _ => false) [] (Nat.le_refl _) rfl (Int.le_refl _) (by omega)
  obtain ⟨new, hnew, A⟩ := dfsN_adds hg _ 0 (fun _ => false) [] sf done rfl (Int.le_refl _) (by omega) hd
  rw [List.nil_append] at hnew
  subst hnew
  have hrev : (new ++ [0]).reverse = 0 :: new.reverse := by simp
  have hmem : ∀ x, x ∈ (0 :: new.reverse) ↔ x ∈ new ++ [0] := fun x => by
    simp only [List.mem_cons, List.mem_reverse, List.mem_append, List.not_mem_nil, or_false]
    exact or_comm
  have hnd : (0 :: new.reverse).Nodup := by
    rw [← hrev]
    unfold List.Nodup
    rw [List.pairwise_reverse]
    exact A.nodup.imp fun h e => h e.symm
  have hn0 : (0 : Int) ∉ new.reverse := (List.nodup_cons.1 hnd).1
  have hlen : (0 :: new.reverse).length = new.length + 1 := by simp
  -- places are turned around
  have hat : ∀ (i : Nat) (q : Int), (new ++ [0])[i]? = some q → (0 :: new.reverse)[new.length - i]? = some q := fun i q hi => by
    rw [← hrev]
    have hlt := (List.getElem?_eq_some_iff.1 hi).1
    simp only [List.length_append, List.length_singleton] at hlt
    rw [List.getElem?_reverse (by simp; omega)]
    rw [← hi]
    congr 1
    simp
    omega
  have O : Ordr g new.reverse (placeF (0 :: new.reverse) 0 fun _ => none) (predsAll g (0 :: new.reverse) (List.replicate g.length [])) := by
    refine ⟨fun x => ?_, fun x y i hx hy => ?_, ?_, fun x i hx => ((place_some hnd).1 hx).1, fun i n hi => ?_, fun n hn => ?_, fun n hn p => ?_, fun p hp t ht => ?_, hn0, fun n hn => A.range n ((hmem n).1 hn), (List.nodup_cons.1 hnd).2⟩
    · have hp := place_none hnd (x := x)
      constructor
      · intro h
        apply Classical.byContradiction
        intro c
        rw [hp.2 c] at h
        cases h
      · intro h
        cases hq : placeF (0 :: new.reverse) 0 (fun _ => none) x with
        | none => exact absurd h (hp.1 hq)
        | some i => rfl
    · obtain ⟨_, e1⟩ := (place_some hnd).1 hx
      obtain ⟨_, e2⟩ := (place_some hnd).1 hy
      rw [e1] at e2
      exact Option.some.inj e2
    · exact (place_some hnd).2 ⟨Int.le_refl _, rfl⟩
    · refine (place_some hnd).2 ⟨by omega, ?_⟩
      rw [Int.toNat_natCast, List.getElem?_cons_succ]
      exact hi
    · have hm : n ∈ new ++ [0] := (hmem n).1 (by simp [hn])
      obtain ⟨i, hi⟩ := List.getElem?_of_mem hm
      rcases A.from_ i n hi with h | ⟨j, p, hij, hp, hq⟩
      · exact absurd (h ▸ hn) hn0
      · have hjl := (List.getElem?_eq_some_iff.1 hp).1
        simp only [List.length_append, List.length_singleton] at hjl
        have hpm : p ∈ (0 :: new.reverse) := (hmem p).2 (List.mem_of_getElem? hp)
        have hn1 := (A.range n hm).1
        refine ⟨p, ((new.length - j : Nat) : Int), ((new.length - i : Nat) : Int), (preds_mem hg _ hn1 p).2 ⟨hpm, hq⟩, (place_some hnd).2 ⟨by omega, by rw [Int.toNat_natCast]; exact hat j p hp⟩, (place_some hnd).2 ⟨by omega, by rw [Int.toNat_natCast]; exact hat i n hi⟩, by omega⟩
    · exact preds_mem hg _ (A.range n ((hmem n).1 (by simp [hn]))).1 p
    · have := A.outs p ((hmem p).1 hp) t ht
      rw [A.seen] at this
      rcases this with h | h
      · cases h
      · exact (hmem t).2 h
  obtain ⟨upF, hS, hD⟩ := solve_some O
  refine ⟨sf, new ++ [0], new.reverse, upF, ⟨_, hd⟩, hrev, O, hS, hD, fun x => ?_, fun x => ⟨fun hx => ?_, fun hx => ?_⟩⟩
  · rw [A.seen, hmem]
    simp
  · have key : ∀ (k i : Nat) (q : Int), (new ++ [0])[i]? = some q → new.length ≤ i + k → Av g (-1) q := by
      intro k
      induction k with
      | zero =>
        intro i q hi hk
        rcases A.from_ i q hi with h | ⟨j, p, hij, hp, hq⟩
        · subst h; exact .root (by decide)
        · have hjl := (List.getElem?_eq_some_iff.1 hp).1
          simp only [List.length_append, List.length_singleton] at hjl
          omega
      | succ k ih =>
        intro i q hi hk
        rcases A.from_ i q hi with h | ⟨j, p, hij, hp, hq⟩
        · subst h; exact .root (by decide)
        · refine .step (ih j p hp (by omega)) hq fun e => ?_
          have := (A.range q (List.mem_of_getElem? hi)).1
          omega
    obtain ⟨i, hi⟩ := List.getElem?_of_mem ((hmem x).1 hx)
    exact key new.length i x hi (by omega)
  · induction hx with
    | root _ => simp
    | step h1 h2 h3 ih => exact O.closed _ ih _ h2

section
variable {g : List (List Int)} {sf : Seen} {done nodes : List Int} {upF : Fn}

theorem Made.range (M : Made g sf done nodes upF) : ∀ k v, upF k = some v → 0 ≤ k ∧ k < (g.length : Int) := fun k v h => M.ord.range k (M.fin.full.ok.sub k (by rw [h]; rfl))

/-- What new_ret asks for. -/
theorem Made.ok (M : Made g sf done nodes upF) : ∃ k, dfsN g k 0 (fun _ => false) [] = some (sf, done) ∧ done.reverse = 0 :: nodes ∧
      SolveR (placeF done.reverse 0 fun _ => none) (predsAll g done.reverse (List.replicate g.length [])) nodes up0 upF ∧ ∀ k v, upF k = some v → 0 ≤ k ∧ k < (g.length : Int) := by
  obtain ⟨k, hk⟩ := M.dfs
  exact ⟨k, hk, M.rev, by rw [M.rev]; exact M.solve, M.range⟩

theorem Made.len (M : Made g sf done nodes upF) : done.length ≤ g.length := by
  have h1 : done.reverse.length = done.length := List.length_reverse
  rw [M.rev] at h1
  have := nodup_len g.length (0 :: nodes) (List.nodup_cons.2 ⟨M.ord.n0, M.ord.nodup⟩) M.ord.range
  omega

theorem Made.known (M : Made g sf done nodes upF) {x : Int} : (upF x).isSome = true ↔ x ∈ (0 :: nodes) := ⟨M.fin.full.ok.sub x, M.fin.full.all x⟩

theorem Made.idom (M : Made g sf done nodes upF) {b : Int} (hb : b ∈ (0 :: nodes)) : (idomF upF g.length).getD b.toNat (-1) = if b = 0 then -1 else (upF b).getD (-1) := by
  obtain ⟨h0, h1⟩ := M.ord.range b hb
  have hlt : b.toNat < g.length := by omega
  unfold idomF
  rw [List.getD_eq_getElem?_getD, List.getElem?_map, List.getElem?_range hlt]
  simp only [Option.map_some, Option.getD_some]
  by_cases c : b = 0
  · subst c; rfl
  · rw [if_neg (by omega), if_neg c, show ((b.toNat : Nat) : Int) = b by omega]

open Classical in
/-- Who stands over whom. -/
noncomputable def ovF (upF : Fn) (a b : Int) : Bool := decide (On upF b a)

theorem Made.over (M : Made g sf done nodes upF) {a b : Int} (ha : 0 ≤ a) (hb : b ∈ (0 :: nodes)) : OverR (idomF upF g.length) a b (ovF upF a b) := by
  have T := M.fin.full.ok.tree
  have key : ∀ (k : Nat) (b : Int), b ∈ (0 :: nodes) → plc (placeF (0 :: nodes) 0 fun _ => none) b < (k : Int) → OverR (idomF upF g.length) a b (ovF upF a b) := by
    intro k
    induction k with
    | zero =>
      intro b hb hk
      have := T.nonneg b (M.known.2 hb)
      omega
    | succ k ih =>
      intro b hb hk
      obtain ⟨h0, h1⟩ := M.ord.range b hb
      by_cases c : b = a
      · subst c
        rw [show ovF upF b b = true by unfold ovF; simp [On.self]]
        exact .hit h0 rfl
      · refine .step h0 (by simpa [idomF] using h1) c ?_
        rw [M.idom hb]
        by_cases cb : b = 0
        · rw [if_pos cb]
          have : ovF upF a b = false := by
            unfold ovF
            rw [decide_eq_false_iff_not]
            intro ho
            cases ho with
            | self => exact c rfl
            | next _ h2 _ => exact h2 cb
          rw [this]
          exact .neg (by decide)
        · rw [if_neg cb]
          obtain ⟨u, hu⟩ := Option.isSome_iff_exists.1 (M.known.2 hb)
          obtain ⟨ku, lu⟩ := T.step b u hu cb
          rw [hu, Option.getD_some]
          have : ovF upF a b = ovF upF a u := by
            unfold ovF
            rw [decide_eq_decide]
            constructor
            · intro ho
              cases ho with
              | self => exact absurd rfl c
              | next h1 _ h3 =>
                rw [hu] at h1
                injection h1 with h1
                subst h1
                exact h3
            · exact fun ho => .next hu cb ho
          rw [this]
          exact ih u (M.known.1 ku) (by omega)
  exact key (plc (placeF (0 :: nodes) 0 fun _ => none) b + 1).toNat b hb (by omega)

/-- ONE STANDS OVER ANOTHER JUST IF EVERY WAY TO IT PASSES IT. -/
theorem Made.dom (M : Made g sf done nodes upF) {a b : Int} (hb : b ∈ (0 :: nodes)) : On upF b a ↔ ¬ Av g a b := by
  have T := M.fin.full.ok.tree
  constructor
  · intro ho hav
    have key : ∀ x, Av g a x → x ∈ (0 :: nodes) ∧ ¬ On upF x a := fun x hx => by
      induction hx with
      | root h =>
        refine ⟨by simp, fun ho => ?_⟩
        cases ho with
        | self => exact h rfl
        | next _ h2 _ => exact h2 rfl
      | @step p t h1 h2 h3 ih =>
        have htm := M.ord.closed p ih.1 t h2
        refine ⟨htm, fun ho => ?_⟩
        cases ho with
        | self => exact h3 rfl
        | @next _ u _ g1 g2 g3 =>
          have htn : t ∈ nodes := by
            rcases List.mem_cons.1 htm with e | e
            · exact absurd e g2
            · exact e
          exact ih.2 ((M.fin.fix t htn u g1 p ((M.ord.preds t htn p).2 ⟨ih.1, h2⟩)).trans g3)
    exact (key b hav).2 ho
  · intro hav
    by_cases c : a = b
    · subst c; exact .self a
    · by_cases cb : b = 0
      · subst cb
        exact absurd (.root c) hav
      · obtain ⟨u, hu⟩ := Option.isSome_iff_exists.1 (M.known.2 hb)
        exact .next hu cb (M.fin.full.ji.I b u a hu cb ⟨c, hav⟩)
end
end Go.Dm
/- DomMakes. -/
set_option linter.unusedVariables false
namespace Go.Dm
open Go Go.Sx Go.Sy Go.RowKit Go.Proofs.DomP

noncomputable def mk3 : AFr := hd P 3 [.r, .r, .l]

theorem mk0 (w0 : World) (K : AM → Prop) (Kr : AV → AH → Prop) (below : List AFr) (len : Nat) (v : AV) (n : Int) (H : AH) (Q : Unit → AH → Prop) : (trun P w0 3 K Kr 300 0 [] ⟨frOf P 3 [v, .int .i64 n], below, H⟩ (.ln len (.br (.ln len (.tt (.br (.call Unit (fun _ => False) (fun _ => .bool true) Q (fun _ _ => .stop)) .halt))) (.ff (.ff .halt))))) = (aLen P H 22 v = some (AV.int IntKind.i64 (↑len : Int), []) ∧ (decide ((↑len : Int) > (40 : Int)) = true → aLen P H 22 v = some (AV.int IntKind.i64 (↑len : Int), []) ∧ true = true ∧ (decide ((↑len : Int) ≤ (1024 : Int)) = true → True ∧ (Ret P w0 8 [] H (fun (x : Nat) ↦ False) fun (v : AV) (H' : AH) ↦ ∃ (x : Unit), v = AV.bool true ∧ Q x H') ∧ Pok H (fun (x : Nat) ↦ False) (stackPend below) ∧ ∀ (x : Unit) (H' : AH), Q x H' → Kr (AV.bool true) H') ∧ (decide ((↑len : Int) ≤ (1024 : Int)) = false → K (AM.mk (w mk3 (tl [v, AV.int IntKind.i64 n, AV.tuple [], AV.tuple [], AV.bool false, AV.tuple [], AV.tuple [], AV.tuple [], AV.tuple [], v, AV.int IntKind.i64 (↑len : Int), AV.bool (decide ((↑len : Int) > (40 : Int))), AV.bool true, v, AV.int IntKind.i64 (↑len : Int), AV.bool (decide ((↑len : Int) ≤ (1024 : Int))), AV.bool false, AV.tuple [], AV.tuple [], AV.tuple [], AV.tuple [], AV.tuple [], AV.tuple [], AV.tuple [], AV.tuple [], AV.tuple [], AV.tuple [], AV.tuple [], AV.tuple [], AV.tuple [], AV.tuple [], AV.tuple [], AV.tuple [], AV.tuple [], AV.tuple [], AV.tuple [], AV.tuple [], AV.tuple [], AV.tuple [], AV.tuple [], AV.tuple [], AV.tuple [], AV.tuple [], AV.tuple [], AV.tuple [], AV.tuple [], AV.tuple [], AV.tuple [], AV.tuple [], AV.tuple [], AV.tuple [], AV.tuple [], AV.tuple [], AV.tuple [], AV.tuple [], AV.tuple [], AV.tuple [], AV.tuple [], AV.tuple [], AV.tuple [], AV.tuple [], AV.tuple [], AV.tuple [], AV.tuple [], AV.tuple [], AV.tuple [], AV.tuple [], AV.tuple [], AV.tuple [], AV.tuple [], AV.tuple [], AV.tuple [], AV.tuple [], AV.tuple [], AV.tuple [], AV.tuple [], AV.tuple [], AV.tuple [], AV.tuple []])) below H))) ∧ (decide ((↑len : Int) > (40 : Int)) = false → false = false ∧ false = false ∧ K (AM.mk (w mk3 (tl [v, AV.int IntKind.i64 n, AV.tuple [], AV.tuple [], AV.bool false, AV.tuple [], AV.tuple [], AV.tuple [], AV.tuple [], v, AV.int IntKind.i64 (↑len : Int), AV.bool (decide ((↑len : Int) > (40 : Int))), AV.bool false, AV.tuple [], AV.tuple [], AV.tuple [], AV.bool false, AV.tuple [], AV.tuple [], AV.tuple [], AV.tuple [], AV.tuple [], AV.tuple [], AV.tuple [], AV.tuple [], AV.tuple [], AV.tuple [], AV.tuple [], AV.tuple [], AV.tuple [], AV.tuple [], AV.tuple [], AV.tuple [], AV.tuple [], AV.tuple [], AV.tuple [], AV.tuple [], AV.tuple [], AV.tuple [], AV.tuple [], AV.tuple [], AV.tuple [], AV.tuple [], AV.tuple [], AV.tuple [], AV.tuple [], AV.tuple [], AV.tuple [], AV.tuple [], AV.tuple [], AV.tuple [], AV.tuple [], AV.tuple [], AV.tuple [], AV.tuple [], AV.tuple [], AV.tuple [], AV.tuple [], AV.tuple [], AV.tuple [], AV.tuple [], AV.tuple [], AV.tuple [], AV.tuple [], AV.tuple [], AV.tuple [], AV.tuple [], AV.tuple [], AV.tuple [], AV.tuple [], AV.tuple [], AV.tuple [], AV.tuple [], AV.tuple [], AV.tuple [], AV.tuple [], AV.tuple [], AV.tuple [], AV.tuple []])) below H))) := by kernel_rfl

theorem mkE (w0 : World) (K : AM → Prop) (Kr : AV → AH → Prop) (below : List AFr) (z : Nat → AV) (v : AV) (n e : Int) (H : AH) (Q1 : AH → Prop) (Q2 Q3 : AH → AH → Prop) : (trun P w0 3 K Kr 300 0 [] ⟨w mk3 (setL (tz 79 z) [(0, v), (1, .int .i64 n)]), below, H⟩ (.call Unit (fun _ => False) (fun _ => .tuple [.nptr, .int .i64 e]) (fun _ => Q1) (fun _ H' => (.call Unit (fun _ => False) (fun _ => .tuple [.nptr, .int .i64 e]) (fun _ => Q2 H') (fun _ H' => (.call Unit (fun _ => False) (fun _ => .bool true) (fun _ => Q3 H') (fun _ H' => (.ff (.ff (.ff (.ff (.ff (.tt .stop))))))))))))) = (True ∧ (Ret P w0 9 [v] H (fun (x : Nat) ↦ False) fun (v : AV) (H' : AH) ↦ ∃ (x : Unit), v = AV.tuple [AV.nptr, AV.int IntKind.i64 e] ∧ Q1 H') ∧ Pok H (fun (x : Nat) ↦ False) (stackPend below) ∧ ∀ (x : Unit) (H' : AH), Q1 H' → True ∧ (Ret P w0 10 [v] H' (fun (x : Nat) ↦ False) fun (v : AV) (H'_1 : AH) ↦ ∃ (x : Unit), v = AV.tuple [AV.nptr, AV.int IntKind.i64 e] ∧ Q2 H' H'_1) ∧ Pok H' (fun (x : Nat) ↦ False) (stackPend below) ∧ ∀ (x : Unit) (H'_1 : AH), Q2 H' H'_1 → True ∧ (Ret P w0 8 [] H'_1 (fun (x : Nat) ↦ False) fun (v : AV) (H' : AH) ↦ ∃ (x : Unit), v = AV.bool true ∧ Q3 H'_1 H') ∧ Pok H'_1 (fun (x : Nat) ↦ False) (stackPend below) ∧ ∀ (x : Unit) (H' : AH), Q3 H'_1 H' → (!true) = false ∧ false = false ∧ (e != e) = false ∧ false = false ∧ (!(!true) == (e == (0 : Int))) = false ∧ (e != (0 : Int)) = true ∧ Kr (AV.bool true) H') := by kernel_rfl

theorem mkO (w0 : World) (K : AM → Prop) (Kr : AV → AH → Prop) (below : List AFr) (z : Nat → AV) (len : Nat) (v : AV) (n : Int) (s r : Bool) (H : AH) (Q1 : Nat → AH → Prop) (Q2 : Nat → AH → Nat × Nat → AH → Prop) (Q3 : Nat → AH → Nat × Nat → AH → AH → Prop) (QA QB : AH → AV → AH → Prop) : (trun P w0 3 K Kr 300 0 [] ⟨w mk3 (setL (tz 79 z) [(0, v), (1, .int .i64 n)]), below, H⟩ (.call Nat (fun _ => False) (fun d => .tuple [.ptr d 0, .int .i64 0]) Q1 (fun d H1 => (.call (Nat × Nat) (fun _ => False) (fun e => .tuple [.ptr e.1 0, .int .i64 0]) (Q2 d H1) (fun e H2 => (.call Unit (fun _ => False) (fun _ => .bool true) (fun _ => Q3 d H1 e H2) (fun _ H3 => (.ff (.ff (.ff (.ff (.ff (.ff (.call Unit (fun _ => False) (fun _ => .int .i64 len) (fun _ H' => H' = H3) (fun _ _ => (.ln len (.tt (.call Unit (fun _ => False) (fun _ => .bool r) (fun _ H' => H' = H3) (fun _ _ => (.br (.ln len (.tt (.br (.v (.slice e.2 0 len len) (.v (.bool s) (.tt (.tt (.tt (.call AV (fun _ => False) (fun x => x) (QA H3) (fun xa H4 => (.call AV (fun _ => False) (fun x => x) (QB H4) (fun xb H5 => (.call Unit (fun _ => False) (fun _ => .bool true) (fun _ H' => H' = H5) (fun _ _ => (.tt .stop)))))))))))) (.ff (.tt (.tt (.call AV (fun _ => False) (fun x => x) (QA H3) (fun xa H4 => (.call AV (fun _ => False) (fun x => x) (QB H4) (fun xb H5 => (.call Unit (fun _ => False) (fun _ => .bool true) (fun _ H' => H' = H5) (fun _ _ => (.tt .stop))))))))))))) (.ff (.ff (.ff (.tt (.tt (.call AV (fun _ => False) (fun x => x) (QA H3) (fun xa H4 => (.call AV (fun _ => False) (fun x => x) (QB H4) (fun xb H5 => (.call Unit (fun _ => False) (fun _ => .bool true) (fun _ H' => H' = H5) (fun _ _ => (.tt .stop)))))))))))))))))))))))))))))))) = (True ∧ (Ret P w0 9 [v] H (fun (x : Nat) ↦ False) fun (v : AV) (H' : AH) ↦ ∃ (x : Nat), v = AV.tuple [AV.ptr x (0 : Nat), AV.int IntKind.i64 (0 : Int)] ∧ Q1 x H') ∧ Pok H (fun (x : Nat) ↦ False) (stackPend below) ∧ ∀ (x : Nat) (H' : AH), Q1 x H' → True ∧ (Ret P w0 10 [v] H' (fun (x : Nat) ↦ False) fun (v : AV) (H'_1 : AH) ↦ ∃ (x_1 : Nat × Nat), v = AV.tuple [AV.ptr (Prod.fst x_1) (0 : Nat), AV.int IntKind.i64 (0 : Int)] ∧ Q2 x H' x_1 H'_1) ∧ Pok H' (fun (x : Nat) ↦ False) (stackPend below) ∧ ∀ (x_1 : Nat × Nat) (H'_1 : AH), Q2 x H' x_1 H'_1 → True ∧ (Ret P w0 8 [] H'_1 (fun (x : Nat) ↦ False) fun (v : AV) (H'_2 : AH) ↦ ∃ (x_2 : Unit), v = AV.bool true ∧ Q3 x H' x_1 H'_1 H'_2) ∧ Pok H'_1 (fun (x : Nat) ↦ False) (stackPend below) ∧ ∀ (x_2 : Unit) (H'_2 : AH), Q3 x H' x_1 H'_1 H'_2 → (!true) = false ∧ false = false ∧ ((0 : Int) != (0 : Int)) = false ∧ false = false ∧ (!(!false) == ((0 : Int) == (0 : Int))) = false ∧ ((0 : Int) != (0 : Int)) = false ∧ True ∧ (Ret P w0 11 [AV.ptr x 0] H'_2 (fun (x : Nat) ↦ False) fun (v : AV) (H' : AH) ↦ ∃ (x : Unit), v = AV.int IntKind.i64 (↑len : Int) ∧ H' = H'_2) ∧ Pok H'_2 (fun (x : Nat) ↦ False) (stackPend below) ∧ ∀ (x_3 : Unit) (H' : AH), H' = H'_2 → aLen P H' 22 v = some (AV.int IntKind.i64 (↑len : Int), []) ∧ ((↑len : Int) == (↑len : Int)) = true ∧ True ∧ (Ret P w0 12 [AV.ptr x 0, AV.int IntKind.i64 n] H' (fun (x : Nat) ↦ False) fun (v : AV) (H' : AH) ↦ ∃ (x : Unit), v = AV.bool r ∧ H' = H'_2) ∧ Pok H' (fun (x : Nat) ↦ False) (stackPend below) ∧ ∀ (x_4 : Unit) (H' : AH), H' = H'_2 → (decide (n ≥ (0 : Int)) = true → aLen P H' 22 v = some (AV.int IntKind.i64 (↑len : Int), []) ∧ true = true ∧ (decide (n < (↑len : Int)) = true → rdAt H' (Prod.fst x_1) 3 = some (AV.slice (Prod.snd x_1) 0 len len) ∧ ((0 : Int) ≤ n ∧ n < (↑len : Int)) ∧ rdAt H' (Prod.snd x_1) (0 + Int.toNat n * 1) = some (AV.bool s) ∧ true = true ∧ true = true ∧ (r == s) = true ∧ True ∧ (Ret P w0 14 [AV.ptr x 0] H' (fun (x : Nat) ↦ False) fun (v : AV) (H' : AH) ↦ ∃ (x : AV), v = x ∧ QA H'_2 x H') ∧ Pok H' (fun (x : Nat) ↦ False) (stackPend below) ∧ ∀ (x : AV) (H' : AH), QA H'_2 x H' → True ∧ (Ret P w0 15 [AV.ptr (Prod.fst x_1) 0] H' (fun (x : Nat) ↦ False) fun (v : AV) (H'_3 : AH) ↦ ∃ (x : AV), v = x ∧ QB H' x H'_3) ∧ Pok H' (fun (x : Nat) ↦ False) (stackPend below) ∧ ∀ (x_5 : AV) (H'_3 : AH), QB H' x_5 H'_3 → True ∧ (Ret P w0 13 [x, x_5] H'_3 (fun (x : Nat) ↦ False) fun (v : AV) (H' : AH) ↦ ∃ (x : Unit), v = AV.bool true ∧ H' = H'_3) ∧ Pok H'_3 (fun (x : Nat) ↦ False) (stackPend below) ∧ ∀ (x : Unit) (H' : AH), H' = H'_3 → true = true ∧ Kr (AV.bool true) H') ∧ (decide (n < (↑len : Int)) = false → false = false ∧ true = true ∧ (r == false) = true ∧ True ∧ (Ret P w0 14 [AV.ptr x 0] H' (fun (x : Nat) ↦ False) fun (v : AV) (H' : AH) ↦ ∃ (x : AV), v = x ∧ QA H'_2 x H') ∧ Pok H' (fun (x : Nat) ↦ False) (stackPend below) ∧ ∀ (x : AV) (H' : AH), QA H'_2 x H' → True ∧ (Ret P w0 15 [AV.ptr (Prod.fst x_1) 0] H' (fun (x : Nat) ↦ False) fun (v : AV) (H'_3 : AH) ↦ ∃ (x : AV), v = x ∧ QB H' x H'_3) ∧ Pok H' (fun (x : Nat) ↦ False) (stackPend below) ∧ ∀ (x_5 : AV) (H'_3 : AH), QB H' x_5 H'_3 → True ∧ (Ret P w0 13 [x, x_5] H'_3 (fun (x : Nat) ↦ False) fun (v : AV) (H' : AH) ↦ ∃ (x : Unit), v = AV.bool true ∧ H' = H'_3) ∧ Pok H'_3 (fun (x : Nat) ↦ False) (stackPend below) ∧ ∀ (x : Unit) (H' : AH), H' = H'_3 → true = true ∧ Kr (AV.bool true) H')) ∧ (decide (n ≥ (0 : Int)) = false → false = false ∧ false = false ∧ false = false ∧ true = true ∧ (r == false) = true ∧ True ∧ (Ret P w0 14 [AV.ptr x 0] H' (fun (x : Nat) ↦ False) fun (v : AV) (H' : AH) ↦ ∃ (x : AV), v = x ∧ QA H'_2 x H') ∧ Pok H' (fun (x : Nat) ↦ False) (stackPend below) ∧ ∀ (x : AV) (H' : AH), QA H'_2 x H' → True ∧ (Ret P w0 15 [AV.ptr (Prod.fst x_1) 0] H' (fun (x : Nat) ↦ False) fun (v : AV) (H'_3 : AH) ↦ ∃ (x : AV), v = x ∧ QB H' x H'_3) ∧ Pok H' (fun (x : Nat) ↦ False) (stackPend below) ∧ ∀ (x_5 : AV) (H'_3 : AH), QB H' x_5 H'_3 → True ∧ (Ret P w0 13 [x, x_5] H'_3 (fun (x : Nat) ↦ False) fun (v : AV) (H' : AH) ↦ ∃ (x : Unit), v = AV.bool true ∧ H' = H'_3) ∧ Pok H'_3 (fun (x : Nat) ↦ False) (stackPend below) ∧ ∀ (x : Unit) (H' : AH), H' = H'_3 → true = true ∧ Kr (AV.bool true) H')) := by kernel_rfl

section
variable {w0 : World} {H : AH} {S : Nat → Prop} {v : AV} {g : List (List Int)} {hs : List AV} {below : List AFr}

def KR (H : AH) : AV → AH → Prop := fun y H' => y = .bool true ∧ Kept (fun _ => False) H H'

def mkH (v : AV) (n : Int) : List (Nat × AV) := [(0, v), (1, .int .i64 n)]

theorem keptOf {H H' : AH} (h : ∀ m, m < H.nx → H'.get m = H.get m) (hn : H.nx ≤ H'.nx) : Kept (fun _ => False) H H' := ⟨hn, fun m hm _ => h m hm⟩

theorem pokK {H H' : AH} {pend : List Nat} (hw : Wf H) (hp : Pok H (fun _ => False) pend) (hk : Kept (fun _ => False) H H') : Pok H' (fun _ => False) pend := hp.mono hw hk fun _ _ x => x

theorem mk_err (hw : Wf H) (hp : Pok H (fun _ => False) (stackPend below)) (hmat : Mat H S v g hs) (hS : ∀ m, S m → m < H.nx) (n e : Int) (he : e ≠ 0) (hbad : ¬ (0 < g.length ∧ g.length ≤ 1024 ∧ (∀ l ∈ g, l.length ≤ 1024) ∧ Go.Proofs.DomP.Good g))
    (h1 : ∀ H y H', NewR H g [] (placeF [] 0 fun _ => none) (idomF up0 g.length) y H' → y = .tuple [.nptr, .int .i64 e]) (h2 : ∀ H y H', RNewR H v g (fun _ => false) [] y H' → y = .tuple [.nptr, .int .i64 e]) :
    ∀ z, Leads P w0 (RetK P 3 below (KR H)) ⟨w mk3 (setL (tz 79 z) (mkH v n)), below, H⟩ := fun z => by
  have hA := (new_ret (w0 := w0) hmat (k := 0) (sf := fun _ => false) (done := []) (nodes := []) (upF := up0) fun q1 q2 q3 q4 => absurd ⟨q1, q2, q3, q4⟩ hbad).wf
  refine Leads.go fine (mkE w0 _ _ below z v n e H (fun H1 => Kept (fun _ => False) H H1 ∧ Wf H1) (fun H1 H2 => Kept (fun _ => False) H1 H2 ∧ Wf H2) (fun H2 H3 => Kept (fun _ => False) H2 H3)) rfl
    ⟨trivial, hA.mono fun y H1 q => ⟨(), h1 _ _ _ q.1, keptOf q.1.1 q.1.2.1, q.2⟩, hp, fun _ H1 q => ?_⟩
  obtain ⟨k1, w1⟩ := q
  have hm1 : Mat H1 S v g hs := hmat.congr fun m hm => k1.get m (hS m hm) (fun h => h)
  have hB := (rnew_ret (w0 := w0) hm1 (fun m hm => Nat.lt_of_lt_of_le (hS m hm) k1.nx) (k := 0) (sf := fun _ => false) (done := []) fun q1 q2 q3 q4 => absurd ⟨q1, q2, q3, q4⟩ hbad).wf
  have hp1 := pokK hw hp k1
  refine ⟨trivial, hB.mono fun y H2 q => ⟨(), h2 _ _ _ q.1, keptOf q.1.1 q.1.2.1, q.2⟩, hp1, fun _ H2 q => ?_⟩
  obtain ⟨k2, w2⟩ := q
  refine ⟨trivial, live_ret.mono fun y H3 q => ⟨(), q⟩, pokK w1 hp1 k2, fun _ H3 k3 => ⟨rfl, rfl, by simp, rfl, by simp [he], by simp [he], rfl, (k1.trans k2).trans k3⟩⟩

theorem mk_ok (hw : Wf H) (hp : Pok H (fun _ => False) (stackPend below)) (hmat : Mat H S v g hs) (hS : ∀ m, S m → m < H.nx) (n : Int) (g0 : 0 < g.length) (g1 : g.length ≤ 1024) (g2 : ∀ l ∈ g, l.length ≤ 1024) (g3 : Go.Proofs.DomP.Good g) :
    ∀ z, Leads P w0 (RetK P 3 below (KR H)) ⟨w mk3 (setL (tz 79 z) (mkH v n)), below, H⟩ := fun z => by
  obtain ⟨sf, done, nodes, upF, M⟩ := made g3 g0
  obtain ⟨k, ok⟩ := M.ok
  have hlen := M.len
  have hA := (new_ret (w0 := w0) hmat fun _ _ _ _ => ok).wf
  have hr : done.reverse = 0 :: nodes := M.rev
  refine Leads.go fine (mkO w0 _ _ below z g.length v n (sf n) (placeF done.reverse 0 (fun _ => none) n).isSome H (fun d H1 => (NewOk H H1 d g done.reverse (placeF done.reverse 0 fun _ => none) (idomF upF g.length) ∧ Kept (fun _ => False) H H1) ∧ Wf H1)
    (fun d H1 p H2 => ((∃ vov vo, H2.get p.1 = some (.row [v, vov, vo, .slice p.2 0 g.length g.length] 37 true (.own none)) ∧ SlR H2 vo (done.map kI) ∧ H2.get p.2 = some (.row (seenCells sf g.length) 4 true (.own none))) ∧ Kept (fun _ => False) H1 H2) ∧ Wf H2) (fun _ _ _ H2 H3 => Kept (fun _ => False) H2 H3 ∧ Wf H3)
    (fun H3 x H4 => OrdQ H3 done.reverse x H4 ∧ Wf H4) (fun H4 x H5 => OrdQ H4 done.reverse x H5 ∧ Wf H5)) rfl ⟨trivial, hA.mono fun y H1 q => ?_, hp, fun d H1 q => ?_⟩
  · obtain ⟨⟨q1, q2, q3⟩, qw⟩ := q
    rcases q3 with ⟨q3, _⟩ | ⟨_, q3, _⟩ | ⟨_, _, _, q3, _⟩ | ⟨_, _, _, _, d, q4, q5⟩
    · omega
    · rcases q3 with q3 | ⟨l, hl, q3⟩
      · omega
      · have := g2 l hl; omega
    · exact absurd g3 q3
    · exact ⟨d, q4, ⟨q5, keptOf q1 q2⟩, qw⟩
  · obtain ⟨⟨⟨vg, vp, vo, vi, pm, hs', hD, _, _⟩, k1⟩, w1⟩ := q
    have hm1 : Mat H1 S v g hs := hmat.congr fun m hm => k1.get m (hS m hm) (fun h => h)
    have hp1 := pokK hw hp k1
    have hB := (rnew_ret (w0 := w0) hm1 (fun m hm => Nat.lt_of_lt_of_le (hS m hm) k1.nx) (k := k) (sf := sf) (done := done) fun _ _ _ _ => ⟨ok.1, by omega⟩).wf
    refine ⟨trivial, hB.mono fun y H2 q => ?_, hp1, fun p H2 q => ?_⟩
    · obtain ⟨⟨q1, q2, q3⟩, qw⟩ := q
      rcases q3 with ⟨q3, _⟩ | ⟨_, q3, _⟩ | ⟨_, _, _, q3, _⟩ | ⟨_, _, _, _, e, q4, q5⟩
      · omega
      · rcases q3 with q3 | ⟨l, hl, q3⟩
        · omega
        · have := g2 l hl; omega
      · exact absurd g3 q3
      · obtain ⟨vov, vo', sn, ovs, r1, r2, r3, r4, r5, r6, _⟩ := q5
        exact ⟨(e, sn), q4, ⟨⟨vov, vo', r1, r4, r6⟩, keptOf q1 q2⟩, qw⟩
    · obtain ⟨⟨⟨vov, vo', e1, e2, e3⟩, k2⟩, w2⟩ := q
      have hp2 := pokK w1 hp1 k2
      refine ⟨trivial, live_ret.wf.mono fun y H3 q => ⟨(), q.1.1, q.1.2, q.2⟩, hp2, fun _ H3 q => ?_⟩
      obtain ⟨k3, w3⟩ := q
      have hp3 := pokK w2 hp2 k3
      have hD3 := hD.congr (H' := H3) fun m hm => (k3.get m (by have := k2.nx; omega) (fun h => h)).trans (k2.get m hm.2 (fun h => h))
      have hrow3 : H3.get p.1 = some (.row [v, vov, vo', .slice p.2 0 g.length g.length] 37 true (.own none)) := by rw [k3.get p.1 (w2 _ _ e1) (fun h => h)]; exact e1
      have hsn3 : H3.get p.2 = some (.row (seenCells sf g.length) 4 true (.own none)) := by rw [k3.get p.2 (w2 _ _ e3) (fun h => h)]; exact e3
      have hv3 : SlR H3 vo' (done.map kI) := e2.congr fun m off hb => k3.get m (e2.lt w2 hb) (fun h => h)
      have hm3 : Mat H3 S v g hs := hm1.congr fun m hm => by
        have a1 := hS m hm
        have a2 := k1.nx
        have a3 := k2.nx
        rw [k3.get m (by omega) (fun h => h), k2.get m (by omega) (fun h => h)]
      have hal : aLen P H3 22 v = some (.int .i64 (g.length : Nat), []) := by rw [← hmat.len]; exact hm3.top.aLen et22.und
      have hpl : (placeF done.reverse 0 (fun _ => none) n).isSome = sf n := by
        have a1 := M.seen n
        have a2 := M.ord.plS n
        rw [← hr] at a1 a2
        rw [Bool.eq_iff_iff, a1]
        rw [hr] at *
        exact a2
      have hor := (order_ret (w0 := w0) hD3 (by rw [List.length_reverse]; omega)).wf
      have tail : Ret P w0 14 [.ptr d 0] H3 (fun _ => False) (fun y H4 => ∃ x, y = x ∧ OrdQ H3 done.reverse x H4 ∧ Wf H4) ∧ Pok H3 (fun _ => False) (stackPend below) ∧ ∀ (x : AV) (H4 : AH), OrdQ H3 done.reverse x H4 ∧ Wf H4 →
          True ∧ Ret P w0 15 [.ptr p.1 0] H4 (fun _ => False) (fun y H5 => ∃ x, y = x ∧ OrdQ H4 done.reverse x H5 ∧ Wf H5) ∧ Pok H4 (fun _ => False) (stackPend below) ∧ ∀ (x5 : AV) (H5 : AH), OrdQ H4 done.reverse x5 H5 ∧ Wf H5 →
            True ∧ Ret P w0 13 [x, x5] H5 (fun _ => False) (fun y H6 => ∃ _ : Unit, y = .bool true ∧ H6 = H5) ∧ Pok H5 (fun _ => False) (stackPend below) ∧ ∀ (_ : Unit) (H6 : AH), H6 = H5 → true = true ∧ KR H (.bool true) H6 := by
        refine ⟨hor.mono fun y H4 q => ⟨y, rfl, q⟩, hp3, fun x H4 q => ?_⟩
        obtain ⟨⟨q1, q2, q3⟩, w4⟩ := q
        have hp4 := pokK w3 hp3 q3
        have hrow4 : rdAt H4 p.1 2 = some vo' := by rw [rdAt_congr (q3.get p.1 (w3 _ _ hrow3) (fun h => h)), rdAt_row hrow3]; rfl
        have hv4 : SlR H4 vo' (done.map kI) := hv3.congr fun m off hb => q3.get m (hv3.lt w3 hb) (fun h => h)
        refine ⟨trivial, (rorder_ret (w0 := w0) hrow4 hv4 (by omega)).wf.mono fun y H5 q => ⟨y, rfl, q⟩, hp4, fun x5 H5 q => ?_⟩
        obtain ⟨⟨r1, r2, r3⟩, w5⟩ := q
        have he := equal_ret (w0 := w0) (q1.congr (H' := H5) fun m off hb => r3.get m (q1.lt w4 hb) (fun h => h)) r1 (by rw [List.length_reverse]; omega)
        rw [show decide (done.reverse = done.reverse) = true by simp] at he
        refine ⟨trivial, he.mono fun y H6 q => ⟨(), q⟩, pokK w4 hp4 r3, fun _ H6 h6 => ⟨rfl, rfl, ?_⟩⟩
        rw [h6]
        exact (((k1.trans k2).trans k3).trans q3).trans r3
      refine ⟨rfl, rfl, by simp, rfl, by simp, by simp, trivial, (len_ret hD3).mono fun y H4 q => ⟨(), q⟩, hp3, fun _ H4 h4 => ?_⟩
      subst h4
      refine ⟨hal, by simp, trivial, (reach_ret hD3 n).mono fun y H4 q => ⟨(), q⟩, hp3, fun _ H4' h4 => ?_⟩
      subst h4
      refine ⟨fun n0 => ⟨hal, rfl, fun n1 => ?_, fun n1 => ⟨rfl, rfl, ?_, trivial, tail⟩⟩, fun n0 => ⟨rfl, rfl, rfl, rfl, ?_, trivial, tail⟩⟩
      · have n0 : n ≥ 0 := by simpa using n0
        have n1 : n < (g.length : Int) := by simpa using n1
        refine ⟨by rw [rdAt_row hrow3]; rfl, ⟨n0, n1⟩, ?_, rfl, rfl, by rw [hpl]; simp, trivial, tail⟩
        rw [show 0 + Int.toNat n * 1 = n.toNat by omega, rdAt_row hsn3, seenCells_get _ (by omega), show ((n.toNat : Nat) : Int) = n by omega]
      · have n1 : ¬ n < (g.length : Int) := by simpa using n1
        cases hc : (placeF done.reverse 0 (fun _ => none) n).isSome with
        | false => rfl
        | true =>
          rw [hr] at hc
          have := (M.ord.range n ((M.ord.plS n).1 hc)).2
          omega
      · have n0 : ¬ n ≥ 0 := by simpa using n0
        cases hc : (placeF done.reverse 0 (fun _ => none) n).isSome with
        | false => rfl
        | true =>
          rw [hr] at hc
          have := (M.ord.range n ((M.ord.plS n).1 hc)).1
          omega

/-- DomMakes IS TRUE. -/
theorem makes_ret (hmat : Mat H S v g hs) (hS : ∀ m, S m → m < H.nx) (n : Int) : Ret P w0 3 [v, .int .i64 n] H (fun _ => False) (KR H) := Ret.mk fun below hp => by
  refine Leads.wf fun hw => ?_
  have hal : aLen P H 22 v = some (.int .i64 (g.length : Nat), []) := by rw [← hmat.len]; exact hmat.top.aLen et22.und
  have rest : ∀ z, Leads P w0 (RetK P 3 below (KR H)) ⟨w mk3 (setL (tz 79 z) (mkH v n)), below, H⟩ := by
    by_cases hx : 0 < g.length ∧ g.length ≤ 1024 ∧ (∀ l ∈ g, l.length ≤ 1024) ∧ Go.Proofs.DomP.Good g
    · exact mk_ok hw hp hmat hS n hx.1 hx.2.1 hx.2.2.1 hx.2.2.2
    · by_cases h0 : g.length = 0
      · refine mk_err hw hp hmat hS n 1 (by decide) hx (fun H y H' q => ?_) fun H y H' q => ?_
        · rcases q.2.2 with q | q | q | q
          · exact q.2
          · omega
          · omega
          · omega
        · rcases q.2.2 with q | q | q | q
          · exact q.2
          · omega
          · omega
          · omega
      · by_cases hl : 1024 < g.length ∨ ∃ l ∈ g, 1024 < l.length
        · have hno : g.length ≤ 1024 → (∀ l ∈ g, l.length ≤ 1024) → False := fun a b => by
            rcases hl with hl | ⟨l, hl, h⟩
            · omega
            · have := b l hl; omega
          refine mk_err hw hp hmat hS n 3 (by decide) hx (fun H y H' q => ?_) fun H y H' q => ?_
          · rcases q.2.2 with q | q | q | q
            · omega
            · exact q.2.2
            · exact (hno q.2.1 q.2.2.1).elim
            · exact (hno q.2.1 q.2.2.1).elim
          · rcases q.2.2 with q | q | q | q
            · omega
            · exact q.2.2
            · exact (hno q.2.1 q.2.2.1).elim
            · exact (hno q.2.1 q.2.2.1).elim
        · refine mk_err hw hp hmat hS n 1 (by decide) hx (fun H y H' q => ?_) fun H y H' q => ?_
          · rcases q.2.2 with q | q | q | q
            · omega
            · exact absurd q.2.1 hl
            · exact q.2.2.2.2
            · exact absurd ⟨q.1, q.2.1, q.2.2.1, q.2.2.2.1⟩ hx
          · rcases q.2.2 with q | q | q | q
            · omega
            · exact absurd q.2.1 hl
            · exact q.2.2.2.2
            · exact absurd ⟨q.1, q.2.1, q.2.2.1, q.2.2.2.1⟩ hx
  exact Leads.go fine (mk0 w0 _ _ below g.length v n H fun _ H' => Kept (fun _ => False) H H') (by kernel_rfl) ⟨hal, fun _ => ⟨hal, rfl, fun _ => ⟨trivial, live_ret.mono fun y H' q => ⟨(), q⟩, hp, fun _ H' q => ⟨rfl, q⟩⟩, fun _ => Leads.at (mkH v n) (by kernel_rfl) rest⟩, fun _ => ⟨rfl, rfl, Leads.at (mkH v n) (by kernel_rfl) rest⟩⟩
end
end Go.Dm
/- From a contract over the store of names to a call in a world; the arguments of a call opened into a store. -/
set_option linter.unusedVariables false
set_option linter.unusedSimpArgs false
namespace Go.Sy
open Go Go.Sx Go.RowKit Go.ChangeShapes Go.WideShapes Go.Deep

/-- THE CALL, out of the contract. -/
theorem calls_ret {P : Program} (hP : Fine P) {H0 : AH} {w : World} {E : Env} (hh0 : HR noBase w E noArgs H0 w) {f : FuncId} {args : List AV} {cargs : List Value} (hc : cvs E noArgs args = some cargs) (hfr : (enterFr P f args).isSome = true)
    {W : Nat → Prop} {R : AV → AH → Prop} (hR : Ret P w f args H0 W R) :
    Calls P f cargs.toArray w fun e w' => ∃ v c E' H', R v H' ∧ cv E' noArgs v = some c ∧ e = .returned c ∧ Below w.heap.size w w' := by
  intro cs
  obtain ⟨fr, hfr⟩ := Option.isSome_iff_exists.1 hfr
  have hM : MR P noBase w noArgs cs ⟨fr, [], H0⟩ (lone (Frame.enter P f cargs.toArray .normal) ([] ++ cs) w) := MR.mk (A := ⟨_, _, _⟩) (cs := []) hh0 (enterFr_ok hc hfr) .nil
  obtain ⟨M', hst, E', w', frm, cs', v, c, H', rfl, hh, hfs, hfn, hlv, hcv, hRv⟩ := hR fr hfr [] (fun p hp => by simp [stackPend] at hp) cs _ hM
  cases hfs
  exact ⟨.returned c, w', frm, ⟨v, c, E', H', hRv, hcv, rfl, hh.below.os, hh.below.tape, hh.below.output, hh.below.size, fun k hk => hh.below.block k hk (fun h => h)⟩, hst, hfn, hlv⟩

/-! ### Arguments opened -/
/-- A slice of a world, and what it reads as. -/
inductive RowT (w : World) : Value → List Value → Prop
  | nil : RowT w (.slice none 0 0) []
  | nothing (a : Addr) : RowT w (.slice (some a) 0 0) []
  | row {b off cap : Nat} {cs : Array Value} {t : TypeId} {fz : Nat × Nat} {vs : List Value} : w.heap[b]? = some (.cells cs t fz) → off + vs.length ≤ cs.size → (∀ i, off ≤ i → i < off + vs.length → ¬ (fz.1 ≤ i ∧ i < fz.2)) →
      (∀ i, i < vs.length → cs[off + i]? = vs[i]?) → vs.length ≤ cap → RowT w (.slice (some ⟨b, off, none⟩) vs.length cap) vs
/-- A slice as it comes in. -/
def InSl (v : AV) : Prop := v = .nslice 0 0 ∨ (∃ a, v = .hslice a) ∨ ∃ n len cap, v = .slice n 0 len cap ∧ len ≤ cap

section
variable {D : Type} {enc : TypeId × Value → D} {P : Program} {w : World} {held : Bool}
theorem open_row {t e : TypeId} {fuel : Nat} {v : Value} {x : DataW D × List MemPlace} (ht : P.underlying t = some (.slice e)) (hc : P.cellsOf e = 1) (h : DataW.trod enc P w 0 (fun _ => true) held fuel t [v] = some x) (hz : w.noneFrozen x.2) :
    ∃ vs, RowT w v vs ∧ ∀ u ∈ vs, ∃ n y, DataW.trod enc P w 0 (fun _ => true) held n e [u] = some y ∧ w.noneFrozen y.2 := by
  rcases open_slice1 ht hc h with ⟨hv, _⟩ | ⟨a, len, cap, m, n, V, Dn, Pl, hv, _, hl, _, hm, hx, hi⟩
  · simp only [List.cons.injEq, and_true] at hv
    subst hv
    exact ⟨[], .nil, by simp⟩
  · simp only [List.cons.injEq, and_true] at hv
    subst hv
    simp only [if_true] at hm
    subst hm
    by_cases h0 : m = 0
    · subst h0
      obtain rfl : len = 0 := by omega
      exact ⟨[], .nothing a, by simp⟩
    · have h1 := (hi 0 (by omega)).1
      have hsp : a.add 0 = a := by simp [Addr.add]
      rw [hsp] at h1
      unfold World.cell? at h1
      cases hb : w.heap[a.block]? with
      | none => rw [hb] at h1; cases h1
      | some ob =>
        rw [hb] at h1
        cases ob with
        | cells cs t' fz =>
          simp only at h1
          have hspot : a.spot = none := by
            cases hs : a.spot with
            | none => rfl
            | some s => rw [hs] at h1; simp at h1
          obtain ⟨b, off, sp⟩ := a
          simp only at hspot hb h1
          subst hspot
          have hadd : ∀ i, (Addr.mk b off none).add i = ⟨b, off + i, none⟩ := fun i => by
            unfold Addr.add
            split
            · rename_i hi0; subst hi0; rfl
            · rfl
          have hcell : ∀ i, i < m → cs[off + i]? = some (V i) := fun i him => by
            have := (hi i him).1
            rw [hadd] at this
            unfold World.cell? at this
            rw [hb] at this
            simpa using this
          refine ⟨(List.range len).map V, ?_, fun u hu => ?_⟩
          · have hll : ((List.range len).map V).length = len := by simp
            have := RowT.row (w := w) (b := b) (off := off) (cap := m) (cs := cs) (t := t') (fz := fz) (vs := (List.range len).map V) hb ?_ ?_ ?_ (by rw [hll]; exact hl)
            · rw [hll] at this; exact this
            · rw [hll]
              by_cases hl0 : len = 0
              · have := (Array.getElem?_eq_some_iff.1 (hcell 0 (by omega))).1
                omega
              · have := (Array.getElem?_eq_some_iff.1 (hcell (len - 1) (by omega))).1
                omega
            · intro i hi1 hi2 hfz
              rw [hll] at hi2
              have hpl : MemPlace.cell b i ∈ x.2 := by
                rw [hx]
                refine List.mem_append_left _ ?_
                unfold MemPlace.row
                rw [List.mem_map]
                exact ⟨i - off, List.mem_range.2 (by omega), by simp; omega⟩
              have := hz b i hpl
              unfold World.frozen? at this
              simp only [hb] at this
              simp [hfz.1, hfz.2] at this
            · intro i hil
              rw [hll] at hil
              rw [hcell i (by omega), List.getElem?_map, List.getElem?_range hil]
              rfl
          · obtain ⟨i, hi', rfl⟩ := List.mem_map.1 hu
            have hil := List.mem_range.1 hi'
            refine ⟨n, _, (hi i (by omega)).2, fun b' o' hp => hz b' o' ?_⟩
            rw [hx]
            refine List.mem_append_right _ (List.mem_flatMap.2 ⟨i, List.mem_range.2 (by omega), hp⟩)
        | _ => cases h1

theorem open_ints {t e : TypeId} {k : IntKind} {fuel : Nat} {v : Value} {x : DataW D × List MemPlace} (ht : P.underlying t = some (.slice e)) (he : P.underlying e = some (.int k)) (hc : P.cellsOf e = 1) (h : DataW.trod enc P w 0 (fun _ => true) held fuel t [v] = some x) (hz : w.noneFrozen x.2) :
    ∃ l : List Int, RowT w v (l.map fun n => .int k n) ∧ ∀ n ∈ l, (Lit.int k n).wf = true := by
  obtain ⟨vs, h1, h2⟩ := open_row ht hc h hz
  have : ∀ us : List Value, (∀ u ∈ us, ∃ n, u = .int k n ∧ (Lit.int k n).wf = true) → ∃ l : List Int, us = l.map (fun n => .int k n) ∧ ∀ n ∈ l, (Lit.int k n).wf = true := fun us => by
    induction us with
    | nil => exact fun _ => ⟨[], rfl, by simp⟩
    | cons u us ih =>
      intro hu
      obtain ⟨n, rfl, hn⟩ := hu u (by simp)
      obtain ⟨l, rfl, hl⟩ := ih fun q hq => hu q (by simp [hq])
      exact ⟨n :: l, rfl, fun q hq => by
        rcases List.mem_cons.1 hq with rfl | hq
        · exact hn
        · exact hl q hq⟩
  obtain ⟨l, rfl, hl⟩ := this vs fun u hu => by
    obtain ⟨n, y, hy, _⟩ := h2 u hu
    obtain ⟨z, hz, _, hw⟩ := DataW.trod_int he hy
    simp only [List.cons.injEq, and_true] at hz
    exact ⟨z, hz, hw⟩
  exact ⟨l, h1, hl⟩

theorem open_rows {t e i : TypeId} {k : IntKind} {fuel : Nat} {v : Value} {x : DataW D × List MemPlace} (ht : P.underlying t = some (.slice e)) (he : P.underlying e = some (.slice i)) (hi : P.underlying i = some (.int k)) (hc : P.cellsOf e = 1) (hci : P.cellsOf i = 1)
    (h : DataW.trod enc P w 0 (fun _ => true) held fuel t [v] = some x) (hz : w.noneFrozen x.2) :
    ∃ (vs : List Value) (g : List (List Int)), RowT w v vs ∧ vs.length = g.length ∧ (∀ (j : Nat) u l, vs[j]? = some u → g[j]? = some l → RowT w u (l.map fun n => .int k n)) ∧ ∀ l ∈ g, ∀ n ∈ l, (Lit.int k n).wf = true := by
  obtain ⟨vs, h1, h2⟩ := open_row ht hc h hz
  have : ∀ us : List Value, (∀ u ∈ us, ∃ l : List Int, RowT w u (l.map fun n => .int k n) ∧ ∀ n ∈ l, (Lit.int k n).wf = true) → ∃ g : List (List Int), us.length = g.length ∧ (∀ (j : Nat) u l, us[j]? = some u → g[j]? = some l → RowT w u (l.map fun n => .int k n)) ∧ ∀ l ∈ g, ∀ n ∈ l, (Lit.int k n).wf = true := fun us => by
    induction us with
    | nil => exact fun _ => ⟨[], rfl, fun j u l hj => by simp at hj, by simp⟩
    | cons u us ih =>
      intro hu
      obtain ⟨l, hl, hlw⟩ := hu u (by simp)
      obtain ⟨g, e1, e2, e3⟩ := ih fun q hq => hu q (by simp [hq])
      refine ⟨l :: g, by simp [e1], fun j y m hj hm => ?_, fun q hq => ?_⟩
      · cases j with
        | zero =>
          simp only [List.getElem?_cons_zero, Option.some.injEq] at hj hm
          subst hj hm
          exact hl
        | succ j => exact e2 j y m (by simpa using hj) (by simpa using hm)
      · rcases List.mem_cons.1 hq with rfl | hq
        · exact hlw
        · exact e3 q hq
  obtain ⟨g, e1, e2, e3⟩ := this vs fun u hu => by
    obtain ⟨n, y, hy, hyz⟩ := h2 u hu
    exact open_ints he hi hci hy hyz
  exact ⟨vs, g, h1, e1, e2, e3⟩
end

/-! ### Names for them -/
def AllView (H : AH) : Prop := ∀ n o, H.get n = some o → o.isView = true
def emptyH : AH := ⟨.leaf, 0, []⟩
theorem get_emptyH (n : Nat) : emptyH.get n = none := by unfold emptyH AH.get; exact Tr.get_leaf _
theorem HR.empty (w : World) : HR noBase w [] noArgs emptyH w := ⟨Stay.refl _ _, Nat.le_refl _, rfl, fun n e he => (by simp at he), fun n o ho => (by rw [get_emptyH] at ho; cases ho), fun n m o p e d ho => (by rw [get_emptyH] at ho; cases ho), (by simp [emptyH]), fun n o e ho => (by rw [get_emptyH] at ho; cases ho), fun _ _ h => h⟩
/-- One more slice that is read only. -/
theorem HR.view {w : World} {E : Env} {H : AH} (h : HR noBase w E noArgs H w) (hv : AllView H) {b off : Nat} {cs : Array Value} {t : TypeId} {fz : Nat × Nat} {cells : List AV} {vs : List Value} (hb : w.heap[b]? = some (.cells cs t fz)) (hl : off + vs.length ≤ cs.size)
    (hf : ∀ i, off ≤ i → i < off + vs.length → ¬ (fz.1 ≤ i ∧ i < fz.2)) (ha : ∀ i, i < vs.length → cs[off + i]? = vs[i]?) (hc : cvs E noArgs cells = some vs) :
    HR noBase w (E ++ [(b, off, off + vs.length)]) noArgs (H.new (.row cells t false .view)) w ∧ AllView (H.new (.row cells t false .view)) := by
  have hlen := (cvs_get hc).1
  have hget : ∀ n o, (H.new (.row cells t false .view)).get n = some o → (n < H.nx ∧ H.get n = some o) ∨ (n = H.nx ∧ o = .row cells t false .view) := fun n o ho => by
    rw [get_new] at ho
    split at ho
    · rename_i hn
      simp only [Option.some.injEq] at ho
      exact .inr ⟨hn, ho.symm⟩
    · obtain ⟨e, he, _⟩ := h.obj n o ho
      have := (List.getElem?_eq_some_iff.1 he).1
      exact .inl ⟨by rw [h.nx]; exact this, ho⟩
  have hview : AllView (H.new (.row cells t false .view)) := fun n o ho => by
    rcases hget n o ho with ⟨_, h1⟩ | ⟨_, rfl⟩
    · exact hv n o h1
    · rfl
  refine ⟨⟨h.below, h.base, by show H.nx + 1 = _; rw [h.nx]; simp, fun n e he => ?_, fun n o ho => ?_, fun n m o p e d ho hp hne he hd hed => ⟨.inl (hview n o ho), fun hx => (by rw [hview n o ho] at hx; cases hx)⟩, h.pc, fun n o e ho hx => (by rw [hview n o ho] at hx; cases hx), fun n e he => (by simp [noBase] at he)⟩, hview⟩
  · rcases get_app_lt he with he | ⟨_, rfl⟩
    · exact h.inb n e he
    · exact (Array.getElem?_eq_some_iff.1 hb).1
  · rcases hget n o ho with ⟨hn, h1⟩ | ⟨rfl, rfl⟩
    · obtain ⟨e, he, hr⟩ := h.obj n o h1
      exact ⟨e, Ext.app _ _ _ _ he, OR_ext (Ext.app _ _) hr⟩
    · refine ⟨(b, off, off + vs.length), by rw [h.nx]; exact get_app_self _, ?_⟩
      rw [show w.heap[(b, off, off + vs.length).1]? = some (.cells cs t fz) from hb]
      refine .row ⟨fun i v hi => ?_, ?_, hl, (fun hx => by cases hx), fun i h1 h2 => hf i h1 h2⟩
      · obtain ⟨c, hc1, hc2⟩ := (cvs_get hc).2 i v hi
        refine ⟨c, cv_ext (Ext.app _ _) _ _ hc1, ?_⟩
        have hil := (List.getElem?_eq_some_iff.1 hc2).1
        rw [ha i hil, hc2]
      · show off + cells.length ≤ off + vs.length
        omega
/-- A slice gets a name, if it needs one. -/
theorem name_row {w : World} {E : Env} {H : AH} (h : HR noBase w E noArgs H w) (hv : AllView H) {v : Value} {vs : List Value} (hr : RowT w v vs) {cells : List AV} (hc : cvs E noArgs cells = some vs) :
    ∃ E' H' x, HR noBase w E' noArgs H' w ∧ AllView H' ∧ Ext E E' ∧ (∀ m, m < H.nx → H'.get m = H.get m) ∧ H.nx ≤ H'.nx ∧ cv E' noArgs x = some v ∧ SlR H' x cells ∧ (∀ n off, slBase x = some (n, off) → n < H'.nx) ∧ InSl x := by
  have hlen := (cvs_get hc).1
  cases hr with
  | nil =>
    have : cells = [] := by cases cells with | nil => rfl | cons _ _ => simp at hlen
    subst this
    exact ⟨E, H, .nslice 0 0, h, hv, Ext.refl _, fun _ _ => rfl, Nat.le_refl _, by simp [cv], SlR.nil H 0, fun n off hb => (by simp [slBase] at hb), .inl rfl⟩
  | nothing a =>
    have : cells = [] := by cases cells with | nil => rfl | cons _ _ => simp at hlen
    subst this
    exact ⟨E, H, .hslice a, h, hv, Ext.refl _, fun _ _ => rfl, Nat.le_refl _, by simp [cv], ⟨rfl, rfl, fun n off hb => by simp [slBase] at hb, fun _ => rfl⟩, fun n off hb => (by simp [slBase] at hb), .inr (.inl ⟨a, rfl⟩)⟩
  | @row b off cap cs t fz _ hb hl hf ha hcap =>
    obtain ⟨h1, h2⟩ := HR.view h hv hb hl hf ha hc
    have hg : (H.new (.row cells t false .view)).get H.nx = some (.row cells t false .view) := by rw [get_new, if_pos rfl]
    refine ⟨_, _, .slice H.nx 0 vs.length cap, h1, h2, Ext.app _ _, fun m hm => by rw [get_new, if_neg (by omega)], Nat.le_succ _, ?_, ?_, fun n off hb => ?_, .inr (.inr ⟨_, _, _, rfl, hcap⟩)⟩
    · have : (E ++ [(b, off, off + vs.length)])[H.nx]? = some (b, off, off + vs.length) := by rw [h.nx]; exact get_app_self _
      simp [cv, this]
    · have := SlR.of_row (c := cap) hg
      rw [show cells.length = vs.length from hlen.symm] at this
      exact this
    · simp [slBase] at hb
      obtain ⟨rfl, _⟩ := hb
      exact Nat.lt_succ_self _
theorem cvs_ints (E : Env) (k : IntKind) : ∀ l : List Int, cvs E noArgs (l.map fun n => AV.int k n) = some (l.map fun n => Value.int k n)
  | [] => cvs_nil
  | n :: l => cvs_cons.2 ⟨_, _, by simp [cv], cvs_ints E k l, rfl⟩
/-- Rows of numbers get names. -/
theorem name_rows {w : World} {k : IntKind} : ∀ (vs : List Value) (g : List (List Int)) (E : Env) (H : AH), HR noBase w E noArgs H w → AllView H → vs.length = g.length → (∀ (j : Nat) u l, vs[j]? = some u → g[j]? = some l → RowT w u (l.map fun n => .int k n)) →
    ∃ E' H' hs, HR noBase w E' noArgs H' w ∧ AllView H' ∧ Ext E E' ∧ (∀ m, m < H.nx → H'.get m = H.get m) ∧ H.nx ≤ H'.nx ∧ cvs E' noArgs hs = some vs ∧ hs.length = g.length ∧
      ∀ (j : Nat) x l, hs[j]? = some x → g[j]? = some l → SlR H' x (l.map fun n => AV.int k n) ∧ (∀ n off, slBase x = some (n, off) → n < H'.nx) ∧ InSl x
  | [], [], E, H, h, hv, _, _ => ⟨E, H, [], h, hv, Ext.refl _, fun _ _ => rfl, Nat.le_refl _, cvs_nil, rfl, fun j x l hj => by simp at hj⟩
  | [], _ :: _, _, _, _, _, hl, _ => by simp at hl
  | _ :: _, [], _, _, _, _, hl, _ => by simp at hl
  | u :: vs, l :: g, E, H, h, hv, hl, hr => by
    obtain ⟨E1, H1, x, a1, a2, a3, a4, a5, a6, a7, a8, a9⟩ := name_row h hv (hr 0 u l rfl rfl) (cvs_ints E k l)
    obtain ⟨E2, H2, hs, b1, b2, b3, b4, b5, b6, b7, b8⟩ := name_rows vs g E1 H1 a1 a2 (by simpa using hl) fun j u' l' hj hl' => hr (j + 1) u' l' (by simpa using hj) (by simpa using hl')
    refine ⟨E2, H2, x :: hs, b1, b2, a3.trans b3, fun m hm => (b4 m (by omega)).trans (a4 m hm), by omega, cvs_cons.2 ⟨_, _, cv_ext b3 _ _ a6, b6, rfl⟩, by simp [b7], fun j y m hj hm => ?_⟩
    cases j with
    | zero =>
      simp only [List.getElem?_cons_zero, Option.some.injEq] at hj hm
      subst hj hm
      exact ⟨a7.congr fun n off hb => b4 n (a8 n off hb), fun n off hb => (by have := a8 n off hb; omega), a9⟩
    | succ j => exact b8 j y m (by simpa using hj) (by simpa using hm)
/-- A slice of slices of numbers, opened into a store. -/
theorem open_mat {D : Type} {enc : TypeId × Value → D} {P : Program} {w : World} {held : Bool} {t e i : TypeId} {k : IntKind} {fuel : Nat} {v : Value} {x : DataW D × List MemPlace} (ht : P.underlying t = some (.slice e)) (he : P.underlying e = some (.slice i)) (hi : P.underlying i = some (.int k)) (hc : P.cellsOf e = 1) (hci : P.cellsOf i = 1)
    (h : DataW.trod enc P w 0 (fun _ => true) held fuel t [v] = some x) (hz : w.noneFrozen x.2) :
    ∃ (g : List (List Int)) (E : Env) (H : AH) (hs : List AV) (y : AV), HR noBase w E noArgs H w ∧ cv E noArgs y = some v ∧ SlR H y hs ∧ ((∀ n off, slBase y = some (n, off) → n < H.nx) ∧ InSl y) ∧ hs.length = g.length ∧
      (∀ (j : Nat) x l, hs[j]? = some x → g[j]? = some l → SlR H x (l.map fun n => AV.int k n) ∧ (∀ n off, slBase x = some (n, off) → n < H.nx) ∧ InSl x) ∧ ∀ l ∈ g, ∀ n ∈ l, (Lit.int k n).wf = true := by
  obtain ⟨vs, g, h1, h2, h3, h4⟩ := open_rows ht he hi hc hci h hz
  obtain ⟨E1, H1, hs, b1, b2, b3, b4, b5, b6, b7, b8⟩ := name_rows vs g [] emptyH (HR.empty w) (fun n o ho => by rw [get_emptyH] at ho; cases ho) h2 h3
  obtain ⟨E2, H2, y, a1, a2, a3, a4, a5, a6, a7, a8, a9⟩ := name_row b1 b2 h1 b6
  exact ⟨g, E2, H2, hs, y, a1, a6, a7, ⟨a8, a9⟩, b7, fun j x l hj hl => by
    obtain ⟨q1, q2, q3⟩ := b8 j x l hj hl
    exact ⟨q1.congr fun n off hb => a4 n (q2 n off hb), fun n off hb => (by have := q2 n off hb; omega), q3⟩, h4⟩
end Go.Sy
