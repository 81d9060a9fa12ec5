/- tells of the law of layer 17: whether an iterator yields just the wanted numbers. No condition beyond the hypotheses. -/
import Derived.Test.YthbgoecgfoglnaaAOwnR
set_option linter.unusedVariables false
set_option linter.unusedSimpArgs false
namespace Go.Proofs.Ythbgoecgfoglnaa.Own
open Go.RowKit Go.Shelf Go.Proofs.YthbgoecgfoglnaaW.PrintWords Go.Proofs.YthbgoecgfoglnaaW.PrintLast Go.Proofs.YthbgoecgfoglnaaW.PrintMore
attribute [local go_sem] Oper.semAt_some
theorem cell_of_box_l {W : World} {B : Nat} {v : Value} {t : TypeId} (h : W.heap[B]? = some (.cells #[v] t (0, 0))) : W.cell? ⟨B, 0, none⟩ = some v ∧ W.frozen? ⟨B, 0, none⟩ = false := by
  constructor <;> simp [World.cell?, World.frozen?, h]
theorem cell_new_l (W : World) (v : Value) (t : TypeId) : (W.alloc (.cells #[v] t)).cell? ⟨W.heap.size, 0, none⟩ = some v ∧ (W.alloc (.cells #[v] t)).frozen? ⟨W.heap.size, 0, none⟩ = false :=
  cell_of_box_l (heap_alloc_new W _)
theorem cell_alloc_l {W : World} {a : Addr} {v : Value} (o : Obj) (h : W.cell? a = some v) : (W.alloc o).cell? a = some v := cell_kept h (World.grownBy_alloc W o none) (fun r e => by cases e)
theorem frozen_alloc_l {W : World} {a : Addr} {v : Value} (o : Obj) (h : W.cell? a = some v) (hf : W.frozen? a = false) : (W.alloc o).frozen? a = false := (frozen_kept h (World.grownBy_alloc W o none) (fun r e => by cases e)).trans hf
theorem KpX.refl (S : Nat → Prop) (W : World) : KpX S W W := ⟨Nat.le_refl _, fun _ _ _ _ _ h => h⟩
theorem KpX.set {S : Nat → Prop} (W : World) (b : Nat) (v : Value) (hb : S b) : KpX S W (W.setCell ⟨b, 0, none⟩ v) :=
  ⟨by simp, fun k cs t fr hk h => by
    have hg := grownBy_setCell' W b v
    exact (hg.block k (blk_lt h) (fun e => hk (by cases e; exact hb))).trans h⟩
theorem KpX.putObj {S : Nat → Prop} {w : World} (W : World) (l : Nat) (o o' : Obj) (_ : w.heap.size ≤ l) (h : W.heap[l]? = some o) (hc : o.isCells = false) (_ : o.isWalk = false) : KpX S W (W.putObj l o') :=
  ⟨by simp, fun k cs t fr _ hk => by
    by_cases e : k = l
    · subst e; rw [h] at hk; cases hk; cases hc
    · rw [World.putObj_heap_other e]; exact hk⟩
theorem not_pre_of_ne {l1 pre : List Int} {x : Int} (hp : pre = l1.take pre.length) (hlt : pre.length < l1.length) (hx : ¬ x = rd l1 pre.length) : ¬ (pre ++ [x] <+: l1) := by
  rintro ⟨t, ht⟩
  apply hx
  unfold rd
  rw [← ht]
  simp
theorem pre_step {l1 pre : List Int} {x : Int} (hp : pre = l1.take pre.length) (hlt : pre.length < l1.length) (hx : x = rd l1 pre.length) : pre ++ [x] = l1.take (pre ++ [x]).length := by
  have e : rd l1 pre.length = l1[pre.length] := by unfold rd; simp [List.getD_eq_getElem?_getD, hlt]
  rw [List.length_append, List.length_singleton, List.take_succ_eq_append_getElem hlt, ← hp, hx, e]
set_option maxHeartbeats 8000000 in
set_option maxRecDepth 100000 in
theorem tells_in (n : Nat) (hn : 3 ≤ n) (gf : Nat) (lb : Array Value) (eg : ∀ args w, (callFunc gf args).run Try.prog w = .ok (.enter gf args) w) (A1 : Option Addr) (c1 : Nat) (l1 ys : List Int) (N : Nat) (hN : N < 9000000000000000000) (w : World)
    (hr1 : Kd.C (Kd.int .i64) w A1 l1.length l1) (hc1 : l1.length ≤ c1)
    (hseq : ∀ w1 : World, Below w.heap.size w w1 → w.heap.size + 2 < w1.heap.size → SeqStopsK Fence.wide (n - 1) Try.prog gf lb (fun x : Int => #[.int .i64 x]) (KpX fun k => k = w.heap.size + 1 ∨ k = w.heap.size + 2) (fun zs => zs = ys) (fun pre => pre <+: ys) N w1) :
    CallsIn Fence.wide n Try.prog 18 #[.func (.func gf) #[] lb, .slice A1 l1.length c1] w fun e w' => e = .returned (.bool (decide (ys = l1))) ∧ Below w.heap.size w w' := by
  have HR := Aside0.mk hr1
  clear hr1
  refine callsIn_of_wp_marks Try.func18 rfl trivial ?_ rfl
  simp only [Try.ntmps18, List.size_toArray, List.length_cons, List.length_nil, Nat.reduceAdd, Nat.reduceSub, Array.replicate_succ, Array.replicate_zero, List.push_toArray, List.append_toArray, List.nil_append, List.cons_append]
  gi_wp2
  have c0 := cell_new_l w (.slice A1 l1.length c1) 41
  have c1' := cell_new_l (w.alloc (.cells #[.slice A1 l1.length c1] 41)) (.bool false) 4
  have c2 := cell_new_l ((w.alloc (.cells #[.slice A1 l1.length c1] 41)).alloc (.cells #[.bool false] 4)) (.int .i64 0) 3
  simp only [World.size_alloc] at c1' c2
  have hB0 : Below w.heap.size w (((w.alloc (.cells #[.slice A1 l1.length c1] 41)).alloc (.cells #[.bool false] 4)).alloc (.cells #[.int .i64 0] 3)) := (((Below.refl _ w).alloc (Nat.le_refl _) _).alloc (by simp) _).alloc (by simp; omega) _
  refine wpIn_rangeFunc_ownF rfl (by omega) (gf := gf) (lb := lb) rfl trivial eg (hseq _ hB0 (by simp)) KpX.trans KpX.putObj (Below.refl _ _) (fun _ => rfl)
    (fun pre W => (pre = l1.take pre.length ∧ pre.length ≤ l1.length ∧ W.cell? ⟨w.heap.size, 0, none⟩ = some (.slice A1 l1.length c1) ∧ W.cell? ⟨w.heap.size + 1, 0, none⟩ = some (.bool false) ∧ W.frozen? ⟨w.heap.size + 1, 0, none⟩ = false ∧ W.cell? ⟨w.heap.size + 1 + 1, 0, none⟩ = some (.int .i64 pre.length) ∧ W.frozen? ⟨w.heap.size + 1 + 1, 0, none⟩ = false) ∧ Below w.heap.size w W)
    (fun c pre W => (c = .ret ∧ ¬ (pre <+: l1) ∧ W.cell? ⟨w.heap.size + 1, 0, none⟩ = some (.bool false)) ∧ Below w.heap.size w W)
    (OwnFrom.and (Own.from (fun s A B row hs hg hr => ⟨hs.1, hs.2.1, cell_kept hs.2.2.1 hg hr, cell_kept hs.2.2.2.1 hg hr, (frozen_kept hs.2.2.2.1 hg hr).trans hs.2.2.2.2.1, cell_kept hs.2.2.2.2.2.1 hg hr, (frozen_kept hs.2.2.2.2.2.1 hg hr).trans hs.2.2.2.2.2.2⟩) _) (ownFrom_below (Nat.le_refl _) (by simp; omega)))
    (fun c => OwnFrom.and (Own.from (fun s A B row hs hg hr => ⟨hs.1, hs.2.1, cell_kept hs.2.2 hg hr⟩) _) (ownFrom_below (Nat.le_refl _) (by simp; omega)))
    ⟨⟨by simp, by simp, cell_alloc_l _ (cell_alloc_l _ c0.1), cell_alloc_l _ c1'.1, frozen_alloc_l _ c1'.1 c1'.2, c2.1, c2.2⟩, hB0⟩
    (fun x => { tmps := #[.func (.func gf) #[] lb, .slice A1 l1.length c1, undef, .pointer (some ⟨w.heap.size, 0, none⟩), .pointer (some ⟨w.heap.size + 1, 0, none⟩), .pointer (some ⟨w.heap.size + 1 + 1, 0, none⟩), .int .i64 x, .func (.func gf) #[] lb, .int .i64 x, undef, undef, undef, undef, undef, undef, undef, undef, undef, undef, undef, undef, undef, undef, undef, undef, undef, undef], defers := [] }) ?assign ?body ?done ?stop
  case assign =>
    intro l x W K hK
    gi_wp2
    exact hK
  case body =>
    rintro l pre x W ⟨⟨hp, hpl, hcw, hcr, hfr, hcn, hfn⟩, hB⟩ hlN
    have hP := Lib.hid hp
    clear hp
    by_cases hlt : pre.length < l1.length
    · have hRW := Kd.C_below HR.out hB
      obtain ⟨ad, rfl, had⟩ := Kd.at_int hRW (pre.length : Int) (by omega) (by omega)
      have had' := had
      simp only [Int.toNat_natCast] at had'
      clear hRW had
      have d1 : decide (l1.length ≤ pre.length) = false := by simp; omega
      by_cases hx : x = rd l1 pre.length
      · have hb : (x != rd l1 pre.length) = false := by simp [hx]
        have hX := Lib.hid hx
        clear hx
        gi_wp2
        refine ⟨KeepsOthers.setCell _ _ _, KpX.set _ _ _ (.inr rfl), ⟨?_, by simp; omega, ?_, ?_, ?_, ?_, ?_⟩, hB.setCell (p := ⟨w.heap.size + 1 + 1, 0, none⟩) (by simp; omega) _⟩
        · exact pre_step hP.out hlt hX.out
        · exact (cell_far (by simp; omega) _).trans hcw
        · exact (cell_far (by simp) _).trans hcr
        · rw [World.frozen?_setCell]; exact hfr
        · rw [show ((pre ++ [x]).length : Int) = (pre.length : Int) + 1 from by simp]; exact World.cell?_setCell_same' _ _ _ (by rw [hcn]; rfl)
        · rw [World.frozen?_setCell]; exact hfn
      · have hb : (x != rd l1 pre.length) = true := by simp [hx]
        have hX := Lib.hid hx
        clear hx
        gi_wp2
        refine ⟨KeepsOthers.setCell _ _ _, ⟨rfl, ?_, World.cell?_setCell_same' _ _ _ (by rw [hcr]; rfl)⟩, hB.setCell (p := ⟨w.heap.size + 1, 0, none⟩) (by simp) _⟩
        exact not_pre_of_ne hP.out hlt hX.out
    · have d1 : decide (l1.length ≤ pre.length) = true := by simp; omega
      gi_wp2
      refine ⟨KeepsOthers.setCell _ _ _, ⟨rfl, ?_, World.cell?_setCell_same' _ _ _ (by rw [hcr]; rfl)⟩, hB.setCell (p := ⟨w.heap.size + 1, 0, none⟩) (by simp) _⟩
      exact fun h => by have := h.length_le; simp at this; omega
  case done =>
    rintro D zs W hD rfl ⟨⟨hp, hpl, hcw, hcr, hfr, hcn, hfn⟩, hB⟩ hK
    have hP := Lib.hid hp
    clear hp
    have hfinal : (zs.length = l1.length) = (zs = l1) := propext ⟨fun h => by rw [hP.out, h, List.take_length], fun h => by rw [h]⟩
    have hF := Lib.hid hfinal
    clear hfinal
    by_cases hz : zs.length = l1.length
    · have e1 : (zs.length == l1.length) = true := by simp [hz]
      have e2 : ((zs.length : Int) == (l1.length : Int)) = true := by simp [hz]
      have hZ := Lib.hid hz
      clear hz
      gi_wp2
      have hK' := (KeepsOthers.setCell W ⟨w.heap.size + 1, 0, none⟩ (.bool true)).same D _ hK rfl
      refine ⟨by simp, .inl ⟨_, _, rfl, run_takeDeferred hK', ?_⟩⟩
      have hc5 := cell_kept (World.cell?_setCell_same' W ⟨w.heap.size + 1, 0, none⟩ (.bool true) (by rw [hcr]; rfl)) (grownBy_putObj' _ D (.deferred none)) (fun r e => by cases e; exact ⟨_, hK', rfl⟩)
      refine ⟨.bool true, ?_, by rw [decide_eq_true (by rw [← hF.out]; exact hZ.out)], (hB.setCell (p := ⟨w.heap.size + 1, 0, none⟩) (by simp) _).trans (belowK_b (w := w) (Nat.le_refl _) _ D _ _ (by simp at hD; omega) hK' rfl rfl)⟩
      simp [results, Try.f18, go_sem, hc5]
    · have e1 : (zs.length == l1.length) = false := by simp [hz]
      have e2 : ((zs.length : Int) == (l1.length : Int)) = false := by simp; omega
      have hZ := Lib.hid hz
      clear hz
      gi_wp2
      have hK' := (KeepsOthers.setCell W ⟨w.heap.size + 1, 0, none⟩ (.bool false)).same D _ hK rfl
      refine ⟨by simp, .inl ⟨_, _, rfl, run_takeDeferred hK', ?_⟩⟩
      have hc5 := cell_kept (World.cell?_setCell_same' W ⟨w.heap.size + 1, 0, none⟩ (.bool false) (by rw [hcr]; rfl)) (grownBy_putObj' _ D (.deferred none)) (fun r e => by cases e; exact ⟨_, hK', rfl⟩)
      refine ⟨.bool false, ?_, by rw [decide_eq_false (by rw [← hF.out]; exact hZ.out)], (hB.setCell (p := ⟨w.heap.size + 1, 0, none⟩) (by simp) _).trans (belowK_b (w := w) (Nat.le_refl _) _ D _ _ (by simp at hD; omega) hK' rfl rfl)⟩
      simp [results, Try.f18, go_sem, hc5]
  case stop =>
    rintro D c pre W hD hpre ⟨⟨rfl, hin, hcr⟩, hB⟩ hK
    gi_wp2
    refine ⟨by simp, .inl ⟨_, _, rfl, run_takeDeferred hK, ?_⟩⟩
    have hc5 := cell_kept hcr (grownBy_putObj' _ D (.deferred none)) (fun r e => by cases e; exact ⟨_, hK, rfl⟩)
    refine ⟨.bool false, ?_, by rw [decide_eq_false (fun h => hin (by rw [← h]; exact hpre))], hB.trans (belowK_b (w := w) (Nat.le_refl _) W D _ _ (by simp at hD; omega) hK rfl rfl)⟩
    simp [results, Try.f18, go_sem, hc5]
end Go.Proofs.Ythbgoecgfoglnaa.Own
