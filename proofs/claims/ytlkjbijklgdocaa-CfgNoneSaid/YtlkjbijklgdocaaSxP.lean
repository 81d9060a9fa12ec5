/- A region in any order: what was carried out ahead of its turn. No program stands here. -/
import Derived.Test.YtlkjbijklgdocaaSxO
set_option linter.unusedSimpArgs false
namespace Go.Sx
open Go Go.RowKit
abbrev Set' := Nat → Bool
def upd (L : Set') (i : Nat) : Set' := fun j => j == i || L j
theorem upd_comm (L : Set') (i j : Nat) : upd (upd L i) j = upd (upd L j) i := by
  funext k; simp only [upd]; cases (k == i) <;> cases (k == j) <;> rfl
theorem upd_self (L : Set') (i : Nat) : upd L i i = true := by simp [upd]
theorem upd_ne {L : Set'} {i j : Nat} (h : j ≠ i) : upd L i j = L j := by simp [upd, h]
theorem upd_mono {L : Set'} {i j : Nat} (h : L j = true) : upd L i j = true := by simp [upd, h]
/-- Operation i may come up when those of D have. -/
def Rdy (ops : Array Oper) (D : Set') (i : Nat) : Prop := D i = false ∧ ∃ o, ops[i]? = some o ∧ ∀ e ∈ o.after, Region.binds .any e = true → D e.on = true
/-- l is what is left of a schedule, when those of L have come up. -/
def Lin (ops : Array Oper) : Set' → List Nat → Prop
  | L, [] => ∀ i, ¬ Rdy ops L i
  | L, i :: l => Rdy ops L i ∧ Lin ops (upd L i) l
/-- Each that has come up has come up behind those that it waits for. -/
def Closed (ops : Array Oper) (L : Set') : Prop := ∀ i, L i = true → ∃ o, ops[i]? = some o ∧ ∀ e ∈ o.after, Region.binds .any e = true → L e.on = true
theorem Closed.upd {ops : Array Oper} {L : Set'} (h : Closed ops L) {i : Nat} (hr : Rdy ops L i) : Closed ops (upd L i) := fun j hj => by
  by_cases c : j = i
  · subst c
    obtain ⟨_, o, ho, he⟩ := hr
    exact ⟨o, ho, fun e hm hb => upd_mono (he e hm hb)⟩
  · rw [upd_ne c] at hj
    obtain ⟨o, ho, he⟩ := h j hj
    exact ⟨o, ho, fun e hm hb => upd_mono (he e hm hb)⟩
theorem Rdy.mono {ops : Array Oper} {L : Set'} {i j : Nat} (h : Rdy ops L j) (hne : j ≠ i) : Rdy ops (upd L i) j := by
  obtain ⟨h0, o, ho, he⟩ := h
  exact ⟨by rw [upd_ne hne]; exact h0, o, ho, fun e hm hb => upd_mono (he e hm hb)⟩
section
variable {P : Program} {ops : Array Oper}
/-- What the tape picks is a schedule. -/
theorem lin_of {listed : Array Bool} : ∀ (fuel t : Nat) (listed : Array Bool), listed.size = ops.size → (List.range ops.size).countP (fun i => !listed.getD i true) ≤ fuel →
    Lin ops (fun i => listed.getD i false) (Region.linearise.go .any ops fuel t listed []) := by
  have rd : ∀ (listed : Array Bool), listed.size = ops.size → ∀ i, i ∈ Region.ready .any ops listed ↔ Rdy ops (fun i => listed.getD i false) i := fun listed hl i => by
    rw [mem_ready]
    constructor
    · rintro ⟨h0, o, ho, he⟩
      have hi := (Array.getElem?_eq_some_iff.1 ho).1
      refine ⟨?_, o, ho, he⟩
      simp only [Array.getD_eq_getD_getElem?] at h0 ⊢
      rw [Array.getElem?_eq_getElem (by omega)] at h0 ⊢
      exact h0
    · rintro ⟨h0, o, ho, he⟩
      have hi := (Array.getElem?_eq_some_iff.1 ho).1
      refine ⟨?_, o, ho, he⟩
      simp only [Array.getD_eq_getD_getElem?] at h0 ⊢
      rw [Array.getElem?_eq_getElem (by omega)] at h0 ⊢
      exact h0
  intro fuel
  induction fuel with
  | zero =>
    intro t listed hl hc i hr
    have hm := (rd listed hl i).2 hr
    have hi : i < ops.size := by obtain ⟨_, o, ho, _⟩ := hr; exact (Array.getElem?_eq_some_iff.1 ho).1
    have : 0 < (List.range ops.size).countP (fun i => !listed.getD i true) := by
      rw [List.countP_pos_iff]
      exact ⟨i, List.mem_range.2 hi, by rw [(mem_ready.1 hm).1]; rfl⟩
    omega
  | succ fuel ih =>
    intro t listed hl hc
    simp only [Region.linearise.go]
    change Lin ops _ (match (Region.ready .any ops listed)[t % (Region.ready .any ops listed).length]? with
      | some i => Region.linearise.go .any ops fuel (t / (Region.ready .any ops listed).length) (listed.setIfInBounds i true) [i]
      | none => [].reverse)
    cases hi : (Region.ready .any ops listed)[t % (Region.ready .any ops listed).length]? with
    | none =>
      intro i hr
      have hm := (rd listed hl i).2 hr
      have hlt : t % (Region.ready .any ops listed).length < (Region.ready .any ops listed).length := Nat.mod_lt _ (List.length_pos_of_mem hm)
      rw [List.getElem?_eq_getElem hlt] at hi
      cases hi
    | some i =>
      simp only []
      rw [linearise_go_acc, List.reverse_singleton, List.singleton_append]
      have hm := List.mem_of_getElem? hi
      have hr := (rd listed hl i).1 hm
      have hil : i < ops.size := by obtain ⟨_, o, ho, _⟩ := hr; exact (Array.getElem?_eq_some_iff.1 ho).1
      refine ⟨hr, ?_⟩
      have hu : upd (fun i => listed.getD i false) i = fun j => (listed.setIfInBounds i true).getD j false := by
        funext j
        unfold upd
        by_cases c : j = i
        · subst c
          simp only [beq_self_eq_true, Bool.true_or, Array.getD_eq_getD_getElem?]
          rw [Array.getElem?_setIfInBounds, if_pos rfl, if_pos (by omega)]
          rfl
        · have : (j == i) = false := by simpa using c
          rw [this, Bool.false_or, getD_set_ne false (Ne.symm c)]
      rw [hu]
      refine ih _ _ (by simpa using hl) ?_
      -- one fewer is left
      have h0 : listed.getD i true = false := (mem_ready.1 hm).1
      have hlt : (List.range ops.size).countP (fun j => !(listed.setIfInBounds i true).getD j true) < (List.range ops.size).countP (fun j => !listed.getD j true) := by
        have aux : ∀ (l : List Nat), i ∈ l → l.countP (fun j => !(listed.setIfInBounds i true).getD j true) < l.countP (fun j => !listed.getD j true) := by
          intro l
          have hset : (listed.setIfInBounds i true).getD i true = true := by
            simp only [Array.getD_eq_getD_getElem?]
            rw [Array.getElem?_setIfInBounds, if_pos rfl, if_pos (by omega)]
            rfl
          have hle : ∀ (l : List Nat), l.countP (fun j => !(listed.setIfInBounds i true).getD j true) ≤ l.countP (fun j => !listed.getD j true) := by
            intro l
            refine List.countP_mono_left fun j _ hj => ?_
            by_cases c : j = i
            · subst c
              rw [hset] at hj; simp at hj
            · rw [getD_set_ne true (Ne.symm c)] at hj
              exact hj
          induction l with
          | nil => intro h; cases h
          | cons x r ihl =>
            intro hx
            rw [List.countP_cons, List.countP_cons]
            by_cases c : x = i
            · subst c
              rw [h0, hset]
              have := hle r
              rw [if_neg (by simp), if_pos (by simp)]
              omega
            · have hr' : i ∈ r := by
                rcases List.mem_cons.1 hx with h | h
                · exact absurd h.symm c
                · exact h
              have := ihl hr'
              rw [getD_set_ne true (Ne.symm c)]
              omega
        exact aux _ (List.mem_range.2 hil)
      omega
theorem lin_schedule (t : Nat) : Lin ops (fun _ => false) (Region.schedule true ops t) := by
  unfold Region.schedule Region.linearise
  simp only [Bool.true_or, if_true]
  have := lin_of (ops := ops) (listed := Array.replicate ops.size false) ops.size t (Array.replicate ops.size false) (by simp) (by
    have := List.countP_le_length (p := fun i => !(Array.replicate ops.size false).getD i true) (l := List.range ops.size)
    simpa using this)
  have e : (fun i => (Array.replicate ops.size false).getD i false) = fun _ => false := by
    funext i
    simp only [Array.getD_eq_getD_getElem?, Array.getElem?_replicate]
    split <;> rfl
  rw [e] at this
  exact this

/-! ### Ahead of its turn -/
/-- Operation o leaves v in its temporary, and does nothing else, as long as the blocks of bs are as they are in w. -/
def YOn (P : Program) (ops : Array Oper) (w : World) (o : Oper) (v : Value) (a : Act) (bs : Nat → Prop) : Prop :=
  (Region.wanted o (yielded ops a.tmps) = true ∧ ∀ w', (∀ b, bs b → w'.heap[b]? = w.heap[b]?) → (execOp a.eval o).run P w' = .ok (.value v) w') ∨
  (Region.wanted o (yielded ops a.tmps) = false ∧ v = undef)
theorem YOn.same {w : World} {o : Oper} {v : Value} {a a' : Act} {bs : Nat → Prop} (h : YOn P ops w o v a bs) (he : execOp a'.eval o = execOp a.eval o) (hw : Region.wanted o (yielded ops a'.tmps) = Region.wanted o (yielded ops a.tmps)) : YOn P ops w o v a' bs := by
  unfold YOn at *
  rw [he, hw]
  exact h
theorem YOn.world {w w2 : World} {o : Oper} {v : Value} {a : Act} {bs : Nat → Prop} (h : YOn P ops w o v a bs) (hw : ∀ b, bs b → w2.heap[b]? = w.heap[b]?) : YOn P ops w2 o v a bs := by
  rcases h with ⟨h1, h2⟩ | h
  · exact .inl ⟨h1, fun w' h' => h2 w' fun b hb => (h' b hb).trans (hw b hb)⟩
  · exact .inr h
def Free (ops : Array Oper) (D : Set') (i : Nat) : Prop := ∀ oi, ops[i]? = some oi → ∀ j oj, ops[j]? = some oj → j ≠ i → D j = false → (∀ e ∈ oj.after, Region.binds .any e = true → e.on ≠ i) → oi.apart ops oj = true
/-- L have come up, C is what they left; D have been carried out, V is what they left: those of D beyond L one by one ahead of their turn. -/
inductive Ah (P : Program) (ops : Array Oper) (w : World) (pb : Nat → Nat → Prop) (L : Set') (C : Act) : Set' → Act → Prop
  | nil : Ah P ops w pb L C L C
  | take {D : Set'} {V : Act} {i : Nat} {o : Oper} {v : Value} : Ah P ops w pb L C D V → Rdy ops D i → Free ops D i → ops[i]? = some o → YOn P ops w o v V (pb i) → Ah P ops w pb L C (upd D i) (V.put o.dst v)
variable {w : World} {pb : Nat → Nat → Prop} {L D : Set'} {C V : Act}
theorem Ah.sub (h : Ah P ops w pb L C D V) {j : Nat} (hj : L j = true) : D j = true := by
  induction h with
  | nil => exact hj
  | take _ _ _ _ _ ih => exact upd_mono ih
theorem Ah.world (h : Ah P ops w pb L C D V) {w2 : World} (hw : ∀ j b, pb j b → w2.heap[b]? = w.heap[b]?) : Ah P ops w2 pb L C D V := by
  induction h with
  | nil => exact .nil
  | take _ hr hf ho hy ih => exact .take ih hr hf ho (hy.world (hw _))
/-- Those whose turn has come need no shelter any more. -/
theorem Ah.weaken (h : Ah P ops w pb L C D V) {pb2 : Nat → Nat → Prop} (hp : ∀ j b, L j = false → pb j b → pb2 j b) : Ah P ops w pb2 L C D V := by
  induction h with
  | nil => exact .nil
  | @take D V i o v hA hr hf ho hy ih =>
    refine .take ih hr hf ho ?_
    have hL : L i = false := by
      cases hx : L i with
      | false => rfl
      | true => exact absurd (hA.sub hx) (by rw [hr.1]; simp)
    rcases hy with ⟨h1, h2⟩ | h
    · exact .inl ⟨h1, fun w' h' => h2 w' fun b hb => h' b (hp i b hL hb)⟩
    · exact .inr h
theorem Ah.more (h : Ah P ops w pb L C D V) {pb2 : Nat → Nat → Prop} (hp : ∀ j b, pb j b → pb2 j b) : Ah P ops w pb2 L C D V := by
  induction h with
  | nil => exact .nil
  | take _ hr hf ho hy ih =>
    refine .take ih hr hf ho ?_
    rcases hy with ⟨h1, h2⟩ | h
    · exact .inl ⟨h1, fun w' h' => h2 w' fun b hb => h' b (hp _ b hb)⟩
    · exact .inr h
/-- The next to come up: it was not carried out yet, and sees nothing of what was; or it was, and yields what it did. -/
theorem Ah.step (hsel : ∀ (j : Nat) (o : Oper) cs b, ops[j]? = some o → o.op ≠ .select cs b) (h : Ah P ops w pb L C D V) {j : Nat} {oj : Oper} (hj : ops[j]? = some oj) (hr : Rdy ops L j) :
    (D j = false → (execOp V.eval oj = execOp C.eval oj ∧ Region.wanted oj (yielded ops V.tmps) = Region.wanted oj (yielded ops C.tmps)) ∧ ∀ u, Ah P ops w pb (upd L j) (C.put oj.dst u) (upd D j) (V.put oj.dst u)) ∧
    (D j = true → ∃ v, YOn P ops w oj v C (pb j) ∧ Ah P ops w pb (upd L j) (C.put oj.dst v) D V) := by
  induction h with
  | nil => exact ⟨fun _ => ⟨⟨rfl, rfl⟩, fun u => .nil⟩, fun hd => by rw [hr.1] at hd; cases hd⟩
  | @take D V i o v hA hri hfi ho hy ih =>
    obtain ⟨ih1, ih2⟩ := ih
    by_cases c : j = i
    · subst c
      rw [ho] at hj
      injection hj with hj
      subst hj
      refine ⟨(fun hd => by rw [upd_self] at hd; cases hd), fun _ => ?_⟩
      obtain ⟨⟨e1, e2⟩, e3⟩ := ih1 hri.1
      exact ⟨v, hy.same e1.symm e2.symm, e3 v⟩
    · have hLi : L i = false := by
        cases hx : L i with
        | false => rfl
        | true => exact absurd (hA.sub hx) (by rw [hri.1]; simp)
      have hno : ∀ e ∈ oj.after, Region.binds .any e = true → e.on ≠ i := fun e hm hb heq => by
        obtain ⟨_, oj', hj', he⟩ := hr
        rw [hj] at hj'; injection hj' with hj'; subst hj'
        have := he e hm hb
        rw [heq, hLi] at this
        cases this
      constructor
      · intro hd
        rw [upd_ne c] at hd
        obtain ⟨⟨e1, e2⟩, e3⟩ := ih1 hd
        have hap := hfi o ho j oj hj c hd hno
        obtain ⟨h1, h2, h3⟩ := Oper.apart_spec hap
        refine ⟨⟨?_, ?_⟩, fun u => ?_⟩
        · rw [execOp_put oj (fun cs b => hsel j oj cs b hj) V o.dst v h1]; exact e1
        · rw [wanted_put oj V o.dst v h1]; exact e2
        · have hA' := e3 u
          have hy' : YOn P ops w o v (V.put oj.dst u) (pb i) := hy.same (execOp_put o (fun cs b => hsel i o cs b ho) V oj.dst u h3) (wanted_put o V oj.dst u h3)
          have hf' : Free ops (upd D j) i := fun oi hoi k ok hk hki hdk hnk => by
            refine hfi oi hoi k ok hk hki ?_ hnk
            cases hx : D k with
            | false => rfl
            | true => rw [upd_mono hx] at hdk; cases hdk
          have := Ah.take hA' (hri.mono (Ne.symm c)) hf' ho hy'
          rw [upd_comm D i j, Act.put_comm V v u h2]
          exact this
      · intro hd
        rw [upd_ne c] at hd
        obtain ⟨x, hy2, hA2⟩ := ih2 hd
        exact ⟨x, hy2, .take hA2 hri hfi ho hy⟩
/-- When nothing may come up any more, all that was carried out has come up. -/
theorem Ah.done (h : Ah P ops w pb L C D V) (hl : ∀ i, ¬ Rdy ops L i) : D = L ∧ V = C := by
  induction h with
  | nil => exact ⟨rfl, rfl⟩
  | @take D V i o v hA hr hf ho hy ih =>
    obtain ⟨rfl, rfl⟩ := ih
    exact absurd hr (hl i)
theorem regOk_select (h : regOk ops = true) : ∀ (j : Nat) (o : Oper) cs b, ops[j]? = some o → o.op ≠ .select cs b := fun j o cs b ho heq => by
  unfold regOk at h
  rw [List.all_eq_true] at h
  have := h (o, j) (by rw [List.mem_zipIdx_iff_getElem?]; simpa using ho)
  simp only [heq, Bool.and_eq_true] at this
  exact absurd this.1 (by simp)
theorem regOk_free (h : regOk ops = true) {D : Set'} {i : Nat} (hr : Rdy ops D i) : Free ops D i := fun oi hoi j oj hj hji hdj hno => by
  unfold regOk at h
  rw [List.all_eq_true] at h
  have h1 := h (oi, i) (by rw [List.mem_zipIdx_iff_getElem?]; simpa using hoi)
  simp only [Bool.and_eq_true] at h1
  have h2 := h1.2
  rw [List.all_eq_true] at h2
  have h3 := h2 (oj, j) (by rw [List.mem_zipIdx_iff_getElem?]; simpa using hj)
  simp only [Bool.or_eq_true] at h3
  rcases h3 with ((h3 | h3) | h3) | h3
  · exact absurd (Nat.eq_of_beq_eq_true h3).symm hji
  · -- i waits for j: then j has come up
    unfold edgeOn at h3
    rw [List.any_eq_true] at h3
    obtain ⟨e, hm, hb⟩ := h3
    simp only [Bool.and_eq_true] at hb
    obtain ⟨_, o', ho', he⟩ := hr
    rw [hoi] at ho'; injection ho' with ho'; subst ho'
    have := he e (by simpa using hm) hb.1
    rw [Nat.eq_of_beq_eq_true hb.2, hdj] at this
    cases this
  · unfold edgeOn at h3
    rw [List.any_eq_true] at h3
    obtain ⟨e, hm, hb⟩ := h3
    simp only [Bool.and_eq_true] at hb
    exact absurd (Nat.eq_of_beq_eq_true hb.2) (hno e (by simpa using hm) hb.1)
  · exact h3
end
end Go.Sx
