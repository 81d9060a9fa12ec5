/- What a symbolic state says of a world: names stand for blocks; the laws of the store; what is said stays when names come to it. -/
import Derived.Test.YtlkjbijklgdocaaSxB
import Derived.Laws.Sem
import Derived.Laws.Cells
namespace Go.Sx
open Go

/-! ### The store -/
theorem Tr.get_leaf {α : Type} (k : Nat) : (Tr.leaf : Tr α).get k = none := rfl
theorem Tr.get_node {α : Type} (v : Option α) (l r : Tr α) (k : Nat) : (Tr.node v l r).get k = if k = 0 then v else if k % 2 = 0 then r.get (k / 2 - 1) else l.get (k / 2) := by
  show (bif Nat.beq k 0 then v else bif Nat.beq (k % 2) 0 then r.get (k / 2 - 1) else l.get (k / 2)) = _
  by_cases h : k = 0
  · subst h; rfl
  · have : Nat.beq k 0 = false := by
      cases hb : Nat.beq k 0 with
      | false => rfl
      | true => exact absurd (Nat.eq_of_beq_eq_true hb) h
    rw [this, if_neg h]
    by_cases h2 : k % 2 = 0
    · rw [h2, if_pos rfl]; rfl
    · have : Nat.beq (k % 2) 0 = false := by
        cases hb : Nat.beq (k % 2) 0 with
        | false => rfl
        | true => exact absurd (Nat.eq_of_beq_eq_true hb) h2
      rw [this, if_neg h2]; rfl
theorem Tr.get_setF {α : Type} (v : Option α) : ∀ (f : Nat) (t : Tr α) (k j : Nat), k < f → (Tr.setF v f t k).get j = if j = k then v else t.get j
  | 0, _, _, _, h => absurd h (Nat.not_lt_zero _)
  | f + 1, t, k, j, h => by
    have key : ∀ (u : Option α) (l r : Tr α), (bif Nat.beq k 0 then Tr.node v l r else bif Nat.beq (k % 2) 0 then Tr.node u l (Tr.setF v f r (k / 2 - 1)) else Tr.node u (Tr.setF v f l (k / 2)) r).get j = if j = k then v else (Tr.node u l r).get j := by
      intro u l r
      by_cases hk : k = 0
      · subst hk
        show (Tr.node v l r).get j = _
        rw [Tr.get_node, Tr.get_node]
        by_cases hj : j = 0
        · simp [hj]
        · simp [hj]
      · have hb : Nat.beq k 0 = false := by
          cases hb : Nat.beq k 0 with
          | false => rfl
          | true => exact absurd (Nat.eq_of_beq_eq_true hb) hk
        rw [hb]
        by_cases h2 : k % 2 = 0
        · rw [h2]
          show (Tr.node u l (Tr.setF v f r (k / 2 - 1))).get j = _
          rw [Tr.get_node, Tr.get_node, Tr.get_setF v f r (k / 2 - 1) (j / 2 - 1) (by omega)]
          by_cases hj : j = 0
          · simp [hj, show ¬ 0 = k from fun e => hk e.symm]
          · by_cases hj2 : j % 2 = 0
            · by_cases e : j = k
              · simp [e, hk, h2]
              · have : ¬ (j / 2 - 1 = k / 2 - 1) := by omega
                simp [hj, hj2, e, this]
            · have : ¬ j = k := by omega
              simp [hj, hj2, this]
        · have hb2 : Nat.beq (k % 2) 0 = false := by
            cases hb : Nat.beq (k % 2) 0 with
            | false => rfl
            | true => exact absurd (Nat.eq_of_beq_eq_true hb) h2
          rw [hb2]
          show (Tr.node u (Tr.setF v f l (k / 2)) r).get j = _
          rw [Tr.get_node, Tr.get_node, Tr.get_setF v f l (k / 2) (j / 2) (by omega)]
          by_cases hj : j = 0
          · simp [hj, show ¬ 0 = k from fun e => hk e.symm]
          · by_cases hj2 : j % 2 = 0
            · have : ¬ j = k := by omega
              simp [hj, hj2, this]
            · by_cases e : j = k
              · simp [e, hk, h2]
              · have : ¬ (j / 2 = k / 2) := by omega
                simp [hj, hj2, e, this]
    cases t with
    | leaf =>
      have := key none .leaf .leaf
      show (bif Nat.beq k 0 then Tr.node v .leaf .leaf else _).get j = _
      rw [this, Tr.get_node]
      simp [Tr.get_leaf]
    | node u l r => exact key u l r
theorem Tr.get_set {α : Type} (t : Tr α) (k j : Nat) (v : Option α) : (t.set k v).get j = if j = k then v else t.get j := Tr.get_setF v (k + 1) t k j (by omega)
theorem AH.get_put (H : AH) (n m : Nat) (o : AObj) : (H.put n o).get m = if m = n then some o else H.get m := Tr.get_set _ _ _ _
theorem AH.get_del (H : AH) (n m : Nat) : (H.del n).get m = if m = n then none else H.get m := Tr.get_set _ _ _ _
theorem AH.get_new (H : AH) (m : Nat) (o : AObj) : (H.new o).get m = if m = H.nx then some o else H.get m := Tr.get_set _ _ _ _
@[simp] theorem AH.nx_put (H : AH) (n : Nat) (o : AObj) : (H.put n o).nx = H.nx := rfl
@[simp] theorem AH.nx_del (H : AH) (n : Nat) : (H.del n).nx = H.nx := rfl
@[simp] theorem AH.nx_new (H : AH) (o : AObj) : (H.new o).nx = H.nx + 1 := rfl

/-! ### Values -/
/-- Each name: its block, where it begins there, where it ends. -/
abbrev Env := List (Nat × Nat × Nat)
section
variable (E : Env) (ι : Nat → Value)
mutual
def cv : AV → Option Value
  | .bool b => some (.bool b)
  | .int k n => some (.int k n)
  | .str s => some (.string ⟨s.toArray⟩)
  | .nptr => some (.pointer none)
  | .ptr n off => (E[n]?).map fun e => .pointer (some ⟨e.1, e.2.1 + off, none⟩)
  | .nslice l c => some (.slice none l c)
  | .slice n off len cap => (E[n]?).map fun e => .slice (some ⟨e.1, e.2.1 + off, none⟩) len cap
  | .eslice n off len sz => (E[n]?).map fun e => .slice (some ⟨e.1, e.2.1 + off, none⟩) len ((e.2.2 - e.2.1 - off) / sz)
  | .nmap => some (.map none)
  | .map n => (E[n]?).map fun e => .map (some e.1)
  | .func f a b => (cvs a).bind fun a => (cvs b).map fun b => .func (.func f) a.toArray b.toArray
  | .yld n => (E[n]?).map fun e => .func (.yield e.1) #[] #[]
  | .nfunc => some .nilFunc
  | .iface t v => (cv v).map (.iface t)
  | .niface => some .nilIface
  | .agg l => (cvs l).map fun l => .agg l.toArray
  | .tuple l => (cvs l).map fun l => .tuple l.toArray
  | .opq i => some (ι i)
def cvs : List AV → Option (List Value)
  | [] => some []
  | v :: r => (cv v).bind fun a => (cvs r).map fun b => a :: b
end
end
theorem cvs_nil {E : Env} {ι : Nat → Value} : cvs E ι [] = some [] := by simp [cvs]
theorem cvs_cons {E : Env} {ι : Nat → Value} {v : AV} {r : List AV} {l : List Value} : cvs E ι (v :: r) = some l ↔ ∃ a b, cv E ι v = some a ∧ cvs E ι r = some b ∧ l = a :: b := by
  simp only [cvs, Option.bind_eq_some_iff, Option.map_eq_some_iff]
  constructor
  · rintro ⟨a, h1, b, h2, rfl⟩; exact ⟨a, b, h1, h2, rfl⟩
  · rintro ⟨a, b, h1, h2, rfl⟩; exact ⟨a, h1, b, h2, rfl⟩
theorem cvs_get {E : Env} {ι : Nat → Value} : ∀ {l : List AV} {c : List Value}, cvs E ι l = some c → c.length = l.length ∧ ∀ (i : Nat) (v : AV), l[i]? = some v → ∃ x, cv E ι v = some x ∧ c[i]? = some x
  | [], c, h => by
    rw [cvs_nil] at h
    injection h with h
    subst h
    exact ⟨rfl, by simp⟩
  | v :: r, c, h => by
    obtain ⟨a, b, h1, h2, rfl⟩ := cvs_cons.1 h
    obtain ⟨h3, h4⟩ := cvs_get h2
    refine ⟨by simp [h3], fun i w hw => ?_⟩
    cases i with
    | zero => simp at hw; subst hw; exact ⟨a, h1, rfl⟩
    | succ i => simp at hw; simpa using h4 i w hw
theorem cvs_of_get {E : Env} {ι : Nat → Value} : ∀ {l : List AV} {c : List Value}, c.length = l.length → (∀ (i : Nat) (v : AV), l[i]? = some v → ∃ x, cv E ι v = some x ∧ c[i]? = some x) → cvs E ι l = some c
  | [], c, h, _ => by
    have : c = [] := List.length_eq_zero_iff.1 h
    rw [this]; exact cvs_nil
  | v :: r, c, h, g => by
    cases c with
    | nil => simp at h
    | cons a b =>
      obtain ⟨x, hx, hx2⟩ := g 0 v rfl
      simp at hx2; subst hx2
      refine cvs_cons.2 ⟨a, b, hx, cvs_of_get (by simpa using h) (fun i w hw => ?_), rfl⟩
      simpa using g (i + 1) w (by simpa using hw)
theorem cvs_append {E : Env} {ι : Nat → Value} : ∀ {l m : List AV} {c d : List Value}, cvs E ι l = some c → cvs E ι m = some d → cvs E ι (l ++ m) = some (c ++ d)
  | [], m, c, d, h, g => by
    rw [cvs_nil] at h; injection h with h; subst h; exact g
  | v :: r, m, c, d, h, g => by
    obtain ⟨a, b, h1, h2, rfl⟩ := cvs_cons.1 h
    exact cvs_cons.2 ⟨a, b ++ d, h1, cvs_append h2 g, rfl⟩
theorem cvs_take {E : Env} {ι : Nat → Value} {l : List AV} {c : List Value} (h : cvs E ι l = some c) (n : Nat) : cvs E ι (l.take n) = some (c.take n) := by
  obtain ⟨h1, h2⟩ := cvs_get h
  refine cvs_of_get (by simp [h1]) fun i v hv => ?_
  rw [List.getElem?_take] at hv
  split at hv
  · rename_i hi
    obtain ⟨x, hx, hy⟩ := h2 i v hv
    exact ⟨x, hx, by rw [List.getElem?_take, if_pos hi]; exact hy⟩
  · cases hv
theorem cvs_drop {E : Env} {ι : Nat → Value} {l : List AV} {c : List Value} (h : cvs E ι l = some c) (n : Nat) : cvs E ι (l.drop n) = some (c.drop n) := by
  obtain ⟨h1, h2⟩ := cvs_get h
  refine cvs_of_get (by simp [h1]) fun i v hv => ?_
  rw [List.getElem?_drop] at hv ⊢
  exact h2 _ v hv

/-- More names: what was said is said. -/
def Ext (E E' : Env) : Prop := ∀ (n : Nat) e, E[n]? = some e → E'[n]? = some e
theorem Ext.refl (E : Env) : Ext E E := fun _ _ h => h
theorem Ext.trans {E E' E'' : Env} (h : Ext E E') (g : Ext E' E'') : Ext E E'' := fun n e x => g n e (h n e x)
theorem Ext.app (E : Env) (x : Nat × Nat × Nat) : Ext E (E ++ [x]) := fun n e h => by
  rw [List.getElem?_append_left (List.getElem?_eq_some_iff.1 h).1]; exact h
theorem map_ext {α : Type} {E E' : Env} (h : Ext E E') {n : Nat} {f : Nat × Nat × Nat → α} {c : α} (g : (E[n]?).map f = some c) : (E'[n]?).map f = some c := by
  obtain ⟨e, he, rfl⟩ := Option.map_eq_some_iff.1 g
  rw [h n e he]; rfl
mutual
theorem cv_ext {E E' : Env} {ι : Nat → Value} (h : Ext E E') : ∀ (v : AV) (c : Value), cv E ι v = some c → cv E' ι v = some c
  | .bool b, c, g => g
  | .int k n, c, g => g
  | .str s, c, g => g
  | .nptr, c, g => g
  | .ptr n off, c, g => by simp only [cv] at g ⊢; exact map_ext h g
  | .nslice l k, c, g => g
  | .slice n off len cap, c, g => by simp only [cv] at g ⊢; exact map_ext h g
  | .eslice n off len sz, c, g => by simp only [cv] at g ⊢; exact map_ext h g
  | .nmap, c, g => g
  | .map n, c, g => by simp only [cv] at g ⊢; exact map_ext h g
  | .func f a b, c, g => by
    simp only [cv, Option.bind_eq_some_iff, Option.map_eq_some_iff] at g ⊢
    obtain ⟨x, hx, y, hy, rfl⟩ := g
    exact ⟨x, cvs_ext h a x hx, y, cvs_ext h b y hy, rfl⟩
  | .yld n, c, g => by simp only [cv] at g ⊢; exact map_ext h g
  | .nfunc, c, g => g
  | .iface t v, c, g => by
    simp only [cv, Option.map_eq_some_iff] at g ⊢
    obtain ⟨x, hx, rfl⟩ := g
    exact ⟨x, cv_ext h v x hx, rfl⟩
  | .niface, c, g => g
  | .agg l, c, g => by
    simp only [cv, Option.map_eq_some_iff] at g ⊢
    obtain ⟨x, hx, rfl⟩ := g
    exact ⟨x, cvs_ext h l x hx, rfl⟩
  | .tuple l, c, g => by
    simp only [cv, Option.map_eq_some_iff] at g ⊢
    obtain ⟨x, hx, rfl⟩ := g
    exact ⟨x, cvs_ext h l x hx, rfl⟩
  | .opq i, c, g => g
theorem cvs_ext {E E' : Env} {ι : Nat → Value} (h : Ext E E') : ∀ (l : List AV) (c : List Value), cvs E ι l = some c → cvs E' ι l = some c
  | [], c, g => g
  | v :: r, c, g => by
    obtain ⟨a, b, h1, h2, rfl⟩ := cvs_cons.1 g
    exact cvs_cons.2 ⟨a, b, cv_ext h v a h1, cvs_ext h r b h2, rfl⟩
end
mutual
theorem ofV_cv {E : Env} {ι : Nat → Value} : ∀ (v : Value) (a : AV), ofV v = some a → cv E ι a = some v
  | .bool b, a, h => by simp only [ofV, Option.some.injEq] at h; subst h; rfl
  | .int k n, a, h => by simp only [ofV, Option.some.injEq] at h; subst h; rfl
  | .float k n, a, h => by simp [ofV] at h
  | .complex k n m, a, h => by simp [ofV] at h
  | .string s, a, h => by simp only [ofV, Option.some.injEq] at h; subst h; simp [cv]
  | .pointer none, a, h => by simp only [ofV, Option.some.injEq] at h; subst h; rfl
  | .pointer (some x), a, h => by simp [ofV] at h
  | .slice none l c, a, h => by simp only [ofV, Option.some.injEq] at h; subst h; rfl
  | .slice (some x) l c, a, h => by simp [ofV] at h
  | .map none, a, h => by simp only [ofV, Option.some.injEq] at h; subst h; rfl
  | .map (some x), a, h => by simp [ofV] at h
  | .chan r, a, h => by simp [ofV] at h
  | .func fn x y, a, h => by
    cases fn with
    | func f =>
      simp only [ofV, Option.bind_eq_some_iff, Option.map_eq_some_iff] at h
      obtain ⟨p, hp, q, hq, rfl⟩ := h
      simp only [cv, Option.bind_eq_some_iff, Option.map_eq_some_iff]
      exact ⟨x.toList, ofVa_cv x p hp, y.toList, ofVa_cv y q hq, by simp⟩
    | _ => simp [ofV] at h
  | .nilFunc, a, h => by simp only [ofV, Option.some.injEq] at h; subst h; rfl
  | .iface t v, a, h => by
    simp only [ofV, Option.map_eq_some_iff] at h
    obtain ⟨x, hx, rfl⟩ := h
    simp only [cv, Option.map_eq_some_iff]
    exact ⟨v, ofV_cv v x hx, rfl⟩
  | .nilIface, a, h => by simp only [ofV, Option.some.injEq] at h; subst h; rfl
  | .agg cs, a, h => by
    simp only [ofV, Option.map_eq_some_iff] at h
    obtain ⟨x, hx, rfl⟩ := h
    simp only [cv, Option.map_eq_some_iff]
    exact ⟨cs.toList, ofVa_cv cs x hx, by simp⟩
  | .tuple cs, a, h => by
    simp only [ofV, Option.map_eq_some_iff] at h
    obtain ⟨x, hx, rfl⟩ := h
    simp only [cv, Option.map_eq_some_iff]
    exact ⟨cs.toList, ofVa_cv cs x hx, by simp⟩
theorem ofVa_cv {E : Env} {ι : Nat → Value} : ∀ (v : Array Value) (a : List AV), ofVa v = some a → cvs E ι a = some v.toList
  | ⟨l⟩, a, h => ofVs_cv l a (by simpa [ofVa] using h)
theorem ofVs_cv {E : Env} {ι : Nat → Value} : ∀ (v : List Value) (a : List AV), ofVs v = some a → cvs E ι a = some v
  | [], a, h => by simp only [ofVs, Option.some.injEq] at h; subst h; exact cvs_nil
  | v :: r, a, h => by
    simp only [ofVs, Option.bind_eq_some_iff, Option.map_eq_some_iff] at h
    obtain ⟨x, hx, y, hy, rfl⟩ := h
    exact cvs_cons.2 ⟨v, r, ofV_cv v x hx, ofVs_cv r y hy, rfl⟩
end
end Go.Sx
