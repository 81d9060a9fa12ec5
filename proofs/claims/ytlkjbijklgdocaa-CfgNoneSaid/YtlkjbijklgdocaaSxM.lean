/- append and copy; all operations that write, in one theorem. -/
import Derived.Test.YtlkjbijklgdocaaSxL
set_option linter.unusedSimpArgs false
namespace Go.Sx
open Go Go.RowKit
section
variable {P : Program} {E : Env} {ι : Nat → Value} {tm : TM} {ρ : Operand → Value} {B : Nat} {w0 w : World} {H : AH} {o : Oper}
/-! ### What append reads -/
theorem run_aFirst (hh : HR B w0 E ι H w) {size n : Nat} {x : AV} {a : Value} (hx : cv E ι x = some a) {l : List AV} (h : aFirst H size n x = some l) :
    ∃ c, (Builtin.firstCells size n a).run P w = .ok c w ∧ cvs E ι l = some c.toList := by
  have key : ∀ m off (e : Nat × Nat × Nat) len cap, E[m]? = some e → (match H.get m with | some (.row cs _ _ _) => if off + n * size ≤ cs.length then some ((cs.drop off).take (n * size)) else none | _ => none) = some l →
      ∃ c, (Builtin.firstCells size n (.slice (some ⟨e.1, e.2.1 + off, none⟩) len cap)).run P w = .ok c w ∧ cvs E ι l = some c.toList := by
    intro m off e len cap he h
    split at h
    · rename_i cs t ex st hg
      split at h
      · rename_i hlen
        simp only [Option.some.injEq] at h; subst h
        obtain ⟨e', he', hr⟩ := hh.obj m _ hg
        rw [he] at he'; injection he' with he'; subst he'
        generalize hob : w.heap[e.1]? = ob at hr
        cases hr with
        | row hr =>
          obtain ⟨c, h1, h2⟩ := run_loadRow (P := P) hr hob hlen
          exact ⟨c.toArray, h2, by simpa using h1⟩
      · cases h
    · cases h
  unfold aFirst at h
  split at h
  · simp only [Option.some.injEq] at h; subst h
    simp only [cv, Option.some.injEq] at hx; subst hx
    exact ⟨#[], rfl, cvs_nil⟩
  · simp only [cv, Option.map_eq_some_iff] at hx
    obtain ⟨e, he, rfl⟩ := hx
    exact key _ _ e _ _ he h
  · simp only [cv, Option.map_eq_some_iff] at hx
    obtain ⟨e, he, rfl⟩ := hx
    exact key _ _ e _ _ he h
  · rename_i s
    simp only [cv, Option.some.injEq] at hx; subst hx
    simp only [Option.some.injEq] at h; subst h
    refine ⟨_, rfl, ?_⟩
    have : ((⟨s.toArray⟩ : ByteArray).extract 0 n).data = (s.take n).toArray := by rw [extract_bytes]; simp
    rw [this]
    refine cvs_of_get (by simp) fun i v hv => ?_
    rw [List.getElem?_map] at hv
    obtain ⟨b, hb, rfl⟩ := Option.map_eq_some_iff.1 hv
    exact ⟨_, rfl, by simp only [Array.toList_map, List.getElem?_map, hb, Option.map_some]⟩
  · cases h
theorem run_aLenOf {x : AV} {a : Value} (hx : cv E ι x = some a) {n : Nat} (h : aLenOf x = some n) : (Builtin.lenOf a).run P w = .ok n w := by
  unfold aLenOf at h
  split at h
  · simp only [Option.some.injEq] at h; subst h; simp only [cv, Option.some.injEq] at hx; subst hx; rfl
  · simp only [Option.some.injEq] at h; subst h; simp only [cv, Option.map_eq_some_iff] at hx; obtain ⟨e, he, rfl⟩ := hx; rfl
  · simp only [Option.some.injEq] at h; subst h; simp only [cv, Option.map_eq_some_iff] at hx; obtain ⟨e, he, rfl⟩ := hx; rfl
  · simp only [Option.some.injEq] at h; subst h; simp only [cv, Option.some.injEq] at hx; subst hx; rfl
  · cases h
theorem growBy_le (n : Nat) : ∀ (r c : Nat), Builtin.growBy n r c ≤ max c (2 * n + 800)
  | 0, c => by unfold Builtin.growBy; omega
  | r + 1, c => by
    unfold Builtin.growBy
    split
    · omega
    · have := growBy_le n r (c + (c + 768) / 4)
      omega
theorem nextcap_le {need cap : Nat} (h : cap < need) : Builtin.nextslicecap need cap ≤ 8 * need + 8192 := by
  unfold Builtin.nextslicecap
  split
  · omega
  · split
    · omega
    · have := growBy_le need 4 cap
      omega

/-! ### The heap behind an append -/
theorem HR.toView (h : HR B w0 E ι H w) {n : Nat} {cs : List AV} {t : TypeId} {ex : Bool} {old : Option Nat} (hn : H.get n = some (.row cs t ex (.own old))) : HR B w0 E ι (H.put n (.row cs t ex .view)) w := by
  refine ⟨h.below, h.base, h.nx, h.inb, fun m o hm => ?_, fun a b p q c d ha hb hab hc hd hcd => ?_⟩
  · rw [AH.get_put] at hm
    split at hm
    · rename_i hmn
      injection hm with hm; subst hm hmn
      obtain ⟨e, he, hr⟩ := h.obj m _ hn
      refine ⟨e, he, ?_⟩
      generalize w.heap[e.1]? = ob at hr
      cases hr with
      | row hr => exact .row hr
    · exact h.obj m o hm
  · rw [AH.get_put] at ha hb
    split at ha
    · injection ha with ha; subst ha
      exact ⟨.inl rfl, fun hx => by simp [AObj.isView] at hx⟩
    · split at hb
      · injection hb with hb; subst hb
        rename_i hbn
        subst hbn
        have := h.sep a b p _ c d ha hn hab hc hd hcd
        exact ⟨.inr rfl, this.2⟩
      · exact h.sep a b p q c d ha hb hab hc hd hcd
/-- Both share a block: the elder is read only, and named by the younger. -/
theorem HR.share (h : HR B w0 E ι H w) {n : Nat} {cs : List AV} {t : TypeId} {old : Option Nat} (hn : H.get n = some (.row cs t false (.own old))) {e : Nat × Nat × Nat} (he : E[n]? = some e) (lo hi : Nat) (ob : Obj) (cells : List AV) (t2 : TypeId)
    (hv : OR E ι (.row cs t false .view) e (some ob)) (hr : OR (E ++ [(e.1, lo, hi)]) ι (.row cells t2 false (.own (some n))) (e.1, lo, hi) (some ob)) :
    HR B w0 (E ++ [(e.1, lo, hi)]) ι (((H.unold old).put n (.row cs t false .view)).new (.row cells t2 false (.own (some n)))) { w with heap := w.heap.setIfInBounds e.1 ob } := by
  have h1 := h.put hn rfl he (.row cs t false .view) ob hv
  simp only [show AObj.old (.row cs t false (.own old)) = old from rfl] at h1
  generalize hH1 : (H.unold old).put n (.row cs t false .view) = H1 at h1
  generalize hw1 : ({ w with heap := w.heap.setIfInBounds e.1 ob } : World) = w1 at h1
  have hg1 : H1.get n = some (.row cs t false .view) := by rw [← hH1, AH.get_put, if_pos rfl]
  have hb1 : w1.heap[e.1]? = some ob := by
    rw [← hw1]
    show (w.heap.setIfInBounds e.1 ob)[e.1]? = _
    rw [Array.getElem?_setIfInBounds, if_pos rfl, if_pos (h.inb n e he).2]
  have alone : ∀ m p d, H1.get m = some p → m ≠ n → E[m]? = some d → d.1 ≠ e.1 := fun m p d hm hmn hd heq => by
    have hm' : (H.unold old).get m = some p := by rw [← hH1, AH.get_put, if_neg hmn] at hm; exact hm
    obtain ⟨g1, g2⟩ := AH.get_unold hm'
    exact g2 ((h.sep n m _ p e d hn g1 (Ne.symm hmn) he hd heq.symm).2 rfl).symm
  have hfree : H1.get H1.nx = none := by
    cases hg : H1.get H1.nx with
    | none => rfl
    | some o' =>
      obtain ⟨x, hx, _⟩ := h1.obj _ _ hg
      rw [h1.nx] at hx
      simp at hx
  have hold : ∀ k d p, H1.get k = some p → (E ++ [(e.1, lo, hi)])[k]? = some d → k ≠ H1.nx ∧ E[k]? = some d := fun k d p hk hd => by
    obtain ⟨d', hd', _⟩ := h1.obj k p hk
    have := Ext.app E (e.1, lo, hi) k d' hd'
    rw [hd] at this; injection this with this; subst this
    refine ⟨fun hk' => ?_, hd'⟩
    rw [hk', hfree] at hk; cases hk
  refine ⟨h1.below, h1.base, by simp [h1.nx], fun m d hd => ?_, fun m p hp => ?_, fun a b p q c d ha hb hab hc hd hcd => ?_⟩
  · rcases get_app_lt hd with hd | ⟨_, rfl⟩
    · exact h1.inb m d hd
    · exact h1.inb n e he
  · rw [AH.get_new] at hp
    split at hp
    · rename_i hm
      injection hp with hp; subst hp hm
      exact ⟨_, by rw [h1.nx]; exact get_app_self _, by rw [hb1]; exact hr⟩
    · obtain ⟨d, hd, g⟩ := h1.obj m p hp
      exact ⟨d, Ext.app _ _ m d hd, OR_ext (Ext.app _ _) g⟩
  · rw [AH.get_new] at ha hb
    split at ha
    · rename_i haN
      injection ha with ha; subst ha
      rw [haN, h1.nx, get_app_self] at hc
      injection hc with hc; subst hc
      split at hb
      · rename_i hbN; exact absurd (haN.trans hbN.symm) hab
      · obtain ⟨_, hd'⟩ := hold b d q hb hd
        have hbn : b = n := by
          by_cases hbn : b = n
          · exact hbn
          · exact absurd hcd.symm (alone b q d hb hbn hd')
        subst hbn
        rw [hg1] at hb; injection hb with hb; subst hb
        exact ⟨.inr rfl, fun _ => rfl⟩
    · obtain ⟨_, hc'⟩ := hold a c p ha hc
      split at hb
      · rename_i hbN
        injection hb with hb; subst hb
        rw [hbN, h1.nx, get_app_self] at hd
        injection hd with hd; subst hd
        have han : a = n := by
          by_cases han : a = n
          · exact han
          · exact absurd hcd (alone a p c ha han hc')
        subst han
        rw [hg1] at ha; injection ha with ha; subst ha
        exact ⟨.inl rfl, fun hx => by simp [AObj.isView] at hx⟩
      · obtain ⟨_, hd'⟩ := hold b d q hb hd
        exact h1.sep a b p q c d ha hb hab hc' hd' hcd
/-- A row that begins with what is known. -/
theorem rowPart {cells : List AV} {known rest : List Value} (h : cvs E ι cells = some known) (t : TypeId) (b : Nat) : RowR E ι cells t false (b, 0, (known ++ rest).length) (known ++ rest).toArray (0, 0) := by
  obtain ⟨h1, h2⟩ := cvs_get h
  refine ⟨fun i v hv => ?_, by simp; omega, by simp, (fun hx => by cases hx), fun i _ hi => by omega⟩
  obtain ⟨c, a, b⟩ := h2 i v hv
  refine ⟨c, a, ?_⟩
  simp only [Nat.zero_add, List.getElem?_toArray]
  rw [List.getElem?_append_left (List.getElem?_eq_some_iff.1 b).1]
  exact b
/-! ### append -/
theorem zeroCells_size (z : Array Value) (n : Nat) : (Builtin.zeroCells z n).size = n * z.size := by simp [Builtin.zeroCells]
/-- What comes to be appended. -/
theorem run_appN (hh : HR B w0 E ι H w) {e : TypeId} {size : Nat} {zv : AV} {zc : Value} (hz : (zeroValue e).run P w = .ok zc w) (hzc : cvs E ι zv.cells = some zc.cells.toList) (hzs : zv.cells.length = size) (hpos : 0 < size) {made : Bool} {x : AV} {a : Value} (hx : cv E ι x = some a) {n : Nat} {new : List AV}
    (h : appN P H e size zv made x = some (n, new)) :
    (made = true → ∃ k l i, a = .int k l ∧ 0 ≤ l ∧ l ≤ 1000000 ∧ l.toNat = n ∧ P.info? e = some i ∧ (i.bytes : Int) * l ≤ 140737488355328) ∧ (made = false → (Builtin.lenOf a).run P w = .ok n w) ∧
    ∃ c : Array Value, cvs E ι new = some c.toList ∧ (made = false → (Builtin.firstCells size n a).run P w = .ok c w) ∧ (made = true → c = Builtin.zeroCells zc.cells n) := by
  unfold appN at h
  cases made with
  | true =>
    simp only [if_true] at h
    split at h
    · rename_i k l
      split at h
      · rename_i hc
        simp only [Bool.and_eq_true, decide_eq_true_eq, Nat.ble_eq] at hc
        simp only [Option.some.injEq, Prod.mk.injEq] at h
        obtain ⟨rfl, rfl⟩ := h
        simp only [cv, Option.some.injEq] at hx; subst hx
        have hzsz : zc.cells.size = zv.cells.length := by have := (cvs_get hzc).1; simpa using this
        have hreps := cvs_reps hzc (by omega) l.toNat
        have hinfo : ∃ i, P.info? e = some i := by
          cases hi : P.info? e with
          | some i => exact ⟨i, rfl⟩
          | none => simp [zeroValue, typeInfo, hi] at hz
        obtain ⟨i, hi⟩ := hinfo
        have hb : bytesT P e = i.bytes := by simp [bytesT, hi]
        refine ⟨fun _ => ⟨k, l, i, rfl, hc.1.1, hc.1.2, rfl, hi, ?_⟩, fun h => (by cases h), _, hreps, fun h => (by cases h), fun _ => rfl⟩
        have h3 := hc.2
        rw [hb] at h3
        have : (i.bytes : Int) * l = ((l.toNat * i.bytes : Nat) : Int) := by
          rw [Int.natCast_mul, Int.mul_comm, Int.toNat_of_nonneg hc.1.1]
        omega
      · cases h
    · cases h
  | false =>
    simp only [Bool.false_eq_true, if_false, Option.bind_eq_some_iff, Option.map_eq_some_iff, Prod.mk.injEq] at h
    obtain ⟨n', hn, l, hl, rfl, rfl⟩ := h
    obtain ⟨c, h1, h2⟩ := run_aFirst (P := P) hh hx hl
    exact ⟨fun h => (by cases h), fun _ => run_aLenOf hx hn, c, h2, fun _ => h1, fun h => (by cases h)⟩
end
end Go.Sx
