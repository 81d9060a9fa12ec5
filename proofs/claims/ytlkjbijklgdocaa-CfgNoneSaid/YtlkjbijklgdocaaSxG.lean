/- The operations that read memory: slices, loads, maps. All that write nothing, in one theorem. -/
import Derived.Test.YtlkjbijklgdocaaSxF
namespace Go.Sx
open Go Go.RowKit
section
variable {P : Program} {E : Env} {ι : Nat → Value} {tm : TM} {ρ : Operand → Value} {B : Nat} {w0 w : World} {H : AH} {o : Oper}
theorem HR.at' (h : HR B w0 E ι H w) {n : Nat} {ob : AObj} (hn : H.get n = some ob) {ns : List Nat} {w' : World} (ha : Agree E ns w w') (hm : n ∈ ns) : ∃ e, E[n]? = some e ∧ OR E ι ob e w'.heap[e.1]? := by
  obtain ⟨e, he, hr⟩ := h.obj n ob hn
  exact ⟨e, he, by rw [ha n hm e he]; exact hr⟩
theorem HR.rowHas (h : HR B w0 E ι H w) {n k : Nat} (hk : rowHas H n k = true) {e : Nat × Nat × Nat} (he : E[n]? = some e) : e.2.1 + k ≤ e.2.2 := by
  unfold Sx.rowHas at hk
  split at hk
  · rename_i cs _ _ _ hg
    obtain ⟨e', he', hr⟩ := h.obj n _ hg
    rw [he] at he'
    injection he' with he'
    subst he'
    generalize w.heap[e.1]? = ob at hr
    cases hr with
    | row hr => have := hr.len; have := Nat.le_of_ble_eq_true hk; omega
  · cases hk
theorem extract_bytes (s : List UInt8) (l h : Nat) : (⟨s.toArray⟩ : ByteArray).extract l h = ⟨((s.take h).drop l).toArray⟩ := by
  apply ByteArray.ext
  rw [ByteArray.data_extract]
  simp [List.drop_take]
theorem run_aSlice (hh : HR B w0 E ι H w) {t : TypeId} {x v : AV} {a : Value} (hx : cv E ι x = some a) {lo hi mx : Option AV} {l' h' m' : Option Value} (hl : cvo E ι lo l') (hhi : cvo E ι hi h') (hm : cvo E ι mx m')
    (h : aSlice P H t x lo hi mx = some v) : ∃ c, cv E ι v = some c ∧ ∀ w', (Instr.sliceAt t a l' h' m').run P w' = .ok c w' := by
  unfold aSlice at h
  split at h
  · rename_i s hu
    simp only [cv, Option.some.injEq] at hx; subst hx
    split at h
    · cases h
    · rename_i hmx
      have hmx : mx = none := by simpa using hmx
      subst hmx
      cases m' with
      | some _ => exact hm.elim
      | none =>
        simp only [Option.map_eq_some_iff] at h
        obtain ⟨⟨l, q, m⟩, hb, rfl⟩ := h
        refine ⟨_, rfl, fun w' => ?_⟩
        have := run_bounds (P := P) (w := w') (s := false) hl hhi (show cvo E ι none none from trivial) hb
        have hsz : (⟨s.toArray⟩ : ByteArray).size = s.length := rfl
        simp [Instr.sliceAt, run_undl hu, Instr.slice, hsz, this, extract_bytes]
  · rename_i e len cap hu
    simp only [cv, Option.some.injEq] at hx; subst hx
    simp only [Option.bind_eq_some_iff, Option.map_eq_some_iff] at h
    obtain ⟨⟨l, q, m⟩, hb, z, hz, rfl⟩ := h
    refine ⟨_, rfl, fun w' => ?_⟩
    have := run_bounds (P := P) (w := w') (s := true) hl hhi hm hb
    simp [Instr.sliceAt, run_undl hu, Instr.slice, this, run_szOf hz]
  · rename_i e n off len cap hu
    simp only [cv, Option.map_eq_some_iff] at hx
    obtain ⟨d, hd, rfl⟩ := hx
    simp only [Option.bind_eq_some_iff, Option.map_eq_some_iff] at h
    obtain ⟨⟨l, q, m⟩, hb, z, hz, rfl⟩ := h
    refine ⟨.slice (some ⟨d.1, d.2.1 + (if m = l then off else off + l * z), none⟩) (q - l) (m - l), by simp [cv, hd], fun w' => ?_⟩
    have := run_bounds (P := P) (w := w') (s := true) hl hhi hm hb
    simp only [Instr.sliceAt, Sem.run_bind, run_undl hu, Result.andThen_ok, Instr.slice, this, run_szOf hz, Sem.run_pure, Option.map_some, addr_add]
    split <;> simp [Nat.add_assoc]
  · rename_i e n off len z hu
    simp only [cv, Option.map_eq_some_iff] at hx
    obtain ⟨d, hd, rfl⟩ := hx
    split at h
    · rename_i z' hz
      split at h
      · rename_i hc
        obtain ⟨rfl, hrow⟩ := hc
        have hcap := hh.rowHas hrow hd
        cases m' with
        | some _ => exact hm.elim
        | none =>
          simp only [Option.bind_eq_some_iff] at h
          obtain ⟨⟨l, q, m⟩, hb, h⟩ := h
          split at h
          · rename_i hlq
            simp only [Option.some.injEq] at h
            subst h
            simp only at hlq
            generalize hC : (d.2.2 - d.2.1 - off) / (z' + 1) = C at *
            have hlen : len ≤ C := by
              rw [← hC, Nat.le_div_iff_mul_le (by omega)]
              omega
            -- the same bounds, against the capacity
            have hb2 : aBounds len C lo hi none = some (l, q, C) ∧ l ≤ q ∧ q ≤ len := by
              unfold aBounds at hb ⊢
              simp only [bndM, Option.bind_some, Option.bind_eq_some_iff, Option.map_eq_some_iff, Prod.mk.injEq] at hb ⊢
              obtain ⟨q', hq, l'', hl'', rfl, rfl, _⟩ := hb
              have hq2 : bndH len C none hi = some q' ∧ q' ≤ len := by
                cases hi with
                | none => simp only [bndH, Option.some.injEq] at hq ⊢; omega
                | some x => exact aBound_mono hq hlen
              have hl2 : l'' ≤ q' := by
                cases lo with
                | none => simp only [bndL, Option.some.injEq] at hl''; omega
                | some x => exact (aBound_mono hl'' (Nat.le_refl _)).2
              exact ⟨⟨q', hq2.1, l'', hl'', by simp⟩, hl2, hq2.2⟩
            obtain ⟨hb2, hle, hle2⟩ := hb2
            refine ⟨.slice (some ⟨d.1, d.2.1 + (off + l * (z' + 1)), none⟩) (q - l) ((d.2.2 - d.2.1 - (off + l * (z' + 1))) / (z' + 1)), by simp [cv, hd], fun w' => ?_⟩
            have := run_bounds (P := P) (w := w') (s := true) hl hhi (show cvo E ι none none from trivial) hb2
            have e1 : (d.2.2 - d.2.1 - (off + l * (z' + 1))) / (z' + 1) = C - l := by
              rw [← hC, ← Nat.sub_sub, Nat.mul_comm, Nat.sub_mul_div]
            simp only [Instr.sliceAt, Sem.run_bind, run_undl hu, Result.andThen_ok, Instr.slice, this, run_szOf hz, Sem.run_pure, Option.map_some, addr_add, e1]
            rcases hlq with hlq | rfl
            · rw [if_neg (by omega), Nat.add_assoc]
            · simp
          · cases h
      · cases h
    · cases h
  · rename_i k e n off hu
    simp only [cv, Option.map_eq_some_iff] at hx
    obtain ⟨d, hd, rfl⟩ := hx
    simp only [Option.bind_eq_some_iff, Option.map_eq_some_iff] at h
    obtain ⟨⟨l, q, m⟩, hb, z, hz, rfl⟩ := h
    refine ⟨.slice (some ⟨d.1, d.2.1 + (if m = l then off else off + l * z), none⟩) (q - l) (m - l), by simp [cv, hd], fun w' => ?_⟩
    have := run_bounds (P := P) (w := w') (s := false) hl hhi hm hb
    simp only [Instr.sliceAt, Sem.run_bind, run_undl hu, Result.andThen_ok, Instr.sureAddr, this, run_szOf hz, Sem.run_pure, addr_add]
    split <;> simp [Nat.add_assoc]
  · cases h
theorem eSlice_ok (hh : HR B w0 E ι H w) (hρ : Opv E ι tm ρ) {t : TypeId} {x : Operand} {lo hi mx : Option Operand} (ho : o.op = .slice t x lo hi mx) {r : AV × List Nat} (h : eSlice P H tm t x lo hi mx = some r) : EOk P E ι w ρ o r := by
  unfold eSlice at h
  split at h
  · rename_i a b c d ha hb hc hd
    simp only [Option.map_eq_some_iff] at h
    obtain ⟨v, hv, rfl⟩ := h
    obtain ⟨c', h1, h2⟩ := run_aSlice hh (hρ x a ha) (optv_cvo hρ hb) (optv_cvo hρ hc) (optv_cvo hρ hd) hv
    exact ⟨c', h1, fun w' _ => by simp [execOp, ho, h2]⟩
  · cases h

/-! ### Loads -/
theorem cell_of_heap {w : World} {b k : Nat} {cs : Array Value} {t : TypeId} {fz : Nat × Nat} (h : w.heap[b]? = some (.cells cs t fz)) : w.cell? ⟨b, k, none⟩ = cs[k]? := by simp [World.cell?, h]
theorem run_loadRow {w : World} {cells : List AV} {t : TypeId} {ex : Bool} {e : Nat × Nat × Nat} {cs : Array Value} {fz : Nat × Nat} (hr : RowR E ι cells t ex e cs fz) (hb : w.heap[e.1]? = some (.cells cs t fz)) {off n : Nat} (hn : off + n ≤ cells.length) :
    ∃ l, cvs E ι ((cells.drop off).take n) = some l ∧ (loadCells ⟨e.1, e.2.1 + off, none⟩ n).run P w = .ok l.toArray w := by
  let l : List Value := (cs.toList.drop (e.2.1 + off)).take n
  have hfit := hr.fits
  have hlen := hr.len
  have hl : l.length = n := by simp [l]; omega
  have hc : cvs E ι ((cells.drop off).take n) = some l := by
    refine cvs_of_get (by simp [hl]; omega) fun i v hv => ?_
    rw [List.getElem?_take] at hv
    split at hv
    · rename_i hi
      rw [List.getElem?_drop] at hv
      obtain ⟨c, h1, h2⟩ := hr.at_ _ v hv
      refine ⟨c, h1, ?_⟩
      simp only [l]
      rw [List.getElem?_take, if_pos hi, List.getElem?_drop, Array.getElem?_toList, ← h2]
      congr 1
      omega
    · cases hv
  refine ⟨l, hc, ?_⟩
  have := run_loadCells_list (P := P) w ⟨e.1, e.2.1 + off, none⟩ l (fun j v hj => by
    rw [addr_add, cell_of_heap hb]
    simp only [l] at hj
    rw [List.getElem?_take] at hj
    split at hj
    · rw [List.getElem?_drop, Array.getElem?_toList] at hj
      exact hj
    · cases hj)
  rwa [hl] at this
theorem run_aLoad (hh : HR B w0 E ι H w) {t : TypeId} {n off : Nat} {v : AV} (h : aLoad P H t n off = some v) {e : Nat × Nat × Nat} (he : E[n]? = some e) :
    ∃ c, cv E ι v = some c ∧ ∀ w', Agree E [n] w w' → (loadVar t ⟨e.1, e.2.1 + off, none⟩).run P w' = .ok c w' := by
  unfold aLoad at h
  split at h
  · rename_i cs t' ex st hg ha
    split at h
    · rename_i k hk
      split at h
      · rename_i hlen
        simp only [Option.some.injEq] at h
        subst h
        obtain ⟨e', he', hr⟩ := hh.obj n _ hg
        rw [he] at he'; injection he' with he'; subst he'
        generalize hob : w.heap[e.1]? = ob at hr
        cases hr with
        | @row cells t1 ex1 st1 e1 cs' fz hr =>
          obtain ⟨l, hl, _⟩ := run_loadRow (P := P) hr hob hlen
          refine ⟨.agg l.toArray, by simp [cv, hl], fun w' hw => ?_⟩
          have hb' : w'.heap[e.1]? = some (.cells cs' t' fz) := by rw [hw n (by simp) e he]; exact hob
          obtain ⟨l', hl', hrun⟩ := run_loadRow (P := P) hr hb' hlen
          rw [hl] at hl'; injection hl' with hl'; subst hl'
          simp [loadVar, run_aggT ha, run_szOf hk, hrun]
      · cases h
    · cases h
  · rename_i cs t' ex st hg ha
    obtain ⟨e', he', hr⟩ := hh.obj n _ hg
    rw [he] at he'; injection he' with he'; subst he'
    generalize hob : w.heap[e.1]? = ob at hr
    cases hr with
    | @row cells t1 ex1 st1 e1 cs' fz hr =>
      obtain ⟨c, h1, h2⟩ := hr.at_ off v h
      refine ⟨c, h1, fun w' hw => ?_⟩
      have hb' : w'.heap[e.1]? = some (.cells cs' t' fz) := by rw [hw n (by simp) e he]; exact hob
      simp [loadVar, run_aggT ha, cell_of_heap hb', h2]
  · cases h
theorem eLoad_ok (hh : HR B w0 E ι H w) (hρ : Opv E ι tm ρ) {t : TypeId} {x : Operand} (ho : o.op = .load t x) {r : AV × List Nat} (h : eLoad P H tm t x = some r) : EOk P E ι w ρ o r := by
  unfold eLoad at h
  split at h
  · rename_i n off hx
    simp only [Option.map_eq_some_iff] at h
    obtain ⟨v, hv, rfl⟩ := h
    have h1 := hρ x _ hx
    simp only [cv, Option.map_eq_some_iff] at h1
    obtain ⟨e, he, h1⟩ := h1
    obtain ⟨c, hc, hr⟩ := run_aLoad hh hv he
    exact ⟨c, hc, fun w' hw => by simp [execOp, ho, ← h1, Instr.loadAt, Instr.sureAddr, hr w' hw]⟩
  · cases h
end
end Go.Sx
