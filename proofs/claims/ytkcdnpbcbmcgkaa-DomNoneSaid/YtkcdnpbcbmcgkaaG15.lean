/- The engine and the contracts, part 15. No condition beyond the hypotheses of each theorem. -/
import Derived.Test.YtkcdnpbcbmcgkaaG14
/- cut: a graph out of bytes. -/
set_option linter.unusedVariables false
namespace Go.Dm
open Go Go.Sx Go.Sy Go.RowKit Go.Proofs.DomP

noncomputable def ctO : AFr := hd P 18 [.r, .r, .r, .l, .r, .i]

noncomputable def ctI : AFr := hd P 18 [.r, .r, .r, .l, .r, .i, .i, .r, .r, .l, .i, .r, .r, .l, .r, .i]

theorem cut0 (w0 : World) (K : AM → Prop) (Kr : AV → AH → Prop) (below : List AFr) (len len2 : Nat) (v v2 : AV) (H : AH) : (trun P w0 18 K Kr 300 0 [] ⟨frOf P 18 [v], below, H⟩ (.ln len (.v v2 (.ln len2 .stop)))) = (aLen P H 41 v = some (AV.int IntKind.i64 (↑len : Int), []) ∧ aSlice P H 41 v none (some (AV.int IntKind.i64 (if false = true then if (24 : Int) > (↑len : Int) then (24 : Int) else (↑len : Int) else if (24 : Int) < (↑len : Int) then (24 : Int) else (↑len : Int)))) none = some v2 ∧ aLen P H 41 v2 = some (AV.int IntKind.i64 (↑len2 : Int), []) ∧ K (AM.mk (w ctO (tl [v, AV.tuple [], AV.nslice 0 0, AV.nslice 0 0, AV.int IntKind.i64 (if false = true then if (24 : Int) > (↑len : Int) then (24 : Int) else (↑len : Int) else if (24 : Int) < (↑len : Int) then (24 : Int) else (↑len : Int)), AV.tuple [], AV.tuple [], AV.tuple [], AV.tuple [], AV.tuple [], v, AV.int IntKind.i64 (↑len : Int), AV.int IntKind.i64 (if false = true then if (24 : Int) > (↑len : Int) then (24 : Int) else (↑len : Int) else if (24 : Int) < (↑len : Int) then (24 : Int) else (↑len : Int)), v, AV.int IntKind.i64 (if false = true then if (24 : Int) > (↑len : Int) then (24 : Int) else (↑len : Int) else if (24 : Int) < (↑len : Int) then (24 : Int) else (↑len : Int)), v2, AV.int IntKind.i64 (↑len2 : Int), AV.int IntKind.i64 (0 : Int), AV.tuple [], AV.tuple [], AV.tuple [], AV.tuple [], AV.tuple [], AV.tuple [], AV.tuple [], AV.tuple [], AV.tuple [], AV.tuple [], AV.tuple [], AV.tuple [], AV.tuple [], AV.tuple [], AV.tuple [], AV.tuple [], AV.tuple [], AV.tuple [], AV.tuple [], AV.tuple [], AV.tuple [], AV.tuple [], AV.tuple [], AV.tuple [], AV.tuple [], AV.tuple [], AV.tuple []])) below H)) := by kernel_rfl

theorem cutN (w0 : World) (K : AM → Prop) (Kr : AV → AH → Prop) (below : List AFr) (z : Nat → AV) (a ao len hl hl2 : Nat) (n i : Int) (v2 out h h2 : AV) (H : AH) : (trun P w0 18 K Kr 300 0 [] ⟨w ctO (setL (tz 45 z) [(3, out), (4, .int .i64 n), (15, v2), (16, .int .i64 len), (17, .int .i64 i)]), below, H⟩ (.tt (.bs a ao (.v h (.ln hl (.v h2 (.ln hl2 .stop))))))) = (decide (i < (↑len : Int)) = true ∧ SlAt v2 a ao i ∧ rdAt H a (ao + Int.toNat i * 1) = some h ∧ aLen P H 69 h = some (AV.int IntKind.i64 (↑hl : Int), []) ∧ aSlice P H 69 h none (some (AV.int IntKind.i64 (if false = true then if (24 : Int) > (↑hl : Int) then (24 : Int) else (↑hl : Int) else if (24 : Int) < (↑hl : Int) then (24 : Int) else (↑hl : Int)))) none = some h2 ∧ aLen P H 69 h2 = some (AV.int IntKind.i64 (↑hl2 : Int), []) ∧ K (AM.mk (w ctI (tl [z 0, z 1, z 2, out, AV.int IntKind.i64 n, z 5, h, AV.nslice 0 0, z 8, z 9, z 10, z 11, z 12, z 13, z 14, v2, AV.int IntKind.i64 (↑len : Int), AV.int IntKind.i64 i, AV.bool true, AV.ptr a (ao + Int.toNat i * 1), h, h, h, AV.int IntKind.i64 (↑hl : Int), AV.int IntKind.i64 (if false = true then if (24 : Int) > (↑hl : Int) then (24 : Int) else (↑hl : Int) else if (24 : Int) < (↑hl : Int) then (24 : Int) else (↑hl : Int)), h2, AV.int IntKind.i64 (↑hl2 : Int), AV.int IntKind.i64 (0 : Int), z 28, z 29, z 30, z 31, z 32, z 33, z 34, z 35, z 36, z 37, z 38, z 39, z 40, z 41, z 42, z 43, z 44])) below H)) := by kernel_rfl

theorem cutE (w0 : World) (K : AM → Prop) (Kr : AV → AH → Prop) (below : List AFr) (z : Nat → AV) (len : Nat) (n i : Int) (v2 out : AV) (H : AH) : (trun P w0 18 K Kr 300 0 [] ⟨w ctO (setL (tz 45 z) [(3, out), (4, .int .i64 n), (15, v2), (16, .int .i64 len), (17, .int .i64 i)]), below, H⟩ (.ff .stop)) = (decide (i < (↑len : Int)) = false ∧ Kr out H) := by kernel_rfl

theorem cutJ (w0 : World) (K : AM → Prop) (Kr : AV → AH → Prop) (below : List AFr) (z : Nat → AV) (a ao len hl2 : Nat) (n i j k : Int) (v2 out h2 own own' : AV) (H H' : AH) (ns : List Nat) : (trun P w0 18 K Kr 300 0 [] ⟨w ctI (setL (tz 45 z) [(3, out), (4, .int .i64 n), (7, own), (15, v2), (16, .int .i64 len), (17, .int .i64 i), (25, h2), (26, .int .i64 hl2), (27, .int .i64 j)]), below, H⟩ (.tt (.bs a ao (.v (.int .u8 k) (.r (.val own', H', ns) .stop))))) = (decide (j < (↑hl2 : Int)) = true ∧ SlAt h2 a ao j ∧ rdAt H a (ao + Int.toNat j * 1) = some (AV.int IntKind.u8 k) ∧ n ≠ (0 : Int) ∧ True ∧ aAppend P (AH.new H (AObj.row [AV.int IntKind.i64 (Int.tmod (IntKind.wrap IntKind.i64 k) n)] 3 true (St.own none))) [34, 34] [own, AV.slice (AH.nx H) 0 1 1] = some [(AN.val own', H', ns)] ∧ apartOk (AH.new H (AObj.row [AV.int IntKind.i64 (Int.tmod (IntKind.wrap IntKind.i64 k) n)] 3 true (St.own none))) (stackPend below) ns = true ∧ K (AM.mk (w ctI (tl [z 0, z 1, z 2, out, AV.int IntKind.i64 n, z 5, z 6, own', z 8, AV.int IntKind.u8 k, z 10, z 11, z 12, z 13, z 14, v2, AV.int IntKind.i64 (↑len : Int), AV.int IntKind.i64 i, z 18, z 19, z 20, z 21, z 22, z 23, z 24, h2, AV.int IntKind.i64 (↑hl2 : Int), AV.int IntKind.i64 (IntKind.wrap IntKind.i64 (j + (1 : Int))), AV.bool true, AV.ptr a (ao + Int.toNat j * 1), AV.int IntKind.u8 k, own, AV.int IntKind.u8 k, AV.int IntKind.i64 (IntKind.wrap IntKind.i64 k), AV.int IntKind.i64 n, AV.int IntKind.i64 (Int.tmod (IntKind.wrap IntKind.i64 k) n), AV.slice (AH.nx H) 0 1 1, own', AV.int IntKind.i64 (IntKind.wrap IntKind.i64 (j + (1 : Int))), z 39, z 40, z 41, z 42, z 43, z 44])) below H')) := by kernel_rfl

theorem cutK (w0 : World) (K : AM → Prop) (Kr : AV → AH → Prop) (below : List AFr) (z : Nat → AV) (len hl2 : Nat) (n i j : Int) (v2 out out' h2 own : AV) (H H' : AH) (ns : List Nat) : (trun P w0 18 K Kr 300 0 [] ⟨w ctI (setL (tz 45 z) [(3, out), (4, .int .i64 n), (7, own), (15, v2), (16, .int .i64 len), (17, .int .i64 i), (25, h2), (26, .int .i64 hl2), (27, .int .i64 j)]), below, H⟩ (.ff (.tw (.val (.slice H.nx 0 1 1), H.new (.row [own] 34 true (.own none)), []) (.r (.val out', H', ns) .stop)))) = (decide (j < (↑hl2 : Int)) = false ∧ aW P H (TM.mk (Tr.node (some (z 0)) (Tr.node (some (z 1)) (Tr.node (some out) (Tr.node (some own) (Tr.node (some v2) (Tr.node (some (z 31)) Tr.leaf Tr.leaf) Tr.leaf) (Tr.node (some (z 23)) (Tr.node (some out) Tr.leaf Tr.leaf) Tr.leaf)) (Tr.node (some (z 11)) (Tr.node (some (z 19)) (Tr.node (some (z 35)) Tr.leaf Tr.leaf) Tr.leaf) (Tr.node (some (AV.int IntKind.i64 j)) (Tr.node (some (z 43)) Tr.leaf Tr.leaf) Tr.leaf))) (Tr.node (some (z 5)) (Tr.node (some (z 9)) (Tr.node (some (AV.int IntKind.i64 i)) (Tr.node (some (z 33)) Tr.leaf Tr.leaf) Tr.leaf) (Tr.node (some h2) (Tr.node (some (z 41)) Tr.leaf Tr.leaf) Tr.leaf)) (Tr.node (some (z 13)) (Tr.node (some (z 21)) (Tr.node (some (z 37)) Tr.leaf Tr.leaf) Tr.leaf) (Tr.node (some (z 29)) Tr.leaf Tr.leaf)))) (Tr.node (some (z 2)) (Tr.node (some (AV.int IntKind.i64 n)) (Tr.node (some (z 8)) (Tr.node (some (AV.int IntKind.i64 (↑len : Int))) (Tr.node (some (z 32)) Tr.leaf Tr.leaf) Tr.leaf) (Tr.node (some (z 24)) (Tr.node (some own) Tr.leaf Tr.leaf) Tr.leaf)) (Tr.node (some (z 12)) (Tr.node (some (z 20)) (Tr.node (some (z 36)) Tr.leaf Tr.leaf) Tr.leaf) (Tr.node (some (AV.bool false)) (Tr.node (some (z 44)) Tr.leaf Tr.leaf) Tr.leaf))) (Tr.node (some (z 6)) (Tr.node (some (z 10)) (Tr.node (some (z 18)) (Tr.node (some (z 34)) Tr.leaf Tr.leaf) Tr.leaf) (Tr.node (some (AV.int IntKind.i64 (↑hl2 : Int))) (Tr.node (some (z 42)) Tr.leaf Tr.leaf) Tr.leaf)) (Tr.node (some (z 14)) (Tr.node (some (z 22)) (Tr.node (some (z 38)) Tr.leaf Tr.leaf) Tr.leaf) (Tr.node (some (z 30)) Tr.leaf Tr.leaf))))) 45) (Op.buildSlice 22 1 (Array.mk [(0, Operand.tmp 40)])) = some [(AN.val (AV.slice (AH.nx H) 0 1 1), AH.new H (AObj.row [own] 34 true (St.own none)), [])] ∧ True ∧ aAppend P (AH.new H (AObj.row [own] 34 true (St.own none))) [22, 22] [out, AV.slice (AH.nx H) 0 1 1] = some [(AN.val out', H', ns)] ∧ apartOk (AH.new H (AObj.row [own] 34 true (St.own none))) (stackPend below) ns = true ∧ K (AM.mk (w ctO (tl [z 0, z 1, z 2, out', AV.int IntKind.i64 n, z 5, z 6, own, z 8, z 9, z 10, z 11, z 12, z 13, z 14, v2, AV.int IntKind.i64 (↑len : Int), AV.int IntKind.i64 (IntKind.wrap IntKind.i64 (i + (1 : Int))), z 18, z 19, z 20, z 21, z 22, z 23, z 24, h2, AV.int IntKind.i64 (↑hl2 : Int), AV.int IntKind.i64 j, AV.bool false, z 29, z 30, z 31, z 32, z 33, z 34, z 35, z 36, z 37, z 38, out, own, AV.slice (AH.nx H) 0 1 1, out', AV.int IntKind.i64 (IntKind.wrap IntKind.i64 (i + (1 : Int))), z 44])) below H')) := by kernel_rfl

/-- A slice of slices of bytes, as it comes in, within names of S. -/
structure MatB (H : AH) (S : Nat → Prop) (v : AV) (g : List (List Int)) (hs : List AV) : Prop where
  top : SlR H v hs
  topS : ∀ n off, slBase v = some (n, off) → S n
  topI : InSl v
  len : hs.length = g.length
  row : ∀ (i : Nat) (h : AV) (l : List Int), hs[i]? = some h → g[i]? = some l → SlR H h (l.map fun n => AV.int .u8 n) ∧ (∀ n off, slBase h = some (n, off) → S n) ∧ InSl h
  byte : ∀ l ∈ g, ∀ n ∈ l, 0 ≤ n ∧ n < 256

theorem MatB.congr {H H' : AH} {S : Nat → Prop} {v : AV} {g : List (List Int)} {hs : List AV} (h : MatB H S v g hs) (e : ∀ m, S m → H'.get m = H.get m) : MatB H' S v g hs :=
  ⟨h.top.congr fun n off hb => e n (h.topS n off hb), h.topS, h.topI, h.len, fun i x l h1 h2 => ⟨(h.row i x l h1 h2).1.congr fun n off hb => e n ((h.row i x l h1 h2).2.1 n off hb), (h.row i x l h1 h2).2⟩, h.byte⟩

theorem u8_of {n : Int} (h : (Lit.int .u8 n).wf = true) : 0 ≤ n ∧ n < 256 := by
  simp [Lit.wf, IntKind.min, IntKind.max, IntKind.signed, IntKind.bits] at h
  omega

theorem minE (n : Nat) : (if false = true then if (24 : Int) > (n : Int) then (24 : Int) else (n : Int) else if (24 : Int) < (n : Int) then (24 : Int) else (n : Int)) = ((min n 24 : Nat) : Int) := by
  rw [if_neg (by simp)]
  split <;> omega

theorem take_sl {H : AH} {v : AV} {cs : List AV} {t e : TypeId} (hu : P.underlying t = some (.slice e)) (hz : szOf P e = some 1) (hv : SlR H v cs) (hI : InSl v) {k : Nat} (hk : k ≤ cs.length) :
    ∃ v', aSlice P H t v none (some (.int .i64 (k : Nat))) none = some v' ∧ SlR H v' (cs.take k) ∧ ∀ n off, slBase v' = some (n, off) → ∃ off', slBase v = some (n, off') := by
  rcases hI with rfl | ⟨a, rfl⟩ | ⟨n, len, cap, rfl, hlc⟩
  · have hcs := hv.emp rfl
    subst hcs
    have : k = 0 := by simpa using hk
    subst this
    exact ⟨.nslice 0 0, by simp [aSlice, hu, hz, aBounds, bndM, bndH, bndL, aBound], SlR.nil H 0, fun n off hb => by simp [slBase] at hb⟩
  · have hcs := hv.emp rfl
    subst hcs
    have : k = 0 := by simpa using hk
    subst this
    exact ⟨.hslice a, by simp [aSlice, hu, hz, aBounds, bndM, bndH, bndL, aBound], hv, fun n off hb => by simp [slBase] at hb⟩
  · have hl := hv.len
    simp only [aLenOf, Option.some.injEq] at hl
    subst hl
    obtain ⟨r, t', ex, st, h1, h2, h3⟩ := hv.base n 0 rfl
    refine ⟨.slice n 0 k cap, ?_, ⟨rfl, by simp [aLenOf]; omega, fun m off hb => ?_, fun hb => by simp [slBase] at hb⟩, fun m off hb => ?_⟩
    · have hb : aBounds cs.length cap none (some (.int .i64 (k : Nat))) none = some (0, k, cap) := by
        simp [aBounds, bndM, bndH, bndL, aBound]
        rw [if_pos (by omega)]
        rfl
      simp only [aSlice, hu, hz, hb]
      simp
    · simp [slBase] at hb
      obtain ⟨rfl, rfl⟩ := hb
      refine ⟨r, t', ex, st, h1, by simp; omega, ?_⟩
      have hm : (cs.take k).length = k := by simp; omega
      rw [hm]
      have h4 := congrArg (List.take k) h3
      rw [List.take_take, Nat.min_eq_left hk] at h4
      exact h4
    · simp [slBase] at hb
      obtain ⟨rfl, rfl⟩ := hb
      exact ⟨0, rfl⟩

/-- What cut makes of a graph of bytes. -/
def cutRow (n : Nat) (l : List Int) : List Int := (l.take 24).map fun k => k.tmod (n : Int)

def cutG (g : List (List Int)) : List (List Int) := (g.take 24).map (cutRow (min g.length 24))

theorem cutG_len (g : List (List Int)) : (cutG g).length = min g.length 24 := by simp [cutG]; omega

theorem cutG_row {g : List (List Int)} {l : List Int} (h : l ∈ cutG g) : l.length ≤ 24 := by
  unfold cutG at h
  obtain ⟨x, _, rfl⟩ := List.mem_map.1 h
  simp [cutRow]
  omega

theorem cutG_good {g : List (List Int)} (hb : ∀ l ∈ g, ∀ n ∈ l, 0 ≤ n ∧ n < 256) : Go.Proofs.DomP.Good (cutG g) := by
  intro l hl t ht
  have hlen := cutG_len g
  have hpos : 0 < (cutG g).length := List.length_pos_of_mem hl
  unfold cutG at hl
  obtain ⟨x, hx, rfl⟩ := List.mem_map.1 hl
  unfold cutRow at ht
  obtain ⟨k, hk, rfl⟩ := List.mem_map.1 ht
  have hk0 := (hb x (List.mem_of_mem_take hx) k (List.mem_of_mem_take hk)).1
  rw [hlen] at hpos ⊢
  exact ⟨Int.tmod_nonneg _ hk0, Int.tmod_lt_of_pos _ (by omega)⟩

section
variable {w0 : World} {H0 : AH} {S : Nat → Prop} {v : AV} {g : List (List Int)} {hs : List AV} {below : List AFr}

theorem et41 : P.underlying 41 = some (.slice 69) := by kernel_rfl

theorem sz69 : szOf P 69 = some 1 := by kernel_rfl

theorem et69 : P.underlying 69 = some (.slice 5) := by kernel_rfl

theorem sz5 : szOf P 5 = some 1 := by kernel_rfl

/-- A graph that is being made. -/
structure GSt (H0 H : AH) (out : AV) (os : List AV) (gd : List (List Int)) : Prop where
  old : ∀ m, m < H0.nx → H.get m = H0.get m
  nx : H0.nx ≤ H.nx
  lst : Lst H out 34 os
  ln : ∀ m, LN H out m → H0.nx ≤ m
  len : os.length = gd.length
  rows : ∀ (i : Nat) (h : AV) (l : List Int), os[i]? = some h → gd[i]? = some l → Lst H h 3 (l.map kI) ∧ ∀ m, LN H h m → H0.nx ≤ m ∧ ¬ LN H out m
  dis : ∀ (i j : Nat) (h h' : AV), os[i]? = some h → os[j]? = some h' → i ≠ j → ∀ m, LN H h m → ¬ LN H h' m

theorem GSt.start (H : AH) : GSt H H (.nslice 0 0) [] [] := ⟨fun _ _ => rfl, Nat.le_refl _, Lst.nil _ 34, fun m hm => absurd hm (LN_nil _ _), rfl, fun i h l hi => by simp at hi, fun i j h h' hi => by simp at hi⟩

theorem GSt.kept {H0 H Hc : AH} {out : AV} {os : List AV} {gd : List (List Int)} (hw : Wf H) (h : GSt H0 H out os gd) (hk : ∀ m, m < H.nx → Hc.get m = H.get m) (hn : H.nx ≤ Hc.nx) : GSt H0 Hc out os gd ∧ ∀ m, LN Hc out m → m < H.nx := by
  have hln : ∀ m, LN Hc out m ↔ LN H out m := LN_same fun n off hb => hk n (h.lst.lt hw ⟨n, off, hb, .inl rfl⟩)
  have := h.nx
  refine ⟨⟨fun m hm => (hk m (by omega)).trans (h.old m hm), by omega, h.lst.congr fun n off hb => hk n (h.lst.lt hw ⟨n, off, hb, .inl rfl⟩), fun m hm => h.ln m ((hln m).1 hm), h.len, fun i x l hi hl => ?_, fun i j x x' hi hj hij m hm hm' => ?_⟩, fun m hm => h.lst.lt hw ((hln m).1 hm)⟩
  · obtain ⟨q1, q2⟩ := h.rows i x l hi hl
    exact ⟨q1.congr fun n off hb => hk n (q1.lt hw ⟨n, off, hb, .inl rfl⟩), fun m hm => by
      have hm := (LN_same (H := H) (fun n off hb => hk n (q1.lt hw ⟨n, off, hb, .inl rfl⟩)) m).1 hm
      exact ⟨(q2 m hm).1, fun hx => (q2 m hm).2 ((hln m).1 hx)⟩⟩
  · have gi : i < gd.length := by rw [← h.len]; exact (List.getElem?_eq_some_iff.1 hi).1
    have gj : j < gd.length := by rw [← h.len]; exact (List.getElem?_eq_some_iff.1 hj).1
    have q := (h.rows i x _ hi (List.getElem?_eq_getElem gi)).1
    have q' := (h.rows j x' _ hj (List.getElem?_eq_getElem gj)).1
    exact h.dis i j x x' hi hj hij m ((LN_same (H := H) (fun n off hb => hk n (q.lt hw ⟨n, off, hb, .inl rfl⟩)) m).1 hm) ((LN_same (H := H) (fun n off hb => hk n (q'.lt hw ⟨n, off, hb, .inl rfl⟩)) m).1 hm')

theorem GSt.put {H0 Hc : AH} {out : AV} {os : List AV} {gd : List (List Int)} (hw : Wf Hc) (h : GSt H0 Hc out os gd) {own : AV} {l : List Int} (ho : Lst Hc own 3 (l.map kI)) (hob : ∀ m, LN Hc own m → H0.nx ≤ m ∧ ¬ LN Hc out m) (hod : ∀ (i : Nat) (h : AV), os[i]? = some h → ∀ m, LN Hc own m → ¬ LN Hc h m) (hlen : os.length + 1 ≤ 100000000) :
    ∃ v' H' ns, aAppend P (Hc.new (.row [own] 34 true (.own none))) [22, 22] [out, .slice Hc.nx 0 1 1] = some [(.val v', H', ns)] ∧ GSt H0 H' v' (os ++ [own]) (gd ++ [l]) ∧
      ∀ pend, Wf H0 → Pok H0 (fun _ => False) pend → AOk (Hc.new (.row [own] 34 true (.own none))) pend ns := by
  have hnx := h.nx
  let H2 := Hc.new (.row [own] 34 true (.own none))
  have hg2 : ∀ m, m < Hc.nx → H2.get m = Hc.get m := fun m hm => get_lt hm
  have hbn : ∀ n off, slBase out = some (n, off) → n < Hc.nx := fun n off hb => h.lst.lt hw ⟨n, off, hb, .inl rfl⟩
  have hl2 : Lst H2 out 34 os := h.lst.congr fun n off hb => hg2 n (hbn n off hb)
  have hln : ∀ m, LN H2 out m ↔ LN Hc out m := LN_same fun n off hb => hg2 n (hbn n off hb)
  obtain ⟨v', H', ns, q1, q2, q3, q4, q5⟩ := hl2.append et22 (t2 := 22) (by kernel_rfl) et22.made (hw.new _) (x := .slice Hc.nx 0 1 1) (new := [own]) rfl
    (by show aFirst (Hc.new _) 1 1 (.slice Hc.nx 0 1 1) = _; simp [aFirst, get_new]) (by simp [ho.slr.single]) (by simpa using hlen)
  have hn' : Hc.nx + 1 ≤ H'.nx := q3.nx
  have hk : ∀ m, m < Hc.nx + 1 → ¬ LN Hc out m → H'.get m = H2.get m := fun m h1 h2 => q3.get m h1 fun hx => h2 ((hln m).1 hx)
  have hln' : ∀ m, LN H' v' m → LN Hc out m ∨ Hc.nx + 1 ≤ m := fun m hm => by
    rcases q4 m hm with h' | h'
    · exact .inl ((hln m).1 h')
    · exact .inr h'
  have same : ∀ {x : AV} {c : List AV}, Lst Hc x 3 c → (∀ m, LN Hc x m → H0.nx ≤ m ∧ ¬ LN Hc out m) → ∀ n off, slBase x = some (n, off) → H'.get n = Hc.get n := fun {x c} hx hb n off hbb => by
    have := hx.lt hw ⟨n, off, hbb, .inl rfl⟩
    rw [hk n (by omega) (hb n ⟨n, off, hbb, .inl rfl⟩).2, hg2 n this]
  have keep : ∀ {x : AV} {c : List AV}, Lst Hc x 3 c → (∀ m, LN Hc x m → H0.nx ≤ m ∧ ¬ LN Hc out m) → Lst H' x 3 c ∧ ∀ m, LN H' x m → H0.nx ≤ m ∧ ¬ LN H' v' m := fun {x c} hx hb => by
    refine ⟨hx.congr (same hx hb), fun m hm => ?_⟩
    have hm := (LN_same (H := Hc) (same hx hb) m).1 hm
    refine ⟨(hb m hm).1, fun hy => ?_⟩
    have := hx.lt hw hm
    rcases hln' m hy with h' | h'
    · exact (hb m hm).2 h'
    · omega
  have at_ : ∀ (i : Nat) (x : AV), (os ++ [own])[i]? = some x → (i < os.length ∧ os[i]? = some x ∧ ∃ c, Lst Hc x 3 c ∧ ∀ m, LN Hc x m → H0.nx ≤ m ∧ ¬ LN Hc out m) ∨ (i = os.length ∧ x = own) := fun i x hi => by
    by_cases c : i < os.length
    · rw [List.getElem?_append_left c] at hi
      obtain ⟨r1, r2⟩ := h.rows i x _ hi (List.getElem?_eq_getElem (by rw [← h.len]; exact c))
      exact .inl ⟨c, hi, _, r1, r2⟩
    · rw [List.getElem?_append_right (by omega)] at hi
      have hi0 : i - os.length = 0 := by
        have := (List.getElem?_eq_some_iff.1 hi).1
        simp at this
        omega
      rw [hi0] at hi
      simp at hi
      exact .inr ⟨by omega, hi.symm⟩
  refine ⟨v', H', ns, q1, ⟨fun m hm => ?_, by omega, q2, fun m hm => ?_, by simp [h.len], fun i x l' hi hl' => ?_, fun i j x x' hi hj hij m hm hm' => ?_⟩, fun pend hw0 hp => ?_⟩
  · rw [hk m (by omega) (fun hx => by have := h.ln m hx; omega), hg2 m (by omega)]
    exact h.old m hm
  · rcases hln' m hm with h' | h'
    · exact h.ln m h'
    · omega
  · by_cases c : i < os.length
    · rw [List.getElem?_append_left c] at hi
      rw [List.getElem?_append_left (by rw [← h.len]; exact c)] at hl'
      obtain ⟨r1, r2⟩ := h.rows i x l' hi hl'
      exact keep r1 r2
    · rw [List.getElem?_append_right (by omega)] at hi
      rw [List.getElem?_append_right (by rw [← h.len]; omega)] at hl'
      have hi0 : i - os.length = 0 := by
        have := (List.getElem?_eq_some_iff.1 hi).1
        simp at this
        omega
      rw [← h.len, hi0] at hl'
      rw [hi0] at hi
      simp at hi hl'
      subst hi hl'
      exact keep ho hob
  · rcases at_ i x hi with ⟨a1, a2, c, a3, a4⟩ | ⟨a1, rfl⟩
    · have hm := (LN_same (H := Hc) (same a3 a4) m).1 hm
      rcases at_ j x' hj with ⟨b1, b2, c', b3, b4⟩ | ⟨b1, rfl⟩
      · exact h.dis i j x x' a2 b2 hij m hm ((LN_same (H := Hc) (same b3 b4) m).1 hm')
      · exact hod i x a2 m ((LN_same (H := Hc) (same ho hob) m).1 hm') hm
    · have hm := (LN_same (H := Hc) (same ho hob) m).1 hm
      rcases at_ j x' hj with ⟨b1, b2, c', b3, b4⟩ | ⟨b1, rfl⟩
      · exact hod j x' b2 m hm ((LN_same (H := Hc) (same b3 b4) m).1 hm')
      · omega
  · exact q5 (fun m => H0.nx ≤ m) pend (pok_new hw0 hp fun m hm => (hg2 m (by omega)).trans (h.old m hm)) fun m hm => .inl (h.ln m ((hln m).1 hm))

def ctOh (out : AV) (n : Int) (v2 : AV) (len : Nat) (i : Int) : List (Nat × AV) := [(3, out), (4, .int .i64 n), (15, v2), (16, .int .i64 len), (17, .int .i64 i)]

def ctIh (out : AV) (n : Int) (own v2 : AV) (len : Nat) (i : Int) (h2 : AV) (hl : Nat) (j : Int) : List (Nat × AV) := [(3, out), (4, .int .i64 n), (7, own), (15, v2), (16, .int .i64 len), (17, .int .i64 i), (25, h2), (26, .int .i64 hl), (27, .int .i64 j)]

theorem cutJ_loop (hw0 : Wf H0) (hp : Pok H0 (fun _ => False) (stackPend below)) {Kr : AV → AH → Prop} {H1 : AH} (hw1 : Wf H1) {out v2 h2 : AV} {os : List AV} {gd : List (List Int)} (h1 : GSt H0 H1 out os gd) (hol : os.length + 1 ≤ 100000000) {n len i : Nat} (hn : 0 < n) (hi : i < 1000) {l : List Int} (hll : l.length ≤ 24) (hlb : ∀ k ∈ l, 0 ≤ k ∧ k < 256) (hh : SlR H1 h2 (l.map fun k => AV.int .u8 k))
    (hend : ∀ Hc out', Wf Hc → (∃ os', GSt H0 Hc out' os' (gd ++ [l.map fun k => k.tmod (n : Int)])) → ∀ z, Leads P w0 (RetK P 18 below Kr) ⟨w ctO (setL (tz 45 z) (ctOh out' n v2 len (i + 1 : Nat))), below, Hc⟩) :
    ∀ (r : List Int) (j : Nat) (Hc : AH) (own : AV), l.drop j = r → j ≤ l.length → (∀ m, m < H1.nx → Hc.get m = H1.get m) → H1.nx ≤ Hc.nx → Lst Hc own 3 (((l.take j).map fun k => k.tmod (n : Int)).map kI) → (∀ m, LN Hc own m → H1.nx ≤ m) →
      ∀ z, Leads P w0 (RetK P 18 below Kr) ⟨w ctI (setL (tz 45 z) (ctIh out n own v2 len i h2 l.length j)), below, Hc⟩ := by
  intro r
  induction r with
  | nil =>
    intro j Hc own hdr hj hk hn1 hl hln z
    refine Leads.wf fun hw => ?_
    have hjl := drop_end hdr hj
    subst hjl
    rw [List.take_length] at hl
    obtain ⟨hg, hgl⟩ := h1.kept hw1 hk hn1
    have hnx := h1.nx
    obtain ⟨v', H', ns, q1, q2, q3⟩ := hg.put hw (own := own) (l := l.map fun k => k.tmod (n : Int)) hl (fun m hm => ⟨by have := hln m hm; omega, fun hx => by
      have a1 := hln m hm
      have a2 := hgl m hx
      omega⟩) (fun q x hq m hm hx => by
      have a1 := hln m hm
      have gq : q < gd.length := by rw [← h1.len]; exact (List.getElem?_eq_some_iff.1 hq).1
      have r := (h1.rows q x _ hq (List.getElem?_eq_getElem gq)).1
      have a2 := r.lt hw1 ((LN_same (H := H1) (fun n off hb => hk n (r.lt hw1 ⟨n, off, hb, .inl rfl⟩)) m).1 hx)
      omega) hol
    refine Leads.go fine (cutK w0 _ _ below z len l.length n i (l.length : Nat) v2 out v' h2 own Hc H' ns) rfl ⟨by simp, one_cell et22 rfl hl.single, trivial, q1, q3 _ hw0 hp, ?_⟩
    rw [wrap1 i (by omega)]
    refine Leads.at (ctOh v' n v2 len (i + 1 : Nat)) (by kernel_rfl) fun z => ?_
    exact Leads.wf fun hw' => hend H' v' hw' ⟨_, q2⟩ z
  | cons k r ih =>
    intro j Hc own hdr hj hk hn1 hl hln z
    refine Leads.wf fun hw => ?_
    obtain ⟨hlt, hjk, hdr'⟩ := drop_step hdr
    obtain ⟨k0, k1⟩ := hlb k (List.mem_of_getElem? hjk)
    have hhc : SlR Hc h2 (l.map fun k => AV.int .u8 k) := hh.congr fun m off hb => hk m (hh.lt hw1 hb)
    obtain ⟨a, ao, hb⟩ := hhc.some_base (fun e => by
      rw [List.map_eq_nil_iff] at e
      rw [e] at hlt
      simp at hlt)
    obtain ⟨q1, q2⟩ := hhc.at hb (i := j) (c := .int .u8 k) (by rw [List.getElem?_map, hjk]; rfl)
    have hwk : IntKind.wrap .i64 k = k := wrapI (by omega) (by omega)
    let x := Int.tmod (IntKind.wrap .i64 k) (n : Int)
    let Hb := Hc.new (.row [.int .i64 x] 3 true (.own none))
    have hbget : ∀ m, m < Hc.nx → Hb.get m = Hc.get m := fun m hm => get_lt hm
    have hl0 : Lst Hb own 3 (((l.take j).map fun k => k.tmod (n : Int)).map kI) := hl.congr fun m off hb => hbget m (hl.lt hw ⟨m, off, hb, .inl rfl⟩)
    have hlnb : ∀ m, LN Hb own m ↔ LN Hc own m := LN_same fun m off hb => hbget m (hl.lt hw ⟨m, off, hb, .inl rfl⟩)
    obtain ⟨v', H', ns, u1, u2, u3, u4, u5⟩ := hl0.append et34 (t2 := 34) (by kernel_rfl) et34.made (hw.new _) (x := .slice Hc.nx 0 1 1) (new := [.int .i64 x]) rfl
      (by show aFirst (Hc.new _) 1 1 (.slice Hc.nx 0 1 1) = _; simp [aFirst, get_new]) rfl (by simp; omega)
    have hnb : Hc.nx + 1 ≤ H'.nx := u3.nx
    have hnx := h1.nx
    refine Leads.go fine (cutJ w0 _ _ below z a ao len l.length n i j k v2 out h2 own v' Hc H' ns) rfl ⟨by simpa using hlt, q1, by simpa using q2, by omega, trivial, u1, u5 (fun m => H0.nx ≤ m) _ (pok_new hw0 hp fun m hm => ?_) fun m hm => .inl (by have := hln m ((hlnb m).1 hm); omega), ?_⟩
    · rw [show (Hc.new (.row [.int .i64 x] 3 true (.own none))).get m = Hc.get m from hbget m (by omega), hk m (by omega)]
      exact h1.old m hm
    · rw [wrap1 j (by omega)]
      refine Leads.at (ctIh out n v' v2 len i h2 l.length (j + 1 : Nat)) (by kernel_rfl) (ih (j + 1) H' v' hdr' hlt (fun m hm => ?_) (by omega) ?_ fun m hm => ?_)
      · rw [u3.get m (by show m < Hc.nx + 1; omega) (fun hx => by have := hln m ((hlnb m).1 hx); omega), hbget m (by omega)]
        exact hk m hm
      · have : (l.take (j + 1)).map (fun k => k.tmod (n : Int)) = (l.take j).map (fun k => k.tmod (n : Int)) ++ [x] := by
          rw [List.take_add_one, hjk, List.map_append]
          show _ ++ [k.tmod (n : Int)] = _ ++ [Int.tmod (IntKind.wrap .i64 k) (n : Int)]
          rw [hwk]
        rw [this, List.map_append]
        exact u2
      · rcases u4 m hm with h' | h'
        · exact hln m ((hlnb m).1 h')
        · have : Hc.nx + 1 ≤ m := h'
          omega

theorem cutO_loop (hw0 : Wf H0) (hp : Pok H0 (fun _ => False) (stackPend below)) (hmat : MatB H0 S v g hs) (hS : ∀ m, S m → m < H0.nx) {v2 : AV} (hv2 : SlR H0 v2 (hs.take (min g.length 24))) (hv2b : ∀ n off, slBase v2 = some (n, off) → S n) {Kr : AV → AH → Prop}
    (hend : ∀ Hc out, Wf Hc → (∃ os, GSt H0 Hc out os (cutG g)) → Kr out Hc) :
    ∀ (k i : Nat) (Hc : AH) (out : AV), i + k = min g.length 24 → (∃ os, GSt H0 Hc out os ((g.take i).map (cutRow (min g.length 24)))) → ∀ z, Leads P w0 (RetK P 18 below Kr) ⟨w ctO (setL (tz 45 z) (ctOh out (min g.length 24 : Nat) v2 (min g.length 24) i)), below, Hc⟩ := by
  intro k
  induction k with
  | zero =>
    intro i Hc out hk h z
    refine Leads.wf fun hw => ?_
    refine Leads.go fine (cutE w0 _ _ below z (min g.length 24) (min g.length 24 : Nat) i v2 out Hc) rfl ⟨by simp; omega, hend Hc out hw ?_⟩
    obtain ⟨os, h⟩ := h
    refine ⟨os, ?_⟩
    have : cutG g = (g.take i).map (cutRow (min g.length 24)) := by
      unfold cutG
      congr 1
      by_cases c : g.length ≤ 24
      · rw [List.take_of_length_le c, List.take_of_length_le (by omega)]
      · rw [show i = 24 by omega]
    rw [this]
    exact h
  | succ k ih =>
    intro i Hc out hk h z
    refine Leads.wf fun hw => ?_
    obtain ⟨os, h⟩ := h
    have hil : i < g.length := by omega
    have hgi : g[i]? = some g[i] := List.getElem?_eq_getElem hil
    have hih : i < hs.length := by rw [hmat.len]; exact hil
    have hhi : hs[i]? = some hs[i] := List.getElem?_eq_getElem hih
    have hmc := hmat.congr (H' := Hc) fun m hm => h.old m (hS m hm)
    obtain ⟨r1, r2, r3⟩ := hmc.row i _ _ hhi hgi
    have hv2c : SlR Hc v2 (hs.take (min g.length 24)) := hv2.congr fun n off hb => h.old n (hS n (hv2b n off hb))
    obtain ⟨a, ao, hb⟩ := hv2c.some_base (fun e => by
      have := congrArg List.length e
      rw [List.length_take, hmat.len, List.length_nil] at this
      omega)
    obtain ⟨q1, q2⟩ := hv2c.at hb (i := i) (c := hs[i]) (by rw [List.getElem?_take, if_pos (by omega)]; exact hhi)
    obtain ⟨h2, t1, t2, t3⟩ := take_sl et69 sz5 r1 r3 (k := min g[i].length 24) (by simp; omega)
    have hll : ((g[i].map fun n => AV.int .u8 n).take (min g[i].length 24)) = ((g[i].take 24).map fun n => AV.int .u8 n) := by
      have e : g[i].take (min g[i].length 24) = g[i].take 24 := by
        by_cases c : g[i].length ≤ 24
        · rw [List.take_of_length_le c, List.take_of_length_le (by omega)]
        · rw [show min g[i].length 24 = 24 by omega]
      rw [← List.map_take, e]
    rw [hll] at t2
    have hl2 : aLen P Hc 69 h2 = some (.int .i64 ((g[i].take 24).length : Nat), []) := by have := t2.aLen (P := P) et69; simpa using this
    have hosl : os.length = i := by rw [h.len]; simp; omega
    refine Leads.go fine (cutN w0 _ _ below z a ao (min g.length 24) g[i].length (g[i].take 24).length (min g.length 24 : Nat) i v2 out hs[i] h2 Hc) rfl ⟨by simp; omega, q1, by simpa using q2, by have := r1.aLen (P := P) et69; simpa using this, by rw [minE]; exact t1, hl2, ?_⟩
    refine Leads.at (ctIh out (min g.length 24 : Nat) (.nslice 0 0) v2 (min g.length 24) i h2 (g[i].take 24).length (0 : Nat)) (by kernel_rfl) (cutJ_loop hw0 hp hw h (by omega) (by omega) (by omega) (by simp; omega) (fun k hk => hmat.byte g[i] (List.getElem_mem hil) k (List.mem_of_mem_take hk)) t2 (fun Hc' out' hw' ho => ih (i + 1) Hc' out' (by omega) ?_) _ 0 Hc (.nslice 0 0) rfl (Nat.zero_le _) (fun _ _ => rfl) (Nat.le_refl _) (Lst.nil _ 3) fun m hm => absurd hm (LN_nil _ _))
    obtain ⟨os', ho⟩ := ho
    refine ⟨os', ?_⟩
    rw [List.take_add_one, hgi, List.map_append]
    exact ho

/-- THE CONTRACT OF cut. -/
def CutQ (H : AH) (g : List (List Int)) : AV → AH → Prop := fun x H' => (∃ os, Mat H' (fun m => H.nx ≤ m ∧ m < H'.nx) x (cutG g) os ∧ Lst H' x 34 os ∧ ∀ (i : Nat) (h : AV), os[i]? = some h → ∀ n off, slBase h = some (n, off) → ¬ LN H' x n) ∧ (∀ m, LN H' x m → H.nx ≤ m) ∧ Kept (fun _ => False) H H'

/-- What more is known of it: its rows are its own, each apart from the others. -/
structure CutX (H : AH) (g : List (List Int)) (x : AV) (H' : AH) (os : List AV) : Prop where
  mat : Mat H' (fun m => H.nx ≤ m ∧ m < H'.nx) x (cutG g) os
  lst : Lst H' x 34 os
  row : ∀ (i : Nat) (h : AV) (l : List Int), os[i]? = some h → (cutG g)[i]? = some l → Lst H' h 3 (l.map kI) ∧ ∀ m, LN H' h m → (H.nx ≤ m ∧ m < H'.nx) ∧ ¬ LN H' x m
  dis : ∀ (i j : Nat) (h h' : AV), os[i]? = some h → os[j]? = some h' → i ≠ j → ∀ m, LN H' h m → ¬ LN H' h' m
  ln : ∀ m, LN H' x m → H.nx ≤ m ∧ m < H'.nx
  kept : Kept (fun _ => False) H H'

theorem CutX.q {H H' : AH} {g : List (List Int)} {x : AV} {os : List AV} (h : CutX H g x H' os) : CutQ H g x H' :=
  ⟨⟨os, h.mat, h.lst, fun i y hi n off hb => by
    have hil : i < (cutG g).length := by rw [← h.mat.len]; exact (List.getElem?_eq_some_iff.1 hi).1
    exact ((h.row i y _ hi (List.getElem?_eq_getElem hil)).2 n ⟨n, off, hb, .inl rfl⟩).2⟩, fun m hm => (h.ln m hm).1, h.kept⟩

theorem cut_ret2 (hmat : MatB H0 S v g hs) (hS : ∀ m, S m → m < H0.nx) : Ret P w0 18 [v] H0 (fun _ => False) fun x H' => (∃ os, CutX H0 g x H' os) ∧ Wf H' := Ret.wf (Ret.mk fun below hp => by
  refine Leads.wf fun hw => ?_
  have hal : aLen P H0 41 v = some (.int .i64 (g.length : Nat), []) := by have := hmat.top.aLen (P := P) et41; rw [hmat.len] at this; exact this
  obtain ⟨v2, t1, t2, t3⟩ := take_sl et41 sz69 hmat.top hmat.topI (k := min g.length 24) (by rw [hmat.len]; omega)
  have hal2 : aLen P H0 41 v2 = some (.int .i64 ((min g.length 24 : Nat) : Int), []) := by
    have := t2.aLen (P := P) et41
    rw [List.length_take, hmat.len, show min (min g.length 24) g.length = min g.length 24 by omega] at this
    exact this
  have hvc := cut0 w0 (Leads P w0 (RetK P 18 below fun x H' => ∃ os, CutX H0 g x H' os)) (fun x H' => ∃ os, CutX H0 g x H' os) below g.length (min g.length 24) v v2 H0
  simp only [minE] at hvc
  refine Leads.go fine hvc (by kernel_rfl) ⟨hal, t1, hal2, ?_⟩
  refine Leads.at (ctOh (.nslice 0 0) (min g.length 24 : Nat) v2 (min g.length 24) (0 : Nat)) (by kernel_rfl) (cutO_loop hw hp hmat hS t2 (fun n off hb => by obtain ⟨o', ho⟩ := t3 n off hb; exact hmat.topS n o' ho) (fun Hc out hwc ho => ?_) (min g.length 24) 0 H0 (.nslice 0 0) (by omega) ⟨[], GSt.start H0⟩)
  obtain ⟨os, ho⟩ := ho
  refine ⟨os, ⟨ho.lst.slr, fun n off hb => ⟨ho.ln n ⟨n, off, hb, .inl rfl⟩, ho.lst.slr.lt hwc hb⟩, ho.len, fun i h l hi hl => ?_⟩, ho.lst, fun i h l hi hl => ?_, ho.dis, fun m hm => ⟨ho.ln m hm, ho.lst.lt hwc hm⟩, ho.nx, fun m hm _ => ho.old m hm⟩
  · obtain ⟨r1, r2⟩ := ho.rows i h l hi hl
    exact ⟨r1.slr, fun n off hb => ⟨(r2 n ⟨n, off, hb, .inl rfl⟩).1, r1.lt hwc ⟨n, off, hb, .inl rfl⟩⟩⟩
  · obtain ⟨r1, r2⟩ := ho.rows i h l hi hl
    exact ⟨r1, fun m hm => ⟨⟨(r2 m hm).1, r1.lt hwc hm⟩, (r2 m hm).2⟩⟩)

theorem cut_ret (hmat : MatB H0 S v g hs) (hS : ∀ m, S m → m < H0.nx) : Ret P w0 18 [v] H0 (fun _ => False) fun x H' => CutQ H0 g x H' ∧ Wf H' :=
  (cut_ret2 hmat hS).mono fun _ _ q => ⟨by obtain ⟨os, h⟩ := q.1; exact h.q, q.2⟩
end
end Go.Dm
/- both; what the laws about made graphs share. -/
set_option linter.unusedVariables false
namespace Go.Dm
open Go Go.Sx Go.Sy Go.RowKit Go.Proofs.DomP

noncomputable def bo0 : AFr := hd P 16 [.r]

theorem bothE (w0 : World) (K : AM → Prop) (Kr : AV → AH → Prop) (below : List AFr) (v : AV) (H : AH) (Q1 : AV → AH → Prop) (Q2 Q3 : AH → AH → Prop) : (trun P w0 16 K Kr 300 0 [] ⟨frOf P 16 [v], below, H⟩ (.call AV (fun _ => False) (fun x => x) Q1 (fun x H1 => (.call Unit (fun _ => False) (fun _ => .tuple [.nptr, .int .i64 1]) (fun _ => Q2 H1) (fun _ H2 => (.call Unit (fun _ => False) (fun _ => .tuple [.nptr, .int .i64 1]) (fun _ => Q3 H2) (fun _ _ => (.ff (.ff (.ff (.ff .stop))))))))))) = (True ∧ (Ret P w0 18 [v] H (fun (x : Nat) ↦ False) fun (v : AV) (H' : AH) ↦ ∃ (x : AV), v = x ∧ Q1 x H') ∧ Pok H (fun (x : Nat) ↦ False) (stackPend below) ∧ ∀ (x : AV) (H' : AH), Q1 x H' → True ∧ (Ret P w0 9 [x] H' (fun (x : Nat) ↦ False) fun (v : AV) (H'_1 : AH) ↦ ∃ (x : Unit), v = AV.tuple [AV.nptr, AV.int IntKind.i64 (1 : Int)] ∧ Q2 H' H'_1) ∧ Pok H' (fun (x : Nat) ↦ False) (stackPend below) ∧ ∀ (x_1 : Unit) (H'_1 : AH), Q2 H' H'_1 → True ∧ (Ret P w0 10 [x] H'_1 (fun (x : Nat) ↦ False) fun (v : AV) (H' : AH) ↦ ∃ (x : Unit), v = AV.tuple [AV.nptr, AV.int IntKind.i64 (1 : Int)] ∧ Q3 H'_1 H') ∧ Pok H'_1 (fun (x : Nat) ↦ False) (stackPend below) ∧ ∀ (x : Unit) (H' : AH), Q3 H'_1 H' → ((1 : Int) == (0 : Int)) = false ∧ false = false ∧ false = false ∧ false = false ∧ Kr (AV.tuple [AV.nptr, AV.nptr, AV.bool false]) H') := by kernel_rfl

theorem bothO (w0 : World) (K : AM → Prop) (Kr : AV → AH → Prop) (below : List AFr) (v : AV) (H : AH) (Q1 : AV → AH → Prop) (Q2 : AV → AH → Nat → AH → Prop) (Q3 : AV → AH → Nat → AH → Nat → AH → Prop) : (trun P w0 16 K Kr 300 0 [] ⟨frOf P 16 [v], below, H⟩ (.call AV (fun _ => False) (fun x => x) Q1 (fun x H1 => (.call Nat (fun _ => False) (fun d => .tuple [.ptr d 0, .int .i64 0]) (Q2 x H1) (fun d H2 => (.call Nat (fun _ => False) (fun e => .tuple [.ptr e 0, .int .i64 0]) (Q3 x H1 d H2) (fun _ _ => (.tt (.tt (.tt (.tt .stop))))))))))) = (True ∧ (Ret P w0 18 [v] H (fun (x : Nat) ↦ False) fun (v : AV) (H' : AH) ↦ ∃ (x : AV), v = x ∧ Q1 x H') ∧ Pok H (fun (x : Nat) ↦ False) (stackPend below) ∧ ∀ (x : AV) (H' : AH), Q1 x H' → True ∧ (Ret P w0 9 [x] H' (fun (x : Nat) ↦ False) fun (v : AV) (H'_1 : AH) ↦ ∃ (x_1 : Nat), v = AV.tuple [AV.ptr x_1 (0 : Nat), AV.int IntKind.i64 (0 : Int)] ∧ Q2 x H' x_1 H'_1) ∧ Pok H' (fun (x : Nat) ↦ False) (stackPend below) ∧ ∀ (x_1 : Nat) (H'_1 : AH), Q2 x H' x_1 H'_1 → True ∧ (Ret P w0 10 [x] H'_1 (fun (x : Nat) ↦ False) fun (v : AV) (H'_2 : AH) ↦ ∃ (x_2 : Nat), v = AV.tuple [AV.ptr x_2 (0 : Nat), AV.int IntKind.i64 (0 : Int)] ∧ Q3 x H' x_1 H'_1 x_2 H'_2) ∧ Pok H'_1 (fun (x : Nat) ↦ False) (stackPend below) ∧ ∀ (x_2 : Nat) (H'_2 : AH), Q3 x H' x_1 H'_1 x_2 H'_2 → ((0 : Int) == (0 : Int)) = true ∧ true = true ∧ ((0 : Int) == (0 : Int)) = true ∧ true = true ∧ Kr (AV.tuple [AV.ptr x_1 0, AV.ptr x_2 0, AV.bool !false]) H'_2) := by kernel_rfl

section
variable {w0 : World} {H0 : AH} {S : Nat → Prop} {v : AV} {g : List (List Int)} {hs : List AV}

theorem DomIs.mono {H : AH} {S S' : Nat → Prop} {d : Nat} {g : List (List Int)} {order : List Int} {pl : Fn} {idom : List Int} {vg vp vo vi : AV} {pm : Nat} {hs : List AV} (h : DomIs H S d g order pl idom vg vp vo vi pm hs) (e : ∀ m, S m → S' m) : DomIs H S' d g order pl idom vg vp vo vi pm hs :=
  ⟨h.row, e _ h.sd, h.mat.mono e, h.ord, fun n off hb => e n (h.so n off hb), h.place, e _ h.sp, h.idom, fun n off hb => e n (h.si n off hb), by obtain ⟨ps, hp⟩ := h.pre; exact ⟨ps, hp.mono e⟩⟩

theorem cutG_nil {g : List (List Int)} (h : g = []) : cutG g = [] := by subst h; rfl

theorem cutG_pos {g : List (List Int)} (h : g ≠ []) : 0 < (cutG g).length := by
  rw [cutG_len]
  have := List.length_pos_iff.2 h
  omega

theorem cutG_le (g : List (List Int)) : (cutG g).length ≤ 24 := by rw [cutG_len]; omega

/-- What both tells, where there is a graph. -/
def BothO (H : AH) (g : List (List Int)) (sf : Seen) (done nodes : List Int) (upF : Fn) (d e : Nat) (H' : AH) : Prop :=
  (∃ vg vp vo vi pm hs, DomIs H' (fun m => H.nx ≤ m ∧ m < H'.nx) d (cutG g) (0 :: nodes) (placeF (0 :: nodes) 0 fun _ => none) (idomF upF (cutG g).length) vg vp vo vi pm hs) ∧
  (∃ Hm x os, H.nx ≤ Hm.nx ∧ RefOk Hm H' e x (cutG g) sf done ∧ Mat H' (fun m => H.nx ≤ m ∧ m < H'.nx) x (cutG g) os) ∧ Kept (fun _ => False) H H'

theorem both_nil (hmat : MatB H0 S v g hs) (hS : ∀ m, S m → m < H0.nx) (hg : g = []) : Ret P w0 16 [v] H0 (fun _ => False) fun y H' => (y = .tuple [.nptr, .nptr, .bool false] ∧ Kept (fun _ => False) H0 H') ∧ Wf H' := Ret.wf (Ret.mk fun below hp => by
  refine Leads.wf fun hw => ?_
  have hbad : ¬ (0 < (cutG g).length ∧ (cutG g).length ≤ 1024 ∧ (∀ l ∈ cutG g, l.length ≤ 1024) ∧ Go.Proofs.DomP.Good (cutG g)) := fun h => by rw [cutG_nil hg] at h; simp at h
  have h0 : (cutG g).length = 0 := by rw [cutG_nil hg]; rfl
  refine Leads.go fine (bothE w0 _ _ below v H0 (fun x H1 => CutQ H0 g x H1 ∧ Wf H1) (fun H1 H2 => Kept (fun _ => False) H1 H2 ∧ Wf H2) (fun H2 H3 => Kept (fun _ => False) H2 H3)) (by kernel_rfl)
    ⟨trivial, (cut_ret hmat hS).mono fun y H1 q => ⟨y, rfl, q⟩, hp, fun x H1 q => ?_⟩
  obtain ⟨⟨⟨os, hm, _⟩, _, k1⟩, w1⟩ := q
  have hp1 := pokK hw hp k1
  have hA := (new_ret (w0 := w0) hm (k := 0) (sf := fun _ => false) (done := []) (nodes := []) (upF := up0) fun q1 q2 q3 q4 => absurd ⟨q1, q2, q3, q4⟩ hbad).wf
  refine ⟨trivial, hA.mono fun y H2 q => ⟨(), ?_, keptOf q.1.1 q.1.2.1, q.2⟩, hp1, fun _ H2 q => ?_⟩
  · rcases q.1.2.2 with q | q | q | q
    · exact q.2
    · omega
    · omega
    · omega
  · obtain ⟨k2, w2⟩ := q
    have hm2 : Mat H2 (fun m => H0.nx ≤ m ∧ m < H1.nx) x (cutG g) os := hm.congr fun m hm => k2.get m hm.2 (fun h => h)
    have hB := rnew_ret (w0 := w0) hm2 (fun m hm => Nat.lt_of_lt_of_le hm.2 k2.nx) (k := 0) (sf := fun _ => false) (done := []) fun q1 q2 q3 q4 => absurd ⟨q1, q2, q3, q4⟩ hbad
    refine ⟨trivial, hB.mono fun y H3 q => ⟨(), ?_, keptOf q.1 q.2.1⟩, pokK w1 hp1 k2, fun _ H3 k3 => ⟨by simp, by simp, rfl, rfl, rfl, (k1.trans k2).trans k3⟩⟩
    rcases q.2.2 with q | q | q | q
    · exact q.2
    · omega
    · omega
    · omega)

theorem both_ok (hmat : MatB H0 S v g hs) (hS : ∀ m, S m → m < H0.nx) (hg : g ≠ []) {sf : Seen} {done nodes : List Int} {upF : Fn} (M : Made (cutG g) sf done nodes upF) :
    Ret P w0 16 [v] H0 (fun _ => False) fun y H' => (∃ p : Nat × Nat, y = .tuple [.ptr p.1 0, .ptr p.2 0, .bool true] ∧ BothO H0 g sf done nodes upF p.1 p.2 H') ∧ Wf H' := Ret.wf (Ret.mk fun below hp => by
  refine Leads.wf fun hw => ?_
  have g0 := cutG_pos hg
  have g1 := cutG_le g
  have g2 : ∀ l ∈ cutG g, l.length ≤ 1024 := fun l hl => by have := cutG_row hl; omega
  have g3 := cutG_good hmat.byte
  obtain ⟨k, ok⟩ := M.ok
  have hlen := M.len
  have hr : done.reverse = 0 :: nodes := M.rev
  refine Leads.go fine (bothO w0 _ _ below v H0 (fun x H1 => CutQ H0 g x H1 ∧ Wf H1) (fun x H1 d H2 => (NewOk H1 H2 d (cutG g) done.reverse (placeF done.reverse 0 fun _ => none) (idomF upF (cutG g).length) ∧ Kept (fun _ => False) H1 H2) ∧ Wf H2)
    (fun x H1 d H2 e H3 => (RefOk H2 H3 e x (cutG g) sf done ∧ Kept (fun _ => False) H2 H3))) (by kernel_rfl)
    ⟨trivial, (cut_ret hmat hS).mono fun y H1 q => ⟨y, rfl, q⟩, hp, fun x H1 q => ?_⟩
  obtain ⟨⟨⟨os, hm, _⟩, _, k1⟩, w1⟩ := q
  have hp1 := pokK hw hp k1
  have hA := (new_ret (w0 := w0) hm fun _ _ _ _ => ok).wf
  refine ⟨trivial, hA.mono fun y H2 q => ?_, hp1, fun d H2 q => ?_⟩
  · obtain ⟨⟨q1, q2, q3⟩, qw⟩ := q
    rcases q3 with ⟨q3, _⟩ | ⟨_, q3, _⟩ | ⟨_, _, _, q3, _⟩ | ⟨_, _, _, _, d, q4, q5⟩
    · omega
    · rcases q3 with q3 | ⟨l, hl, q3⟩
      · omega
      · have := g2 l hl; omega
    · exact absurd g3 q3
    · exact ⟨d, q4, ⟨q5, keptOf q1 q2⟩, qw⟩
  · obtain ⟨⟨⟨vg, vp, vo, vi, pm, hs', hD, _, _⟩, k2⟩, w2⟩ := q
    have hm2 : Mat H2 (fun m => H0.nx ≤ m ∧ m < H1.nx) x (cutG g) os := hm.congr fun m hm => k2.get m hm.2 (fun h => h)
    have hB := rnew_ret (w0 := w0) hm2 (fun m hm => Nat.lt_of_lt_of_le hm.2 k2.nx) (k := k) (sf := sf) (done := done) fun _ _ _ _ => ⟨ok.1, by omega⟩
    refine ⟨trivial, hB.mono fun y H3 q => ?_, pokK w1 hp1 k2, fun e H3 q => ⟨by simp, by simp, rfl, rfl, (d, e), rfl, ?_⟩⟩
    · obtain ⟨q1, q2, q3⟩ := q
      rcases q3 with ⟨q3, _⟩ | ⟨_, q3, _⟩ | ⟨_, _, _, q3, _⟩ | ⟨_, _, _, _, e, q4, q5⟩
      · omega
      · rcases q3 with q3 | ⟨l, hl, q3⟩
        · omega
        · have := g2 l hl; omega
      · exact absurd g3 q3
      · exact ⟨e, q4, q5, keptOf q1 q2⟩
    · obtain ⟨hR, k3⟩ := q
      rw [hr] at hD
      have n1 := k1.nx
      have n2 := k2.nx
      have n3 := k3.nx
      refine ⟨⟨vg, vp, vo, vi, pm, hs', ?_⟩, ⟨H2, x, os, by omega, hR, ?_⟩, (k1.trans k2).trans k3⟩
      · have := hD.congr (H' := H3) fun m hm => k3.get m hm.2 (fun h => h)
        exact this.mono fun m hm => ⟨by omega, by omega⟩
      · exact (hm2.congr (H' := H3) fun m hm => k3.get m (by have := hm.2; omega) (fun h => h)).mono fun m hm => ⟨hm.1, by have := hm.2; omega⟩)

/-- What stands behind the first i of a list that was cloned. -/
theorem drop_sl {H : AH} {n L : Nat} {cs : List AV} (hv : SlR H (.eslice n 0 L 1) cs) {i : Nat} (hi : i ≤ cs.length) : ∃ v', aSlice P H 34 (.eslice n 0 L 1) (some (.int .i64 (i : Nat))) none none = some v' ∧ SlR H v' (cs.drop i) := by
  have hl := hv.len
  simp only [aLenOf, Option.some.injEq] at hl
  subst hl
  obtain ⟨r, t', ex, st, h1, h2, h3⟩ := hv.base n 0 rfl
  have hu := et34.und
  have hz := et34.sz
  have hrow : rowHas H n (0 + cs.length * 1) = true := by unfold rowHas; rw [h1]; simp only [Nat.ble_eq]; omega
  have hb : aBounds cs.length cs.length (some (.int .i64 (i : Nat))) none none = some (i, cs.length, cs.length) := by
    simp [aBounds, bndM, bndH, bndL, aBound]
    omega
  have hsl : aSlice P H 34 (.eslice n 0 cs.length 1) (some (.int .i64 (i : Nat))) none none = (if i < cs.length ∨ i = 0 then some (.eslice n (0 + i * 1) (cs.length - i) 1) else some (.zslice n 0 i 1)) := by
    simp only [aSlice, hu, hz, hrow, hb]
    simp
  rw [hsl]
  by_cases c : i < cs.length ∨ i = 0
  · rw [if_pos c]
    refine ⟨_, rfl, rfl, by simp [aLenOf], fun m off hb => ?_, fun hb => by simp [slBase] at hb⟩
    simp [slBase] at hb
    obtain ⟨rfl, rfl⟩ := hb
    refine ⟨r, t', ex, st, h1, by simp; omega, ?_⟩
    have h4 := congrArg (List.drop i) h3
    rw [List.drop_zero, List.drop_take] at h4
    rw [List.length_drop]
    exact h4
  · rw [if_neg c]
    have : cs.drop i = [] := by rw [List.drop_eq_nil_iff]; omega
    rw [this]
    exact ⟨_, rfl, rfl, rfl, fun m off hb => by simp [slBase] at hb, fun _ => rfl⟩
end
end Go.Dm
/- DomOrder. -/
set_option linter.unusedVariables false
namespace Go.Dm
open Go Go.Sx Go.Sy Go.RowKit Go.Proofs.DomP

noncomputable def doH : AFr := hd P 4 [.r, .r, .r, .l]

noncomputable def doO : AFr := hd P 4 [.r, .r, .r, .r, .l, .r, .i]

noncomputable def doI : AFr := hd P 4 [.r, .r, .r, .r, .l, .r, .i, .i, .r, .r, .l, .i, .r, .r, .i]

theorem do0E (w0 : World) (K : AM → Prop) (Kr : AV → AH → Prop) (below : List AFr) (v : AV) (len : Nat) (H : AH) (Q1 : AH → Prop) (Q2 Q3 : AH → AH → Prop) : (trun P w0 4 K Kr 300 0 [] ⟨frOf P 4 [v], below, H⟩ (.call Unit (fun _ => False) (fun _ => .tuple [.nptr, .nptr, .bool false]) (fun _ => Q1) (fun _ H1 => (.tt (.tt (.tt (.call Unit (fun _ => False) (fun _ => .bool true) (fun _ => Q2 H1) (fun _ H2 => (.tt (.ln len (.tt .stop))))))))))) = (True ∧ (Ret P w0 16 [v] H (fun (x : Nat) ↦ False) fun (v : AV) (H' : AH) ↦ ∃ (x : Unit), v = AV.tuple [AV.nptr, AV.nptr, AV.bool false] ∧ Q1 H') ∧ Pok H (fun (x : Nat) ↦ False) (stackPend below) ∧ ∀ (x : Unit) (H' : AH), Q1 H' → (!false) = true ∧ true = true ∧ true = true ∧ True ∧ (Ret P w0 8 [] H' (fun (x : Nat) ↦ False) fun (v : AV) (H'_1 : AH) ↦ ∃ (x : Unit), v = AV.bool true ∧ Q2 H' H'_1) ∧ Pok H' (fun (x : Nat) ↦ False) (stackPend below) ∧ ∀ (x : Unit) (H'_1 : AH), Q2 H' H'_1 → true = true ∧ aLen P H'_1 41 v = some (AV.int IntKind.i64 (↑len : Int), []) ∧ true = true ∧ Kr (AV.bool ((↑len : Int) == (0 : Int))) H'_1) := by kernel_rfl

theorem do0O (w0 : World) (K : AM → Prop) (Kr : AV → AH → Prop) (below : List AFr) (v : AV) (H : AH) (Q1 : Nat × Nat → AH → Prop) (Q2 : AH → AH → Prop) : (trun P w0 4 K Kr 300 0 [] ⟨frOf P 4 [v], below, H⟩ (.call (Nat × Nat) (fun _ => False) (fun p => .tuple [.ptr p.1 0, .ptr p.2 0, .bool true]) Q1 (fun p H1 => (.ff (.call Unit (fun _ => False) (fun _ => .bool true) (fun _ => Q2 H1) (fun _ H2 => (.ff (.ff .halt)))))))) = (True ∧ (Ret P w0 16 [v] H (fun (x : Nat) ↦ False) fun (v : AV) (H' : AH) ↦ ∃ (x : Nat × Nat), v = AV.tuple [AV.ptr (Prod.fst x) (0 : Nat), AV.ptr (Prod.snd x) (0 : Nat), AV.bool true] ∧ Q1 x H') ∧ Pok H (fun (x : Nat) ↦ False) (stackPend below) ∧ ∀ (x : Nat × Nat) (H' : AH), Q1 x H' → (!true) = false ∧ True ∧ (Ret P w0 8 [] H' (fun (x : Nat) ↦ False) fun (v : AV) (H'_1 : AH) ↦ ∃ (x : Unit), v = AV.bool true ∧ Q2 H' H'_1) ∧ Pok H' (fun (x : Nat) ↦ False) (stackPend below) ∧ ∀ (x_1 : Unit) (H'_1 : AH), Q2 H' H'_1 → false = false ∧ (!true) = false ∧ K (AM.mk (w doH (tl [v, AV.tuple [], AV.bool false, AV.ptr (Prod.fst x) 0, AV.ptr (Prod.snd x) 0, AV.bool true, AV.tuple [], AV.tuple [], AV.tuple [], AV.tuple [], AV.tuple [], AV.tuple [AV.ptr (Prod.fst x) 0, AV.ptr (Prod.snd x) 0, AV.bool true], v, AV.tuple [AV.ptr (Prod.fst x) 0, AV.ptr (Prod.snd x) 0, AV.bool true], AV.ptr (Prod.fst x) 0, AV.ptr (Prod.snd x) 0, AV.bool true, AV.bool true, AV.bool !true, AV.bool false, AV.bool true, AV.bool !true, AV.bool false, AV.tuple [], AV.tuple [], AV.tuple [], AV.tuple [], AV.tuple [], AV.tuple [], AV.tuple [], AV.tuple [], AV.tuple [], AV.tuple [], AV.tuple [], AV.tuple [], AV.tuple [], AV.tuple [], AV.tuple [], AV.tuple [], AV.tuple [], AV.tuple [], AV.tuple [], AV.tuple [], AV.tuple [], AV.tuple [], AV.tuple [], AV.tuple [], AV.tuple [], AV.tuple [], AV.tuple [], AV.tuple [], AV.tuple [], AV.tuple [], AV.tuple [], AV.tuple [], AV.tuple [], AV.tuple [], AV.tuple [], AV.tuple [], AV.tuple [], AV.tuple [], AV.tuple []])) below H'_1)) := by kernel_rfl

theorem do1 (w0 : World) (K : AM → Prop) (Kr : AV → AH → Prop) (below : List AFr) (z : Nat → AV) (d len : Nat) (H : AH) (Q : AV → AH → Prop) : (trun P w0 4 K Kr 300 0 [] ⟨w doH (setL (tz 62 z) [(3, .ptr d 0)]), below, H⟩ (.call AV (fun _ => False) (fun x => x) Q (fun x H1 => (.ln len .stop)))) = (True ∧ (Ret P w0 14 [AV.ptr d 0] H (fun (x : Nat) ↦ False) fun (v : AV) (H' : AH) ↦ ∃ (x : AV), v = x ∧ Q x H') ∧ Pok H (fun (x : Nat) ↦ False) (stackPend below) ∧ ∀ (x : AV) (H' : AH), Q x H' → aLen P H' 34 x = some (AV.int IntKind.i64 (↑len : Int), []) ∧ K (AM.mk (w doO (tl [z 0, z 1, z 2, AV.ptr d 0, z 4, z 5, x, z 7, z 8, z 9, z 10, z 11, z 12, z 13, z 14, z 15, z 16, z 17, z 18, z 19, z 20, z 21, z 22, z 23, z 24, z 25, z 26, z 27, z 28, AV.ptr d 0, x, x, AV.int IntKind.i64 (↑len : Int), AV.int IntKind.i64 (0 : Int), z 34, z 35, z 36, z 37, z 38, z 39, z 40, z 41, z 42, z 43, z 44, z 45, z 46, z 47, z 48, z 49, z 50, z 51, z 52, z 53, z 54, z 55, z 56, z 57, z 58, z 59, z 60, z 61])) below H')) := by kernel_rfl

theorem do2 (w0 : World) (K : AM → Prop) (Kr : AV → AH → Prop) (below : List AFr) (z : Nat → AV) (d len a ao sl : Nat) (x sub : AV) (i q : Int) (H : AH) : (trun P w0 4 K Kr 300 0 [] ⟨w doO (setL (tz 62 z) [(3, .ptr d 0), (6, x), (31, x), (32, .int .i64 len), (33, .int .i64 i)]), below, H⟩ (.tt (.bs a ao (.v (.int .i64 q) (.v sub (.ln sl .stop)))))) = (decide (i < (↑len : Int)) = true ∧ SlAt x a ao i ∧ rdAt H a (ao + Int.toNat i * 1) = some (AV.int IntKind.i64 q) ∧ aSlice P H 34 x (some (AV.int IntKind.i64 (IntKind.wrap IntKind.i64 (i + (1 : Int))))) none none = some sub ∧ aLen P H 34 sub = some (AV.int IntKind.i64 (↑sl : Int), []) ∧ K (AM.mk (w doI (tl [z 0, z 1, z 2, AV.ptr d 0, z 4, z 5, x, AV.int IntKind.i64 i, AV.int IntKind.i64 q, z 9, z 10, z 11, z 12, z 13, z 14, z 15, z 16, z 17, z 18, z 19, z 20, z 21, z 22, z 23, z 24, z 25, z 26, z 27, z 28, z 29, z 30, x, AV.int IntKind.i64 (↑len : Int), AV.int IntKind.i64 i, AV.bool true, AV.int IntKind.i64 i, AV.ptr a (ao + Int.toNat i * 1), AV.int IntKind.i64 q, x, AV.int IntKind.i64 i, AV.int IntKind.i64 (IntKind.wrap IntKind.i64 (i + (1 : Int))), sub, AV.int IntKind.i64 (↑sl : Int), AV.int IntKind.i64 (0 : Int), z 44, z 45, z 46, z 47, z 48, z 49, z 50, z 51, z 52, z 53, z 54, z 55, z 56, z 57, z 58, z 59, z 60, z 61])) below H)) := by kernel_rfl

theorem do2e (w0 : World) (K : AM → Prop) (Kr : AV → AH → Prop) (below : List AFr) (z : Nat → AV) (d len a ao : Nat) (x : AV) (i : Int) (H : AH) : (trun P w0 4 K Kr 300 0 [] ⟨w doO (setL (tz 62 z) [(3, .ptr d 0), (6, x), (31, x), (32, .int .i64 len), (33, .int .i64 i)]), below, H⟩ (.ff (.ln len (.tt (.bs a ao (.v (.int .i64 0) (.tt .stop))))))) = (decide (i < (↑len : Int)) = false ∧ aLen P H 34 x = some (AV.int IntKind.i64 (↑len : Int), []) ∧ decide ((↑len : Int) > (0 : Int)) = true ∧ SlAt x a ao (0 : Int) ∧ rdAt H a (ao + 0) = some (AV.int IntKind.i64 (0 : Int)) ∧ true = true ∧ Kr (AV.bool ((0 : Int) == (0 : Int))) H) := by kernel_rfl

theorem do3 (w0 : World) (K : AM → Prop) (Kr : AV → AH → Prop) (below : List AFr) (z : Nat → AV) (d len sl a ao : Nat) (x sub : AV) (i ii p q j : Int) (H : AH) : (trun P w0 4 K Kr 300 0 [] ⟨w doI (setL (tz 62 z) [(3, .ptr d 0), (6, x), (7, .int .i64 ii), (8, .int .i64 p), (31, x), (32, .int .i64 len), (33, .int .i64 i), (41, sub), (42, .int .i64 sl), (43, .int .i64 j)]), below, H⟩ (.tt (.bs a ao (.v (.int .i64 q) (.call Unit (fun _ => False) (fun _ => .bool false) (fun _ H' => H' = H) (fun _ _ => .ff .stop)))))) = (decide (j < (↑sl : Int)) = true ∧ SlAt sub a ao j ∧ rdAt H a (ao + Int.toNat j * 1) = some (AV.int IntKind.i64 q) ∧ True ∧ (Ret P w0 17 [AV.ptr d 0, AV.int IntKind.i64 q, AV.int IntKind.i64 p] H (fun (x : Nat) ↦ False) fun (v : AV) (H' : AH) ↦ ∃ (x : Unit), v = AV.bool false ∧ H' = H) ∧ Pok H (fun (x : Nat) ↦ False) (stackPend below) ∧ ∀ (x_1 : Unit) (H' : AH), H' = H → false = false ∧ K (AM.mk (w doI (tl [z 0, z 1, z 2, AV.ptr d 0, z 4, z 5, x, AV.int IntKind.i64 ii, AV.int IntKind.i64 p, z 9, AV.int IntKind.i64 q, z 11, z 12, z 13, z 14, z 15, z 16, z 17, z 18, z 19, z 20, z 21, z 22, z 23, z 24, z 25, z 26, z 27, z 28, z 29, z 30, x, AV.int IntKind.i64 (↑len : Int), AV.int IntKind.i64 i, z 34, z 35, z 36, z 37, z 38, z 39, z 40, sub, AV.int IntKind.i64 (↑sl : Int), AV.int IntKind.i64 (IntKind.wrap IntKind.i64 (j + (1 : Int))), AV.bool true, AV.ptr a (ao + Int.toNat j * 1), AV.int IntKind.i64 q, AV.ptr d 0, AV.int IntKind.i64 q, AV.int IntKind.i64 p, AV.bool false, AV.int IntKind.i64 (IntKind.wrap IntKind.i64 (j + (1 : Int))), z 52, z 53, z 54, z 55, z 56, z 57, z 58, z 59, z 60, z 61])) below H')) := by kernel_rfl

theorem do3e (w0 : World) (K : AM → Prop) (Kr : AV → AH → Prop) (below : List AFr) (z : Nat → AV) (d len sl : Nat) (x sub : AV) (i ii p j : Int) (H : AH) : (trun P w0 4 K Kr 300 0 [] ⟨w doI (setL (tz 62 z) [(3, .ptr d 0), (6, x), (7, .int .i64 ii), (8, .int .i64 p), (31, x), (32, .int .i64 len), (33, .int .i64 i), (41, sub), (42, .int .i64 sl), (43, .int .i64 j)]), below, H⟩ (.ff .stop)) = (decide (j < (↑sl : Int)) = false ∧ K (AM.mk (w doO (tl [z 0, z 1, z 2, AV.ptr d 0, z 4, z 5, x, AV.int IntKind.i64 ii, AV.int IntKind.i64 p, z 9, z 10, z 11, z 12, z 13, z 14, z 15, z 16, z 17, z 18, z 19, z 20, z 21, z 22, z 23, z 24, z 25, z 26, z 27, z 28, z 29, z 30, x, AV.int IntKind.i64 (↑len : Int), AV.int IntKind.i64 (IntKind.wrap IntKind.i64 (i + (1 : Int))), z 34, z 35, z 36, z 37, z 38, z 39, z 40, sub, AV.int IntKind.i64 (↑sl : Int), AV.int IntKind.i64 j, AV.bool false, z 45, z 46, z 47, z 48, z 49, z 50, z 51, AV.int IntKind.i64 (IntKind.wrap IntKind.i64 (i + (1 : Int))), z 53, z 54, z 55, z 56, z 57, z 58, z 59, z 60, z 61])) below H)) := by kernel_rfl

section
variable {w0 : World} {H0 : AH} {S : Nat → Prop} {v : AV} {g : List (List Int)} {hs : List AV} {below : List AFr}

theorem pokW {H H' : AH} {pend : List Nat} (hw : Wf H) (hp : Pok H (fun _ => False) pend) (hk : Kept (fun _ => False) H H') : Pok H' (fun _ => False) pend := pokK hw hp hk

/-- What a made graph gives for Over. -/
theorem Made.hO {g : List (List Int)} {sf : Seen} {done nodes : List Int} {upF : Fn} (M : Made g sf done nodes upF) : ∀ a, (placeF (0 :: nodes) 0 (fun _ => none) a).isSome = true → 0 ≤ a := fun a ha => (M.ord.range a ((M.ord.plS a).1 ha)).1

theorem Made.hV {g : List (List Int)} {sf : Seen} {done nodes : List Int} {upF : Fn} (M : Made g sf done nodes upF) : ∀ a b, (placeF (0 :: nodes) 0 (fun _ => none) a).isSome = true → (placeF (0 :: nodes) 0 (fun _ => none) b).isSome = true → OverR (idomF upF g.length) a b (ovF upF a b) := fun a b ha hb => M.over (M.hO a ha) ((M.ord.plS b).1 hb)

theorem Made.nodup {g : List (List Int)} {sf : Seen} {done nodes : List Int} {upF : Fn} (M : Made g sf done nodes upF) : (0 :: nodes).Nodup := List.nodup_cons.2 ⟨M.ord.n0, M.ord.nodup⟩

theorem Made.place {g : List (List Int)} {sf : Seen} {done nodes : List Int} {upF : Fn} (M : Made g sf done nodes upF) {i : Nat} {p : Int} (h : (0 :: nodes)[i]? = some p) : placeF (0 :: nodes) 0 (fun _ => none) p = some (i : Int) := (place_some M.nodup).2 ⟨by omega, by simpa using h⟩

theorem Made.behind {g : List (List Int)} {sf : Seen} {done nodes : List Int} {upF : Fn} (M : Made g sf done nodes upF) {i j : Nat} {p q : Int} (hi : (0 :: nodes)[i]? = some p) (hj : (0 :: nodes)[j]? = some q) (hij : i < j) : overB (placeF (0 :: nodes) 0 fun _ => none) (ovF upF) q p = false := by
  have hp := M.place hi
  have hq := M.place hj
  unfold overB
  have : ovF upF q p = false := by
    unfold ovF
    rw [decide_eq_false_iff_not]
    intro ho
    have := (ho.known M.fin.full.ok.tree (M.known.2 (List.mem_of_getElem? hi))).2
    unfold plc at this
    rw [hp, hq] at this
    simp at this
    omega
  rw [this, Bool.and_false]

def doOh (d : Nat) (x : AV) (len : Nat) (i : Int) : List (Nat × AV) := [(3, .ptr d 0), (6, x), (31, x), (32, .int .i64 len), (33, .int .i64 i)]

def doIh (d : Nat) (x : AV) (ii p : Int) (len : Nat) (i : Int) (sub : AV) (sl : Nat) (j : Int) : List (Nat × AV) := [(3, .ptr d 0), (6, x), (7, .int .i64 ii), (8, .int .i64 p), (31, x), (32, .int .i64 len), (33, .int .i64 i), (41, sub), (42, .int .i64 sl), (43, .int .i64 j)]

section
variable {G : List (List Int)} {sf : Seen} {done nodes : List Int} {upF : Fn} {H : AH} {d n : Nat} {vg vp vo vi : AV} {pm : Nat} {hs' : List AV}

theorem do3_loop (M : Made G sf done nodes upF) (hD : DomIs H S d G (0 :: nodes) (placeF (0 :: nodes) 0 fun _ => none) (idomF upF G.length) vg vp vo vi pm hs') (hp : Pok H (fun _ => False) (stackPend below)) (hsm : (0 :: nodes).length ≤ 1024) {R : AV → AH → Prop} {x sub : AV} {i : Nat} {p : Int} (hip : (0 :: nodes)[i]? = some p) (hsub : SlR H sub (((0 :: nodes).drop (i + 1)).map kI))
    (hend : ∀ z, Leads P w0 (RetK P 4 below R) ⟨w doO (setL (tz 62 z) (doOh d x (0 :: nodes).length (i + 1 : Nat))), below, H⟩) :
    ∀ (r : List Int) (j : Nat), ((0 :: nodes).drop (i + 1)).drop j = r → j ≤ ((0 :: nodes).drop (i + 1)).length → ∀ z, Leads P w0 (RetK P 4 below R) ⟨w doI (setL (tz 62 z) (doIh d x i p (0 :: nodes).length i sub ((0 :: nodes).drop (i + 1)).length j)), below, H⟩
  | [], j, hdr, hj, z => by
    have hjl := drop_end hdr hj
    refine Leads.go fine (do3e w0 _ _ below z d (0 :: nodes).length ((0 :: nodes).drop (i + 1)).length x sub i i p j H) rfl ⟨by simp only [hjl]; simp, ?_⟩
    have hil := (List.getElem?_eq_some_iff.1 hip).1
    rw [wrap1 i (by omega)]
    exact Leads.at (doOh d x (0 :: nodes).length (i + 1 : Nat)) (by kernel_rfl) hend
  | q :: r, j, hdr, hj, z => by
    obtain ⟨hlt, hjq, hdr'⟩ := drop_step hdr
    obtain ⟨a, ao, hb, q1, q2⟩ := hsub.int hjq
    have hq : (0 :: nodes)[i + 1 + j]? = some q := by rw [← hjq, List.getElem?_drop]
    have ho := overB_ret (w0 := w0) hD M.hO M.hV q p
    rw [M.behind hip hq (by omega)] at ho
    have hll : ((0 :: nodes).drop (i + 1)).length ≤ 1024 := by rw [List.length_drop]; omega
    refine Leads.go fine (do3 w0 _ _ below z d (0 :: nodes).length ((0 :: nodes).drop (i + 1)).length a ao x sub i i p q j H) rfl ⟨by simpa using hlt, q1, by simpa using q2, trivial, ho.mono fun y H' q => ⟨(), q⟩, hp, fun _ H' he => ⟨rfl, ?_⟩⟩
    rw [he, wrap1 j (by omega)]
    exact Leads.at (doIh d x i p (0 :: nodes).length i sub ((0 :: nodes).drop (i + 1)).length (j + 1 : Nat)) (by kernel_rfl) (do3_loop M hD hp hsm hip hsub hend r (j + 1) hdr' hlt)

theorem do2_loop (M : Made G sf done nodes upF) (hD : DomIs H S d G (0 :: nodes) (placeF (0 :: nodes) 0 fun _ => none) (idomF upF G.length) vg vp vo vi pm hs') (hp : Pok H (fun _ => False) (stackPend below)) (hsm : (0 :: nodes).length ≤ 1024) {R : AV → AH → Prop} (hx : SlR H (.eslice n 0 (0 :: nodes).length 1) ((0 :: nodes).map kI)) (hR : R (.bool true) H) :
    ∀ (r : List Int) (i : Nat), (0 :: nodes).drop i = r → i ≤ (0 :: nodes).length → ∀ z, Leads P w0 (RetK P 4 below R) ⟨w doO (setL (tz 62 z) (doOh d (.eslice n 0 (0 :: nodes).length 1) (0 :: nodes).length i)), below, H⟩
  | [], i, hdr, hi, z => by
    have hil := drop_end hdr hi
    have hal : aLen P H 34 (.eslice n 0 (0 :: nodes).length 1) = some (.int .i64 (((0 :: nodes).length : Nat) : Int), []) := by have := hx.aLen (P := P) et34.und; rw [List.length_map] at this; exact this
    obtain ⟨a, ao, hb, q1, q2⟩ := hx.int (i := 0) (x := 0) rfl
    exact Leads.go fine (do2e w0 _ _ below z d (0 :: nodes).length a ao _ i H) rfl ⟨by simp only [hil]; simp, hal, by simp, q1, q2, rfl, hR⟩
  | p :: r, i, hdr, hi, z => by
    obtain ⟨hlt, hip, hdr'⟩ := drop_step hdr
    obtain ⟨a, ao, hb, q1, q2⟩ := hx.int hip
    obtain ⟨sub, s1, s2⟩ := drop_sl hx (i := i + 1) (by rw [List.length_map]; omega)
    rw [← List.map_drop] at s2
    have hal : aLen P H 34 sub = some (.int .i64 ((((0 :: nodes).drop (i + 1)).length : Nat) : Int), []) := by have := s2.aLen (P := P) et34.und; rw [List.length_map] at this; exact this
    refine Leads.go fine (do2 w0 _ _ below z d (0 :: nodes).length a ao ((0 :: nodes).drop (i + 1)).length _ sub i p H) rfl ⟨by simp only [decide_eq_true_eq]; omega, q1, by simpa using q2, by rw [wrap1 i (by omega)]; exact s1, hal, ?_⟩
    exact Leads.at (doIh d (.eslice n 0 (0 :: nodes).length 1) i p (0 :: nodes).length i sub ((0 :: nodes).drop (i + 1)).length (0 : Nat)) (by kernel_rfl) (do3_loop M hD hp hsm hip s2 (fun z => do2_loop M hD hp hsm hx hR r (i + 1) hdr' hlt z) _ 0 rfl (Nat.zero_le _))
end

/-- DomOrder IS TRUE. -/
theorem dorder_ret (hmat : MatB H0 S v g hs) (hS : ∀ m, S m → m < H0.nx) : Ret P w0 4 [v] H0 (fun _ => False) (KR H0) := Ret.mk fun below hp => by
  refine Leads.wf fun hw => ?_
  by_cases hg : g = []
  · refine Leads.go fine (do0E w0 _ _ below v g.length H0 (fun H1 => Kept (fun _ => False) H0 H1 ∧ Wf H1) (fun H1 H2 => Kept (fun _ => False) H1 H2) (fun _ _ => True)) (by kernel_rfl)
      ⟨trivial, (both_nil hmat hS hg).mono fun y H1 q => ⟨(), q.1.1, q.1.2, q.2⟩, hp, fun _ H1 q => ⟨rfl, rfl, rfl, trivial, live_ret.mono fun y H2 q => ⟨(), q⟩, pokK hw hp q.1, fun _ H2 k2 => ⟨rfl, ?_, rfl, ?_, q.1.trans k2⟩⟩⟩
    · have := (hmat.congr (H' := H2) fun m hm => (q.1.trans k2).get m (hS m hm) (fun h => h)).top.aLen (P := P) et41
      rw [hmat.len] at this
      exact this
    · rw [hg]; rfl
  · obtain ⟨sf, done, nodes, upF, M⟩ := made (cutG_good hmat.byte) (cutG_pos hg)
    have hsm : (0 :: nodes).length ≤ 1024 := by
      have h1 := M.len
      have h2 := cutG_le g
      have h3 : done.reverse.length = done.length := List.length_reverse
      rw [M.rev] at h3
      omega
    refine Leads.go fine (do0O w0 _ _ below v H0 (fun p H1 => BothO H0 g sf done nodes upF p.1 p.2 H1 ∧ Wf H1) (fun H1 H2 => Kept (fun _ => False) H1 H2 ∧ Wf H2)) (by kernel_rfl)
      ⟨trivial, (both_ok hmat hS hg M).mono fun y H1 q => ?_, hp, fun p H1 q => ?_⟩
    · obtain ⟨⟨p, q1, q2⟩, q3⟩ := q
      exact ⟨p, q1, q2, q3⟩
    · obtain ⟨⟨⟨vg, vp, vo, vi, pm, hs', hD⟩, _, k1⟩, w1⟩ := q
      have hp1 := pokK hw hp k1
      refine ⟨rfl, trivial, live_ret.wf.mono fun y H2 q => ⟨(), q.1.1, q.1.2, q.2⟩, hp1, fun _ H2 q => ⟨rfl, rfl, ?_⟩⟩
      obtain ⟨k2, w2⟩ := q
      have hp2 := pokK w1 hp1 k2
      have hD2 := hD.congr (H' := H2) fun m hm => k2.get m hm.2 (fun h => h)
      refine Leads.at [(3, .ptr p.1 0)] (by kernel_rfl) fun z => ?_
      refine Leads.go fine (do1 w0 _ _ below z p.1 (0 :: nodes).length H2 fun x H3 => ((SlR H3 x ((0 :: nodes).map kI) ∧ (∀ n off, slBase x = some (n, off) → H2.nx ≤ n) ∧ Kept (fun _ => False) H2 H3) ∧ ((0 :: nodes).map kI ≠ [] → ∃ n, x = .eslice n 0 ((0 :: nodes).map kI).length 1)) ∧ Wf H3) rfl
        ⟨trivial, (order_ret' hD2 (by omega)).wf.mono fun y H3 q => ⟨y, rfl, q⟩, hp2, fun x H3 q => ?_⟩
      obtain ⟨⟨⟨q1, _, k3⟩, q2⟩, w3⟩ := q
      obtain ⟨n, rfl⟩ := q2 (by simp)
      rw [List.length_map] at q1 ⊢
      refine ⟨?_, ?_⟩
      · have := q1.aLen (P := P) et34.und
        rw [List.length_map] at this
        exact this
      · have hD3 := hD2.congr (H' := H3) fun m hm => k3.get m (by have := hm.2; have := k2.nx; omega) (fun h => h)
        exact Leads.at (doOh p.1 (.eslice n 0 (0 :: nodes).length 1) (0 :: nodes).length (0 : Nat)) (by kernel_rfl) (do2_loop M hD3 (pokK w2 hp2 k3) hsm q1 ⟨rfl, (k1.trans k2).trans k3⟩ _ 0 rfl (Nat.zero_le _))
end
end Go.Dm
