/- The engine and the contracts, part 11. No condition beyond the hypotheses of each theorem. -/
import Derived.Test.YtkcdnpbcbmcgkaaG08
import Derived.Test.YtkcdnpbcbmcgkaaG10
/- solve ends, and what it ends with, plain. No program. -/
set_option linter.unusedVariables false
namespace Go.Dm
open Go.Proofs.DomP

/-! ### Places and ways in -/
theorem placeF_spec : ∀ (o : List Int) (i : Nat) (f : Int → Option Int), o.Nodup → ∀ x, (x ∉ o → placeF o i f x = f x) ∧ ∀ j, o[j]? = some x → placeF o i f x = some ((i + j : Nat) : Int)
  | [], i, f, _, x => ⟨fun _ => rfl, fun j h => by simp at h⟩
  | y :: r, i, f, hn, x => by
    obtain ⟨hy, hr⟩ := List.nodup_cons.1 hn
    have ih := placeF_spec r (i + 1) (fun j => if j = y then some (i : Int) else f j) hr x
    refine ⟨fun hx => ?_, fun j hj => ?_⟩
    · have hx' : x ≠ y ∧ x ∉ r := by simpa using hx
      show placeF r (i + 1) _ x = f x
      rw [ih.1 hx'.2, if_neg hx'.1]
    · show placeF r (i + 1) _ x = _
      cases j with
      | zero =>
        simp at hj
        subst hj
        rw [ih.1 hy, if_pos rfl]
        simp
      | succ j =>
        rw [ih.2 j (by simpa using hj)]
        congr 1
        omega

theorem place_none {o : List Int} (hn : o.Nodup) {x : Int} : placeF o 0 (fun _ => none) x = none ↔ x ∉ o := by
  constructor
  · intro h hx
    obtain ⟨j, hj⟩ := List.getElem?_of_mem hx
    rw [(placeF_spec o 0 _ hn x).2 j hj] at h
    cases h
  · intro h
    exact (placeF_spec o 0 _ hn x).1 h

theorem place_some {o : List Int} (hn : o.Nodup) {x i : Int} : placeF o 0 (fun _ => none) x = some i ↔ 0 ≤ i ∧ o[i.toNat]? = some x := by
  constructor
  · intro h
    have hx : x ∈ o := by
      apply Classical.byContradiction
      intro c
      rw [(place_none hn).2 c] at h
      cases h
    obtain ⟨j, hj⟩ := List.getElem?_of_mem hx
    rw [(placeF_spec o 0 _ hn x).2 j hj] at h
    injection h with h
    subst h
    exact ⟨by omega, by simpa using hj⟩
  · rintro ⟨h0, h⟩
    rw [(placeF_spec o 0 _ hn x).2 _ h]
    congr 1
    omega

theorem predsIn_get (n : Int) : ∀ (l : List Int) (p : List (List Int)) (b : Nat) (x : Int), (∀ t ∈ l, 0 ≤ t ∧ t < (p.length : Int)) → (x ∈ (predsIn n l p).getD b [] ↔ x ∈ p.getD b [] ∨ (x = n ∧ (b : Int) ∈ l))
  | [], p, b, x, _ => by simp [predsIn]
  | t :: r, p, b, x, h => by
    obtain ⟨t0, t1⟩ := h t (by simp)
    rw [predsIn, predsIn_get n r _ b x (fun u hu => by simpa using h u (by simp [hu]))]
    have hg : (p.set t.toNat (p.getD t.toNat [] ++ [n])).getD b [] = if t.toNat = b then p.getD b [] ++ [n] else p.getD b [] := by
      rw [List.getD_eq_getElem?_getD, List.getElem?_set]
      by_cases c : t.toNat = b
      · subst c
        rw [if_pos rfl, if_pos (by omega), if_pos rfl]
        rfl
      · rw [if_neg c, if_neg c, List.getD_eq_getElem?_getD]
    rw [hg]
    by_cases c : t.toNat = b
    · have hb : (b : Int) = t := by omega
      rw [if_pos c, List.mem_append, List.mem_singleton, List.mem_cons, hb]
      constructor
      · rintro ((h | h) | ⟨h, _⟩)
        · exact .inl h
        · exact .inr ⟨h, .inl rfl⟩
        · exact .inr ⟨h, .inl rfl⟩
      · rintro (h | ⟨h, _⟩)
        · exact .inl (.inl h)
        · exact .inl (.inr h)
    · rw [if_neg c, List.mem_cons]
      have : ¬ (b : Int) = t := by omega
      simp [this]

theorem predsIn_len' (n : Int) : ∀ (l : List Int) (p : List (List Int)), (predsIn n l p).length = p.length
  | [], p => rfl
  | t :: r, p => by rw [predsIn, predsIn_len' n r]; simp

theorem predsAll_get {g : List (List Int)} (hg : Go.Proofs.DomP.Good g) : ∀ (o : List Int) (p : List (List Int)) (b : Nat) (x : Int), p.length = g.length → (x ∈ (predsAll g o p).getD b [] ↔ x ∈ p.getD b [] ∨ (x ∈ o ∧ (b : Int) ∈ g.getD x.toNat []))
  | [], p, b, x, _ => by simp [predsAll]
  | n :: r, p, b, x, hl => by
    rw [predsAll, predsAll_get hg r _ b x (by rw [predsIn_len', hl]), predsIn_get n _ p b x (fun t ht => by rw [hl]; exact good_at hg _ t ht), List.mem_cons]
    constructor
    · rintro ((h | ⟨h, h2⟩) | ⟨h, h2⟩)
      · exact .inl h
      · subst h; exact .inr ⟨.inl rfl, h2⟩
      · exact .inr ⟨.inr h, h2⟩
    · rintro (h | ⟨h | h, h2⟩)
      · exact .inl (.inl h)
      · subst h; exact .inl (.inr ⟨rfl, h2⟩)
      · exact .inr ⟨h, h2⟩

theorem preds_mem {g : List (List Int)} (hg : Go.Proofs.DomP.Good g) (o : List Int) {b : Int} (hb : 0 ≤ b) (x : Int) : x ∈ (predsAll g o (List.replicate g.length [])).getD b.toNat [] ↔ x ∈ o ∧ b ∈ g.getD x.toNat [] := by
  rw [predsAll_get hg o _ b.toNat x (by simp), show ((b.toNat : Nat) : Int) = b by omega]
  have : (List.replicate g.length ([] : List Int)).getD b.toNat [] = [] := by
    rw [List.getD_eq_getElem?_getD, List.getElem?_replicate]
    split <;> rfl
  rw [this]
  simp

/-! ### The setting -/
/-- An order of a graph's nodes that are come to, each but the first behind one that leads to it. -/
structure Ordr (g : List (List Int)) (nodes : List Int) (pl : Fn) (pss : List (List Int)) : Prop where
  plS : ∀ x, (pl x).isSome = true ↔ x ∈ (0 :: nodes)
  inj : ∀ x y i, pl x = some i → pl y = some i → x = y
  zero : pl 0 = some 0
  pos : ∀ x i, pl x = some i → 0 ≤ i
  pre : ∀ (i : Nat) (n : Int), nodes[i]? = some n → pl n = some ((i + 1 : Nat) : Int)
  parent : ∀ n ∈ nodes, ∃ p i j, p ∈ pss.getD n.toNat [] ∧ pl p = some i ∧ pl n = some j ∧ i < j
  preds : ∀ n ∈ nodes, ∀ p, p ∈ pss.getD n.toNat [] ↔ (p ∈ (0 :: nodes) ∧ n ∈ g.getD p.toNat [])
  closed : ∀ p ∈ (0 :: nodes), ∀ t ∈ g.getD p.toNat [], t ∈ (0 :: nodes)
  n0 : 0 ∉ nodes
  range : ∀ n ∈ (0 :: nodes), 0 ≤ n ∧ n < (g.length : Int)
  nodup : nodes.Nodup

def plc (pl : Fn) (x : Int) : Int := (pl x).getD 0

section
variable {g : List (List Int)} {nodes : List Int} {pl : Fn} {pss : List (List Int)}

theorem Ordr.at (O : Ordr g nodes pl pss) {x : Int} (h : x ∈ (0 :: nodes)) : pl x = some (plc pl x) := by
  obtain ⟨i, hi⟩ := Option.isSome_iff_exists.1 ((O.plS x).2 h)
  unfold plc
  rw [hi]
  rfl

/-- up stands on the order. -/
structure UpOk (nodes : List Int) (pl : Fn) (up : Fn) : Prop where
  tree : Tree (plc pl) up
  sub : ∀ n, (up n).isSome = true → n ∈ (0 :: nodes)

theorem UpOk.mk' (O : Ordr g nodes pl pss) {up : Fn} (root : up 0 = some 0) (sub : ∀ n, (up n).isSome = true → n ∈ (0 :: nodes)) (step : ∀ n u, up n = some u → n ≠ 0 → (up u).isSome = true ∧ plc pl u < plc pl n) : UpOk nodes pl up :=
  ⟨⟨root, by unfold plc; rw [O.zero]; rfl, fun n hn => O.pos n _ (O.at (sub n hn)), fun x y hx hy e => O.inj x y (plc pl x) (O.at (sub x hx)) (by rw [e]; exact O.at (sub y hy)), step⟩, sub⟩

theorem UpOk.first (O : Ordr g nodes pl pss) : UpOk nodes pl up0 := UpOk.mk' O rfl (fun n hn => by
    unfold up0 at hn
    by_cases c : n = 0
    · simp [c]
    · rw [if_neg c] at hn; cases hn) fun n u h h0 => by
    unfold up0 at h
    rw [if_neg h0] at h
    cases h

/-- Two go up until they meet. -/
theorem meetR_some (O : Ordr g nodes pl pss) {up : Fn} (U : UpOk nodes pl up) : ∀ (k : Nat) (a b : Int), (up a).isSome = true → (up b).isSome = true → plc pl a + plc pl b < (k : Int) →
    ∃ m, MeetR pl up a b m ∧ (up m).isSome = true ∧ On up a m ∧ On up b m ∧ ∀ x, On up a x → On up b x → On up m x
  | 0, a, b, ha, hb, h => by
    have := U.tree.nonneg a ha
    have := U.tree.nonneg b hb
    omega
  | k + 1, a, b, ha, hb, h => by
    have T := U.tree
    have pa := T.nonneg a ha
    have pb := T.nonneg b hb
    have qa := O.at (U.sub a ha)
    have qb := O.at (U.sub b hb)
    by_cases e : a = b
    · subst e
      exact ⟨a, .done qa, ha, .self a, .self a, fun _ h _ => h⟩
    · by_cases c : plc pl b < plc pl a
      · have a0 : a ≠ 0 := fun h0 => by
          rw [h0, T.zero] at c
          omega
        obtain ⟨u, hu⟩ := Option.isSome_iff_exists.1 ha
        obtain ⟨ku, lu⟩ := T.step a u hu a0
        obtain ⟨m, e1, km, o1, o2, o3⟩ := meetR_some O U k u b ku hb (by omega)
        refine ⟨m, .left e qa qb c hu e1, km, .next hu a0 o1, o2, fun x hx hy => o3 x ?_ hy⟩
        cases hx with
        | self => have := (hy.known T hb).2; omega
        | next h0 _ h2 =>
          rw [hu] at h0
          injection h0 with h0
          subst h0
          exact h2
      · by_cases c2 : plc pl a < plc pl b
        · have b0 : b ≠ 0 := fun h0 => by
            rw [h0, T.zero] at c2
            omega
          obtain ⟨u, hu⟩ := Option.isSome_iff_exists.1 hb
          obtain ⟨ku, lu⟩ := T.step b u hu b0
          obtain ⟨m, e1, km, o1, o2, o3⟩ := meetR_some O U k a u ha ku (by omega)
          refine ⟨m, .right e qa qb c2 hu e1, km, o1, .next hu b0 o2, fun x hx hy => o3 x hx ?_⟩
          cases hy with
          | self => have := (hx.known T ha).2; omega
          | next h0 _ h2 =>
            rw [hu] at h0
            injection h0 with h0
            subst h0
            exact h2
        · exact absurd (T.inj a b ha hb (by omega)) e

theorem known_ge (O : Ordr g nodes pl pss) {up : Fn} (U : UpOk nodes pl up) {x : Int} (h : (up x).isSome = true) : 0 ≤ x := (O.range x (U.sub x h)).1

/-- The nearest over those of a list that are known. -/
theorem bestR_some (O : Ordr g nodes pl pss) {up : Fn} (U : UpOk nodes pl up) : ∀ (l : List Int) (b : Int), (b < 0 ∨ (up b).isSome = true) →
    ∃ b', BestR pl up l b b' ∧ (b' < 0 ∨ (up b').isSome = true) ∧ ((∃ p ∈ l, (up p).isSome = true) ∨ ¬ b < 0 → (up b').isSome = true) ∧
      (¬ b < 0 → On up b b') ∧ (∀ p ∈ l, (up p).isSome = true → On up p b') ∧ (∀ x, (¬ b < 0 → On up b x) → (∀ p ∈ l, (up p).isSome = true → On up p x) → ¬ b' < 0 → On up b' x)
  | [], b, h => ⟨b, .nil, h, fun c => by
      rcases c with ⟨p, hp, _⟩ | c
      · simp at hp
      · exact h.resolve_left c, fun _ => .self b, by simp, fun x h1 _ h3 => h1 h3⟩
  | p :: r, b, h => by
    cases hp : up p with
    | none =>
      obtain ⟨b', e, k, s, o1, o2, o3⟩ := bestR_some O U r b h
      refine ⟨b', .skip hp e, k, fun c => s ?_, o1, fun q hq hk => ?_, fun x h1 h2 h3 => o3 x h1 (fun q hq => h2 q (by simp [hq])) h3⟩
      · rcases c with ⟨q, hq, hk⟩ | c
        · rcases List.mem_cons.1 hq with rfl | hq
          · rw [hp] at hk; cases hk
          · exact .inl ⟨q, hq, hk⟩
        · exact .inr c
      · rcases List.mem_cons.1 hq with rfl | hq
        · rw [hp] at hk; cases hk
        · exact o2 q hq hk
    | some q =>
      have kp : (up p).isSome = true := by rw [hp]; rfl
      have p0 := known_ge O U kp
      by_cases c : b < 0
      · obtain ⟨b', e, k, s, o1, o2, o3⟩ := bestR_some O U r p (.inr kp)
        refine ⟨b', .first hp c e, k, fun _ => s (.inr (by omega)), fun h => absurd c h, fun x hx hk => ?_, fun x h1 h2 h3 => o3 x (fun _ => h2 p (by simp) kp) (fun q hq => h2 q (by simp [hq])) h3⟩
        rcases List.mem_cons.1 hx with rfl | hx
        · exact o1 (by omega)
        · exact o2 x hx hk
      · have kb := h.resolve_left c
        obtain ⟨m, e1, km, m1, m2, m3⟩ := meetR_some O U (plc pl b + plc pl p + 1).toNat b p kb kp (by
          have := U.tree.nonneg b kb
          have := U.tree.nonneg p kp
          omega)
        have m0 := known_ge O U km
        obtain ⟨b', e, k, s, o1, o2, o3⟩ := bestR_some O U r m (.inr km)
        refine ⟨b', .meet hp c e1 e, k, fun _ => s (.inr (by omega)), fun _ => m1.trans (o1 (by omega)), fun x hx hk => ?_, fun x h1 h2 h3 => o3 x (fun _ => m3 x (h1 c) (h2 p (by simp) kp)) (fun q hq => h2 q (by simp [hq])) h3⟩
        rcases List.mem_cons.1 hx with rfl | hx
        · exact m2.trans (o1 (by omega))
        · exact o2 x hx hk

/-! ### Chains, where one of the links is changed -/
theorem _root_.Go.Proofs.DomP.On.cmp {up : Up} {n a c : Int} {place : Int → Int} (T : Tree place up) (hn : (up n).isSome = true) (h1 : On up n a) : On up n c → place c ≤ place a → On up a c := by
  induction h1 with
  | self n => exact fun h _ => h
  | @next n u a h0 h1 h2 ih =>
    intro h hp
    obtain ⟨ku, lu⟩ := T.step _ _ h0 h1
    cases h with
    | self =>
      have := (h2.known T ku).2
      omega
    | next g0 _ g2 =>
      rw [h0] at g0
      injection g0 with g0
      subst g0
      exact ih ku g2 hp

theorem _root_.Go.Proofs.DomP.On.upper {up : Up} {n b : Int} {m x : Int} {place : Int → Int} (T : Tree place up) (hm : (up m).isSome = true) (h : On up m x) (hx : place n ≤ place x) (hn : (up n).isSome = true ∨ m ≠ n ∧ up n = none) : On (upd up n b) m x := by
  induction h with
  | self m => exact .self m
  | @next m u a h0 h1 h2 ih =>
    obtain ⟨ku, lu⟩ := T.step _ _ h0 h1
    have := (h2.known T ku).2
    have hmn : m ≠ n := fun e => by subst e; omega
    refine .next (u := u) (by unfold upd; rw [if_neg hmn]; exact h0) h1 (ih ku hx ?_)
    rcases hn with hn | hn
    · exact .inl hn
    · refine .inr ⟨fun e => ?_, hn.2⟩
      subst e
      rw [hn.2] at ku
      cases ku

/-- A chain that does not come to n. -/
theorem _root_.Go.Proofs.DomP.On.same {up up' : Up} {m x : Int} {place : Int → Int} {k : Int} (T : Tree place up) (hm : (up m).isSome = true) (he : ∀ y, (up y).isSome = true → place y < k → up' y = up y) (h : On up m x) (hk : place m < k) : On up' m x := by
  induction h with
  | self m => exact .self m
  | @next m u a h0 h1 h2 ih =>
    obtain ⟨ku, lu⟩ := T.step _ _ h0 h1
    exact .next (u := u) (by rw [he m hm hk]; exact h0) h1 (ih ku (by omega))

theorem _root_.Go.Proofs.DomP.On.same' {up up' : Up} {m x : Int} {place : Int → Int} {k : Int} (T : Tree place up) (hm : (up m).isSome = true) (he : ∀ y, (up y).isSome = true → place y < k → up' y = up y) (h : On up' m x) (hk : place m < k) : On up m x := by
  induction h with
  | self m => exact .self m
  | @next m u a h0 h1 h2 ih =>
    have h0' : up m = some u := by rw [← he m hm hk]; exact h0
    obtain ⟨ku, lu⟩ := T.step _ _ h0' h1
    exact .next h0' h1 (ih ku (by omega))

theorem _root_.Go.Proofs.DomP.On.above {up up' : Up} {m x : Int} {place : Int → Int} (T : Tree place up) (hm : (up m).isSome = true) (h : On up m x) (he : ∀ y, (up y).isSome = true → place x < place y → up' y = up y) : On up' m x := by
  induction h with
  | self m => exact .self m
  | @next m u a h0 h1 h2 ih =>
    obtain ⟨ku, lu⟩ := T.step _ _ h0 h1
    have := (h2.known T ku).2
    exact .next (u := u) (by rw [he m hm (by omega)]; exact h0) h1 (ih ku he)

theorem _root_.Go.Proofs.DomP.On.shrink {up up' : Up} {m x : Int} (h : On up' m x) (hs : ∀ n u, up' n = some u → n ≠ 0 → On up n u) : On up m x := by
  induction h with
  | self m => exact .self m
  | next h0 h1 h2 ih => exact (hs _ _ h0 h1).trans ih
end
end Go.Dm
/- solve ends, and what it ends with, plain: the passes. No program. -/
set_option linter.unusedVariables false
namespace Go.Dm
open Go.Proofs.DomP

/-- A way from u to others, all behind u in the order. -/
inductive Way (g : List (List Int)) (pl : Fn) (u : Int) : Int → Prop
  | self : Way g pl u u
  | step {p t : Int} : Way g pl u p → t ∈ g.getD p.toNat [] → plc pl u < plc pl t → Way g pl u t
/-- One comes from the first to a node without x. -/
inductive Av (g : List (List Int)) (x : Int) : Int → Prop
  | root : x ≠ 0 → Av g x 0
  | step {p t : Int} : Av g x p → t ∈ g.getD p.toNat [] → t ≠ x → Av g x t
/-- Every way to n passes x. -/
def SDom (g : List (List Int)) (x n : Int) : Prop := x ≠ n ∧ ¬ Av g x n

section
variable {g : List (List Int)} {nodes : List Int} {pl : Fn} {pss : List (List Int)}

theorem Way.trans {a u m : Int} (h1 : Way g pl a u) (hp : plc pl a ≤ plc pl u) (h2 : Way g pl u m) : Way g pl a m := by
  induction h2 with
  | self => exact h1
  | step _ h3 h4 ih => exact .step ih h3 (by omega)

theorem Way.av {u m x : Int} (h : Way g pl u m) (hx : plc pl x < plc pl u) (ha : Av g x u) : Av g x m := by
  induction h with
  | self => exact ha
  | step _ h3 h4 ih => exact .step ih h3 fun e => by subst e; omega

/-- Each link is a way, and none is left out that must be passed. -/
structure JI (g : List (List Int)) (pl : Fn) (up : Fn) : Prop where
  J : ∀ n u, up n = some u → n ≠ 0 → Way g pl u n
  I : ∀ n u x, up n = some u → n ≠ 0 → SDom g x n → On up u x

theorem _root_.Go.Proofs.DomP.On.way {up : Fn} {m a : Int} (T : Tree (plc pl) up) (hJ : ∀ n u, up n = some u → n ≠ 0 → Way g pl u n) (hm : (up m).isSome = true) (h : On up m a) : Way g pl a m := by
  induction h with
  | self m => exact .self
  | @next m u a h0 h1 h2 ih =>
    obtain ⟨ku, lu⟩ := T.step _ _ h0 h1
    exact (ih ku).trans (h2.known T ku).2 (hJ _ _ h0 h1)

/-- What is taken for a node. -/
structure Took (pl : Fn) (pss : List (List Int)) (up : Fn) (n b : Int) : Prop where
  known : (up b).isSome = true
  less : plc pl b < plc pl n
  on : ∀ p ∈ pss.getD n.toNat [], (up p).isSome = true → On up p b
  best : ∀ x, (∀ p ∈ pss.getD n.toNat [], (up p).isSome = true → On up p x) → On up b x
  some : ∃ p ∈ pss.getD n.toNat [], (up p).isSome = true

theorem Took.mk' (O : Ordr g nodes pl pss) {up : Fn} (U : UpOk nodes pl up) {n p0 : Int} (hp : p0 ∈ pss.getD n.toNat []) (hk : (up p0).isSome = true) (hl : plc pl p0 < plc pl n) :
    ∃ b, BestR pl up (pss.getD n.toNat []) (-1) b ∧ Took pl pss up n b := by
  obtain ⟨b, e, k, s, o1, o2, o3⟩ := bestR_some O U (pss.getD n.toNat []) (-1) (.inl (by omega))
  have kb := s (.inl ⟨p0, hp, hk⟩)
  refine ⟨b, e, kb, ?_, o2, fun x hx => o3 x (fun h => absurd (by omega) h) hx (by have := known_ge O U kb; omega), p0, hp, hk⟩
  have := ((o2 p0 hp hk).known U.tree hk).2
  omega

theorem grow (O : Ordr g nodes pl pss) {up : Fn} (U : UpOk nodes pl up) (h : JI g pl up) {n b : Int} (hn : n ∈ nodes) (hb : Took pl pss up n b) : UpOk nodes pl (upd up n b) ∧ JI g pl (upd up n b) := by
  have T := U.tree
  have n0 : n ≠ 0 := fun e => O.n0 (e ▸ hn)
  have hbn : b ≠ n := fun e => by have := hb.less; rw [e] at this; omega
  have hsome : ∀ m, (up m).isSome = true → (upd up n b m).isSome = true := fun m hm => by
    unfold upd
    split
    · rfl
    · exact hm
  have hmem : n ∈ (0 :: nodes) := by simp [hn]
  have U' : UpOk nodes pl (upd up n b) := UpOk.mk' O (by unfold upd; rw [if_neg (fun e => n0 e.symm)]; exact T.root) (fun m hm => by
      unfold upd at hm
      by_cases c : m = n
      · rw [c]; exact hmem
      · rw [if_neg c] at hm; exact U.sub m hm) fun m u hm h0 => by
      by_cases c : m = n
      · unfold upd at hm
        rw [if_pos c] at hm
        injection hm with hm
        subst hm
        subst c
        exact ⟨hsome _ hb.known, hb.less⟩
      · have hm' := hm
        unfold upd at hm'
        rw [if_neg c] at hm'
        obtain ⟨k, l⟩ := T.step m u hm' h0
        exact ⟨hsome _ k, l⟩
  have below : ∀ m x, (up m).isSome = true → plc pl m < plc pl n → On up m x → On (upd up n b) m x := fun m x hm hl ho =>
    ho.same T hm (k := plc pl n) (fun y _ hy => by unfold upd; rw [if_neg (fun e => by subst e; omega)]) hl
  refine ⟨U', ⟨fun m u hm h0 => ?_, fun m u x hm h0 hx => ?_⟩⟩
  · by_cases c : m = n
    · unfold upd at hm
      rw [if_pos c] at hm
      injection hm with hm
      subst hm
      subst c
      obtain ⟨p, hp, hk⟩ := hb.some
      exact .step ((hb.on p hp hk).way T h.J hk) ((O.preds _ hn p).1 hp).2 hb.less
    · unfold upd at hm
      rw [if_neg c] at hm
      exact h.J m u hm h0
  · have key : SDom g x n → On (upd up n b) b x := fun hx => by
      refine below b x hb.known hb.less (hb.best x fun p hp hk => ?_)
      by_cases c : x = p
      · subst c; exact .self x
      · have hpg := ((O.preds _ hn p).1 hp).2
        have ha : ¬ Av g x p := fun ha => hx.2 (.step ha hpg fun e => hx.1 e.symm)
        have hp0 : p ≠ 0 := fun e => by
          subst e
          exact ha (.root c)
        obtain ⟨q, hq⟩ := Option.isSome_iff_exists.1 hk
        exact .next hq hp0 (h.I p q x hq hp0 ⟨c, ha⟩)
    by_cases c : m = n
    · unfold upd at hm
      rw [if_pos c] at hm
      injection hm with hm
      subst hm
      subst c
      exact key hx
    · have hm' := hm
      unfold upd at hm'
      rw [if_neg c] at hm'
      have hou := h.I m u x hm' h0 hx
      obtain ⟨ku, lu⟩ := T.step m u hm' h0
      have kx := (hou.known T ku)
      by_cases hcx : plc pl n ≤ plc pl x
      · cases hn' : up n with
        | some w => exact hou.upper T ku hcx (.inl (by rw [hn']; rfl))
        | none => exact hou.upper T ku hcx (.inr ⟨fun e => (by subst e; rw [hn'] at ku; cases ku), hn'⟩)
      · -- x stands above n
        have hon : ∀ w y, On up w y → (up w).isSome = true → (On up w n ∧ (up n).isSome = true) ∨ On (upd up n b) w y := fun w y ho => by
          induction ho with
          | self w => exact fun _ => .inr (.self w)
          | @next w v a g0 g1 g2 ih =>
            intro kw
            by_cases cw : w = n
            · subst cw; exact .inl ⟨.self w, kw⟩
            · rcases ih (T.step _ _ g0 g1).1 with ⟨i1, i2⟩ | i
              · exact .inl ⟨.next g0 g1 i1, i2⟩
              · exact .inr (.next (u := v) (by unfold upd; rw [if_neg cw]; exact g0) g1 i)
        rcases hon u x hou ku with ⟨hun, kn⟩ | hh
        · have hmn : On up m n := .next hm' h0 hun
          have km : (up m).isSome = true := by rw [hm']; rfl
          have hw := hmn.way T h.J km
          have hxn : SDom g x n := ⟨fun e => by subst e; omega, fun ha => hx.2 (hw.av (by omega) ha)⟩
          have h1 : On (upd up n b) u n := hun.upper T ku (Int.le_refl _) (.inl kn)
          exact h1.trans (.next (u := b) (by unfold upd; rw [if_pos rfl]) n0 (key hxn))
        · exact hh

/-! ### The first pass -/
structure First (g : List (List Int)) (nodes : List Int) (pl : Fn) (pss : List (List Int)) (i : Nat) (up : Fn) : Prop where
  ok : UpOk nodes pl up
  ji : JI g pl up
  known : ∀ n, (up n).isSome = true ↔ n = 0 ∨ n ∈ nodes.take i
  F : ∀ n ∈ nodes.take i, ∀ u, up n = some u → ∀ p ∈ pss.getD n.toNat [], plc pl p < plc pl n → On up p u
  M : ∀ n ∈ nodes.take i, ∀ u, up n = some u → ∀ v, (∀ p ∈ pss.getD n.toNat [], plc pl p < plc pl n → On up p v) → plc pl v ≤ plc pl u

theorem Ordr.plc_at (O : Ordr g nodes pl pss) {i : Nat} {n : Int} (h : nodes[i]? = some n) : plc pl n = ((i + 1 : Nat) : Int) := by
  unfold plc
  rw [O.pre i n h]
  rfl

theorem Ordr.before (O : Ordr g nodes pl pss) {i : Nat} {n p : Int} (h : nodes[i]? = some n) (hp : p ∈ (0 :: nodes)) : plc pl p < plc pl n ↔ (p = 0 ∨ p ∈ nodes.take i) := by
  rw [O.plc_at h]
  rcases List.mem_cons.1 hp with rfl | hp
  · have : plc pl 0 = 0 := by unfold plc; rw [O.zero]; rfl
    rw [this]
    exact ⟨fun _ => .inl rfl, fun _ => by omega⟩
  · obtain ⟨j, hj⟩ := List.getElem?_of_mem hp
    rw [O.plc_at hj]
    have hp0 : p ≠ 0 := fun e => O.n0 (e ▸ hp)
    constructor
    · intro hlt
      refine .inr (List.mem_iff_getElem?.2 ⟨j, ?_⟩)
      rw [List.getElem?_take, if_pos (by omega)]
      exact hj
    · rintro (h' | h')
      · exact absurd h' hp0
      · obtain ⟨k, hk⟩ := List.getElem?_of_mem h'
        rw [List.getElem?_take] at hk
        split at hk
        · have e1 := O.pre k p hk
          rw [O.pre j p hj] at e1
          injection e1 with e1
          omega
        · cases hk

theorem Ordr.fwd (O : Ordr g nodes pl pss) {n : Int} (hn : n ∈ nodes) : ∃ p, p ∈ pss.getD n.toNat [] ∧ plc pl p < plc pl n ∧ p ∈ (0 :: nodes) := by
  obtain ⟨p, i, j, h1, h2, h3, h4⟩ := O.parent n hn
  exact ⟨p, h1, by unfold plc; rw [h2, h3]; exact h4, ((O.preds n hn p).1 h1).1⟩

theorem First.start (O : Ordr g nodes pl pss) : First g nodes pl pss 0 up0 where
  ok := UpOk.first O
  ji := ⟨fun n u h h0 => (by unfold up0 at h; rw [if_neg h0] at h; cases h), fun n u x h h0 => (by unfold up0 at h; rw [if_neg h0] at h; cases h)⟩
  known n := by
    unfold up0
    by_cases c : n = 0
    · simp [c]
    · simp [c]
  F n hn := by simp at hn
  M n hn := by simp at hn

theorem mem_take_succ {l : List Int} {i : Nat} {n x : Int} (h : l[i]? = some n) : x ∈ l.take (i + 1) ↔ x ∈ l.take i ∨ x = n := by
  rw [List.take_add_one, h]
  simp

theorem not_mem_take {l : List Int} (hd : l.Nodup) {i : Nat} {n : Int} (h : l[i]? = some n) : n ∉ l.take i := fun hm => by
  obtain ⟨k, hk⟩ := List.getElem?_of_mem hm
  rw [List.getElem?_take] at hk
  split at hk
  · have h1 := (List.getElem?_eq_some_iff.1 hk)
    have h2 := (List.getElem?_eq_some_iff.1 h)
    obtain ⟨l1, e1⟩ := h1
    obtain ⟨l2, e2⟩ := h2
    have := (List.getElem_inj (h₀ := l1) (h₁ := l2) hd).1 (by rw [e1, e2])
    omega
  · cases hk

theorem First.step (O : Ordr g nodes pl pss) {i : Nat} {up : Fn} (h : First g nodes pl pss i up) {n : Int} (hi : nodes[i]? = some n) :
    ∃ b, BestR pl up (pss.getD n.toNat []) (-1) b ∧ up n = none ∧ First g nodes pl pss (i + 1) (upd up n b) := by
  have hn := List.mem_of_getElem? hi
  have hnk : up n = none := by
    cases hq : up n with
    | none => rfl
    | some w =>
      rcases (h.known n).1 (by rw [hq]; rfl) with e | e
      · exact absurd (e ▸ hn) O.n0
      · exact absurd e (not_mem_take O.nodup hi)
  obtain ⟨p0, hp0, hl0, hm0⟩ := O.fwd hn
  have hk0 : (up p0).isSome = true := (h.known p0).2 ((O.before hi hm0).1 hl0)
  obtain ⟨b, hb, tk⟩ := Took.mk' O h.ok hp0 hk0 hl0
  have T := h.ok.tree
  obtain ⟨U', JI'⟩ := grow O h.ok h.ji hn tk
  have hsame : ∀ y, (up y).isSome = true → upd up n b y = up y := fun y hy => by
    unfold upd
    rw [if_neg (fun e => by subst e; rw [hnk] at hy; cases hy)]
  have to : ∀ m x, (up m).isSome = true → (On up m x ↔ On (upd up n b) m x) := fun m x hm =>
    ⟨fun ho => ho.same T hm (k := plc pl m + 1) (fun y hy _ => hsame y hy) (by omega), fun ho => ho.same' T hm (k := plc pl m + 1) (fun y hy _ => hsame y hy) (by omega)⟩
  have pk : ∀ m j, nodes[j]? = some m → j ≤ i → ∀ p ∈ pss.getD m.toNat [], plc pl p < plc pl m → (up p).isSome = true := fun m j hj hji p hp hlt => by
    have hmem := ((O.preds m (List.mem_of_getElem? hj) p).1 hp).1
    refine (h.known p).2 ?_
    rcases (O.before hj hmem).1 hlt with e | e
    · exact .inl e
    · exact .inr ((List.take_subset_take_left _ hji) e)
  have idx : ∀ m ∈ nodes.take i, ∃ j, nodes[j]? = some m ∧ j ≤ i := fun m hm => by
    obtain ⟨k, hk⟩ := List.getElem?_of_mem hm
    rw [List.getElem?_take] at hk
    split at hk
    · exact ⟨k, hk, by omega⟩
    · cases hk
  refine ⟨b, hb, hnk, U', JI', fun m => ?_, fun m hm u hu p hp hlt => ?_, fun m hm u hu v hv => ?_⟩
  · rw [mem_take_succ hi]
    unfold upd
    by_cases c : m = n
    · simp [c]
    · rw [if_neg c, h.known m]
      simp [c]
  · rcases (mem_take_succ hi).1 hm with hm | rfl
    · obtain ⟨j, hj, hji⟩ := idx m hm
      have hkm := (h.known m).2 (.inr hm)
      rw [hsame m hkm] at hu
      exact (to p u (pk m j hj hji p hp hlt)).1 (h.F m hm u hu p hp hlt)
    · unfold upd at hu
      rw [if_pos rfl] at hu
      injection hu with hu
      subst hu
      have hk := pk m i hi (Nat.le_refl _) p hp hlt
      exact (to p b hk).1 (tk.on p hp hk)
  · rcases (mem_take_succ hi).1 hm with hm | rfl
    · obtain ⟨j, hj, hji⟩ := idx m hm
      have hkm := (h.known m).2 (.inr hm)
      rw [hsame m hkm] at hu
      exact h.M m hm u hu v fun p hp hlt => (to p v (pk m j hj hji p hp hlt)).2 (hv p hp hlt)
    · unfold upd at hu
      rw [if_pos rfl] at hu
      injection hu with hu
      subst hu
      refine ((tk.best v fun p hp hk => ?_).known T tk.known).2
      have hmem := ((O.preds m hn p).1 hp).1
      have hlt : plc pl p < plc pl m := (O.before hi hmem).2 ((h.known p).1 hk)
      exact (to p v hk).2 (hv p hp hlt)

theorem first_pass (O : Ordr g nodes pl pss) : ∀ (r : List Int) (i : Nat) (up : Fn) (m : Bool), nodes.drop i = r → First g nodes pl pss i up → ∃ up' m', PassR pl pss r up m up' m' ∧ First g nodes pl pss (i + r.length) up' ∧ (r ≠ [] ∨ m = true → m' = true)
  | [], i, up, m, hr, h => ⟨up, m, .nil, by simpa using h, fun c => c.resolve_left (by simp)⟩
  | n :: r, i, up, m, hr, h => by
    have hi : nodes[i]? = some n := by
      have := congrArg (fun l => l[0]?) hr
      simpa using this
    obtain ⟨b, hb, hn, h'⟩ := h.step O hi
    obtain ⟨up', m', hp, hf, hm⟩ := first_pass O r (i + 1) (upd up n b) true (by
      have := congrArg (fun l => l.drop 1) hr
      simpa [Nat.add_comm] using this) h'
    exact ⟨up', m', .cons hb (.new hn) hp, by rw [List.length_cons, ← Nat.add_assoc, Nat.add_right_comm]; exact hf, fun _ => hm (.inr rfl)⟩

/-! ### The other passes -/
structure Full (g : List (List Int)) (nodes : List Int) (pl : Fn) (pss : List (List Int)) (up : Fn) : Prop where
  ok : UpOk nodes pl up
  ji : JI g pl up
  all : ∀ n ∈ (0 :: nodes), (up n).isSome = true
  F : ∀ n ∈ nodes, ∀ u, up n = some u → ∀ p ∈ pss.getD n.toNat [], plc pl p < plc pl n → On up p u
  M : ∀ n ∈ nodes, ∀ u, up n = some u → ∀ v, (∀ p ∈ pss.getD n.toNat [], On up p v) → plc pl v ≤ plc pl u

theorem First.full {up : Fn} (h : First g nodes pl pss nodes.length up) : Full g nodes pl pss up where
  ok := h.ok
  ji := h.ji
  all n hn := (h.known n).2 (by simpa using hn)
  F n hn := h.F n (by simpa using hn)
  M n hn u hu v hv := h.M n (by simpa using hn) u hu v fun p hp _ => hv p hp

def ms (nodes : List Int) (pl : Fn) (up : Fn) : Nat := (nodes.map fun n => (plc pl ((up n).getD 0)).toNat).sum

theorem sum_le {f f' : Int → Nat} : ∀ (l : List Int), (∀ x ∈ l, f' x ≤ f x) → (l.map f').sum ≤ (l.map f).sum
  | [], _ => Nat.le_refl _
  | x :: r, h => by
    have h1 := h x (by simp)
    have h2 := sum_le r fun y hy => h y (by simp [hy])
    simp only [List.map_cons, List.sum_cons]
    omega

theorem sum_lt {f f' : Int → Nat} : ∀ (l : List Int), (∀ x ∈ l, f' x ≤ f x) → (∃ x ∈ l, f' x < f x) → (l.map f').sum < (l.map f).sum
  | [], _, ⟨x, hx, _⟩ => by simp at hx
  | x :: r, h, ⟨y, hy, hlt⟩ => by
    have h1 := h x (by simp)
    have h2 := sum_le r fun y hy => h y (by simp [hy])
    simp only [List.map_cons, List.sum_cons]
    rcases List.mem_cons.1 hy with rfl | hy
    · omega
    · have := sum_lt r (fun y hy => h y (by simp [hy])) ⟨y, hy, hlt⟩
      omega

structure Mid (g : List (List Int)) (nodes : List Int) (pl : Fn) (pss : List (List Int)) (U V : Fn) (i : Nat) (m : Bool) : Prop where
  ok : UpOk nodes pl V
  ji : JI g pl V
  all : ∀ n ∈ (0 :: nodes), (V n).isSome = true
  S : ∀ n u, V n = some u → n ≠ 0 → On U n u
  R : ∀ p w v, (U p).isSome = true → On U p w → On V p v → plc pl v ≤ plc pl w → On V w v
  same : ∀ j n, nodes[j]? = some n → i ≤ j → V n = U n
  F : ∀ n ∈ nodes.take i, ∀ u, V n = some u → ∀ p ∈ pss.getD n.toNat [], plc pl p < plc pl n → On V p u
  M : ∀ n ∈ nodes.take i, ∀ u, V n = some u → ∀ v, (∀ p ∈ pss.getD n.toNat [], On V p v) → plc pl v ≤ plc pl u
  le : ∀ n ∈ nodes, (plc pl ((V n).getD 0)).toNat ≤ (plc pl ((U n).getD 0)).toNat
  lt : m = true → ∃ n ∈ nodes, (plc pl ((V n).getD 0)).toNat < (plc pl ((U n).getD 0)).toNat
  still : m = false → V = U ∧ ∀ n ∈ nodes.take i, ∀ u, U n = some u → ∀ p ∈ pss.getD n.toNat [], On U p u

theorem Mid.start {U : Fn} (h : Full g nodes pl pss U) : Mid g nodes pl pss U U 0 false where
  ok := h.ok
  ji := h.ji
  all := h.all
  S n u h0 h1 := .next h0 h1 (.self u)
  R p w v hk h1 h2 h3 := h1.cmp h.ok.tree hk h2 h3
  same _ _ _ _ := rfl
  F n hn := by simp at hn
  M n hn := by simp at hn
  le n _ := Nat.le_refl _
  lt c := by cases c
  still _ := ⟨rfl, fun n hn => by simp at hn⟩

theorem Mid.step (O : Ordr g nodes pl pss) {U V : Fn} (hU : Full g nodes pl pss U) {i : Nat} {m : Bool} (h : Mid g nodes pl pss U V i m) {n : Int} (hi : nodes[i]? = some n) :
    ∃ b V' m', BestR pl V (pss.getD n.toNat []) (-1) b ∧ StepN V n b m V' m' ∧ Mid g nodes pl pss U V' (i + 1) m' := by
  have hn := List.mem_of_getElem? hi
  have n0 : n ≠ 0 := fun e => O.n0 (e ▸ hn)
  obtain ⟨p0, hp0, hl0, hm0⟩ := O.fwd hn
  have T := h.ok.tree
  have TU := hU.ok.tree
  have pmem : ∀ k ∈ nodes, ∀ p ∈ pss.getD k.toNat [], p ∈ (0 :: nodes) := fun k hk p hp => ((O.preds k hk p).1 hp).1
  obtain ⟨b, hb, tk⟩ := Took.mk' O h.ok hp0 (h.all p0 hm0) hl0
  obtain ⟨u, hu⟩ := Option.isSome_iff_exists.1 (h.all n (by simp [hn]))
  have huU : U n = some u := by rw [← h.same i n hi (Nat.le_refl _)]; exact hu
  have bn : plc pl b < plc pl n := tk.less
  by_cases c : u = b
  · subst c
    refine ⟨u, V, m, hb, .same hu, h.ok, h.ji, h.all, h.S, h.R, fun j k hj hij => h.same j k hj (by omega), fun k hk w hw p hp hlt => ?_, fun k hk w hw v hv => ?_, h.le, h.lt, fun hm => ⟨(h.still hm).1, fun k hk w hw p hp => ?_⟩⟩
    · rcases (mem_take_succ hi).1 hk with hk | rfl
      · exact h.F k hk w hw p hp hlt
      · rw [hu] at hw
        injection hw with hw
        subst hw
        exact tk.on p hp (h.all p (pmem _ hn p hp))
    · rcases (mem_take_succ hi).1 hk with hk | rfl
      · exact h.M k hk w hw v hv
      · rw [hu] at hw
        injection hw with hw
        subst hw
        exact ((tk.best v fun p hp _ => hv p hp).known T tk.known).2
    · rcases (mem_take_succ hi).1 hk with hk | rfl
      · exact (h.still hm).2 k hk w hw p hp
      · have e := (h.still hm).1
        rw [huU] at hw
        injection hw with hw
        subst hw
        rw [← e]
        exact tk.on p hp (h.all p (pmem _ hn p hp))
  · obtain ⟨U', JI'⟩ := grow O h.ok h.ji hn tk
    -- the chain is shorter
    have hbu : plc pl b ≤ plc pl u := hU.M n hn u huU b fun p hp => (tk.on p hp (h.all p (pmem _ hn p hp))).shrink h.S
    have kp0 := hU.all p0 hm0
    have hub : On V u b := h.R p0 u b kp0 (hU.F n hn u huU p0 hp0 hl0) (tk.on p0 hp0 (h.all p0 hm0)) hbu
    obtain ⟨kuV, luV⟩ := T.step n u hu n0
    have hlt : plc pl b < plc pl u := by
      rcases Int.lt_or_le (plc pl b) (plc pl u) with h' | h'
      · exact h'
      · exact absurd (T.inj u b kuV tk.known (by omega)) c
    have S1 : ∀ k w, upd V n b k = some w → k ≠ 0 → On V k w := fun k w hk k0 => by
      unfold upd at hk
      by_cases ck : k = n
      · rw [if_pos ck] at hk
        injection hk with hk
        subst hk
        subst ck
        exact .next hu k0 hub
      · rw [if_neg ck] at hk
        exact .next hk k0 (.self w)
    have below : ∀ k x, (V k).isSome = true → plc pl k < plc pl n → (On V k x ↔ On (upd V n b) k x) := fun k x hk hl =>
      ⟨fun ho => ho.same T hk (k := plc pl n) (fun y _ hy => by unfold upd; rw [if_neg (fun e => by subst e; omega)]) hl,
       fun ho => ho.same' T hk (k := plc pl n) (fun y _ hy => by unfold upd; rw [if_neg (fun e => by subst e; omega)]) hl⟩
    have other : ∀ k, k ≠ n → upd V n b k = V k := fun k hk => by unfold upd; rw [if_neg hk]
    have at_ : upd V n b n = some b := by unfold upd; rw [if_pos rfl]
    have allU : ∀ k, (U k).isSome = true → (V k).isSome = true := fun k hk => h.all k (hU.ok.sub k hk)
    refine ⟨b, upd V n b, true, hb, .diff hu c, U', JI', fun k hk => ?_, fun k w hk k0 => (S1 k w hk k0).shrink h.S, fun p w v hk hpw hpv hvw => ?_, fun j k hj hij => ?_, fun k hk w hw p hp hl => ?_, fun k hk w hw v hv => ?_, fun k hk => ?_, fun _ => ⟨n, hn, ?_⟩, fun c => by cases c⟩
    · by_cases ck : k = n
      · rw [ck, at_]; rfl
      · rw [other k ck]; exact h.all k hk
    · have hpv1 : On V p v := hpv.shrink S1
      have hwv := h.R p w v hk hpw hpv1 hvw
      have kwU := (hpw.known TU hk).1
      have kw := allU w kwU
      by_cases cv : plc pl n ≤ plc pl v
      · exact hwv.upper T kw cv (.inl (by rw [hu]; rfl))
      · have hon : ∀ a y, On V a y → (V a).isSome = true → On V a n ∨ On (upd V n b) a y := fun a y ho => by
          induction ho with
          | self a => exact fun _ => .inr (.self a)
          | @next a d e g0 g1 g2 ih =>
            intro ka
            by_cases ca : a = n
            · subst ca; exact .inl (.self a)
            · rcases ih (T.step _ _ g0 g1).1 with i1 | i
              · exact .inl (.next g0 g1 i1)
              · exact .inr (.next (u := d) (by rw [other a ca]; exact g0) g1 i)
        rcases hon w v hwv kw with hwn | hh
        · -- both come to n
          have hpnU : On U p n := hpw.trans (hwn.shrink h.S)
          have hpnV : On V p n := hpnU.above TU hk fun y hy hly => by
            have hym := hU.ok.sub y hy
            rcases List.mem_cons.1 hym with rfl | hym
            · have : plc pl 0 = 0 := TU.zero
              have := TU.nonneg n (by rw [huU]; rfl)
              omega
            · obtain ⟨j, hj⟩ := List.getElem?_of_mem hym
              rw [O.plc_at hj, O.plc_at hi] at hly
              exact h.same j y hj (by omega)
          have kp := allU p hk
          have h1 : On (upd V n b) p n := hpnV.upper T kp (Int.le_refl _) (.inl (by rw [hu]; rfl))
          have h2 : On (upd V n b) n v := h1.cmp U'.tree (by
            by_cases cp : p = n
            · rw [cp, at_]; rfl
            · rw [other p cp]; exact kp) hpv (by omega)
          exact (hwn.upper T kw (Int.le_refl _) (.inl (by rw [hu]; rfl)) : On (upd V n b) w n).trans h2
        · exact hh
    · have hkn : k ≠ n := fun e => by
        subst e
        have := O.pre j k hj
        have := O.pre i k hi
        have : (j + 1 : Nat) = (i + 1 : Nat) := by
          have e1 := O.pre j k hj
          rw [O.pre i k hi] at e1
          injection e1 with e1
          omega
        omega
      rw [other k hkn]
      exact h.same j k hj (by omega)
    · rcases (mem_take_succ hi).1 hk with hk | rfl
      · have hkn : k ≠ n := fun e => not_mem_take O.nodup hi (e ▸ hk)
        rw [other k hkn] at hw
        have hkm := List.mem_of_mem_take hk
        have hkl : plc pl k < plc pl n := (O.before hi (by simp [hkm])).2 (.inr hk)
        exact (below p w (h.all p (pmem _ hkm p hp)) (by omega)).1 (h.F k hk w hw p hp hl)
      · rw [at_] at hw
        injection hw with hw
        subst hw
        exact (below p b (h.all p (pmem _ hn p hp)) hl).1 (tk.on p hp (h.all p (pmem _ hn p hp)))
    · rcases (mem_take_succ hi).1 hk with hk | rfl
      · have hkn : k ≠ n := fun e => not_mem_take O.nodup hi (e ▸ hk)
        rw [other k hkn] at hw
        exact h.M k hk w hw v fun p hp => (hv p hp).shrink S1
      · rw [at_] at hw
        injection hw with hw
        subst hw
        exact ((tk.best v fun p hp _ => (hv p hp).shrink S1).known T tk.known).2
    · by_cases ck : k = n
      · subst ck
        rw [at_, huU]
        simp only [Option.getD_some]
        omega
      · rw [other k ck]
        exact h.le k hk
    · rw [at_, huU]
      simp only [Option.getD_some]
      have := T.nonneg b tk.known
      omega

theorem next_pass (O : Ordr g nodes pl pss) {U : Fn} (hU : Full g nodes pl pss U) : ∀ (r : List Int) (i : Nat) (V : Fn) (m : Bool), nodes.drop i = r → Mid g nodes pl pss U V i m → ∃ V' m', PassR pl pss r V m V' m' ∧ Mid g nodes pl pss U V' (i + r.length) m'
  | [], i, V, m, hr, h => ⟨V, m, .nil, by simpa using h⟩
  | n :: r, i, V, m, hr, h => by
    have hi : nodes[i]? = some n := by
      have := congrArg (fun l => l[0]?) hr
      simpa using this
    obtain ⟨b, V1, m1, hb, hs, h1⟩ := h.step O hU hi
    obtain ⟨V', m', hp, hf⟩ := next_pass O hU r (i + 1) V1 m1 (by
      have := congrArg (fun l => l.drop 1) hr
      simpa [Nat.add_comm] using this) h1
    exact ⟨V', m', .cons hb hs hp, by rw [List.length_cons, ← Nat.add_assoc, Nat.add_right_comm]; exact hf⟩

theorem Mid.full {U V : Fn} {m : Bool} (h : Mid g nodes pl pss U V nodes.length m) : Full g nodes pl pss V where
  ok := h.ok
  ji := h.ji
  all := h.all
  F n hn := h.F n (by simpa using hn)
  M n hn := h.M n (by simpa using hn)

/-- What solve ends with. -/
structure Done (g : List (List Int)) (nodes : List Int) (pl : Fn) (pss : List (List Int)) (up : Fn) : Prop where
  full : Full g nodes pl pss up
  fix : ∀ n ∈ nodes, ∀ u, up n = some u → ∀ p ∈ pss.getD n.toNat [], On up p u

theorem solve_full (O : Ordr g nodes pl pss) : ∀ (k : Nat) (U : Fn), ms nodes pl U ≤ k → Full g nodes pl pss U → ∃ up, SolveR pl pss nodes U up ∧ Done g nodes pl pss up := by
  intro k
  induction k with
  | zero =>
    intro U hk hU
    obtain ⟨V, m, hp, hm⟩ := next_pass O hU nodes 0 U false rfl (Mid.start hU)
    rw [Nat.zero_add] at hm
    cases m with
    | true =>
      have := sum_lt nodes (fun x hx => hm.le x hx) (hm.lt rfl)
      unfold ms at hk
      omega
    | false => exact ⟨V, .last hp, hm.full, by rw [(hm.still rfl).1]; exact fun n hn => (hm.still rfl).2 n (by simpa using hn)⟩
  | succ k ih =>
    intro U hk hU
    obtain ⟨V, m, hp, hm⟩ := next_pass O hU nodes 0 U false rfl (Mid.start hU)
    rw [Nat.zero_add] at hm
    cases m with
    | true =>
      have hlt := sum_lt nodes (fun x hx => hm.le x hx) (hm.lt rfl)
      obtain ⟨up, hs, hd⟩ := ih V (by unfold ms at hk ⊢; omega) hm.full
      exact ⟨up, .more hp hs, hd⟩
    | false => exact ⟨V, .last hp, hm.full, by rw [(hm.still rfl).1]; exact fun n hn => (hm.still rfl).2 n (by simpa using hn)⟩

/-- SOLVE ENDS. -/
theorem solve_some (O : Ordr g nodes pl pss) : ∃ up, SolveR pl pss nodes up0 up ∧ Done g nodes pl pss up := by
  obtain ⟨U, m, hp, hf, hm⟩ := first_pass O nodes 0 up0 false rfl (First.start O)
  rw [Nat.zero_add] at hf
  cases m with
  | true =>
    obtain ⟨up, hs, hd⟩ := solve_full O (ms nodes pl U) U (Nat.le_refl _) hf.full
    exact ⟨up, .more hp hs, hd⟩
  | false =>
    have : nodes = [] := by
      apply Classical.byContradiction
      intro c
      cases hm (.inl c)
    subst this
    exact ⟨U, .last hp, hf.full, by simp⟩
end
end Go.Dm
/- What one comes to without a node, plain. No program. -/
set_option linter.unusedVariables false
namespace Go.Dm
open Go.Proofs.DomP

/-- One node's ways. -/
def wRow (a : Int) : List Int → Seen → List Int → Seen × List Int
  | [], s, d => (s, d)
  | t :: r, s, d => if t ≠ a ∧ s t = false then wRow a r (Go.Proofs.DomP.mark t s) (d ++ [t]) else wRow a r s d
/-- Until nothing is to be done. -/
inductive WRun (g : List (List Int)) (a : Int) : Seen → List Int → Seen → Prop
  | done {s : Seen} : WRun g a s [] s
  | step {x : Int} {todo todo1 : List Int} {s s1 sf : Seen} : wRow a (g.getD x.toNat []) s todo = (s1, todo1) → WRun g a s1 todo1 sf → WRun g a s (todo ++ [x]) sf

/-- What is to be done is seen, told apart and in range. -/
structure WInv (np : Nat) (s : Seen) (todo : List Int) : Prop where
  nodup : todo.Nodup
  seen : ∀ x ∈ todo, s x = true
  range : ∀ x ∈ todo, 0 ≤ x ∧ x < (np : Int)

theorem mark_mono (t : Int) (s : Seen) {q : Int} (h : s q = true) : Go.Proofs.DomP.mark t s q = true := by
  unfold Go.Proofs.DomP.mark
  split
  · rfl
  · exact h

theorem WInv.push {np : Nat} {s : Seen} {todo : List Int} (h : WInv np s todo) {t : Int} (hs : s t = false) (h0 : 0 ≤ t) (h1 : t < (np : Int)) : WInv np (Go.Proofs.DomP.mark t s) (todo ++ [t]) where
  nodup := by
    rw [List.nodup_append]
    refine ⟨h.nodup, by simp, fun x hx y hy e => ?_⟩
    simp at hy
    subst hy
    subst e
    rw [h.seen x hx] at hs
    cases hs
  seen x hx := by
    rcases List.mem_append.1 hx with hx | hx
    · exact mark_mono t s (h.seen x hx)
    · simp at hx
      subst hx
      simp [Go.Proofs.DomP.mark]
  range x hx := by
    rcases List.mem_append.1 hx with hx | hx
    · exact h.range x hx
    · simp at hx
      subst hx
      exact ⟨h0, h1⟩

theorem WInv.pop {np : Nat} {s : Seen} {todo : List Int} {x : Int} (h : WInv np s (todo ++ [x])) : WInv np s todo :=
  ⟨(List.nodup_append.1 h.nodup).1, fun y hy => h.seen y (by simp [hy]), fun y hy => h.range y (by simp [hy])⟩

structure RowR (np : Nat) (a : Int) (l : List Int) (s : Seen) (todo : List Int) (s1 : Seen) (todo1 : List Int) : Prop where
  mono : ∀ q, s q = true → s1 q = true
  all : ∀ t ∈ l, t ≠ a → s1 t = true
  sub : ∀ q, s1 q = true → s q = true ∨ (q ∈ l ∧ q ≠ a)
  keep : ∀ q ∈ todo, q ∈ todo1
  new : ∀ q, s1 q = true → s q = false → q ∈ todo1
  less : 2 * left np s1 + todo1.length ≤ 2 * left np s + todo.length
  inv : WInv np s1 todo1

theorem wRow_ok {np : Nat} {a : Int} : ∀ (l : List Int) (s : Seen) (todo : List Int), (∀ t ∈ l, 0 ≤ t ∧ t < (np : Int)) → WInv np s todo → RowR np a l s todo (wRow a l s todo).1 (wRow a l s todo).2
  | [], s, todo, _, h => ⟨fun _ h => h, by simp, fun _ h => .inl h, fun _ h => h, fun q h1 h2 => (by simp only [wRow] at h1; rw [h2] at h1; cases h1), Nat.le_refl _, h⟩
  | t :: r, s, todo, hr, h => by
    unfold wRow
    obtain ⟨t0, t1⟩ := hr t (by simp)
    by_cases c : t ≠ a ∧ s t = false
    · rw [if_pos c]
      have ih := wRow_ok (a := a) r (Go.Proofs.DomP.mark t s) (todo ++ [t]) (fun x hx => hr x (by simp [hx])) (h.push c.2 t0 t1)
      have hm : Go.Proofs.DomP.mark t s t = true := by simp [Go.Proofs.DomP.mark]
      have hl := left_mark c.2 t0 np t1
      refine ⟨fun q hq => ih.mono q (mark_mono t s hq), fun x hx hxa => ?_, fun q hq => ?_, fun q hq => ih.keep q (by simp [hq]), fun q h1 h2 => ?_, ?_, ih.inv⟩
      · rcases List.mem_cons.1 hx with rfl | hx
        · exact ih.mono _ hm
        · exact ih.all x hx hxa
      · rcases ih.sub q hq with hq | ⟨hq, hqa⟩
        · unfold Go.Proofs.DomP.mark at hq
          by_cases e : q = t
          · exact .inr ⟨by simp [e], by rw [e]; exact c.1⟩
          · rw [if_neg e] at hq; exact .inl hq
        · exact .inr ⟨by simp [hq], hqa⟩
      · by_cases e : q = t
        · exact ih.keep q (by simp [e])
        · exact ih.new q h1 (by unfold Go.Proofs.DomP.mark; rw [if_neg e]; exact h2)
      · have := ih.less
        simp only [List.length_append, List.length_singleton] at this
        omega
    · rw [if_neg c]
      have ih := wRow_ok (a := a) r s todo (fun x hx => hr x (by simp [hx])) h
      refine ⟨ih.mono, fun x hx hxa => ?_, fun q hq => ?_, ih.keep, ih.new, ih.less, ih.inv⟩
      · rcases List.mem_cons.1 hx with rfl | hx
        · refine ih.mono _ ?_
          cases hs : s x with
          | true => rfl
          | false => exact absurd ⟨hxa, hs⟩ c
        · exact ih.all x hx hxa
      · rcases ih.sub q hq with hq | ⟨hq, hqa⟩
        · exact .inl hq
        · exact .inr ⟨by simp [hq], hqa⟩

/-- What stands while the search goes on. -/
structure WOk (g : List (List Int)) (a : Int) (s : Seen) (todo : List Int) : Prop where
  inv : WInv g.length s todo
  av : ∀ x, s x = true → Av g a x
  out : ∀ x, s x = true → x ∈ todo ∨ ∀ t ∈ g.getD x.toNat [], t ≠ a → s t = true
  root : a ≠ 0 → s 0 = true

theorem WOk.step {g : List (List Int)} (hg : Go.Proofs.DomP.Good g) {a x : Int} {s : Seen} {todo : List Int} (h : WOk g a s (todo ++ [x])) :
    WOk g a (wRow a (g.getD x.toNat []) s todo).1 (wRow a (g.getD x.toNat []) s todo).2 ∧ 2 * left g.length (wRow a (g.getD x.toNat []) s todo).1 + (wRow a (g.getD x.toNat []) s todo).2.length ≤ 2 * left g.length s + todo.length := by
  have hr := wRow_ok (a := a) (g.getD x.toNat []) s todo (good_at hg _) h.inv.pop
  refine ⟨⟨hr.inv, fun q hq => ?_, fun q hq => ?_, fun ha => hr.mono 0 (h.root ha)⟩, hr.less⟩
  · rcases hr.sub q hq with hq | ⟨hq, hqa⟩
    · exact h.av q hq
    · exact .step (h.av x (h.inv.seen x (by simp))) hq hqa
  · cases hs : s q with
    | false => exact .inl (hr.new q hq hs)
    | true =>
      rcases h.out q hs with h1 | h1
      · rcases List.mem_append.1 h1 with h1 | h1
        · exact .inl (hr.keep q h1)
        · simp at h1
          subst h1
          exact .inr fun t ht hta => hr.all t ht hta
      · exact .inr fun t ht hta => hr.mono t (h1 t ht hta)

theorem list_end {α : Type} (l : List α) (h : l ≠ []) : ∃ r x, l = r ++ [x] := ⟨l.dropLast, l.getLast h, (List.dropLast_concat_getLast h).symm⟩

theorem wrun_some {g : List (List Int)} (hg : Go.Proofs.DomP.Good g) {a : Int} : ∀ (k : Nat) (s : Seen) (todo : List Int), 2 * left g.length s + todo.length ≤ k → WOk g a s todo → ∃ sf, WRun g a s todo sf ∧ WOk g a sf []
  | k, s, [], _, h => ⟨s, .done, h⟩
  | 0, s, x :: r, hk, h => by simp at hk
  | k + 1, s, y :: r, hk, h => by
    obtain ⟨todo, x, e⟩ := list_end (y :: r) (by simp)
    rw [e] at h hk ⊢
    obtain ⟨h1, h2⟩ := h.step hg
    simp only [List.length_append, List.length_singleton] at hk
    obtain ⟨sf, hs, hf⟩ := wrun_some hg k _ _ (by omega) h1
    exact ⟨sf, .step rfl hs, hf⟩

theorem WOk.av_iff {g : List (List Int)} {a : Int} {sf : Seen} (h : WOk g a sf []) (x : Int) : sf x = true ↔ Av g a x := by
  refine ⟨h.av x, fun hx => ?_⟩
  induction hx with
  | root ha => exact h.root ha
  | step h1 h2 h3 ih =>
    rcases h.out _ ih with h' | h'
    · simp at h'
    · exact h' _ h2 h3

def w00 (a : Int) : Seen := if a ≠ 0 then Go.Proofs.DomP.mark 0 (fun _ => false) else fun _ => false
def t00 (a : Int) : List Int := if a ≠ 0 then [0] else []
theorem WOk.start {g : List (List Int)} (hg0 : 0 < g.length) (a : Int) : WOk g a (w00 a) (t00 a) := by
  unfold w00 t00
  by_cases c : a = 0
  · subst c
    simp only [ne_eq, not_true, if_false]
    exact ⟨⟨by simp, by simp, by simp⟩, fun x hx => (by simp at hx), fun x hx => (by simp at hx), fun h => absurd rfl h⟩
  · rw [if_pos c, if_pos c]
    refine ⟨⟨by simp, fun x hx => (by simp at hx; subst hx; simp [Go.Proofs.DomP.mark]), fun x hx => (by simp at hx; subst hx; omega)⟩, fun x hx => ?_, fun x hx => ?_, fun _ => by simp [Go.Proofs.DomP.mark]⟩
    · unfold Go.Proofs.DomP.mark at hx
      by_cases e : x = 0
      · subst e; exact .root c
      · rw [if_neg e] at hx; cases hx
    · unfold Go.Proofs.DomP.mark at hx
      by_cases e : x = 0
      · subst e; exact .inl (by simp)
      · rw [if_neg e] at hx; cases hx
theorem wrun_start {g : List (List Int)} (hg : Go.Proofs.DomP.Good g) (hg0 : 0 < g.length) (a : Int) : ∃ sf, WRun g a (w00 a) (t00 a) sf ∧ ∀ x, sf x = true ↔ Av g a x := by
  obtain ⟨sf, h1, h2⟩ := wrun_some hg _ _ _ (Nat.le_refl _) (WOk.start hg0 a)
  exact ⟨sf, h1, h2.av_iff⟩
end Go.Dm
