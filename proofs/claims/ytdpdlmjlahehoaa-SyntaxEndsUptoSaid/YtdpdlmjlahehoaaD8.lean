/- Both ways of telling where blocks end are one. -/
import Derived.Test.YtdpdlmjlahehoaaD7
namespace Go.Ab
theorem gset (l : List Int) (i j : Nat) (x : Int) : (l.set i x).getD j 0 = if i = j ∧ i < l.length then x else l.getD j 0 := by
  rw [List.getD_eq_getElem?_getD, List.getElem?_set, List.getD_eq_getElem?_getD]
  by_cases h : i = j
  · subst h
    by_cases h2 : i < l.length
    · simp [h2]
    · simp [h2]
  · simp [h]
def rr (L : List Int) (o : Nat) : Nat := if 0 ≤ L.getD o 0 then (L.getD o 0).toNat else o
theorem rr_neg {L : List Int} {o : Nat} (h : ¬ 0 ≤ L.getD o 0) : rr L o = o := if_neg h
theorem rr_pos {L : List Int} {o : Nat} (h : 0 ≤ L.getD o 0) : rr L o = (L.getD o 0).toNat := if_pos h
structure Rel (ks : List Int) (i : Nat) (a b : E1) : Prop where
  l1 : a.ends.length = ks.length
  l2 : a.elses.length = ks.length
  l3 : b.ends.length = ks.length
  l4 : b.elses.length = ks.length
  op : b.opn = a.opn.map (rr a.elses)
  lt : ∀ o ∈ a.opn, o < i
  nd : a.opn.Nodup
  kd : ∀ o ∈ a.opn, ks.getD o 0 = 5 ∨ ks.getD o 0 = 7
  le : ∀ j, j < i → b.elses.getD j 0 = a.elses.getD j 0
  lg : ∀ j, i ≤ j → j < ks.length → a.elses.getD j 0 = -1
  ev : ∀ j, j < i → 0 ≤ a.elses.getD j 0 → (a.elses.getD j 0).toNat < i ∧ ks.getD (a.elses.getD j 0).toNat 0 = 6 ∧ ks.getD j 0 = 5
  ij : ∀ j j', j < i → j' < i → 0 ≤ a.elses.getD j 0 → a.elses.getD j 0 = a.elses.getD j' 0 → j = j'
  en : ∀ j, j < i → a.ends.getD j 0 = b.ends.getD (rr a.elses j) 0
  eg : ∀ j, i ≤ j → j < ks.length → a.ends.getD j 0 = -1
  eo : ∀ o ∈ a.opn, a.ends.getD o 0 = -1
section
variable {ks : List Int} {i : Nat} {a b : E1}
theorem Rel.start (ks : List Int) : Rel ks 0 ⟨[], List.replicate ks.length (-1), List.replicate ks.length (-1)⟩ ⟨[], List.replicate ks.length 0, List.replicate ks.length 0⟩ where
  l1 := by simp
  l2 := by simp
  l3 := by simp
  l4 := by simp
  op := rfl
  lt := by simp
  nd := by simp
  kd := by simp
  le := by intro j h; omega
  lg := by intro j _ h; simp [List.getD_eq_getElem?_getD, List.getElem?_replicate, h]
  ev := by intro j h; omega
  ij := by intro j j' h; omega
  en := by intro j h; omega
  eg := by intro j _ h; simp [List.getD_eq_getElem?_getD, List.getElem?_replicate, h]
  eo := by simp
theorem Rel.pre (h : Rel ks i a b) (hi : i < ks.length) : Rel ks (i + 1) a (pre2 i b) where
  l1 := h.l1
  l2 := h.l2
  l3 := by simp [pre2, h.l3]
  l4 := by simp [pre2, h.l4]
  op := h.op
  lt := fun o ho => by have := h.lt o ho; omega
  nd := h.nd
  kd := h.kd
  le := fun j hj => by
    simp only [pre2]
    rw [gset]
    by_cases e : i = j
    · rw [if_pos ⟨e, by rw [h.l4]; exact hi⟩, ← e, h.lg i (Nat.le_refl _) hi]
    · rw [if_neg (fun k => e k.1), h.le j (by omega)]
  lg := fun j h1 h2 => h.lg j (by omega) h2
  ev := fun j h1 h2 => by
    by_cases e : j = i
    · subst e; rw [h.lg j (Nat.le_refl _) hi] at h2; omega
    · obtain ⟨k1, k2, k3⟩ := h.ev j (by omega) h2
      exact ⟨by omega, k2, k3⟩
  ij := fun j j' h1 h2 h3 h4 => by
    by_cases e : j = i
    · subst e; rw [h.lg j (Nat.le_refl _) hi] at h3; omega
    · by_cases e' : j' = i
      · subst e'; rw [h4, h.lg j' (Nat.le_refl _) hi] at h3; omega
      · exact h.ij j j' (by omega) (by omega) h3 h4
  en := fun j hj => by
    simp only [pre2]
    rw [gset]
    by_cases e : j = i
    · subst e
      have hn : ¬ 0 ≤ a.elses.getD j 0 := by rw [h.lg j (Nat.le_refl _) hi]; omega
      rw [rr_neg hn, if_pos ⟨rfl, by rw [h.l3]; exact hi⟩, h.eg j (Nat.le_refl _) hi]
    · have hlt : rr a.elses j < i := by
        by_cases h0 : 0 ≤ a.elses.getD j 0
        · rw [rr_pos h0]; exact (h.ev j (by omega) h0).1
        · rw [rr_neg h0]; omega
      rw [if_neg (fun k => by omega), h.en j (by omega)]
  eg := fun j h1 h2 => h.eg j (by omega) h2
  eo := h.eo
theorem pre_at (hb : b.ends.length = ks.length) (hi : i < ks.length) : (pre2 i b).ends.getD i 0 = -1 := by
  simp only [pre2]
  rw [gset, if_pos ⟨rfl, by omega⟩]
theorem Rel.push (h : Rel ks i a b) (hi : i < ks.length) (hk : ks.getD i 0 = 5 ∨ ks.getD i 0 = 7) : Rel ks (i + 1) { a with opn := a.opn ++ [i] } { pre2 i b with opn := (pre2 i b).opn ++ [i] } :=
  have p := h.pre hi
  { p with
    op := by
      have hn : ¬ 0 ≤ a.elses.getD i 0 := by rw [h.lg i (Nat.le_refl _) hi]; omega
      simp only [pre2, h.op, List.map_append, List.map_cons, List.map_nil, rr_neg hn]
    lt := fun o ho => by
      rcases List.mem_append.1 ho with ho | ho
      · exact p.lt o ho
      · rw [List.mem_singleton.1 ho]; omega
    nd := by
      rw [List.nodup_append]
      refine ⟨h.nd, by simp, ?_⟩
      intro x hx y hy e
      rw [List.mem_singleton.1 hy] at e
      have := h.lt x hx
      omega
    kd := fun o ho => by
      rcases List.mem_append.1 ho with ho | ho
      · exact p.kd o ho
      · rw [List.mem_singleton.1 ho]; exact hk
    eo := fun o ho => by
      rcases List.mem_append.1 ho with ho | ho
      · exact p.eo o ho
      · rw [List.mem_singleton.1 ho]; exact h.eg i (Nat.le_refl _) hi }
theorem Rel.els (h : Rel ks i a b) (hi : i < ks.length) (hk : ks.getD i 0 = 6) {L0 : List Nat} {o : Nat} (ho : a.opn = L0 ++ [o]) (h5 : ks.getD o 0 = 5) (hL : ¬ 0 ≤ a.elses.getD o 0) :
    Rel ks (i + 1) { a with elses := a.elses.set o i } { pre2 i b with opn := (pre2 i b).opn.dropLast ++ [i], elses := (pre2 i b).elses.set (rr a.elses o) i } := by
  have p := h.pre hi
  have hom : o ∈ a.opn := by rw [ho]; simp
  have hoi := h.lt o hom
  have hnd := h.nd
  rw [ho, List.nodup_append] at hnd
  have hset : ∀ j, (a.elses.set o (i : Int)).getD j 0 = if o = j then (i : Int) else a.elses.getD j 0 := by
    intro j
    rw [gset]
    by_cases e : o = j
    · rw [if_pos ⟨e, by rw [h.l2]; omega⟩, if_pos e]
    · rw [if_neg (fun k => e k.1), if_neg e]
  have hrr : ∀ j, j ≠ o → rr (a.elses.set o (i : Int)) j = rr a.elses j := by
    intro j hj
    have e : (a.elses.set o (i : Int)).getD j 0 = a.elses.getD j 0 := by rw [hset, if_neg (fun e => hj e.symm)]
    unfold rr
    rw [e]
  have hro : rr (a.elses.set o (i : Int)) o = i := by
    unfold rr
    rw [hset, if_pos rfl, if_pos (by omega)]
    omega
  have hone : ¬ 0 ≤ a.elses.getD i 0 := by rw [h.lg i (Nat.le_refl _) hi]; omega
  have hLlt : ∀ j, j < i + 1 → a.elses.getD j 0 < (i : Int) := by
    intro j hj
    by_cases e : 0 ≤ a.elses.getD j 0
    · have hji : j ≠ i := fun e2 => hone (e2 ▸ e)
      have := (h.ev j (by omega) e).1
      omega
    · omega
  rw [rr_neg hL]
  exact {
    l1 := p.l1
    l2 := by simp [p.l2]
    l3 := p.l3
    l4 := by simp [p.l4]
    op := by
      have e1 : (pre2 i b).opn = a.opn.map (rr a.elses) := h.op
      simp only
      rw [e1, ho]
      simp only [List.map_append, List.map_cons, List.map_nil, List.dropLast_concat, hro]
      congr 1
      refine List.map_congr_left fun x hx => (hrr x ?_).symm
      exact hnd.2.2 x hx o (by simp)
    lt := p.lt
    nd := p.nd
    kd := p.kd
    le := fun j hj => by
      simp only
      rw [hset, gset]
      by_cases e : o = j
      · rw [if_pos ⟨e, by rw [p.l4]; omega⟩, if_pos e]
      · rw [if_neg (fun k => e k.1), if_neg e]; exact p.le j hj
    lg := fun j h1 h2 => by
      simp only
      rw [hset, if_neg (by omega)]
      exact p.lg j h1 h2
    ev := fun j h1 h2 => by
      simp only at h2 ⊢
      rw [hset] at h2 ⊢
      by_cases e : o = j
      · rw [if_pos e]
        subst e
        refine ⟨by omega, ?_, h5⟩
        rw [show ((i : Int)).toNat = i by omega]; exact hk
      · rw [if_neg e] at h2 ⊢
        exact p.ev j h1 h2
    ij := fun j j' h1 h2 h3 h4 => by
      simp only at h3 h4
      rw [hset] at h3
      rw [hset, hset] at h4
      by_cases e : o = j
      · rw [if_pos e] at h4
        by_cases e' : o = j'
        · omega
        · rw [if_neg e'] at h4
          have := hLlt j' h2
          omega
      · rw [if_neg e] at h3 h4
        by_cases e' : o = j'
        · rw [if_pos e'] at h4
          have := hLlt j h1
          omega
        · rw [if_neg e'] at h4
          exact p.ij j j' h1 h2 h3 h4
    en := fun j hj => by
      simp only
      by_cases e : j = o
      · subst e
        rw [hro, pre_at h.l3 hi]
        exact h.eo j hom
      · rw [hrr j e]
        exact p.en j hj
    eg := p.eg
    eo := p.eo }
theorem Rel.fin (h : Rel ks i a b) (hi : i < ks.length) {L0 : List Nat} {o : Nat} (ho : a.opn = L0 ++ [o]) :
    Rel ks (i + 1) { opn := L0, ends := if a.elses.getD o 0 ≥ 0 then (a.ends.set o i).set (a.elses.getD o 0).toNat i else a.ends.set o i, elses := a.elses } { pre2 i b with opn := (pre2 i b).opn.dropLast, ends := (pre2 i b).ends.set (rr a.elses o) i } := by
  have p := h.pre hi
  have hom : o ∈ a.opn := by rw [ho]; simp
  have hoi := h.lt o hom
  have hnd := h.nd
  rw [ho, List.nodup_append] at hnd
  have hsub : ∀ x ∈ L0, x ∈ a.opn := fun x hx => by rw [ho]; exact List.mem_append_left _ hx
  have hk6 : ∀ j, j < i + 1 → 0 ≤ a.elses.getD j 0 → ks.getD (a.elses.getD j 0).toNat 0 = 6 := fun j h1 h2 => (p.ev j h1 h2).2.1
  have hkey : ∀ j, j < i + 1 → (rr a.elses j = rr a.elses o ↔ j = o ∨ (0 ≤ a.elses.getD o 0 ∧ j = (a.elses.getD o 0).toNat)) := by
    intro j hj
    constructor
    · intro e
      by_cases h0 : 0 ≤ a.elses.getD o 0
      · rw [rr_pos h0] at e
        by_cases h1 : 0 ≤ a.elses.getD j 0
        · rw [rr_pos h1] at e
          exact .inl (p.ij j o hj (by omega) h1 (by omega))
        · rw [rr_neg h1] at e
          exact .inr ⟨h0, e⟩
      · rw [rr_neg h0] at e
        by_cases h1 : 0 ≤ a.elses.getD j 0
        · rw [rr_pos h1] at e
          have := hk6 j hj h1
          rw [e] at this
          have := h.kd o hom
          omega
        · rw [rr_neg h1] at e
          exact .inl e
    · rintro (rfl | ⟨h0, rfl⟩)
      · rfl
      · rw [rr_pos h0]
        refine rr_neg fun h1 => ?_
        have k1 := hk6 o (by omega) h0
        have k2 := (p.ev _ (p.ev o (by omega) h0).1 h1).2.2
        omega
  have hends : ∀ j, (if a.elses.getD o 0 ≥ 0 then (a.ends.set o (i : Int)).set (a.elses.getD o 0).toNat i else a.ends.set o i).getD j 0 = if j = o ∨ (0 ≤ a.elses.getD o 0 ∧ j = (a.elses.getD o 0).toNat) then (i : Int) else a.ends.getD j 0 := by
    intro j
    by_cases h0 : 0 ≤ a.elses.getD o 0
    · rw [if_pos h0, gset, gset]
      have hx := (p.ev o (by omega) h0).1
      by_cases e1 : (a.elses.getD o 0).toNat = j
      · rw [if_pos ⟨e1, by rw [List.length_set, h.l1]; omega⟩, if_pos (.inr ⟨h0, e1.symm⟩)]
      · rw [if_neg (fun k => e1 k.1)]
        by_cases e2 : o = j
        · rw [if_pos ⟨e2, by rw [h.l1]; omega⟩, if_pos (.inl e2.symm)]
        · rw [if_neg (fun k => e2 k.1), if_neg (by rintro (k | ⟨_, k⟩); exact e2 k.symm; exact e1 k.symm)]
    · rw [if_neg h0, gset]
      by_cases e2 : o = j
      · rw [if_pos ⟨e2, by rw [h.l1]; omega⟩, if_pos (.inl e2.symm)]
      · rw [if_neg (fun k => e2 k.1), if_neg (by rintro (k | ⟨k, _⟩); exact e2 k.symm; exact h0 k)]
  have hrlt : ∀ j, j < i + 1 → rr a.elses j < ks.length := by
    intro j hj
    by_cases h0 : 0 ≤ a.elses.getD j 0
    · rw [rr_pos h0]; have := (p.ev j hj h0).1; omega
    · rw [rr_neg h0]; omega
  exact {
    l1 := by simp only; split <;> simp [h.l1]
    l2 := p.l2
    l3 := by simp [p.l3]
    l4 := p.l4
    op := by
      have e1 : (pre2 i b).opn = a.opn.map (rr a.elses) := h.op
      simp only
      rw [e1, ho]
      simp
    lt := fun x hx => p.lt x (hsub x hx)
    nd := hnd.1
    kd := fun x hx => p.kd x (hsub x hx)
    le := p.le
    lg := p.lg
    ev := p.ev
    ij := p.ij
    en := fun j hj => by
      simp only
      rw [hends, gset]
      by_cases e : rr a.elses o = rr a.elses j
      · rw [if_pos ((hkey j hj).1 e.symm), if_pos ⟨e, by rw [p.l3]; exact hrlt o (by omega)⟩]
      · rw [if_neg (fun k => e ((hkey j hj).2 k).symm), if_neg (fun k => e k.1)]
        exact p.en j hj
    eg := fun j h1 h2 => by
      simp only
      rw [hends, if_neg]
      · exact p.eg j h1 h2
      · rintro (k | ⟨k, e⟩)
        · omega
        · have := (p.ev o (by omega) k).1; omega
    eo := fun x hx => by
      simp only
      rw [hends, if_neg]
      · exact p.eo x (hsub x hx)
      · rintro (k | ⟨k, e⟩)
        · exact hnd.2.2 x hx o (by simp) k
        · have := hk6 o (by omega) k
          have := h.kd x (hsub x hx)
          rw [e] at this
          omega }
def Both (ks : List Int) (i : Nat) : Option E1 → Option E1 → Prop
  | none, none => True
  | some a, some b => Rel ks i a b
  | _, _ => False
theorem step_both (h : Rel ks i a b) (hi : i < ks.length) : Both ks (i + 1) (step1 ks i a) (step2 ks i b) := by
  have hop : (pre2 i b).opn = a.opn.map (rr a.elses) := h.op
  unfold step1 step2 body2
  by_cases h1 : ks.getD i 0 = 5 ∨ ks.getD i 0 = 7
  · rw [if_pos h1, if_pos h1]
    exact h.push hi h1
  · rw [if_neg h1, if_neg h1]
    by_cases h2 : ks.getD i 0 = 6
    · rw [if_pos h2, if_pos h2]
      rcases List.eq_nil_or_concat a.opn with e | ⟨L0, o, e⟩
      · rw [hop, e]; trivial
      · have e' : a.opn = L0 ++ [o] := by simpa using e
        have g1 : a.opn.getLast? = some o := by rw [e']; simp
        have g2 : (pre2 i b).opn.getLast? = some (rr a.elses o) := by rw [hop, e']; simp
        rw [g1, g2]
        simp only
        by_cases h3 : 0 ≤ a.elses.getD o 0
        · have hom : o ∈ a.opn := by rw [e']; simp
          have := (h.ev o (h.lt o hom) h3).2.1
          rw [if_pos (.inr h3), rr_pos h3, if_pos (by rw [this]; decide)]
          trivial
        · by_cases h4 : ks.getD o 0 = 5
          · rw [if_neg (by rintro (k | k); exact k h4; exact h3 k)]
            rw [if_neg (by rw [rr_neg h3]; exact fun k => k h4)]
            exact h.els hi h2 e' h4 h3
          · rw [if_pos (.inl h4), if_pos (by rw [rr_neg h3]; exact h4)]
            trivial
    · rw [if_neg h2, if_neg h2]
      by_cases h5 : ks.getD i 0 = 8
      · rw [if_pos h5, if_pos h5]
        rcases List.eq_nil_or_concat a.opn with e | ⟨L0, o, e⟩
        · rw [hop, e]; trivial
        · have e' : a.opn = L0 ++ [o] := by simpa using e
          have g1 : a.opn.getLast? = some o := by rw [e']; simp
          have g2 : (pre2 i b).opn.getLast? = some (rr a.elses o) := by rw [hop, e']; simp
          rw [g1, g2]
          simp only
          have := h.fin hi e'
          rw [show a.opn.dropLast = L0 by rw [e']; simp]
          exact this
      · rw [if_neg h5, if_neg h5]
        exact h.pre hi
theorem iter_both (ks : List Int) : ∀ i, i ≤ ks.length → Both ks i (iter1 ks i) (iter2 ks i)
  | 0, _ => Rel.start ks
  | i + 1, hi => by
    have ih := iter_both ks i (by omega)
    rw [iter1, iter2]
    cases e1 : iter1 ks i with
    | none =>
      cases e2 : iter2 ks i with
      | none => trivial
      | some b => rw [e1, e2] at ih; exact ih.elim
    | some a =>
      cases e2 : iter2 ks i with
      | none => rw [e1, e2] at ih; exact ih.elim
      | some b =>
        rw [e1, e2] at ih
        exact step_both ih (by omega)
theorem fixE_at {L E : List Int} (hx : ∀ j, j < E.length → 0 ≤ L.getD j 0 → ¬ 0 ≤ L.getD (L.getD j 0).toNat 0) : ∀ i, i ≤ E.length → ∀ j, (fixE L E i).getD j 0 = if j < i ∧ 0 ≤ L.getD j 0 then E.getD (L.getD j 0).toNat 0 else E.getD j 0
  | 0, _, j => by rw [if_neg (by omega)]; rfl
  | i + 1, hi, j => by
    have ih := fixE_at hx i (by omega)
    unfold fixE
    by_cases h : 0 ≤ L.getD i 0
    · have ex : (fixE L E i).getD (L.getD i 0).toNat 0 = E.getD (L.getD i 0).toNat 0 := by rw [ih, if_neg (fun k => hx i (by omega) h k.2)]
      rw [if_pos h, gset, ex]
      by_cases e : i = j
      · subst e
        rw [if_pos ⟨rfl, by rw [fixE_len]; omega⟩, if_pos ⟨by omega, h⟩]
      · rw [if_neg (fun k => e k.1), ih j]
        by_cases c : j < i ∧ 0 ≤ L.getD j 0
        · rw [if_pos c, if_pos ⟨by omega, c.2⟩]
        · rw [if_neg c, if_neg (fun k => c ⟨by omega, k.2⟩)]
    · rw [if_neg h, ih j]
      by_cases c : j < i ∧ 0 ≤ L.getD j 0
      · rw [if_pos c, if_pos ⟨by omega, c.2⟩]
      · rw [if_neg c, if_neg]
        rintro ⟨k1, k2⟩
        by_cases e : j = i
        · subst e; exact h k2
        · exact c ⟨by omega, k2⟩
theorem ext0 {l r : List Int} (hl : l.length = r.length) (h : ∀ j, j < l.length → l.getD j 0 = r.getD j 0) : l = r := by
  refine List.ext_getElem hl fun j h1 h2 => ?_
  have := h j h1
  rw [List.getD_eq_getElem?_getD, List.getD_eq_getElem?_getD, List.getElem?_eq_getElem h1, List.getElem?_eq_getElem h2] at this
  exact this
theorem ends_same (ks : List Int) : ends1 ks = ends2 ks := by
  have hb := iter_both ks ks.length (Nat.le_refl _)
  unfold ends1 ends2
  cases e1 : iter1 ks ks.length with
  | none =>
    cases e2 : iter2 ks ks.length with
    | none => rfl
    | some b => rw [e1, e2] at hb; exact hb.elim
  | some a =>
    cases e2 : iter2 ks ks.length with
    | none => rw [e1, e2] at hb; exact hb.elim
    | some b =>
      rw [e1, e2] at hb
      have h : Rel ks ks.length a b := hb
      have hop : b.opn = [] ↔ a.opn = [] := by rw [h.op]; simp
      simp only
      by_cases ho : a.opn = []
      · rw [if_pos ho, if_pos (hop.2 ho)]
        have hel : a.elses = b.elses := ext0 (by rw [h.l2, h.l4]) fun j hj => (h.le j (by rw [← h.l2]; exact hj)).symm
        have hen : a.ends = fixE b.elses b.ends ks.length := by
          refine ext0 (by rw [fixE_len, h.l1, h.l3]) fun j hj => ?_
          rw [h.l1] at hj
          rw [fixE_at (fun j hj h0 => ?_) ks.length (by rw [h.l3]; exact Nat.le_refl _) j, h.en j hj, ← hel]
          · unfold rr
            by_cases h0 : 0 ≤ a.elses.getD j 0
            · rw [if_pos h0, if_pos ⟨hj, h0⟩]
            · rw [if_neg h0, if_neg (fun k => h0 k.2)]
          · rw [h.l3] at hj
            rw [← hel] at h0 ⊢
            obtain ⟨k1, k2, k3⟩ := h.ev j hj h0
            intro k
            have := (h.ev _ k1 k).2.2
            omega
        rw [hel, hen]
      · rw [if_neg ho, if_neg (fun k => ho (hop.1 k))]
end
end Go.Ab
