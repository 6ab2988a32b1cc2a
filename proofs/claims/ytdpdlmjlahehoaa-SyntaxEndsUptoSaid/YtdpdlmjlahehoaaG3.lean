/- The abstract heap's primitives against the world's: reading, a new block, a store, an append. -/
import Derived.Test.YtdpdlmjlahehoaaG2
import Derived.Laws.AppendOwn
namespace Go.Ab
open Go.RowKit
section
variable {w0 : World} {B0 : Nat} {ρ : Loc} {s s' : St} {w : World}

theorem St.get_newG_eq (s : St) (G : Grp) : (s.newG G).get s.ctr = some G := by simp [St.get, St.newG, St.setG, Tr.get_set]
theorem St.get_newG_ne (s : St) (G : Grp) {k : Nat} (h : k ≠ s.ctr) : (s.newG G).get k = s.get k := by simp [St.get, St.newG, St.setG, Tr.get_set, h]
theorem St.get_setG_eq (s : St) (g : Nat) (G : Grp) : (s.setG g G).get g = some G := by simp [St.get, St.newG, St.setG, Tr.get_set]
theorem St.get_setG_ne (s : St) (g : Nat) (G : Grp) {k : Nat} (h : k ≠ g) : (s.setG g G).get k = s.get k := by simp [St.get, St.newG, St.setG, Tr.get_set, h]

theorem EntR.mono {ρ ρ' : Loc} (hle : ρ.le ρ') {es : List (AV × AV)} {ents : Array MapEntry} (h : EntR w0 B0 ρ es ents) : EntR w0 B0 ρ' es ents :=
  ⟨h.1, fun i e x he hx => ⟨(h.2 i e x he hx).1.mono hle, (h.2 i e x he hx).2.mono hle⟩⟩
theorem VerR.mono {ρ' : Loc} {w' : World} {V : Ver} {b st n : Nat} (h : VerR w0 B0 ρ w V b st n) (hle : ρ.le ρ') (hb : w'.heap[b]? = w.heap[b]?) : VerR w0 B0 ρ' w' V b st n := by
  cases h with
  | arr c e h1 h2 h3 hlf h4 hm => exact .arr c e (by rw [hb]; exact h1) h2 h3 hlf (fun i u v hu hv => (h4 i u v hu hv).mono hle) hm
  | map es ents clock h1 h2 hm hc => exact .map es ents clock (by rw [hb]; exact h1) (h2.mono hle) hm hc
/-- A version that lies in a row of cells. -/
theorem VerR.cells {V : Ver} {b st n : Nat} {cur : Array Value} {e : TypeId} {fz : Nat × Nat} (h : VerR w0 B0 ρ w V b st n) (hb : w.heap[b]? = some (.cells cur e fz)) :
    cur.size = n ∧ st + V.cells.length ≤ n ∧ V.cells.all AV.leaf = true ∧ (∀ i u v, V.cells[i]? = some u → cur[st + i]? = some v → VR w0 B0 ρ u v) ∧ V.mp = none := by
  cases h with
  | arr c e h1 h2 h3 hlf h4 hm =>
    rw [hb] at h1
    cases h1
    exact ⟨h2, h3, hlf, h4, hm⟩
  | map es ents clock h1 h2 hm hc =>
    rw [hb] at h1
    cases h1
theorem VerR.lt {V : Ver} {b st n : Nat} (h : VerR w0 B0 ρ w V b st n) : b < w.heap.size := by
  cases h with
  | arr c e h1 => exact (Array.getElem?_eq_some_iff.1 h1).1
  | map es ents clock h1 => exact (Array.getElem?_eq_some_iff.1 h1).1

/-- The state's record of what was written says nothing of the world. -/
theorem Sim.wr (h : Sim w0 B0 ρ s w) (l : List Nat) : Sim w0 B0 ρ { s with wr := l } w := ⟨h.low, h.big, h.ver, h.al, h.sep, h.ctr⟩
theorem Sim.drew (h : Sim w0 B0 ρ s w) : Sim w0 B0 ρ s w.drew := ⟨h.low.drew, h.big, fun g j b st n hρ => by
  obtain ⟨h1, G, V, h2, h3, h4⟩ := h.ver g j b st n hρ
  exact ⟨h1, G, V, h2, h3, h4.mono (Loc.le_refl _) rfl⟩, h.al, h.sep, h.ctr⟩

/-- Cells that are read. -/
def CellsAt (w : World) (a : Addr) (vs : List Value) : Prop := ∀ j v, vs[j]? = some v → w.cell? (a.add j) = some v

theorem add_eq (b o j : Nat) : (⟨b, o, none⟩ : Addr).add j = ⟨b, o + j, none⟩ := by unfold Addr.add; split <;> simp_all

theorem cells_of_block {c : Array Value} {e : TypeId} {fz : Nat × Nat} {b : Nat} (hb : w.heap[b]? = some (.cells c e fz)) (o : Nat) : w.cell? ⟨b, o, none⟩ = c[o]? := by simp [World.cell?, hb]

theorem Grp.read_spec {G : Grp} {j off n : Nat} {cs : List AV} (h : G.read j off n = some cs) : ∃ V, G.vers[j]? = some V ∧ (V.mp = none ∧ off + n ≤ V.cells.length) ∧ cs = (V.cells.drop off).take n := by
  unfold Grp.read at h
  cases hv : G.vers[j]? with
  | none => simp [hv] at h
  | some V =>
    simp only [hv] at h
    split at h
    · rename_i hc
      simp only [Option.some.injEq] at h
      exact ⟨V, rfl, ⟨by simpa using hc.1, hc.2⟩, h.symm⟩
    · cases h

/-- What is read abstractly lies in the world. -/
theorem VerR.read {V : Ver} {b st n off m : Nat} (h : VerR w0 B0 ρ w V b st n) (hm : off + m ≤ V.cells.length) :
    ∃ vs : List Value, vs.length = m ∧ CR w0 B0 ρ ((V.cells.drop off).take m) vs ∧ CellsAt w ⟨b, st + off, none⟩ vs := by
  cases h with
  | map es ents clock h1 h2 hm' hc =>
    rw [hc] at hm ⊢
    simp only [List.length_nil] at hm
    obtain rfl : m = 0 := by omega
    exact ⟨[], rfl, by simpa using CR.nil, fun j v hj => by simp at hj⟩
  | arr c e hb hc hle _ hv _ =>
    refine ⟨(c.toList.drop (st + off)).take m, by simp; omega, ⟨by simp; omega, fun i u v hu hv' => ?_⟩, fun i v hv' => ?_⟩
    · rw [List.getElem?_take] at hu hv'
      split at hu
      · rw [if_pos (by assumption), List.getElem?_drop] at hv'
        rw [List.getElem?_drop] at hu
        refine hv (off + i) u v hu ?_
        rw [← Array.getElem?_toList, ← Nat.add_assoc]
        exact hv'
      · cases hu
    · rw [List.getElem?_take] at hv'
      split at hv'
      · rw [List.getElem?_drop] at hv'
        rw [add_eq, cells_of_block hb, ← Array.getElem?_toList]
        exact hv'
      · cases hv'
theorem Sim.read (h : Sim w0 B0 ρ s w) {g j off m b st n : Nat} {cs : List AV} (hρ : ρ g j = some (b, st, n)) (hr : s.read g j off m = some cs) :
    ∃ vs : List Value, vs.length = m ∧ CR w0 B0 ρ cs vs ∧ CellsAt w ⟨b, st + off, none⟩ vs := by
  obtain ⟨_, G, V, hG, hV, hvr⟩ := h.ver g j b st n hρ
  unfold St.read at hr
  simp only [hG] at hr
  obtain ⟨V', hV', ⟨_, hle⟩, rfl⟩ := Grp.read_spec hr
  rw [hV] at hV'
  cases hV'
  exact hvr.read hle

/-- ρ with a new place. -/
def Loc.put (ρ : Loc) (g j : Nat) (x : Nat × Nat × Nat) : Loc := fun g' j' => if g' = g ∧ j' = j then some x else ρ g' j'
theorem Loc.put_le {ρ : Loc} {g j : Nat} {x : Nat × Nat × Nat} (h : ρ g j = none) : ρ.le (ρ.put g j x) := by
  intro g' j' y hy
  unfold Loc.put
  split
  · rename_i h'
    rw [h'.1, h'.2, h] at hy
    cases hy
  · exact hy
theorem Loc.put_eq {ρ : Loc} {g j : Nat} {x : Nat × Nat × Nat} : ρ.put g j x g j = some x := by simp [Loc.put]
theorem Loc.put_inv {ρ : Loc} {g j g' j' : Nat} {x y : Nat × Nat × Nat} (h : ρ.put g j x g' j' = some y) : (g' = g ∧ j' = j ∧ y = x) ∨ ρ g' j' = some y := by
  unfold Loc.put at h
  split at h
  · cases h; rename_i h'; exact .inl ⟨h'.1, h'.2, rfl⟩
  · exact .inr h

/-- More is placed: of what is below c only what had a place already gets another one. -/
def Loc.lex (c : Nat) (ρ ρ' : Loc) : Prop := ρ.le ρ' ∧ ∀ g, g < c → (∀ j, ρ g j = none) → ∀ j, ρ' g j = none
theorem Loc.lex_refl (c : Nat) (ρ : Loc) : ρ.lex c ρ := ⟨Loc.le_refl _, fun _ _ h => h⟩
theorem Loc.lex_trans {c c' : Nat} {x y z : Loc} (h : x.lex c y) (k : y.lex c' z) (hc : c ≤ c') : x.lex c z := ⟨Loc.le_trans h.1 k.1, fun g hg hn => k.2 g (by omega) (h.2 g hg hn)⟩
theorem Loc.put_lex {ρ : Loc} {g j : Nat} {x : Nat × Nat × Nat} {c : Nat} (h : ρ g j = none) (hg : c ≤ g ∨ ∃ j' y, ρ g j' = some y) : ρ.lex c (ρ.put g j x) := by
  refine ⟨Loc.put_le h, fun g' hg' hn j' => ?_⟩
  unfold Loc.put
  split
  · rename_i h'
    obtain ⟨rfl, rfl⟩ := h'
    rcases hg with hg | ⟨j2, y, hg⟩
    · omega
    · rw [hn] at hg; cases hg
  · exact hn j'

theorem Sim.blk_lt (h : Sim w0 B0 ρ s w) {g j b st n : Nat} (hρ : ρ g j = some (b, st, n)) : b < w.heap.size := by
  obtain ⟨_, G, V, hG, hV, hr⟩ := h.ver g j b st n hρ
  exact hr.lt

/-- The world with one more block that holds what a group's only version says: the group is there already. -/
theorem Sim.lay (h : Sim w0 B0 ρ s w) {g : Nat} {cs : List AV} {arr : Array Value} (e : TypeId) (hg : g < s.ctr) (hρ : ∀ j, ρ g j = none) (hG : s.get g = some ⟨[⟨cs, 0, none⟩]⟩)
    (hn : cs.length ≤ arr.size) (hlf : cs.all AV.leaf = true) (hc : ∀ (i : Nat) (u : AV) (v : Value), cs[i]? = some u → arr[i]? = some v → VR w0 B0 ρ u v) :
    ρ.le (ρ.put g 0 (w.heap.size, 0, arr.size)) ∧ Sim w0 B0 (ρ.put g 0 (w.heap.size, 0, arr.size)) s (w.alloc (.cells arr e)) := by
  have hle : ρ.le (ρ.put g 0 (w.heap.size, 0, arr.size)) := Loc.put_le (hρ 0)
  refine ⟨hle, ⟨h.low.alloc h.big _, by have := h.big; show B0 ≤ (w.heap.push _).size; rw [Array.size_push]; omega, ?_, ?_, ?_, ?_⟩⟩
  · intro g' j' b st n hp
    rcases Loc.put_inv hp with ⟨rfl, rfl, hx⟩ | hp
    · cases hx
      refine ⟨h.big, _, _, hG, rfl, VerR.arr arr e (heap_alloc_new _ _) rfl (by simpa using hn) hlf (fun i u v hu hv => ?_) rfl⟩
      simp only [Nat.zero_add] at hv
      exact (hc i u v hu hv).mono hle
    · obtain ⟨h1, G, V, h2, h3, h4⟩ := h.ver g' j' b st n hp
      exact ⟨h1, G, V, h2, h3, h4.mono hle (Below.heap_alloc _ _ _ (h.blk_lt hp))⟩
  · intro g1 j1 j2 b st st' n n' G V V' h1 h2 h3 h4 h5
    rcases Loc.put_inv h1 with ⟨rfl, rfl, hx⟩ | h1' <;> rcases Loc.put_inv h2 with ⟨h2a, rfl, hy⟩ | h2'
    · cases hx; cases hy
      rw [h4] at h5; cases h5
      exact ⟨rfl, rfl⟩
    · rw [hρ] at h2'; cases h2'
    · subst h2a; rw [hρ] at h1'; cases h1'
    · exact h.al _ _ _ _ _ _ _ _ _ _ _ h1' h2' h3 h4 h5
  · intro g1 g2 j1 j2 b st st' n n' h1 h2
    rcases Loc.put_inv h1 with ⟨rfl, rfl, hx⟩ | h1' <;> rcases Loc.put_inv h2 with ⟨rfl, rfl, hy⟩ | h2'
    · rfl
    · cases hx; exact absurd (h.blk_lt h2') (by omega)
    · cases hy; exact absurd (h.blk_lt h1') (by omega)
    · exact h.sep _ _ _ _ _ _ _ _ _ h1' h2'
  · intro g' j' x hp
    rcases Loc.put_inv hp with ⟨rfl, _, _⟩ | hp
    · exact hg
    · exact h.ctr _ _ _ hp

theorem getElem?_over {l cs : List AV} {off i : Nat} (h : off + cs.length ≤ l.length) : (over l off cs)[i]? = if off ≤ i ∧ i < off + cs.length then cs[i - off]? else l[i]? := by
  unfold over
  by_cases h1 : i < off
  · rw [if_neg (by omega), List.append_assoc, List.getElem?_append_left (by simp; omega), List.getElem?_take, if_pos h1]
  · by_cases h2 : i < off + cs.length
    · rw [if_pos (by omega), List.append_assoc, List.getElem?_append_right (by simp; omega), List.getElem?_append_left (by simp; omega)]
      simp only [List.length_take]
      rw [Nat.min_eq_left (by omega)]
    · rw [if_neg (by omega), List.getElem?_append_right (by simp; omega)]
      simp only [List.length_append, List.length_take, List.getElem?_drop]
      rw [Nat.min_eq_left (by omega)]
      congr 1
      omega
theorem length_over {l cs : List AV} {off : Nat} (h : off + cs.length ≤ l.length) : (over l off cs).length = l.length := by
  unfold over
  simp
  omega
theorem getElem?_row {l cs : List Value} {off i : Nat} (h : off + cs.length ≤ l.length) : (l.take off ++ cs ++ l.drop (off + cs.length))[i]? = if off ≤ i ∧ i < off + cs.length then cs[i - off]? else l[i]? := by
  by_cases h1 : i < off
  · rw [if_neg (by omega), List.append_assoc, List.getElem?_append_left (by simp; omega), List.getElem?_take, if_pos h1]
  · by_cases h2 : i < off + cs.length
    · rw [if_pos (by omega), List.append_assoc, List.getElem?_append_right (by simp; omega), List.getElem?_append_left (by simp; omega)]
      simp only [List.length_take]
      rw [Nat.min_eq_left (by omega)]
    · rw [if_neg (by omega), List.getElem?_append_right (by simp; omega)]
      simp only [List.length_append, List.length_take, List.getElem?_drop]
      rw [Nat.min_eq_left (by omega)]
      congr 1
      omega
theorem length_poke (V : Ver) (a n : Nat) : (V.poke a n).cells.length = V.cells.length := by simp [Ver.poke]
theorem getElem?_poke (V : Ver) (a n i : Nat) : (V.poke a n).cells[i]? = (V.cells[i]?).map fun c => if a ≤ V.delta + i ∧ V.delta + i < a + n then .poison else c := by
  simp [Ver.poke, List.getElem?_mapIdx]

theorem all_over {l cs : List AV} {off : Nat} (h : cs.all AV.leaf = true) (k : l.all AV.leaf = true) : (over l off cs).all AV.leaf = true := by
  unfold over
  simp only [List.all_append, Bool.and_eq_true, List.all_eq_true] at h k ⊢
  exact ⟨⟨fun x hx => k x (List.mem_of_mem_take hx), h⟩, fun x hx => k x (List.mem_of_mem_drop hx)⟩
theorem all_poke {V : Ver} {a n : Nat} (k : V.cells.all AV.leaf = true) : (V.poke a n).cells.all AV.leaf = true := by
  simp only [Ver.poke, List.all_eq_true] at k ⊢
  intro x hx
  obtain ⟨i, h, rfl⟩ := List.mem_mapIdx.1 hx
  split
  · rfl
  · exact k _ (List.getElem_mem _)
theorem Grp.write_spec {G G' : Grp} {j off : Nat} {cs : List AV} (h : G.write j off cs = some G') : ∃ V, G.vers[j]? = some V ∧ (V.mp.isNone = true ∧ off + cs.length ≤ V.cells.length) ∧
    G'.vers.length = G.vers.length ∧ G'.vers[j]? = some { V with cells := over V.cells off cs } ∧ ∀ k U, k ≠ j → G.vers[k]? = some U → G'.vers[k]? = some (U.poke (V.delta + off) cs.length) := by
  unfold Grp.write at h
  cases hv : G.vers[j]? with
  | none => simp [hv] at h
  | some V =>
    simp only [hv] at h
    split at h
    · simp only [Option.some.injEq] at h
      subst h
      refine ⟨V, rfl, by assumption, by simp, by simp [List.getElem?_mapIdx, hv], fun k U hk hU => by simp [List.getElem?_mapIdx, hU, hk]⟩
    · cases h
theorem St.write_spec {g j off : Nat} {cs : List AV} (h : s.write g j off cs = some s') : ∃ G G', s.get g = some G ∧ G.write j off cs = some G' ∧ s' = s.setG g G' ∧ cs.all AV.leaf = true := by
  unfold St.write at h
  split at h
  · cases hg : s.get g with
    | none => simp [hg] at h
    | some G =>
      simp only [hg] at h
      cases hw : G.write j off cs with
      | none => simp [hw] at h
      | some G' =>
        simp only [hw, Option.some.injEq] at h
        exact ⟨G, G', rfl, hw, h.symm, by assumption⟩
  · cases h

/-- What can be written lies in a row of cells. -/
theorem Sim.row (h : Sim w0 B0 ρ s w) {g j off b st n : Nat} {cs : List AV} (hρ : ρ g j = some (b, st, n)) (hw : s.write g j off cs = some s') : ∃ cur e, w.heap[b]? = some (.cells cur e (0, 0)) := by
  obtain ⟨G, G', hG, hGw, _, _⟩ := St.write_spec hw
  obtain ⟨_, G1, V, hG1, hV, hvr⟩ := h.ver g j b st n hρ
  rw [hG] at hG1
  cases hG1
  obtain ⟨V1, hV1, ⟨hm, _⟩, _⟩ := Grp.write_spec hGw
  rw [hV] at hV1
  cases hV1
  cases hvr with
  | arr c e h1 => exact ⟨c, e, h1⟩
  | map es ents clock h1 h2 h3 => rw [h3] at hm; cases hm
/-- What can be read lies in a row of cells, or is nothing. -/
theorem VerR.row {V : Ver} {b st n : Nat} (h : VerR w0 B0 ρ w V b st n) (hm : V.mp = none) : ∃ cur e, w.heap[b]? = some (.cells cur e (0, 0)) := by
  cases h with
  | arr c e h1 => exact ⟨c, e, h1⟩
  | map es ents clock h1 h2 h3 => rw [h3] at hm; cases hm

/-- A version's own cells written over, in the world and abstractly. -/
theorem VerR.write {V : Ver} {b st n off : Nat} {cs : List AV} {vs : List Value} {cur : Array Value} {e : TypeId} (h : VerR w0 B0 ρ w V b st n) (hb : w.heap[b]? = some (.cells cur e (0, 0)))
    (hle : off + cs.length ≤ V.cells.length) (hc : CR w0 B0 ρ cs vs) (hcl : cs.all AV.leaf = true) :
    VerR w0 B0 ρ (w.setRow b (cur.toList.take (st + off) ++ vs ++ cur.toList.drop (st + off + vs.length)).toArray) { V with cells := over V.cells off cs } b st n := by
  obtain ⟨h2, h3, hlf, h4, hm⟩ := h.cells hb
  refine .arr _ e (setRow_heap w b cur _ e _ hb) ?_ (by rw [length_over hle]; exact h3) (all_over hcl hlf) (fun i u v hu hv => ?_) hm
  · have := hc.1
    simp
    omega
  · rw [getElem?_over hle] at hu
    have hr := getElem?_row (l := cur.toList) (cs := vs) (off := st + off) (i := st + i) (by have := hc.1; simp; omega)
    rw [List.getElem?_toArray, hr] at hv
    by_cases hin : off ≤ i ∧ i < off + cs.length
    · rw [if_pos hin] at hu
      rw [if_pos (by have := hc.1; omega)] at hv
      rw [show st + i - (st + off) = i - off by omega] at hv
      exact hc.2 _ u v hu hv
    · rw [if_neg hin] at hu
      rw [if_neg (by have := hc.1; omega)] at hv
      exact h4 i u v hu (by simpa using hv)
/-- Another version, its block written over where the first one was (or not at all). -/
theorem VerR.poke {V U : Ver} {b st b' st' n' off : Nat} {vs : List Value} {cur : Array Value} {e : TypeId} {m : Nat} (h : VerR w0 B0 ρ w U b' st' n') (hb : w.heap[b]? = some (.cells cur e (0, 0)))
    (hm : m = vs.length) (hfit : st + off + vs.length ≤ cur.size) (hone : ∀ v ∈ vs, v.oneCell' = true) (hal : b = b' → st + U.delta = st' + V.delta) :
    VerR w0 B0 ρ (w.setRow b (cur.toList.take (st + off) ++ vs ++ cur.toList.drop (st + off + vs.length)).toArray) (U.poke (V.delta + off) m) b' st' n' := by
  subst hm
  by_cases hbb : b = b'
  · subst hbb
    have hal := hal rfl
    obtain ⟨h2, h3, hlf, h4, hmp⟩ := h.cells hb
    refine .arr _ e (setRow_heap w b cur _ e _ hb) (by simp; omega) (by rw [length_poke]; exact h3) (all_poke hlf) (fun i u v hu hv => ?_) hmp
    rw [getElem?_poke] at hu
    have hr := getElem?_row (l := cur.toList) (cs := vs) (off := st + off) (i := st' + i) (by simp; omega)
    rw [List.getElem?_toArray, hr] at hv
    cases hU : U.cells[i]? with
    | none => simp [hU] at hu
    | some u0 =>
      simp only [hU, Option.map_some, Option.some.injEq] at hu
      by_cases hin : V.delta + off ≤ U.delta + i ∧ U.delta + i < V.delta + off + vs.length
      · rw [if_pos hin] at hu
        rw [if_pos (by omega)] at hv
        subst hu
        exact .poison v (hone v (List.mem_of_getElem? hv))
      · rw [if_neg hin] at hu
        rw [if_neg (by omega)] at hv
        subst hu
        exact h4 i u0 v hU (by simpa using hv)
  · cases h with
    | map es ents clock h1 h2 hmp hc => exact .map es ents clock (by rw [setRow_other w b b' _ (fun h => hbb h.symm)]; exact h1) h2 hmp (by simp [Ver.poke, hc])
    | arr c e' h1 h2 h3 hlf h4 hmp =>
    refine .arr c e' (by rw [setRow_other w b b' _ (fun h => hbb h.symm)]; exact h1) h2 (by rw [length_poke]; exact h3) (all_poke hlf) (fun i u v hu hv => ?_) hmp
    rw [getElem?_poke] at hu
    cases hU : U.cells[i]? with
    | none => simp [hU] at hu
    | some u0 =>
      simp only [hU, Option.map_some, Option.some.injEq] at hu
      have hh := h4 i u0 v hU hv
      split at hu
      · subst hu
        exact .poison v (hh.leaf (List.all_eq_true.1 hlf _ (List.mem_of_getElem? hU)))
      · subst hu; exact hh

theorem Below.setRow' {B : Nat} {a w : World} (h : Below B a w) {b : Nat} (hb : B ≤ b) (cs : Array Value) : Below B a (w.setRow b cs) :=
  h.trans ⟨rfl, rfl, rfl, by simp, fun k hk => setRow_other w b k cs (by omega)⟩

/-- A store into a version. -/
theorem Sim.write (h : Sim w0 B0 ρ s w) {g j off b st n : Nat} {cs : List AV} {vs : List Value} {cur : Array Value} {e : TypeId} (hρ : ρ g j = some (b, st, n)) (hw : s.write g j off cs = some s')
    (hc : CR w0 B0 ρ cs vs) (hb : w.heap[b]? = some (.cells cur e (0, 0))) :
    st + off + vs.length ≤ cur.size ∧ Sim w0 B0 ρ s' (w.setRow b (cur.toList.take (st + off) ++ vs ++ cur.toList.drop (st + off + vs.length)).toArray) := by
  obtain ⟨G, G', hG, hGw, rfl, hlf⟩ := St.write_spec hw
  obtain ⟨hB, G1, V, hG1, hV, hvr⟩ := h.ver g j b st n hρ
  rw [hG] at hG1
  cases hG1
  obtain ⟨V1, hV1, ⟨_, hle⟩, hlen, hj, hk⟩ := Grp.write_spec hGw
  rw [hV] at hV1
  cases hV1
  have hfit : st + off + vs.length ≤ cur.size := by
    obtain ⟨h2, h3, _⟩ := hvr.cells hb
    have := hc.1
    omega
  refine ⟨hfit, ⟨Below.setRow' h.low hB _, by simpa using h.big, ?_, ?_, h.sep, h.ctr⟩⟩
  · intro g' j' b' st' n' hρ'
    obtain ⟨hB', G2, V2, hG2, hV2, hvr2⟩ := h.ver g' j' b' st' n' hρ'
    refine ⟨hB', ?_⟩
    by_cases hg : g' = g
    · subst hg
      rw [hG] at hG2
      cases hG2
      by_cases hjj : j' = j
      · subst hjj
        rw [hρ] at hρ'
        cases hρ'
        rw [hV] at hV2
        cases hV2
        exact ⟨G', _, St.get_setG_eq _ _ _, hj, hvr2.write hb hle hc hlf⟩
      · refine ⟨G', _, St.get_setG_eq _ _ _, hk j' V2 hjj hV2, ?_⟩
        exact hvr2.poke hb hc.1 hfit (hc.leaf hlf) (fun hbb => by
          subst hbb
          exact (h.al _ _ _ _ _ _ _ _ _ _ _ hρ hρ' hG hV hV2).1)
    · refine ⟨G2, V2, by rw [St.get_setG_ne _ _ _ hg]; exact hG2, hV2, hvr2.mono (Loc.le_refl _) (setRow_other w b b' _ (fun hbb => ?_))⟩
      subst hbb
      exact hg (h.sep _ _ _ _ _ _ _ _ _ hρ' hρ)
  · intro g1 j1 j2 b1 st1 st2 n1 n2 G3 U1 U2 h1 h2 h3 h4 h5
    by_cases hg : g1 = g
    · subst hg
      rw [St.get_setG_eq] at h3
      cases h3
      -- deltas are as they were
      have hd : ∀ (k : Nat) (U : Ver), G'.vers[k]? = some U → ∃ U0 : Ver, G.vers[k]? = some U0 ∧ U0.delta = U.delta := by
        intro k U hU
        by_cases hkj : k = j
        · subst hkj
          rw [hj] at hU
          cases hU
          exact ⟨V, hV, rfl⟩
        · have hkl : k < G.vers.length := by rw [← hlen]; exact (List.getElem?_eq_some_iff.1 hU).1
          have := hk k G.vers[k] hkj (by simp [hkl])
          rw [hU] at this
          cases this
          exact ⟨G.vers[k], by simp [hkl], rfl⟩
      obtain ⟨V1, hV1, e1⟩ := hd j1 U1 h4
      obtain ⟨V2, hV2, e2⟩ := hd j2 U2 h5
      have := h.al _ _ _ _ _ _ _ _ _ _ _ h1 h2 hG hV1 hV2
      rw [← e1, ← e2]
      exact this
    · rw [St.get_setG_ne _ _ _ hg] at h3
      exact h.al _ _ _ _ _ _ _ _ _ _ _ h1 h2 h3 h4 h5

/-- A group gets a version that lies in a block of its own. -/
theorem Sim.grow_new (h : Sim w0 B0 ρ s w) {g a m d : Nat} {G : Grp} {cs : List AV} {arr : Array Value} (e : TypeId) (hg : g < s.ctr) (hG : s.get g = some G) (hρ : ρ g G.vers.length = none)
    (hn : cs.length ≤ arr.size) (hlf : cs.all AV.leaf = true) (hc : ∀ (i : Nat) (u : AV) (v : Value), cs[i]? = some u → arr[i]? = some v → VR w0 B0 ρ u v) :
    ρ.le (ρ.put g G.vers.length (w.heap.size, 0, arr.size)) ∧
      Sim w0 B0 (ρ.put g G.vers.length (w.heap.size, 0, arr.size)) (s.setG g ⟨(G.vers.map fun U => U.poke a m) ++ [⟨cs, d, none⟩]⟩) (w.alloc (.cells arr e)) := by
  have hle : ρ.le (ρ.put g G.vers.length (w.heap.size, 0, arr.size)) := Loc.put_le hρ
  have hold : ∀ (j : Nat) (V : Ver), G.vers[j]? = some V → (((G.vers.map fun U => U.poke a m) ++ [(⟨cs, d, none⟩ : Ver)]))[j]? = some (V.poke a m) := by
    intro j V hV
    have hj : j < G.vers.length := (List.getElem?_eq_some_iff.1 hV).1
    rw [List.getElem?_append_left (by simpa using hj), List.getElem?_map, hV]
    rfl
  have hnew : (((G.vers.map fun U => U.poke a m) ++ [(⟨cs, d, none⟩ : Ver)]))[G.vers.length]? = some ⟨cs, d, none⟩ := by
    rw [List.getElem?_append_right (by simp)]
    simp
  have hlt : ∀ {j x}, ρ g j = some x → j < G.vers.length := by
    intro j x hx
    obtain ⟨b, st, n⟩ := x
    obtain ⟨_, G1, V1, hG1, hV1, _⟩ := h.ver g j b st n hx
    rw [hG] at hG1
    cases hG1
    exact (List.getElem?_eq_some_iff.1 hV1).1
  refine ⟨hle, ⟨h.low.alloc h.big _, by have := h.big; show B0 ≤ (w.heap.push _).size; rw [Array.size_push]; omega, ?_, ?_, ?_, ?_⟩⟩
  · intro g' j' b st n hp
    rcases Loc.put_inv hp with ⟨rfl, rfl, hx⟩ | hp
    · cases hx
      refine ⟨h.big, _, _, St.get_setG_eq _ _ _, hnew, VerR.arr arr e (heap_alloc_new _ _) rfl (by simpa using hn) hlf (fun i u v hu hv => ?_) rfl⟩
      simp only [Nat.zero_add] at hv
      exact (hc i u v hu hv).mono hle
    · obtain ⟨h1, G2, V2, h2, h3, h4⟩ := h.ver g' j' b st n hp
      refine ⟨h1, ?_⟩
      have hsame := Below.heap_alloc w (.cells arr e) b (h.blk_lt hp)
      by_cases hgg : g' = g
      · subst hgg
        rw [hG] at h2
        cases h2
        refine ⟨_, _, St.get_setG_eq _ _ _, hold j' V2 h3, ?_⟩
        cases h4 with
        | map es ents clock h5 h6 h7 h8 => exact .map es ents clock (by rw [hsame]; exact h5) (h6.mono hle) h7 (by simp [Ver.poke, h8])
        | arr c e' h5 h6 h7 h8 h9 hmp =>
        refine .arr c e' (by rw [hsame]; exact h5) h6 (by rw [length_poke]; exact h7) (all_poke h8) (fun i u v hu hv => ?_) hmp
        rw [getElem?_poke] at hu
        cases hU : V2.cells[i]? with
        | none => simp [hU] at hu
        | some u0 =>
          simp only [hU, Option.map_some, Option.some.injEq] at hu
          have hh := h9 i u0 v hU hv
          split at hu
          · subst hu; exact .poison v (hh.leaf (List.all_eq_true.1 h8 _ (List.mem_of_getElem? hU)))
          · subst hu; exact hh.mono hle
      · exact ⟨G2, V2, by rw [St.get_setG_ne _ _ _ hgg]; exact h2, h3, h4.mono hle hsame⟩
  · intro g1 j1 j2 b st st' n n' G3 U1 U2 h1 h2 h3 h4 h5
    rcases Loc.put_inv h1 with ⟨rfl, rfl, hx⟩ | h1' <;> rcases Loc.put_inv h2 with ⟨h2a, rfl, hy⟩ | h2'
    · cases hx; cases hy
      rw [h4] at h5; cases h5
      exact ⟨rfl, rfl⟩
    · cases hx; exact absurd (h.blk_lt h2') (by omega)
    · cases hy; exact absurd (h.blk_lt h1') (by omega)
    · by_cases hgg : g1 = g
      · subst hgg
        rw [St.get_setG_eq] at h3
        cases h3
        have l1 := hlt h1'
        have l2 := hlt h2'
        have e1 := hold j1 G.vers[j1] (by simp [l1])
        have e2 := hold j2 G.vers[j2] (by simp [l2])
        rw [h4] at e1
        rw [h5] at e2
        cases e1
        cases e2
        exact h.al _ _ _ _ _ _ _ _ _ G.vers[j1] G.vers[j2] h1' h2' hG (by simp [l1]) (by simp [l2])
      · rw [St.get_setG_ne _ _ _ hgg] at h3
        exact h.al _ _ _ _ _ _ _ _ _ _ _ h1' h2' h3 h4 h5
  · intro g1 g2 j1 j2 b st st' n n' h1 h2
    rcases Loc.put_inv h1 with ⟨rfl, rfl, hx⟩ | h1' <;> rcases Loc.put_inv h2 with ⟨rfl, rfl, hy⟩ | h2'
    · rfl
    · cases hx; exact absurd (h.blk_lt h2') (by omega)
    · cases hy; exact absurd (h.blk_lt h1') (by omega)
    · exact h.sep _ _ _ _ _ _ _ _ _ h1' h2'
  · intro g' j' x hp
    rcases Loc.put_inv hp with ⟨rfl, _, _⟩ | hp
    · exact hg
    · exact h.ctr _ _ _ hp

/-- A group gets a version that lies in the block of one that it has: what is appended is written behind that one's part. -/
theorem Sim.grow_in (h : Sim w0 B0 ρ s w) {g j off b st n k : Nat} {G : Grp} {V : Ver} {old cs : List AV} {vs : List Value} {cur : Array Value} {e : TypeId} (hρ : ρ g j = some (b, st, n)) (hG : s.get g = some G)
    (hV : G.vers[j]? = some V) (hρ' : ρ g G.vers.length = none) (hold : G.read j off k = some old) (hc : CR w0 B0 ρ cs vs) (hlf : cs.all AV.leaf = true) (hb : w.heap[b]? = some (.cells cur e (0, 0)))
    (hfit : st + off + k + vs.length ≤ n) :
    ρ.le (ρ.put g G.vers.length (b, st + off, n)) ∧
      Sim w0 B0 (ρ.put g G.vers.length (b, st + off, n)) (s.setG g ⟨(G.vers.map fun U => U.poke (V.delta + off + k) cs.length) ++ [⟨old ++ cs, V.delta + off, none⟩]⟩)
        (w.setRow b (cur.toList.take (st + off + k) ++ vs ++ cur.toList.drop (st + off + k + vs.length)).toArray) := by
  have hle : ρ.le (ρ.put g G.vers.length (b, st + off, n)) := Loc.put_le hρ'
  obtain ⟨hB, G1, V1, hG1, hV1, hvr⟩ := h.ver g j b st n hρ
  rw [hG] at hG1
  cases hG1
  rw [hV] at hV1
  cases hV1
  obtain ⟨V1, hV1, ⟨_, hole⟩, hoeq⟩ := Grp.read_spec hold
  rw [hV] at hV1
  cases hV1
  have hsz : cur.size = n := by
    exact (hvr.cells hb).1
  have hone := hc.leaf hlf
  have holdv : ∀ (j : Nat) (V : Ver), G.vers[j]? = some V → ∀ (a m d : Nat) (cs' : List AV), (((G.vers.map fun U => U.poke a m) ++ [(⟨cs', d, none⟩ : Ver)]))[j]? = some (V.poke a m) := by
    intro j V hV a m d cs'
    have hj : j < G.vers.length := (List.getElem?_eq_some_iff.1 hV).1
    rw [List.getElem?_append_left (by simpa using hj), List.getElem?_map, hV]
    rfl
  have hnew : ∀ (a m d : Nat) (cs' : List AV), (((G.vers.map fun U => U.poke a m) ++ [(⟨cs', d, none⟩ : Ver)]))[G.vers.length]? = some ⟨cs', d, none⟩ := by
    intro a m d cs'
    rw [List.getElem?_append_right (by simp)]
    simp
  have hlt : ∀ {j x}, ρ g j = some x → j < G.vers.length := by
    intro j x hx
    obtain ⟨b, st, n⟩ := x
    obtain ⟨_, G1, V1, hG1, hV1, _⟩ := h.ver g j b st n hx
    rw [hG] at hG1
    cases hG1
    exact (List.getElem?_eq_some_iff.1 hV1).1
  have hlfold : old.all AV.leaf = true := by
    obtain ⟨h2, h3, h4, h5, _⟩ := hvr.cells hb
    subst hoeq
    rw [List.all_eq_true] at h4 ⊢
    exact fun x hx => h4 x (List.mem_of_mem_drop (List.mem_of_mem_take hx))
  have hol : old.length = k := by subst hoeq; simp; omega
  refine ⟨hle, ⟨Below.setRow' h.low hB _, by simpa using h.big, ?_, ?_, ?_, ?_⟩⟩
  · intro g' j' b' st' n' hp
    rcases Loc.put_inv hp with ⟨rfl, rfl, hx⟩ | hp'
    · cases hx
      refine ⟨hB, _, _, St.get_setG_eq _ _ _, hnew _ _ _ _, ?_⟩
      obtain ⟨h2, h3, h4, h5, _⟩ := hvr.cells hb
      refine .arr _ e (setRow_heap w b cur _ e _ hb) (by simp; omega) (by simp [hol, hc.1]; omega) (by simp [hlfold, hlf]) (fun i u v hu hv => ?_) rfl
      have hr := getElem?_row (l := cur.toList) (cs := vs) (off := st + off + k) (i := st + off + i) (by simp; omega)
      rw [List.getElem?_toArray, hr] at hv
      by_cases hin : i < k
      · rw [List.getElem?_append_left (by omega)] at hu
        rw [if_neg (by omega)] at hv
        subst hoeq
        rw [List.getElem?_take, if_pos hin, List.getElem?_drop] at hu
        exact (h5 (off + i) u v hu (by rw [← Array.getElem?_toList, ← Nat.add_assoc]; exact hv)).mono hle
      · rw [List.getElem?_append_right (by omega)] at hu
        have hlt2 : i - old.length < cs.length := (List.getElem?_eq_some_iff.1 hu).1
        rw [if_pos (by have := hc.1; omega)] at hv
        rw [show st + off + i - (st + off + k) = i - old.length by omega] at hv
        exact (hc.2 _ u v hu hv).mono hle
    · obtain ⟨h1, G2, V2, h2, h3, h4⟩ := h.ver g' j' b' st' n' hp'
      refine ⟨h1, ?_⟩
      by_cases hgg : g' = g
      · subst hgg
        rw [hG] at h2
        cases h2
        refine ⟨_, _, St.get_setG_eq _ _ _, holdv j' V2 h3 _ _ _ _, ?_⟩
        have hpk := VerR.poke (V := V) (off := off + k) (vs := vs) (m := cs.length) h4 hb hc.1 (by omega) hone (st := st) (fun hbb => by
          subst hbb
          exact (h.al _ _ _ _ _ _ _ _ _ _ _ hρ hp' hG hV h3).1)
        rw [← Nat.add_assoc, ← Nat.add_assoc] at hpk
        exact hpk.mono hle rfl
      · refine ⟨G2, V2, by rw [St.get_setG_ne _ _ _ hgg]; exact h2, h3, h4.mono hle (setRow_other w b b' _ (fun hbb => ?_))⟩
        subst hbb
        exact hgg (h.sep _ _ _ _ _ _ _ _ _ hp' hρ)
  · intro g1 j1 j2 b1 st1 st2 n1 n2 G3 U1 U2 h1 h2 h3 h4 h5
    have key : ∀ (j2 st2 n2 : Nat) (U2 : Ver), ρ g j2 = some (b, st2, n2) → ((G.vers.map fun U => U.poke (V.delta + off + k) cs.length) ++ [(⟨old ++ cs, V.delta + off, none⟩ : Ver)])[j2]? = some U2 → st + U2.delta = st2 + V.delta ∧ n = n2 := by
      intro j2 st2 n2 U2 h2 h5
      have l2 := hlt h2
      have e2 := holdv j2 G.vers[j2] (by simp [l2]) (V.delta + off + k) cs.length (V.delta + off) (old ++ cs)
      rw [h5] at e2
      cases e2
      exact h.al _ _ _ _ _ _ _ _ _ V G.vers[j2] hρ h2 hG hV (by simp [l2])
    rcases Loc.put_inv h1 with ⟨rfl, rfl, hx⟩ | h1' <;> rcases Loc.put_inv h2 with ⟨h2a, rfl, hy⟩ | h2'
    · cases hx; cases hy
      rw [h4] at h5; cases h5
      exact ⟨rfl, rfl⟩
    · cases hx
      rw [St.get_setG_eq] at h3
      cases h3
      have := key j2 st2 n2 U2 h2' h5
      rw [hnew] at h4
      cases h4
      dsimp only
      omega
    · cases hy
      subst h2a
      rw [St.get_setG_eq] at h3
      cases h3
      have := key j1 st1 n1 U1 h1' h4
      rw [hnew] at h5
      cases h5
      dsimp only
      omega
    · by_cases hgg : g1 = g
      · subst hgg
        rw [St.get_setG_eq] at h3
        cases h3
        have l1 := hlt h1'
        have l2 := hlt h2'
        have e1 := holdv j1 G.vers[j1] (by simp [l1]) (V.delta + off + k) cs.length (V.delta + off) (old ++ cs)
        have e2 := holdv j2 G.vers[j2] (by simp [l2]) (V.delta + off + k) cs.length (V.delta + off) (old ++ cs)
        rw [h4] at e1
        rw [h5] at e2
        cases e1
        cases e2
        exact h.al _ _ _ _ _ _ _ _ _ G.vers[j1] G.vers[j2] h1' h2' hG (by simp [l1]) (by simp [l2])
      · rw [St.get_setG_ne _ _ _ hgg] at h3
        exact h.al _ _ _ _ _ _ _ _ _ _ _ h1' h2' h3 h4 h5
  · intro g1 g2 j1 j2 b1 st1 st2 n1 n2 h1 h2
    rcases Loc.put_inv h1 with ⟨rfl, rfl, hx⟩ | h1' <;> rcases Loc.put_inv h2 with ⟨rfl, rfl, hy⟩ | h2'
    · rfl
    · cases hx; exact (h.sep _ _ _ _ _ _ _ _ _ h2' hρ).symm
    · cases hy; exact h.sep _ _ _ _ _ _ _ _ _ h1' hρ
    · exact h.sep _ _ _ _ _ _ _ _ _ h1' h2'
  · intro g' j' x hp
    rcases Loc.put_inv hp with ⟨rfl, _, _⟩ | hp
    · exact h.ctr _ _ _ hρ
    · exact h.ctr _ _ _ hp
end
end Go.Ab
