/- What came in, as the abstract machine sees it: rows of the arguments' data. -/
import Derived.Test.YtdpdlmjlahehoaaG15
import Derived.Test.YtdpdlmjlahehoaaGI
import Derived.ChangeArms
namespace Go.Ab
def packE {H : Type} (d : DataW H) (cs : List AV) : AV := match d with
  | .agg _ => .agg cs
  | _ => cs.headD .undef
mutual
/-- The cells of what was read. -/
def avs {H : Type} : DataW H → List AV
  | .lit (.int k n) => [.int k n]
  | .lit (.bool b) => [.bool b]
  | .lit (.string bs) => [.str ⟨bs.toArray⟩]
  | .nil => [.ro true []]
  | .slice es _ => [.ro false (elts es)]
  | .agg ds => avsAll ds
  | _ => [.undef]
def avsAll {H : Type} : List (DataW H) → List AV
  | [] => []
  | d :: r => avs d ++ avsAll r
def elts {H : Type} : List (DataW H) → List AV
  | [] => []
  | d :: r => packE d (avs d) :: elts r
end
theorem elts_map {H : Type} : ∀ (l : List (DataW H)), elts l = l.map fun d => packE d (avs d)
  | [] => by rw [elts]; rfl
  | d :: r => by rw [elts, elts_map r]; rfl
/-- Data of a type. -/
def HasTy {H : Type} (P : Program) : Nat → TypeId → DataW H → Prop
  | 0, _, _ => False
  | n + 1, t, d => match P.underlying t with
    | some .bool => ∃ b, d = .lit (.bool b)
    | some (.int k) => ∃ m, d = .lit (.int k m) ∧ (Lit.int k m).wf = true
    | some .string => ∃ bs, d = .lit (.string bs)
    | some (.slice e) => d = .nil ∨ ∃ es sp, d = .slice es sp ∧ ∀ x ∈ es, HasTy P n e x
    | some (.struct fs) => ∃ ds, d = .agg ds ∧ ds.length = fs.toList.length ∧ ∀ (i : Nat) (f : Field) (x : DataW H), fs.toList[i]? = some f → ds[i]? = some x → HasTy P n f.type x
    | _ => False
theorem HasTy.pack {H : Type} {P : Program} {n : Nat} {t : TypeId} {d : DataW H} (h : HasTy P n t d) : (packE d (avs d)).cells = avs d := by
  cases n with
  | zero => exact h.elim
  | succ n =>
    unfold HasTy at h
    split at h
    · obtain ⟨b, rfl⟩ := h; simp [avs, packE, AV.cells]
    · obtain ⟨b, rfl, -⟩ := h; simp [avs, packE, AV.cells]
    · obtain ⟨b, rfl⟩ := h; simp [avs, packE, AV.cells]
    · rcases h with rfl | ⟨es, sp, rfl, -⟩ <;> simp [avs, packE, AV.cells]
    · obtain ⟨ds, rfl, -⟩ := h; simp [avs, packE, AV.cells]
    · exact h.elim
theorem mapM_some' {α β : Type} {f : α → Option β} : ∀ {l : List α} {r : List β}, l.mapM f = some r → l.length = r.length ∧ ∀ (i : Nat) (x : α) (y : β), l[i]? = some x → r[i]? = some y → f x = some y
  | [], r, h => by simp at h; subst h; exact ⟨rfl, fun i x y h => by simp at h⟩
  | a :: l, r, h => by
    rw [List.mapM_cons] at h
    cases ha : f a with
    | none => simp [ha] at h
    | some b =>
      cases hl : l.mapM f with
      | none => simp [ha, hl] at h
      | some r' =>
        simp [ha, hl] at h
        subst h
        obtain ⟨h1, h2⟩ := mapM_some' hl
        refine ⟨by simp [h1], fun i x y hx hy => ?_⟩
        cases i with
        | zero => simp at hx hy; subst hx; subst hy; exact ha
        | succ i => exact h2 i x y (by simpa using hx) (by simpa using hy)
section
variable {H : Type} {enc : TypeId × Value → H} {P : Program} {w : World} {spare : Nat → Bool} {held : Bool} {ρ : Loc}
/-- What a reading of one type gives. -/
def RdOk (w : World) (P : Program) (ρ : Loc) (n : Nat) (t : TypeId) (cs : List Value) (d : DataW H) : Prop :=
  HasTy P n t d ∧ (avs d).length = cs.length ∧ CR w w.heap.size ρ (avs d) cs ∧ (avs d).all AV.leaf = true
theorem fields_read {n : Nat} (ih : ∀ t cs x, DataW.trod enc P w 0 spare held n t cs = some x → ∀ m, Plain P m t = true → RdOk w P ρ n t cs x.1) {m : Nat} {cs : List Value} :
    ∀ (fs : List Field) (k N : Nat) (xs : List (DataW H × List MemPlace)), N = cs.length → xs.length = fs.length → (∀ (i : Nat) (f : Field), fs[i]? = some f → DataW.trod enc P w 0 spare held n f.type ((cs.drop f.offset).take (P.cellsOf f.type)) = xs[i]?) → tiles P k fs N = true → (∀ f ∈ fs, Plain P m f.type = true) →
      (avsAll (xs.map (·.1))).length = (cs.drop k).length ∧ CR w w.heap.size ρ (avsAll (xs.map (·.1))) (cs.drop k) ∧ (avsAll (xs.map (·.1))).all AV.leaf = true ∧ ∀ (i : Nat) (f : Field) (x : DataW H × List MemPlace), fs[i]? = some f → xs[i]? = some x → HasTy P n f.type x.1
  | [], k, N, xs, hN, hl, h, ht, hp => by
    have : xs = [] := List.eq_nil_of_length_eq_zero hl
    subst this
    simp only [tiles, beq_iff_eq] at ht
    subst ht hN
    simp [avsAll, CR.nil]
  | f :: r, k, N, xs, hN, hl, h, ht, hp => by
    cases xs with
    | nil => simp at hl
    | cons b ys =>
      simp only [tiles, Bool.and_eq_true, beq_iff_eq] at ht
      obtain ⟨hoff, ht⟩ := ht
      have h0 := h 0 f rfl
      simp only [List.getElem?_cons_zero] at h0
      obtain ⟨h5, h1, h2, h6⟩ := ih _ _ b h0 m (hp f (List.mem_cons_self ..))
      obtain ⟨h3, h4, h7, h8⟩ := fields_read ih r (k + P.cellsOf f.type) N ys hN (by simpa using hl) (fun i g hg => by have := h (i + 1) g (by simpa using hg); simpa using this) ht (fun g hg => hp g (List.mem_cons_of_mem _ hg))
      rw [hoff] at h1 h2
      have e : cs.drop k = (cs.drop k).take (P.cellsOf f.type) ++ cs.drop (k + P.cellsOf f.type) := by
        rw [← List.drop_drop, List.take_append_drop]
      rw [List.map_cons, avsAll, e]
      refine ⟨by rw [List.length_append, List.length_append, h1, h3], h2.append h4, by rw [List.all_append, h6, h7]; rfl, fun i g x hg hx => ?_⟩
      cases i with
      | zero => simp at hg hx; subst hg; subst hx; exact h5
      | succ i => exact h8 i g x (by simpa using hg) (by simpa using hx)
theorem cells_at {w : World} {base : Nat} {a : Addr} {n : Nat} {cs : List Value} (h : w.cells? base a n = some cs) : cs.length = n ∧ ∀ (k : Nat) (v : Value), cs[k]? = some v → w.cell? (a.add k) = some v := by
  unfold World.cells? at h
  split at h
  · obtain ⟨h1, h2⟩ := mapM_some' h
    refine ⟨by rw [← h1, List.length_range], fun k v hv => ?_⟩
    have hk : k < n := by
      have := (List.getElem?_eq_some_iff.1 hv).1
      rw [← h1, List.length_range] at this; exact this
    exact h2 k k v (by rw [List.getElem?_range hk]) hv
  · cases h
theorem spot_none {w : World} {a : Addr} {v : Value} (h : w.cell? a = some v) : a.spot = none ∧ a.block < w.heap.size := by
  unfold World.cell? at h
  split at h
  · rename_i hb
    split at h
    · cases h
    · rename_i hs
      refine ⟨by simpa using hs, ?_⟩
      rcases Nat.lt_or_ge a.block w.heap.size with hl | hl
      · exact hl
      · rw [Array.getElem?_eq_none hl] at hb; cases hb
  · cases h
theorem CR.sole {u : AV} {v : Value} (h : VR w w.heap.size ρ u v) : CR w w.heap.size ρ [u] [v] := CR.cons h CR.nil
theorem read_ok : ∀ (n : Nat) (t : TypeId) (cs : List Value) (x : DataW H × List MemPlace), DataW.trod enc P w 0 spare held n t cs = some x → ∀ m, Plain P m t = true → RdOk w P ρ n t cs x.1
  | 0, _, _, _, h, _, _ => by simp [DataW.trod] at h
  | n + 1, t, cs, x, h, 0, hp => by simp [Plain] at hp
  | n + 1, t, cs, x, h, m + 1, hp => by
    have ih := fun t cs x h m hp => read_ok n t cs x h m hp
    unfold Plain at hp
    unfold RdOk HasTy
    cases hu : P.underlying t with
    | none => simp [hu] at hp
    | some td =>
      rw [hu] at hp
      cases td with
      | bool =>
        obtain ⟨b, rfl, rfl⟩ := DataW.trod_bool hu h
        exact ⟨⟨b, rfl⟩, by simp [avs], by simp only [avs]; exact CR.sole (.bool b), by simp [avs, AV.leaf]⟩
      | int k =>
        obtain ⟨b, rfl, rfl, hw⟩ := DataW.trod_int hu h
        exact ⟨⟨b, rfl, hw⟩, by simp [avs], by simp only [avs]; exact CR.sole (.int k b), by simp [avs, AV.leaf]⟩
      | string =>
        obtain ⟨b, rfl, rfl, hw⟩ := DataW.trod_string hu h
        exact ⟨⟨_, rfl⟩, by simp [avs], by simp only [avs]; exact CR.sole (.str b), by simp [avs, AV.leaf]⟩
      | slice e =>
        simp only [Bool.and_eq_true, decide_eq_true_eq] at hp
        rcases DataW.trod_slice hu h with ⟨rfl, rfl⟩ | ⟨a, len, cap, elems, rest, n', hn, rfl, rfl, hb, hlc, hcm, hel, helem, -, -⟩
        · refine ⟨.inl rfl, by simp [avs], ?_, by simp [avs, AV.leaf]⟩
          simp only [avs]
          exact CR.sole (.ro true [] none 0 (fun _ _ => undef) (Nat.le_refl _) (by simp) (fun _ => rfl) (fun a h => by cases h) (fun i x h => by simp at h) (fun i x h => by simp at h))
        · obtain rfl : n = n' := by omega
          have hall : ∀ (i : Nat) (y : DataW H × List MemPlace), elems[i]? = some y → ∃ vs, w.cells? 0 (a.add (i * P.cellsOf e)) (P.cellsOf e) = some vs ∧ RdOk w P ρ n e vs y.1 := by
            intro i y hy
            have hi : i < len := by have := (List.getElem?_eq_some_iff.1 hy).1; omega
            have := helem i hi
            rw [hy] at this
            cases hc : w.cells? 0 (a.add (i * P.cellsOf e)) (P.cellsOf e) with
            | none => rw [hc] at this; cases this
            | some vs => rw [hc] at this; exact ⟨vs, rfl, ih e vs y this m hp.2⟩
          refine ⟨.inr ⟨_, _, rfl, fun d hd => ?_⟩, by simp [avs], ?_, by simp [avs, AV.leaf]⟩
          · obtain ⟨y, hy, rfl⟩ := List.mem_map.1 hd
            obtain ⟨i, hi⟩ := List.getElem?_of_mem hy
            obtain ⟨vs, -, h1, -⟩ := hall i y hi
            exact h1
          · simp only [avs]
            refine CR.sole ?_
            have hlen : (elts (elems.map (·.1))).length = len := by rw [elts_map]; simp [hel]
            have hget : ∀ (i : Nat) (u : AV), (elts (elems.map (·.1)))[i]? = some u → ∃ y vs, elems[i]? = some y ∧ w.cells? 0 (a.add (i * P.cellsOf e)) (P.cellsOf e) = some vs ∧ u.cells = avs y.1 ∧ RdOk w P ρ n e vs y.1 := by
              intro i u hu'
              rw [elts_map, List.map_map, List.getElem?_map] at hu'
              cases hy : elems[i]? with
              | none => rw [hy] at hu'; cases hu'
              | some y =>
                rw [hy] at hu'
                obtain ⟨vs, h1, h2⟩ := hall i y hy
                cases hu'
                exact ⟨y, vs, rfl, h1, h2.1.pack, h2⟩
            have hadd : ∀ (b : Addr) (k : Nat), b.spot = none → b.add k = ⟨b.block, b.off + k, none⟩ := by
              intro b k hb
              obtain ⟨b1, b2, b3⟩ := b
              simp only at hb
              subst hb
              unfold Addr.add
              split
              · rename_i h0; rw [h0]; rfl
              · rfl
            have hsp : elems ≠ [] → a.spot = none ∧ a.block < w.heap.size := by
              intro hne
              obtain ⟨y, hy⟩ : ∃ y, elems[0]? = some y := by
                cases elems with
                | nil => exact (hne rfl).elim
                | cons y r => exact ⟨y, rfl⟩
              obtain ⟨vs, h2, -⟩ := hall 0 y hy
              obtain ⟨h7, h8⟩ := cells_at h2
              have hv := List.getElem?_eq_getElem (show 0 < vs.length by rw [h7]; exact hp.1)
              have := h8 0 _ hv
              rw [Nat.zero_mul] at this
              exact spot_none (a := a) this
            have hcell : ∀ (i : Nat) (u : AV), (elts (elems.map (·.1)))[i]? = some u → ∀ (k : Nat) (c : AV), u.cells[k]? = some c → ∃ v, w.cell? ⟨a.block, a.off + i * u.cells.length + k, none⟩ = some v ∧ VR w w.heap.size ρ c v := by
              intro i u hu' k c hc
              obtain ⟨y, vs, hy, h2, h3, h4, h5, h6, -⟩ := hget i u hu'
              obtain ⟨h7, h8⟩ := cells_at h2
              rw [h3] at hc
              have hk : k < vs.length := by rw [← h5]; exact (List.getElem?_eq_some_iff.1 hc).1
              have hv := List.getElem?_eq_getElem hk
              refine ⟨vs[k], ?_, h6.2 k c _ hc hv⟩
              have := h8 k _ hv
              have hs := (hsp (fun e => by rw [e] at hy; simp at hy)).1
              rw [hadd a _ hs, hadd _ _ rfl] at this
              rw [h3, h5, h7]
              exact this
            have key : VR w w.heap.size ρ (.ro false (elts (elems.map (·.1)))) (.slice (some a) (elts (elems.map (·.1))).length cap) := by
              refine .ro false _ (some a) cap (fun i k => match (elts (elems.map (·.1)))[i]? with
                | some u => (w.cell? ⟨a.block, a.off + i * u.cells.length + k, none⟩).getD undef
                | none => undef) (by omega) (by simp) (fun h => by cases h) ?_ ?_ ?_
              · intro a' ha hne
                cases ha
                exact hsp (fun e => hne (by rw [e]; rfl))
              · intro i u hu' k c hc a' ha
                cases ha
                obtain ⟨v, hv, -⟩ := hcell i u hu' k c hc
                simp only [hu', hv]
                rfl
              · intro i u hu' k c hc
                obtain ⟨v, hv, hr⟩ := hcell i u hu' k c hc
                simp only [hu', hv]
                exact hr
            rw [hlen] at key
            exact key
      | struct fs =>
        obtain ⟨xs, n', hn, rfl, hcs, hxl, hx⟩ := DataW.trod_struct hu h
        obtain rfl : n = n' := by omega
        simp only [Bool.and_eq_true, List.all_eq_true] at hp
        obtain ⟨h1, h2, h3, h4⟩ := fields_read (ρ := ρ) ih fs.toList 0 (P.cellsOf t) xs hcs.symm (by simpa using hxl) (fun i f hf => hx i f (by simpa using hf)) hp.1 hp.2
        refine ⟨⟨_, rfl, by simp [hxl], fun i f y hf hy => ?_⟩, ?_, ?_, ?_⟩
        · rw [List.getElem?_map] at hy
          cases hxi : xs[i]? with
          | none => rw [hxi] at hy; cases hy
          | some z => rw [hxi] at hy; cases hy; exact h4 i f z hf hxi
        · simp only [avs]; simpa using h1
        · simp only [avs]; simpa using h2
        · simp only [avs]; exact h3
      | _ => simp at hp
end
end Go.Ab
