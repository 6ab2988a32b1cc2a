/- More operations: structs built, slices made, fields, indexes, tests and sums. -/
import Derived.Test.YtdpdlmjlahehoaaG4
import Derived.Laws.Tables
import Derived.DataShut
namespace Go.Ab
open Go.RowKit
section
variable {P : Program} {w0 : World} {B0 : Nat} {ρ : Loc} {s s' : St} {w : World} {T : Tab}
variable {a : Act} {o : Oper} {t : TL} {r : Res}

/-- Parts, one by one. -/
def PR (w0 : World) (B0 : Nat) (ρ : Loc) : List (Nat × AV) → List (Nat × Value) → Prop
  | [], [] => True
  | (i, u) :: r, (j, v) :: q => i = j ∧ VR w0 B0 ρ u v ∧ PR w0 B0 ρ r q
  | _, _ => False
theorem TR.parts (ht : TR w0 B0 ρ t a.tmps) : ∀ {l : List (Nat × Operand)} {ps : List (Nat × AV)}, evParts t l = some ps → PR w0 B0 ρ ps (l.map fun x => (x.1, a.eval x.2)) := by
  intro l
  induction l with
  | nil => intro ps h; simp only [evParts, Option.some.injEq] at h; subst h; trivial
  | cons x r ih =>
    intro ps h
    obtain ⟨i, x⟩ := x
    simp only [evParts] at h
    cases h1 : ev t x with
    | none => simp [h1] at h
    | some u =>
      cases h2 : evParts t r with
      | none => simp [h1, h2] at h
      | some vs =>
        simp only [h1, h2, Option.some.injEq] at h
        subst h
        exact ⟨rfl, ht.eval h1, ih h2⟩

theorem foldl_set (off : Nat) : ∀ (l : List Value) (k : Nat) (arr : Array Value), off + k + l.length ≤ arr.size →
    ((l.zipIdx k).foldl (fun (cs : Array Value) (p : Value × Nat) => cs.setIfInBounds (off + p.2) p.1) arr).toList = arr.toList.take (off + k) ++ l ++ arr.toList.drop (off + k + l.length)
  | [], k, arr, h => by simp
  | v :: l, k, arr, h => by
    have hlt : off + k < arr.size := by simp at h; omega
    rw [List.zipIdx_cons, List.foldl_cons]
    have ih := foldl_set off l (k + 1) (arr.setIfInBounds (off + k) v) (by simp at h ⊢; omega)
    simp only at ih ⊢
    rw [ih]
    apply List.ext_getElem?
    intro i
    have e1 := getElem?_row (l := (arr.setIfInBounds (off + k) v).toList) (cs := l) (off := off + (k + 1)) (i := i) (by simp at h ⊢; omega)
    have e2 := getElem?_row (l := arr.toList) (cs := v :: l) (off := off + k) (i := i) (by simp at h ⊢; omega)
    rw [e1, e2]
    simp only [List.length_cons, Array.toList_setIfInBounds, List.getElem?_set]
    by_cases h1 : i = off + k
    · subst h1
      have q1 : ¬ (off + (k + 1) ≤ off + k ∧ off + k < off + (k + 1) + l.length) := by omega
      have q2 : off + k ≤ off + k ∧ off + k < off + k + (l.length + 1) := by omega
      have q3 : off + k < arr.toList.length := by simpa using hlt
      rw [if_neg q1, if_pos q2]
      simp [hlt]
    · by_cases h2 : off + (k + 1) ≤ i ∧ i < off + (k + 1) + l.length
      · rw [if_pos h2, if_pos (by omega)]
        rw [show i - (off + k) = (i - (off + (k + 1))) + 1 by omega]
        simp
      · have q2 : ¬ (off + k ≤ i ∧ i < off + k + (l.length + 1)) := by omega
        rw [if_neg h2, if_neg q2, if_neg (fun e => h1 e.symm)]

theorem fill_spec (place : Nat → Option (Nat × Nat)) : ∀ (ps : List (Nat × AV)) (qs : List (Nat × Value)) (cs cs' : List AV) (arr : Array Value), PR w0 B0 ρ ps qs → CR w0 B0 ρ cs arr.toList → fillA place cs ps = some cs' →
    ∃ arr', Instr.fill place arr qs = some arr' ∧ CR w0 B0 ρ cs' arr'.toList := by
  intro ps
  induction ps with
  | nil =>
    intro qs cs cs' arr hp hc h
    cases qs with
    | nil => simp only [fillA, Option.some.injEq] at h; subst h; exact ⟨arr, rfl, hc⟩
    | cons q qs => exact hp.elim
  | cons p ps ih =>
    intro qs cs cs' arr hp hc h
    cases qs with
    | nil => exact hp.elim
    | cons q qs =>
      obtain ⟨i, u⟩ := p
      obtain ⟨j, v⟩ := q
      obtain ⟨rfl, hr, hp⟩ := hp
      simp only [fillA] at h
      simp only [Instr.fill]
      cases hpl : place i with
      | none => simp [hpl] at h
      | some os =>
        obtain ⟨off, size⟩ := os
        simp only [hpl] at h ⊢
        split at h
        · cases h
        · rename_i hn
          have hcl := hr.cells
          have hl : u.cells.length = v.cells.size := by have := hcl.1; rwa [Array.length_toList] at this
          have hl2 : cs.length = arr.size := by have := hc.1; rwa [Array.length_toList] at this
          have hn' : ¬ (v.cells.size ≠ size ∨ off + v.cells.size > arr.size) := by rw [← hl, ← hl2]; exact hn
          rw [if_neg (by simpa using hn')]
          refine ih qs _ cs' _ hp ?_ h
          have hf := foldl_set off v.cells.toList 0 arr (by simp; omega)
          have e : (v.cells.zipIdx.foldl (fun (cs : Array Value) (x : Value × Nat) => match x with | (c, j) => cs.setIfInBounds (off + j) c) arr).toList = arr.toList.take off ++ v.cells.toList ++ arr.toList.drop (off + v.cells.toList.length) := by
            rw [← Array.foldl_toList, Array.toList_zipIdx]
            simpa using hf
          rw [e]
          exact hc.over hcl off

theorem s_build (hT : TabOk P T) (ht : TR w0 B0 ρ t a.tmps) (hs : Sim w0 B0 ρ s w) {tt : TypeId} {parts : Array (Nat × Operand)} (ho : o.op = .build tt parts) (h : evOp T o.op t s = some (r, s')) : OpS P w0 B0 ρ s.ctr a o s' w r := by
  rw [ho] at h
  simp only [evOp] at h
  cases hi : T tt with
  | none => simp [hi] at h
  | some i =>
    simp only [hi] at h
    have hti := hT tt i hi
    cases hps : evParts t parts.toList with
    | none => simp [hps] at h
    | some ps =>
      simp only [hps] at h
      have hpr := ht.parts hps
      obtain ⟨ti, z, h1, h2, h3, h4, h5⟩ := hti.zeroCR
      have hz := h5 w0 B0 ρ
      have hsh := hti.sh
      have fin : ∀ arr : Array Value, ∀ cs, P.built tt (parts.toList.map fun x => (x.1, a.eval x.2)) = some arr → CR w0 B0 ρ cs arr.toList → OpS P w0 B0 ρ s.ctr a o s w (.val (.agg cs)) := by
        intro arr cs hb hcr
        refine .pure (v' := .agg arr) ?_ hs (.agg cs arr (by have := hcr.1; rwa [Array.length_toList] at this) (fun i u v hu hv => hcr.2 i u v hu (by simpa using hv)))
        have hb' : P.built tt (parts.map fun (x : Nat × Operand) => (x.1, a.eval x.2)).toList = some arr := by rw [Array.toList_map]; exact hb
        have := run_build (P := P) w tt _ arr hb'
        simp only [execOp, ho, Sem.run_bind, Sem.run_pure]
        rw [this]
        rfl
      cases hshape : i.sh with
      | struct fs =>
        rw [hshape] at hsh h
        simp only at h
        obtain ⟨fields, hu, hfs, hf⟩ := hsh
        cases hfill : fillA (fun n => (fs[n]?).map fun f => (f.1, f.2.1)) i.zero ps with
        | none => simp [hfill] at h
        | some cs =>
          simp only [hfill, Option.some.injEq, Prod.mk.injEq] at h
          obtain ⟨rfl, rfl⟩ := h
          have hplaces : fields.toList.mapM (fun f => (P.info? f.type).map fun i => (f.offset, i.size)) = some (fs.map fun f => (f.1, f.2.1)) := by
            refine mapM_some_of_get _ _ (by simp [hfs]) (fun k f hk => ?_)
            have hk' : fields[k]? = some f := by simpa using hk
            have hlt : k < fs.length := by rw [← hfs]; exact (Array.getElem?_eq_some_iff.1 hk').1
            obtain ⟨e1, ⟨tf, e2, e3⟩, _⟩ := hf k f fs[k] hk' (by simp [hlt])
            simp [e2, e3, hlt, e1]
          obtain ⟨arr, hfl, hcr⟩ := fill_spec _ ps _ i.zero cs z.cells hpr hz hfill
          refine fin arr cs ?_ hcr
          unfold Program.built
          simp only [h1, hu, h4, hplaces]
          have e : (fun (n : Nat) => ((fs.map fun (f : Nat × Nat × Bool) => (f.1, f.2.1)).toArray)[n]?) = fun (n : Nat) => (fs[n]?).map fun f => (f.1, f.2.1) := by
            funext n
            simp
          rw [e]
          exact hfl
      | array n e =>
        rw [hshape] at hsh h
        simp only at h
        cases hie : T e with
        | none => simp [hie] at h
        | some ie =>
          simp only [hie] at h
          obtain ⟨te, ze, k1, k2, _⟩ := (hT e ie hie).info
          cases hfill : fillA (fun n => some (n * ie.size, ie.size)) i.zero ps with
          | none => simp [hfill] at h
          | some cs =>
            simp only [hfill, Option.some.injEq, Prod.mk.injEq] at h
            obtain ⟨rfl, rfl⟩ := h
            obtain ⟨arr, hfl, hcr⟩ := fill_spec _ ps _ i.zero cs z.cells hpr hz hfill
            refine fin arr cs ?_ hcr
            have hu : P.underlying tt = some (.array n e) := hsh
            unfold Program.built
            simp only [h1, hu, h4, k1, k2]
            exact hfl
      | scalar => rw [hshape] at h; simp at h
      | text => rw [hshape] at h; simp at h
      | num k => rw [hshape] at h; simp at h
      | map k e => rw [hshape] at h; simp at h
      | boolean => rw [hshape] at h; simp at h
      | slice e => rw [hshape] at h; simp at h

theorem flatten_get {cs : List AV} {arr : Array Value} (hz : CR w0 B0 ρ cs arr.toList) (hn : cs.length ≠ 0) (len : Nat) : CR w0 B0 ρ (List.replicate len cs).flatten ((Array.range (len * cs.length)).map (fun x => arr[x % arr.size]!)).toList := by
  have hl : cs.length = arr.size := by have := hz.1; rwa [Array.length_toList] at this
  refine ⟨by simp, fun i u v hu hv => ?_⟩
  have hlt : i < len * cs.length := by have := (List.getElem?_eq_some_iff.1 hu).1; simpa using this
  have hmod : i % cs.length < cs.length := Nat.mod_lt _ (by omega)
  have e1 : (List.replicate len cs).flatten[i]? = cs[i % cs.length]? := by
    clear hu hv
    induction len generalizing i with
    | zero => simp at hlt
    | succ len ih =>
      rw [List.replicate_succ, List.flatten_cons]
      by_cases hi : i < cs.length
      · rw [List.getElem?_append_left hi, Nat.mod_eq_of_lt hi]
      · rw [List.getElem?_append_right (by omega), ih (i - cs.length) (by rw [Nat.add_mul] at hlt; omega) (Nat.mod_lt _ (by omega))]
        congr 1
        rw [Nat.mod_eq_sub_mod (by omega : i ≥ cs.length)]
  rw [e1] at hu
  have hv' : arr[i % arr.size]! = v := by simpa [hlt] using hv
  refine hz.2 (i % cs.length) u v hu ?_
  rw [← hv', ← hl]
  have hm2 : i % cs.length < arr.size := by omega
  simp [hm2]

/-- What is made at any time: a new row of cells, and nothing else. -/
def EarlyRun (P : Program) (w0 : World) (B0 : Nat) (ρ : Loc) (a : Act) (o : Oper) (w : World) (c : Nat) (cs : List AV) (v : AV) : Prop :=
  ∃ (arr : Array Value) (e : TypeId) (v' : Value), (execOp a.eval o).run P w = .ok (.value v') (w.alloc (.cells arr e)) ∧ cs.length ≤ arr.size ∧ cs.all AV.leaf = true ∧
    (∀ (i : Nat) (u : AV) (x : Value), cs[i]? = some u → arr[i]? = some x → VR w0 B0 ρ u x) ∧ ∀ ρ' : Loc, ρ' c 0 = some (w.heap.size, 0, arr.size) → VR w0 B0 ρ' v v'

theorem e_buildSlice (hT : TabOk P T) (ht : TR w0 B0 ρ t a.tmps) {tt : TypeId} {len : Nat} {parts : Array (Nat × Operand)} (ho : o.op = .buildSlice tt len parts)
    (h : evOp T o.op t s = some (r, s')) : ∃ v cs, r = .val v ∧ s' = s.newG ⟨[⟨cs, 0, none⟩]⟩ ∧ EarlyRun P w0 B0 ρ a o w s.ctr cs v := by
  rw [ho] at h
  simp only [evOp] at h
  split at h
  · rename_i e sz by_ zr fl hi
    have hu : P.underlying tt = some (.slice e) := (hT tt _ hi).sh
    cases hie : T e with
    | none => simp [hie] at h
    | some ie =>
      simp only [hie] at h
      cases hps : evParts t parts.toList with
      | none => simp [hps] at h
      | some ps =>
        simp only [hps] at h
        have hpr := ht.parts hps
        obtain ⟨ti, z, h1, h2, h3, h4, h5⟩ := (hT e ie hie).zeroCR
        have hz := h5 w0 B0 ρ
        split at h
        · cases h
        · rename_i hn
          have hn1 : ¬ (len * ie.size > 2 ^ 24) := fun q => hn (.inl q)
          have hn2 : ie.zero.length = ie.size := Decidable.of_not_not fun q => hn (.inr (.inl q))
          have hn3 : ie.size ≠ 0 := fun q => hn (.inr (.inr q))
          cases hfill : fillA (fun n => some (n * ie.size, ie.size)) (List.replicate len ie.zero).flatten ps with
          | none => simp [hfill] at h
          | some cs =>
            simp only [hfill] at h
            split at h
            · rename_i hlf
              simp only [Option.some.injEq, Prod.mk.injEq] at h
              obtain ⟨rfl, rfl⟩ := h
              have hzz := flatten_get hz (by omega) len
              have hzl : z.cells.size = ie.size := by have := hz.1; rw [Array.length_toList] at this; omega
              rw [hn2, hzl] at hzz
              obtain ⟨arr, hfl, hcr⟩ := fill_spec _ ps _ _ cs _ hpr hzz hfill
              have ha := hcr.arr
              have hlen : cs.length = arr.size := by have := hcr.1; rwa [Array.length_toList] at this
              have hcl : arr.size = len * ie.size := by
                have : ∀ (ps : List (Nat × AV)) (c c' : List AV), fillA (fun n => some (n * ie.size, ie.size)) c ps = some c' → c'.length = c.length := by
                  intro ps
                  induction ps with
                  | nil => intro c c' hh; simp only [fillA, Option.some.injEq] at hh; subst hh; rfl
                  | cons p ps ih =>
                    intro c c' hh
                    obtain ⟨i, u⟩ := p
                    simp only [fillA] at hh
                    split at hh
                    · cases hh
                    · rename_i hq
                      rw [ih _ _ hh, length_over (by omega)]
                have := this _ _ _ hfill
                rw [← hlen, this]
                simp [hn2]
              refine ⟨_, cs, rfl, rfl, arr, e, .slice (some ⟨w.heap.size, 0, none⟩) len len, ?_, ha.1, hlf, ha.2, fun ρ' hnew => .slc _ _ _ _ _ _ _ w.heap.size 0 arr.size len ⟨w.heap.size, 0, none⟩ hnew (Nat.le_refl _) (Nat.le_refl _) (fun _ => rfl) (fun _ => rfl) (by omega)⟩
              have hfl' : Instr.fill (fun i => some (i * ti.size, ti.size)) (Array.map (fun x => z.cells[x % ti.size]!) (Array.range (len * ti.size))) (parts.map fun (x : Nat × Operand) => (x.1, a.eval x.2)).toList = some arr := by
                rw [h2, Array.toList_map]
                exact hfl
              by_cases hl0 : len * ti.size = 0
              · have hl0' : len = 0 := by rw [h2] at hl0; rcases Nat.mul_eq_zero.1 hl0 with q | q <;> omega
                subst hl0'
                simp only [execOp, ho, Sem.run_bind, Sem.run_pure, Instr.buildSlice, run_underlying hu, run_sizeOf' h1, Result.andThen_ok, newRow]
                rw [if_neg (by rw [h2]; exact hn1)]
                simp only [Nat.zero_mul] at hfl' ⊢
                simp only [Sem.run_bind, Sem.run_pure, Result.andThen_ok, if_true]
                have e0 : (Array.map (fun x => (#[] : Array Value)[x % (#[] : Array Value).size]!) (Array.range 0)) = (Array.map (fun x => z.cells[x % ti.size]!) (Array.range 0)) := by simp
                rw [e0]
                simp only [hfl', Sem.run_bind, run_newObj, Sem.run_pure, Result.andThen_ok]
                rfl
              · simp only [execOp, ho, Sem.run_bind, Sem.run_pure, Instr.buildSlice, run_underlying hu, run_sizeOf' h1, Result.andThen_ok, newRow]
                rw [if_neg (by rw [h2]; exact hn1), if_neg hl0]
                simp only [Sem.run_bind, Sem.run_pure, run_zeroValue' h1 h4, Result.andThen_ok]
                rw [hzl, ← h2]
                simp only [hfl', Sem.run_bind, run_newObj, Sem.run_pure, Result.andThen_ok]
                rfl
            · cases h
  · cases h

theorem e_box (ht : TR w0 B0 ρ t a.tmps) {e : TypeId} {x : Operand} (ho : o.op = .box e x) (h : evOp T o.op t s = some (r, s')) :
    ∃ v cs, r = .val v ∧ s' = s.newG ⟨[⟨cs, 0, none⟩]⟩ ∧ EarlyRun P w0 B0 ρ a o w s.ctr cs v := by
  rw [ho] at h
  simp only [evOp] at h
  cases hx : ev t x with
  | none => simp [hx] at h
  | some v =>
    simp only [hx] at h
    split at h
    · rename_i hlf
      simp only [Option.some.injEq, Prod.mk.injEq] at h
      obtain ⟨rfl, rfl⟩ := h
      have hv := (ht.eval hx).cells.arr
      refine ⟨_, v.cells, rfl, rfl, (a.eval x).cells, e, .pointer (some ⟨w.heap.size, 0, none⟩), ?_, hv.1, hlf, hv.2, fun ρ' hnew => .ptr _ _ _ w.heap.size 0 _ hnew⟩
      simp only [execOp, ho, Instr.box, Sem.run_bind, newVar, newRow, Result.andThen_ok, run_newObj, Sem.run_pure]
      rfl
    · cases h
theorem e_alloc (hT : TabOk P T) {e : TypeId} {ti : TI} (ho : o.op = .alloc e) (hti : T e = some ti) (hlf : ti.zero.all AV.leaf = true) (c : Nat) : EarlyRun P w0 B0 ρ a o w c ti.zero (.ptr c 0 0) := by
  obtain ⟨info, z, i1, i2, i3, i4, i5⟩ := (hT e ti hti).zeroCR
  have hz := (i5 w0 B0 ρ).arr
  refine ⟨z.cells, e, .pointer (some ⟨w.heap.size, 0, none⟩), ?_, hz.1, hlf, hz.2, fun ρ' hnew => .ptr _ _ _ w.heap.size 0 z.cells.size hnew⟩
  simp only [execOp, ho, Instr.alloc, Sem.run_bind, run_zeroValue' i1 i4, newVar, newRow, Result.andThen_ok, run_newObj, Sem.run_pure]
  rfl
/-- The early operation's row in the world. -/
theorem s_buildSlice (hT : TabOk P T) (ht : TR w0 B0 ρ t a.tmps) (hs : Sim w0 B0 ρ s w) {tt : TypeId} {len : Nat} {parts : Array (Nat × Operand)} (ho : o.op = .buildSlice tt len parts)
    (h : evOp T o.op t s = some (r, s')) : OpS P w0 B0 ρ s.ctr a o s' w r := by
  obtain ⟨v, cs, rfl, rfl, arr, e, v', h1, h2, h3, h4, h5⟩ := e_buildSlice (P := P) (w0 := w0) (B0 := B0) (ρ := ρ) (w := w) (a := a) hT ht ho h
  obtain ⟨ρ', hle, hnew, hs'⟩ := hs.new e h2 h3 h4
  exact .val v v' _ ρ' h1 hle hs' (h5 ρ' hnew)
end
end Go.Ab
