/- The abstract machine's operations against the model's. -/
import Derived.Test.YtdpdlmjlahehoaaG3
namespace Go.Ab
open Go.RowKit

def aggD : TypeDesc → Bool
  | .struct _ | .array _ _ => true
  | _ => false

/-- '==' of two structs of this type is what it is cell by cell. -/
def FlatOk (P : Program) (t : TypeId) (z : List AV) : Prop := ∀ (w0 : World) (B0 : Nat) (ρ : Loc) (as bs : List AV) (xs ys : Array Value) (q : Bool) (w : World) (x y : Operand),
  CR w0 B0 ρ as xs.toList → CR w0 B0 ρ bs ys.toList → flatEq z as bs = some q →
    (do eqGuard .eql t x y (.agg xs) (.agg ys); binOp .eql t (.agg xs) (.agg ys) : Sem Value).run P w = .ok (.bool q) w ∧
    (do eqGuard .neq t x y (.agg xs) (.agg ys); binOp .neq t (.agg xs) (.agg ys) : Sem Value).run P w = .ok (.bool (!q)) w

def ShOk (P : Program) (t : TypeId) : Sh → Prop
  | .scalar => ∃ d, P.underlying t = some d ∧ aggD d = false
  | .text => P.underlying t = some .string
  | .num k => P.underlying t = some (.int k)
  | .map k e => P.underlying t = some (.map k e)
  | .boolean => P.underlying t = some .bool
  | .slice e => P.underlying t = some (.slice e)
  | .array n e => P.underlying t = some (.array n e)
  | .struct fs => ∃ fields : Array Field, P.underlying t = some (.struct fields) ∧ fields.size = fs.length ∧ ∀ (k : Nat) (f : Field) (q : Nat × Nat × Bool), fields[k]? = some f → fs[k]? = some q →
      f.offset = q.1 ∧ (∃ ti, P.info? f.type = some ti ∧ ti.size = q.2.1) ∧ ∃ d, P.underlying f.type = some d ∧ aggD d = q.2.2

/-- A row of the type table says what the program says. -/
structure TiOk (P : Program) (t : TypeId) (i : TI) : Prop where
  info : ∃ ti z, P.info? t = some ti ∧ ti.size = i.size ∧ ti.bytes = i.bytes ∧ ti.zero = some z ∧ z.cells.size = i.zero.length ∧ ∀ (k : Nat) (u : AV) (v : Value), i.zero[k]? = some u → z.cells[k]? = some v → Ab.ofVal v = some u
  sh : ShOk P t i.sh
  zl : i.zero.length = i.size
  za : ∀ ti z, P.info? t = some ti → ti.zero = some z → (i.sh.isAgg = true → ∃ arr, z = .agg arr) ∧ (i.sh.isAgg = false → z.oneCell' = true)
  flat : i.flat = true → FlatOk P t i.zero
def TabOk (P : Program) (T : Tab) : Prop := ∀ t i, T t = some i → TiOk P t i

theorem ShOk.under {P : Program} {t : TypeId} {s : Sh} (h : ShOk P t s) : ∃ d, P.underlying t = some d ∧ aggD d = s.isAgg := by
  cases s with
  | scalar => exact h
  | text => exact ⟨_, h, rfl⟩
  | num k => exact ⟨_, h, rfl⟩
  | map k e => exact ⟨_, h, rfl⟩
  | boolean => exact ⟨_, h, rfl⟩
  | slice e => exact ⟨_, h, rfl⟩
  | array n e => exact ⟨_, h, rfl⟩
  | struct fs => obtain ⟨fields, h, _⟩ := h; exact ⟨_, h, rfl⟩

section
variable {P : Program} {w0 : World} {B0 : Nat} {ρ : Loc} {s s' : St} {w : World} {T : Tab}

theorem run_isAgg' {t : TypeId} {d : TypeDesc} (h : P.underlying t = some d) (w : World) : (isAgg t).run P w = .ok (aggD d) w := by
  unfold isAgg
  simp only [Sem.run_bind, run_underlying h, Result.andThen_ok]
  cases d <;> rfl
theorem run_typeInfo' {t : TypeId} {ti : TypeInfo} (h : P.info? t = some ti) (w : World) : (typeInfo t).run P w = .ok ti w := by
  simp [typeInfo, h]
theorem run_sizeOf' {t : TypeId} {ti : TypeInfo} (h : P.info? t = some ti) (w : World) : (sizeOf t).run P w = .ok ti.size w := by
  simp [sizeOf, run_typeInfo' h]
theorem run_zeroValue' {t : TypeId} {ti : TypeInfo} {z : Value} (h : P.info? t = some ti) (hz : ti.zero = some z) (w : World) : (zeroValue t).run P w = .ok z w := by
  simp [zeroValue, run_typeInfo' h, hz]

theorem TiOk.zeroCR {t : TypeId} {i : TI} (h : TiOk P t i) : ∃ ti z, P.info? t = some ti ∧ ti.size = i.size ∧ ti.bytes = i.bytes ∧ ti.zero = some z ∧ ∀ w0 B0 ρ, CR w0 B0 ρ i.zero z.cells.toList := by
  obtain ⟨ti, z, h1, h2, h3, h4, h5, h6⟩ := h.info
  exact ⟨ti, z, h1, h2, h3, h4, fun w0 B0 ρ => ⟨by simp [h5], fun k u v hu hv => VR.ofVal (h6 k u v hu (by simpa using hv))⟩⟩

/-- Reading a variable. -/
theorem run_loadVar' {t : TypeId} {i : TI} (h : TiOk P t i) {a : Addr} {vs : List Value} (hl : vs.length = i.cnt) (hc : CellsAt w a vs) :
    (loadVar t a).run P w = .ok (if i.sh.isAgg then .agg vs.toArray else vs.getD 0 Go.undef) w := by
  obtain ⟨ti, z, h1, h2, _⟩ := h.info
  obtain ⟨d, hd, hag⟩ := h.sh.under
  unfold TI.cnt at hl
  unfold loadVar
  simp only [Sem.run_bind, run_isAgg' hd, Result.andThen_ok, hag]
  cases hs : i.sh.isAgg with
  | true =>
    simp only [hs, if_true] at hl
    have := run_loadCells_list (P := P) w a vs hc
    rw [hl] at this
    simp [run_sizeOf' h1, h2, this]
  | false =>
    simp only [hs, Bool.false_eq_true, if_false] at hl
    match vs, hl with
    | [v], _ =>
      have h0 := hc 0 v rfl
      have ha : a.add 0 = a := by simp [Addr.add]
      rw [ha] at h0
      simp [h0]

theorem ofCells_VR {ag : Bool} {cs : List AV} {vs : List Value} {v : AV} (h : ofCells ag cs = some v) (r : CR w0 B0 ρ cs vs) : VR w0 B0 ρ v (if ag then .agg vs.toArray else vs.getD 0 Go.undef) := by
  unfold ofCells at h
  cases ag with
  | true =>
    simp only [if_true, Option.some.injEq] at h ⊢
    subst h
    exact .agg cs _ (by simpa using r.1) (fun i u v hu hv => r.2 i u v hu (by simpa using hv))
  | false =>
    simp only [Bool.false_eq_true, if_false] at h ⊢
    split at h
    · rename_i c
      simp only [Option.some.injEq] at h
      subst h
      have hl := r.1
      match vs, hl with
      | [v], _ => exact r.2 0 c v rfl rfl
    · cases h

/-- A function that has a body of its own. -/
def Callable (P : Program) (f : FuncId) : Prop := ∃ fn, P.funcs[f]? = some fn ∧ fn.body.isNone = false ∧ (fn.name == "runtime.NumGoroutine") = false
/-- What an operation's run says. -/
inductive OpS (P : Program) (w0 : World) (B0 : Nat) (ρ : Loc) (c : Nat) (a : Act) (o : Oper) (s' : St) (w : World) : Res → Prop
  | val (v : AV) (v' : Value) (w' : World) (ρ' : Loc) : (execOp a.eval o).run P w = .ok (.value v') w' → ρ.lex c ρ' → Sim w0 B0 ρ' s' w' → VR w0 B0 ρ' v v' → OpS P w0 B0 ρ c a o s' w (.val v)
  | skip (w' : World) : (execOp a.eval o).run P w = .ok .skip w' → Sim w0 B0 ρ s' w' → OpS P w0 B0 ρ c a o s' w .skip
  | call (f : FuncId) (args : List AV) (args' : Array Value) : (Callable P f → (execOp a.eval o).run P w = .ok (.enter f args') w) → Sim w0 B0 ρ s' w → CR w0 B0 ρ args args'.toList → OpS P w0 B0 ρ c a o s' w (.call f args)

theorem OpS.pure {a : Act} {o : Oper} {v : AV} {v' : Value} (h : (execOp a.eval o).run P w = .ok (.value v') w) (hs : Sim w0 B0 ρ s w) (r : VR w0 B0 ρ v v') {c : Nat} : OpS P w0 B0 ρ c a o s w (.val v) :=
  .val v v' w ρ h (Loc.lex_refl _ _) hs r

variable {a : Act} {o : Oper} {t : TL} {r : Res}

theorem s_move (ht : TR w0 B0 ρ t a.tmps) (hs : Sim w0 B0 ρ s w) {x : Operand} (ho : o.op = .move x ∨ o.op = .assign x) (h : evOp T o.op t s = some (r, s')) : OpS P w0 B0 ρ s.ctr a o s' w r := by
  have : (match ev t x with | none => none | some v => some (Res.val v, s)) = some (r, s') := by
    rcases ho with ho | ho <;> (rw [ho] at h; exact h)
  cases he : ev t x with
  | none => simp [he] at this
  | some v =>
    simp only [he, Option.some.injEq, Prod.mk.injEq] at this
    obtain ⟨rfl, rfl⟩ := this
    refine .pure ?_ hs (ht.eval he)
    rcases ho with ho | ho <;> simp [execOp, ho]
theorem s_pick (ht : TR w0 B0 ρ t a.tmps) (hs : Sim w0 B0 ρ s w) {c x y : Operand} (ho : o.op = .pick c x y) (h : evOp T o.op t s = some (r, s')) : OpS P w0 B0 ρ s.ctr a o s' w r := by
  rw [ho] at h
  simp only [evOp] at h
  cases hc : ev t c with
  | none => simp [hc] at h
  | some vc =>
    simp only [hc] at h
    cases vc with
    | bool q =>
      simp only at h
      cases hx : ev t x with
      | none => simp [hx] at h
      | some vx =>
        cases hy : ev t y with
        | none => simp [hx, hy] at h
        | some vy =>
          simp only [hx, hy, Option.some.injEq, Prod.mk.injEq] at h
          obtain ⟨rfl, rfl⟩ := h
          have hq := ht.eval hc
          generalize he : a.eval c = vc at hq
          cases hq
          refine .pure (v' := if q then a.eval x else a.eval y) ?_ hs ?_
          · simp [execOp, ho, he, asBool]
          · cases q
            · exact ht.eval hy
            · exact ht.eval hx
    | _ => simp at h
theorem Sim.fresh (hs : Sim w0 B0 ρ s w) (j : Nat) : ρ s.ctr j = none := by
  cases hq : ρ s.ctr j with
  | none => rfl
  | some x => exact absurd (hs.ctr _ _ _ hq) (by omega)
theorem Sim.newG (hs : Sim w0 B0 ρ s w) (G0 : Grp) : Sim w0 B0 ρ (s.newG G0) w := by
  refine ⟨hs.low, hs.big, fun g j b st n hg => ?_, fun g j j' b st st' n n' G V V' h1 h2 h3 h4 h5 => ?_, hs.sep, fun g j x hx => by have := hs.ctr g j x hx; simp [St.newG]; omega⟩
  · obtain ⟨q1, G, V, q2, q3, q4⟩ := hs.ver g j b st n hg
    exact ⟨q1, G, V, by rw [St.get_newG_ne _ _ (by have := hs.ctr _ _ _ hg; omega)]; exact q2, q3, q4⟩
  · rw [St.get_newG_ne _ _ (by have := hs.ctr _ _ _ h1; omega)] at h3
    exact hs.al _ _ _ _ _ _ _ _ _ _ _ h1 h2 h3 h4 h5
/-- A new block, its group with it. -/
theorem Sim.new (hs : Sim w0 B0 ρ s w) {cs : List AV} {arr : Array Value} (e : TypeId) (hn : cs.length ≤ arr.size) (hlf : cs.all AV.leaf = true)
    (hc : ∀ (i : Nat) (u : AV) (v : Value), cs[i]? = some u → arr[i]? = some v → VR w0 B0 ρ u v) :
    ∃ ρ', ρ.lex s.ctr ρ' ∧ ρ' s.ctr 0 = some (w.heap.size, 0, arr.size) ∧ Sim w0 B0 ρ' (s.newG ⟨[⟨cs, 0, none⟩]⟩) (w.alloc (.cells arr e)) := by
  have h := (hs.newG ⟨[⟨cs, 0, none⟩]⟩).lay (g := s.ctr) (cs := cs) (arr := arr) e (by simp [St.newG]) hs.fresh (St.get_newG_eq _ _) hn hlf hc
  exact ⟨_, Loc.put_lex (hs.fresh 0) (.inl (Nat.le_refl _)), Loc.put_eq, h.2⟩
theorem CR.arr {cs : List AV} {arr : Array Value} (h : CR w0 B0 ρ cs arr.toList) : cs.length ≤ arr.size ∧ ∀ (i : Nat) (u : AV) (v : Value), cs[i]? = some u → arr[i]? = some v → VR w0 B0 ρ u v :=
  ⟨Nat.le_of_eq (h.1.trans Array.length_toList), fun i u v hu hv => h.2 i u v hu (by simpa using hv)⟩

theorem s_alloc (hT : TabOk P T) (hs : Sim w0 B0 ρ s w) {e : TypeId} (ho : o.op = .alloc e) (h : evOp T o.op t s = some (r, s')) : OpS P w0 B0 ρ s.ctr a o s' w r := by
  rw [ho] at h
  simp only [evOp] at h
  cases hi : T e with
  | none => simp [hi] at h
  | some i =>
    simp only [hi] at h
    split at h
    · rename_i hlf
      simp only [Option.some.injEq, Prod.mk.injEq] at h
      obtain ⟨rfl, rfl⟩ := h
      obtain ⟨ti, z, h1, h2, h3, h4, h5⟩ := (hT e i hi).zeroCR
      have hz := (h5 w0 B0 ρ).arr
      obtain ⟨ρ', hle, hnew, hs'⟩ := hs.new e hz.1 hlf hz.2
      refine .val _ (.pointer (some ⟨w.heap.size, 0, none⟩)) _ _ ?_ hle hs' (.ptr _ _ _ w.heap.size 0 z.cells.size hnew)
      simp only [execOp, ho, Instr.alloc, Sem.run_bind, run_zeroValue' h1 h4, newVar, newRow, Result.andThen_ok, run_newObj, Sem.run_pure]
      rfl
    · cases h
theorem s_box (ht : TR w0 B0 ρ t a.tmps) (hs : Sim w0 B0 ρ s w) {e : TypeId} {x : Operand} (ho : o.op = .box e x) (h : evOp T o.op t s = some (r, s')) : OpS P w0 B0 ρ s.ctr a o s' w r := by
  rw [ho] at h
  simp only [evOp] at h
  cases hx : ev t x with
  | none => simp [hx] at h
  | some v =>
    simp only [hx] at h
    split at h
    · rename_i hlf
      simp only [Option.some.injEq, Prod.mk.injEq] at h
      obtain ⟨rfl, rfl⟩ := h
      have hv := (ht.eval hx).cells.arr
      obtain ⟨ρ', hle, hnew, hs'⟩ := hs.new e hv.1 hlf hv.2
      refine .val _ (.pointer (some ⟨w.heap.size, 0, none⟩)) _ _ ?_ hle hs' (.ptr _ _ _ w.heap.size 0 _ hnew)
      simp only [execOp, ho, Instr.box, Sem.run_bind, newVar, newRow, Result.andThen_ok, run_newObj, Sem.run_pure]
      rfl
    · cases h
theorem s_load (hT : TabOk P T) (ht : TR w0 B0 ρ t a.tmps) (hs : Sim w0 B0 ρ s w) {tt : TypeId} {x : Operand} (ho : o.op = .load tt x) (h : evOp T o.op t s = some (r, s')) : OpS P w0 B0 ρ s.ctr a o s' w r := by
  rw [ho] at h
  simp only [evOp] at h
  cases hi : T tt with
  | none => simp [hi] at h
  | some i =>
    simp only [hi] at h
    have hti := hT tt i hi
    cases hx : ev t x with
    | none => simp [hx] at h
    | some vx =>
      simp only [hx] at h
      have hr := ht.eval hx
      cases vx with
      | ptr g j off =>
        simp only at h
        cases hrd : s.read g j off i.cnt with
        | none => simp [hrd] at h
        | some cs =>
          simp only [hrd] at h
          cases hof : ofCells i.sh.isAgg cs with
          | none => simp [hof] at h
          | some v =>
            simp only [hof, Option.some.injEq, Prod.mk.injEq] at h
            obtain ⟨rfl, rfl⟩ := h
            generalize he : a.eval x = vx' at hr
            cases hr with
            | ptr _ _ _ b st n hρ =>
            obtain ⟨vs, hl, hcr, hat⟩ := hs.read hρ hrd
            refine .pure ?_ hs (ofCells_VR hof hcr)
            simp only [execOp, ho, he, Instr.loadAt, Instr.sureAddr, Sem.run_bind, Sem.run_pure, Result.andThen_ok, run_loadVar' hti hl hat]
      | rop cs =>
        simp only at h
        split at h
        · rename_i hc
          cases hof : ofCells i.sh.isAgg (cs.take i.cnt) with
          | none => simp [hof] at h
          | some v =>
            simp only [hof, Option.some.injEq, Prod.mk.injEq] at h
            obtain ⟨rfl, rfl⟩ := h
            generalize he : a.eval x = vx' at hr
            cases hr with
            | rop _ ad f hsp hB hcell hrel =>
            generalize hn : i.cnt = n at hof hc
            have hcr : CR w0 B0 ρ (cs.take n) ((List.range n).map f) := by
              refine ⟨by simp; omega, fun k u v hu hv => ?_⟩
              rw [List.getElem?_take] at hu
              split at hu
              · rename_i hk
                rw [List.getElem?_map, List.getElem?_range hk] at hv
                simp only [Option.map_some, Option.some.injEq] at hv
                subst hv
                exact hrel k u hu
              · cases hu
            have hat : CellsAt w ad ((List.range n).map f) := by
              intro k v hv
              have hk : k < n := by have := (List.getElem?_eq_some_iff.1 hv).1; simpa using this
              rw [List.getElem?_map, List.getElem?_range hk] at hv
              simp only [Option.map_some, Option.some.injEq] at hv
              subst hv
              obtain ⟨u, hu⟩ : ∃ u, cs[k]? = some u := ⟨cs[k]'(by omega), by simp⟩
              have h1 := hcell k u hu
              have had : ad = ⟨ad.block, ad.off, none⟩ := by cases ad; simp at hsp; simp [hsp]
              rw [had, add_eq]
              rw [hs.low.cell (by exact hB)]
              exact h1
            refine .pure ?_ hs (ofCells_VR hof hcr)
            simp only [execOp, ho, he, Instr.loadAt, Instr.sureAddr, Sem.run_bind, Sem.run_pure, Result.andThen_ok, run_loadVar' hti (vs := (List.range n).map f) (by simp [hn]) hat]
        · cases h
      | _ => simp at h
theorem run_storeVar' {tt : TypeId} {i : TI} (h : TiOk P tt i) {b o' n : Nat} {v : Value} {cur : Array Value} {e : TypeId} (hb : w.heap[b]? = some (.cells cur e (0, 0))) (hl : v.cells.size = i.size)
    (hfit : o' + v.cells.toList.length ≤ cur.size) (h1 : ∀ u ∈ v.cells.toList, u.oneCell' = true) :
    (storeVar tt ⟨b, o', none⟩ v).run P w = .ok () (w.setRow b (cur.toList.take o' ++ v.cells.toList ++ cur.toList.drop (o' + v.cells.toList.length)).toArray) := by
  obtain ⟨ti, z, q1, q2, _⟩ := h.info
  have := run_storeCells_at P b o' e v.cells.toList 0 cur w hb (by simpa using hfit) h1
  simp only [storeVar, Sem.run_bind, run_sizeOf' q1, Result.andThen_ok, q2, hl, ne_eq, not_true_eq_false, if_false]
  simpa using this
theorem s_store (hT : TabOk P T) (ht : TR w0 B0 ρ t a.tmps) (hs : Sim w0 B0 ρ s w) {tt : TypeId} {x y : Operand} (ho : o.op = .store tt x y) (h : evOp T o.op t s = some (r, s')) : OpS P w0 B0 ρ s.ctr a o s' w r := by
  rw [ho] at h
  simp only [evOp] at h
  cases hi : T tt with
  | none => simp [hi] at h
  | some i =>
    simp only [hi] at h
    have hti := hT tt i hi
    cases hx : ev t x with
    | none => simp [hx] at h
    | some vx =>
    cases hy : ev t y with
    | none => cases vx <;> simp [hx, hy] at h
    | some vy =>
      have hr := ht.eval hx
      have hry := ht.eval hy
      cases vx with
      | ptr g j off =>
        simp only [hx, hy] at h
        split at h
        · cases h
        · rename_i hsz
          cases hw : s.write g j off vy.cells with
          | none => simp [hw] at h
          | some s1 =>
            simp only [hw, Option.some.injEq, Prod.mk.injEq] at h
            obtain ⟨rfl, rfl⟩ := h
            generalize he : a.eval x = vx' at hr
            cases hr with
            | ptr _ _ _ b st n hρ =>
            obtain ⟨cur, e, hb⟩ := hs.row hρ hw
            have hcr := hry.cells
            obtain ⟨hfit, hs'⟩ := hs.write hρ hw hcr hb
            obtain ⟨_, _, _, _, _, hlf⟩ := St.write_spec hw
            refine .skip _ ?_ hs'
            have hst := run_storeVar' (w := w) hti (n := n) hb (v := a.eval y) (by have := hcr.1; simp at this; omega) hfit (hcr.leaf hlf)
            simp only [execOp, ho, he, Instr.storeAt, Instr.sureAddr, Sem.run_bind, Sem.run_pure, Result.andThen_ok, hst]
      | _ => simp [hx, hy] at h
end
end Go.Ab
