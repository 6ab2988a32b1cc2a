/- Sums, tests, fields, indexes, slices of slices. -/
import Derived.Test.YtdpdlmjlahehoaaG5
namespace Go.Ab
open Go.RowKit
section
variable {P : Program} {w0 : World} {B0 : Nat} {ρ : Loc} {s s' : St} {w : World} {T : Tab}
variable {a : Act} {o : Oper} {t : TL} {r : Res}

theorem intA_sound {op : BinOp} {k : IntKind} {m n : Int} {v : AV} (h : intA op k m n = some v) (xt : TypeId) (x y : Operand) (hop : op ≠ .shl ∧ op ≠ .shr) :
    ∃ v', (do eqGuard op xt x y (.int k m) (.int k n); binOp op xt (.int k m) (.int k n) : Sem Value).run P w = .ok v' w ∧ VR w0 B0 ρ v v' := by
  cases op <;> simp only [intA] at h <;>
    first
      | (cases h; done)
      | (exact absurd rfl hop.1)
      | (exact absurd rfl hop.2)
      | (simp only [Option.some.injEq] at h; subst h; refine ⟨_, ?_, VR.int _ _⟩; simp [eqGuard, binOp, Op.intArith, Op.intBits]; done)
      | (simp only [Option.some.injEq] at h; subst h; refine ⟨_, ?_, VR.bool _⟩; simp [eqGuard, binOp, Op.intCmp]; done)
      | (split at h
         · cases h
         · rename_i hn; simp only [Option.some.injEq] at h; subst h; refine ⟨_, ?_, VR.int _ _⟩; simp [eqGuard, binOp, Op.intDiv, hn]; done)
theorem shiftA_sound {op : BinOp} {k k' : IntKind} {m n : Int} {v : AV} (h : shiftA op k m n = some v) (hop : op = .shl ∨ op = .shr) (xt : TypeId) (x y : Operand) :
    ∃ v', (do eqGuard op xt x y (.int k m) (.int k' n); binOp op xt (.int k m) (.int k' n) : Sem Value).run P w = .ok v' w ∧ VR w0 B0 ρ v v' := by
  unfold shiftA at h
  split at h
  · cases h
  · rename_i hn
    rcases hop with rfl | rfl <;> simp only [Option.some.injEq] at h <;> subst h <;> refine ⟨_, ?_, VR.int _ _⟩ <;> simp [eqGuard, binOp, Op.shift, hn]
theorem strA_sound {op : BinOp} {m n : ByteArray} {v : AV} (h : strA op m n = some v) (xt : TypeId) (x y : Operand) :
    ∃ v', (do eqGuard op xt x y (.string m) (.string n); binOp op xt (.string m) (.string n) : Sem Value).run P w = .ok v' w ∧ VR w0 B0 ρ v v' := by
  cases op <;> simp only [strA] at h <;>
    first
      | (cases h; done)
      | (simp only [Option.some.injEq] at h; subst h; refine ⟨_, ?_, VR.bool _⟩; simp [eqGuard, binOp, Op.stringOp]; done)
      | (split at h
         · cases h
         · rename_i hn; simp only [Option.some.injEq] at h; subst h; refine ⟨_, ?_, VR.str _⟩; simp only [eqGuard, binOp, Op.stringOp, hn]; simp; done)

theorem equal_bool {t : TypeId} (hu : P.underlying t = some .bool) (a b : Bool) (w : World) : (Op.equal t (.bool a) (.bool b)).run P w = .ok (a == b) w := by
  have e : ∀ d, (Op.equalIn (d + 1) t (.bool a) (.bool b)).run P w = .ok (a == b) w := fun d => by simp [Op.equalIn, run_underlying hu]
  exact e 9999
theorem equal_slice_nil {t e : TypeId} (hu : P.underlying t = some (.slice e)) (A : Option Addr) (n c : Nat) (w : World) : (Op.equal t (.slice A n c) (.slice none 0 0)).run P w = .ok A.isNone w := by
  have e : ∀ d, (Op.equalIn (d + 1) t (.slice A n c) (.slice none 0 0)).run P w = .ok A.isNone w := fun d => by cases A <;> simp [Op.equalIn, run_underlying hu]
  exact e 9999
theorem binA_sound (hT : TabOk P T) {op : BinOp} {xt : TypeId} {vx vy v : AV} {x' y' : Value} (h : binA T op xt vx vy = some v) (hx : VR w0 B0 ρ vx x') (hy : VR w0 B0 ρ vy y') (x y : Operand) :
    ∃ v', (do eqGuard op xt x y x' y'; binOp op xt x' y' : Sem Value).run P w = .ok v' w ∧ VR w0 B0 ρ v v' := by
  unfold binA at h
  split at h
  · -- two whole numbers
    rename_i k m k' n
    cases hx
    cases hy
    split at h
    · exact shiftA_sound h (.inl rfl) xt x y
    · exact shiftA_sound h (.inr rfl) xt x y
    · rename_i h1 h2
      split at h
      · rename_i hk
        subst hk
        exact intA_sound h xt x y ⟨h1, h2⟩
      · cases h
  · cases hx
    cases hy
    exact strA_sound h xt x y
  · cases hx
    cases hy
    split at h
    · rename_i hi
      have hu : P.underlying xt = some .bool := (hT xt _ hi).sh
      split at h
      · simp only [Option.some.injEq] at h; subst h
        exact ⟨_, by simp [eqGuard, binOp, equal_bool hu], VR.bool _⟩
      · simp only [Option.some.injEq] at h; subst h
        exact ⟨_, by simp [eqGuard, binOp, equal_bool hu], VR.bool _⟩
      · cases h
    · cases h
  · rename_i as bs
    cases hx with
    | agg _ xs h1 h2 =>
    cases hy with
    | agg _ ys h3 h4 =>
    split at h
    · rename_i z hi
      have hf := (hT xt _ hi).flat rfl
      have c1 : CR w0 B0 ρ as xs.toList := ⟨by simpa using h1, fun i u v hu hv => h2 i u v hu (by simpa using hv)⟩
      have c2 : CR w0 B0 ρ bs ys.toList := ⟨by simpa using h3, fun i u v hu hv => h4 i u v hu (by simpa using hv)⟩
      split at h
      · cases hq : flatEq z as bs with
        | none => simp [hq] at h
        | some q =>
          simp only [hq, Option.map_some, Option.some.injEq] at h
          subst h
          exact ⟨_, (hf w0 B0 ρ as bs xs ys q w x y c1 c2 hq).1, VR.bool _⟩
      · cases hq : flatEq z as bs with
        | none => simp [hq] at h
        | some q =>
          simp only [hq, Option.map_some, Option.some.injEq] at h
          subst h
          exact ⟨_, (hf w0 B0 ρ as bs xs ys q w x y c1 c2 hq).2, VR.bool _⟩
      · cases h
    · cases h
  · cases hy
    split at h
    · rename_i e _ _ _ _ hi
      have hu : P.underlying xt = some (.slice e) := (hT xt _ hi).sh
      split at h
      · rename_i q hq
        have key : ∃ A n c, x' = .slice A n c ∧ A.isNone = q := by
          split at hq
          · cases hx; simp only [Option.some.injEq] at hq; exact ⟨none, 0, 0, rfl, by simp [← hq]⟩
          · simp only [Option.some.injEq] at hq
            subst hq
            cases hx with
            | ro nl xs A c f h1 h2 =>
              refine ⟨A, _, c, rfl, ?_⟩
              exact Bool.eq_iff_iff.2 (by rw [h2]; cases A <;> simp)
          · simp only [Option.some.injEq] at hq
            cases hx
            exact ⟨_, _, _, rfl, by simp [← hq]⟩
          · cases hq
        obtain ⟨A, n, c, rfl, rfl⟩ := key
        split at h
        · simp only [Option.some.injEq] at h; subst h
          refine ⟨_, ?_, VR.bool _⟩
          simp [eqGuard, binOp, equal_slice_nil hu]
        · simp only [Option.some.injEq] at h; subst h
          refine ⟨_, ?_, VR.bool _⟩
          simp [eqGuard, binOp, equal_slice_nil hu]
        · cases h
      · cases h
    · cases h
  · cases h

theorem s_binOp (hT : TabOk P T) (ht : TR w0 B0 ρ t a.tmps) (hs : Sim w0 B0 ρ s w) {op : BinOp} {xt yt : TypeId} {x y : Operand} (ho : o.op = .binOp op xt x y yt) (h : evOp T o.op t s = some (r, s')) : OpS P w0 B0 ρ s.ctr a o s' w r := by
  rw [ho] at h
  simp only [evOp] at h
  cases hx : ev t x with
  | none => simp [hx] at h
  | some vx =>
    cases hy : ev t y with
    | none => simp [hx, hy] at h
    | some vy =>
      simp only [hx, hy] at h
      cases hb : binA T op xt vx vy with
      | none => simp [hb] at h
      | some v =>
        simp only [hb, Option.some.injEq, Prod.mk.injEq] at h
        obtain ⟨rfl, rfl⟩ := h
        obtain ⟨v', h1, h2⟩ := binA_sound (P := P) (w := w) hT hb (ht.eval hx) (ht.eval hy) x y
        refine .pure (v' := v') ?_ hs h2
        have e : (execOp a.eval o).run P w = ((do eqGuard op xt x y (a.eval x) (a.eval y); binOp op xt (a.eval x) (a.eval y) : Sem Value).run P w).andThen fun v w => .ok (.value v) w := by
          simp only [execOp, ho, Sem.run_bind, Sem.run_pure]
        rw [e, h1]
        rfl
theorem s_unOp (ht : TR w0 B0 ρ t a.tmps) (hs : Sim w0 B0 ρ s w) {op : UnOp} {xt : TypeId} {x : Operand} (ho : o.op = .unOp op xt x) (h : evOp T o.op t s = some (r, s')) : OpS P w0 B0 ρ s.ctr a o s' w r := by
  rw [ho] at h
  simp only [evOp] at h
  cases hx : ev t x with
  | none => simp [hx] at h
  | some vx =>
    simp only [hx] at h
    cases hb : unA op vx with
    | none => simp [hb] at h
    | some v =>
      simp only [hb, Option.some.injEq, Prod.mk.injEq] at h
      obtain ⟨rfl, rfl⟩ := h
      have hr := ht.eval hx
      generalize he : a.eval x = x' at hr
      unfold unA at hb
      split at hb
      · cases hr
        simp only [Option.some.injEq] at hb; subst hb
        exact .pure (by simp [execOp, ho, he, Op.unary]) hs (VR.bool _)
      · cases hr
        simp only [Option.some.injEq] at hb; subst hb
        exact .pure (by simp [execOp, ho, he, Op.unary, Op.intArith]) hs (VR.int _ _)
      · cases hr
        simp only [Option.some.injEq] at hb; subst hb
        exact .pure (by simp only [execOp, ho, he, Op.unary, Op.intBits]; rfl) hs (VR.int _ _)
      · cases hb
theorem s_convert (hT : TabOk P T) (ht : TR w0 B0 ρ t a.tmps) (hs : Sim w0 B0 ρ s w) {src dst : TypeId} {x : Operand} (ho : o.op = .convert src dst x) (h : evOp T o.op t s = some (r, s')) : OpS P w0 B0 ρ s.ctr a o s' w r := by
  rw [ho] at h
  simp only [evOp] at h
  split at h
  · rename_i h1 h2 h3
    simp only [Option.some.injEq, Prod.mk.injEq] at h
    obtain ⟨rfl, rfl⟩ := h
    have k1 : P.underlying src = _ := (hT _ _ h1).sh
    have k2 : P.underlying dst = _ := (hT _ _ h2).sh
    have hr := ht.eval h3
    generalize he : a.eval x = x' at hr
    cases hr
    exact .pure (by simp only [execOp, ho, he, Sem.run_bind, convert, run_underlying k1, run_underlying k2, Result.andThen_ok, Conv.intToInt, Sem.run_pure]) hs (VR.int _ _)
  · cases h
theorem s_nilCheck (ht : TR w0 B0 ρ t a.tmps) (hs : Sim w0 B0 ρ s w) {x : Operand} (ho : o.op = .nilCheck x) (h : evOp T o.op t s = some (r, s')) : OpS P w0 B0 ρ s.ctr a o s' w r := by
  rw [ho] at h
  simp only [evOp] at h
  cases hx : ev t x with
  | none => simp [hx] at h
  | some vx =>
    have hr := ht.eval hx
    generalize he : a.eval x = x' at hr
    simp only [hx] at h
    cases hr with
    | ptr g j off b st n hρ =>
      simp only [Option.some.injEq, Prod.mk.injEq] at h
      obtain ⟨rfl, rfl⟩ := h
      exact .pure (by simp [execOp, ho, he]) hs (.ptr g j off b st n hρ)
    | rop cs ad f h1 h2 h3 h4 =>
      simp only [Option.some.injEq, Prod.mk.injEq] at h
      obtain ⟨rfl, rfl⟩ := h
      exact .pure (by simp [execOp, ho, he]) hs (.rop cs ad f h1 h2 h3 h4)
    | _ => simp at h
theorem s_makeFunc (ht : TR w0 B0 ρ t a.tmps) (hs : Sim w0 B0 ρ s w) {fn : Fn} {first caps : Array Operand} (ho : o.op = .makeFunc fn first caps) (h : evOp T o.op t s = some (r, s')) : OpS P w0 B0 ρ s.ctr a o s' w r := by
  rw [ho] at h
  cases fn with
  | func f =>
    simp only [evOp] at h
    split at h
    · cases h
    · rename_i hf
      have hf' : first = #[] := by
        have : first.size = 0 := Decidable.of_not_not hf
        exact Array.eq_empty_of_size_eq_zero this
      cases hc : evs t caps.toList with
      | none => simp [hc] at h
      | some vs =>
        simp only [hc, Option.some.injEq, Prod.mk.injEq] at h
        obtain ⟨rfl, rfl⟩ := h
        have hcr := ht.evs hc
        refine .pure (v' := .func (.func f) #[] (caps.map a.eval)) (by simp [execOp, ho, hf', Instr.makeFunc]) hs (.fn f vs _ (by have := hcr.1; simpa using this) (fun i u v hu hv => hcr.2 i u v hu ?_))
        rw [← Array.toList_map]
        simpa using hv
  | _ => simp [evOp] at h
theorem s_fieldAddr (hT : TabOk P T) (ht : TR w0 B0 ρ t a.tmps) (hs : Sim w0 B0 ρ s w) {st : TypeId} {x : Operand} {f : Nat} (ho : o.op = .fieldAddr st x f) (h : evOp T o.op t s = some (r, s')) : OpS P w0 B0 ρ s.ctr a o s' w r := by
  rw [ho] at h
  simp only [evOp] at h
  split at h
  · rename_i fs _ _ _ _ hi
    obtain ⟨fields, hu, hfs, hf⟩ := (hT st _ hi).sh
    cases hq : fs[f]? with
    | none => simp [hq] at h
    | some q =>
      obtain ⟨off, sz, ag⟩ := q
      obtain ⟨fl, hfl⟩ : ∃ fl, fields[f]? = some fl := ⟨fields[f]'(by rw [hfs]; exact (List.getElem?_eq_some_iff.1 hq).1), by simp⟩
      obtain ⟨e1, ⟨tf, e2, e3⟩, _⟩ := hf f fl _ hfl hq
      cases hx : ev t x with
      | none => simp [hq, hx] at h
      | some vx =>
        have hr := ht.eval hx
        generalize he : a.eval x = x' at hr
        simp only [hq, hx] at h
        have run : ∀ ad : Addr, sz ≠ 0 → x' = .pointer (some ad) → (execOp a.eval o).run P w = .ok (.value (.pointer (some (ad.add off)))) w := by
          intro ad hz hx'
          simp only at e1 e3
          simp [execOp, ho, he, hx', Instr.fieldAt, run_underlying hu, hfl, Instr.sureAddr, fieldPlace, run_sizeOf' e2, e3, hz, e1]
        cases hr with
        | ptr g j o' b st' n hρ =>
          simp only at h
          split at h
          · cases h
          · rename_i hz
            simp only [Option.some.injEq, Prod.mk.injEq] at h
            obtain ⟨rfl, rfl⟩ := h
            refine .pure (run _ hz rfl) hs ?_
            rw [add_eq, Nat.add_assoc]
            exact .ptr g j _ b st' n hρ
        | rop cs ad fn h1 h2 h3 h4 =>
          simp only at h
          split at h
          · cases h
          · rename_i hz
            split at h
            · rename_i hle
              simp only [Option.some.injEq, Prod.mk.injEq] at h
              obtain ⟨rfl, rfl⟩ := h
              refine .pure (run _ hz rfl) hs ?_
              have had : ad = ⟨ad.block, ad.off, none⟩ := by cases ad; simp at h1; simp [h1]
              rw [had, add_eq]
              refine .rop _ _ (fun k => fn (off + k)) rfl h2 (fun k u hu => ?_) (fun k u hu => ?_)
              · rw [List.getElem?_drop] at hu
                have := h3 _ u hu
                rw [← Nat.add_assoc] at this
                exact this
              · rw [List.getElem?_drop] at hu
                exact h4 _ u hu
            · cases h
        | _ => simp at h
  · cases h
theorem s_field (hT : TabOk P T) (ht : TR w0 B0 ρ t a.tmps) (hs : Sim w0 B0 ρ s w) {st : TypeId} {x : Operand} {f : Nat} (ho : o.op = .field st x f) (h : evOp T o.op t s = some (r, s')) : OpS P w0 B0 ρ s.ctr a o s' w r := by
  rw [ho] at h
  simp only [evOp] at h
  split at h
  · rename_i fs _ _ _ _ hi
    obtain ⟨fields, hu, hfs, hf⟩ := (hT st _ hi).sh
    cases hq : fs[f]? with
    | none => simp [hq] at h
    | some q =>
      obtain ⟨off, sz, ag⟩ := q
      obtain ⟨fl, hfl⟩ : ∃ fl, fields[f]? = some fl := ⟨fields[f]'(by rw [hfs]; exact (List.getElem?_eq_some_iff.1 hq).1), by simp⟩
      obtain ⟨e1, ⟨tf, e2, e3⟩, d, e4, e5⟩ := hf f fl _ hfl hq
      simp only at e1 e3 e5
      cases hx : ev t x with
      | none => simp [hq, hx] at h
      | some vx =>
        have hr := ht.eval hx
        generalize he : a.eval x = x' at hr
        simp only [hq, hx] at h
        cases hr with
        | agg cs arr h1 h2 =>
          simp only at h
          split at h
          · rename_i hc
            cases hof : ofCells ag ((cs.drop off).take sz) with
            | none => simp [hof] at h
            | some v =>
              simp only [hof, Option.some.injEq, Prod.mk.injEq] at h
              obtain ⟨rfl, rfl⟩ := h
              have hcr : CR w0 B0 ρ cs arr.toList := ⟨by simpa using h1, fun i u v hu hv => h2 i u v hu (by simpa using hv)⟩
              have hv := ofCells_VR hof ((hcr.drop off).take sz)
              refine .pure ?_ hs hv
              cases ag with
              | true =>
                have ex : arr.extract off (off + sz) = (List.take sz (List.drop off arr.toList)).toArray := by
                  apply Array.ext'
                  simp [Array.toList_extract, List.take_drop]
                simp [execOp, ho, he, Instr.field, run_underlying hu, hfl, asAgg, part, run_isAgg' e4, e5, run_sizeOf' e2, e3, e1, ex]
              | false =>
                have h1sz : sz = 1 := hc.2 rfl
                subst h1sz
                have hlt : off < arr.size := by omega
                have eg : (List.take 1 (List.drop off arr.toList)).getD 0 Go.undef = arr[off] := by
                  simp [List.getD, List.getElem?_take, hlt]
                simp only [Bool.false_eq_true, if_false]
                rw [eg]
                simp [execOp, ho, he, Instr.field, run_underlying hu, hfl, asAgg, part, run_isAgg' e4, e5, e1, hlt]
          · cases h
        | _ => simp at h
  · cases h
theorem s_extract (ht : TR w0 B0 ρ t a.tmps) (hs : Sim w0 B0 ρ s w) {x : Operand} {i : Nat} (ho : o.op = .extract x i) (h : evOp T o.op t s = some (r, s')) : OpS P w0 B0 ρ s.ctr a o s' w r := by
  rw [ho] at h
  simp only [evOp] at h
  cases hx : ev t x with
  | none => simp [hx] at h
  | some vx =>
    have hr := ht.eval hx
    generalize he : a.eval x = x' at hr
    simp only [hx] at h
    cases hr with
    | tup vs arr h1 h2 =>
      simp only at h
      cases hv : vs[i]? with
      | none => simp [hv] at h
      | some v =>
        simp only [hv, Option.some.injEq, Prod.mk.injEq] at h
        obtain ⟨rfl, rfl⟩ := h
        have hlt : i < arr.size := by rw [← h1]; exact (List.getElem?_eq_some_iff.1 hv).1
        refine .pure (v' := arr[i]) ?_ hs (h2 i v _ hv (by simp [hlt]))
        simp [execOp, ho, he, Instr.extract, hlt]
    | _ => simp at h
end
end Go.Ab
