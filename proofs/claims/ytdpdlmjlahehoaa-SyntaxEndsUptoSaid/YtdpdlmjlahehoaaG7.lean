/- Indexes, makes, slices of slices. -/
import Derived.Test.YtdpdlmjlahehoaaG6
namespace Go.Ab
open Go.RowKit
section
variable {P : Program} {w0 : World} {B0 : Nat} {ρ : Loc} {s s' : St} {w : World} {T : Tab}
variable {a : Act} {o : Oper} {t : TL} {r : Res}

theorem VR.nat {u : AV} {v : Value} {n : Nat} (h : VR w0 B0 ρ u v) (hn : natA u = some n) : ∃ k m, v = .int k m ∧ 0 ≤ m ∧ m.toNat = n := by
  unfold natA at hn
  split at hn
  · rename_i k m
    split at hn
    · rename_i h0
      simp only [Option.some.injEq] at hn
      cases h
      exact ⟨k, m, rfl, h0, hn⟩
    · cases hn
  · cases hn

theorem roAddr {a : Addr} (h : a.spot = none) : a = ⟨a.block, a.off, none⟩ := by cases a; simp at h; simp [h]

theorem s_indexAddr (hT : TabOk P T) (ht : TR w0 B0 ρ t a.tmps) (hs : Sim w0 B0 ρ s w) {tt : TypeId} {x y : Operand} (ho : o.op = .indexAddr tt x y) (h : evOp T o.op t s = some (r, s')) : OpS P w0 B0 ρ s.ctr a o s' w r := by
  rw [ho] at h
  simp only [evOp] at h
  cases hx : ev t x with
  | none => simp [hx] at h
  | some vx =>
    cases hy : ev t y with
    | none => simp [hx, hy] at h
    | some vy =>
      simp only [hx, hy] at h
      cases hn : natA vy with
      | none => simp [hn] at h
      | some n =>
        simp only [hn] at h
        cases hi : idxA T tt vx n with
        | none => simp [hi] at h
        | some v =>
          simp only [hi, Option.some.injEq, Prod.mk.injEq] at h
          obtain ⟨rfl, rfl⟩ := h
          obtain ⟨k, m, he, hm0, hmn⟩ := (ht.eval hy).nat hn
          have hr := ht.eval hx
          generalize hex : a.eval x = x' at hr
          have hmi : m = (n : Int) := by omega
          have runS : ∀ (e : TypeId) (ti : TypeInfo) (ad : Addr) (len c : Nat), P.underlying tt = some (.slice e) → P.info? e = some ti → x' = .slice (some ad) len c → n < len →
              (execOp a.eval o).run P w = .ok (.value (.pointer (some (ad.add (n * ti.size))))) w := by
            intro e ti ad len c hu hie hx' hlt
            have h1 : 0 ≤ m ∧ m < (len : Int) := by omega
            simp [execOp, ho, hex, he, hx', Instr.indexAt, asIntOf, run_underlying hu, run_sizeOf' hie, h1, hmn]
          have runA : ∀ (e : TypeId) (q : Nat) (ti : TypeInfo) (ad : Addr), P.underlying tt = some (.array q e) → P.info? e = some ti → x' = .pointer (some ad) → n < q →
              (execOp a.eval o).run P w = .ok (.value (.pointer (some (ad.add (n * ti.size))))) w := by
            intro e q ti ad hu hie hx' hlt
            have h1 : 0 ≤ m ∧ m < (q : Int) := by omega
            simp [execOp, ho, hex, he, hx', Instr.indexAt, Instr.sureAddr, asIntOf, run_underlying hu, run_sizeOf' hie, h1, hmn]
          unfold idxA at hi
          split at hi
          · rename_i e _ _ _ _ g j off sz len _ _ hti
            have hu : P.underlying tt = some (.slice e) := (hT tt _ hti).sh
            cases hie : T e with
            | none => simp [hie] at hi
            | some ie =>
              simp only [hie] at hi
              split at hi
              · rename_i hc
                simp only [Option.some.injEq] at hi
                subst hi
                obtain ⟨ti, z, h1, h2, _⟩ := (hT e ie hie).info
                cases hr with
                | slc _ _ _ _ _ lo ex b st nn c A hρ q1 q2 q3 q4 q5 =>
                have hA := q4 (by omega)
                refine .pure (runS e ti A len c hu h1 rfl hc.2) hs ?_
                rw [hA, add_eq, h2, hc.1, Nat.add_assoc]
                exact .ptr g j _ b st nn hρ
              · cases hi
          · rename_i e _ _ _ _ nl xs hti
            have hu : P.underlying tt = some (.slice e) := (hT tt _ hti).sh
            split at hi
            · rename_i ie x0 hie hx0
              split at hi
              · rename_i hc
                simp only [Option.some.injEq] at hi
                subst hi
                obtain ⟨ti, z, h1, h2, _⟩ := (hT e ie hie).info
                cases hr with
                | ro _ _ A c f q1 q2 q3 q4 q5 q6 =>
                have hlt : n < xs.length := (List.getElem?_eq_some_iff.1 hx0).1
                cases A with
                | none => have := q3 rfl; omega
                | some ad =>
                  obtain ⟨hsp, hB⟩ := q4 ad rfl (by intro q; simp [q] at hlt)
                  refine .pure (runS e ti ad xs.length c hu h1 rfl hlt) hs ?_
                  rw [roAddr hsp, add_eq, h2, ← hc]
                  exact .rop _ _ (fun kk => f n kk) rfl hB (fun kk u hu' => q5 n x0 hx0 kk u hu' ad rfl) (fun kk u hu' => q6 n x0 hx0 kk u hu')
              · cases hi
            · cases hi
          · rename_i q e _ _ _ _ g j off hti
            have hu : P.underlying tt = some (.array q e) := (hT tt _ hti).sh
            cases hie : T e with
            | none => simp [hie] at hi
            | some ie =>
              simp only [hie] at hi
              split at hi
              · rename_i hc
                simp only [Option.some.injEq] at hi
                subst hi
                obtain ⟨ti, z, h1, h2, _⟩ := (hT e ie hie).info
                cases hr with
                | ptr _ _ _ b st nn hρ =>
                refine .pure (runA e q ti _ hu h1 rfl hc) hs ?_
                rw [add_eq, h2, Nat.add_assoc]
                exact .ptr g j _ b st nn hρ
              · cases hi
          · rename_i q e _ _ _ _ cs hti
            have hu : P.underlying tt = some (.array q e) := (hT tt _ hti).sh
            cases hie : T e with
            | none => simp [hie] at hi
            | some ie =>
              simp only [hie] at hi
              split at hi
              · rename_i hc
                simp only [Option.some.injEq] at hi
                subst hi
                obtain ⟨ti, z, h1, h2, _⟩ := (hT e ie hie).info
                cases hr with
                | rop _ ad f q1 q2 q3 q4 =>
                refine .pure (runA e q ti _ hu h1 rfl hc.1) hs ?_
                rw [roAddr q1, add_eq, h2]
                refine .rop _ _ (fun kk => f (n * ie.size + kk)) rfl q2 (fun kk u hu' => ?_) (fun kk u hu' => ?_)
                · rw [List.getElem?_drop] at hu'
                  have := q3 _ u hu'
                  rw [← Nat.add_assoc] at this
                  exact this
                · rw [List.getElem?_drop] at hu'
                  exact q4 _ u hu'
              · cases hi
          · cases hi

theorem wrap_small {n : Int} (h0 : 0 ≤ n) (h1 : n ≤ 140737488355328) : IntKind.i64.wrap n = n := by
  simp only [IntKind.wrap, IntKind.signed, IntKind.bits]
  simp
  omega
theorem s_makeSlice (hT : TabOk P T) (ht : TR w0 B0 ρ t a.tmps) (hs : Sim w0 B0 ρ s w) {tt : TypeId} {x y : Operand} (ho : o.op = .makeSlice tt x y) (h : evOp T o.op t s = some (r, s')) : OpS P w0 B0 ρ s.ctr a o s' w r := by
  rw [ho] at h
  simp only [evOp] at h
  split at h
  · rename_i e _ _ _ _ hti
    have hu : P.underlying tt = some (.slice e) := (hT tt _ hti).sh
    cases hie : T e with
    | none => simp [hie] at h
    | some ie =>
      simp only [hie] at h
      split at h
      · rename_i n m hx hy
        split at h
        · rename_i hc
          obtain ⟨c1, rfl, c3, c4, c5, c6, c7⟩ := hc
          simp only [Option.some.injEq, Prod.mk.injEq] at h
          obtain ⟨rfl, rfl⟩ := h
          have hrx := ht.eval hx
          have hry := ht.eval hy
          generalize hex : a.eval x = x' at hrx
          generalize hey : a.eval y = y' at hry
          cases hrx
          cases hry
          obtain ⟨ti, z, h1, h2, h3, h4, h5⟩ := (hT e ie hie).zeroCR
          have hz := h5 w0 B0 ρ
          have hzz := flatten_get hz (by omega) n.toNat
          have hzl : z.cells.size = ie.size := by have := hz.1; rw [Array.length_toList] at this; omega
          have hlf : (List.replicate n.toNat ie.zero).flatten.all AV.leaf = true := by
            rw [List.all_eq_true] at c7 ⊢
            intro u hu'
            rw [List.mem_flatten] at hu'
            obtain ⟨l, hl, hul⟩ := hu'
            rw [List.eq_of_mem_replicate hl] at hul
            exact c7 u hul
          have harr := hzz.arr
          obtain ⟨ρ', hle, hnew, hs'⟩ := hs.new e harr.1 hlf harr.2
          refine .val _ (.slice (some ⟨w.heap.size, 0, none⟩) n.toNat n.toNat) _ _ ?_ hle hs' (.slc _ _ _ _ _ _ _ w.heap.size 0 _ n.toNat ⟨w.heap.size, 0, none⟩ hnew (Nat.le_refl _) (Nat.le_refl _) (fun _ => rfl) (fun _ => rfl) (by simp [c5]))
          have hw := wrap_small c1 c4
          have hb : ¬ ((ti.bytes : Int) * n > 2 ^ 48) := by
            have e1 : ((ie.bytes * n.toNat : Nat) : Int) = (ie.bytes : Int) * n := by
              rw [Int.natCast_mul, Int.toNat_of_nonneg c1]
            rw [h3, ← e1]
            unfold maxBytes at c3
            rw [Nat.mul_comm] at c3
            have : ((ie.bytes * n.toNat : Nat) : Int) ≤ 140737488355328 := Int.ofNat_le.2 c3
            have p48 : (2 : Int) ^ 48 = 281474976710656 := rfl
            rw [p48]
            omega
          have hn0 : ¬ n < 0 := by omega
          simp only [execOp, ho, hex, hey, Instr.makeSlice, asInt, asIntOf, Sem.run_bind, Sem.run_pure, run_underlying hu, Result.andThen_ok, run_typeInfo' h1, hw]
          have hcond : ((decide (n < 0) || decide ((ti.bytes : Int) * n > 2 ^ 48)) = true) = False := by
            simp only [Bool.or_eq_true, decide_eq_true_eq, eq_iff_iff, iff_false, not_or]
            exact ⟨hn0, hb⟩
          simp only [Bool.or_eq_true, decide_eq_true_eq, hn0, hb, or_self, false_or, gt_iff_lt, Int.lt_irrefl, if_false, Sem.run_bind, Sem.run_pure, run_askRoom, Result.andThen_ok, run_sizeOf' h1]
          by_cases hl0 : n.toNat * ti.size = 0
          · have hl0' : n.toNat = 0 := by rw [h2] at hl0; rcases Nat.mul_eq_zero.1 hl0 with q | q <;> omega
            rw [if_pos hl0]
            have e0 : (Array.map (fun x => (#[] : Array Value)[x % (#[] : Array Value).size]!) (Array.range (n.toNat * ti.size))) = (Array.map (fun x => z.cells[x % z.cells.size]!) (Array.range (n.toNat * ie.zero.length))) := by
              rw [hl0, hl0', Nat.zero_mul]; simp
            simp only [Sem.run_bind, Sem.run_pure, Result.andThen_ok, newRow, run_newObj, e0]
            rfl
          · rw [if_neg hl0]
            have e1 : ti.size = ie.zero.length := by omega
            simp only [Sem.run_bind, Sem.run_pure, Result.andThen_ok, run_zeroValue' h1 h4, newRow, run_newObj, e1]
            rfl
        · cases h
      · cases h
  · cases h

/-- An optional bound. -/
theorem TR.optNat (ht : TR w0 B0 ρ t a.tmps) {x : Option Operand} {n : Option Nat} (h : optNat t x = some n) :
    (x = none ∧ n = none) ∨ ∃ y k m, x = some y ∧ a.eval y = .int k m ∧ 0 ≤ m ∧ n = some m.toNat := by
  cases x with
  | none => simp only [Ab.optNat, Option.some.injEq] at h; exact .inl ⟨rfl, h.symm⟩
  | some y =>
    simp only [Ab.optNat] at h
    cases hy : ev t y with
    | none => simp [hy] at h
    | some v =>
      simp only [hy] at h
      cases hn : natA v with
      | none => simp [hn] at h
      | some q =>
        simp only [hn, Option.some.injEq] at h
        subst h
        obtain ⟨k, m, h1, h2, h3⟩ := (ht.eval hy).nat hn
        exact .inr ⟨y, k, m, rfl, h1, h2, by rw [h3]⟩
/-- A bound as a value: none, or a number. -/
def OptV (x : Option Value) (n : Option Nat) : Prop := (x = none ∧ n = none) ∨ ∃ k m, x = some (.int k m) ∧ 0 ≤ m ∧ n = some m.toNat
theorem TR.optV (ht : TR w0 B0 ρ t a.tmps) {x : Option Operand} {n : Option Nat} (h : Ab.optNat t x = some n) : OptV (x.map a.eval) n := by
  rcases ht.optNat h with ⟨rfl, rfl⟩ | ⟨y, k, m, rfl, h1, h2, rfl⟩
  · exact .inl ⟨rfl, rfl⟩
  · exact .inr ⟨k, m, by simp [h1], h2, rfl⟩
theorem run_sliceBound {k : IntKind} {m : Int} {y : Nat} {c : BoundsCode} (h0 : 0 ≤ m) (h1 : m.toNat ≤ y) (w : World) : (Instr.sliceBound (.int k m) y c).run P w = .ok m.toNat w := by
  have h2 : 0 ≤ m ∧ m ≤ (y : Int) := by omega
  simp only [Instr.sliceBound, asIntOf, Sem.run_bind, Sem.run_pure, Result.andThen_ok, if_pos h2]
/-- The three bounds, without a third one. -/
theorem run_bounds2 {q : Bool} {len cap : Nat} {lo hi : Option Value} {l h : Option Nat} (hl : OptV lo l) (hh : OptV hi h) (h1 : l.getD 0 ≤ h.getD len) (h2 : h.getD len ≤ cap) (w : World) :
    (Instr.sliceBounds q len cap lo hi none).run P w = .ok (l.getD 0, h.getD len, cap) w := by
  rcases hl with ⟨rfl, rfl⟩ | ⟨k, m, rfl, hm, rfl⟩ <;> rcases hh with ⟨rfl, rfl⟩ | ⟨k', m', rfl, hm', rfl⟩ <;>
    simp only [Option.getD_none, Option.getD_some] at h1 h2 ⊢
  · simp [Instr.sliceBounds]
  · simp [Instr.sliceBounds, run_sliceBound hm' h2]
  · simp [Instr.sliceBounds, run_sliceBound hm h1]
  · simp [Instr.sliceBounds, run_sliceBound hm' h2, run_sliceBound hm h1]
theorem run_bounds3 {q : Bool} {len cap : Nat} {lo hi mx : Option Value} {l : Option Nat} {h m : Nat} (hl : OptV lo l) (hh : OptV hi (some h)) (hm : OptV mx (some m)) (h1 : l.getD 0 ≤ h) (h2 : h ≤ m) (h3 : m ≤ cap) (w : World) :
    (Instr.sliceBounds q len cap lo hi mx).run P w = .ok (l.getD 0, h, m) w := by
  rcases hh with ⟨_, hh⟩ | ⟨k', m', rfl, hm', hh⟩
  · cases hh
  rcases hm with ⟨_, hm⟩ | ⟨k2, m2, rfl, hm2, hm⟩
  · cases hm
  simp only [Option.some.injEq] at hh hm
  subst hh hm
  rcases hl with ⟨rfl, rfl⟩ | ⟨k, m, rfl, hm, rfl⟩ <;> simp only [Option.getD_none, Option.getD_some] at h1 ⊢
  · simp [Instr.sliceBounds, run_sliceBound hm' h2, run_sliceBound hm2 h3]
  · simp [Instr.sliceBounds, run_sliceBound hm' h2, run_sliceBound hm2 h3, run_sliceBound hm h1]

theorem s_slice (hT : TabOk P T) (ht : TR w0 B0 ρ t a.tmps) (hs : Sim w0 B0 ρ s w) {tt : TypeId} {x : Operand} {lo hi mx : Option Operand} (ho : o.op = .slice tt x lo hi mx) (h : evOp T o.op t s = some (r, s')) : OpS P w0 B0 ρ s.ctr a o s' w r := by
  rw [ho] at h
  simp only [evOp] at h
  cases hx : ev t x with
  | none => simp [hx] at h
  | some vx =>
  cases hl : optNat t lo with
  | none => simp [hx, hl] at h
  | some l =>
  cases hh : optNat t hi with
  | none => simp [hx, hl, hh] at h
  | some hn =>
  cases hm : optNat t mx with
  | none => simp [hx, hl, hh, hm] at h
  | some m =>
  simp only [hx, hl, hh, hm] at h
  have hao : arrOk T tt vx s = true := by
    cases hq : arrOk T tt vx s with
    | true => rfl
    | false => simp [hq] at h
  rw [if_pos hao] at h
  cases hsl : sliceA T tt vx l hn m with
  | none => simp [hsl] at h
  | some v =>
  simp only [hsl, Option.some.injEq, Prod.mk.injEq] at h
  obtain ⟨rfl, rfl⟩ := h
  have vl := ht.optV hl
  have vh := ht.optV hh
  have vm := ht.optV hm
  have hr := ht.eval hx
  have hex : (execOp a.eval o).run P w = ((Instr.sliceAt tt (a.eval x) (lo.map a.eval) (hi.map a.eval) (mx.map a.eval)).run P w).andThen fun v w => .ok (.value v) w := by
    simp only [execOp, ho, Sem.run_bind, Sem.run_pure]
  rw [show OpS P w0 B0 ρ s.ctr a o s w (.val v) = OpS P w0 B0 ρ s.ctr a o s w (.val v) from rfl]
  have fin : ∀ v' : Value, (Instr.sliceAt tt (a.eval x) (lo.map a.eval) (hi.map a.eval) (mx.map a.eval)).run P w = .ok v' w → VR w0 B0 ρ v v' → OpS P w0 B0 ρ s.ctr a o s w (.val v) :=
    fun v' h1 h2 => .pure (by rw [hex, h1]; rfl) hs h2
  clear hex
  generalize a.eval x = x' at hr fin
  generalize lo.map a.eval = lo' at vl fin
  generalize hi.map a.eval = hi' at vh fin
  generalize mx.map a.eval = mx' at vm fin
  unfold sliceA at hsl
  split at hsl
  · -- a slice of memory of the call's own
    rename_i e _ _ _ _ g j off sz len room ex hti
    have hu : P.underlying tt = some (.slice e) := (hT tt _ hti).sh
    cases hie : T e with
    | none => simp [hie] at hsl
    | some ie =>
      simp only [hie] at hsl
      obtain ⟨ti, z, i1, i2, _⟩ := (hT e ie hie).info
      split at hsl
      · cases hsl
      · rename_i hsz
        have hsz : ie.size = sz := Decidable.of_not_not hsz
        cases hr with
        | slc _ _ _ _ _ _ _ b st nn c A hρ q1 q2 q3 q4 q5 =>
        cases m with
        | none =>
          simp only at hsl
          split at hsl
          · rename_i hc
            simp only [Option.some.injEq] at hsl
            subst hsl
            rcases vm with ⟨rfl, _⟩ | ⟨_, _, _, _, vm⟩
            · refine fin (.slice (if c = l.getD 0 then some A else some (A.add (l.getD 0 * ti.size))) (hn.getD len - l.getD 0) (c - l.getD 0)) ?_ ?_
              · have hb := run_bounds2 (P := P) (q := true) (len := len) (cap := c) vl vh hc.1 (by omega) w
                simp only [Instr.sliceAt, Instr.slice, Sem.run_bind, run_underlying hu, Result.andThen_ok, hb, run_sizeOf' i1, Sem.run_pure, Option.map_some]
              · rw [i2, hsz]
                have hle : l.getD 0 * sz ≤ c * sz := Nat.mul_le_mul_right _ (by omega)
                have hmul : (c - l.getD 0) * sz = c * sz - l.getD 0 * sz := Nat.sub_mul _ _ _
                by_cases hcl : c = l.getD 0
                · rw [if_pos hcl]
                  exact .slc _ _ _ _ _ _ _ b st nn _ A hρ (by omega) (by omega) (fun hx => by have := q3 hx; omega) (fun hx => absurd hcl (by omega)) (by omega)
                · rw [if_neg hcl]
                  refine .slc _ _ _ _ _ _ _ b st nn _ _ hρ (by omega) (by omega) (fun hx => by have := q3 hx; omega) (fun _ => ?_) (by omega)
                  rw [q4 (by omega), add_eq, Nat.add_assoc]
            · cases vm
          · cases hsl
        | some m =>
          simp only at hsl
          split at hsl
          · rename_i hc
            obtain ⟨c1, c2, c3, c4⟩ := hc
            cases hn with
            | none => cases c4
            | some h =>
              simp only [Option.getD_some, Option.some.injEq] at c1 c2 hsl
              subst hsl
              refine fin (.slice (if m = l.getD 0 then some A else some (A.add (l.getD 0 * ti.size))) (h - l.getD 0) (m - l.getD 0)) ?_ ?_
              · have hb := run_bounds3 (P := P) (q := true) (len := len) (cap := c) vl vh vm c1 c2 (by omega) w
                simp only [Instr.sliceAt, Instr.slice, Sem.run_bind, run_underlying hu, Result.andThen_ok, hb, run_sizeOf' i1, Sem.run_pure, Option.map_some]
              · rw [i2, hsz]
                have hle : m * sz ≤ c * sz := Nat.mul_le_mul_right _ (by omega)
                have hle2 : l.getD 0 * sz ≤ m * sz := Nat.mul_le_mul_right _ (by omega)
                have hmul : (m - l.getD 0) * sz = m * sz - l.getD 0 * sz := Nat.sub_mul _ _ _
                by_cases hcl : m = l.getD 0
                · rw [if_pos hcl]
                  exact .slc _ _ _ _ _ _ _ b st nn _ A hρ (by omega) (by omega) (fun hx => rfl) (fun hx => absurd hcl (by omega)) (by omega)
                · rw [if_neg hcl]
                  refine .slc _ _ _ _ _ _ _ b st nn _ _ hρ (by omega) (by omega) (fun hx => rfl) (fun _ => ?_) (by omega)
                  rw [q4 (by omega), add_eq, Nat.add_assoc]
          · cases hsl
  · -- of memory that came in
    rename_i e _ _ _ _ nl xs hti
    have hu : P.underlying tt = some (.slice e) := (hT tt _ hti).sh
    cases hie : T e with
    | none => simp [hie] at hsl
    | some ie =>
    simp only [hie] at hsl
    obtain ⟨ti, z, i1, i2, _⟩ := (hT e ie hie).info
    cases m with
    | some m => simp at hsl
    | none =>
      simp only at hsl
      split at hsl
      · rename_i hc
        obtain ⟨c1, c2, c3⟩ := hc
        simp only [Option.some.injEq] at hsl
        subst hsl
        rcases vm with ⟨rfl, _⟩ | ⟨_, _, _, _, vm⟩
        · cases hr with
          | ro _ _ A c f q1 q2 q3 q4 q5 q6 =>
          refine fin (.slice (if c = l.getD 0 then A else A.map (·.add (l.getD 0 * ti.size))) (hn.getD xs.length - l.getD 0) (c - l.getD 0)) ?_ ?_
          · have hb := run_bounds2 (P := P) (q := true) (len := xs.length) (cap := c) vl vh c1 (by omega) w
            simp only [Instr.sliceAt, Instr.slice, Sem.run_bind, run_underlying hu, Result.andThen_ok, hb, run_sizeOf' i1, Sem.run_pure]
          · have hsz : ∀ (i : Nat) (x : AV), xs[i]? = some x → x.cells.length = ie.size := fun i x hx => by
              have := List.all_eq_true.1 c3 x (List.mem_of_getElem? hx)
              simpa using this
            have hlen : ((xs.drop (l.getD 0)).take (hn.getD xs.length - l.getD 0)).length = hn.getD xs.length - l.getD 0 := by simp; omega
            have hget : ∀ (i : Nat) (x : AV), ((xs.drop (l.getD 0)).take (hn.getD xs.length - l.getD 0))[i]? = some x → xs[l.getD 0 + i]? = some x := by
              intro i x hx
              rw [List.getElem?_take] at hx
              split at hx
              · rwa [List.getElem?_drop] at hx
              · cases hx
            suffices hro : VR w0 B0 ρ (.ro nl ((xs.drop (l.getD 0)).take (hn.getD xs.length - l.getD 0))) (.slice (if c = l.getD 0 then A else A.map (·.add (l.getD 0 * ti.size))) ((xs.drop (l.getD 0)).take (hn.getD xs.length - l.getD 0)).length (c - l.getD 0)) by
              rw [hlen] at hro; exact hro
            refine .ro nl _ _ _ (fun i k => f (l.getD 0 + i) k) (by rw [hlen]; omega) ?_ ?_ ?_ ?_ ?_
            · rw [q2]
              by_cases hcl : c = l.getD 0
              · rw [if_pos hcl]
              · rw [if_neg hcl]; cases A <;> simp
            · intro hA
              by_cases hcl : c = l.getD 0
              · omega
              · rw [if_neg hcl] at hA
                cases A with
                | none => have := q3 rfl; omega
                | some ad => cases hA
            · intro ad hA hne
              by_cases hcl : c = l.getD 0
              · rw [if_pos hcl] at hA
                exact q4 ad hA (fun hx => hne (by simp [hx]))
              · rw [if_neg hcl] at hA
                cases A with
                | none => cases hA
                | some ad0 =>
                  simp only [Option.map_some, Option.some.injEq] at hA
                  subst hA
                  obtain ⟨hsp, hB⟩ := q4 ad0 rfl (fun hx => hne (by simp [hx]))
                  rw [roAddr hsp, add_eq]
                  exact ⟨rfl, hB⟩
            · intro i x hx k u hu' ad hA
              have hx' := hget i x hx
              have hlt : l.getD 0 + i < xs.length := (List.getElem?_eq_some_iff.1 hx').1
              have hcl : ¬ c = l.getD 0 := by omega
              rw [if_neg hcl] at hA
              cases A with
              | none => cases hA
              | some ad0 =>
                simp only [Option.map_some, Option.some.injEq] at hA
                subst hA
                have hsp := (q4 ad0 rfl (by intro q; simp [q] at hlt)).1
                have h5 := q5 _ x hx' k u hu' ad0 rfl
                rw [roAddr hsp, add_eq, i2]
                dsimp only
                rw [hsz _ x hx'] at h5 ⊢
                rw [Nat.add_mul, ← Nat.add_assoc] at h5
                exact h5
            · intro i x hx k u hu'
              exact q6 _ x (hget i x hx) k u hu'
        · cases vm
      · cases hsl
  · -- of no slice
    rename_i e _ _ _ _ hti
    have hu : P.underlying tt = some (.slice e) := (hT tt _ hti).sh
    cases hie : T e with
    | none => simp [hie] at hsl
    | some ie =>
    simp only [hie] at hsl
    obtain ⟨ti, z, i1, i2, _⟩ := (hT e ie hie).info
    split at hsl
    · rename_i hc
      obtain ⟨c1, c2, c3, c4⟩ := hc
      simp only [Option.some.injEq] at hsl
      subst hsl
      cases hr
      refine fin (.slice none 0 0) ?_ .nils
      cases m with
      | none =>
        rcases vm with ⟨rfl, _⟩ | ⟨_, _, _, _, vm⟩
        · have hb := run_bounds2 (P := P) (q := true) (len := 0) (cap := 0) vl vh (by omega) (by omega) w
          simp only [Instr.sliceAt, Instr.slice, Sem.run_bind, run_underlying hu, Result.andThen_ok, hb, run_sizeOf' i1, Sem.run_pure, c1, c2]
          simp
        · cases vm
      | some m =>
        simp only [Option.getD_some] at c3
        subst c3
        cases hn with
        | none => have := c4 rfl; cases this
        | some h0 =>
          simp only [Option.getD_some] at c2
          subst c2
          have hb := run_bounds3 (P := P) (q := true) (len := 0) (cap := 0) vl vh vm (by omega) (Nat.le_refl _) (Nat.le_refl _) w
          simp only [Instr.sliceAt, Instr.slice, Sem.run_bind, run_underlying hu, Result.andThen_ok, hb, run_sizeOf' i1, Sem.run_pure, c1]
          simp
    · cases hsl
  · -- of an array
    rename_i n e _ _ _ _ g j off hti
    have hu : P.underlying tt = some (.array n e) := (hT tt _ hti).sh
    cases hie : T e with
    | none => simp [hie] at hsl
    | some ie =>
      simp only [hie] at hsl
      obtain ⟨ti, z, i1, i2, _⟩ := (hT e ie hie).info
      cases m with
      | some m => simp at hsl
      | none =>
        simp only at hsl
        split at hsl
        · rename_i hc
          simp only [Option.some.injEq] at hsl
          subst hsl
          obtain ⟨c1, c2, c3⟩ := hc
          rcases vm with ⟨rfl, _⟩ | ⟨_, _, _, _, vm⟩
          · cases hr with
            | ptr _ _ _ b st nn hρ =>
            simp only [arrOk, hti, hie] at hao
            obtain ⟨cs, hcs⟩ := Option.isSome_iff_exists.1 hao
            have hroom : st + off + n * ie.size ≤ nn := by
              obtain ⟨_, G, V, hG, hV, hvr⟩ := hs.ver g j b st nn hρ
              unfold St.read at hcs
              simp only [hG] at hcs
              obtain ⟨V', hV', ⟨hm, hle⟩, _⟩ := Grp.read_spec hcs
              rw [hV] at hV'
              cases hV'
              obtain ⟨cur, e', hbk⟩ := hvr.row hm
              have := (hvr.cells hbk).2.1
              omega
            refine fin (.slice (some (if n = l.getD 0 then ⟨b, st + off, none⟩ else (⟨b, st + off, none⟩ : Addr).add (l.getD 0 * ti.size))) (hn.getD n - l.getD 0) (n - l.getD 0)) ?_ ?_
            · have hb := run_bounds2 (P := P) (q := false) (len := n) (cap := n) vl vh c1 c2 w
              simp only [Instr.sliceAt, Instr.sureAddr, Sem.run_bind, run_underlying hu, Result.andThen_ok, hb, run_sizeOf' i1, Sem.run_pure]
            · rw [i2]
              have hle : l.getD 0 * ie.size ≤ n * ie.size := Nat.mul_le_mul_right _ (by omega)
              have hmul : (n - l.getD 0) * ie.size = n * ie.size - l.getD 0 * ie.size := Nat.sub_mul _ _ _
              by_cases hcl : n = l.getD 0
              · rw [if_pos hcl]
                exact .slc _ _ _ _ _ _ _ b st nn _ _ hρ (by omega) (by omega) (fun hx => rfl) (fun hx => absurd hcl (by omega)) (by omega)
              · rw [if_neg hcl]
                refine .slc _ _ _ _ _ _ _ b st nn _ _ hρ (by omega) (by omega) (fun hx => rfl) (fun _ => ?_) (by omega)
                rw [add_eq, Nat.add_assoc]
          · cases vm
        · cases hsl
  · cases hsl
end
end Go.Ab
