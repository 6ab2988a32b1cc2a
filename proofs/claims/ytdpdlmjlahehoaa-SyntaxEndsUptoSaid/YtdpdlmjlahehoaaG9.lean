/- Calls as operations; every operation. -/
import Derived.Test.YtdpdlmjlahehoaaG8
import Derived.Test.YtdpdlmjlahehoaaGM
namespace Go.Ab
open Go.RowKit
section
variable {P : Program} {w0 : World} {B0 : Nat} {ρ : Loc} {s s' : St} {w : World} {T : Tab}
variable {a : Act} {o : Oper} {t : TL} {r : Res}

theorem VR.slen {x : AV} {v : Value} {n : Nat} (h : VR w0 B0 ρ x v) (hn : x.slen = some n) : ∃ X c, v = .slice X n c := by
  cases h <;> simp only [AV.slen, Option.some.injEq] at hn <;> first | (cases hn; done) | (subst hn; exact ⟨_, _, rfl⟩)

theorem CR.one {u : AV} {vs : List Value} (h : CR w0 B0 ρ [u] vs) : ∃ v, vs = [v] ∧ VR w0 B0 ρ u v := by
  match vs, h with
  | [v], h => exact ⟨v, rfl, h.2 0 u v rfl rfl⟩
  | [], h => exact absurd h.1 (by simp)
  | _ :: _ :: _, h => exact absurd h.1 (by simp)
theorem CR.two {u u' : AV} {vs : List Value} (h : CR w0 B0 ρ [u, u'] vs) : ∃ v v', vs = [v, v'] ∧ VR w0 B0 ρ u v ∧ VR w0 B0 ρ u' v' := by
  match vs, h with
  | [v, v'], h => exact ⟨v, v', rfl, h.2 0 u v rfl rfl, h.2 1 u' v' rfl rfl⟩
  | [], h => exact absurd h.1 (by simp)
  | [_], h => exact absurd h.1 (by simp)
  | _ :: _ :: _ :: _, h => exact absurd h.1 (by simp)

theorem arr_of_list {α : Type} {x : Array α} {l : List α} (h : x.toList = l) : x = l.toArray := by rw [← h]

theorem run_copy' (dT e ty : TypeId) (ti : TypeInfo) (hu : P.underlying dT = some (.slice e)) (hi : P.info? e = some ti) {b o' dLen dCap : Nat} {cur : Array Value} {e' : TypeId} (hg : w.heap[b]? = some (.cells cur e' (0, 0)))
    {X : Option Addr} {n c m : Nat} {vs : List Value} (hm : m = min n dLen) (hvl : vs.length = m * ti.size) (hX : X = none → n = 0 ∧ c = 0) (hc : ∀ ad, X = some ad → CellsAt w ad vs) (h1 : ∀ u ∈ vs, u.oneCell' = true) (hfit : o' + vs.length ≤ cur.size) :
    (Builtin.copy_ #[dT, dT] ty #[.slice (some ⟨b, o', none⟩) dLen dCap, .slice X n c]).run P w = .ok (goInt m) (w.setRow b (cur.toList.take o' ++ vs ++ cur.toList.drop (o' + vs.length)).toArray) := by
  have hst := run_storeCells_at P b o' e' vs 0 cur w hg (by simpa using hfit) h1
  simp only [Nat.add_zero] at hst
  have hf : (Builtin.firstCells ti.size (Nat.min n dLen) (.slice X n c)).run P w = .ok vs.toArray w := by
    have hm' : Nat.min n dLen = m := hm.symm
    rw [hm']
    cases X with
    | none =>
      have h0 := (hX rfl).1
      have : m = 0 := by omega
      have : vs = [] := List.eq_nil_of_length_eq_zero (by rw [hvl, this, Nat.zero_mul])
      subst this
      simp [Builtin.firstCells]
    | some ad =>
      have := run_loadCells_list (P := P) w ad vs (hc ad rfl)
      rw [hvl] at this
      simpa [Builtin.firstCells] using this
  simp [Builtin.copy_, run_underlying hu, Builtin.lenOf, run_sizeOf' hi, hf, hst]
  simp [hm]

theorem callA_sound (hT : TabOk P T) (hs : Sim w0 B0 ρ s w) {b : Builtin} {tys : Array TypeId} {args : List AV} {args' : Array Value} (hr : CR w0 B0 ρ args args'.toList) {v : AV} (h : callA T b tys.toList args s = some (v, s')) (ty : TypeId) (cs : Array Bool) :
    ∃ v' w' ρ', (builtin b tys ty cs args').run P w = .ok (.value v') w' ∧ ρ.lex s.ctr ρ' ∧ Sim w0 B0 ρ' s' w' ∧ VR w0 B0 ρ' v v' := by
  generalize htl : tys.toList = tl at h
  unfold callA at h
  split at h
  · -- len
    rename_i t x
    obtain ⟨x', hv, hx⟩ := hr.one
    obtain rfl := arr_of_list htl
    obtain rfl := arr_of_list hv
    have pure_ : ∀ v' : Value, (Builtin.len_ #[t] ty #[x']).run P w = .ok v' w → s' = s → VR w0 B0 ρ v v' → _ := fun v' h1 h2 h3 =>
      (⟨v', w, ρ, by simp only [builtin, Sem.run_bind, Sem.run_pure, h1, Result.andThen_ok], Loc.lex_refl _ _, by rw [h2]; exact hs, h3⟩ :
        ∃ v' w' ρ', (builtin .len #[t] ty cs #[x']).run P w = .ok (.value v') w' ∧ ρ.lex s.ctr ρ' ∧ Sim w0 B0 ρ' s' w' ∧ VR w0 B0 ρ' v v')
    cases hle : lenA T t x with
    | none => simp [hle] at h
    | some n =>
      simp only [hle, Option.some.injEq, Prod.mk.injEq] at h
      obtain ⟨rfl, rfl⟩ := h
      unfold lenA at hle
      cases hti : T t with
      | none => simp [hti] at hle
      | some i =>
        simp only [hti] at hle
        have hsh := (hT t i hti).sh
        split at hle
        · rename_i e he
          rw [he] at hsh
          have hu : P.underlying t = some (.slice e) := hsh
          obtain ⟨X, c, rfl⟩ := hx.slen hle
          exact pure_ (.int .i64 n) (by simp [Builtin.len_, run_underlying hu, goInt]) rfl (.int _ _)
        · rename_i he
          rw [he] at hsh
          have hu : P.underlying t = some .string := hsh
          split at hle
          · cases hx
            simp only [Option.some.injEq] at hle
            subst hle
            exact pure_ (.int .i64 _) (by simp [Builtin.len_, run_underlying hu, goInt]) rfl (.int _ _)
          · cases hle
        · rename_i q e he
          rw [he] at hsh
          have hu : P.underlying t = some (.array q e) := hsh
          simp only [Option.some.injEq] at hle
          subst hle
          exact pure_ (.int .i64 q) (by simp [Builtin.len_, run_underlying hu, goInt]) rfl (.int _ _)
        · cases hle
  · -- cap
    rename_i t x
    obtain ⟨x', hv, hx⟩ := hr.one
    obtain rfl := arr_of_list htl
    obtain rfl := arr_of_list hv
    split at h
    · rename_i e _ _ _ _ hti
      have hu : P.underlying t = some (.slice e) := (hT t _ hti).sh
      cases hx
      simp only [Option.some.injEq, Prod.mk.injEq] at h
      obtain ⟨rfl, rfl⟩ := h
      exact ⟨.int .i64 0, w, ρ, by simp [builtin, Builtin.cap_, run_underlying hu, goInt], Loc.lex_refl _ _, hs, .int _ _⟩
    · rename_i e _ _ _ _ _ _ _ _ _ lo hti
      have hu : P.underlying t = some (.slice e) := (hT t _ hti).sh
      cases hx with
      | slc _ _ _ _ _ _ _ b st nn c A hρ q1 q2 q3 q4 q5 =>
      simp only [Option.some.injEq, Prod.mk.injEq] at h
      obtain ⟨rfl, rfl⟩ := h
      have := q3 rfl
      subst this
      exact ⟨.int .i64 c, w, ρ, by simp [builtin, Builtin.cap_, run_underlying hu, goInt], Loc.lex_refl _ _, hs, .int _ _⟩
    · cases h
  · -- append
    rename_i t t' x y
    obtain ⟨x', y', hv, hx, hy⟩ := hr.two
    obtain rfl := arr_of_list htl
    obtain rfl := arr_of_list hv
    split at h
    · obtain ⟨v', w', ρ', h1, h2, h3, h4⟩ := appZeros_sound hT hs hx hy h ty
      refine ⟨v', w', ρ', ?_, h2, h3, h4⟩
      simp only [builtin, Sem.run_bind, Sem.run_pure]
      rw [h1]
      rfl
    · rename_i htt
      have htt : t = t' := Decidable.of_not_not htt
      subst htt
      split at h
      · rename_i e _ _ _ _ hti
        have hu : P.underlying t = some (.slice e) := (hT t _ hti).sh
        cases hie : T e with
        | none => simp [hie] at h
        | some ie =>
          simp only [hie] at h
          split at h
          · rename_i n ns hn hel
            obtain ⟨v', w', ρ', h1, h2, h3, h4⟩ := app_sound hT hs hu hie hx hy hn hel h ty
            refine ⟨v', w', ρ', ?_, h2, h3, h4⟩
            simp only [builtin, Sem.run_bind, Sem.run_pure]
            rw [h1]
            rfl
          · cases h
      · cases h
  · -- copy
    rename_i t t' d x
    obtain ⟨d', x', hv, hd, hx⟩ := hr.two
    obtain rfl := arr_of_list htl
    obtain rfl := arr_of_list hv
    split at h
    · cases h
    · rename_i htt
      have htt : t = t' := Decidable.of_not_not htt
      subst htt
      split at h
      · rename_i e _ _ _ _ hti
        have hu : P.underlying t = some (.slice e) := (hT t _ hti).sh
        cases hie : T e with
        | none => simp [hie] at h
        | some ie =>
          simp only [hie] at h
          obtain ⟨ti, z, i1, i2, _⟩ := (hT e ie hie).info
          split at h
          · rename_i n ns g j off sz len lo ex hn hel
            split at h
            · rename_i hc
              obtain ⟨rfl, hz⟩ := hc
              cases hw : s.write g j off (ns.take (min n len * ie.size)) with
              | none => simp [hw] at h
              | some s1 =>
                simp only [hw, Option.some.injEq, Prod.mk.injEq] at h
                obtain ⟨rfl, rfl⟩ := h
                obtain ⟨X, c, vs, rfl, hvl, hcr, hXn, hXc⟩ := hs.elems hx hz hel hn
                cases hd with
                | slc _ _ _ _ _ _ _ b st nn c0 A hρ q1 q2 q3 q4 q5 =>
                obtain ⟨cur, e', hb⟩ := hs.row hρ hw
                obtain ⟨_, _, _, _, _, hlf⟩ := St.write_spec hw
                have hcr' := hcr.take (min n len * ie.size)
                obtain ⟨hfit, hs'⟩ := hs.write hρ hw hcr' hb
                have hmn : min n len ≤ n := Nat.min_le_left _ _
                have hml : (vs.take (min n len * ie.size)).length = min n len * ie.size := by
                  rw [List.length_take, hvl]
                  exact Nat.min_eq_left (Nat.mul_le_mul_right _ hmn)
                have hcc : ∀ ad, X = some ad → CellsAt w ad (vs.take (min n len * ie.size)) := fun ad had k v hv => by
                  rw [List.getElem?_take] at hv
                  split at hv
                  · exact hXc ad had k v hv
                  · cases hv
                by_cases hc0 : c0 = 0
                · -- an empty place: nothing is written
                  have hl0 : len = 0 := by omega
                  subst hl0
                  have hm0 : min n 0 = 0 := by omega
                  have hvz : vs.take (min n 0 * ie.size) = [] := List.eq_nil_of_length_eq_zero (by rw [hml, hm0, Nat.zero_mul])
                  rw [hvz] at hs'
                  simp only [List.append_nil, List.length_nil, Nat.add_zero, List.take_append_drop, Array.toArray_toList] at hs'
                  rw [setRow_self w b cur e' (0, 0) hb] at hs'
                  refine ⟨.int .i64 0, w, ρ, ?_, Loc.lex_refl _ _, hs', by rw [hm0]; exact .int _ _⟩
                  have hm1 : Nat.min n 0 = 0 := hm0
                  have hf0 : (Builtin.firstCells ti.size 0 (.slice X n c)).run P w = .ok #[] w := by
                    cases X with
                    | none => simp [Builtin.firstCells]
                    | some ad => simp [Builtin.firstCells, loadCells, loadCellsFrom]
                  simp [builtin, Builtin.copy_, run_underlying hu, Builtin.lenOf, run_sizeOf' i1, hm1, hf0, storeCells, goInt]
                · have hA := q4 hc0
                  subst hA
                  have hrun := run_copy' (P := P) (w := w) t e ty ti hu i1 (dLen := len) (dCap := c0) hb (n := n) (c := c) (m := min n len) rfl (by rw [hml, i2]) hXn hcc (hcr'.leaf hlf) hfit
                  refine ⟨.int .i64 (min n len : Nat), _, ρ, ?_, Loc.lex_refl _ _, hs', .int _ _⟩
                  simp only [builtin, Sem.run_bind, Sem.run_pure]
                  rw [hrun]
                  rfl
            · cases h
          · cases h
      · cases h
  · -- max
    rename_i k x k' y
    obtain ⟨x', y', hv, hx, hy⟩ := hr.two
    obtain rfl := arr_of_list hv
    cases hx
    cases hy
    split at h
    · rename_i hk
      subst hk
      simp only [Option.some.injEq, Prod.mk.injEq] at h
      obtain ⟨rfl, rfl⟩ := h
      exact ⟨_, w, ρ, by simp [builtin, Builtin.max_, Builtin.max2], Loc.lex_refl _ _, hs, .int _ _⟩
    · cases h
  · rename_i k x k' y
    obtain ⟨x', y', hv, hx, hy⟩ := hr.two
    obtain rfl := arr_of_list hv
    cases hx
    cases hy
    split at h
    · rename_i hk
      subst hk
      simp only [Option.some.injEq, Prod.mk.injEq] at h
      obtain ⟨rfl, rfl⟩ := h
      exact ⟨_, w, ρ, by simp [builtin, Builtin.min_, Builtin.min2], Loc.lex_refl _ _, hs, .int _ _⟩
    · cases h
  · cases h

theorem s_call (hT : TabOk P T) (ht : TR w0 B0 ρ t a.tmps) (hs : Sim w0 B0 ρ s w) {c : Call} (ho : o.op = .call c) (h : evOp T o.op t s = some (r, s')) : OpS P w0 B0 ρ s.ctr a o s' w r := by
  rw [ho] at h
  simp only [evOp] at h
  split at h
  · rename_i f hc
    split at h
    · rename_i g caps args hf hargs
      simp only [Option.some.injEq, Prod.mk.injEq] at h
      obtain ⟨rfl, rfl⟩ := h
      have hrf := ht.eval hf
      have hra := ht.evs hargs
      generalize hef : a.eval f = f' at hrf
      cases hrf with
      | fn _ _ arr h1 h2 =>
      refine .call g _ (c.args.map a.eval ++ arr) (fun ⟨fn, k1, k2, k3⟩ => ?_) hs ?_
      · simp only [execOp, ho, resolve, hc, hef, Deferred.ofValue, Sem.run_bind, Sem.run_pure, Result.andThen_ok, invoke, callFunc, run_program, k1, k3, k2, Bool.false_eq_true, if_false, Array.empty_append]
      · rw [Array.toList_append, Array.toList_map]
        exact hra.append ⟨by simpa using h1, fun i u v hu hv => h2 i u v hu (by simpa using hv)⟩
    · cases h
  · rename_i b hc
    cases hargs : evs t c.args.toList with
    | none => simp [hargs] at h
    | some args =>
      simp only [hargs] at h
      cases hca : callA T b c.argTypes.toList args s with
      | none => simp [hca] at h
      | some vs =>
        obtain ⟨v, s1⟩ := vs
        simp only [hca, Option.some.injEq, Prod.mk.injEq] at h
        obtain ⟨rfl, rfl⟩ := h
        have hra := ht.evs hargs
        rw [← Array.toList_map] at hra
        obtain ⟨v', w', ρ', h1, h2, h3, h4⟩ := callA_sound hT hs hra hca o.type (c.args.map fun | .const _ => true | _ => false)
        refine .val v v' w' ρ' ?_ h2 h3 h4
        simp only [execOp, ho, resolve, hc, Sem.run_bind, Sem.run_pure, Result.andThen_ok, invoke]
        exact h1
  · cases h

/-- Every operation that the evaluator takes does what it says. -/
theorem op_sound (hT : TabOk P T) (ht : TR w0 B0 ρ t a.tmps) (hs : Sim w0 B0 ρ s w) (h : evOp T o.op t s = some (r, s')) : OpS P w0 B0 ρ s.ctr a o s' w r := by
  cases ho : o.op with
  | move x => exact s_move ht hs (.inl ho) h
  | assign x => exact s_move ht hs (.inr ho) h
  | pick c x y => exact s_pick ht hs ho h
  | alloc e => exact s_alloc hT hs ho h
  | box e x => exact s_box ht hs ho h
  | build t ps => exact s_build hT ht hs ho h
  | buildSlice t n ps => exact s_buildSlice hT ht hs ho h
  | load t x => exact s_load hT ht hs ho h
  | store t x y => exact s_store hT ht hs ho h
  | nilCheck x => exact s_nilCheck ht hs ho h
  | binOp op xt x y yt => exact s_binOp hT ht hs ho h
  | unOp op xt x => exact s_unOp ht hs ho h
  | convert src dst x => exact s_convert hT ht hs ho h
  | makeFunc f first caps => exact s_makeFunc ht hs ho h
  | makeSlice t x y => exact s_makeSlice hT ht hs ho h
  | slice t x lo hi mx => exact s_slice hT ht hs ho h
  | fieldAddr t x f => exact s_fieldAddr hT ht hs ho h
  | field t x f => exact s_field hT ht hs ho h
  | indexAddr t x i => exact s_indexAddr hT ht hs ho h
  | extract x i => exact s_extract ht hs ho h
  | makeMap t x => exact s_makeMap hs ho h
  | insert t m k x => exact s_insert hT ht hs (.inl ho) h
  | mapUpdate t m k x => exact s_insert hT ht hs (.inr ho) h
  | lookup t m k ok => exact s_lookup hT ht hs ho h
  | call c => exact s_call hT ht hs ho h
  | _ => rw [ho] at h; simp [evOp] at h
end
end Go.Ab
