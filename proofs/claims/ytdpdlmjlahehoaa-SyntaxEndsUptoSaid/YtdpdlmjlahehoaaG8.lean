/- The calls: of functions, and the builtins. -/
import Derived.Test.YtdpdlmjlahehoaaG7
namespace Go.Ab
open Go.RowKit
section
variable {P : Program} {w0 : World} {B0 : Nat} {ρ : Loc} {s s' : St} {w : World} {T : Tab}
variable {a : Act} {o : Oper} {t : TL} {r : Res}

/-- A slice's elements: how many, the cells. -/
theorem Sim.elems (hs : Sim w0 B0 ρ s w) {x : AV} {v : Value} (hr : VR w0 B0 ρ x v) {sz n : Nat} {ns : List AV} (hsz : sz ≠ 0) (he : s.elems sz x = some ns) (hn : x.slen = some n) :
    ∃ (X : Option Addr) (c : Nat) (vs : List Value), v = .slice X n c ∧ vs.length = n * sz ∧ CR w0 B0 ρ ns vs ∧ (X = none → n = 0 ∧ c = 0) ∧ ∀ ad, X = some ad → CellsAt w ad vs := by
  cases hr with
  | nils =>
    simp only [St.elems, AV.slen, Option.some.injEq] at he hn
    subst he hn
    exact ⟨none, 0, [], rfl, by simp, CR.nil, fun _ => ⟨rfl, rfl⟩, fun ad h => by cases h⟩
  | slc g j off sz' len lo ex b st nn c A hρ q1 q2 q3 q4 q5 =>
    simp only [St.elems, AV.slen, Option.some.injEq] at he hn
    subst hn
    split at he
    · rename_i hz
      subst hz
      obtain ⟨vs, h1, h2, h3⟩ := hs.read hρ he
      refine ⟨some A, c, vs, rfl, h1, h2, (fun h => by cases h), fun ad had => ?_⟩
      cases had
      by_cases hc : c = 0
      · have : len = 0 := by omega
        subst this
        have : vs = [] := List.eq_nil_of_length_eq_zero (by simpa using h1)
        subst this
        intro k v hv
        simp at hv
      · rw [q4 hc]; exact h3
    · cases he
  | ro nl xs A c f q1 q2 q3 q4 q5 q6 =>
    simp only [St.elems, AV.slen, Option.some.injEq] at he hn
    subst hn
    split at he
    · rename_i hall
      simp only [Option.some.injEq] at he
      subst he
      have hx : ∀ (i : Nat) (x : AV), xs[i]? = some x → x.cells.length = sz := fun i x hx => by
        have := List.all_eq_true.1 hall x (List.mem_of_getElem? hx)
        simp only [Bool.and_eq_true, decide_eq_true_eq] at this
        exact this.1
      have hlen : ∀ ys : List AV, (∀ (i : Nat) (x : AV), ys[i]? = some x → x.cells.length = sz) → (ys.flatMap AV.cells).length = ys.length * sz := by
        intro ys
        induction ys with
        | nil => intro _; simp
        | cons y ys ih =>
          intro h
          rw [List.flatMap_cons, List.length_append, ih (fun i x hx => h (i + 1) x (by simpa using hx)), h 0 y rfl, List.length_cons, Nat.add_mul]
          omega
      have hget : ∀ (ys : List AV), (∀ (i : Nat) (x : AV), ys[i]? = some x → x.cells.length = sz) → ∀ (k : Nat) (u : AV), (ys.flatMap AV.cells)[k]? = some u → ∃ x, ys[k / sz]? = some x ∧ x.cells[k % sz]? = some u := by
        intro ys
        induction ys with
        | nil => intro _ k u hu; simp at hu
        | cons y ys ih =>
          intro h k u hu
          rw [List.flatMap_cons] at hu
          have hy := h 0 y rfl
          by_cases hk : k < sz
          · rw [List.getElem?_append_left (by omega)] at hu
            refine ⟨y, ?_, ?_⟩
            · rw [Nat.div_eq_of_lt hk]; rfl
            · rw [Nat.mod_eq_of_lt hk]; exact hu
          · rw [List.getElem?_append_right (by omega), hy] at hu
            obtain ⟨x, h1, h2⟩ := ih (fun i x hx => h (i + 1) x (by simpa using hx)) _ u hu
            refine ⟨x, ?_, ?_⟩
            · rw [Nat.div_eq_sub_div (by omega) (by omega)]
              simpa using h1
            · rw [Nat.mod_eq_sub_mod (by omega)]
              exact h2
      let g : Nat → Value := fun k => f (k / sz) (k % sz)
      refine ⟨A, c, (List.range (xs.length * sz)).map g, rfl, by simp, ⟨by rw [hlen xs hx]; simp, fun k u v hu hv => ?_⟩, fun hA => ?_, fun ad had k v hv => ?_⟩
      · obtain ⟨x, h1, h2⟩ := hget xs hx k u hu
        have hk : k < xs.length * sz := by have := (List.getElem?_eq_some_iff.1 hu).1; rwa [hlen xs hx] at this
        rw [List.getElem?_map, List.getElem?_range hk] at hv
        simp only [Option.map_some, Option.some.injEq] at hv
        subst hv
        exact q6 _ x h1 _ u h2
      · have := q3 hA; omega
      · have hk : k < xs.length * sz := by have := (List.getElem?_eq_some_iff.1 hv).1; simpa using this
        rw [List.getElem?_map, List.getElem?_range hk] at hv
        simp only [Option.map_some, Option.some.injEq] at hv
        subst hv
        have hi : k / sz < xs.length := by rw [Nat.div_lt_iff_lt_mul (by omega)]; exact hk
        have hx1 : xs[k / sz]? = some xs[k / sz] := by simp [hi]
        have hcl := hx _ _ hx1
        have hm : k % sz < sz := Nat.mod_lt _ (by omega)
        have h5 := q5 _ _ hx1 (k % sz) _ (by rw [List.getElem?_eq_getElem (by omega)]) ad had
        have hsp := q4 ad had (by intro h; simp [h] at hi)
        rw [roAddr hsp.1, add_eq, hs.low.cell (by exact hsp.2)]
        rw [hcl] at h5
        have hdm := Nat.div_add_mod k sz
        rw [Nat.mul_comm] at hdm
        rw [Nat.add_assoc, hdm] at h5
        exact h5
    · cases he
  | _ => simp [AV.slen] at hn

theorem run_firstCells' {v : Value} {X : Option Addr} {n c sz : Nat} {vs : List Value} (hv : v = .slice X n c) (hl : vs.length = n * sz) (hX : X = none → n = 0 ∧ c = 0) (hc : ∀ ad, X = some ad → CellsAt w ad vs) :
    (Builtin.firstCells sz n v).run P w = .ok vs.toArray w := by
  subst hv
  cases X with
  | none =>
    have := (hX rfl).1
    subst this
    have : vs = [] := List.eq_nil_of_length_eq_zero (by simpa using hl)
    subst this
    simp [Builtin.firstCells]
  | some ad =>
    have := run_loadCells_list (P := P) w ad vs (hc ad rfl)
    rw [hl] at this
    simpa [Builtin.firstCells] using this
theorem run_appendRoom (t ty e : TypeId) (i : TypeInfo) (ht : P.underlying t = some (.slice e)) (hi : P.info? e = some i) {b o sLen sCap : Nat} {cur : Array Value} {e' : TypeId} (hg : w.heap[b]? = some (.cells cur e' (0, 0)))
    {v : Value} {X : Option Addr} {n c : Nat} {vs : List Value} (hv : v = .slice X n c) (hl : vs.length = n * i.size) (hX : X = none → n = 0 ∧ c = 0) (hc : ∀ ad, X = some ad → CellsAt w ad vs) (h1 : ∀ u ∈ vs, u.oneCell' = true)
    (hroom : sLen + n ≤ sCap) (hfit : o + sLen * i.size + vs.length ≤ cur.size) :
    (Builtin.append_ #[t, t] ty #[.slice (some ⟨b, o, none⟩) sLen sCap, v]).run P w =
      .ok (.slice (some ⟨b, o, none⟩) (sLen + n) sCap) (w.setRow b (cur.toList.take (o + sLen * i.size) ++ vs ++ cur.toList.drop (o + sLen * i.size + vs.length)).toArray) := by
  have hf := run_firstCells' (P := P) hv hl hX hc
  have hst := run_storeCells_at P b (o + sLen * i.size) e' vs 0 cur w hg (by simpa using hfit) h1
  simp only [Nat.add_zero] at hst
  subst hv
  simp [Builtin.append_, run_underlying ht, sizeOf, typeInfo, hi, Builtin.lenOf, hroom, hf, add_eq, hst]
/-- Nothing appended where there is room. -/
theorem run_appendNone (t ty e : TypeId) (i : TypeInfo) (ht : P.underlying t = some (.slice e)) (hi : P.info? e = some i) {A X : Option Addr} {sLen sCap c : Nat} (hA : sLen ≤ sCap) :
    (Builtin.append_ #[t, t] ty #[.slice A sLen sCap, .slice X 0 c]).run P w = .ok (.slice A sLen sCap) w := by
  have hf : (Builtin.firstCells i.size 0 (.slice X 0 c)).run P w = .ok #[] w := by
    cases X with
    | none => simp [Builtin.firstCells]
    | some ad => simp [Builtin.firstCells, loadCells, loadCellsFrom]
  cases A with
  | none => simp [Builtin.append_, run_underlying ht, sizeOf, typeInfo, hi, Builtin.lenOf, hA, hf]
  | some ad => simp [Builtin.append_, run_underlying ht, sizeOf, typeInfo, hi, Builtin.lenOf, hA, hf, storeCells]

theorem grownCap_bytes (w : World) (need old : Nat) (e : TypeId) : need ≤ grownCap w need old e := grownCap_ge w need old e

/-- append, abstractly and in the model. -/
theorem app_sound (hT : TabOk P T) (hs : Sim w0 B0 ρ s w) {tt e : TypeId} {ie : TI} (hu : P.underlying tt = some (.slice e)) (hie : T e = some ie) {va vx : AV} {a' x' : Value} (ha : VR w0 B0 ρ va a') (hx : VR w0 B0 ρ vx x')
    {n : Nat} {ns : List AV} (hn : vx.slen = some n) (hel : s.elems ie.size vx = some ns) {v : AV} (h : s.app ie.size ie.bytes va n ns = some (v, s')) (ty : TypeId) :
    ∃ v' w' ρ', (Builtin.append_ #[tt, tt] ty #[a', x']).run P w = .ok v' w' ∧ ρ.lex s.ctr ρ' ∧ Sim w0 B0 ρ' s' w' ∧ VR w0 B0 ρ' v v' := by
  obtain ⟨ti, z, i1, i2, i3, i4, i5⟩ := (hT e ie hie).zeroCR
  have hzl := (hT e ie hie).zl
  have hzs : z.cells.size = ti.size := by have := (i5 w0 B0 ρ).1; rw [Array.length_toList] at this; omega
  unfold St.app at h
  split at h
  · cases h
  · rename_i hc
    have c1 : ns.all AV.leaf = true := by
      cases hq : ns.all AV.leaf with
      | true => rfl
      | false => exact absurd (.inl (by simp [hq])) hc
    have c2 : ie.size ≠ 0 := fun q => hc (.inr (.inl q))
    have c3 : ns.length = n * ie.size := Decidable.of_not_not fun q => hc (.inr (.inr q))
    obtain ⟨X, c, vs, hx', hvl, hcr, hXn, hXc⟩ := hs.elems hx c2 hel hn
    have hone := hcr.leaf c1
    -- what grows lies in a new block
    have newBlock : ∀ (olds : List Value) (oc : List AV) (sLen old : Nat), CR w0 B0 ρ oc olds → oc.all AV.leaf = true → olds.length = sLen * ti.size → 0 < sLen + n →
        let arr := olds.toArray ++ vs.toArray ++ Builtin.zeroCells z.cells (grownCap w (sLen + n) old e - (sLen + n))
        (oc ++ ns).length ≤ arr.size ∧ (oc ++ ns).all AV.leaf = true ∧ arr.size = grownCap w (sLen + n) old e * ie.size ∧
          ∀ (i : Nat) (u : AV) (v : Value), (oc ++ ns)[i]? = some u → arr[i]? = some v → VR w0 B0 ρ u v := by
      intro olds oc sLen old h1 h2 h3 h4
      have hge := grownCap_ge w (sLen + n) old e
      have hsz : (olds.toArray ++ vs.toArray ++ Builtin.zeroCells z.cells (grownCap w (sLen + n) old e - (sLen + n))).size = grownCap w (sLen + n) old e * ie.size := by
        simp only [Array.size_append, List.size_toArray, size_zeroCells, hzs, h3, hvl, i2, ← Nat.add_mul]
        congr 1
        omega
      refine ⟨?_, by simp [h2, c1], hsz, fun i u v hu hv => ?_⟩
      · rw [hsz, List.length_append, h1.1, h3, c3, i2, ← Nat.add_mul]
        exact Nat.mul_le_mul_right _ hge
      · have hap := h1.append hcr
        have hlt : i < (olds ++ vs).length := by rw [← hap.1]; exact (List.getElem?_eq_some_iff.1 hu).1
        refine hap.2 i u v hu ?_
        rw [← Array.getElem?_toList] at hv
        simp only [Array.toList_append] at hv
        rwa [List.getElem?_append_left hlt] at hv
    cases ha with
    | nils =>
      simp only at h
      split at h
      · rename_i hn0
        subst hn0
        simp only [Option.some.injEq, Prod.mk.injEq] at h
        obtain ⟨rfl, rfl⟩ := h
        subst hx'
        exact ⟨_, w, ρ, run_appendNone tt ty e ti hu i1 (Nat.le_refl _), Loc.lex_refl _ _, hs, .nils⟩
      · rename_i hn0
        split at h
        · rename_i hb
          simp only [Option.some.injEq, Prod.mk.injEq] at h
          obtain ⟨rfl, rfl⟩ := h
          cases X with
          | none => exact absurd (hXn rfl).1 hn0
          | some ad =>
            subst hx'
            have hb2 : n * ti.bytes ≤ 140737488355328 := by rw [i3]; exact hb.1
            have hb3 : n ≤ 140737488355328 := hb.2
            have hr := run_append_nil (P := P) w tt ty e ti z hu i1 i4 ad n c vs (by rw [hvl, i2]) (hXc ad rfl) (by omega) (by omega) (by omega)
            obtain ⟨k1, k2, k3, k4⟩ := newBlock [] [] 0 0 CR.nil rfl (by simp) (by omega)
            simp only [Nat.zero_add, List.nil_append] at k1 k2 k3 k4
            have e0 : (#[] ++ vs.toArray ++ Builtin.zeroCells z.cells (grownCap w n 0 e - n)) = vs.toArray ++ Builtin.zeroCells z.cells (grownCap w n 0 e - n) := by simp
            rw [e0] at k1 k3 k4
            obtain ⟨ρ', hle, hnew, hs'⟩ := hs.drew.new e k1 k2 k4
            refine ⟨_, _, ρ', hr, hle, hs', ?_⟩
            rw [k3] at hnew
            exact .slc _ _ _ _ _ _ _ w.heap.size 0 _ _ _ hnew (Nat.le_refl _) (grownCap_ge w n 0 e) (by simp) (fun _ => rfl) (by simp)
        · cases h
    | slc g j off sz' len lo ex b st nn c0 A hρ q1 q2 q3 q4 q5 =>
      simp only at h
      split at h
      · cases h
      · rename_i hsz
        have hsz : sz' = ie.size := Decidable.of_not_not hsz
        subst hsz
        split at h
        · rename_i hroom
          split at h
          · rename_i hn0
            subst hn0
            simp only [Option.some.injEq, Prod.mk.injEq] at h
            obtain ⟨rfl, rfl⟩ := h
            subst hx'
            exact ⟨_, w, ρ, run_appendNone tt ty e ti hu i1 (by omega), Loc.lex_refl _ _, hs, .slc g j off _ len lo ex b st nn c0 A hρ q1 q2 q3 q4 q5⟩
          · rename_i hn0
            cases hw : s.write g j (off + len * ie.size) ns with
            | none => simp [hw] at h
            | some s1 =>
              simp only [hw, Option.some.injEq, Prod.mk.injEq] at h
              obtain ⟨rfl, rfl⟩ := h
              obtain ⟨cur, e', hb⟩ := hs.row hρ hw
              obtain ⟨hfit, hs'⟩ := hs.write hρ hw hcr hb
              have hA := q4 (by omega)
              subst hA
              have hr := run_appendRoom (P := P) (w := w) tt ty e ti hu i1 (o := st + off) (sLen := len) (sCap := c0) hb hx' (by rw [hvl, i2]) hXn hXc hone (by omega) (by rw [i2]; omega)
              rw [i2] at hr
              rw [← Nat.add_assoc] at hs'
              exact ⟨_, _, ρ, hr, Loc.lex_refl _ _, hs', .slc g j off _ _ lo ex b st nn c0 _ hρ hroom q2 q3 (fun _ => rfl) q5⟩
        · rename_i hroom
          split at h
          · rename_i hb
            have hn0 : n ≠ 0 := by omega
            cases hG : s.get g with
            | none => simp [hG] at h
            | some G =>
              simp only [hG] at h
              cases hrd : G.read j off (len * ie.size) with
              | none => simp [hrd] at h
              | some old =>
                simp only [hrd] at h
                obtain ⟨_, G1, V, hG1, hV, hvr⟩ := hs.ver g j b st nn hρ
                rw [hG] at hG1
                cases hG1
                obtain ⟨V1, hV1, ⟨hmp, hle1⟩, hold⟩ := Grp.read_spec hrd
                rw [hV] at hV1
                cases hV1
                obtain ⟨olds, o1, o2, o3⟩ := hvr.read hle1
                obtain ⟨cur, e', hbk⟩ := hvr.row hmp
                rw [← hold] at o2
                have hlfold : old.all AV.leaf = true := by
                  obtain ⟨_, _, k4, _, _⟩ := hvr.cells hbk
                  rw [hold, List.all_eq_true]
                  rw [List.all_eq_true] at k4
                  exact fun x hx => k4 x (List.mem_of_mem_drop (List.mem_of_mem_take hx))
                cases X with
                | none => exact absurd (hXn rfl).1 hn0
                | some ad =>
                subst hx'
                have hAc : CellsAt w A olds := by
                  by_cases hc0 : c0 = 0
                  · have : len = 0 := by omega
                    subst this
                    have : olds = [] := List.eq_nil_of_length_eq_zero (by simpa using o1)
                    subst this
                    intro k v hv
                    simp at hv
                  · rw [q4 hc0]; exact o3
                have hb2 : (len + n) * ti.bytes ≤ 140737488355328 := by rw [i3]; exact hb.1
                have hb3 : len + n ≤ 140737488355328 := hb.2
                have growRun : c0 < len + n → (Builtin.append_ #[tt, tt] ty #[.slice (some A) len c0, .slice (some ad) n c]).run P w = _ := fun hlt =>
                  run_append_grow (P := P) w tt ty e ti z hu i1 i4 A len c0 olds (by rw [o1, i2]) hAc ad n c vs (by rw [hvl, i2]) (hXc ad rfl) hlt (by omega) (growslice_fits hlt hb2)
                obtain ⟨k1, k2, k3, k4⟩ := newBlock olds old len c0 o2 hlfold (by rw [o1, i2]) (by omega)
                split at h
                · rename_i hex
                  simp only [Option.some.injEq, Prod.mk.injEq] at h
                  obtain ⟨rfl, rfl⟩ := h
                  have hce := q3 hex
                  obtain ⟨ρ', hle, hnew, hs'⟩ := hs.drew.new e k1 k2 k4
                  refine ⟨_, _, ρ', growRun (by omega), hle, hs', ?_⟩
                  rw [k3] at hnew
                  exact .slc _ _ _ _ _ _ _ w.heap.size 0 _ _ _ hnew (Nat.le_refl _) (grownCap_ge w (len + n) c0 e) (by simp) (fun _ => rfl) (by simp)
                · simp only [hV, Option.some.injEq, Prod.mk.injEq] at h
                  obtain ⟨rfl, rfl⟩ := h
                  have hlt : ∀ {j x}, ρ g j = some x → j < G.vers.length := by
                    intro j x hx
                    obtain ⟨b, st, n⟩ := x
                    obtain ⟨_, G1, V1, hG1, hV1, _⟩ := hs.ver g j b st n hx
                    rw [hG] at hG1
                    cases hG1
                    exact (List.getElem?_eq_some_iff.1 hV1).1
                  have hfresh : ρ g G.vers.length = none := by
                    cases hq : ρ g G.vers.length with
                    | none => rfl
                    | some x => exact absurd (hlt hq) (by omega)
                  by_cases hcap : len + n ≤ c0
                  · have hA := q4 (by omega)
                    subst hA
                    have hcs := (hvr.cells hbk).1
                    have hmul : (len + n) * ie.size ≤ c0 * ie.size := Nat.mul_le_mul_right _ hcap
                    rw [Nat.add_mul] at hmul
                    have hfit : st + off + len * ie.size + vs.length ≤ nn := by rw [hvl]; omega
                    obtain ⟨_, hs'⟩ := hs.grow_in hρ hG hV hfresh hrd hcr c1 hbk hfit
                    have hr := run_appendRoom (P := P) (w := w) tt ty e ti hu i1 (o := st + off) (sLen := len) (sCap := c0) hbk rfl (by rw [hvl, i2]) hXn hXc hone hcap (by rw [i2]; omega)
                    rw [i2] at hr
                    rw [c3] at hs'
                    exact ⟨_, _, _, hr, Loc.put_lex hfresh (.inr ⟨_, _, hρ⟩), hs', .slc g _ 0 _ _ _ _ b (st + off) nn c0 _ Loc.put_eq (Nat.le_refl _) hcap (by simp) (fun _ => by simp) (by omega)⟩
                  · have hd := hs.drew.grow_new (a := V.delta + off + len * ie.size) (m := n * ie.size) (d := V.delta + off) e (hs.ctr _ _ _ hρ) hG hfresh k1 k2 k4
                    refine ⟨_, _, _, growRun (by omega), Loc.put_lex hfresh (.inr ⟨_, _, hρ⟩), hd.2, ?_⟩
                    rw [k3]
                    exact .slc _ _ _ _ _ _ _ w.heap.size 0 _ _ _ Loc.put_eq (Nat.le_refl _) (grownCap_ge w (len + n) c0 e) (by simp) (fun _ => rfl) (by simp)
          · cases h
    | _ => simp at h

theorem run_append_nil_zeros (t u ty e : TypeId) (i : TypeInfo) (z : Value) (k : IntKind) (ht : P.underlying t = some (.slice e)) (hu : P.underlying u = some (.int k)) (hi : P.info? e = some i) (hz : i.zero = some z)
    (n : Int) (h0 : 0 < n) (h1 : n ≤ 140737488355328) (hs : i.size ≠ 0) (hb : n.toNat * i.bytes ≤ 140737488355328) :
    (Builtin.append_ #[t, u] ty #[.slice none 0 0, .int .i64 n]).run P w =
      .ok (.slice (some ⟨w.heap.size, 0, none⟩) n.toNat (grownCap w n.toNat 0 e)) (w.drew.alloc (.cells (Builtin.zeroCells z.cells n.toNat ++ Builtin.zeroCells z.cells (grownCap w n.toNat 0 e - n.toNat)) e)) := by
  obtain ⟨m, rfl⟩ : ∃ m : Nat, n = m := ⟨n.toNat, by omega⟩
  simp only [Int.toNat_natCast] at hb ⊢
  have hw := wrap_small (n := (m : Int)) (by omega) h1
  have hn : m ≠ 0 := by omega
  have h63' : ¬ (9223372036854775807 < (m : Int)) := by omega
  have h48' : ¬ (281474976710656 < Builtin.nextslicecap m 0 * i.bytes) := by rw [nextslicecap_zero (by omega)]; omega
  have h48'' : ¬ ((281474976710656 : Int) < (m : Int) * (i.bytes : Int)) := by
    have hq : ((m * i.bytes : Nat) : Int) ≤ ((140737488355328 : Nat) : Int) := Int.ofNat_le.2 hb
    rw [Int.natCast_mul] at hq
    omega
  have hneg : ¬ ((m : Int) < 0) := by omega
  simp [Builtin.append_, run_underlying ht, run_underlying hu, sizeOf, typeInfo, zeroValue, hi, hz, asInt, asIntOf, hw, hneg, h48'', hn, hs, h63', h48', Question.forced, run_firstCells_none, newRow, grownCap]
  intro h
  rcases Nat.mul_eq_zero.1 h with h | h
  · exact absurd h hn
  · exact absurd h hs

theorem appZeros_sound (hT : TabOk P T) (hs : Sim w0 B0 ρ s w) {t u : TypeId} {va vx : AV} {a' x' : Value} (ha : VR w0 B0 ρ va a') (hx : VR w0 B0 ρ vx x') {v : AV} (h : appZeros T t u va vx s = some (v, s')) (ty : TypeId) :
    ∃ v' w' ρ', (Builtin.append_ #[t, u] ty #[a', x']).run P w = .ok v' w' ∧ ρ.lex s.ctr ρ' ∧ Sim w0 B0 ρ' s' w' ∧ VR w0 B0 ρ' v v' := by
  unfold appZeros at h
  split at h
  · rename_i e _ _ _ _ k _ _ _ _ n hti hui
    have hu1 : P.underlying t = some (.slice e) := (hT t _ hti).sh
    have hu2 : P.underlying u = some (.int k) := (hT u _ hui).sh
    cases ha
    cases hx
    split at h
    · cases h
    · rename_i ie hie
      split at h
      · rename_i hc
        obtain ⟨c1, c2, c3, c4, c5, c6⟩ := hc
        simp only [Option.some.injEq, Prod.mk.injEq] at h
        obtain ⟨rfl, rfl⟩ := h
        obtain ⟨ti, z, i1, i2, i3, i4, i5⟩ := (hT e ie hie).zeroCR
        have hz := i5 w0 B0 ρ
        have hzs : z.cells.size = ie.size := by have := hz.1; rw [Array.length_toList] at this; omega
        have hr := run_append_nil_zeros (P := P) (w := w) t u ty e ti z k hu1 hu2 i1 i4 n c1 c3 (by rw [i2]; exact c5) (by rw [i3]; exact c2)
        have hfl := flatten_get hz (by omega) n.toNat
        have hge := grownCap_ge w n.toNat 0 e
        have hsz : (Builtin.zeroCells z.cells n.toNat ++ Builtin.zeroCells z.cells (grownCap w n.toNat 0 e - n.toNat)).size = grownCap w n.toNat 0 e * ie.size := by
          simp only [Array.size_append, size_zeroCells, hzs, ← Nat.add_mul]
          congr 1
          omega
        have hlen : (List.replicate n.toNat ie.zero).flatten.length = n.toNat * ie.size := by simp [c4]
        have hlf : (List.replicate n.toNat ie.zero).flatten.all AV.leaf = true := by
          rw [List.all_eq_true]
          intro x hx
          rw [List.mem_flatten] at hx
          obtain ⟨l, hl, hxl⟩ := hx
          rw [List.mem_replicate] at hl
          rw [hl.2] at hxl
          exact List.all_eq_true.1 c6 x hxl
        have hmul : n.toNat * ie.size ≤ grownCap w n.toNat 0 e * ie.size := Nat.mul_le_mul_right _ hge
        obtain ⟨ρ', hle, hnew, hs'⟩ := hs.drew.new (cs := (List.replicate n.toNat ie.zero).flatten) (arr := Builtin.zeroCells z.cells n.toNat ++ Builtin.zeroCells z.cells (grownCap w n.toNat 0 e - n.toNat)) e (by rw [hsz, hlen]; exact hmul) hlf (fun i u v hu hv => by
          have hlt : i < n.toNat * ie.size := by rw [← hlen]; exact (List.getElem?_eq_some_iff.1 hu).1
          rw [Array.getElem?_append_left (by rw [size_zeroCells, hzs]; exact hlt)] at hv
          refine hfl.2 i u v hu ?_
          rw [Array.getElem?_toList]
          unfold Builtin.zeroCells at hv
          rw [hzs] at hv ⊢
          rw [c4]
          exact hv)
        refine ⟨_, _, ρ', hr, hle, hs', ?_⟩
        rw [hsz] at hnew
        exact .slc _ _ _ _ _ _ _ w.heap.size 0 _ _ _ hnew (Nat.le_refl _) hge (by simp) (fun _ => rfl) (by simp)
      · cases h
  · cases h
end
end Go.Ab
