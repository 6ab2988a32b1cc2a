/- Parts of one proof, put together: H9 H10 H11 H12 H13 H14 H15 H16 H17 D18 D13 D14 D16 D19 D20 D21 D22 D23 D15 D17 D24 H18. -/
import Derived.Test.YtdpdlmjlahehoaaLinkBinds2
/- Scopes, max, min, the first of many. -/
namespace Go.Ab
/-- The first that is told. -/
def fo {β : Type} (p : Nat → Option β) : Nat → Option β
  | 0 => none
  | i + 1 => match fo p i with
    | some b => some b
    | none => p i
theorem fo_hit {β : Type} {p : Nat → Option β} {i n : Nat} {b : β} (h : fo p i = none) (hb : p i = some b) (hi : i < n) : fo p n = some b := by
  induction n with
  | zero => omega
  | succ n ih =>
    unfold fo
    by_cases e : i = n
    · subst e; rw [h]; exact hb
    · rw [ih (by omega)]
theorem fo_next {β : Type} {p : Nat → Option β} {i : Nat} (h : fo p i = none) (hb : p i = none) : fo p (i + 1) = none := by
  unfold fo; rw [h]; exact hb
section
variable {P : Program} {T : Tab} {K : FuncId → Option Bool} {nt : Nat} {m : Sy} {s : St} {b : Code} {R : Ex → Sy → St → Prop}
def Sc (R : Ex → Sy → St → Prop) : Ex → Sy → St → Prop
  | .goto _, _, _ => False
  | e, m, s => R e m s
theorem wc_scope (h : WC P T K nt b m s (Sc R)) : WC P T K nt (.scope b) m s R := by
  obtain ⟨N, e, m', s', hq, hn⟩ := h
  have hR : R e m' s' ∧ ∀ l, e ≠ .goto l := by
    cases e with
    | goto l => exact hq.elim
    | normal => exact ⟨hq, fun l h => by cases h⟩
    | ret => exact ⟨hq, fun l h => by cases h⟩
    | exit i => exact ⟨hq, fun l h => by cases h⟩
  refine ⟨N + 2, e, m', s', hR.1, fun n k h1 h2 t ht => ?_⟩
  obtain ⟨t', e1, ht'⟩ := hn n (k - 2) (by omega) (by omega) t ht
  obtain ⟨k, rfl⟩ : ∃ j, k = j + 2 := ⟨k - 2, by omega⟩
  rw [show k + 2 - 2 = k by omega] at e1
  refine ⟨t', ?_, ht'⟩
  simp only [evCode, evCode.evScope, e1]
  cases e with
  | goto l => exact absurd rfl (hR.2 l)
  | _ => rfl
theorem sc_r (h : R .ret m s) : Sc R .ret m s := h
theorem op_max {x y : Operand} {args : Array Operand} {tys : Array TypeId} {a c : Int} (ha : args.toList = [x, y]) (hx : evY m x = some (.int .i64 a)) (hy : evY m y = some (.int .i64 c)) :
    ∀ t, Has t nt m → evOp T (.call ⟨.builtin .max, args, tys⟩) t s = some (.val (.int .i64 (if a < c then c else a)), s) := by
  intro t ht
  have h1 : evsY m [x, y] = some [.int .i64 a, .int .i64 c] := by simp only [evsY, hx, hy]
  simp only [evOp, ha, evsY_ok ht h1, callA, if_true]
theorem op_min {x y : Operand} {args : Array Operand} {tys : Array TypeId} {a c : Int} (ha : args.toList = [x, y]) (hx : evY m x = some (.int .i64 a)) (hy : evY m y = some (.int .i64 c)) :
    ∀ t, Has t nt m → evOp T (.call ⟨.builtin .min, args, tys⟩) t s = some (.val (.int .i64 (if c < a then c else a)), s) := by
  intro t ht
  have h1 : evsY m [x, y] = some [.int .i64 a, .int .i64 c] := by simp only [evsY, hx, hy]
  simp only [evOp, ha, evsY_ok ht h1, callA, if_true]
end
end Go.Ab
/- Drawn regions in which variables are laid early. -/
namespace Go.Ab
section
variable {P : Program} {T : Tab} {K : FuncId → Option Bool} {nt : Nat} {ops : Array Oper}
/-- What an entry of the record must show: j: the operation's place; A: the early variables, by place and group. -/
def EntOk (B : Array Nat) (D : Nat → Prop) (A : List (Nat × Nat)) (j : Nat) (e : Entry) : Prop :=
  (∀ g, e.rd = some g → D g) ∧ (∀ g ∈ e.wr, ¬ D g ∧ ∀ p ∈ A, p.2 = g → aheadB B p.1 j = true) ∧ ∀ g, e.al = some g → (j, g) ∈ A
/-- Operations of a drawn region from the place j on; hs: what was laid early. -/
def WE (P : Program) (T : Tab) (K : FuncId → Option Bool) (nt : Nat) (ops : Array Oper) (D : Nat → Prop) (A : List (Nat × Nat)) (j : Nat) (l : List Oper) (hs : List (Option (Nat × List AV))) (m : Sy) (s : St) (Q : Sy → St → Prop) : Prop :=
  ∃ N m' s', Q m' s' ∧ ∀ n, N ≤ n → ∀ t, Has t nt m → ∃ t' es, evLog T (evCallK P T K n) ops l hs t s = some (t', s', es) ∧ Has t' nt m' ∧ ∀ (i : Nat) (e : Entry), es[i]? = some e → EntOk (Region.before ops) D A (j + i) e
variable {D : Nat → Prop} {A : List (Nat × Nat)} {j : Nat} {rest : List Oper} {hs : List (Option (Nat × List AV))} {m : Sy} {s s0 : St} {Q : Sy → St → Prop} {R : Ex → Sy → St → Prop} {o : Oper}
/- The rules: what is read is old (Old s0 X), what is written is new or one of the early ones. -/
variable {X : List Nat} {d ty : Nat} {pos : String} {af : Array Edge} {g : Option (Nat × Bool)} {op : Op} {v : AV}
end
end Go.Ab
/- Empty literals, clipped cuts, is a row nil; what appending leaves of older rows. -/
namespace Go.Ab
/-- A row clipped. -/
def clipA (v : AV) : AV := match v with
  | .slc g j off sz len _ _ => .slc g j (off + 0 * sz) sz (len - 0) (len - 0) true
  | v => v
theorem clipA_gs (v : AV) : (clipA v).gs = v.gs := by cases v <;> rfl
theorem Row.clip {h : Tr Grp} {sz : Nat} {v : AV} {cs : List (List AV)} (k : Row h sz v cs) : Row h sz (clipA v) cs := by
  cases v with
  | slc g j off sz' len lo ex =>
    have hrd := k.rd
    obtain ⟨rfl, h2, rfl, h4, h5, -⟩ := k
    refine ⟨rfl, h2, by simp, Nat.le_refl _, h5, [], ?_⟩
    simp only [Nat.zero_mul, Nat.add_zero, Nat.sub_zero, List.append_nil]
    exact hrd
  | nils => exact k
  | ro nl xs => exact k
  | _ => exact k.elim
section
variable {P : Program} {T : Tab} {K : FuncId → Option Bool} {nt : Nat} {ops : Array Oper} {rest : List Oper} {m : Sy} {s : St} {Q : Sy → St → Prop} {d ty : Nat} {pos : String} {af : Array Edge} {g : Option (Nat × Bool)}
theorem op_clip {tt e : TypeId} {x hi mx : Operand} {i ie : TI} {v vh vm : AV} {cs : List (List AV)} {sz : Nat} (hx : evY m x = some v) (hvh : evY m hi = some vh) (hhi : natA vh = some cs.length) (hvm : evY m mx = some vm) (hmx : natA vm = some cs.length) (hT : T tt = some i) (hs : i.sh = .slice e) (he : T e = some ie) (hz : ie.size = sz)
    (hr : Row s.h sz v cs) (hro : v.gs = [] → v = .nils) : ∀ t, Has t nt m → evOp T (.slice tt x none (some hi) (some mx)) t s = some (.val (clipA v), s) := by
  intro t ht
  obtain ⟨sh, size, bytes, zero, flat⟩ := i
  cases hs
  have ho : optNat t none = some none := rfl
  have hao : arrOk T tt v s = true := by unfold arrOk; simp only [hT]
  have : sliceA T tt v none (some cs.length) (some cs.length) = some (clipA v) := by
    cases v with
    | nils =>
      cases hr
      unfold sliceA
      simp [hT, he, clipA]
    | slc g j off sz' len lo' ex =>
      obtain ⟨rfl, k2, rfl, k4, -⟩ := hr
      have hn : ¬ (ie.size ≠ sz') := fun h => h hz
      have hcond : 0 ≤ cs.length ∧ cs.length ≤ cs.length ∧ cs.length ≤ lo' ∧ (some cs.length).isSome = true := ⟨by omega, by omega, k4, rfl⟩
      unfold sliceA
      simp only [hT, he, if_neg hn, Option.getD_none, Option.getD_some, if_pos hcond, clipA]
    | ro nl xs => cases hro rfl
    | _ => exact hr.elim
  simp only [evOp, evY_ok ht hx, optY_ok ht (optY_some hvh hhi), optY_ok ht (optY_some hvm hmx), ho, hao, if_true, this]
theorem op_isnil {tt : TypeId} {x y : Operand} {i : TI} {e : TypeId} {v : AV} {cs : List (List AV)} {sz yt : Nat} (hx : evY m x = some v) (hy : evY m y = some .nils) (hT : T tt = some i) (hs : i.sh = .slice e) (hr : Row s.h sz v cs) (hg : v.gs ≠ []) :
    ∀ t, Has t nt m → evOp T (.binOp .eql tt x y yt) t s = some (.val (.bool false), s) := by
  intro t ht
  obtain ⟨sh, size, bytes, zero, flat⟩ := i
  cases hs
  have : binA T .eql tt v .nils = some (.bool false) := by
    cases v with
    | slc g j off sz' len lo' ex => simp only [binA, hT]
    | nils => exact (hg rfl).elim
    | ro nl xs => exact (hg rfl).elim
    | _ => exact hr.elim
  simp only [evOp, evY_ok ht hx, evY_ok ht hy, this]
/-- An empty literal. -/
theorem w_lit0 {tt e : TypeId} {i ie : TI} (hg : guardY ops m g = some true) (hd : Nat.ble (d + 1) nt = true) (hT : T tt = some i) (hs : i.sh = .slice e) (he : T e = some ie)
    (hz : ie.zero.length = ie.size) (h0 : ie.size ≠ 0) (hok : s.Ok)
    (k : ∀ v s', Row s'.h ie.size v [] → Keep [] s s' → s'.ctr = s.ctr + 1 → v.gs = [s.ctr] → W P T K nt ops rest ((d, v) :: m) s' Q) : W P T K nt ops (⟨some d, .buildSlice tt 0 #[], ty, pos, af, g⟩ :: rest) m s Q := by
  obtain ⟨sh, size, bytes, zero, flat⟩ := i
  cases hs
  refine w_val hg hd (v := .slc s.ctr 0 0 ie.size 0 0 true) (s' := s.newG ⟨[⟨[], 0, none⟩]⟩) (fun t ht => ?_) (k _ _ ⟨rfl, h0, rfl, Nat.le_refl _, (fun c hc => by cases hc), [], ?_⟩ (newG_keep hok _).1 rfl rfl)
  · have hcond : ¬ (0 * ie.size > 2 ^ 24 ∨ ie.zero.length ≠ ie.size ∨ ie.size = 0) := by
      rintro (h | h | h)
      · omega
      · exact h hz
      · exact h0 h
    simp [evOp, hT, he, evParts, fillA, hz, h0]
  · rw [Nat.zero_mul]
    exact rd_new (s := s) (cs := []) hok
/-- Where a row ends in its group. -/
noncomputable def finA (h : Tr Grp) (v : AV) : Nat := match v with
  | .slc g j off sz len _ _ => match Tr.get h g with
    | some G => match G.vers[j]? with
      | some V => V.delta + off + len * sz
      | none => 0
    | none => 0
  | _ => 0
end
end Go.Ab
/- Appending leaves the rows of the same memory that end ahead of it. -/
namespace Go.Ab
theorem poke_len (U : Ver) (a n : Nat) : (U.poke a n).cells.length = U.cells.length := by simp [Ver.poke]
theorem poke_take (U : Ver) (a n k : Nat) (h : U.delta + k ≤ a) : (U.poke a n).cells.take k = U.cells.take k := by
  refine List.ext_getElem? fun i => ?_
  rw [List.getElem?_take, List.getElem?_take]
  split
  · rename_i hi
    simp only [Ver.poke, List.getElem?_mapIdx]
    cases U.cells[i]? with
    | none => rfl
    | some c => simp only [Option.map_some]; rw [if_neg (by omega)]
  · rfl
theorem over_take (l : List AV) (p : Nat) (c : List AV) (k : Nat) (h : k ≤ p) (hp : p ≤ l.length) : (over l p c).take k = l.take k := by
  unfold over
  rw [List.append_assoc, List.take_append_of_le_length (by rw [List.length_take]; omega), List.take_take, Nat.min_eq_left h]
theorem Row.ahead' {h h' : Tr Grp} {sz g j off sz' len lo : Nat} {ex : Bool} {cs : List (List AV)} {G G' : Grp} {V V' : Ver} (k : Row h sz (.slc g j off sz' len lo ex) cs) (hG : Tr.get h g = some G) (hV : G.vers[j]? = some V) (hG' : Tr.get h' g = some G') (hV' : G'.vers[j]? = some V') (hm : V'.mp = none) (hl : V'.cells.length = V.cells.length)
    (ht : V'.cells.take (off + len * sz') = V.cells.take (off + len * sz')) : Row h' sz (.slc g j off sz' len lo ex) cs := by
  have hrd := k.rd
  obtain ⟨rfl, h2, rfl, h4, h5, rest, h6⟩ := k
  have e1 : G.read j off (lo * sz') = some (cs.flatten ++ rest) := by unfold rdH at h6; rw [hG] at h6; exact h6
  have e2 : G.read j off (cs.length * sz') = some cs.flatten := by unfold rdH at hrd; rw [hG] at hrd; exact hrd
  obtain ⟨V1, q1, q2, q3, q4⟩ := Grp.read_eq e1
  obtain ⟨V2, r1, r2, r3, r4⟩ := Grp.read_eq e2
  rw [hV] at q1 r1
  cases q1
  cases r1
  have hm2 := Nat.mul_le_mul_right sz' h4
  refine ⟨rfl, h2, rfl, h4, h5, ((V'.cells.drop off).take (lo * sz')).drop (cs.length * sz'), ?_⟩
  unfold rdH
  rw [hG', ]
  simp only
  rw [Grp.read_mk hV' hm (by omega)]
  congr 1
  have e3 : ((V'.cells.drop off).take (lo * sz')).take (cs.length * sz') = cs.flatten := by
    rw [List.take_take, Nat.min_eq_left hm2, ← r4]
    have : (V'.cells.take (off + cs.length * sz')).drop off = (V.cells.take (off + cs.length * sz')).drop off := by rw [ht]
    rw [List.drop_take, List.drop_take, Nat.add_sub_cancel_left] at this
    exact this
  rw [← e3, List.take_append_drop]
theorem finA_same {h h' : Tr Grp} {r : AV} (k : ∀ g ∈ r.gs, Tr.get h' g = Tr.get h g) : finA h' r = finA h r := by
  cases r with
  | slc g j off sz len lo ex => simp only [finA, k g (List.mem_cons_self ..)]
  | _ => rfl
theorem Row.same {h h' : Tr Grp} {sz : Nat} {v : AV} {cs : List (List AV)} (k : Row h sz v cs) (e : ∀ g ∈ v.gs, Tr.get h' g = Tr.get h g) : Row h' sz v cs := by
  cases v with
  | slc g j off sz' len lo ex =>
    obtain ⟨h1, h2, h3, h4, h5, rest, h6⟩ := k
    refine ⟨h1, h2, h3, h4, h5, rest, ?_⟩
    unfold rdH at h6 ⊢
    rw [e g (List.mem_cons_self ..)]
    exact h6
  | nils => exact k
  | ro nl xs => exact k
  | _ => exact k.elim
theorem newG_same {s : St} (hok : s.Ok) (G : Grp) {sz : Nat} {r : AV} {rs : List (List AV)} (k : Row s.h sz r rs) : ∀ g ∈ r.gs, Tr.get (s.newG G).h g = Tr.get s.h g := by
  intro g hg
  have := k.lt hok g hg
  simp only [St.newG, Tr.get_set]
  rw [if_neg (by omega)]
theorem Row.ver {h : Tr Grp} {sz g j off sz' len lo : Nat} {ex : Bool} {cs : List (List AV)} (k : Row h sz (.slc g j off sz' len lo ex) cs) : ∃ G V, Tr.get h g = some G ∧ G.vers[j]? = some V ∧ V.mp = none ∧ off + len * sz' ≤ V.cells.length := by
  have hs : sz' = sz := k.1
  subst hs
  have hrd := k.rd
  obtain ⟨G, hG⟩ := rdH_has hrd
  unfold rdH at hrd
  rw [hG] at hrd
  obtain ⟨V, h1, h2, h3, -⟩ := Grp.read_eq hrd
  exact ⟨G, V, hG, h1, h2, h3⟩
theorem finA_eq {h : Tr Grp} {g j off sz len lo : Nat} {ex : Bool} {G : Grp} {V : Ver} (hG : Tr.get h g = some G) (hV : G.vers[j]? = some V) : finA h (.slc g j off sz len lo ex) = V.delta + off + len * sz := by
  simp only [finA, hG, hV]
/-- Rows of a group whose versions are turned behind a place. -/
theorem set_keep {s : St} {g a0 : Nat} {G G' : Grp} (hG : Tr.get s.h g = some G) (hv : ∀ (j : Nat) (V : Ver), G.vers[j]? = some V → ∃ V', G'.vers[j]? = some V' ∧ V'.mp = V.mp ∧ V'.delta = V.delta ∧ V'.cells.length = V.cells.length ∧ ∀ k, V.delta + k ≤ a0 → k ≤ V.cells.length → V'.cells.take k = V.cells.take k)
    {sz' : Nat} {r : AV} {rs : List (List AV)} (k : Row s.h sz' r rs) (hf : ∀ x ∈ r.gs, x = g → finA s.h r ≤ a0) : Row (s.setG g G').h sz' r rs ∧ finA (s.setG g G').h r = finA s.h r := by
  by_cases hin : g ∈ r.gs
  · cases r with
    | slc g2 j off sz2 len lo ex =>
      have e : g = g2 := List.mem_singleton.1 hin
      subst e
      obtain ⟨G1, V, hG1, hV, hm, hl⟩ := k.ver
      rw [hG] at hG1
      cases hG1
      obtain ⟨V', q1, q2, q3, q4, q5⟩ := hv j V hV
      have hfin := hf g hin rfl
      rw [finA_eq hG hV] at hfin
      have hG' : Tr.get (s.setG g G').h g = some G' := by simp only [St.setG, Tr.get_set, if_true]
      refine ⟨k.ahead' hG hV hG' q1 (q2.trans hm) q4 (q5 _ (by omega) hl), ?_⟩
      rw [finA_eq hG' q1, finA_eq hG hV, q3]
    | nils => cases hin
    | ro nl xs => cases hin
    | _ => exact k.elim
  · have hs : ∀ x ∈ r.gs, Tr.get (s.setG g G').h x = Tr.get s.h x := by
      intro x hx
      simp only [St.setG, Tr.get_set]
      rw [if_neg (fun e => hin (by rw [← e]; exact hx))]
    exact ⟨k.same hs, finA_same hs⟩
/-- What appending does to the end of the row, and to other rows. -/
theorem app_keep {s s' : St} {sz bytes : Nat} {a v : AV} {cs ns : List (List AV)} (hok : s.Ok) (hr : Row s.h sz a cs) (hro : a.gs = [] → a = .nils) (h : s.app sz bytes a ns.length ns.flatten = some (v, s')) (hnl : ns.flatten.length = ns.length * sz) :
    (v.gs = a.gs → a.gs ≠ [] → finA s'.h v = finA s.h a + ns.length * sz) ∧ ∀ {sz' : Nat} {r : AV} {rs : List (List AV)}, Row s.h sz' r rs → (∀ g ∈ r.gs, g ∈ a.gs → finA s.h r ≤ finA s.h a) → Row s'.h sz' r rs ∧ finA s'.h r = finA s.h r := by
  unfold St.app at h
  split at h
  · cases h
  · cases a with
    | nils =>
      simp only at h
      split at h
      · cases h
        exact ⟨fun _ k => (k rfl).elim, fun hr' _ => ⟨hr', rfl⟩⟩
      · split at h
        · cases h
          exact ⟨fun _ k => (k rfl).elim, fun hr' _ => ⟨hr'.same (newG_same hok _ hr'), finA_same (newG_same hok _ hr')⟩⟩
        · cases h
    | ro nl xs => cases hro rfl
    | slc g j off sz' len lo ex =>
      obtain ⟨G, V, hG, hV, hm, hl⟩ := hr.ver
      have hsz := hr.1
      subst hsz
      simp only [ne_eq, not_true_eq_false, if_false] at h
      split at h
      · split at h
        · rename_i h0
          cases h
          exact ⟨fun _ _ => by rw [h0]; simp, fun hr' _ => ⟨hr', rfl⟩⟩
        · cases hw : s.write g j (off + len * sz') ns.flatten with
          | none => rw [hw] at h; cases h
          | some s1 =>
            rw [hw] at h
            cases h
            have hw' : G.write j (off + len * sz') ns.flatten = if V.mp.isNone = true ∧ off + len * sz' + ns.flatten.length ≤ V.cells.length then some ⟨G.vers.mapIdx fun k U => if k = j then { V with cells := over V.cells (off + len * sz') ns.flatten } else U.poke (V.delta + (off + len * sz')) ns.flatten.length⟩ else none := by
              unfold Grp.write; rw [hV]
            unfold St.write at hw
            split at hw
            · simp only [St.get, hG, hw'] at hw
              by_cases hc : V.mp.isNone = true ∧ off + len * sz' + ns.flatten.length ≤ V.cells.length
              · rw [if_pos hc] at hw
                simp only [Option.some.injEq] at hw
                subst hw
                refine ⟨fun _ _ => ?_, fun {sz2} {r} {rs} hr' hf => ?_⟩
                · rw [finA_eq hG hV, finA_eq (V := { V with cells := over V.cells (off + len * sz') ns.flatten }) (by simp only [St.setG, Tr.get_set, if_true]; rfl) (by simp [hV])]
                  simp only
                  rw [Nat.add_mul]; omega
                · refine set_keep (a0 := V.delta + (off + len * sz')) hG (fun j2 V2 h2 => ?_) hr' (fun x hx e => ?_)
                  · by_cases e : j2 = j
                    · subst e
                      rw [hV] at h2
                      cases h2
                      refine ⟨{ V with cells := over V.cells (off + len * sz') ns.flatten }, by simp [hV], rfl, rfl, over_len hc.2, fun k k1 _ => ?_⟩
                      exact over_take _ _ _ _ (by omega) hl
                    · refine ⟨V2.poke (V.delta + (off + len * sz')) ns.flatten.length, by simp [h2, e], rfl, rfl, poke_len _ _ _, fun k k1 _ => poke_take _ _ _ _ k1⟩
                  · subst e
                    have := hf x hx (List.mem_cons_self ..)
                    rw [finA_eq hG hV] at this
                    omega
              · rw [if_neg hc] at hw
                cases hw
            · cases hw
      · split at h
        · simp only [St.get, hG] at h
          cases hrd : G.read j off (len * sz') with
          | none => rw [hrd] at h; cases h
          | some old =>
            rw [hrd] at h
            simp only at h
            split at h
            · cases h
              refine ⟨fun e _ => ?_, fun hr' _ => ⟨hr'.same (newG_same hok _ hr'), finA_same (newG_same hok _ hr')⟩⟩
              have e2 : s.ctr = g := by have := e; simp only [AV.gs, List.cons.injEq, and_true] at this; exact this
              rw [← e2, hok _ (Nat.le_refl _)] at hG
              cases hG
            · simp only [hV] at h
              cases h
              refine ⟨fun _ _ => ?_, fun {sz2} {r} {rs} hr' hf => ?_⟩
              · rw [finA_eq hG hV, finA_eq (V := ⟨old ++ ns.flatten, V.delta + off, none⟩) (by simp only [St.setG, Tr.get_set, if_true]; rfl) (by simp)]
                simp only
                rw [Nat.add_mul]; omega
              · refine set_keep (a0 := V.delta + off + len * sz') hG (fun j2 V2 h2 => ?_) hr' (fun x hx e => ?_)
                · have hlt := (List.getElem?_eq_some_iff.1 h2).1
                  refine ⟨V2.poke (V.delta + off + len * sz') (ns.length * sz'), ?_, rfl, rfl, poke_len _ _ _, fun k k1 _ => poke_take _ _ _ _ k1⟩
                  simp only
                  rw [List.getElem?_append_left (by simpa using hlt), List.getElem?_map, h2]; rfl
                · subst e
                  have := hf x hx (List.mem_cons_self ..)
                  rw [finA_eq hG hV] at this
                  exact this
        · cases h
    | _ => exact hr.elim
end Go.Ab
/- Maps with keys that are written in the text. -/
namespace Go.Ab
def MapAt (h : Tr Grp) (g : Nat) (es : List (AV × AV)) : Prop := Tr.get h g = some ⟨[⟨[], 0, some es⟩]⟩
def lookV (ie : TI) (es : List (AV × AV)) (k : AV) : Option AV := match mpFind k es 0 with
  | some (some (_, v)) => some v
  | some none => ofCells ie.sh.isAgg ie.zero
  | none => none
section
variable {P : Program} {T : Tab} {K : FuncId → Option Bool} {nt : Nat} {ops : Array Oper} {rest : List Oper} {m : Sy} {s : St} {Q : Sy → St → Prop} {d ty : Nat} {pos : String} {af : Array Edge} {g : Option (Nat × Bool)}
end
end Go.Ab
/- Drawn regions that write what they have read before: reads and writes have an order. -/
namespace Go.Ab
section
variable {P : Program} {T : Tab} {K : FuncId → Option Bool} {nt : Nat} {ops : Array Oper}
/-- What an entry of the record must show: j: the operation's place; A: the early variables, by place and group. -/
def EntOk2 (B : Array Nat) (D : Nat → Prop) (RL : List Nat) (A : List (Nat × Nat)) (j : Nat) (e : Entry) : Prop :=
  (∀ g, e.rd = some g → D g ∧ j ∈ RL) ∧ (∀ g ∈ e.wr, (¬ D g ∨ ∀ i ∈ RL, aheadB B i j = true ∨ aheadB B j i = true) ∧ ∀ p ∈ A, p.2 = g → aheadB B p.1 j = true) ∧ ∀ g, e.al = some g → (j, g) ∈ A
/-- Operations of a drawn region from the place j on; hs: what was laid early. -/
def WF (P : Program) (T : Tab) (K : FuncId → Option Bool) (nt : Nat) (ops : Array Oper) (D : Nat → Prop) (RL : List Nat) (A : List (Nat × Nat)) (j : Nat) (l : List Oper) (hs : List (Option (Nat × List AV))) (m : Sy) (s : St) (Q : Sy → St → Prop) : Prop :=
  ∃ N m' s', Q m' s' ∧ ∀ n, N ≤ n → ∀ t, Has t nt m → ∃ t' es, evLog T (evCallK P T K n) ops l hs t s = some (t', s', es) ∧ Has t' nt m' ∧ ∀ (i : Nat) (e : Entry), es[i]? = some e → EntOk2 (Region.before ops) D RL A (j + i) e
variable {D : Nat → Prop} {RL : List Nat} {A : List (Nat × Nat)} {j : Nat} {rest : List Oper} {hs : List (Option (Nat × List AV))} {m : Sy} {s s0 : St} {Q : Sy → St → Prop} {R : Ex → Sy → St → Prop} {o : Oper}
theorem wf_nil (h : Q m s) : WF P T K nt ops D RL A j [] [] m s Q := ⟨0, m, s, h, fun _ _ t ht => ⟨t, [], rfl, ht, fun i e h => by simp at h⟩⟩
theorem wf_cons (hr : ∀ t, Has t nt m → ∀ g, readsA t o.op = some g → D g ∧ j ∈ RL)
    (h : W1 P T K nt ops o m s.bare fun m1 s1 => (∀ g ∈ s1.wr, (¬ D g ∨ ∀ i ∈ RL, aheadB (Region.before ops) i j = true ∨ aheadB (Region.before ops) j i = true) ∧ ∀ p ∈ A, p.2 = g → aheadB (Region.before ops) p.1 j = true) ∧ WF P T K nt ops D RL A (j + 1) rest hs m1 (s1.join s) Q) : WF P T K nt ops D RL A j (o :: rest) (none :: hs) m s Q := by
  obtain ⟨N, m1, s1, ⟨hw, N', m', s', hq, h'⟩, hn⟩ := h
  refine ⟨max N N', m', s', hq, fun n hn' t ht => ?_⟩
  obtain ⟨t1, e1, ht1⟩ := hn n (by omega) t ht
  obtain ⟨t2, es, e2, ht2, he⟩ := h' n (by omega) t1 ht1
  refine ⟨t2, ⟨if guardA ops t o.guard = some true then readsA t o.op else none, s1.wr, none⟩ :: es, ?_, ht2, ?_⟩
  · rw [evLog, show ({ s with wr := [] } : St) = s.bare from rfl, e1]
    simp only
    rw [show ({ s1 with wr := s1.wr ++ s.wr } : St) = s1.join s from rfl, e2]
  · intro i e hi
    cases i with
    | zero =>
      simp only [List.getElem?_cons_zero, Option.some.injEq] at hi
      subst hi
      refine ⟨fun g hg => ?_, hw, fun g hg => by cases hg⟩
      simp only at hg
      split at hg
      · exact hr t ht g hg
      · cases hg
    | succ i =>
      have := he i e (by simpa using hi)
      rw [show j + (i + 1) = j + 1 + i by omega]
      exact this
theorem logOk_ent2 {B : Array Nat} {l : List Entry} (h : ∀ (i : Nat) (e : Entry), l[i]? = some e → EntOk2 B D RL A i e) : logOk B l = true := by
  unfold logOk
  rw [List.all_eq_true]
  intro i _
  cases hi : l[i]? with
  | none => rfl
  | some x =>
    obtain ⟨h1, h2, h3⟩ := h i x hi
    simp only [Bool.and_eq_true]
    constructor
    · cases hrd : x.rd with
      | none => rfl
      | some g =>
        simp only
        rw [List.all_eq_true]
        intro e _
        cases he : l[e]? with
        | none => simp
        | some y =>
          obtain ⟨-, k2, -⟩ := h e y he
          cases hc : y.wr.contains g with
          | false => simp only; rw [hc]; simp
          | true =>
            rcases (k2 g (by simpa using hc)).1 with h4 | h4
            · exact absurd (h1 g hrd).1 h4
            · rcases h4 i (h1 g hrd).2 with h5 | h5
              · rw [h5]; simp
              · rw [h5]; simp
    · cases hal : x.al with
      | none => rfl
      | some g =>
        simp only
        rw [List.all_eq_true]
        intro e _
        cases he : l[e]? with
        | none => simp
        | some y =>
          obtain ⟨-, k2, -⟩ := h e y he
          cases hc : y.wr.contains g with
          | false => simp only [hc, Bool.not_false, Bool.or_true]
          | true => rw [(k2 g (by simpa using hc)).2 (i, g) (h3 g hal) rfl]; rfl
theorem wc_order {id : Nat} (hd : drawOk false ops = true) (hh : hoist false T ops.toList [] s = some (s0, hs)) (h : WF P T K nt ops D RL A 0 ops.toList hs m s0 (R .normal)) : WC P T K nt (.region id ops true) m s R := by
  obtain ⟨N, m', s', hq, hn⟩ := h
  refine ⟨N + 1, .normal, m', s', hq, fun n k hn1 hk t ht => ?_⟩
  obtain ⟨t', es, e1, ht', he⟩ := hn n (by omega) t ht
  obtain ⟨k, rfl⟩ : ∃ j, k = j + 1 := ⟨k - 1, by omega⟩
  refine ⟨t', ?_, ht'⟩
  have : evDraw T (evCallK P T K n) false [] ops t s = some (t', s') := by
    unfold evDraw
    rw [hh]
    simp only [e1]
    rw [if_pos (logOk_ent2 (D := D) (RL := RL) (A := A) fun i e hi => by have := he i e hi; rwa [Nat.zero_add] at this)]
  simp only [evCode, hd, if_true, this]
/- The rules: what is read is old (Old s0 X), what is written is new or one of the early ones. -/
variable {X : List Nat} {d ty : Nat} {pos : String} {af : Array Edge} {g : Option (Nat × Bool)} {op : Op} {v : AV}
theorem wf_val (hr : ∀ t, readsA t op = none) (hg : guardY ops m g = some true) (hd : Nat.ble (d + 1) nt = true) (h : ∀ t, Has t nt m → evOp T op t s.bare = some (.val v, s.bare)) (k : WF P T K nt ops D RL A (j + 1) rest hs ((d, v) :: m) s Q) :
    WF P T K nt ops D RL A j (⟨some d, op, ty, pos, af, g⟩ :: rest) (none :: hs) m s Q := wf_cons (fun t _ g hg => by rw [hr t] at hg; cases hg) (w1_val hg hd h ⟨fun g hg => (by cases hg), k⟩)
theorem wf_load {tt : TypeId} {a : Operand} {i : TI} {p : AV} {cs : List AV} (hK : Keep [] s0 s) (hx : evY m a = some p) (hT : T tt = some i) (hp : Pt s0.h p cs) (hc : loadC i cs = some v) (hX : ∀ g ∈ p.gs, g ∉ X) (hj : j ∈ RL) (hg : guardY ops m g = some true) (hd : Nat.ble (d + 1) nt = true)
    (k : WF P T K nt ops (Old s0 X) RL A (j + 1) rest hs ((d, v) :: m) s Q) : WF P T K nt ops (Old s0 X) RL A j (⟨some d, .load tt a, ty, pos, af, g⟩ :: rest) (none :: hs) m s Q :=
  have hp' : Pt s.h p cs := hp.keep hK (by intro g _ h; cases h)
  wf_cons (fun t ht g hg => by
    have := rd_load ht hx g hg
    exact ⟨⟨hp.lt hK.ok0 g this, hX g this⟩, hj⟩) (w1_val (s' := s.bare) hg hd (op_load (s := s.bare) hx hT (show Pt s.bare.h p cs from hp') hc) ⟨fun g hg => (by cases hg), k⟩)
theorem wf_call {f : FuncId} {args : List AV} {R : AV → St → Prop} (hK : Keep [] s0 s) (hA : ∀ p ∈ A, p.2 < s0.ctr) (hg : guardY ops m g = some true) (hd : Nat.ble (d + 1) nt = true) (hr : ∀ t, readsA t op = none) (h : ∀ t, Has t nt m → evOp T op t s.bare = some (.call f args, s.bare)) (hc : CallS P T K f args s.bare R)
    (hw : ∀ v s', R v s' → Keep [] s.bare s') (k : ∀ v s', R v s' → Keep [] s (s'.join s) → WF P T K nt ops (Old s0 X) RL A (j + 1) rest hs ((d, v) :: m) (s'.join s) Q) : WF P T K nt ops (Old s0 X) RL A j (⟨some d, op, ty, pos, af, g⟩ :: rest) (none :: hs) m s Q :=
  wf_cons (fun t _ g hg => by rw [hr t] at hg; cases hg) (w1_call hg hd h hc fun v s' hr' => by
    have hk := hw v s' hr'
    have key : ∀ g ∈ s'.wr, s0.ctr ≤ g := by
      intro g hg
      rcases hk.wr g hg with h1 | h1 | h1
      · cases h1
      · cases h1
      · exact Nat.le_trans hK.ctr h1
    refine ⟨fun g hg => ⟨.inl fun ho => ?_, fun p hp e => ?_⟩, k v s' hr' hk.joined⟩
    · have := key g hg
      have := ho.1
      omega
    · have := key g hg
      have := hA p hp
      omega)
theorem wf_store_fld {tt : TypeId} {a x : Operand} {i : TI} {c : Nat} {o : Nat} {u : AV} {old : List AV} (hok : s.Ok) (hord : ∀ i ∈ RL, aheadB (Region.before ops) i j = true ∨ aheadB (Region.before ops) j i = true) (hah : ∀ p ∈ A, p.2 = c → aheadB (Region.before ops) p.1 j = true) (hg : guardY ops m g = some true) (ha : evY m a = some (fldA (.ptr c 0 0) o)) (hx : evY m x = some u) (hT : T tt = some i) (hl : u.cells.length = i.size)
    (hz : u.cells.all AV.leaf = true) (hp : Pt s.h (.ptr c 0 0) old) (hlo : o + u.cells.length ≤ old.length)
    (k : ∀ s', Pt s'.h (.ptr c 0 0) (over old o u.cells) → Keep [c] s s' → s'.ctr = s.ctr → WF P T K nt ops (Old s0 X) RL A (j + 1) rest hs m s' Q) : WF P T K nt ops (Old s0 X) RL A j (⟨none, .store tt a x, ty, pos, af, g⟩ :: rest) (none :: hs) m s Q := by
  have hokb : s.bare.Ok := hok
  have hpb : rdH s.bare.h c 0 0 old.length = some old := hp
  obtain ⟨s', e1, e2, e3, e4⟩ := write_over hokb hpb (k := o) (c := u.cells) hlo hz
  have hwr : ∀ g ∈ s'.wr, g = c := by
    unfold St.write at e1
    simp only [hz, if_true] at e1
    split at e1
    · cases e1
    · split at e1
      · cases e1
      · cases e1
        intro g hg
        exact List.mem_singleton.1 hg
  refine wf_cons (fun t _ g hg => by cases hg) (w1_skip (s' := s') hg rfl (fun t ht => ?_) ⟨fun g hg => ?_, k (s'.join s) ?_ e3.joined e4⟩)
  · have hnl : ¬ (u.cells.length ≠ i.size) := fun h => h hl
    have ha' := evY_ok ht ha
    simp only [fldA] at ha'
    simp only [evOp, hT, ha', evY_ok ht hx, if_neg hnl, e1]
  · rw [hwr g hg]
    exact ⟨.inr hord, hah⟩
  · show rdH s'.h c 0 0 (over old o u.cells).length = some _
    rw [over_len hlo]
    exact e2
end
end Go.Ab
/- cap of nothing, append of zeros. -/
namespace Go.Ab
section
variable {P : Program} {T : Tab} {K : FuncId → Option Bool} {nt : Nat} {ops : Array Oper} {rest : List Oper} {m : Sy} {s : St} {Q : Sy → St → Prop} {d ty : Nat} {pos : String} {af : Array Edge} {g : Option (Nat × Bool)}
end
end Go.Ab
/- Literals of any length, append in drawn regions, and drawn regions in which literals are laid early (their cells foretold). -/
namespace Go.Ab
section
variable {P : Program} {T : Tab} {K : FuncId → Option Bool} {nt : Nat} {ops : Array Oper} {rest : List Oper} {m : Sy} {s s0 : St} {Q : Sy → St → Prop} {d ty : Nat} {pos : String} {af : Array Edge} {g : Option (Nat × Bool)} {op : Op} {v : AV} {X : List Nat}
/-- What a literal of n elements is. -/
theorem op_lit {tt e : TypeId} {n : Nat} {parts : Array (Nat × Operand)} {i ie : TI} {ps : List (Nat × AV)} {c : List AV} (hT : T tt = some i) (hs : i.sh = .slice e) (he : T e = some ie) (hp : evPartsY m parts.toList = some ps) (hz : ie.zero.length = ie.size) (h0 : ie.size ≠ 0) (h24 : n * ie.size ≤ 2 ^ 24)
    (hf : fillA (fun n => some (n * ie.size, ie.size)) (List.replicate n ie.zero).flatten ps = some c) (hl : c.all AV.leaf = true) : ∀ t, Has t nt m → evOp T (.buildSlice tt n parts) t s = some (.val (.slc s.ctr 0 0 ie.size n n true), s.newG ⟨[⟨c, 0, none⟩]⟩) := by
  intro t ht
  obtain ⟨sh, size, bytes, zero, flat⟩ := i
  cases hs
  have hcond : ¬ (n * ie.size > 2 ^ 24 ∨ ie.zero.length ≠ ie.size ∨ ie.size = 0) := by
    rintro (h | h | h)
    · omega
    · exact h hz
    · exact h0 h
  simp only [evOp, hT, he, evPartsY_ok ht hp, if_neg hcond, hf, hl, if_true]
theorem lit_row {n sz : Nat} {cs : List (List AV)} {c : List AV} (hok : s.Ok) (hc : c = cs.flatten) (hcs : ∀ x ∈ cs, x.length = sz ∧ x.all AV.leaf = true) (hn : n = cs.length) (h0 : sz ≠ 0) : Row (s.newG ⟨[⟨c, 0, none⟩]⟩).h sz (.slc s.ctr 0 0 sz n n true) cs := by
  subst hc hn
  refine ⟨rfl, h0, rfl, Nat.le_refl _, hcs, [], ?_⟩
  rw [List.append_nil, ← flat_len fun c hc => (hcs c hc).1]
  exact rd_new hok
theorem w_lit {tt e : TypeId} {n : Nat} {parts : Array (Nat × Operand)} {i ie : TI} {ps : List (Nat × AV)} {c : List AV} (cs : List (List AV)) (hg : guardY ops m g = some true) (hd : Nat.ble (d + 1) nt = true) (hT : T tt = some i) (hs : i.sh = .slice e) (he : T e = some ie) (hp : evPartsY m parts.toList = some ps) (hz : ie.zero.length = ie.size) (h0 : ie.size ≠ 0) (h24 : n * ie.size ≤ 2 ^ 24)
    (hf : fillA (fun n => some (n * ie.size, ie.size)) (List.replicate n ie.zero).flatten ps = some c) (hl : c.all AV.leaf = true) (hc : c = cs.flatten) (hcs : ∀ x ∈ cs, x.length = ie.size ∧ x.all AV.leaf = true) (hn : n = cs.length) (hok : s.Ok)
    (k : ∀ v s', Row s'.h ie.size v cs → Keep [] s s' → s'.ctr = s.ctr + 1 → v.gs = [s.ctr] → W P T K nt ops rest ((d, v) :: m) s' Q) : W P T K nt ops (⟨some d, .buildSlice tt n parts, ty, pos, af, g⟩ :: rest) m s Q :=
  w_val hg hd (op_lit hT hs he hp hz h0 h24 hf hl) (k _ _ (lit_row hok hc hcs hn h0) (newG_keep hok _).1 rfl rfl)
theorem wo_lit {tt e : TypeId} {n : Nat} {parts : Array (Nat × Operand)} {i ie : TI} {ps : List (Nat × AV)} {c : List AV} (cs : List (List AV)) (hK : Keep [] s0 s) (hg : guardY ops m g = some true) (hd : Nat.ble (d + 1) nt = true) (hT : T tt = some i) (hs : i.sh = .slice e) (he : T e = some ie) (hp : evPartsY m parts.toList = some ps) (hz : ie.zero.length = ie.size) (h0 : ie.size ≠ 0) (h24 : n * ie.size ≤ 2 ^ 24)
    (hf : fillA (fun n => some (n * ie.size, ie.size)) (List.replicate n ie.zero).flatten ps = some c) (hl : c.all AV.leaf = true) (hc : c = cs.flatten) (hcs : ∀ x ∈ cs, x.length = ie.size ∧ x.all AV.leaf = true) (hn : n = cs.length)
    (k : ∀ v s', Row s'.h ie.size v cs → Keep [] s s' → s'.ctr = s.ctr + 1 → v.gs = [s.ctr] → WD P T K nt ops rest ((d, v) :: m) s' (Old s0 X) Q) : WD P T K nt ops (⟨some d, .buildSlice tt n parts, ty, pos, af, g⟩ :: rest) m s (Old s0 X) Q := by
  have hokb : s.bare.Ok := hK.ok
  refine wd_cons (fun t _ g hg => by cases hg) (w1_val hg hd (op_lit (s := s.bare) hT hs he hp hz h0 h24 hf hl) ⟨fun g hg ho => ?_, k _ ((s.bare.newG ⟨[⟨c, 0, none⟩]⟩).join s) (lit_row hokb hc hcs hn h0) (newG_keep hokb _).1.joined rfl rfl⟩)
  have h1 : g = s.ctr := List.mem_singleton.1 hg
  have := ho.1
  have := hK.ctr
  omega
/-- append in a drawn region: what it writes is new. -/
theorem wo_append {tt e : TypeId} {x y : Operand} {args : Array Operand} {tys : Array TypeId} {i ie : TI} {a b : AV} {cs ns : List (List AV)} (hK : Keep [] s0 s) (hA : ∀ g ∈ a.gs, s0.ctr ≤ g ∨ g ∈ X) (hg : guardY ops m g = some true) (hd : Nat.ble (d + 1) nt = true) (h1 : args.toList = [x, y]) (h2 : tys.toList = [tt, tt])
    (hx : evY m x = some a) (hy : evY m y = some b) (hT : T tt = some i) (hs : i.sh = .slice e) (he : T e = some ie) (h0 : ie.size ≠ 0) (ha : Row s.h ie.size a cs) (hro : a.gs = [] → a = .nils) (hb : Row s.h ie.size b ns)
    (hb1 : (cs.length + ns.length) * ie.bytes ≤ maxBytes) (hb2 : cs.length + ns.length ≤ maxBytes)
    (k : ∀ v s', Row s'.h ie.size v (cs ++ ns) → Keep a.gs s s' → s'.ctr ≤ s.ctr + 1 → (v.gs = a.gs ∨ v.gs = [s.ctr]) → (v.gs = [] → v = .nils) → (ns ≠ [] → v.gs ≠ []) → WD P T K nt ops rest ((d, v) :: m) s' (Old s0 X) Q) :
    WD P T K nt ops (⟨some d, .call ⟨.builtin .append, args, tys⟩, ty, pos, af, g⟩ :: rest) m s (Old s0 X) Q := by
  obtain ⟨sh, size, bytes, zero, flat⟩ := i
  cases hs
  have hokb : s.bare.Ok := hK.ok
  obtain ⟨v, s', e1, e2, e3, e4, e5, e6, e7⟩ := app_row hokb h0 (Row.bare ha) hro hb.cells hb1 hb2
  refine wd_cons (fun t _ g hg => by cases hg) (w1_val (v := v) (s' := s') hg hd (fun t ht => ?_) ⟨fun g hg ho => ?_, k v (s'.join s) e2 e3.joined e4 e5 e6 e7⟩)
  · have hev : evsY m [x, y] = some [a, b] := by simp only [evsY, hx, hy]
    simp only [evOp, h1, h2, evsY_ok ht hev, callA, ne_eq, not_true_eq_false, if_false, hT, he, (Row.bare hb).slen, (Row.bare hb).elems, e1]
  · rcases e3.wr g hg with h1 | h1 | h1
    · cases h1
    · rcases hA g h1 with h2 | h2
      · have := ho.1; omega
      · exact ho.2 h2
    · have h2 : s.ctr ≤ g := h1
      have := ho.1
      have := hK.ctr
      omega
end
/- Early literals. -/
section
variable {P : Program} {T : Tab} {K : FuncId → Option Bool} {nt : Nat} {ops : Array Oper}
/-- The first run, that foretells the cells of the early groups. -/
def WG (P : Program) (T : Tab) (K : FuncId → Option Bool) (nt : Nat) (ops : Array Oper) (l : List Oper) (hs : List (Option (Nat × List AV))) (m : Sy) (s : St) (gs : List (List AV)) : Prop :=
  ∃ N, ∀ n, N ≤ n → ∀ t, Has t nt m → evGuess T (evCallK P T K n) ops l hs t s = some gs
variable {D : Nat → Prop} {A : List (Nat × Nat)} {j : Nat} {rest : List Oper} {hs : List (Option (Nat × List AV))} {m : Sy} {s s0 : St} {Q : Sy → St → Prop} {R : Ex → Sy → St → Prop} {o : Oper} {gs : List (List AV)} {d ty : Nat} {pos : String} {af : Array Edge} {g : Option (Nat × Bool)} {op : Op} {v : AV}
end
end Go.Ab
/- Early literals: what is laid, and the first run over it. -/
namespace Go.Ab
section
variable {P : Program} {T : Tab} {K : FuncId → Option Bool} {nt : Nat} {ops : Array Oper} {b : Bool} {rest : List Oper} {o : Oper} {s s' : St} {gs : List (List AV)} {l : List (Option (Nat × List AV))} {cs : List AV} {hs : List (Option (Nat × List AV))} {m : Sy} {g : Option (Nat × Bool)} {ty : Nat} {pos : String} {af : Array Edge}
end
end Go.Ab
/- slices.Clip and slices.Clone. -/
namespace Go.Ab
open Go.Proofs
set_option maxRecDepth 10000 in
theorem clipInts_ok {s : St} {v : AV} {cs : List (List AV)} (hv : Row s.h 1 v cs) (hn : v.gs = [] → v = .nils) :
    CallS Try.prog Tt Kt 58 [v] s (fun r s' => s' = s ∧ r = clipA v) := by
  have hsv := hv.slen
  refine call_of (fn := Try.f58) (nt := 9) Try.func58 rfl rfl rfl ?_
  repeat refine wc_seq ?_
  refine wc_region ?_
  refine w_val rfl rfl (op_pure rfl) ?_
  refine w_nil ?_
  refine then_n ?_
  repeat refine wc_seq ?_
  refine wc_region ?_
  refine w_val rfl rfl (op_pure rfl) ?_
  refine w_val rfl rfl (op_pure rfl) ?_
  refine w_val rfl rfl (op_len rfl rfl rfl rfl rfl (by assumption)) ?_
  refine w_val rfl rfl (op_pure rfl) ?_
  refine w_val rfl rfl (op_len rfl rfl rfl rfl rfl (by assumption)) ?_
  refine w_val rfl rfl (op_clip rfl rfl (natA_cast _ _) rfl (natA_cast _ _) rfl rfl rfl rfl hv hn) ?_
  refine w_val rfl rfl (op_pure rfl) ?_
  refine w_nil ?_
  refine then_n ?_
  refine wc_ret ?_
  repeat first | refine then_r ?_ | refine out_r ?_ | refine round_r ?_ | refine cut_r ?_ | refine sc_r ?_
  exact ⟨_, rfl, rfl, rfl⟩
set_option maxRecDepth 10000 in
theorem clipLabels_ok {s : St} {v : AV} {cs : List (List AV)} (hv : Row s.h 1 v cs) (hn : v.gs = [] → v = .nils) :
    CallS Try.prog Tt Kt 71 [v] s (fun r s' => s' = s ∧ r = clipA v) := by
  have hsv := hv.slen
  refine call_of (fn := Try.f71) (nt := 9) Try.func71 rfl rfl rfl ?_
  repeat refine wc_seq ?_
  refine wc_region ?_
  refine w_val rfl rfl (op_pure rfl) ?_
  refine w_nil ?_
  refine then_n ?_
  repeat refine wc_seq ?_
  refine wc_region ?_
  refine w_val rfl rfl (op_pure rfl) ?_
  refine w_val rfl rfl (op_pure rfl) ?_
  refine w_val rfl rfl (op_len rfl rfl rfl rfl rfl (by assumption)) ?_
  refine w_val rfl rfl (op_pure rfl) ?_
  refine w_val rfl rfl (op_len rfl rfl rfl rfl rfl (by assumption)) ?_
  refine w_val rfl rfl (op_clip rfl rfl (natA_cast _ _) rfl (natA_cast _ _) rfl rfl rfl rfl hv hn) ?_
  refine w_val rfl rfl (op_pure rfl) ?_
  refine w_nil ?_
  refine then_n ?_
  refine wc_ret ?_
  repeat first | refine then_r ?_ | refine out_r ?_ | refine round_r ?_ | refine cut_r ?_ | refine sc_r ?_
  exact ⟨_, rfl, rfl, rfl⟩
set_option maxRecDepth 10000 in
theorem clipArrays_ok {s : St} {v : AV} {cs : List (List AV)} (hv : Row s.h 2 v cs) (hn : v.gs = [] → v = .nils) :
    CallS Try.prog Tt Kt 73 [v] s (fun r s' => s' = s ∧ r = clipA v) := by
  have hsv := hv.slen
  refine call_of (fn := Try.f73) (nt := 9) Try.func73 rfl rfl rfl ?_
  repeat refine wc_seq ?_
  refine wc_region ?_
  refine w_val rfl rfl (op_pure rfl) ?_
  refine w_nil ?_
  refine then_n ?_
  repeat refine wc_seq ?_
  refine wc_region ?_
  refine w_val rfl rfl (op_pure rfl) ?_
  refine w_val rfl rfl (op_pure rfl) ?_
  refine w_val rfl rfl (op_len rfl rfl rfl rfl rfl (by assumption)) ?_
  refine w_val rfl rfl (op_pure rfl) ?_
  refine w_val rfl rfl (op_len rfl rfl rfl rfl rfl (by assumption)) ?_
  refine w_val rfl rfl (op_clip rfl rfl (natA_cast _ _) rfl (natA_cast _ _) rfl rfl rfl rfl hv hn) ?_
  refine w_val rfl rfl (op_pure rfl) ?_
  refine w_nil ?_
  refine then_n ?_
  refine wc_ret ?_
  repeat first | refine then_r ?_ | refine out_r ?_ | refine round_r ?_ | refine cut_r ?_ | refine sc_r ?_
  exact ⟨_, rfl, rfl, rfl⟩
set_option maxRecDepth 10000 in
theorem clipFuncs_ok {s : St} {v : AV} {cs : List (List AV)} (hv : Row s.h 6 v cs) (hn : v.gs = [] → v = .nils) :
    CallS Try.prog Tt Kt 75 [v] s (fun r s' => s' = s ∧ r = clipA v) := by
  have hsv := hv.slen
  refine call_of (fn := Try.f75) (nt := 9) Try.func75 rfl rfl rfl ?_
  repeat refine wc_seq ?_
  refine wc_region ?_
  refine w_val rfl rfl (op_pure rfl) ?_
  refine w_nil ?_
  refine then_n ?_
  repeat refine wc_seq ?_
  refine wc_region ?_
  refine w_val rfl rfl (op_pure rfl) ?_
  refine w_val rfl rfl (op_pure rfl) ?_
  refine w_val rfl rfl (op_len rfl rfl rfl rfl rfl (by assumption)) ?_
  refine w_val rfl rfl (op_pure rfl) ?_
  refine w_val rfl rfl (op_len rfl rfl rfl rfl rfl (by assumption)) ?_
  refine w_val rfl rfl (op_clip rfl rfl (natA_cast _ _) rfl (natA_cast _ _) rfl rfl rfl rfl hv hn) ?_
  refine w_val rfl rfl (op_pure rfl) ?_
  refine w_nil ?_
  refine then_n ?_
  refine wc_ret ?_
  repeat first | refine then_r ?_ | refine out_r ?_ | refine round_r ?_ | refine cut_r ?_ | refine sc_r ?_
  exact ⟨_, rfl, rfl, rfl⟩
set_option maxRecDepth 10000 in
theorem cloneLabels_ok {s : St} {v : AV} {cs : List (List AV)} (hok : s.Ok) (hl : cs.length ≤ 2097152) (hv : Row s.h 1 v cs) (hg : v.gs ≠ []) :
    CallS Try.prog Tt Kt 85 [v] s (fun r s' => Keep [] s s' ∧ Row s'.h 1 r cs ∧ (∀ g ∈ r.gs, s.ctr ≤ g) ∧ r.gs ≠ []) := by
  refine call_of (fn := Try.f85) (nt := 8) Try.func85 rfl rfl rfl ?_
  repeat refine wc_seq ?_
  refine wc_region ?_
  refine w_val rfl rfl (op_pure rfl) ?_
  refine w_nil ?_
  refine then_n ?_
  repeat refine wc_seq ?_
  refine wc_region ?_
  refine w_val rfl rfl (op_pure rfl) ?_
  refine w_val rfl rfl (op_isnil rfl rfl rfl rfl hv hg) ?_
  refine w_nil ?_
  refine then_n ?_
  repeat refine wc_seq ?_
  refine wc_condT rfl (fun h4 => ?_) (fun h4 => ?_)
  · cases h4
  clear h4
  refine wc_skip ?_
  refine then_n ?_
  repeat refine wc_seq ?_
  refine wc_region ?_
  refine w_lit0 rfl rfl rfl rfl rfl rfl (by decide) hok ?_
  rintro a s1 ha hk1 hc1 hga
  have hv1 := hv.keep0 hk1
  refine w_val rfl rfl (op_pure rfl) ?_
  refine w_append rfl rfl rfl rfl rfl rfl rfl rfl rfl (by decide) hk1.ok ha (fun e => by rw [hga] at e; cases e) hv1 (by simp only [List.length_nil, maxBytes]; omega) (by simp only [List.length_nil, maxBytes]; omega) ?_
  rintro r s2 hr hk2 hc2 hgr - -
  rw [List.nil_append] at hr
  refine w_val rfl rfl (op_pure rfl) ?_
  refine w_nil ?_
  refine then_n ?_
  refine wc_ret ?_
  repeat first | refine then_r ?_ | refine out_r ?_ | refine round_r ?_ | refine cut_r ?_ | refine sc_r ?_
  refine ⟨_, rfl, hk1.fresh hk2 (by rw [hga]; exact mem_none _), hr, ?_, ?_⟩
  · show ∀ g ∈ r.gs, _
    rcases hgr with e | e
    · rw [e, hga]; exact mem_none _
    · rw [e]; intro g hg; rw [List.mem_singleton.1 hg]; omega
  · show r.gs ≠ []
    rcases hgr with e | e
    · rw [e, hga]; exact fun e => by cases e
    · rw [e]; exact fun e => by cases e
set_option maxRecDepth 10000 in
theorem cloneArrays_ok {s : St} {v : AV} {cs : List (List AV)} (hok : s.Ok) (hl : cs.length ≤ 2097152) (hv : Row s.h 2 v cs) (hg : v.gs ≠ []) :
    CallS Try.prog Tt Kt 86 [v] s (fun r s' => Keep [] s s' ∧ Row s'.h 2 r cs ∧ (∀ g ∈ r.gs, s.ctr ≤ g) ∧ r.gs ≠ []) := by
  refine call_of (fn := Try.f86) (nt := 8) Try.func86 rfl rfl rfl ?_
  repeat refine wc_seq ?_
  refine wc_region ?_
  refine w_val rfl rfl (op_pure rfl) ?_
  refine w_nil ?_
  refine then_n ?_
  repeat refine wc_seq ?_
  refine wc_region ?_
  refine w_val rfl rfl (op_pure rfl) ?_
  refine w_val rfl rfl (op_isnil rfl rfl rfl rfl hv hg) ?_
  refine w_nil ?_
  refine then_n ?_
  repeat refine wc_seq ?_
  refine wc_condT rfl (fun h4 => ?_) (fun h4 => ?_)
  · cases h4
  clear h4
  refine wc_skip ?_
  refine then_n ?_
  repeat refine wc_seq ?_
  refine wc_region ?_
  refine w_lit0 rfl rfl rfl rfl rfl rfl (by decide) hok ?_
  rintro a s1 ha hk1 hc1 hga
  have hv1 := hv.keep0 hk1
  refine w_val rfl rfl (op_pure rfl) ?_
  refine w_append rfl rfl rfl rfl rfl rfl rfl rfl rfl (by decide) hk1.ok ha (fun e => by rw [hga] at e; cases e) hv1 (by simp only [List.length_nil, maxBytes]; omega) (by simp only [List.length_nil, maxBytes]; omega) ?_
  rintro r s2 hr hk2 hc2 hgr - -
  rw [List.nil_append] at hr
  refine w_val rfl rfl (op_pure rfl) ?_
  refine w_nil ?_
  refine then_n ?_
  refine wc_ret ?_
  repeat first | refine then_r ?_ | refine out_r ?_ | refine round_r ?_ | refine cut_r ?_ | refine sc_r ?_
  refine ⟨_, rfl, hk1.fresh hk2 (by rw [hga]; exact mem_none _), hr, ?_, ?_⟩
  · show ∀ g ∈ r.gs, _
    rcases hgr with e | e
    · rw [e, hga]; exact mem_none _
    · rw [e]; intro g hg; rw [List.mem_singleton.1 hg]; omega
  · show r.gs ≠ []
    rcases hgr with e | e
    · rw [e, hga]; exact fun e => by cases e
    · rw [e]; exact fun e => by cases e
end Go.Ab
/- Shape: instructions and heads. -/
namespace Go.Ab
open Go.Proofs
def localsE (x : FuncL) : Int := (x.params.length : Int) + (if x.locals < 0 then 0 else if 32 < x.locals then 32 else x.locals)
def rngE (a n : Int) : Int := if a < 0 ∨ n ≤ a then 130 else 0
def instrE (mm : ModL) (x : FuncL) (y : InstrL) : Int :=
  if y.op = 32 then 0
  else if y.op = 33 ∨ y.op = 34 then rngE y.a (localsE x)
  else if y.op = 35 ∨ y.op = 36 then rngE y.a mm.globals.length
  else if y.op = 37 ∨ y.op = 38 then rngE y.a mm.arrays.length
  else if y.op = 43 ∨ y.op = 44 then rngE y.a x.code.length
  else if y.op = 45 then rngE y.a mm.funcs.length
  else if y.op = 47 then rngE y.a mm.channels.length
  else if y.op = 39 ∨ y.op = 40 ∨ y.op = 41 ∨ y.op = 42 ∨ y.op = 46 ∨ (1 ≤ y.op ∧ y.op ≤ 17) then rngE y.a 1
  else 100
def roomE (mm : ModL) (x : FuncL) (op : Int) : Int :=
  if 1 ≤ op ∧ op ≤ 17 then 1
  else if op = 32 then -1
  else if op = 33 ∨ op = 34 then localsE x
  else if op = 35 ∨ op = 36 then mm.globals.length
  else if op = 37 ∨ op = 38 then mm.arrays.length
  else if op = 39 ∨ op = 40 ∨ op = 41 ∨ op = 42 ∨ op = 46 then 1
  else if op = 43 ∨ op = 44 then x.code.length
  else if op = 45 then mm.funcs.length
  else if op = 47 then mm.channels.length
  else -2
def instr2E (mm : ModL) (x : FuncL) (y : InstrL) : Int :=
  if roomE mm x y.op = -2 then 100 else if 0 ≤ roomE mm x y.op ∧ (y.a < 0 ∨ roomE mm x y.op ≤ y.a) then 130 else 0
theorem instr_room (mm : ModL) (x : FuncL) (y : InstrL) : instrE mm x y = instr2E mm x y := by
  have h0 : 0 ≤ localsE x := by unfold localsE; (repeat' split) <;> omega
  unfold instrE instr2E roomE rngE
  generalize localsE x = l at h0
  (repeat' split) <;> omega
theorem ins_any {mm : ModL} {x : FuncL} {y : InstrL} (h : y.op = 32) : instrE mm x y = 0 := by unfold instrE; rw [if_pos h]
theorem ins_loc {mm : ModL} {x : FuncL} {y : InstrL} (h : y.op = 33 ∨ y.op = 34) : instrE mm x y = rngE y.a (localsE x) := by unfold instrE; rw [if_neg (by omega), if_pos h]
theorem ins_glo {mm : ModL} {x : FuncL} {y : InstrL} (h : y.op = 35 ∨ y.op = 36) : instrE mm x y = rngE y.a mm.globals.length := by unfold instrE; rw [if_neg (by omega), if_neg (by omega), if_pos h]
theorem ins_arr {mm : ModL} {x : FuncL} {y : InstrL} (h : y.op = 37 ∨ y.op = 38) : instrE mm x y = rngE y.a mm.arrays.length := by unfold instrE; rw [if_neg (by omega), if_neg (by omega), if_neg (by omega), if_pos h]
theorem ins_jmp {mm : ModL} {x : FuncL} {y : InstrL} (h : y.op = 43 ∨ y.op = 44) : instrE mm x y = rngE y.a x.code.length := by unfold instrE; rw [if_neg (by omega), if_neg (by omega), if_neg (by omega), if_neg (by omega), if_pos h]
theorem ins_cal {mm : ModL} {x : FuncL} {y : InstrL} (h : y.op = 45) : instrE mm x y = rngE y.a mm.funcs.length := by unfold instrE; rw [if_neg (by omega), if_neg (by omega), if_neg (by omega), if_neg (by omega), if_neg (by omega), if_pos h]
theorem ins_snd {mm : ModL} {x : FuncL} {y : InstrL} (h : y.op = 47) : instrE mm x y = rngE y.a mm.channels.length := by unfold instrE; rw [if_neg (by omega), if_neg (by omega), if_neg (by omega), if_neg (by omega), if_neg (by omega), if_neg (by omega), if_pos h]
theorem ins_one {mm : ModL} {x : FuncL} {y : InstrL} (h : y.op = 39 ∨ y.op = 40 ∨ y.op = 41 ∨ y.op = 42 ∨ y.op = 46 ∨ (1 ≤ y.op ∧ y.op ≤ 17)) : instrE mm x y = rngE y.a 1 := by
  unfold instrE; rw [if_neg (by omega), if_neg (by omega), if_neg (by omega), if_neg (by omega), if_neg (by omega), if_neg (by omega), if_neg (by omega), if_pos h]
theorem ins_bad {mm : ModL} {x : FuncL} {y : InstrL} (h32 : ¬ y.op = 32) (h33 : ¬ y.op = 33) (h34 : ¬ y.op = 34) (h35 : ¬ y.op = 35) (h36 : ¬ y.op = 36) (h37 : ¬ y.op = 37) (h38 : ¬ y.op = 38) (h39 : ¬ y.op = 39) (h40 : ¬ y.op = 40) (h41 : ¬ y.op = 41) (h42 : ¬ y.op = 42) (h43 : ¬ y.op = 43) (h44 : ¬ y.op = 44) (h45 : ¬ y.op = 45) (h46 : ¬ y.op = 46) (h47 : ¬ y.op = 47) (h : y.op < 1 ∨ 17 < y.op) : instrE mm x y = 100 := by
  unfold instrE
  rw [if_neg h32, if_neg (fun k => k.elim h33 h34), if_neg (fun k => k.elim h35 h36), if_neg (fun k => k.elim h37 h38), if_neg (fun k => k.elim h43 h44), if_neg h45, if_neg h47, if_neg]
  rintro (k | k | k | k | k | ⟨k1, k2⟩)
  · exact h39 k
  · exact h40 k
  · exact h41 k
  · exact h42 k
  · exact h46 k
  · rcases h with h | h
    · exact absurd k1 (Int.not_le.2 h)
    · exact absurd k2 (Int.not_le.2 h)
theorem rm_one {mm : ModL} {x : FuncL} {op : Int} (h : 1 ≤ op ∧ op ≤ 17) : roomE mm x op = 1 := by unfold roomE; rw [if_pos h]
theorem rm_any {mm : ModL} {x : FuncL} {op : Int} (h : op = 32) : roomE mm x op = -1 := by unfold roomE; rw [if_neg (by omega), if_pos h]
theorem rm_loc {mm : ModL} {x : FuncL} {op : Int} (h : op = 33 ∨ op = 34) : roomE mm x op = localsE x := by unfold roomE; rw [if_neg (by omega), if_neg (by omega), if_pos h]
theorem rm_glo {mm : ModL} {x : FuncL} {op : Int} (h : op = 35 ∨ op = 36) : roomE mm x op = mm.globals.length := by unfold roomE; rw [if_neg (by omega), if_neg (by omega), if_neg (by omega), if_pos h]
theorem rm_arr {mm : ModL} {x : FuncL} {op : Int} (h : op = 37 ∨ op = 38) : roomE mm x op = mm.arrays.length := by unfold roomE; rw [if_neg (by omega), if_neg (by omega), if_neg (by omega), if_neg (by omega), if_pos h]
theorem rm_one' {mm : ModL} {x : FuncL} {op : Int} (h : op = 39 ∨ op = 40 ∨ op = 41 ∨ op = 42 ∨ op = 46) : roomE mm x op = 1 := by unfold roomE; rw [if_neg (by omega), if_neg (by omega), if_neg (by omega), if_neg (by omega), if_neg (by omega), if_pos h]
theorem rm_jmp {mm : ModL} {x : FuncL} {op : Int} (h : op = 43 ∨ op = 44) : roomE mm x op = x.code.length := by unfold roomE; rw [if_neg (by omega), if_neg (by omega), if_neg (by omega), if_neg (by omega), if_neg (by omega), if_neg (by omega), if_pos h]
theorem rm_cal {mm : ModL} {x : FuncL} {op : Int} (h : op = 45) : roomE mm x op = mm.funcs.length := by unfold roomE; rw [if_neg (by omega), if_neg (by omega), if_neg (by omega), if_neg (by omega), if_neg (by omega), if_neg (by omega), if_neg (by omega), if_pos h]
theorem rm_snd {mm : ModL} {x : FuncL} {op : Int} (h : op = 47) : roomE mm x op = mm.channels.length := by unfold roomE; rw [if_neg (by omega), if_neg (by omega), if_neg (by omega), if_neg (by omega), if_neg (by omega), if_neg (by omega), if_neg (by omega), if_neg (by omega), if_pos h]
theorem rm_bad {mm : ModL} {x : FuncL} {op : Int} (h0 : ¬ (1 ≤ op ∧ op ≤ 17)) (h32 : ¬ op = 32) (h33 : ¬ op = 33) (h34 : ¬ op = 34) (h35 : ¬ op = 35) (h36 : ¬ op = 36) (h37 : ¬ op = 37) (h38 : ¬ op = 38) (h39 : ¬ op = 39) (h40 : ¬ op = 40) (h41 : ¬ op = 41) (h42 : ¬ op = 42) (h43 : ¬ op = 43) (h44 : ¬ op = 44) (h45 : ¬ op = 45) (h46 : ¬ op = 46) (h47 : ¬ op = 47) : roomE mm x op = -2 := by
  unfold roomE
  rw [if_neg h0, if_neg h32, if_neg (fun k => k.elim h33 h34), if_neg (fun k => k.elim h35 h36), if_neg (fun k => k.elim h37 h38), if_neg, if_neg (fun k => k.elim h43 h44), if_neg h45, if_neg h47]
  rintro (k | k | k | k | k)
  · exact h39 k
  · exact h40 k
  · exact h41 k
  · exact h42 k
  · exact h46 k
def headE (x : FuncL) : Int :=
  if 8 < x.params.length ∨ 4 < x.results.length ∨ 2048 < x.code.length ∨ 32 < x.locals ∨ 64 < x.stack then 74
  else if x.locals < 0 ∨ x.stack < 0 then 130
  else if x.code.length = 0 then 132
  else 0
set_option maxRecDepth 10000 in
set_option maxHeartbeats 4000000 in
theorem locals_ok {s : St} {c : List AV} {mm : ModL} {x : FuncL} {f : Nat} (hok : s.Ok) (hm : mm.small) (hx : mm.funcs[f]? = some x) (hv : ModR s.h mm c) :
    CallS Try.prog Tt Kt 115 [.agg c, .int .i64 (f : Nat)] s (fun v s' => Keep [] s s' ∧ v = .int .i64 (localsE x)) := by
  have hz := hv.leaf.2
  have hv' := hv
  obtain ⟨vg, va, vh, vf, rfl, hvg, hva, hvh, csf, hrf, hlf, hF⟩ := hv'
  have hsx := hm.2.2.2.2 x (List.mem_of_getElem? hx)
  obtain ⟨hl1, hl3, hl2, hl4, -⟩ := (id hm)
  obtain ⟨hx1, hx2, hx3⟩ := hsx
  refine call_of (fn := Try.f115) (nt := 30) Try.func115 rfl rfl rfl ?_
  repeat refine wc_seq ?_
  refine wc_region ?_
  refine w_box rfl rfl rfl hz hok ?_
  intro s1 hp1 hk1 hc1
  have hK := (Keep.refl hok).two hk1
  have hpm1 : Pt s1.h (.ptr s.ctr 0 0) [vg, va, vh, vf] := hp1
  clear hp1
  have hpm := hpm1
  have hf : f < mm.funcs.length := (List.getElem?_eq_some_iff.1 hx).1
  have hsf : vf.slen = some mm.funcs.length := hrf.slen.trans (congrArg some hlf)
  obtain ⟨cx, hcx⟩ : ∃ c, csf[f]? = some c := ⟨_, List.getElem?_eq_getElem (by omega)⟩
  obtain ⟨vp, vr, vc, rfl, hvp, hvr, hvc⟩ := hF f x cx hx hcx
  refine w_val rfl rfl (op_pure rfl) ?_
  refine w_nil ?_
  refine then_n ?_
  repeat refine wc_seq ?_
  refine wc_region ?_
  refine w_val rfl rfl (op_pure rfl) ?_
  refine w_val rfl rfl (op_pure rfl) ?_
  refine w_val rfl rfl (op_pure rfl) ?_
  refine w_split (i := 7) rfl (fun h7 => ?_) (fun h7 => ?_)
  · simp only [decide_eq_true_eq] at h7; omega
  clear h7
  refine w_val rfl rfl (op_pure rfl) ?_
  refine w_val rfl rfl (op_fld rfl rfl rfl rfl (by decide) (by assumption) (Nat.le_of_ble_eq_true rfl)) ?_
  refine w_val rfl rfl (op_load rfl rfl (Pt.fld (by assumption) _ (Nat.le_of_ble_eq_true rfl)) rfl) ?_
  refine w_val rfl rfl (op_len rfl rfl rfl rfl rfl (by assumption)) ?_
  refine w_val rfl rfl (op_pure rfl) ?_
  refine w_val rfl rfl (op_pure rfl) ?_
  refine w_nil ?_
  refine then_n ?_
  repeat refine wc_seq ?_
  refine wc_condT rfl (fun h13 => ?_) (fun h13 => ?_)
  · simp only [decide_eq_true_eq, ge_iff_le] at h13; omega
  clear h13
  refine wc_skip ?_
  refine then_n ?_
  repeat refine wc_seq ?_
  refine wc_draw (fun _ => True) (by kernel_rfl) rfl ?_
  refine wd_val (fun _ => trivial) rfl rfl (op_fld rfl rfl rfl rfl (by decide) (by assumption) (Nat.le_of_ble_eq_true rfl)) ?_
  refine wd_val (fun _ => trivial) rfl rfl (op_load rfl rfl (Pt.fld (by assumption) _ (Nat.le_of_ble_eq_true rfl)) rfl) ?_
  refine wd_val (fun _ => trivial) rfl rfl (op_pure rfl) ?_
  refine wd_val (fun _ => trivial) rfl rfl (op_idx rfl rfl (natA_cast _ _) rfl rfl rfl rfl (Row.bare (Row.keep0 (by assumption) hK)) (by omega)) ?_
  refine wd_val (fun _ => trivial) rfl rfl (op_fld rfl rfl rfl rfl (by decide) (Pt.bare (Pt.keep0 (Row.pt (by assumption) (by assumption)) hK)) (Nat.le_of_ble_eq_true rfl)) ?_
  refine wd_val (fun _ => trivial) rfl rfl (op_load rfl rfl (Pt.fld (Pt.bare (Pt.keep0 (Row.pt (by assumption) (by assumption)) hK)) _ (Nat.le_of_ble_eq_true rfl)) rfl) ?_
  refine wd_val (fun _ => trivial) rfl rfl (op_len rfl rfl rfl rfl rfl (Row.slenF (by assumption))) ?_
  refine wd_val (fun _ => trivial) rfl rfl (op_fld rfl rfl rfl rfl (by decide) (by assumption) (Nat.le_of_ble_eq_true rfl)) ?_
  refine wd_val (fun _ => trivial) rfl rfl (op_load rfl rfl (Pt.fld (by assumption) _ (Nat.le_of_ble_eq_true rfl)) rfl) ?_
  refine wd_val (fun _ => trivial) rfl rfl (op_pure rfl) ?_
  refine wd_val (fun _ => trivial) rfl rfl (op_idx rfl rfl (natA_cast _ _) rfl rfl rfl rfl (Row.bare (Row.keep0 (by assumption) hK)) (by omega)) ?_
  refine wd_val (fun _ => trivial) rfl rfl (op_fld rfl rfl rfl rfl (by decide) (Pt.bare (Pt.keep0 (Row.pt (by assumption) (by assumption)) hK)) (Nat.le_of_ble_eq_true rfl)) ?_
  refine wd_val (fun _ => trivial) rfl rfl (op_load rfl rfl (Pt.fld (Pt.bare (Pt.keep0 (Row.pt (by assumption) (by assumption)) hK)) _ (Nat.le_of_ble_eq_true rfl)) rfl) ?_
  refine wd_val (fun _ => trivial) rfl rfl (op_max rfl rfl rfl) ?_
  refine wd_val (fun _ => trivial) rfl rfl (op_min rfl rfl rfl) ?_
  refine wd_val (fun _ => trivial) rfl rfl (op_add (a := (x.params.length : Nat)) rfl rfl ?_) ?_
  · unfold In64
    (repeat' split) <;> omega
  refine wd_val (fun _ => trivial) rfl rfl (op_pure rfl) ?_
  refine wd_nil ?_
  refine then_n ?_
  refine wc_ret ?_
  repeat first | refine then_r ?_ | refine out_r ?_ | refine round_r ?_ | refine cut_r ?_ | refine sc_r ?_
  refine ⟨_, rfl, hK, congrArg (AV.int .i64) ?_⟩
  unfold localsE
  (repeat' split) <;> omega
set_option maxRecDepth 10000 in
set_option maxHeartbeats 4000000 in
theorem locals_ref_ok {s : St} {c : List AV} {mm : ModL} {x : FuncL} {f : Nat} (hok : s.Ok) (hm : mm.small) (hx : mm.funcs[f]? = some x) (hv : ModR s.h mm c) :
    CallS Try.prog Tt Kt 117 [.agg c, .int .i64 (f : Nat)] s (fun v s' => Keep [] s s' ∧ v = .int .i64 (localsE x)) := by
  have hz := hv.leaf.2
  have hv' := hv
  obtain ⟨vg, va, vh, vf, rfl, hvg, hva, hvh, csf, hrf, hlf, hF⟩ := hv'
  have hsx := hm.2.2.2.2 x (List.mem_of_getElem? hx)
  obtain ⟨hl1, hl3, hl2, hl4, -⟩ := (id hm)
  obtain ⟨hx1, hx2, hx3⟩ := hsx
  refine call_of (fn := Try.f117) (nt := 36) Try.func117 rfl rfl rfl ?_
  repeat refine wc_seq ?_
  refine wc_region ?_
  refine w_box rfl rfl rfl hz hok ?_
  intro s1 hp1 hk1 hc1
  have hK := (Keep.refl hok).two hk1
  have hpm1 : Pt s1.h (.ptr s.ctr 0 0) [vg, va, vh, vf] := hp1
  clear hp1
  have hpm := hpm1
  have hf : f < mm.funcs.length := (List.getElem?_eq_some_iff.1 hx).1
  have hsf : vf.slen = some mm.funcs.length := hrf.slen.trans (congrArg some hlf)
  obtain ⟨cx, hcx⟩ : ∃ c, csf[f]? = some c := ⟨_, List.getElem?_eq_getElem (by omega)⟩
  obtain ⟨vp, vr, vc, rfl, hvp, hvr, hvc⟩ := hF f x cx hx hcx
  refine w_val rfl rfl (op_pure rfl) ?_
  refine w_nil ?_
  refine then_n ?_
  repeat refine wc_seq ?_
  refine wc_region ?_
  refine w_val rfl rfl (op_pure rfl) ?_
  refine w_val rfl rfl (op_pure rfl) ?_
  refine w_val rfl rfl (op_pure rfl) ?_
  refine w_split (i := 9) rfl (fun h9 => ?_) (fun h9 => ?_)
  · simp only [decide_eq_true_eq] at h9; omega
  clear h9
  refine w_val rfl rfl (op_pure rfl) ?_
  refine w_val rfl rfl (op_fld rfl rfl rfl rfl (by decide) (by assumption) (Nat.le_of_ble_eq_true rfl)) ?_
  refine w_val rfl rfl (op_load rfl rfl (Pt.fld (by assumption) _ (Nat.le_of_ble_eq_true rfl)) rfl) ?_
  refine w_val rfl rfl (op_len rfl rfl rfl rfl rfl (by assumption)) ?_
  refine w_val rfl rfl (op_pure rfl) ?_
  refine w_val rfl rfl (op_pure rfl) ?_
  refine w_nil ?_
  refine then_n ?_
  repeat refine wc_seq ?_
  refine wc_condT rfl (fun h15 => ?_) (fun h15 => ?_)
  · simp only [decide_eq_true_eq, ge_iff_le] at h15; omega
  clear h15
  refine wc_skip ?_
  refine then_n ?_
  repeat refine wc_seq ?_
  refine wc_region ?_
  refine w_val rfl rfl (op_fld rfl rfl rfl rfl (by decide) (by assumption) (Nat.le_of_ble_eq_true rfl)) ?_
  refine w_val rfl rfl (op_load rfl rfl (Pt.fld (by assumption) _ (Nat.le_of_ble_eq_true rfl)) rfl) ?_
  refine w_val rfl rfl (op_pure rfl) ?_
  refine w_val rfl rfl (op_idx rfl rfl (natA_cast _ _) rfl rfl rfl rfl (Row.keep0 (by assumption) hK) (by omega)) ?_
  refine w_val rfl rfl (op_fld rfl rfl rfl rfl (by decide) (Pt.keep0 (Row.pt (by assumption) (by assumption)) hK) (Nat.le_of_ble_eq_true rfl)) ?_
  refine w_val rfl rfl (op_load rfl rfl (Pt.fld (Pt.keep0 (Row.pt (by assumption) (by assumption)) hK) _ (Nat.le_of_ble_eq_true rfl)) rfl) ?_
  refine w_val rfl rfl (op_len rfl rfl rfl rfl rfl (Row.slenF (by assumption))) ?_
  refine w_val rfl rfl (op_pure rfl) ?_
  refine w_nil ?_
  refine then_n ?_
  repeat refine wc_seq ?_
  refine wc_region ?_
  refine w_val rfl rfl (op_fld rfl rfl rfl rfl (by decide) (by assumption) (Nat.le_of_ble_eq_true rfl)) ?_
  refine w_val rfl rfl (op_load rfl rfl (Pt.fld (by assumption) _ (Nat.le_of_ble_eq_true rfl)) rfl) ?_
  refine w_val rfl rfl (op_pure rfl) ?_
  refine w_val rfl rfl (op_idx rfl rfl (natA_cast _ _) rfl rfl rfl rfl (Row.keep0 (by assumption) hK) (by omega)) ?_
  refine w_val rfl rfl (op_fld rfl rfl rfl rfl (by decide) (Pt.keep0 (Row.pt (by assumption) (by assumption)) hK) (Nat.le_of_ble_eq_true rfl)) ?_
  refine w_val rfl rfl (op_load rfl rfl (Pt.fld (Pt.keep0 (Row.pt (by assumption) (by assumption)) hK) _ (Nat.le_of_ble_eq_true rfl)) rfl) ?_
  refine w_val rfl rfl (op_pure rfl) ?_
  refine w_nil ?_
  refine then_n ?_
  repeat refine wc_seq ?_
  refine wc_region ?_
  refine w_val rfl rfl (op_pure rfl) ?_
  refine w_val rfl rfl (op_pure rfl) ?_
  refine w_nil ?_
  refine then_n ?_
  repeat refine wc_seq ?_
  refine wc_condT rfl (fun h30 => ?_) (fun h30 => ?_)
  · simp only [decide_eq_true_eq] at h30
    refine wc_region ?_
    refine w_val rfl rfl (op_pure rfl) ?_
    refine w_nil ?_
    refine then_n ?_
    repeat refine wc_seq ?_
    refine wc_region ?_
    refine w_val rfl rfl (op_pure rfl) ?_
    refine w_val rfl rfl (op_pure rfl) ?_
    refine w_nil ?_
    refine then_n ?_
    repeat refine wc_seq ?_
    refine wc_condT rfl (fun h32 => ?_) (fun h32 => ?_)
    · simp only [decide_eq_true_eq, gt_iff_lt] at h32
      refine wc_region ?_
      refine w_val rfl rfl (op_pure rfl) ?_
      refine w_nil ?_
      refine then_n ?_
      repeat refine wc_seq ?_
      refine wc_region ?_
      refine w_val rfl rfl (op_pure rfl) ?_
      refine w_val rfl rfl (op_pure rfl) ?_
      refine w_val rfl rfl (op_add rfl rfl (by unfold In64; omega)) ?_
      refine w_val rfl rfl (op_pure rfl) ?_
      refine w_nil ?_
      refine then_n ?_
      refine wc_ret ?_
      repeat first | refine then_r ?_ | refine out_r ?_ | refine round_r ?_ | refine cut_r ?_ | refine sc_r ?_
      refine ⟨_, rfl, hK, congrArg (AV.int .i64) ?_⟩
      unfold localsE
      (repeat' split) <;> omega
    simp only [decide_eq_false_iff_not, gt_iff_lt] at h32
    refine wc_skip ?_
    refine then_n ?_
    repeat refine wc_seq ?_
    refine wc_region ?_
    refine w_val rfl rfl (op_pure rfl) ?_
    refine w_val rfl rfl (op_pure rfl) ?_
    refine w_val rfl rfl (op_add rfl rfl (by unfold In64; omega)) ?_
    refine w_val rfl rfl (op_pure rfl) ?_
    refine w_nil ?_
    refine then_n ?_
    refine wc_ret ?_
    repeat first | refine then_r ?_ | refine out_r ?_ | refine round_r ?_ | refine cut_r ?_ | refine sc_r ?_
    refine ⟨_, rfl, hK, congrArg (AV.int .i64) ?_⟩
    unfold localsE
    (repeat' split) <;> omega
  simp only [decide_eq_false_iff_not] at h30
  refine wc_skip ?_
  refine then_n ?_
  repeat refine wc_seq ?_
  refine wc_region ?_
  refine w_val rfl rfl (op_pure rfl) ?_
  refine w_val rfl rfl (op_pure rfl) ?_
  refine w_nil ?_
  refine then_n ?_
  repeat refine wc_seq ?_
  refine wc_condT rfl (fun h32 => ?_) (fun h32 => ?_)
  · simp only [decide_eq_true_eq, gt_iff_lt] at h32
    refine wc_region ?_
    refine w_val rfl rfl (op_pure rfl) ?_
    refine w_nil ?_
    refine then_n ?_
    repeat refine wc_seq ?_
    refine wc_region ?_
    refine w_val rfl rfl (op_pure rfl) ?_
    refine w_val rfl rfl (op_pure rfl) ?_
    refine w_val rfl rfl (op_add rfl rfl (by unfold In64; omega)) ?_
    refine w_val rfl rfl (op_pure rfl) ?_
    refine w_nil ?_
    refine then_n ?_
    refine wc_ret ?_
    repeat first | refine then_r ?_ | refine out_r ?_ | refine round_r ?_ | refine cut_r ?_ | refine sc_r ?_
    refine ⟨_, rfl, hK, congrArg (AV.int .i64) ?_⟩
    unfold localsE
    (repeat' split) <;> omega
  simp only [decide_eq_false_iff_not, gt_iff_lt] at h32
  refine wc_skip ?_
  refine then_n ?_
  repeat refine wc_seq ?_
  refine wc_region ?_
  refine w_val rfl rfl (op_pure rfl) ?_
  refine w_val rfl rfl (op_pure rfl) ?_
  refine w_val rfl rfl (op_add rfl rfl (by unfold In64; omega)) ?_
  refine w_val rfl rfl (op_pure rfl) ?_
  refine w_nil ?_
  refine then_n ?_
  refine wc_ret ?_
  repeat first | refine then_r ?_ | refine out_r ?_ | refine round_r ?_ | refine cut_r ?_ | refine sc_r ?_
  refine ⟨_, rfl, hK, congrArg (AV.int .i64) ?_⟩
  unfold localsE
  (repeat' split) <;> omega
set_option maxRecDepth 10000 in
set_option maxHeartbeats 4000000 in
theorem instr_ok {s : St} {c : List AV} {mm : ModL} {x : FuncL} {f : Nat} {y : InstrL} (hok : s.Ok) (hm : mm.small) (hx : mm.funcs[f]? = some x) (hv : ModR s.h mm c) :
    CallS Try.prog Tt Kt 108 [.agg c, .int .i64 (f : Nat), .agg (inC y)] s (fun v s' => Keep [] s s' ∧ v = .int .i64 (instrE mm x y)) := by
  have hz := hv.leaf.2
  have hv' := hv
  obtain ⟨vg, va, vh, vf, rfl, hvg, hva, hvh, csf, hrf, hlf, hF⟩ := hv'
  have hsx := hm.2.2.2.2 x (List.mem_of_getElem? hx)
  obtain ⟨hl1, hl3, hl2, hl4, -⟩ := (id hm)
  obtain ⟨hx1, hx2, hx3⟩ := hsx
  refine call_of (fn := Try.f108) (nt := 86) Try.func108 rfl rfl rfl ?_
  repeat refine wc_seq ?_
  refine wc_region ?_
  refine w_box rfl rfl rfl hz hok ?_
  intro s1 hp1 hk1 hc1
  have hK := (Keep.refl hok).two hk1
  have hpm1 : Pt s1.h (.ptr s.ctr 0 0) [vg, va, vh, vf] := hp1
  clear hp1
  refine w_box rfl rfl rfl rfl hK.ok ?_
  intro s2 hp2 hk2 hc2
  have hK := hK.two hk2
  have hpm2 : Pt s2.h (.ptr s1.ctr 0 0) [.int .i64 y.op, .int .i64 y.a] := hp2
  clear hp2
  have hpm1 := hpm1.keep0 hk2
  have hf : f < mm.funcs.length := (List.getElem?_eq_some_iff.1 hx).1
  have hsf : vf.slen = some mm.funcs.length := hrf.slen.trans (congrArg some hlf)
  obtain ⟨cx, hcx⟩ : ∃ c, csf[f]? = some c := ⟨_, List.getElem?_eq_getElem (by omega)⟩
  obtain ⟨vp, vr, vc, rfl, hvp, hvr, hvc⟩ := hF f x cx hx hcx
  refine w_val rfl rfl (op_pure rfl) ?_
  refine w_nil ?_
  refine then_n ?_
  repeat refine wc_seq ?_
  refine wc_region ?_
  refine w_val rfl rfl (op_pure rfl) ?_
  refine w_val rfl rfl (op_pure rfl) ?_
  refine w_val rfl rfl (op_pure rfl) ?_
  refine w_split (i := 10) rfl (fun h10 => ?_) (fun h10 => ?_)
  · simp only [decide_eq_true_eq] at h10; omega
  clear h10
  refine w_val rfl rfl (op_pure rfl) ?_
  refine w_val rfl rfl (op_fld rfl rfl rfl rfl (by decide) (by assumption) (Nat.le_of_ble_eq_true rfl)) ?_
  refine w_val rfl rfl (op_load rfl rfl (Pt.fld (by assumption) _ (Nat.le_of_ble_eq_true rfl)) rfl) ?_
  refine w_val rfl rfl (op_len rfl rfl rfl rfl rfl (by assumption)) ?_
  refine w_val rfl rfl (op_pure rfl) ?_
  refine w_val rfl rfl (op_pure rfl) ?_
  refine w_nil ?_
  refine then_n ?_
  repeat refine wc_seq ?_
  refine wc_condT rfl (fun h16 => ?_) (fun h16 => ?_)
  · simp only [decide_eq_true_eq, ge_iff_le] at h16; omega
  clear h16
  refine wc_skip ?_
  refine then_n ?_
  repeat refine wc_seq ?_
  refine wc_region ?_
  refine w_val rfl rfl (op_pure rfl) ?_
  refine w_nil ?_
  refine then_n ?_
  repeat refine wc_seq ?_
  refine wc_region ?_
  refine w_val rfl rfl (op_fld rfl rfl rfl rfl (by decide) (by assumption) (Nat.le_of_ble_eq_true rfl)) ?_
  refine w_val rfl rfl (op_load rfl rfl (by assumption) rfl) ?_
  refine w_nil ?_
  refine then_n ?_
  repeat refine wc_seq ?_
  refine wc_cut (fun m' s' => ∃ n : Int, Sub [(5, .ptr s1.ctr 0 0), (7, .int .i64 n)] m' ∧ Keep [] s s' ∧ Pt s'.h (.ptr s1.ctr 0 0) [.int .i64 y.op, .int .i64 y.a] ∧ instrE mm x y = rngE y.a n) ?_ ?_
  · refine wc_block ?_
    repeat refine wc_seq ?_
    refine wc_block ?_
    repeat refine wc_seq ?_
    refine wc_block ?_
    repeat refine wc_seq ?_
    refine wc_block ?_
    repeat refine wc_seq ?_
    refine wc_block ?_
    repeat refine wc_seq ?_
    refine wc_block ?_
    refine wc_block ?_
    repeat refine wc_seq ?_
    refine wc_block ?_
    refine wc_block ?_
    repeat refine wc_seq ?_
    refine wc_block ?_
    refine wc_block ?_
    repeat refine wc_seq ?_
    refine wc_block ?_
    refine wc_block ?_
    repeat refine wc_seq ?_
    refine wc_block ?_
    repeat refine wc_seq ?_
    refine wc_region ?_
    refine w_val rfl rfl (op_pure rfl) ?_
    refine w_val rfl rfl (op_pure rfl) ?_
    refine w_nil ?_
    refine then_n ?_
    repeat refine wc_seq ?_
    refine wc_condT rfl (fun h19 => ?_) (fun h19 => ?_)
    · simp only [beq_iff_eq] at h19
      refine wc_exit ?_
      repeat first | refine then_x ?_ | refine round_x ?_ | refine cut_x ?_ | refine out_x' (by decide) ?_
      refine out_x ?_
      refine then_n ?_
      repeat refine wc_seq ?_
      refine wc_region ?_
      refine w_val rfl rfl (op_pure rfl) ?_
      refine w_nil ?_
      refine then_n ?_
      repeat refine wc_seq ?_
      refine wc_ret ?_
      repeat first | refine then_r ?_ | refine out_r ?_ | refine round_r ?_ | refine cut_r ?_ | refine sc_r ?_
      refine ⟨_, rfl, hK, congrArg (AV.int .i64) ?_⟩
      exact (ins_any h19).symm
    simp only [beq_eq_false_iff_ne, ne_eq] at h19
    refine wc_skip ?_
    refine then_n ?_
    repeat refine wc_seq ?_
    refine wc_region ?_
    refine w_val rfl rfl (op_pure rfl) ?_
    refine w_val rfl rfl (op_pure rfl) ?_
    refine w_nil ?_
    refine then_n ?_
    repeat refine wc_seq ?_
    refine wc_condT rfl (fun h21 => ?_) (fun h21 => ?_)
    · simp only [beq_iff_eq] at h21
      refine wc_exit ?_
      repeat first | refine then_x ?_ | refine round_x ?_ | refine cut_x ?_ | refine out_x' (by decide) ?_
      refine out_x ?_
      refine out_n ?_
      refine then_n ?_
      repeat refine wc_seq ?_
      refine wc_region ?_
      refine w_val rfl rfl (op_load rfl rfl (by assumption) rfl) ?_
      refine w_val rfl rfl (op_pure rfl) ?_
      refine w_call rfl rfl (op_call rfl rfl rfl rfl) (locals_ok hK.ok hm hx (by exact hv.keep0 hK)) ?_
      rintro _ s3 ⟨hk3, rfl⟩
      have hK := hK.two hk3
      have hpm1 := hpm1.keep0 hk3
      have hpm2 := hpm2.keep0 hk3
      refine w_val rfl rfl (op_pure rfl) ?_
      refine w_nil ?_
      refine then_n ?_
      refine wc_exit ?_
      repeat first | refine then_x ?_ | refine round_x ?_ | refine cut_x ?_ | refine out_x' (by decide) ?_
      refine out_x ?_
      refine cut_n ?_
      exact ⟨_, Sub.cons rfl (Sub.cons rfl (Sub.nil _)), hK, hpm2, ins_loc (.inl h21)⟩
    simp only [beq_eq_false_iff_ne, ne_eq] at h21
    refine wc_skip ?_
    refine then_n ?_
    repeat refine wc_seq ?_
    refine wc_region ?_
    refine w_val rfl rfl (op_pure rfl) ?_
    refine w_val rfl rfl (op_pure rfl) ?_
    refine w_nil ?_
    refine then_n ?_
    repeat refine wc_seq ?_
    refine wc_condT rfl (fun h23 => ?_) (fun h23 => ?_)
    · simp only [beq_iff_eq] at h23
      refine wc_exit ?_
      repeat first | refine then_x ?_ | refine round_x ?_ | refine cut_x ?_ | refine out_x' (by decide) ?_
      refine out_x ?_
      refine then_n ?_
      repeat refine wc_seq ?_
      refine wc_region ?_
      refine w_val rfl rfl (op_load rfl rfl (by assumption) rfl) ?_
      refine w_val rfl rfl (op_pure rfl) ?_
      refine w_call rfl rfl (op_call rfl rfl rfl rfl) (locals_ok hK.ok hm hx (by exact hv.keep0 hK)) ?_
      rintro _ s3 ⟨hk3, rfl⟩
      have hK := hK.two hk3
      have hpm1 := hpm1.keep0 hk3
      have hpm2 := hpm2.keep0 hk3
      refine w_val rfl rfl (op_pure rfl) ?_
      refine w_nil ?_
      refine then_n ?_
      refine wc_exit ?_
      repeat first | refine then_x ?_ | refine round_x ?_ | refine cut_x ?_ | refine out_x' (by decide) ?_
      refine out_x ?_
      refine cut_n ?_
      exact ⟨_, Sub.cons rfl (Sub.cons rfl (Sub.nil _)), hK, hpm2, ins_loc (.inr h23)⟩
    simp only [beq_eq_false_iff_ne, ne_eq] at h23
    refine wc_skip ?_
    refine then_n ?_
    repeat refine wc_seq ?_
    refine wc_region ?_
    refine w_val rfl rfl (op_pure rfl) ?_
    refine w_val rfl rfl (op_pure rfl) ?_
    refine w_nil ?_
    refine then_n ?_
    repeat refine wc_seq ?_
    refine wc_condT rfl (fun h25 => ?_) (fun h25 => ?_)
    · simp only [beq_iff_eq] at h25
      refine wc_exit ?_
      repeat first | refine then_x ?_ | refine round_x ?_ | refine cut_x ?_ | refine out_x' (by decide) ?_
      refine out_x ?_
      refine out_n ?_
      refine then_n ?_
      repeat refine wc_seq ?_
      refine wc_region ?_
      refine w_val rfl rfl (op_fld rfl rfl rfl rfl (by decide) (by assumption) (Nat.le_of_ble_eq_true rfl)) ?_
      refine w_val rfl rfl (op_load rfl rfl (by assumption) rfl) ?_
      refine w_val rfl rfl (op_len rfl rfl rfl rfl rfl (Row.slenF (by assumption))) ?_
      refine w_val rfl rfl (op_pure rfl) ?_
      refine w_nil ?_
      refine then_n ?_
      refine wc_exit ?_
      repeat first | refine then_x ?_ | refine round_x ?_ | refine cut_x ?_ | refine out_x' (by decide) ?_
      refine out_x ?_
      refine cut_n ?_
      exact ⟨_, Sub.cons rfl (Sub.cons rfl (Sub.nil _)), hK, hpm2, ins_glo (.inl h25)⟩
    simp only [beq_eq_false_iff_ne, ne_eq] at h25
    refine wc_skip ?_
    refine then_n ?_
    repeat refine wc_seq ?_
    refine wc_region ?_
    refine w_val rfl rfl (op_pure rfl) ?_
    refine w_val rfl rfl (op_pure rfl) ?_
    refine w_nil ?_
    refine then_n ?_
    repeat refine wc_seq ?_
    refine wc_condT rfl (fun h27 => ?_) (fun h27 => ?_)
    · simp only [beq_iff_eq] at h27
      refine wc_exit ?_
      repeat first | refine then_x ?_ | refine round_x ?_ | refine cut_x ?_ | refine out_x' (by decide) ?_
      refine out_x ?_
      refine then_n ?_
      repeat refine wc_seq ?_
      refine wc_region ?_
      refine w_val rfl rfl (op_fld rfl rfl rfl rfl (by decide) (by assumption) (Nat.le_of_ble_eq_true rfl)) ?_
      refine w_val rfl rfl (op_load rfl rfl (by assumption) rfl) ?_
      refine w_val rfl rfl (op_len rfl rfl rfl rfl rfl (Row.slenF (by assumption))) ?_
      refine w_val rfl rfl (op_pure rfl) ?_
      refine w_nil ?_
      refine then_n ?_
      refine wc_exit ?_
      repeat first | refine then_x ?_ | refine round_x ?_ | refine cut_x ?_ | refine out_x' (by decide) ?_
      refine out_x ?_
      refine cut_n ?_
      exact ⟨_, Sub.cons rfl (Sub.cons rfl (Sub.nil _)), hK, hpm2, ins_glo (.inr h27)⟩
    simp only [beq_eq_false_iff_ne, ne_eq] at h27
    refine wc_skip ?_
    refine then_n ?_
    repeat refine wc_seq ?_
    refine wc_region ?_
    refine w_val rfl rfl (op_pure rfl) ?_
    refine w_val rfl rfl (op_pure rfl) ?_
    refine w_nil ?_
    refine then_n ?_
    repeat refine wc_seq ?_
    refine wc_condT rfl (fun h29 => ?_) (fun h29 => ?_)
    · simp only [beq_iff_eq] at h29
      refine wc_exit ?_
      repeat first | refine then_x ?_ | refine round_x ?_ | refine cut_x ?_ | refine out_x' (by decide) ?_
      refine out_x ?_
      refine out_n ?_
      refine then_n ?_
      repeat refine wc_seq ?_
      refine wc_region ?_
      refine w_val rfl rfl (op_fld rfl rfl rfl rfl (by decide) (by assumption) (Nat.le_of_ble_eq_true rfl)) ?_
      refine w_val rfl rfl (op_load rfl rfl (Pt.fld (by assumption) _ (Nat.le_of_ble_eq_true rfl)) rfl) ?_
      refine w_val rfl rfl (op_len rfl rfl rfl rfl rfl (Row.slenF (by assumption))) ?_
      refine w_val rfl rfl (op_pure rfl) ?_
      refine w_nil ?_
      refine then_n ?_
      refine wc_exit ?_
      repeat first | refine then_x ?_ | refine round_x ?_ | refine cut_x ?_ | refine out_x' (by decide) ?_
      refine out_x ?_
      refine cut_n ?_
      exact ⟨_, Sub.cons rfl (Sub.cons rfl (Sub.nil _)), hK, hpm2, ins_arr (.inl h29)⟩
    simp only [beq_eq_false_iff_ne, ne_eq] at h29
    refine wc_skip ?_
    refine then_n ?_
    repeat refine wc_seq ?_
    refine wc_region ?_
    refine w_val rfl rfl (op_pure rfl) ?_
    refine w_val rfl rfl (op_pure rfl) ?_
    refine w_nil ?_
    refine then_n ?_
    repeat refine wc_seq ?_
    refine wc_condT rfl (fun h31 => ?_) (fun h31 => ?_)
    · simp only [beq_iff_eq] at h31
      refine wc_exit ?_
      repeat first | refine then_x ?_ | refine round_x ?_ | refine cut_x ?_ | refine out_x' (by decide) ?_
      refine out_x ?_
      refine then_n ?_
      repeat refine wc_seq ?_
      refine wc_region ?_
      refine w_val rfl rfl (op_fld rfl rfl rfl rfl (by decide) (by assumption) (Nat.le_of_ble_eq_true rfl)) ?_
      refine w_val rfl rfl (op_load rfl rfl (Pt.fld (by assumption) _ (Nat.le_of_ble_eq_true rfl)) rfl) ?_
      refine w_val rfl rfl (op_len rfl rfl rfl rfl rfl (Row.slenF (by assumption))) ?_
      refine w_val rfl rfl (op_pure rfl) ?_
      refine w_nil ?_
      refine then_n ?_
      refine wc_exit ?_
      repeat first | refine then_x ?_ | refine round_x ?_ | refine cut_x ?_ | refine out_x' (by decide) ?_
      refine out_x ?_
      refine cut_n ?_
      exact ⟨_, Sub.cons rfl (Sub.cons rfl (Sub.nil _)), hK, hpm2, ins_arr (.inr h31)⟩
    simp only [beq_eq_false_iff_ne, ne_eq] at h31
    refine wc_skip ?_
    refine then_n ?_
    repeat refine wc_seq ?_
    refine wc_region ?_
    refine w_val rfl rfl (op_pure rfl) ?_
    refine w_val rfl rfl (op_pure rfl) ?_
    refine w_nil ?_
    refine then_n ?_
    repeat refine wc_seq ?_
    refine wc_condT rfl (fun h33 => ?_) (fun h33 => ?_)
    · simp only [beq_iff_eq] at h33
      refine wc_exit ?_
      repeat first | refine then_x ?_ | refine round_x ?_ | refine cut_x ?_ | refine out_x' (by decide) ?_
      refine out_x ?_
      refine out_n ?_
      refine then_n ?_
      repeat refine wc_seq ?_
      refine wc_region ?_
      refine w_val rfl rfl (op_fld rfl rfl rfl rfl (by decide) (by assumption) (Nat.le_of_ble_eq_true rfl)) ?_
      refine w_val rfl rfl (op_load rfl rfl (Pt.fld (by assumption) _ (Nat.le_of_ble_eq_true rfl)) rfl) ?_
      refine w_val rfl rfl (op_pure rfl) ?_
      refine w_val rfl rfl (op_idx rfl rfl (natA_cast _ _) rfl rfl rfl rfl (Row.keep0 (by assumption) hK) (by omega)) ?_
      refine w_val rfl rfl (op_fld rfl rfl rfl rfl (by decide) (Pt.keep0 (Row.pt (by assumption) (by assumption)) hK) (Nat.le_of_ble_eq_true rfl)) ?_
      refine w_val rfl rfl (op_load rfl rfl (Pt.fld (Pt.keep0 (Row.pt (by assumption) (by assumption)) hK) _ (Nat.le_of_ble_eq_true rfl)) rfl) ?_
      refine w_val rfl rfl (op_len rfl rfl rfl rfl rfl (Row.slenF (by assumption))) ?_
      refine w_val rfl rfl (op_pure rfl) ?_
      refine w_nil ?_
      refine then_n ?_
      refine wc_exit ?_
      repeat first | refine then_x ?_ | refine round_x ?_ | refine cut_x ?_ | refine out_x' (by decide) ?_
      refine out_x ?_
      refine cut_n ?_
      exact ⟨_, Sub.cons rfl (Sub.cons rfl (Sub.nil _)), hK, hpm2, ins_jmp (.inl h33)⟩
    simp only [beq_eq_false_iff_ne, ne_eq] at h33
    refine wc_skip ?_
    refine then_n ?_
    repeat refine wc_seq ?_
    refine wc_region ?_
    refine w_val rfl rfl (op_pure rfl) ?_
    refine w_val rfl rfl (op_pure rfl) ?_
    refine w_nil ?_
    refine then_n ?_
    repeat refine wc_seq ?_
    refine wc_condT rfl (fun h35 => ?_) (fun h35 => ?_)
    · simp only [beq_iff_eq] at h35
      refine wc_exit ?_
      repeat first | refine then_x ?_ | refine round_x ?_ | refine cut_x ?_ | refine out_x' (by decide) ?_
      refine out_x ?_
      refine then_n ?_
      repeat refine wc_seq ?_
      refine wc_region ?_
      refine w_val rfl rfl (op_fld rfl rfl rfl rfl (by decide) (by assumption) (Nat.le_of_ble_eq_true rfl)) ?_
      refine w_val rfl rfl (op_load rfl rfl (Pt.fld (by assumption) _ (Nat.le_of_ble_eq_true rfl)) rfl) ?_
      refine w_val rfl rfl (op_pure rfl) ?_
      refine w_val rfl rfl (op_idx rfl rfl (natA_cast _ _) rfl rfl rfl rfl (Row.keep0 (by assumption) hK) (by omega)) ?_
      refine w_val rfl rfl (op_fld rfl rfl rfl rfl (by decide) (Pt.keep0 (Row.pt (by assumption) (by assumption)) hK) (Nat.le_of_ble_eq_true rfl)) ?_
      refine w_val rfl rfl (op_load rfl rfl (Pt.fld (Pt.keep0 (Row.pt (by assumption) (by assumption)) hK) _ (Nat.le_of_ble_eq_true rfl)) rfl) ?_
      refine w_val rfl rfl (op_len rfl rfl rfl rfl rfl (Row.slenF (by assumption))) ?_
      refine w_val rfl rfl (op_pure rfl) ?_
      refine w_nil ?_
      refine then_n ?_
      refine wc_exit ?_
      repeat first | refine then_x ?_ | refine round_x ?_ | refine cut_x ?_ | refine out_x' (by decide) ?_
      refine out_x ?_
      refine cut_n ?_
      exact ⟨_, Sub.cons rfl (Sub.cons rfl (Sub.nil _)), hK, hpm2, ins_jmp (.inr h35)⟩
    simp only [beq_eq_false_iff_ne, ne_eq] at h35
    refine wc_skip ?_
    refine then_n ?_
    repeat refine wc_seq ?_
    refine wc_region ?_
    refine w_val rfl rfl (op_pure rfl) ?_
    refine w_val rfl rfl (op_pure rfl) ?_
    refine w_nil ?_
    refine then_n ?_
    repeat refine wc_seq ?_
    refine wc_condT rfl (fun h37 => ?_) (fun h37 => ?_)
    · simp only [beq_iff_eq] at h37
      refine wc_exit ?_
      repeat first | refine then_x ?_ | refine round_x ?_ | refine cut_x ?_ | refine out_x' (by decide) ?_
      refine out_x ?_
      refine then_n ?_
      repeat refine wc_seq ?_
      refine wc_region ?_
      refine w_val rfl rfl (op_fld rfl rfl rfl rfl (by decide) (by assumption) (Nat.le_of_ble_eq_true rfl)) ?_
      refine w_val rfl rfl (op_load rfl rfl (Pt.fld (by assumption) _ (Nat.le_of_ble_eq_true rfl)) rfl) ?_
      refine w_val rfl rfl (op_len rfl rfl rfl rfl rfl (by assumption)) ?_
      refine w_val rfl rfl (op_pure rfl) ?_
      refine w_nil ?_
      refine then_n ?_
      refine wc_exit ?_
      repeat first | refine then_x ?_ | refine round_x ?_ | refine cut_x ?_ | refine out_x' (by decide) ?_
      refine out_x ?_
      refine cut_n ?_
      exact ⟨_, Sub.cons rfl (Sub.cons rfl (Sub.nil _)), hK, hpm2, ins_cal h37⟩
    simp only [beq_eq_false_iff_ne, ne_eq] at h37
    refine wc_skip ?_
    refine then_n ?_
    repeat refine wc_seq ?_
    refine wc_region ?_
    refine w_val rfl rfl (op_pure rfl) ?_
    refine w_val rfl rfl (op_pure rfl) ?_
    refine w_nil ?_
    refine then_n ?_
    repeat refine wc_seq ?_
    refine wc_condT rfl (fun h39 => ?_) (fun h39 => ?_)
    · simp only [beq_iff_eq] at h39
      refine wc_exit ?_
      repeat first | refine then_x ?_ | refine round_x ?_ | refine cut_x ?_ | refine out_x' (by decide) ?_
      refine out_x ?_
      refine then_n ?_
      repeat refine wc_seq ?_
      refine wc_region ?_
      refine w_val rfl rfl (op_fld rfl rfl rfl rfl (by decide) (by assumption) (Nat.le_of_ble_eq_true rfl)) ?_
      refine w_val rfl rfl (op_load rfl rfl (Pt.fld (by assumption) _ (Nat.le_of_ble_eq_true rfl)) rfl) ?_
      refine w_val rfl rfl (op_len rfl rfl rfl rfl rfl (Row.slenF (by assumption))) ?_
      refine w_val rfl rfl (op_pure rfl) ?_
      refine w_nil ?_
      refine then_n ?_
      refine wc_exit ?_
      repeat first | refine then_x ?_ | refine round_x ?_ | refine cut_x ?_ | refine out_x' (by decide) ?_
      refine out_x ?_
      refine cut_n ?_
      exact ⟨_, Sub.cons rfl (Sub.cons rfl (Sub.nil _)), hK, hpm2, ins_snd h39⟩
    simp only [beq_eq_false_iff_ne, ne_eq] at h39
    refine wc_skip ?_
    refine then_n ?_
    repeat refine wc_seq ?_
    refine wc_region ?_
    refine w_val rfl rfl (op_pure rfl) ?_
    refine w_val rfl rfl (op_pure rfl) ?_
    refine w_nil ?_
    refine then_n ?_
    repeat refine wc_seq ?_
    refine wc_condT rfl (fun h41 => ?_) (fun h41 => ?_)
    · simp only [beq_iff_eq] at h41
      refine wc_skip ?_
      refine then_n ?_
      repeat refine wc_seq ?_
      refine wc_cond_t rfl ?_
      refine wc_exit ?_
      repeat first | refine then_x ?_ | refine round_x ?_ | refine cut_x ?_ | refine out_x' (by decide) ?_
      refine out_x ?_
      refine then_n ?_
      refine wc_exit ?_
      repeat first | refine then_x ?_ | refine round_x ?_ | refine cut_x ?_ | refine out_x' (by decide) ?_
      refine out_x ?_
      refine cut_n ?_
      exact ⟨_, Sub.cons rfl (Sub.cons rfl (Sub.nil _)), hK, hpm2, ins_one (.inl h41)⟩
    simp only [beq_eq_false_iff_ne, ne_eq] at h41
    repeat refine wc_seq ?_
    refine wc_region ?_
    refine w_val rfl rfl (op_pure rfl) ?_
    refine w_val rfl rfl (op_pure rfl) ?_
    refine w_nil ?_
    refine then_n ?_
    refine wc_condT rfl (fun h41 => ?_) (fun h41 => ?_)
    · simp only [beq_iff_eq] at h41
      refine wc_skip ?_
      refine then_n ?_
      repeat refine wc_seq ?_
      refine wc_cond_t rfl ?_
      refine wc_exit ?_
      repeat first | refine then_x ?_ | refine round_x ?_ | refine cut_x ?_ | refine out_x' (by decide) ?_
      refine out_x ?_
      refine then_n ?_
      refine wc_exit ?_
      repeat first | refine then_x ?_ | refine round_x ?_ | refine cut_x ?_ | refine out_x' (by decide) ?_
      refine out_x ?_
      refine cut_n ?_
      exact ⟨_, Sub.cons rfl (Sub.cons rfl (Sub.nil _)), hK, hpm2, ins_one (.inr (.inl h41))⟩
    simp only [beq_eq_false_iff_ne, ne_eq] at h41
    repeat refine wc_seq ?_
    refine wc_region ?_
    refine w_val rfl rfl (op_pure rfl) ?_
    refine w_val rfl rfl (op_pure rfl) ?_
    refine w_nil ?_
    refine then_n ?_
    refine wc_condT rfl (fun h41 => ?_) (fun h41 => ?_)
    · simp only [beq_iff_eq] at h41
      refine wc_skip ?_
      refine then_n ?_
      repeat refine wc_seq ?_
      refine wc_cond_t rfl ?_
      refine wc_exit ?_
      repeat first | refine then_x ?_ | refine round_x ?_ | refine cut_x ?_ | refine out_x' (by decide) ?_
      refine out_x ?_
      refine then_n ?_
      refine wc_exit ?_
      repeat first | refine then_x ?_ | refine round_x ?_ | refine cut_x ?_ | refine out_x' (by decide) ?_
      refine out_x ?_
      refine cut_n ?_
      exact ⟨_, Sub.cons rfl (Sub.cons rfl (Sub.nil _)), hK, hpm2, ins_one (.inr (.inr (.inl h41)))⟩
    simp only [beq_eq_false_iff_ne, ne_eq] at h41
    repeat refine wc_seq ?_
    refine wc_region ?_
    refine w_val rfl rfl (op_pure rfl) ?_
    refine w_val rfl rfl (op_pure rfl) ?_
    refine w_nil ?_
    refine then_n ?_
    refine wc_condT rfl (fun h41 => ?_) (fun h41 => ?_)
    · simp only [beq_iff_eq] at h41
      refine wc_skip ?_
      refine then_n ?_
      repeat refine wc_seq ?_
      refine wc_cond_t rfl ?_
      refine wc_exit ?_
      repeat first | refine then_x ?_ | refine round_x ?_ | refine cut_x ?_ | refine out_x' (by decide) ?_
      refine out_x ?_
      refine then_n ?_
      refine wc_exit ?_
      repeat first | refine then_x ?_ | refine round_x ?_ | refine cut_x ?_ | refine out_x' (by decide) ?_
      refine out_x ?_
      refine cut_n ?_
      exact ⟨_, Sub.cons rfl (Sub.cons rfl (Sub.nil _)), hK, hpm2, ins_one (.inr (.inr (.inr (.inl h41))))⟩
    simp only [beq_eq_false_iff_ne, ne_eq] at h41
    refine wc_region ?_
    refine w_val rfl rfl (op_pure rfl) ?_
    refine w_val rfl rfl (op_pure rfl) ?_
    refine w_nil ?_
    refine then_n ?_
    repeat refine wc_seq ?_
    refine wc_condT rfl (fun h41 => ?_) (fun h41 => ?_)
    · simp only [beq_iff_eq] at h41
      refine wc_exit ?_
      repeat first | refine then_x ?_ | refine round_x ?_ | refine cut_x ?_ | refine out_x' (by decide) ?_
      refine out_x ?_
      refine then_n ?_
      refine wc_exit ?_
      repeat first | refine then_x ?_ | refine round_x ?_ | refine cut_x ?_ | refine out_x' (by decide) ?_
      refine out_x ?_
      refine cut_n ?_
      exact ⟨_, Sub.cons rfl (Sub.cons rfl (Sub.nil _)), hK, hpm2, ins_one (.inr (.inr (.inr (.inr (.inl h41)))))⟩
    simp only [beq_eq_false_iff_ne, ne_eq] at h41
    refine wc_skip ?_
    refine then_n ?_
    refine wc_exit ?_
    repeat first | refine then_x ?_ | refine round_x ?_ | refine cut_x ?_ | refine out_x' (by decide) ?_
    refine out_x ?_
    refine then_n ?_
    repeat refine wc_seq ?_
    refine wc_region ?_
    refine w_val rfl rfl (op_fld rfl rfl rfl rfl (by decide) (by assumption) (Nat.le_of_ble_eq_true rfl)) ?_
    refine w_val rfl rfl (op_load rfl rfl (by assumption) rfl) ?_
    refine w_val rfl rfl (op_pure rfl) ?_
    refine w_val rfl rfl (op_pure rfl) ?_
    refine w_split (i := 72) rfl (fun h72 => ?_) (fun h72 => ?_)
    · simp only [decide_eq_true_eq] at h72
      refine w_off rfl rfl ?_
      refine w_off rfl rfl ?_
      refine w_off rfl rfl ?_
      refine w_val rfl rfl (op_pure rfl) ?_
      refine w_nil ?_
      refine then_n ?_
      repeat refine wc_seq ?_
      refine wc_cond_t rfl ?_
      repeat refine wc_seq ?_
      refine wc_region ?_
      refine w_val rfl rfl (op_pure rfl) ?_
      refine w_nil ?_
      refine then_n ?_
      refine wc_ret ?_
      repeat first | refine then_r ?_ | refine out_r ?_ | refine round_r ?_ | refine cut_r ?_ | refine sc_r ?_
      refine ⟨_, rfl, hK, congrArg (AV.int .i64) ?_⟩
      exact (ins_bad (by assumption) (by assumption) (by assumption) (by assumption) (by assumption) (by assumption) (by assumption) (by assumption) (by assumption) (by assumption) (by assumption) (by assumption) (by assumption) (by assumption) (by assumption) (by assumption) (.inl h72)).symm
    simp only [decide_eq_false_iff_not] at h72
    refine w_val rfl rfl (op_fld rfl rfl rfl rfl (by decide) (by assumption) (Nat.le_of_ble_eq_true rfl)) ?_
    refine w_val rfl rfl (op_load rfl rfl (by assumption) rfl) ?_
    refine w_val rfl rfl (op_pure rfl) ?_
    refine w_val rfl rfl (op_pure rfl) ?_
    refine w_nil ?_
    refine then_n ?_
    repeat refine wc_seq ?_
    refine wc_condT rfl (fun h76 => ?_) (fun h76 => ?_)
    · simp only [decide_eq_true_eq, gt_iff_lt] at h76
      repeat refine wc_seq ?_
      refine wc_region ?_
      refine w_val rfl rfl (op_pure rfl) ?_
      refine w_nil ?_
      refine then_n ?_
      refine wc_ret ?_
      repeat first | refine then_r ?_ | refine out_r ?_ | refine round_r ?_ | refine cut_r ?_ | refine sc_r ?_
      refine ⟨_, rfl, hK, congrArg (AV.int .i64) ?_⟩
      exact (ins_bad (by assumption) (by assumption) (by assumption) (by assumption) (by assumption) (by assumption) (by assumption) (by assumption) (by assumption) (by assumption) (by assumption) (by assumption) (by assumption) (by assumption) (by assumption) (by assumption) (.inr h76)).symm
    simp only [decide_eq_false_iff_not, gt_iff_lt] at h76
    refine wc_skip ?_
    refine then_n ?_
    refine wc_exit ?_
    repeat first | refine then_x ?_ | refine round_x ?_ | refine cut_x ?_ | refine out_x' (by decide) ?_
    refine out_x ?_
    refine cut_n ?_
    exact ⟨_, Sub.cons rfl (Sub.cons rfl (Sub.nil _)), hK, hpm2, ins_one (.inr (.inr (.inr (.inr (.inr ⟨Int.not_lt.1 h72, Int.not_lt.1 h76⟩)))))⟩
  rintro m s9 ⟨n, hsub, hK, hpm2, hE⟩
  refine then_n ?_
  repeat refine wc_seq ?_
  refine wc_sub hsub ?_
  clear hsub
  refine wc_region ?_
  refine w_val rfl rfl (op_fld rfl rfl rfl rfl (by decide) (by assumption) (Nat.le_of_ble_eq_true rfl)) ?_
  refine w_val rfl rfl (op_load rfl rfl (Pt.fld (by assumption) _ (Nat.le_of_ble_eq_true rfl)) rfl) ?_
  refine w_val rfl rfl (op_pure rfl) ?_
  refine w_val rfl rfl (op_pure rfl) ?_
  refine w_split (i := 80) rfl (fun h80 => ?_) (fun h80 => ?_)
  · simp only [decide_eq_true_eq] at h80
    refine w_off rfl rfl ?_
    refine w_off rfl rfl ?_
    refine w_off rfl rfl ?_
    refine w_off rfl rfl ?_
    refine w_val rfl rfl (op_pure rfl) ?_
    refine w_nil ?_
    refine then_n ?_
    repeat refine wc_seq ?_
    refine wc_cond_t rfl ?_
    repeat refine wc_seq ?_
    refine wc_region ?_
    refine w_val rfl rfl (op_pure rfl) ?_
    refine w_nil ?_
    refine then_n ?_
    refine wc_ret ?_
    repeat first | refine then_r ?_ | refine out_r ?_ | refine round_r ?_ | refine cut_r ?_ | refine sc_r ?_
    refine ⟨_, rfl, hK, congrArg (AV.int .i64) ?_⟩
    rw [hE]
    unfold rngE
    (repeat' split) <;> omega
  simp only [decide_eq_false_iff_not] at h80
  refine w_val rfl rfl (op_fld rfl rfl rfl rfl (by decide) (by assumption) (Nat.le_of_ble_eq_true rfl)) ?_
  refine w_val rfl rfl (op_load rfl rfl (Pt.fld (by assumption) _ (Nat.le_of_ble_eq_true rfl)) rfl) ?_
  refine w_val rfl rfl (op_pure rfl) ?_
  refine w_val rfl rfl (op_pure rfl) ?_
  refine w_val rfl rfl (op_pure rfl) ?_
  refine w_nil ?_
  refine then_n ?_
  repeat refine wc_seq ?_
  refine wc_condT rfl (fun h85 => ?_) (fun h85 => ?_)
  · simp only [decide_eq_true_eq, ge_iff_le] at h85
    repeat refine wc_seq ?_
    refine wc_region ?_
    refine w_val rfl rfl (op_pure rfl) ?_
    refine w_nil ?_
    refine then_n ?_
    refine wc_ret ?_
    repeat first | refine then_r ?_ | refine out_r ?_ | refine round_r ?_ | refine cut_r ?_ | refine sc_r ?_
    refine ⟨_, rfl, hK, congrArg (AV.int .i64) ?_⟩
    rw [hE]
    unfold rngE
    (repeat' split) <;> omega
  simp only [decide_eq_false_iff_not, ge_iff_le] at h85
  refine wc_skip ?_
  refine then_n ?_
  repeat refine wc_seq ?_
  refine wc_region ?_
  refine w_val rfl rfl (op_pure rfl) ?_
  refine w_nil ?_
  refine then_n ?_
  refine wc_ret ?_
  repeat first | refine then_r ?_ | refine out_r ?_ | refine round_r ?_ | refine cut_r ?_ | refine sc_r ?_
  refine ⟨_, rfl, hK, congrArg (AV.int .i64) ?_⟩
  rw [hE]
  unfold rngE
  (repeat' split) <;> omega
set_option maxRecDepth 10000 in
set_option maxHeartbeats 4000000 in
theorem room_ok {s : St} {c : List AV} {mm : ModL} {x : FuncL} {f : Nat} {op : Int} (hok : s.Ok) (hm : mm.small) (hx : mm.funcs[f]? = some x) (hv : ModR s.h mm c) :
    CallS Try.prog Tt Kt 116 [.agg c, .int .i64 (f : Nat), .int .i64 op] s (fun v s' => Keep [] s s' ∧ v = .int .i64 (roomE mm x op)) := by
  have hz := hv.leaf.2
  have hv' := hv
  obtain ⟨vg, va, vh, vf, rfl, hvg, hva, hvh, csf, hrf, hlf, hF⟩ := hv'
  have hsx := hm.2.2.2.2 x (List.mem_of_getElem? hx)
  obtain ⟨hl1, hl3, hl2, hl4, -⟩ := (id hm)
  obtain ⟨hx1, hx2, hx3⟩ := hsx
  refine call_of (fn := Try.f116) (nt := 60) Try.func116 rfl rfl rfl ?_
  repeat refine wc_seq ?_
  refine wc_region ?_
  refine w_box rfl rfl rfl hz hok ?_
  intro s1 hp1 hk1 hc1
  have hK := (Keep.refl hok).two hk1
  have hpm1 : Pt s1.h (.ptr s.ctr 0 0) [vg, va, vh, vf] := hp1
  clear hp1
  have hf : f < mm.funcs.length := (List.getElem?_eq_some_iff.1 hx).1
  have hsf : vf.slen = some mm.funcs.length := hrf.slen.trans (congrArg some hlf)
  obtain ⟨cx, hcx⟩ : ∃ c, csf[f]? = some c := ⟨_, List.getElem?_eq_getElem (by omega)⟩
  obtain ⟨vp, vr, vc, rfl, hvp, hvr, hvc⟩ := hF f x cx hx hcx
  refine w_val rfl rfl (op_pure rfl) ?_
  refine w_nil ?_
  refine then_n ?_
  repeat refine wc_seq ?_
  refine wc_cut (fun m' s' => ∃ b : Bool, Sub [(3, .ptr s.ctr 0 0), (1, .int .i64 (f : Nat)), (2, .int .i64 op), (12, .bool b)] m' ∧ s' = s1 ∧ (b = true ↔ 1 ≤ op ∧ op ≤ 17)) ?_ ?_
  · skip
    refine wc_region ?_
    refine w_val rfl rfl (op_pure rfl) ?_
    refine w_val rfl rfl (op_pure rfl) ?_
    refine w_val rfl rfl (op_pure rfl) ?_
    refine w_split (i := 9) rfl (fun h9 => ?_) (fun h9 => ?_)
    · simp only [decide_eq_true_eq, ge_iff_le] at h9
      refine w_val rfl rfl (op_pure rfl) ?_
      refine w_val rfl rfl (op_pure rfl) ?_
      refine w_val rfl rfl (op_pure rfl) ?_
      refine w_nil ?_
      refine cut_n ?_
      exact ⟨_, Sub.cons rfl (Sub.cons rfl (Sub.cons rfl (Sub.cons rfl (Sub.nil _)))), rfl, by rw [decide_eq_true_eq]; omega⟩
    simp only [decide_eq_false_iff_not, ge_iff_le] at h9
    refine w_off rfl rfl ?_
    refine w_off rfl rfl ?_
    refine w_val rfl rfl (op_pure rfl) ?_
    refine w_nil ?_
    refine cut_n ?_
    exact ⟨false, Sub.cons rfl (Sub.cons rfl (Sub.cons rfl (Sub.cons rfl (Sub.nil _)))), rfl, by constructor; intro h; cases h; intro h; omega⟩
  rintro m sX ⟨b, hsub, eX, hb⟩
  obtain rfl := eX.symm
  refine then_n ?_
  refine wc_sub hsub ?_
  clear hsub
  repeat refine wc_seq ?_
  refine wc_condT rfl (fun h12 => ?_) (fun h12 => ?_)
  · skip
    repeat refine wc_seq ?_
    refine wc_region ?_
    refine w_val rfl rfl (op_pure rfl) ?_
    refine w_nil ?_
    refine then_n ?_
    refine wc_ret ?_
    repeat first | refine then_r ?_ | refine out_r ?_ | refine round_r ?_ | refine cut_r ?_ | refine sc_r ?_
    refine ⟨_, rfl, hK, congrArg (AV.int .i64) ?_⟩
    exact (rm_one (hb.1 h12)).symm
  skip
  refine wc_skip ?_
  refine then_n ?_
  repeat refine wc_seq ?_
  refine wc_region ?_
  refine w_val rfl rfl (op_pure rfl) ?_
  refine w_nil ?_
  refine then_n ?_
  repeat refine wc_seq ?_
  refine wc_block ?_
  repeat refine wc_seq ?_
  refine wc_region ?_
  refine w_val rfl rfl (op_pure rfl) ?_
  refine w_val rfl rfl (op_pure rfl) ?_
  refine w_nil ?_
  refine then_n ?_
  refine wc_condT rfl (fun h14 => ?_) (fun h14 => ?_)
  · simp only [beq_iff_eq] at h14
    repeat refine wc_seq ?_
    refine wc_region ?_
    refine w_val rfl rfl (op_pure rfl) ?_
    refine w_nil ?_
    refine then_n ?_
    refine wc_ret ?_
    repeat first | refine then_r ?_ | refine out_r ?_ | refine round_r ?_ | refine cut_r ?_ | refine sc_r ?_
    refine ⟨_, rfl, hK, congrArg (AV.int .i64) ?_⟩
    exact (rm_any h14).symm
  simp only [beq_eq_false_iff_ne, ne_eq] at h14
  repeat refine wc_seq ?_
  refine wc_region ?_
  refine w_val rfl rfl (op_pure rfl) ?_
  refine w_val rfl rfl (op_pure rfl) ?_
  refine w_nil ?_
  refine then_n ?_
  repeat refine wc_seq ?_
  refine wc_condT rfl (fun h16 => ?_) (fun h16 => ?_)
  · simp only [beq_iff_eq] at h16
    refine wc_skip ?_
    refine then_n ?_
    refine wc_cond_t rfl ?_
    repeat refine wc_seq ?_
    refine wc_region ?_
    refine w_val rfl rfl (op_load rfl rfl (by assumption) rfl) ?_
    refine w_val rfl rfl (op_pure rfl) ?_
    refine w_call rfl rfl (op_call rfl rfl rfl rfl) (locals_ref_ok hK.ok hm hx (by exact hv.keep0 hK)) ?_
    rintro _ s3 ⟨hk3, rfl⟩
    have hK := hK.two hk3
    have hpm1 := hpm1.keep0 hk3
    refine w_val rfl rfl (op_pure rfl) ?_
    refine w_nil ?_
    refine then_n ?_
    refine wc_ret ?_
    repeat first | refine then_r ?_ | refine out_r ?_ | refine round_r ?_ | refine cut_r ?_ | refine sc_r ?_
    refine ⟨_, rfl, hK, congrArg (AV.int .i64) ?_⟩
    exact (rm_loc (.inl h16)).symm
  simp only [beq_eq_false_iff_ne, ne_eq] at h16
  refine wc_region ?_
  refine w_val rfl rfl (op_pure rfl) ?_
  refine w_val rfl rfl (op_pure rfl) ?_
  refine w_nil ?_
  refine then_n ?_
  refine wc_condT rfl (fun h16 => ?_) (fun h16 => ?_)
  · simp only [beq_iff_eq] at h16
    repeat refine wc_seq ?_
    refine wc_region ?_
    refine w_val rfl rfl (op_load rfl rfl (by assumption) rfl) ?_
    refine w_val rfl rfl (op_pure rfl) ?_
    refine w_call rfl rfl (op_call rfl rfl rfl rfl) (locals_ref_ok hK.ok hm hx (by exact hv.keep0 hK)) ?_
    rintro _ s3 ⟨hk3, rfl⟩
    have hK := hK.two hk3
    have hpm1 := hpm1.keep0 hk3
    refine w_val rfl rfl (op_pure rfl) ?_
    refine w_nil ?_
    refine then_n ?_
    refine wc_ret ?_
    repeat first | refine then_r ?_ | refine out_r ?_ | refine round_r ?_ | refine cut_r ?_ | refine sc_r ?_
    refine ⟨_, rfl, hK, congrArg (AV.int .i64) ?_⟩
    exact (rm_loc (.inr h16)).symm
  simp only [beq_eq_false_iff_ne, ne_eq] at h16
  repeat refine wc_seq ?_
  refine wc_region ?_
  refine w_val rfl rfl (op_pure rfl) ?_
  refine w_val rfl rfl (op_pure rfl) ?_
  refine w_nil ?_
  refine then_n ?_
  repeat refine wc_seq ?_
  refine wc_condT rfl (fun h22 => ?_) (fun h22 => ?_)
  · simp only [beq_iff_eq] at h22
    refine wc_skip ?_
    refine then_n ?_
    refine wc_cond_t rfl ?_
    repeat refine wc_seq ?_
    refine wc_region ?_
    refine w_val rfl rfl (op_fld rfl rfl rfl rfl (by decide) (by assumption) (Nat.le_of_ble_eq_true rfl)) ?_
    refine w_val rfl rfl (op_load rfl rfl (by assumption) rfl) ?_
    refine w_val rfl rfl (op_len rfl rfl rfl rfl rfl (Row.slenF (by assumption))) ?_
    refine w_val rfl rfl (op_pure rfl) ?_
    refine w_nil ?_
    refine then_n ?_
    refine wc_ret ?_
    repeat first | refine then_r ?_ | refine out_r ?_ | refine round_r ?_ | refine cut_r ?_ | refine sc_r ?_
    refine ⟨_, rfl, hK, congrArg (AV.int .i64) ?_⟩
    exact (rm_glo (.inl h22)).symm
  simp only [beq_eq_false_iff_ne, ne_eq] at h22
  refine wc_region ?_
  refine w_val rfl rfl (op_pure rfl) ?_
  refine w_val rfl rfl (op_pure rfl) ?_
  refine w_nil ?_
  refine then_n ?_
  refine wc_condT rfl (fun h22 => ?_) (fun h22 => ?_)
  · simp only [beq_iff_eq] at h22
    repeat refine wc_seq ?_
    refine wc_region ?_
    refine w_val rfl rfl (op_fld rfl rfl rfl rfl (by decide) (by assumption) (Nat.le_of_ble_eq_true rfl)) ?_
    refine w_val rfl rfl (op_load rfl rfl (by assumption) rfl) ?_
    refine w_val rfl rfl (op_len rfl rfl rfl rfl rfl (Row.slenF (by assumption))) ?_
    refine w_val rfl rfl (op_pure rfl) ?_
    refine w_nil ?_
    refine then_n ?_
    refine wc_ret ?_
    repeat first | refine then_r ?_ | refine out_r ?_ | refine round_r ?_ | refine cut_r ?_ | refine sc_r ?_
    refine ⟨_, rfl, hK, congrArg (AV.int .i64) ?_⟩
    exact (rm_glo (.inr h22)).symm
  simp only [beq_eq_false_iff_ne, ne_eq] at h22
  repeat refine wc_seq ?_
  refine wc_region ?_
  refine w_val rfl rfl (op_pure rfl) ?_
  refine w_val rfl rfl (op_pure rfl) ?_
  refine w_nil ?_
  refine then_n ?_
  repeat refine wc_seq ?_
  refine wc_condT rfl (fun h28 => ?_) (fun h28 => ?_)
  · simp only [beq_iff_eq] at h28
    refine wc_skip ?_
    refine then_n ?_
    refine wc_cond_t rfl ?_
    repeat refine wc_seq ?_
    refine wc_region ?_
    refine w_val rfl rfl (op_fld rfl rfl rfl rfl (by decide) (by assumption) (Nat.le_of_ble_eq_true rfl)) ?_
    refine w_val rfl rfl (op_load rfl rfl (Pt.fld (by assumption) _ (Nat.le_of_ble_eq_true rfl)) rfl) ?_
    refine w_val rfl rfl (op_len rfl rfl rfl rfl rfl (Row.slenF (by assumption))) ?_
    refine w_val rfl rfl (op_pure rfl) ?_
    refine w_nil ?_
    refine then_n ?_
    refine wc_ret ?_
    repeat first | refine then_r ?_ | refine out_r ?_ | refine round_r ?_ | refine cut_r ?_ | refine sc_r ?_
    refine ⟨_, rfl, hK, congrArg (AV.int .i64) ?_⟩
    exact (rm_arr (.inl h28)).symm
  simp only [beq_eq_false_iff_ne, ne_eq] at h28
  refine wc_region ?_
  refine w_val rfl rfl (op_pure rfl) ?_
  refine w_val rfl rfl (op_pure rfl) ?_
  refine w_nil ?_
  refine then_n ?_
  refine wc_condT rfl (fun h28 => ?_) (fun h28 => ?_)
  · simp only [beq_iff_eq] at h28
    repeat refine wc_seq ?_
    refine wc_region ?_
    refine w_val rfl rfl (op_fld rfl rfl rfl rfl (by decide) (by assumption) (Nat.le_of_ble_eq_true rfl)) ?_
    refine w_val rfl rfl (op_load rfl rfl (Pt.fld (by assumption) _ (Nat.le_of_ble_eq_true rfl)) rfl) ?_
    refine w_val rfl rfl (op_len rfl rfl rfl rfl rfl (Row.slenF (by assumption))) ?_
    refine w_val rfl rfl (op_pure rfl) ?_
    refine w_nil ?_
    refine then_n ?_
    refine wc_ret ?_
    repeat first | refine then_r ?_ | refine out_r ?_ | refine round_r ?_ | refine cut_r ?_ | refine sc_r ?_
    refine ⟨_, rfl, hK, congrArg (AV.int .i64) ?_⟩
    exact (rm_arr (.inr h28)).symm
  simp only [beq_eq_false_iff_ne, ne_eq] at h28
  repeat refine wc_seq ?_
  refine wc_region ?_
  refine w_val rfl rfl (op_pure rfl) ?_
  refine w_val rfl rfl (op_pure rfl) ?_
  refine w_nil ?_
  refine then_n ?_
  repeat refine wc_seq ?_
  refine wc_condT rfl (fun h34 => ?_) (fun h34 => ?_)
  · simp only [beq_iff_eq] at h34
    refine wc_skip ?_
    refine then_n ?_
    refine wc_cond_t rfl ?_
    repeat refine wc_seq ?_
    refine wc_region ?_
    refine w_val rfl rfl (op_pure rfl) ?_
    refine w_nil ?_
    refine then_n ?_
    refine wc_ret ?_
    repeat first | refine then_r ?_ | refine out_r ?_ | refine round_r ?_ | refine cut_r ?_ | refine sc_r ?_
    refine ⟨_, rfl, hK, congrArg (AV.int .i64) ?_⟩
    exact (rm_one' (.inl h34)).symm
  simp only [beq_eq_false_iff_ne, ne_eq] at h34
  repeat refine wc_seq ?_
  refine wc_region ?_
  refine w_val rfl rfl (op_pure rfl) ?_
  refine w_val rfl rfl (op_pure rfl) ?_
  refine w_nil ?_
  refine then_n ?_
  refine wc_condT rfl (fun h34 => ?_) (fun h34 => ?_)
  · simp only [beq_iff_eq] at h34
    refine wc_skip ?_
    refine then_n ?_
    refine wc_cond_t rfl ?_
    repeat refine wc_seq ?_
    refine wc_region ?_
    refine w_val rfl rfl (op_pure rfl) ?_
    refine w_nil ?_
    refine then_n ?_
    refine wc_ret ?_
    repeat first | refine then_r ?_ | refine out_r ?_ | refine round_r ?_ | refine cut_r ?_ | refine sc_r ?_
    refine ⟨_, rfl, hK, congrArg (AV.int .i64) ?_⟩
    exact (rm_one' (.inr (.inl h34))).symm
  simp only [beq_eq_false_iff_ne, ne_eq] at h34
  repeat refine wc_seq ?_
  refine wc_region ?_
  refine w_val rfl rfl (op_pure rfl) ?_
  refine w_val rfl rfl (op_pure rfl) ?_
  refine w_nil ?_
  refine then_n ?_
  refine wc_condT rfl (fun h34 => ?_) (fun h34 => ?_)
  · simp only [beq_iff_eq] at h34
    refine wc_skip ?_
    refine then_n ?_
    refine wc_cond_t rfl ?_
    repeat refine wc_seq ?_
    refine wc_region ?_
    refine w_val rfl rfl (op_pure rfl) ?_
    refine w_nil ?_
    refine then_n ?_
    refine wc_ret ?_
    repeat first | refine then_r ?_ | refine out_r ?_ | refine round_r ?_ | refine cut_r ?_ | refine sc_r ?_
    refine ⟨_, rfl, hK, congrArg (AV.int .i64) ?_⟩
    exact (rm_one' (.inr (.inr (.inl h34)))).symm
  simp only [beq_eq_false_iff_ne, ne_eq] at h34
  repeat refine wc_seq ?_
  refine wc_region ?_
  refine w_val rfl rfl (op_pure rfl) ?_
  refine w_val rfl rfl (op_pure rfl) ?_
  refine w_nil ?_
  refine then_n ?_
  refine wc_condT rfl (fun h34 => ?_) (fun h34 => ?_)
  · simp only [beq_iff_eq] at h34
    refine wc_skip ?_
    refine then_n ?_
    refine wc_cond_t rfl ?_
    repeat refine wc_seq ?_
    refine wc_region ?_
    refine w_val rfl rfl (op_pure rfl) ?_
    refine w_nil ?_
    refine then_n ?_
    refine wc_ret ?_
    repeat first | refine then_r ?_ | refine out_r ?_ | refine round_r ?_ | refine cut_r ?_ | refine sc_r ?_
    refine ⟨_, rfl, hK, congrArg (AV.int .i64) ?_⟩
    exact (rm_one' (.inr (.inr (.inr (.inl h34))))).symm
  simp only [beq_eq_false_iff_ne, ne_eq] at h34
  refine wc_region ?_
  refine w_val rfl rfl (op_pure rfl) ?_
  refine w_val rfl rfl (op_pure rfl) ?_
  refine w_nil ?_
  refine then_n ?_
  refine wc_condT rfl (fun h34 => ?_) (fun h34 => ?_)
  · simp only [beq_iff_eq] at h34
    repeat refine wc_seq ?_
    refine wc_region ?_
    refine w_val rfl rfl (op_pure rfl) ?_
    refine w_nil ?_
    refine then_n ?_
    refine wc_ret ?_
    repeat first | refine then_r ?_ | refine out_r ?_ | refine round_r ?_ | refine cut_r ?_ | refine sc_r ?_
    refine ⟨_, rfl, hK, congrArg (AV.int .i64) ?_⟩
    exact (rm_one' (.inr (.inr (.inr (.inr h34))))).symm
  simp only [beq_eq_false_iff_ne, ne_eq] at h34
  repeat refine wc_seq ?_
  refine wc_region ?_
  refine w_val rfl rfl (op_pure rfl) ?_
  refine w_val rfl rfl (op_pure rfl) ?_
  refine w_nil ?_
  refine then_n ?_
  repeat refine wc_seq ?_
  refine wc_condT rfl (fun h40 => ?_) (fun h40 => ?_)
  · simp only [beq_iff_eq] at h40
    refine wc_skip ?_
    refine then_n ?_
    refine wc_cond_t rfl ?_
    repeat refine wc_seq ?_
    refine wc_region ?_
    refine w_val rfl rfl (op_fld rfl rfl rfl rfl (by decide) (by assumption) (Nat.le_of_ble_eq_true rfl)) ?_
    refine w_val rfl rfl (op_load rfl rfl (Pt.fld (by assumption) _ (Nat.le_of_ble_eq_true rfl)) rfl) ?_
    refine w_val rfl rfl (op_pure rfl) ?_
    refine w_val rfl rfl (op_idx rfl rfl (natA_cast _ _) rfl rfl rfl rfl (Row.keep0 (by assumption) hK) (by omega)) ?_
    refine w_val rfl rfl (op_fld rfl rfl rfl rfl (by decide) (Pt.keep0 (Row.pt (by assumption) (by assumption)) hK) (Nat.le_of_ble_eq_true rfl)) ?_
    refine w_val rfl rfl (op_load rfl rfl (Pt.fld (Pt.keep0 (Row.pt (by assumption) (by assumption)) hK) _ (Nat.le_of_ble_eq_true rfl)) rfl) ?_
    refine w_val rfl rfl (op_len rfl rfl rfl rfl rfl (Row.slenF (by assumption))) ?_
    refine w_val rfl rfl (op_pure rfl) ?_
    refine w_nil ?_
    refine then_n ?_
    refine wc_ret ?_
    repeat first | refine then_r ?_ | refine out_r ?_ | refine round_r ?_ | refine cut_r ?_ | refine sc_r ?_
    refine ⟨_, rfl, hK, congrArg (AV.int .i64) ?_⟩
    exact (rm_jmp (.inl h40)).symm
  simp only [beq_eq_false_iff_ne, ne_eq] at h40
  refine wc_region ?_
  refine w_val rfl rfl (op_pure rfl) ?_
  refine w_val rfl rfl (op_pure rfl) ?_
  refine w_nil ?_
  refine then_n ?_
  refine wc_condT rfl (fun h40 => ?_) (fun h40 => ?_)
  · simp only [beq_iff_eq] at h40
    repeat refine wc_seq ?_
    refine wc_region ?_
    refine w_val rfl rfl (op_fld rfl rfl rfl rfl (by decide) (by assumption) (Nat.le_of_ble_eq_true rfl)) ?_
    refine w_val rfl rfl (op_load rfl rfl (Pt.fld (by assumption) _ (Nat.le_of_ble_eq_true rfl)) rfl) ?_
    refine w_val rfl rfl (op_pure rfl) ?_
    refine w_val rfl rfl (op_idx rfl rfl (natA_cast _ _) rfl rfl rfl rfl (Row.keep0 (by assumption) hK) (by omega)) ?_
    refine w_val rfl rfl (op_fld rfl rfl rfl rfl (by decide) (Pt.keep0 (Row.pt (by assumption) (by assumption)) hK) (Nat.le_of_ble_eq_true rfl)) ?_
    refine w_val rfl rfl (op_load rfl rfl (Pt.fld (Pt.keep0 (Row.pt (by assumption) (by assumption)) hK) _ (Nat.le_of_ble_eq_true rfl)) rfl) ?_
    refine w_val rfl rfl (op_len rfl rfl rfl rfl rfl (Row.slenF (by assumption))) ?_
    refine w_val rfl rfl (op_pure rfl) ?_
    refine w_nil ?_
    refine then_n ?_
    refine wc_ret ?_
    repeat first | refine then_r ?_ | refine out_r ?_ | refine round_r ?_ | refine cut_r ?_ | refine sc_r ?_
    refine ⟨_, rfl, hK, congrArg (AV.int .i64) ?_⟩
    exact (rm_jmp (.inr h40)).symm
  simp only [beq_eq_false_iff_ne, ne_eq] at h40
  repeat refine wc_seq ?_
  refine wc_region ?_
  refine w_val rfl rfl (op_pure rfl) ?_
  refine w_val rfl rfl (op_pure rfl) ?_
  refine w_nil ?_
  refine then_n ?_
  refine wc_condT rfl (fun h50 => ?_) (fun h50 => ?_)
  · simp only [beq_iff_eq] at h50
    repeat refine wc_seq ?_
    refine wc_region ?_
    refine w_val rfl rfl (op_fld rfl rfl rfl rfl (by decide) (by assumption) (Nat.le_of_ble_eq_true rfl)) ?_
    refine w_val rfl rfl (op_load rfl rfl (Pt.fld (by assumption) _ (Nat.le_of_ble_eq_true rfl)) rfl) ?_
    refine w_val rfl rfl (op_len rfl rfl rfl rfl rfl (by assumption)) ?_
    refine w_val rfl rfl (op_pure rfl) ?_
    refine w_nil ?_
    refine then_n ?_
    refine wc_ret ?_
    repeat first | refine then_r ?_ | refine out_r ?_ | refine round_r ?_ | refine cut_r ?_ | refine sc_r ?_
    refine ⟨_, rfl, hK, congrArg (AV.int .i64) ?_⟩
    exact (rm_cal h50).symm
  simp only [beq_eq_false_iff_ne, ne_eq] at h50
  repeat refine wc_seq ?_
  refine wc_region ?_
  refine w_val rfl rfl (op_pure rfl) ?_
  refine w_val rfl rfl (op_pure rfl) ?_
  refine w_nil ?_
  refine then_n ?_
  refine wc_condT rfl (fun h55 => ?_) (fun h55 => ?_)
  · simp only [beq_iff_eq] at h55
    repeat refine wc_seq ?_
    refine wc_region ?_
    refine w_val rfl rfl (op_fld rfl rfl rfl rfl (by decide) (by assumption) (Nat.le_of_ble_eq_true rfl)) ?_
    refine w_val rfl rfl (op_load rfl rfl (Pt.fld (by assumption) _ (Nat.le_of_ble_eq_true rfl)) rfl) ?_
    refine w_val rfl rfl (op_len rfl rfl rfl rfl rfl (Row.slenF (by assumption))) ?_
    refine w_val rfl rfl (op_pure rfl) ?_
    refine w_nil ?_
    refine then_n ?_
    refine wc_ret ?_
    repeat first | refine then_r ?_ | refine out_r ?_ | refine round_r ?_ | refine cut_r ?_ | refine sc_r ?_
    refine ⟨_, rfl, hK, congrArg (AV.int .i64) ?_⟩
    exact (rm_snd h55).symm
  simp only [beq_eq_false_iff_ne, ne_eq] at h55
  refine wc_skip ?_
  refine out_n ?_
  refine then_n ?_
  repeat refine wc_seq ?_
  refine wc_region ?_
  refine w_val rfl rfl (op_pure rfl) ?_
  refine w_nil ?_
  refine then_n ?_
  refine wc_ret ?_
  repeat first | refine then_r ?_ | refine out_r ?_ | refine round_r ?_ | refine cut_r ?_ | refine sc_r ?_
  refine ⟨_, rfl, hK, congrArg (AV.int .i64) ?_⟩
  exact (rm_bad (fun k => by rw [h12] at hb; exact Bool.false_ne_true (hb.2 k)) (by assumption) (by assumption) (by assumption) (by assumption) (by assumption) (by assumption) (by assumption) (by assumption) (by assumption) (by assumption) (by assumption) (by assumption) (by assumption) (by assumption) (by assumption) (by assumption)).symm
set_option maxRecDepth 10000 in
set_option maxHeartbeats 4000000 in
theorem instr_ref_ok {s : St} {c : List AV} {mm : ModL} {x : FuncL} {f : Nat} {y : InstrL} (hok : s.Ok) (hm : mm.small) (hx : mm.funcs[f]? = some x) (hv : ModR s.h mm c) :
    CallS Try.prog Tt Kt 109 [.agg c, .int .i64 (f : Nat), .agg (inC y)] s (fun v s' => Keep [] s s' ∧ v = .int .i64 (instrE mm x y)) := by
  have hz := hv.leaf.2
  have hv' := hv
  obtain ⟨vg, va, vh, vf, rfl, hvg, hva, hvh, csf, hrf, hlf, hF⟩ := hv'
  have hsx := hm.2.2.2.2 x (List.mem_of_getElem? hx)
  obtain ⟨hl1, hl3, hl2, hl4, -⟩ := (id hm)
  obtain ⟨hx1, hx2, hx3⟩ := hsx
  refine call_of (fn := Try.f109) (nt := 37) Try.func109 rfl rfl rfl ?_
  repeat refine wc_seq ?_
  refine wc_region ?_
  refine w_box rfl rfl rfl hz hok ?_
  intro s1 hp1 hk1 hc1
  have hK := (Keep.refl hok).two hk1
  have hpm1 : Pt s1.h (.ptr s.ctr 0 0) [vg, va, vh, vf] := hp1
  clear hp1
  refine w_box rfl rfl rfl rfl hK.ok ?_
  intro s2 hp2 hk2 hc2
  have hK := hK.two hk2
  have hpm2 : Pt s2.h (.ptr s1.ctr 0 0) [.int .i64 y.op, .int .i64 y.a] := hp2
  clear hp2
  have hpm1 := hpm1.keep0 hk2
  have hf : f < mm.funcs.length := (List.getElem?_eq_some_iff.1 hx).1
  have hsf : vf.slen = some mm.funcs.length := hrf.slen.trans (congrArg some hlf)
  obtain ⟨cx, hcx⟩ : ∃ c, csf[f]? = some c := ⟨_, List.getElem?_eq_getElem (by omega)⟩
  obtain ⟨vp, vr, vc, rfl, hvp, hvr, hvc⟩ := hF f x cx hx hcx
  refine w_val rfl rfl (op_pure rfl) ?_
  refine w_nil ?_
  refine then_n ?_
  repeat refine wc_seq ?_
  refine wc_region ?_
  refine w_val rfl rfl (op_pure rfl) ?_
  refine w_val rfl rfl (op_pure rfl) ?_
  refine w_val rfl rfl (op_pure rfl) ?_
  refine w_split (i := 10) rfl (fun h10 => ?_) (fun h10 => ?_)
  · simp only [decide_eq_true_eq] at h10; omega
  clear h10
  refine w_val rfl rfl (op_pure rfl) ?_
  refine w_val rfl rfl (op_fld rfl rfl rfl rfl (by decide) (by assumption) (Nat.le_of_ble_eq_true rfl)) ?_
  refine w_val rfl rfl (op_load rfl rfl (Pt.fld (by assumption) _ (Nat.le_of_ble_eq_true rfl)) rfl) ?_
  refine w_val rfl rfl (op_len rfl rfl rfl rfl rfl (by assumption)) ?_
  refine w_val rfl rfl (op_pure rfl) ?_
  refine w_val rfl rfl (op_pure rfl) ?_
  refine w_nil ?_
  refine then_n ?_
  repeat refine wc_seq ?_
  refine wc_condT rfl (fun h16 => ?_) (fun h16 => ?_)
  · simp only [decide_eq_true_eq, ge_iff_le] at h16; omega
  clear h16
  refine wc_skip ?_
  refine then_n ?_
  repeat refine wc_seq ?_
  refine wc_region ?_
  refine w_val rfl rfl (op_load rfl rfl (by assumption) rfl) ?_
  refine w_val rfl rfl (op_pure rfl) ?_
  refine w_val rfl rfl (op_fld rfl rfl rfl rfl (by decide) (by assumption) (Nat.le_of_ble_eq_true rfl)) ?_
  refine w_val rfl rfl (op_load rfl rfl (by assumption) rfl) ?_
  refine w_call rfl rfl (op_call rfl rfl rfl rfl) (room_ok (op := y.op) hK.ok hm hx (by exact hv.keep0 hK)) ?_
  rintro _ s3 ⟨hk3, rfl⟩
  have hK := hK.two hk3
  have hpm1 := hpm1.keep0 hk3
  have hpm2 := hpm2.keep0 hk3
  refine w_val rfl rfl (op_pure rfl) ?_
  refine w_nil ?_
  refine then_n ?_
  repeat refine wc_seq ?_
  refine wc_region ?_
  refine w_val rfl rfl (op_pure rfl) ?_
  refine w_val rfl rfl (op_pure rfl) ?_
  refine w_nil ?_
  refine then_n ?_
  repeat refine wc_seq ?_
  refine wc_condT rfl (fun h23 => ?_) (fun h23 => ?_)
  · simp only [beq_iff_eq] at h23
    repeat refine wc_seq ?_
    refine wc_region ?_
    refine w_val rfl rfl (op_pure rfl) ?_
    refine w_nil ?_
    refine then_n ?_
    refine wc_ret ?_
    repeat first | refine then_r ?_ | refine out_r ?_ | refine round_r ?_ | refine cut_r ?_ | refine sc_r ?_
    refine ⟨_, rfl, hK, congrArg (AV.int .i64) ?_⟩
    rw [instr_room]
    unfold instr2E
    (repeat' split) <;> omega
  simp only [beq_eq_false_iff_ne, ne_eq] at h23
  refine wc_skip ?_
  refine then_n ?_
  repeat refine wc_seq ?_
  refine wc_region ?_
  refine w_val rfl rfl (op_pure rfl) ?_
  refine w_val rfl rfl (op_pure rfl) ?_
  refine w_val rfl rfl (op_pure rfl) ?_
  refine w_split (i := 26) rfl (fun h26 => ?_) (fun h26 => ?_)
  · simp only [decide_eq_true_eq, ge_iff_le] at h26
    refine w_val rfl rfl (op_fld rfl rfl rfl rfl (by decide) (by assumption) (Nat.le_of_ble_eq_true rfl)) ?_
    refine w_val rfl rfl (op_load rfl rfl (Pt.fld (by assumption) _ (Nat.le_of_ble_eq_true rfl)) rfl) ?_
    refine w_val rfl rfl (op_pure rfl) ?_
    refine w_val rfl rfl (op_pure rfl) ?_
    refine w_split (i := 30) rfl (fun h30 => ?_) (fun h30 => ?_)
    · simp only [decide_eq_true_eq] at h30
      refine w_off rfl rfl ?_
      refine w_off rfl rfl ?_
      refine w_off rfl rfl ?_
      refine w_off rfl rfl ?_
      refine w_val rfl rfl (op_pure rfl) ?_
      refine w_val rfl rfl (op_pure rfl) ?_
      refine w_nil ?_
      refine then_n ?_
      repeat refine wc_seq ?_
      refine wc_cond_t rfl ?_
      repeat refine wc_seq ?_
      refine wc_region ?_
      refine w_val rfl rfl (op_pure rfl) ?_
      refine w_nil ?_
      refine then_n ?_
      refine wc_ret ?_
      repeat first | refine then_r ?_ | refine out_r ?_ | refine round_r ?_ | refine cut_r ?_ | refine sc_r ?_
      refine ⟨_, rfl, hK, congrArg (AV.int .i64) ?_⟩
      rw [instr_room]
      unfold instr2E
      (repeat' split) <;> omega
    simp only [decide_eq_false_iff_not] at h30
    refine w_val rfl rfl (op_fld rfl rfl rfl rfl (by decide) (by assumption) (Nat.le_of_ble_eq_true rfl)) ?_
    refine w_val rfl rfl (op_load rfl rfl (Pt.fld (by assumption) _ (Nat.le_of_ble_eq_true rfl)) rfl) ?_
    refine w_val rfl rfl (op_pure rfl) ?_
    refine w_val rfl rfl (op_pure rfl) ?_
    refine w_val rfl rfl (op_pure rfl) ?_
    refine w_val rfl rfl (op_pure rfl) ?_
    refine w_nil ?_
    refine then_n ?_
    repeat refine wc_seq ?_
    refine wc_condT rfl (fun h36 => ?_) (fun h36 => ?_)
    · simp only [decide_eq_true_eq, ge_iff_le] at h36
      repeat refine wc_seq ?_
      refine wc_region ?_
      refine w_val rfl rfl (op_pure rfl) ?_
      refine w_nil ?_
      refine then_n ?_
      refine wc_ret ?_
      repeat first | refine then_r ?_ | refine out_r ?_ | refine round_r ?_ | refine cut_r ?_ | refine sc_r ?_
      refine ⟨_, rfl, hK, congrArg (AV.int .i64) ?_⟩
      rw [instr_room]
      unfold instr2E
      (repeat' split) <;> omega
    simp only [decide_eq_false_iff_not, ge_iff_le] at h36
    refine wc_skip ?_
    refine then_n ?_
    repeat refine wc_seq ?_
    refine wc_region ?_
    refine w_val rfl rfl (op_pure rfl) ?_
    refine w_nil ?_
    refine then_n ?_
    refine wc_ret ?_
    repeat first | refine then_r ?_ | refine out_r ?_ | refine round_r ?_ | refine cut_r ?_ | refine sc_r ?_
    refine ⟨_, rfl, hK, congrArg (AV.int .i64) ?_⟩
    rw [instr_room]
    unfold instr2E
    (repeat' split) <;> omega
  simp only [decide_eq_false_iff_not, ge_iff_le] at h26
  refine w_off rfl rfl ?_
  refine w_off rfl rfl ?_
  refine w_off rfl rfl ?_
  refine w_off rfl rfl ?_
  refine w_off rfl rfl ?_
  refine w_off rfl rfl ?_
  refine w_off rfl rfl ?_
  refine w_off rfl rfl ?_
  refine w_off rfl rfl ?_
  refine w_val rfl rfl (op_pure rfl) ?_
  refine w_nil ?_
  refine then_n ?_
  repeat refine wc_seq ?_
  refine wc_cond_f rfl ?_
  refine wc_skip ?_
  refine then_n ?_
  repeat refine wc_seq ?_
  refine wc_region ?_
  refine w_val rfl rfl (op_pure rfl) ?_
  refine w_nil ?_
  refine then_n ?_
  refine wc_ret ?_
  repeat first | refine then_r ?_ | refine out_r ?_ | refine round_r ?_ | refine cut_r ?_ | refine sc_r ?_
  refine ⟨_, rfl, hK, congrArg (AV.int .i64) ?_⟩
  rw [instr_room]
  unfold instr2E
  (repeat' split) <;> omega
set_option maxRecDepth 10000 in
set_option maxHeartbeats 4000000 in
theorem head_ok {s : St} {c : List AV} {x : FuncL} (hok : s.Ok) (hx : x.small) (hv : FuncR s.h x c) :
    CallS Try.prog Tt Kt 107 [.agg c] s (fun v s' => Keep [] s s' ∧ v = .int .i64 (headE x)) := by
  have hz := hv.leaf.2
  obtain ⟨vp, vr, vc, rfl, hvp, hvr, hvc⟩ := hv
  obtain ⟨hx1, hx2, hx3⟩ := hx
  refine call_of (fn := Try.f107) (nt := 44) Try.func107 rfl rfl rfl ?_
  repeat refine wc_seq ?_
  refine wc_region ?_
  refine w_box rfl rfl rfl hz hok ?_
  intro s1 hp1 hk1 hc1
  have hK := (Keep.refl hok).two hk1
  have hpm1 : Pt s1.h (.ptr s.ctr 0 0) [.int .u64 x.level, vp, vr, .int .i64 x.locals, .int .i64 x.stack, vc] := hp1
  clear hp1
  refine w_val rfl rfl (op_pure rfl) ?_
  refine w_nil ?_
  refine then_n ?_
  repeat refine wc_seq ?_
  refine wc_block ?_
  repeat refine wc_seq ?_
  refine wc_region ?_
  refine w_val rfl rfl (op_fld rfl rfl rfl rfl (by decide) (by assumption) (Nat.le_of_ble_eq_true rfl)) ?_
  refine w_val rfl rfl (op_load rfl rfl (Pt.fld (by assumption) _ (Nat.le_of_ble_eq_true rfl)) rfl) ?_
  refine w_val rfl rfl (op_len rfl rfl rfl rfl rfl (Row.slenF (by assumption))) ?_
  refine w_val rfl rfl (op_pure rfl) ?_
  refine w_val rfl rfl (op_pure rfl) ?_
  refine w_split (i := 8) rfl (fun h8 => ?_) (fun h8 => ?_)
  · simp only [decide_eq_true_eq, gt_iff_lt] at h8
    refine w_off rfl rfl ?_
    refine w_off rfl rfl ?_
    refine w_off rfl rfl ?_
    refine w_off rfl rfl ?_
    refine w_val rfl rfl (op_pure rfl) ?_
    refine w_val rfl rfl (op_pure rfl) ?_
    refine w_off rfl rfl ?_
    refine w_off rfl rfl ?_
    refine w_off rfl rfl ?_
    refine w_off rfl rfl ?_
    refine w_val rfl rfl (op_pure rfl) ?_
    refine w_val rfl rfl (op_pure rfl) ?_
    refine w_off rfl rfl ?_
    refine w_off rfl rfl ?_
    refine w_off rfl rfl ?_
    refine w_val rfl rfl (op_pure rfl) ?_
    refine w_val rfl rfl (op_pure rfl) ?_
    refine w_off rfl rfl ?_
    refine w_off rfl rfl ?_
    refine w_off rfl rfl ?_
    refine w_val rfl rfl (op_pure rfl) ?_
    refine w_val rfl rfl (op_pure rfl) ?_
    refine w_nil ?_
    refine then_n ?_
    refine wc_cond_t rfl ?_
    repeat refine wc_seq ?_
    refine wc_region ?_
    refine w_val rfl rfl (op_pure rfl) ?_
    refine w_nil ?_
    refine then_n ?_
    refine wc_ret ?_
    repeat first | refine then_r ?_ | refine out_r ?_ | refine round_r ?_ | refine cut_r ?_ | refine sc_r ?_
    refine ⟨_, rfl, hK, congrArg (AV.int .i64) ?_⟩
    unfold headE
    (repeat' split) <;> omega
  simp only [decide_eq_false_iff_not, gt_iff_lt] at h8
  refine w_val rfl rfl (op_fld rfl rfl rfl rfl (by decide) (by assumption) (Nat.le_of_ble_eq_true rfl)) ?_
  refine w_val rfl rfl (op_load rfl rfl (Pt.fld (by assumption) _ (Nat.le_of_ble_eq_true rfl)) rfl) ?_
  refine w_val rfl rfl (op_len rfl rfl rfl rfl rfl (Row.slenF (by assumption))) ?_
  refine w_val rfl rfl (op_pure rfl) ?_
  refine w_val rfl rfl (op_pure rfl) ?_
  refine w_val rfl rfl (op_pure rfl) ?_
  refine w_split (i := 14) rfl (fun h14 => ?_) (fun h14 => ?_)
  · simp only [decide_eq_true_eq, gt_iff_lt] at h14
    refine w_off rfl rfl ?_
    refine w_off rfl rfl ?_
    refine w_off rfl rfl ?_
    refine w_off rfl rfl ?_
    refine w_val rfl rfl (op_pure rfl) ?_
    refine w_val rfl rfl (op_pure rfl) ?_
    refine w_off rfl rfl ?_
    refine w_off rfl rfl ?_
    refine w_off rfl rfl ?_
    refine w_val rfl rfl (op_pure rfl) ?_
    refine w_val rfl rfl (op_pure rfl) ?_
    refine w_off rfl rfl ?_
    refine w_off rfl rfl ?_
    refine w_off rfl rfl ?_
    refine w_val rfl rfl (op_pure rfl) ?_
    refine w_val rfl rfl (op_pure rfl) ?_
    refine w_nil ?_
    refine then_n ?_
    refine wc_cond_t rfl ?_
    repeat refine wc_seq ?_
    refine wc_region ?_
    refine w_val rfl rfl (op_pure rfl) ?_
    refine w_nil ?_
    refine then_n ?_
    refine wc_ret ?_
    repeat first | refine then_r ?_ | refine out_r ?_ | refine round_r ?_ | refine cut_r ?_ | refine sc_r ?_
    refine ⟨_, rfl, hK, congrArg (AV.int .i64) ?_⟩
    unfold headE
    (repeat' split) <;> omega
  simp only [decide_eq_false_iff_not, gt_iff_lt] at h14
  refine w_val rfl rfl (op_fld rfl rfl rfl rfl (by decide) (by assumption) (Nat.le_of_ble_eq_true rfl)) ?_
  refine w_val rfl rfl (op_load rfl rfl (Pt.fld (by assumption) _ (Nat.le_of_ble_eq_true rfl)) rfl) ?_
  refine w_val rfl rfl (op_len rfl rfl rfl rfl rfl (Row.slenF (by assumption))) ?_
  refine w_val rfl rfl (op_pure rfl) ?_
  refine w_val rfl rfl (op_pure rfl) ?_
  refine w_val rfl rfl (op_pure rfl) ?_
  refine w_split (i := 20) rfl (fun h20 => ?_) (fun h20 => ?_)
  · simp only [decide_eq_true_eq, gt_iff_lt] at h20
    refine w_off rfl rfl ?_
    refine w_off rfl rfl ?_
    refine w_off rfl rfl ?_
    refine w_val rfl rfl (op_pure rfl) ?_
    refine w_val rfl rfl (op_pure rfl) ?_
    refine w_off rfl rfl ?_
    refine w_off rfl rfl ?_
    refine w_off rfl rfl ?_
    refine w_val rfl rfl (op_pure rfl) ?_
    refine w_val rfl rfl (op_pure rfl) ?_
    refine w_nil ?_
    refine then_n ?_
    refine wc_cond_t rfl ?_
    repeat refine wc_seq ?_
    refine wc_region ?_
    refine w_val rfl rfl (op_pure rfl) ?_
    refine w_nil ?_
    refine then_n ?_
    refine wc_ret ?_
    repeat first | refine then_r ?_ | refine out_r ?_ | refine round_r ?_ | refine cut_r ?_ | refine sc_r ?_
    refine ⟨_, rfl, hK, congrArg (AV.int .i64) ?_⟩
    unfold headE
    (repeat' split) <;> omega
  simp only [decide_eq_false_iff_not, gt_iff_lt] at h20
  refine w_val rfl rfl (op_fld rfl rfl rfl rfl (by decide) (by assumption) (Nat.le_of_ble_eq_true rfl)) ?_
  refine w_val rfl rfl (op_load rfl rfl (Pt.fld (by assumption) _ (Nat.le_of_ble_eq_true rfl)) rfl) ?_
  refine w_val rfl rfl (op_pure rfl) ?_
  refine w_val rfl rfl (op_pure rfl) ?_
  refine w_val rfl rfl (op_pure rfl) ?_
  refine w_split (i := 25) rfl (fun h25 => ?_) (fun h25 => ?_)
  · simp only [decide_eq_true_eq, gt_iff_lt] at h25
    refine w_off rfl rfl ?_
    refine w_off rfl rfl ?_
    refine w_off rfl rfl ?_
    refine w_val rfl rfl (op_pure rfl) ?_
    refine w_val rfl rfl (op_pure rfl) ?_
    refine w_nil ?_
    refine then_n ?_
    refine wc_cond_t rfl ?_
    repeat refine wc_seq ?_
    refine wc_region ?_
    refine w_val rfl rfl (op_pure rfl) ?_
    refine w_nil ?_
    refine then_n ?_
    refine wc_ret ?_
    repeat first | refine then_r ?_ | refine out_r ?_ | refine round_r ?_ | refine cut_r ?_ | refine sc_r ?_
    refine ⟨_, rfl, hK, congrArg (AV.int .i64) ?_⟩
    unfold headE
    (repeat' split) <;> omega
  simp only [decide_eq_false_iff_not, gt_iff_lt] at h25
  refine w_val rfl rfl (op_fld rfl rfl rfl rfl (by decide) (by assumption) (Nat.le_of_ble_eq_true rfl)) ?_
  refine w_val rfl rfl (op_load rfl rfl (Pt.fld (by assumption) _ (Nat.le_of_ble_eq_true rfl)) rfl) ?_
  refine w_val rfl rfl (op_pure rfl) ?_
  refine w_val rfl rfl (op_pure rfl) ?_
  refine w_val rfl rfl (op_pure rfl) ?_
  refine w_nil ?_
  refine then_n ?_
  refine wc_condT rfl (fun h3 => ?_) (fun h3 => ?_)
  · simp only [decide_eq_true_eq, gt_iff_lt] at h3
    repeat refine wc_seq ?_
    refine wc_region ?_
    refine w_val rfl rfl (op_pure rfl) ?_
    refine w_nil ?_
    refine then_n ?_
    refine wc_ret ?_
    repeat first | refine then_r ?_ | refine out_r ?_ | refine round_r ?_ | refine cut_r ?_ | refine sc_r ?_
    refine ⟨_, rfl, hK, congrArg (AV.int .i64) ?_⟩
    unfold headE
    (repeat' split) <;> omega
  simp only [decide_eq_false_iff_not, gt_iff_lt] at h3
  repeat refine wc_seq ?_
  refine wc_region ?_
  refine w_val rfl rfl (op_fld rfl rfl rfl rfl (by decide) (by assumption) (Nat.le_of_ble_eq_true rfl)) ?_
  refine w_val rfl rfl (op_load rfl rfl (Pt.fld (by assumption) _ (Nat.le_of_ble_eq_true rfl)) rfl) ?_
  refine w_val rfl rfl (op_pure rfl) ?_
  refine w_val rfl rfl (op_pure rfl) ?_
  refine w_split (i := 34) rfl (fun h34 => ?_) (fun h34 => ?_)
  · simp only [decide_eq_true_eq] at h34
    refine w_off rfl rfl ?_
    refine w_off rfl rfl ?_
    refine w_off rfl rfl ?_
    refine w_val rfl rfl (op_pure rfl) ?_
    refine w_val rfl rfl (op_pure rfl) ?_
    refine w_nil ?_
    refine then_n ?_
    refine wc_cond_t rfl ?_
    repeat refine wc_seq ?_
    refine wc_region ?_
    refine w_val rfl rfl (op_pure rfl) ?_
    refine w_nil ?_
    refine then_n ?_
    refine wc_ret ?_
    repeat first | refine then_r ?_ | refine out_r ?_ | refine round_r ?_ | refine cut_r ?_ | refine sc_r ?_
    refine ⟨_, rfl, hK, congrArg (AV.int .i64) ?_⟩
    unfold headE
    (repeat' split) <;> omega
  simp only [decide_eq_false_iff_not] at h34
  refine w_val rfl rfl (op_fld rfl rfl rfl rfl (by decide) (by assumption) (Nat.le_of_ble_eq_true rfl)) ?_
  refine w_val rfl rfl (op_load rfl rfl (Pt.fld (by assumption) _ (Nat.le_of_ble_eq_true rfl)) rfl) ?_
  refine w_val rfl rfl (op_pure rfl) ?_
  refine w_val rfl rfl (op_pure rfl) ?_
  refine w_val rfl rfl (op_pure rfl) ?_
  refine w_nil ?_
  refine then_n ?_
  refine wc_condT rfl (fun h30 => ?_) (fun h30 => ?_)
  · simp only [decide_eq_true_eq] at h30
    repeat refine wc_seq ?_
    refine wc_region ?_
    refine w_val rfl rfl (op_pure rfl) ?_
    refine w_nil ?_
    refine then_n ?_
    refine wc_ret ?_
    repeat first | refine then_r ?_ | refine out_r ?_ | refine round_r ?_ | refine cut_r ?_ | refine sc_r ?_
    refine ⟨_, rfl, hK, congrArg (AV.int .i64) ?_⟩
    unfold headE
    (repeat' split) <;> omega
  simp only [decide_eq_false_iff_not] at h30
  repeat refine wc_seq ?_
  refine wc_region ?_
  refine w_val rfl rfl (op_fld rfl rfl rfl rfl (by decide) (by assumption) (Nat.le_of_ble_eq_true rfl)) ?_
  refine w_val rfl rfl (op_load rfl rfl (Pt.fld (by assumption) _ (Nat.le_of_ble_eq_true rfl)) rfl) ?_
  refine w_val rfl rfl (op_len rfl rfl rfl rfl rfl (Row.slenF (by assumption))) ?_
  refine w_val rfl rfl (op_pure rfl) ?_
  refine w_val rfl rfl (op_pure rfl) ?_
  refine w_nil ?_
  refine then_n ?_
  refine wc_condT rfl (fun h39 => ?_) (fun h39 => ?_)
  · simp only [beq_iff_eq] at h39
    repeat refine wc_seq ?_
    refine wc_region ?_
    refine w_val rfl rfl (op_pure rfl) ?_
    refine w_nil ?_
    refine then_n ?_
    refine wc_ret ?_
    repeat first | refine then_r ?_ | refine out_r ?_ | refine round_r ?_ | refine cut_r ?_ | refine sc_r ?_
    refine ⟨_, rfl, hK, congrArg (AV.int .i64) ?_⟩
    unfold headE
    (repeat' split) <;> omega
  simp only [beq_eq_false_iff_ne, ne_eq] at h39
  refine wc_skip ?_
  refine out_n ?_
  refine then_n ?_
  repeat refine wc_seq ?_
  refine wc_region ?_
  refine w_val rfl rfl (op_pure rfl) ?_
  refine w_nil ?_
  refine then_n ?_
  refine wc_ret ?_
  repeat first | refine then_r ?_ | refine out_r ?_ | refine round_r ?_ | refine cut_r ?_ | refine sc_r ?_
  refine ⟨_, rfl, hK, congrArg (AV.int .i64) ?_⟩
  unfold headE
  (repeat' split) <;> omega
end Go.Ab
/- Shape: whole modules. -/
namespace Go.Ab
open Go.Proofs
abbrev Fault := Int × Int × Int
def faultC (r : Fault) : List AV := [.int .i64 r.1, .int .i64 r.2.1, .int .i64 r.2.2]
def arrP (mm : ModL) (i : Nat) : Option Fault := match mm.arrays[i]? with
  | some a => if a.len < 1 ∨ 256 < a.len then some (130, -1, (i : Nat)) else none
  | none => none
def insE (mm : ModL) (x : FuncL) (a : Nat) (y : InstrL) : Int := if instrE mm x y = 0 ∧ a + 1 = x.code.length ∧ ¬ y.op = 43 ∧ ¬ y.op = 46 then 131 else instrE mm x y
def insP (mm : ModL) (x : FuncL) (f a : Nat) : Option Fault := match x.code[a]? with
  | some y => if insE mm x a y = 0 then none else some (insE mm x a y, (f : Nat), (a : Nat))
  | none => none
def funP (mm : ModL) (f : Nat) : Option Fault := match mm.funcs[f]? with
  | some x => if headE x = 0 then fo (insP mm x f) x.code.length else some (headE x, (f : Nat), -1)
  | none => none
def checkF (mm : ModL) : Fault :=
  if 32 < mm.globals.length ∨ 16 < mm.arrays.length ∨ 16 < mm.channels.length ∨ 32 < mm.funcs.length then (74, -1, 0)
  else match fo (arrP mm) mm.arrays.length with
    | some r => r
    | none => match fo (funP mm) mm.funcs.length with
      | some r => r
      | none => (0, 0, 0)
section
variable {mm : ModL} {x : FuncL} {y : InstrL} {a f i : Nat} {r : Fault}
theorem chk_many (h : 32 < mm.globals.length ∨ 16 < mm.arrays.length ∨ 16 < mm.channels.length ∨ 32 < mm.funcs.length) : checkF mm = (74, -1, 0) := if_pos h
theorem chk_arr (h : ¬ (32 < mm.globals.length ∨ 16 < mm.arrays.length ∨ 16 < mm.channels.length ∨ 32 < mm.funcs.length)) (h1 : fo (arrP mm) mm.arrays.length = some r) : checkF mm = r := by
  unfold checkF; rw [if_neg h, h1]
theorem chk_fun (h : ¬ (32 < mm.globals.length ∨ 16 < mm.arrays.length ∨ 16 < mm.channels.length ∨ 32 < mm.funcs.length)) (h1 : fo (arrP mm) mm.arrays.length = none) (h2 : fo (funP mm) mm.funcs.length = some r) : checkF mm = r := by
  unfold checkF; rw [if_neg h, h1, h2]
theorem chk_ok (h : ¬ (32 < mm.globals.length ∨ 16 < mm.arrays.length ∨ 16 < mm.channels.length ∨ 32 < mm.funcs.length)) (h1 : fo (arrP mm) mm.arrays.length = none) (h2 : fo (funP mm) mm.funcs.length = none) : checkF mm = (0, 0, 0) := by
  unfold checkF; rw [if_neg h, h1, h2]
theorem arrP_bad {b : ArrL} (h : mm.arrays[i]? = some b) (hb : b.len < 1 ∨ 256 < b.len) : arrP mm i = some (130, -1, ((i : Nat) : Int)) := by unfold arrP; rw [h]; exact if_pos hb
theorem arrP_ok {b : ArrL} (h : mm.arrays[i]? = some b) (hb : ¬ (b.len < 1 ∨ 256 < b.len)) : arrP mm i = none := by unfold arrP; rw [h]; exact if_neg hb
theorem funP_head (h : mm.funcs[f]? = some x) (hh : ¬ headE x = 0) : funP mm f = some (headE x, ((f : Nat) : Int), -1) := by unfold funP; rw [h]; exact if_neg hh
theorem funP_ins (h : mm.funcs[f]? = some x) (hh : headE x = 0) (hi : fo (insP mm x f) x.code.length = some r) : funP mm f = some r := by unfold funP; rw [h]; exact (if_pos hh).trans hi
theorem funP_none (h : mm.funcs[f]? = some x) (hh : headE x = 0) (hi : fo (insP mm x f) x.code.length = none) : funP mm f = none := by unfold funP; rw [h]; exact (if_pos hh).trans hi
theorem insP_some {e : Int} (h : x.code[a]? = some y) (he : insE mm x a y = e) (hn : ¬ e = 0) : insP mm x f a = some (e, ((f : Nat) : Int), ((a : Nat) : Int)) := by unfold insP; rw [h]; simp only; rw [he, if_neg hn]
theorem insP_none (h : x.code[a]? = some y) (he : insE mm x a y = 0) : insP mm x f a = none := by unfold insP; rw [h]; simp only; rw [he, if_pos rfl]
theorem insE_fall (h : instrE mm x y = 0) (h1 : a + 1 = x.code.length) (h2 : ¬ y.op = 43) (h3 : ¬ y.op = 46) : insE mm x a y = 131 := if_pos ⟨h, h1, h2, h3⟩
theorem insE_own (h : ¬ instrE mm x y = 0) : insE mm x a y = instrE mm x y := if_neg fun k => h k.1
theorem insE_none (h : instrE mm x y = 0) (h1 : ¬ (a + 1 = x.code.length ∧ ¬ y.op = 43 ∧ ¬ y.op = 46)) : insE mm x a y = 0 := (if_neg fun k => h1 k.2).trans h
end
set_option maxRecDepth 10000 in
set_option maxHeartbeats 4000000 in
theorem check_ok {s : St} {c : List AV} {mm : ModL} (hok : s.Ok) (hm : mm.small) (hv : ModR s.h mm c) :
    CallS Try.prog Tt Kt 90 [.agg c] s (fun r s' => Keep [] s s' ∧ r = .agg (faultC (checkF mm))) := by
  have hz := hv.leaf.2
  obtain ⟨vg, va, vh, vf, rfl, hvg, hva, hvh, csf, hrf, hlf, hF⟩ := hv
  obtain ⟨hl1, hl3, hl2, hl4, -⟩ := id hm
  refine call_of (fn := Try.f90) (nt := 109) Try.func90 rfl rfl rfl ?_
  repeat refine wc_seq ?_
  refine wc_region ?_
  refine w_box rfl rfl rfl hz hok ?_
  intro s1 hp1 hk1 hc1
  have hK := (Keep.refl hok).two hk1
  have hp : Pt s1.h (.ptr s.ctr 0 0) [vg, va, vh, vf] := hp1
  refine w_alloc rfl rfl rfl rfl hK.ok ?_
  intro s2 hq hk2 hc2
  have hK := hK.two hk2
  have hp := hp.keep0 hk2
  have hq : Pt s2.h (.ptr s1.ctr 0 0) [.int .i64 0, .int .i64 0, .int .i64 0] := hq
  have hsv : va.slen = some mm.arrays.length := hva.slenF
  have hsf : vf.slen = some mm.funcs.length := hrf.slen.trans (congrArg some hlf)
  refine w_nil ?_
  refine then_n ?_
  refine wc_scope ?_
  repeat refine wc_seq ?_
  refine wc_region ?_
  refine w_val rfl rfl (op_fld rfl rfl rfl rfl (by decide) (by assumption) (Nat.le_of_ble_eq_true rfl)) ?_
  refine w_val rfl rfl (op_load rfl rfl (by assumption) rfl) ?_
  refine w_val rfl rfl (op_len rfl rfl rfl rfl rfl (Row.slenF (by assumption))) ?_
  refine w_val rfl rfl (op_pure rfl) ?_
  refine w_val rfl rfl (op_pure rfl) ?_
  refine w_split (i := 15) rfl (fun h15 => ?_) (fun h15 => ?_)
  · simp only [decide_eq_true_eq, gt_iff_lt] at h15
    refine w_off rfl rfl ?_
    refine w_off rfl rfl ?_
    refine w_off rfl rfl ?_
    refine w_off rfl rfl ?_
    refine w_val rfl rfl (op_pure rfl) ?_
    refine w_val rfl rfl (op_pure rfl) ?_
    refine w_off rfl rfl ?_
    refine w_off rfl rfl ?_
    refine w_off rfl rfl ?_
    refine w_off rfl rfl ?_
    refine w_val rfl rfl (op_pure rfl) ?_
    refine w_val rfl rfl (op_pure rfl) ?_
    refine w_off rfl rfl ?_
    refine w_off rfl rfl ?_
    refine w_off rfl rfl ?_
    refine w_off rfl rfl ?_
    refine w_val rfl rfl (op_pure rfl) ?_
    refine w_nil ?_
    refine then_n ?_
    repeat refine wc_seq ?_
    refine wc_cond_t rfl ?_
    repeat refine wc_seq ?_
    refine wc_region ?_
    refine w_val rfl rfl (op_pure rfl) ?_
    refine w_store_all (old := [.int .i64 0, .int .i64 0, .int .i64 0]) rfl rfl rfl rfl rfl (by rfl) rfl hK.ok hq (by simp [AV.gs]) ?_
    intro sq hq' hkq hcq
    have hq : Pt sq.h (.ptr s1.ctr 0 0) [.int .i64 74, .int .i64 (-1), .int .i64 0] := hq'
    have hK := hK.fresh hkq (fun g hg => by rw [List.mem_singleton.1 hg]; have := hk1.ctr; omega)
    refine w_nil ?_
    refine then_n ?_
    refine wc_ret ?_
    repeat first | refine then_r ?_ | refine out_r ?_ | refine round_r ?_ | refine cut_r ?_ | refine sc_r ?_
    exact ⟨_, res_cell rfl rfl hq rfl, hK, congrArg (fun r => AV.agg (faultC r)) (chk_many (by omega)).symm⟩
  simp only [decide_eq_false_iff_not, gt_iff_lt] at h15
  refine w_val rfl rfl (op_fld rfl rfl rfl rfl (by decide) (by assumption) (Nat.le_of_ble_eq_true rfl)) ?_
  refine w_val rfl rfl (op_load rfl rfl (Pt.fld (by assumption) _ (Nat.le_of_ble_eq_true rfl)) rfl) ?_
  refine w_val rfl rfl (op_len rfl rfl rfl rfl rfl (by assumption)) ?_
  refine w_val rfl rfl (op_pure rfl) ?_
  refine w_val rfl rfl (op_pure rfl) ?_
  refine w_val rfl rfl (op_pure rfl) ?_
  refine w_split (i := 21) rfl (fun h21 => ?_) (fun h21 => ?_)
  · simp only [decide_eq_true_eq, gt_iff_lt] at h21
    refine w_off rfl rfl ?_
    refine w_off rfl rfl ?_
    refine w_off rfl rfl ?_
    refine w_off rfl rfl ?_
    refine w_val rfl rfl (op_pure rfl) ?_
    refine w_val rfl rfl (op_pure rfl) ?_
    refine w_off rfl rfl ?_
    refine w_off rfl rfl ?_
    refine w_off rfl rfl ?_
    refine w_off rfl rfl ?_
    refine w_val rfl rfl (op_pure rfl) ?_
    refine w_nil ?_
    refine then_n ?_
    repeat refine wc_seq ?_
    refine wc_cond_t rfl ?_
    repeat refine wc_seq ?_
    refine wc_region ?_
    refine w_val rfl rfl (op_pure rfl) ?_
    refine w_store_all (old := [.int .i64 0, .int .i64 0, .int .i64 0]) rfl rfl rfl rfl rfl (by rfl) rfl hK.ok hq (by simp [AV.gs]) ?_
    intro sq hq' hkq hcq
    have hq : Pt sq.h (.ptr s1.ctr 0 0) [.int .i64 74, .int .i64 (-1), .int .i64 0] := hq'
    have hK := hK.fresh hkq (fun g hg => by rw [List.mem_singleton.1 hg]; have := hk1.ctr; omega)
    refine w_nil ?_
    refine then_n ?_
    refine wc_ret ?_
    repeat first | refine then_r ?_ | refine out_r ?_ | refine round_r ?_ | refine cut_r ?_ | refine sc_r ?_
    exact ⟨_, res_cell rfl rfl hq rfl, hK, congrArg (fun r => AV.agg (faultC r)) (chk_many (by omega)).symm⟩
  simp only [decide_eq_false_iff_not, gt_iff_lt] at h21
  refine w_val rfl rfl (op_fld rfl rfl rfl rfl (by decide) (by assumption) (Nat.le_of_ble_eq_true rfl)) ?_
  refine w_val rfl rfl (op_load rfl rfl (Pt.fld (by assumption) _ (Nat.le_of_ble_eq_true rfl)) rfl) ?_
  refine w_val rfl rfl (op_len rfl rfl rfl rfl rfl (Row.slenF (by assumption))) ?_
  refine w_val rfl rfl (op_pure rfl) ?_
  refine w_val rfl rfl (op_pure rfl) ?_
  refine w_val rfl rfl (op_pure rfl) ?_
  refine w_split (i := 27) rfl (fun h27 => ?_) (fun h27 => ?_)
  · simp only [decide_eq_true_eq, gt_iff_lt] at h27
    refine w_off rfl rfl ?_
    refine w_off rfl rfl ?_
    refine w_off rfl rfl ?_
    refine w_off rfl rfl ?_
    refine w_val rfl rfl (op_pure rfl) ?_
    refine w_nil ?_
    refine then_n ?_
    repeat refine wc_seq ?_
    refine wc_cond_t rfl ?_
    repeat refine wc_seq ?_
    refine wc_region ?_
    refine w_val rfl rfl (op_pure rfl) ?_
    refine w_store_all (old := [.int .i64 0, .int .i64 0, .int .i64 0]) rfl rfl rfl rfl rfl (by rfl) rfl hK.ok hq (by simp [AV.gs]) ?_
    intro sq hq' hkq hcq
    have hq : Pt sq.h (.ptr s1.ctr 0 0) [.int .i64 74, .int .i64 (-1), .int .i64 0] := hq'
    have hK := hK.fresh hkq (fun g hg => by rw [List.mem_singleton.1 hg]; have := hk1.ctr; omega)
    refine w_nil ?_
    refine then_n ?_
    refine wc_ret ?_
    repeat first | refine then_r ?_ | refine out_r ?_ | refine round_r ?_ | refine cut_r ?_ | refine sc_r ?_
    exact ⟨_, res_cell rfl rfl hq rfl, hK, congrArg (fun r => AV.agg (faultC r)) (chk_many (by omega)).symm⟩
  simp only [decide_eq_false_iff_not, gt_iff_lt] at h27
  refine w_val rfl rfl (op_fld rfl rfl rfl rfl (by decide) (by assumption) (Nat.le_of_ble_eq_true rfl)) ?_
  refine w_val rfl rfl (op_load rfl rfl (Pt.fld (by assumption) _ (Nat.le_of_ble_eq_true rfl)) rfl) ?_
  refine w_val rfl rfl (op_len rfl rfl rfl rfl rfl (by assumption)) ?_
  refine w_val rfl rfl (op_pure rfl) ?_
  refine w_val rfl rfl (op_pure rfl) ?_
  refine w_nil ?_
  refine then_n ?_
  repeat refine wc_seq ?_
  refine wc_condT rfl (fun h32 => ?_) (fun h32 => ?_)
  · simp only [decide_eq_true_eq, gt_iff_lt] at h32
    repeat refine wc_seq ?_
    refine wc_region ?_
    refine w_val rfl rfl (op_pure rfl) ?_
    refine w_store_all (old := [.int .i64 0, .int .i64 0, .int .i64 0]) rfl rfl rfl rfl rfl (by rfl) rfl hK.ok hq (by simp [AV.gs]) ?_
    intro sq hq' hkq hcq
    have hq : Pt sq.h (.ptr s1.ctr 0 0) [.int .i64 74, .int .i64 (-1), .int .i64 0] := hq'
    have hK := hK.fresh hkq (fun g hg => by rw [List.mem_singleton.1 hg]; have := hk1.ctr; omega)
    refine w_nil ?_
    refine then_n ?_
    refine wc_ret ?_
    repeat first | refine then_r ?_ | refine out_r ?_ | refine round_r ?_ | refine cut_r ?_ | refine sc_r ?_
    exact ⟨_, res_cell rfl rfl hq rfl, hK, congrArg (fun r => AV.agg (faultC r)) (chk_many (by omega)).symm⟩
  simp only [decide_eq_false_iff_not, gt_iff_lt] at h32
  refine wc_skip ?_
  refine then_n ?_
  repeat refine wc_seq ?_
  have hmany : ¬ (32 < mm.globals.length ∨ 16 < mm.arrays.length ∨ 16 < mm.channels.length ∨ 32 < mm.funcs.length) := by omega
  refine wc_region ?_
  refine w_val rfl rfl (op_fld rfl rfl rfl rfl (by decide) (by assumption) (Nat.le_of_ble_eq_true rfl)) ?_
  refine w_val rfl rfl (op_load rfl rfl (Pt.fld (by assumption) _ (Nat.le_of_ble_eq_true rfl)) rfl) ?_
  refine w_val rfl rfl (op_len rfl rfl rfl rfl rfl (by assumption)) ?_
  refine w_val rfl rfl (op_pure rfl) ?_
  refine w_nil ?_
  refine then_n ?_
  repeat refine wc_seq ?_
  refine wc_block ?_
  refine wc_loop_at (fun j m sI => ∃ (i : Nat), j = mm.arrays.length - i ∧ i ≤ mm.arrays.length ∧ m = [(1, .ptr s.ctr 0 0), (2, .ptr s1.ctr 0 0), (35, va), (36, .int .i64 (mm.arrays.length : Nat)), (37, .int .i64 (i : Nat))] ∧ Keep [] s sI ∧ s2.ctr ≤ sI.ctr ∧ Pt sI.h (.ptr s.ctr 0 0) [vg, va, vh, vf] ∧ Pt sI.h (.ptr s1.ctr 0 0) [.int .i64 0, .int .i64 0, .int .i64 0] ∧ fo (arrP mm) i = none) mm.arrays.length
    [(1, .ptr s.ctr 0 0), (2, .ptr s1.ctr 0 0), (35, va), (36, .int .i64 (mm.arrays.length : Nat)), (37, .int .i64 ((0 : Nat) : Int))] (Sub.cons rfl (Sub.cons rfl (Sub.cons rfl (Sub.cons rfl (Sub.cons rfl (Sub.nil _)))))) ⟨0, by simp, by simp, rfl, hK, Nat.le_refl _, hp, hq, rfl⟩ ?_
  clear hK hp hq
  rintro j m s3 ⟨i, rfl, hi, rfl, hK, hcI, hp, hq, hfo⟩
  repeat refine wc_seq ?_
  refine wc_region ?_
  refine w_val rfl rfl (op_pure rfl) ?_
  refine w_nil ?_
  refine then_n ?_
  repeat refine wc_seq ?_
  refine wc_condT rfl (fun h38 => ?_) (fun h38 => ?_)
  · simp only [decide_eq_true_eq] at h38
    refine wc_skip ?_
    refine then_n ?_
    repeat refine wc_seq ?_
    refine wc_block ?_
    repeat refine wc_seq ?_
    obtain ⟨a, ha⟩ : ∃ x, mm.arrays[i]? = some x := ⟨_, List.getElem?_eq_getElem (by omega)⟩
    have hi' : i < mm.arrays.length := by omega
    refine wc_region ?_
    refine w_val rfl rfl (op_pure rfl) ?_
    refine w_val rfl rfl (op_idxF rfl rfl (natA_cast _ _) rfl rfl rfl rfl (Row.keep0 (by assumption) hK) (by omega)) ?_
    refine w_val rfl rfl (op_load rfl rfl (Pt.keep0 (Row.mk_pt (by assumption) (by assumption)) hK) rfl) ?_
    refine w_alloc rfl rfl rfl rfl hK.ok ?_
    intro s4 hv4 hk4 hc4
    have hK := hK.two hk4
    have hp := hp.keep0 hk4
    have hq := hq.keep0 hk4
    refine w_val rfl rfl (op_pure rfl) ?_
    refine w_store_all rfl rfl rfl rfl rfl (by rfl) rfl hK.ok hv4 (by simp [AV.gs]) ?_
    intro s5 hv5 hk5 hc5
    have hw : Pt s5.h (.ptr s3.ctr 0 0) [.int .i64 a.len, .int .u64 a.label] := hv5
    have hbelow := hK.ctr
    have hK := hK.fresh hk5 (fun g hg => by rw [List.mem_singleton.1 hg]; omega)
    have hp := hp.keep hk5 (fun g hg h => by rw [List.mem_singleton.1 hg] at h; have := List.mem_singleton.1 h; omega)
    have hq := hq.keep hk5 (fun g hg h => by rw [List.mem_singleton.1 hg] at h; have := List.mem_singleton.1 h; omega)
    refine w_nil ?_
    refine then_n ?_
    repeat refine wc_seq ?_
    refine wc_region ?_
    refine w_val rfl rfl (op_fld rfl rfl rfl rfl (by decide) (by assumption) (Nat.le_of_ble_eq_true rfl)) ?_
    refine w_val rfl rfl (op_load rfl rfl (by assumption) rfl) ?_
    refine w_val rfl rfl (op_pure rfl) ?_
    refine w_val rfl rfl (op_pure rfl) ?_
    refine w_split (i := 45) rfl (fun h45 => ?_) (fun h45 => ?_)
    · simp only [decide_eq_true_eq] at h45
      refine w_off rfl rfl ?_
      refine w_off rfl rfl ?_
      refine w_off rfl rfl ?_
      refine w_val rfl rfl (op_pure rfl) ?_
      refine w_nil ?_
      refine then_n ?_
      refine wc_cond_t rfl ?_
      repeat refine wc_seq ?_
      refine wc_region ?_
      refine w_val rfl rfl (op_pure rfl) ?_
      refine w_val rfl rfl (op_pure rfl) ?_
      refine w_store_all (old := [.int .i64 0, .int .i64 0, .int .i64 0]) rfl rfl rfl rfl rfl (by rfl) rfl hK.ok hq (by simp [AV.gs]) ?_
      intro sq hq' hkq hcq
      have hq : Pt sq.h (.ptr s1.ctr 0 0) [.int .i64 130, .int .i64 (-1), .int .i64 (i : Nat)] := hq'
      have hK := hK.fresh hkq (fun g hg => by rw [List.mem_singleton.1 hg]; have := hk1.ctr; omega)
      refine w_nil ?_
      refine then_n ?_
      refine wc_ret ?_
      repeat first | refine then_r ?_ | refine out_r ?_ | refine round_r ?_ | refine cut_r ?_ | refine sc_r ?_
      exact ⟨_, res_cell rfl rfl hq rfl, hK, congrArg (fun r => AV.agg (faultC r)) (chk_arr hmany (fo_hit hfo (arrP_bad ha (by omega)) hi')).symm⟩
    simp only [decide_eq_false_iff_not] at h45
    refine w_val rfl rfl (op_fld rfl rfl rfl rfl (by decide) (by assumption) (Nat.le_of_ble_eq_true rfl)) ?_
    refine w_val rfl rfl (op_load rfl rfl (by assumption) rfl) ?_
    refine w_val rfl rfl (op_pure rfl) ?_
    refine w_val rfl rfl (op_pure rfl) ?_
    refine w_nil ?_
    refine then_n ?_
    refine wc_condT rfl (fun h49 => ?_) (fun h49 => ?_)
    · simp only [decide_eq_true_eq, gt_iff_lt] at h49
      repeat refine wc_seq ?_
      refine wc_region ?_
      refine w_val rfl rfl (op_pure rfl) ?_
      refine w_val rfl rfl (op_pure rfl) ?_
      refine w_store_all (old := [.int .i64 0, .int .i64 0, .int .i64 0]) rfl rfl rfl rfl rfl (by rfl) rfl hK.ok hq (by simp [AV.gs]) ?_
      intro sq hq' hkq hcq
      have hq : Pt sq.h (.ptr s1.ctr 0 0) [.int .i64 130, .int .i64 (-1), .int .i64 (i : Nat)] := hq'
      have hK := hK.fresh hkq (fun g hg => by rw [List.mem_singleton.1 hg]; have := hk1.ctr; omega)
      refine w_nil ?_
      refine then_n ?_
      refine wc_ret ?_
      repeat first | refine then_r ?_ | refine out_r ?_ | refine round_r ?_ | refine cut_r ?_ | refine sc_r ?_
      exact ⟨_, res_cell rfl rfl hq rfl, hK, congrArg (fun r => AV.agg (faultC r)) (chk_arr hmany (fo_hit hfo (arrP_bad ha (by omega)) hi')).symm⟩
    simp only [decide_eq_false_iff_not, gt_iff_lt] at h49
    refine wc_skip ?_
    refine out_n ?_
    refine then_n ?_
    refine wc_region ?_
    refine w_val rfl rfl (op_add rfl rfl (by unfold In64; omega)) ?_
    refine w_val rfl rfl (op_pure rfl) ?_
    refine w_nil ?_
    exact round_n _ _ (by omega) (Sub.cons rfl (Sub.cons rfl (Sub.cons rfl (Sub.cons rfl (Sub.cons rfl (Sub.nil _)))))) ⟨i + 1, rfl, by omega, rfl, hK, by omega, hp, hq, fo_next hfo (arrP_ok ha (by omega))⟩
  simp only [decide_eq_false_iff_not] at h38
  obtain rfl : i = mm.arrays.length := by omega
  refine wc_exit ?_
  repeat first | refine then_x ?_ | refine round_x ?_ | refine cut_x ?_ | refine out_x' (by decide) ?_
  refine out_x ?_
  refine then_n ?_
  repeat refine wc_seq ?_
  refine wc_label ?_
  refine then_n ?_
  repeat refine wc_seq ?_
  refine wc_region ?_
  refine w_val rfl rfl (op_fld rfl rfl rfl rfl (by decide) (by assumption) (Nat.le_of_ble_eq_true rfl)) ?_
  refine w_val rfl rfl (op_load rfl rfl (Pt.fld (by assumption) _ (Nat.le_of_ble_eq_true rfl)) rfl) ?_
  refine w_val rfl rfl (op_len rfl rfl rfl rfl rfl (by assumption)) ?_
  refine w_val rfl rfl (op_pure rfl) ?_
  refine w_nil ?_
  refine then_n ?_
  repeat refine wc_seq ?_
  refine wc_cut (fun m' s' => Sub [(2, .ptr s1.ctr 0 0)] m' ∧ Keep [] s s' ∧ s2.ctr ≤ s'.ctr ∧ Pt s'.h (.ptr s1.ctr 0 0) (faultC (checkF mm))) ?_ ?_
  · refine wc_block ?_
    refine wc_loop_at (fun j m sI => ∃ (f : Nat), j = mm.funcs.length - f ∧ f ≤ mm.funcs.length ∧ m = [(1, .ptr s.ctr 0 0), (2, .ptr s1.ctr 0 0), (54, vf), (55, .int .i64 (mm.funcs.length : Nat)), (56, .int .i64 (f : Nat))] ∧ Keep [] s sI ∧ s2.ctr ≤ sI.ctr ∧ Pt sI.h (.ptr s.ctr 0 0) [vg, va, vh, vf] ∧ Pt sI.h (.ptr s1.ctr 0 0) [.int .i64 0, .int .i64 0, .int .i64 0] ∧ fo (funP mm) f = none) mm.funcs.length
      [(1, .ptr s.ctr 0 0), (2, .ptr s1.ctr 0 0), (54, vf), (55, .int .i64 (mm.funcs.length : Nat)), (56, .int .i64 ((0 : Nat) : Int))] (Sub.cons rfl (Sub.cons rfl (Sub.cons rfl (Sub.cons rfl (Sub.cons rfl (Sub.nil _)))))) ⟨0, by simp, by simp, rfl, hK, hcI, hp, hq, rfl⟩ ?_
    clear hK hp hq hcI
    rintro j m s6 ⟨f, rfl, hf, rfl, hK, hcI, hp, hq, hff⟩
    repeat refine wc_seq ?_
    refine wc_region ?_
    refine w_val rfl rfl (op_pure rfl) ?_
    refine w_nil ?_
    refine then_n ?_
    repeat refine wc_seq ?_
    refine wc_condT rfl (fun h57 => ?_) (fun h57 => ?_)
    · simp only [decide_eq_true_eq] at h57
      refine wc_skip ?_
      refine then_n ?_
      repeat refine wc_seq ?_
      refine wc_block ?_
      repeat refine wc_seq ?_
      obtain ⟨x, hx⟩ : ∃ x, mm.funcs[f]? = some x := ⟨_, List.getElem?_eq_getElem (by omega)⟩
      have hf' : f < mm.funcs.length := by omega
      obtain ⟨cx, hcx⟩ : ∃ c, csf[f]? = some c := ⟨_, List.getElem?_eq_getElem (by omega)⟩
      have hfx := hF f x cx hx hcx
      have hzx := hfx.leaf.2
      obtain ⟨vp, vr, vc, rfl, hvp, hvr, hvc⟩ := hfx
      have hsx := hm.2.2.2.2 x (List.mem_of_getElem? hx)
      have hx3 := hsx.2.2
      have hsc : vc.slen = some x.code.length := hvc.slenF
      refine wc_region ?_
      refine w_val rfl rfl (op_pure rfl) ?_
      refine w_val rfl rfl (op_idx rfl rfl (natA_cast _ _) rfl rfl rfl rfl (Row.keep0 (by assumption) hK) (by omega)) ?_
      refine w_val rfl rfl (op_load rfl rfl (Pt.keep0 (Row.pt (by assumption) (by assumption)) hK) rfl) ?_
      refine w_alloc rfl rfl rfl rfl hK.ok ?_
      intro s7 hv7 hk7 hc7
      have hK := hK.two hk7
      have hp := hp.keep0 hk7
      have hq := hq.keep0 hk7
      refine w_val rfl rfl (op_pure rfl) ?_
      refine w_store_all rfl rfl rfl rfl rfl (by rfl) hzx hK.ok hv7 (by simp [AV.gs]) ?_
      intro s8 hv8 hk8 hc8
      have hw : Pt s8.h (.ptr s6.ctr 0 0) [.int .u64 x.level, vp, vr, .int .i64 x.locals, .int .i64 x.stack, vc] := hv8
      have hbelow := hK.ctr
      have hK := hK.fresh hk8 (fun g hg => by rw [List.mem_singleton.1 hg]; omega)
      have hp := hp.keep hk8 (fun g hg h => by rw [List.mem_singleton.1 hg] at h; have := List.mem_singleton.1 h; omega)
      have hq := hq.keep hk8 (fun g hg h => by rw [List.mem_singleton.1 hg] at h; have := List.mem_singleton.1 h; omega)
      refine w_nil ?_
      refine then_n ?_
      repeat refine wc_seq ?_
      refine wc_region ?_
      refine w_val rfl rfl (op_load rfl rfl (by assumption) rfl) ?_
      refine w_call rfl rfl (op_call rfl rfl rfl rfl) (head_ok (x := x) hK.ok hsx ⟨vp, vr, vc, rfl, hvp.keep0 hK, hvr.keep0 hK, hvc.keep0 hK⟩) ?_
      rintro _ s9 ⟨hk9, rfl⟩
      have hc9 := hk9.ctr
      have hK := hK.two hk9
      have hp := hp.keep0 hk9
      have hq := hq.keep0 hk9
      have hw := hw.keep0 hk9
      refine w_val rfl rfl (op_pure rfl) ?_
      refine w_nil ?_
      refine then_n ?_
      repeat refine wc_seq ?_
      refine wc_region ?_
      refine w_val rfl rfl (op_pure rfl) ?_
      refine w_val rfl rfl (op_pure rfl) ?_
      refine w_nil ?_
      refine then_n ?_
      repeat refine wc_seq ?_
      refine wc_condT rfl (fun h64 => ?_) (fun h64 => ?_)
      · simp only [bne_iff_ne, ne_eq] at h64
        repeat refine wc_seq ?_
        refine wc_region ?_
        refine w_val rfl rfl (op_pure rfl) ?_
        refine w_val rfl rfl (op_pure rfl) ?_
        refine w_val rfl rfl (op_pure rfl) ?_
        refine w_store_all (old := [.int .i64 0, .int .i64 0, .int .i64 0]) rfl rfl rfl rfl rfl (by rfl) rfl hK.ok hq (by simp [AV.gs]) ?_
        intro sq hq' hkq hcq
        have hq : Pt sq.h (.ptr s1.ctr 0 0) [.int .i64 (headE x), .int .i64 (f : Nat), .int .i64 (-1)] := hq'
        have hK := hK.fresh hkq (fun g hg => by rw [List.mem_singleton.1 hg]; have := hk1.ctr; omega)
        refine w_nil ?_
        refine then_n ?_
        refine wc_exit ?_
        repeat first | refine then_x ?_ | refine round_x ?_ | refine cut_x ?_ | refine out_x' (by decide) ?_
        refine out_x ?_
        refine cut_n ?_
        exact ⟨Sub.cons rfl (Sub.nil _), hK, by omega, by rw [chk_fun hmany hfo (fo_hit hff (funP_head hx h64) hf')]; exact hq⟩
      simp only [bne_eq_false_iff_eq] at h64
      refine wc_skip ?_
      refine then_n ?_
      repeat refine wc_seq ?_
      refine wc_region ?_
      refine w_val rfl rfl (op_fld rfl rfl rfl rfl (by decide) (by assumption) (Nat.le_of_ble_eq_true rfl)) ?_
      refine w_val rfl rfl (op_load rfl rfl (Pt.fld (by assumption) _ (Nat.le_of_ble_eq_true rfl)) rfl) ?_
      refine w_val rfl rfl (op_len rfl rfl rfl rfl rfl (by assumption)) ?_
      refine w_val rfl rfl (op_pure rfl) ?_
      refine w_nil ?_
      refine then_n ?_
      refine wc_block ?_
      refine wc_loop_at (fun j m sI => ∃ (a : Nat), j = x.code.length - a ∧ a ≤ x.code.length ∧ m = [(1, .ptr s.ctr 0 0), (2, .ptr s1.ctr 0 0), (5, .int .i64 (f : Nat)), (6, .ptr s6.ctr 0 0), (54, vf), (55, .int .i64 (mm.funcs.length : Nat)), (56, .int .i64 (f : Nat)), (69, vc), (70, .int .i64 (x.code.length : Nat)), (71, .int .i64 (a : Nat))] ∧ Keep [] s sI ∧ s2.ctr ≤ sI.ctr ∧ Pt sI.h (.ptr s.ctr 0 0) [vg, va, vh, vf] ∧ Pt sI.h (.ptr s1.ctr 0 0) [.int .i64 0, .int .i64 0, .int .i64 0] ∧ s8.ctr ≤ sI.ctr ∧ Pt sI.h (.ptr s6.ctr 0 0) [.int .u64 x.level, vp, vr, .int .i64 x.locals, .int .i64 x.stack, vc] ∧ fo (insP mm x f) a = none) x.code.length
        [(1, .ptr s.ctr 0 0), (2, .ptr s1.ctr 0 0), (5, .int .i64 (f : Nat)), (6, .ptr s6.ctr 0 0), (54, vf), (55, .int .i64 (mm.funcs.length : Nat)), (56, .int .i64 (f : Nat)), (69, vc), (70, .int .i64 (x.code.length : Nat)), (71, .int .i64 ((0 : Nat) : Int))] (Sub.cons rfl (Sub.cons rfl (Sub.cons rfl (Sub.cons rfl (Sub.cons rfl (Sub.cons rfl (Sub.cons rfl (Sub.cons rfl (Sub.cons rfl (Sub.cons rfl (Sub.nil _))))))))))) ⟨0, by simp, by simp, rfl, hK, by omega, hp, hq, by omega, hw, rfl⟩ ?_
      clear hK hp hq hw
      rintro j m s10 ⟨a, rfl, ha, rfl, hK, hcJ, hp, hq, hc10, hw, hfa⟩
      repeat refine wc_seq ?_
      refine wc_region ?_
      refine w_val rfl rfl (op_pure rfl) ?_
      refine w_nil ?_
      refine then_n ?_
      repeat refine wc_seq ?_
      refine wc_condT rfl (fun h72 => ?_) (fun h72 => ?_)
      · simp only [decide_eq_true_eq] at h72
        refine wc_skip ?_
        refine then_n ?_
        repeat refine wc_seq ?_
        refine wc_block ?_
        repeat refine wc_seq ?_
        obtain ⟨y, hy⟩ : ∃ x', x.code[a]? = some x' := ⟨_, List.getElem?_eq_getElem (by omega)⟩
        have ha' : a < x.code.length := by omega
        refine wc_region ?_
        refine w_val rfl rfl (op_pure rfl) ?_
        refine w_val rfl rfl (op_idxF rfl rfl (natA_cast _ _) rfl rfl rfl rfl (Row.keep0 (by assumption) hK) (by omega)) ?_
        refine w_val rfl rfl (op_load rfl rfl (Pt.keep0 (Row.mk_pt (by assumption) (by assumption)) hK) rfl) ?_
        refine w_alloc rfl rfl rfl rfl hK.ok ?_
        intro s11 hv11 hk11 hc11
        have hK := hK.two hk11
        have hp := hp.keep0 hk11
        have hq := hq.keep0 hk11
        have hw := hw.keep0 hk11
        refine w_val rfl rfl (op_pure rfl) ?_
        refine w_store_all rfl rfl rfl rfl rfl (by rfl) rfl hK.ok hv11 (by simp [AV.gs]) ?_
        intro s12 hv12 hk12 hc12
        have hu : Pt s12.h (.ptr s10.ctr 0 0) [.int .i64 y.op, .int .i64 y.a] := hv12
        have hbelow := hK.ctr
        have hK := hK.fresh hk12 (fun g hg => by rw [List.mem_singleton.1 hg]; omega)
        have hp := hp.keep hk12 (fun g hg h => by rw [List.mem_singleton.1 hg] at h; have := List.mem_singleton.1 h; omega)
        have hq := hq.keep hk12 (fun g hg h => by rw [List.mem_singleton.1 hg] at h; have := List.mem_singleton.1 h; omega)
        have hw := hw.keep hk12 (fun g hg h => by rw [List.mem_singleton.1 hg] at h; have := List.mem_singleton.1 h; omega)
        refine w_nil ?_
        refine then_n ?_
        repeat refine wc_seq ?_
        refine wc_region ?_
        refine w_val rfl rfl (op_load rfl rfl (by assumption) rfl) ?_
        refine w_val rfl rfl (op_pure rfl) ?_
        refine w_val rfl rfl (op_load rfl rfl (by assumption) rfl) ?_
        refine w_call rfl rfl (op_call rfl rfl rfl rfl) (instr_ok (x := x) (y := y) hK.ok hm hx ⟨vg, va, vh, vf, rfl, hvg.keep0 hK, hva.keep0 hK, hvh.keep0 hK, RowR.keep0 FuncR.keep0 (⟨csf, hrf, hlf, hF⟩ : RowR s.h 6 FuncR vf mm.funcs) hK⟩) ?_
        rintro _ s13 ⟨hk13, rfl⟩
        have hc13 := hk13.ctr
        have hK := hK.two hk13
        have hp := hp.keep0 hk13
        have hq := hq.keep0 hk13
        have hw := hw.keep0 hk13
        have hu := hu.keep0 hk13
        refine w_val rfl rfl (op_pure rfl) ?_
        refine w_nil ?_
        refine then_n ?_
        repeat refine wc_seq ?_
        refine wc_region ?_
        refine w_val rfl rfl (op_pure rfl) ?_
        refine w_val rfl rfl (op_pure rfl) ?_
        refine w_val rfl rfl (op_pure rfl) ?_
        refine w_split (i := 82) rfl (fun h82 => ?_) (fun h82 => ?_)
        · simp only [beq_iff_eq] at h82
          refine w_val rfl rfl (op_pure rfl) ?_
          refine w_val rfl rfl (op_fld rfl rfl rfl rfl (by decide) (by assumption) (Nat.le_of_ble_eq_true rfl)) ?_
          refine w_val rfl rfl (op_load rfl rfl (Pt.fld (by assumption) _ (Nat.le_of_ble_eq_true rfl)) rfl) ?_
          refine w_val rfl rfl (op_len rfl rfl rfl rfl rfl (by assumption)) ?_
          refine w_val rfl rfl (op_sub rfl rfl (by unfold In64; omega)) ?_
          refine w_val rfl rfl (op_pure rfl) ?_
          refine w_val rfl rfl (op_pure rfl) ?_
          refine w_val rfl rfl (op_pure rfl) ?_
          refine w_split (i := 90) rfl (fun h90 => ?_) (fun h90 => ?_)
          · simp only [beq_iff_eq] at h90
            refine w_val rfl rfl (op_fld rfl rfl rfl rfl (by decide) (by assumption) (Nat.le_of_ble_eq_true rfl)) ?_
            refine w_val rfl rfl (op_load rfl rfl (by assumption) rfl) ?_
            refine w_val rfl rfl (op_pure rfl) ?_
            refine w_val rfl rfl (op_pure rfl) ?_
            refine w_val rfl rfl (op_pure rfl) ?_
            refine w_split (i := 95) rfl (fun h95 => ?_) (fun h95 => ?_)
            · simp only [bne_iff_ne, ne_eq] at h95
              refine w_val rfl rfl (op_fld rfl rfl rfl rfl (by decide) (by assumption) (Nat.le_of_ble_eq_true rfl)) ?_
              refine w_val rfl rfl (op_load rfl rfl (by assumption) rfl) ?_
              refine w_val rfl rfl (op_pure rfl) ?_
              refine w_val rfl rfl (op_pure rfl) ?_
              refine w_nil ?_
              refine then_n ?_
              repeat refine wc_seq ?_
              refine wc_condT rfl (fun h99 => ?_) (fun h99 => ?_)
              · simp only [bne_iff_ne, ne_eq] at h99
                refine wc_region ?_
                refine w_val rfl rfl (op_pure rfl) ?_
                refine w_nil ?_
                refine then_n ?_
                repeat refine wc_seq ?_
                refine wc_region ?_
                refine w_val rfl rfl (op_pure rfl) ?_
                refine w_val rfl rfl (op_pure rfl) ?_
                refine w_nil ?_
                refine then_n ?_
                refine wc_condT rfl (fun h101 => ?_) (fun h101 => ?_)
                · skip
                  repeat refine wc_seq ?_
                  refine wc_region ?_
                  refine w_val rfl rfl (op_pure rfl) ?_
                  refine w_val rfl rfl (op_pure rfl) ?_
                  refine w_val rfl rfl (op_pure rfl) ?_
                  refine w_val rfl rfl (op_pure rfl) ?_
                  first
                    | (refine w_store_all (u := .agg [.int .i64 131, .int .i64 (f : Nat), .int .i64 (a : Nat)]) (old := [.int .i64 0, .int .i64 0, .int .i64 0]) rfl rfl rfl rfl rfl (by rfl) rfl hK.ok hq (by simp [AV.gs]) ?_)
                    | (refine w_store_all (u := .agg [.int .i64 (instrE mm x y), .int .i64 (f : Nat), .int .i64 (a : Nat)]) (old := [.int .i64 0, .int .i64 0, .int .i64 0]) rfl rfl rfl rfl rfl (by rfl) rfl hK.ok hq (by simp [AV.gs]) ?_)
                  intro sq hq' hkq hcq
                  have hK := hK.fresh hkq (fun g hg => by rw [List.mem_singleton.1 hg]; have := hk1.ctr; omega)
                  refine w_nil ?_
                  refine then_n ?_
                  refine wc_exit ?_
                  repeat first | refine then_x ?_ | refine round_x ?_ | refine cut_x ?_ | refine out_x' (by decide) ?_
                  refine out_x ?_
                  refine cut_n ?_
                  exact ⟨Sub.cons rfl (Sub.nil _), hK, by omega, by rw [chk_fun hmany hfo (fo_hit hff (funP_ins hx h64 (fo_hit hfa (insP_some hy (insE_fall h82 (by omega) h95 h99) (by decide)) ha')) hf')]; exact hq'⟩
                skip
                refine wc_skip ?_
                refine out_n ?_
                refine then_n ?_
                refine wc_region ?_
                refine w_val rfl rfl (op_add rfl rfl (by unfold In64; omega)) ?_
                refine w_val rfl rfl (op_pure rfl) ?_
                refine w_nil ?_
                exact absurd h101 (by decide)
              simp only [bne_eq_false_iff_eq] at h99
              refine wc_skip ?_
              refine then_n ?_
              repeat refine wc_seq ?_
              refine wc_region ?_
              refine w_val rfl rfl (op_pure rfl) ?_
              refine w_val rfl rfl (op_pure rfl) ?_
              refine w_nil ?_
              refine then_n ?_
              refine wc_condT rfl (fun h101 => ?_) (fun h101 => ?_)
              · skip
                repeat refine wc_seq ?_
                refine wc_region ?_
                refine w_val rfl rfl (op_pure rfl) ?_
                refine w_val rfl rfl (op_pure rfl) ?_
                refine w_val rfl rfl (op_pure rfl) ?_
                refine w_val rfl rfl (op_pure rfl) ?_
                first
                  | (refine w_store_all (u := .agg [.int .i64 131, .int .i64 (f : Nat), .int .i64 (a : Nat)]) (old := [.int .i64 0, .int .i64 0, .int .i64 0]) rfl rfl rfl rfl rfl (by rfl) rfl hK.ok hq (by simp [AV.gs]) ?_)
                  | (refine w_store_all (u := .agg [.int .i64 (instrE mm x y), .int .i64 (f : Nat), .int .i64 (a : Nat)]) (old := [.int .i64 0, .int .i64 0, .int .i64 0]) rfl rfl rfl rfl rfl (by rfl) rfl hK.ok hq (by simp [AV.gs]) ?_)
                intro sq hq' hkq hcq
                have hK := hK.fresh hkq (fun g hg => by rw [List.mem_singleton.1 hg]; have := hk1.ctr; omega)
                refine w_nil ?_
                refine then_n ?_
                refine wc_exit ?_
                repeat first | refine then_x ?_ | refine round_x ?_ | refine cut_x ?_ | refine out_x' (by decide) ?_
                refine out_x ?_
                refine cut_n ?_
                exact absurd h101 (by rw [h82]; decide)
              skip
              refine wc_skip ?_
              refine out_n ?_
              refine then_n ?_
              refine wc_region ?_
              refine w_val rfl rfl (op_add rfl rfl (by unfold In64; omega)) ?_
              refine w_val rfl rfl (op_pure rfl) ?_
              refine w_nil ?_
              exact round_n _ _ (by omega) (Sub.cons rfl (Sub.cons rfl (Sub.cons rfl (Sub.cons rfl (Sub.cons rfl (Sub.cons rfl (Sub.cons rfl (Sub.cons rfl (Sub.cons rfl (Sub.cons rfl (Sub.nil _))))))))))) ⟨a + 1, rfl, by omega, rfl, hK, by omega, hp, hq, by omega, hw, fo_next hfa (insP_none hy (insE_none h82 (fun k => k.2.2 h99)))⟩
            simp only [bne_eq_false_iff_eq] at h95
            refine w_off rfl rfl ?_
            refine w_off rfl rfl ?_
            refine w_off rfl rfl ?_
            refine w_val rfl rfl (op_pure rfl) ?_
            refine w_nil ?_
            refine then_n ?_
            repeat refine wc_seq ?_
            refine wc_cond_f rfl ?_
            refine wc_skip ?_
            refine then_n ?_
            repeat refine wc_seq ?_
            refine wc_region ?_
            refine w_val rfl rfl (op_pure rfl) ?_
            refine w_val rfl rfl (op_pure rfl) ?_
            refine w_nil ?_
            refine then_n ?_
            refine wc_condT rfl (fun h101 => ?_) (fun h101 => ?_)
            · skip
              repeat refine wc_seq ?_
              refine wc_region ?_
              refine w_val rfl rfl (op_pure rfl) ?_
              refine w_val rfl rfl (op_pure rfl) ?_
              refine w_val rfl rfl (op_pure rfl) ?_
              refine w_val rfl rfl (op_pure rfl) ?_
              first
                | (refine w_store_all (u := .agg [.int .i64 131, .int .i64 (f : Nat), .int .i64 (a : Nat)]) (old := [.int .i64 0, .int .i64 0, .int .i64 0]) rfl rfl rfl rfl rfl (by rfl) rfl hK.ok hq (by simp [AV.gs]) ?_)
                | (refine w_store_all (u := .agg [.int .i64 (instrE mm x y), .int .i64 (f : Nat), .int .i64 (a : Nat)]) (old := [.int .i64 0, .int .i64 0, .int .i64 0]) rfl rfl rfl rfl rfl (by rfl) rfl hK.ok hq (by simp [AV.gs]) ?_)
              intro sq hq' hkq hcq
              have hK := hK.fresh hkq (fun g hg => by rw [List.mem_singleton.1 hg]; have := hk1.ctr; omega)
              refine w_nil ?_
              refine then_n ?_
              refine wc_exit ?_
              repeat first | refine then_x ?_ | refine round_x ?_ | refine cut_x ?_ | refine out_x' (by decide) ?_
              refine out_x ?_
              refine cut_n ?_
              exact absurd h101 (by rw [h82]; decide)
            skip
            refine wc_skip ?_
            refine out_n ?_
            refine then_n ?_
            refine wc_region ?_
            refine w_val rfl rfl (op_add rfl rfl (by unfold In64; omega)) ?_
            refine w_val rfl rfl (op_pure rfl) ?_
            refine w_nil ?_
            exact round_n _ _ (by omega) (Sub.cons rfl (Sub.cons rfl (Sub.cons rfl (Sub.cons rfl (Sub.cons rfl (Sub.cons rfl (Sub.cons rfl (Sub.cons rfl (Sub.cons rfl (Sub.cons rfl (Sub.nil _))))))))))) ⟨a + 1, rfl, by omega, rfl, hK, by omega, hp, hq, by omega, hw, fo_next hfa (insP_none hy (insE_none h82 (fun k => k.2.1 h95)))⟩
          simp only [beq_eq_false_iff_ne, ne_eq] at h90
          refine w_off rfl rfl ?_
          refine w_off rfl rfl ?_
          refine w_off rfl rfl ?_
          refine w_val rfl rfl (op_pure rfl) ?_
          refine w_val rfl rfl (op_pure rfl) ?_
          refine w_off rfl rfl ?_
          refine w_off rfl rfl ?_
          refine w_off rfl rfl ?_
          refine w_val rfl rfl (op_pure rfl) ?_
          refine w_nil ?_
          refine then_n ?_
          repeat refine wc_seq ?_
          refine wc_cond_f rfl ?_
          refine wc_skip ?_
          refine then_n ?_
          repeat refine wc_seq ?_
          refine wc_region ?_
          refine w_val rfl rfl (op_pure rfl) ?_
          refine w_val rfl rfl (op_pure rfl) ?_
          refine w_nil ?_
          refine then_n ?_
          refine wc_condT rfl (fun h101 => ?_) (fun h101 => ?_)
          · skip
            repeat refine wc_seq ?_
            refine wc_region ?_
            refine w_val rfl rfl (op_pure rfl) ?_
            refine w_val rfl rfl (op_pure rfl) ?_
            refine w_val rfl rfl (op_pure rfl) ?_
            refine w_val rfl rfl (op_pure rfl) ?_
            first
              | (refine w_store_all (u := .agg [.int .i64 131, .int .i64 (f : Nat), .int .i64 (a : Nat)]) (old := [.int .i64 0, .int .i64 0, .int .i64 0]) rfl rfl rfl rfl rfl (by rfl) rfl hK.ok hq (by simp [AV.gs]) ?_)
              | (refine w_store_all (u := .agg [.int .i64 (instrE mm x y), .int .i64 (f : Nat), .int .i64 (a : Nat)]) (old := [.int .i64 0, .int .i64 0, .int .i64 0]) rfl rfl rfl rfl rfl (by rfl) rfl hK.ok hq (by simp [AV.gs]) ?_)
            intro sq hq' hkq hcq
            have hK := hK.fresh hkq (fun g hg => by rw [List.mem_singleton.1 hg]; have := hk1.ctr; omega)
            refine w_nil ?_
            refine then_n ?_
            refine wc_exit ?_
            repeat first | refine then_x ?_ | refine round_x ?_ | refine cut_x ?_ | refine out_x' (by decide) ?_
            refine out_x ?_
            refine cut_n ?_
            exact absurd h101 (by rw [h82]; decide)
          skip
          refine wc_skip ?_
          refine out_n ?_
          refine then_n ?_
          refine wc_region ?_
          refine w_val rfl rfl (op_add rfl rfl (by unfold In64; omega)) ?_
          refine w_val rfl rfl (op_pure rfl) ?_
          refine w_nil ?_
          exact round_n _ _ (by omega) (Sub.cons rfl (Sub.cons rfl (Sub.cons rfl (Sub.cons rfl (Sub.cons rfl (Sub.cons rfl (Sub.cons rfl (Sub.cons rfl (Sub.cons rfl (Sub.cons rfl (Sub.nil _))))))))))) ⟨a + 1, rfl, by omega, rfl, hK, by omega, hp, hq, by omega, hw, fo_next hfa (insP_none hy (insE_none h82 (fun k => h90 (by omega))))⟩
        simp only [beq_eq_false_iff_ne, ne_eq] at h82
        refine w_off rfl rfl ?_
        refine w_off rfl rfl ?_
        refine w_off rfl rfl ?_
        refine w_off rfl rfl ?_
        refine w_off rfl rfl ?_
        refine w_off rfl rfl ?_
        refine w_val rfl rfl (op_pure rfl) ?_
        refine w_val rfl rfl (op_pure rfl) ?_
        refine w_off rfl rfl ?_
        refine w_off rfl rfl ?_
        refine w_off rfl rfl ?_
        refine w_val rfl rfl (op_pure rfl) ?_
        refine w_val rfl rfl (op_pure rfl) ?_
        refine w_off rfl rfl ?_
        refine w_off rfl rfl ?_
        refine w_off rfl rfl ?_
        refine w_val rfl rfl (op_pure rfl) ?_
        refine w_nil ?_
        refine then_n ?_
        repeat refine wc_seq ?_
        refine wc_cond_f rfl ?_
        refine wc_skip ?_
        refine then_n ?_
        repeat refine wc_seq ?_
        refine wc_region ?_
        refine w_val rfl rfl (op_pure rfl) ?_
        refine w_val rfl rfl (op_pure rfl) ?_
        refine w_nil ?_
        refine then_n ?_
        refine wc_condT rfl (fun h101 => ?_) (fun h101 => ?_)
        · skip
          repeat refine wc_seq ?_
          refine wc_region ?_
          refine w_val rfl rfl (op_pure rfl) ?_
          refine w_val rfl rfl (op_pure rfl) ?_
          refine w_val rfl rfl (op_pure rfl) ?_
          refine w_val rfl rfl (op_pure rfl) ?_
          first
            | (refine w_store_all (u := .agg [.int .i64 131, .int .i64 (f : Nat), .int .i64 (a : Nat)]) (old := [.int .i64 0, .int .i64 0, .int .i64 0]) rfl rfl rfl rfl rfl (by rfl) rfl hK.ok hq (by simp [AV.gs]) ?_)
            | (refine w_store_all (u := .agg [.int .i64 (instrE mm x y), .int .i64 (f : Nat), .int .i64 (a : Nat)]) (old := [.int .i64 0, .int .i64 0, .int .i64 0]) rfl rfl rfl rfl rfl (by rfl) rfl hK.ok hq (by simp [AV.gs]) ?_)
          intro sq hq' hkq hcq
          have hK := hK.fresh hkq (fun g hg => by rw [List.mem_singleton.1 hg]; have := hk1.ctr; omega)
          refine w_nil ?_
          refine then_n ?_
          refine wc_exit ?_
          repeat first | refine then_x ?_ | refine round_x ?_ | refine cut_x ?_ | refine out_x' (by decide) ?_
          refine out_x ?_
          refine cut_n ?_
          exact ⟨Sub.cons rfl (Sub.nil _), hK, by omega, by rw [chk_fun hmany hfo (fo_hit hff (funP_ins hx h64 (fo_hit hfa (insP_some hy (insE_own h82) h82) ha')) hf')]; exact hq'⟩
        skip
        refine wc_skip ?_
        refine out_n ?_
        refine then_n ?_
        refine wc_region ?_
        refine w_val rfl rfl (op_add rfl rfl (by unfold In64; omega)) ?_
        refine w_val rfl rfl (op_pure rfl) ?_
        refine w_nil ?_
        exact absurd (bne_eq_false_iff_eq.1 h101) h82
      simp only [decide_eq_false_iff_not] at h72
      obtain rfl : a = x.code.length := by omega
      refine wc_exit ?_
      repeat first | refine then_x ?_ | refine round_x ?_ | refine cut_x ?_ | refine out_x' (by decide) ?_
      refine out_x ?_
      refine out_n ?_
      refine then_n ?_
      refine wc_region ?_
      refine w_val rfl rfl (op_add rfl rfl (by unfold In64; omega)) ?_
      refine w_val rfl rfl (op_pure rfl) ?_
      refine w_nil ?_
      exact round_n _ _ (by omega) (Sub.cons rfl (Sub.cons rfl (Sub.cons rfl (Sub.cons rfl (Sub.cons rfl (Sub.nil _)))))) ⟨f + 1, rfl, by omega, rfl, hK, by omega, hp, hq, fo_next hff (funP_none hx h64 hfa)⟩
    simp only [decide_eq_false_iff_not] at h57
    obtain rfl : f = mm.funcs.length := by omega
    refine wc_exit ?_
    repeat first | refine then_x ?_ | refine round_x ?_ | refine cut_x ?_ | refine out_x' (by decide) ?_
    refine out_x ?_
    refine cut_n ?_
    exact ⟨Sub.cons rfl (Sub.nil _), hK, by omega, by rw [chk_ok hmany hfo hff]; exact hq⟩
  rintro m s14 ⟨hsub, hK, hcE, hq⟩
  refine then_n ?_
  repeat refine wc_seq ?_
  refine wc_sub hsub ?_
  clear hsub
  refine wc_region ?_
  refine w_val rfl rfl (op_load rfl rfl (by assumption) rfl) ?_
  refine w_store_all (old := faultC (checkF mm)) rfl rfl rfl rfl rfl (by rfl) rfl hK.ok hq (by simp [AV.gs]) ?_
  intro sq hq' hkq hcq
  have hq : Pt sq.h (.ptr s1.ctr 0 0) (faultC (checkF mm)) := hq'
  have hK := hK.fresh hkq (fun g hg => by rw [List.mem_singleton.1 hg]; have := hk1.ctr; omega)
  refine w_nil ?_
  refine then_n ?_
  refine wc_ret ?_
  repeat first | refine then_r ?_ | refine out_r ?_ | refine round_r ?_ | refine cut_r ?_ | refine sc_r ?_
  exact ⟨_, res_cell rfl rfl hq rfl, hK, rfl⟩
end Go.Ab
/- The document's link: an instruction behind another module. -/
namespace Go.Ab
open Go.Proofs
def moreE (mm : ModL) (op : Int) : Int :=
  if op = 35 ∨ op = 36 then mm.globals.length
  else if op = 37 ∨ op = 38 then mm.arrays.length
  else if op = 47 then mm.channels.length
  else if op = 45 then mm.funcs.length
  else 0
def turnI (mm : ModL) (y : InstrL) : InstrL := ⟨y.op, y.a + moreE mm y.op⟩
/-- Operands that are moved are small. -/
def OpSmall (y : InstrL) : Prop := (35 ≤ y.op ∧ y.op ≤ 38) ∨ y.op = 45 ∨ y.op = 47 → 0 ≤ y.a ∧ y.a ≤ 2097152
end Go.Ab
/- link.by, and how instructions are turned by it. -/
namespace Go.Ab
open Go.Proofs
def byL (mm : ModL) : List (AV × AV) := [(.int .i64 35, .int .i64 (mm.globals.length : Nat)), (.int .i64 36, .int .i64 (mm.globals.length : Nat)), (.int .i64 37, .int .i64 (mm.arrays.length : Nat)), (.int .i64 38, .int .i64 (mm.arrays.length : Nat)), (.int .i64 47, .int .i64 (mm.channels.length : Nat)), (.int .i64 45, .int .i64 (mm.funcs.length : Nat))]
end Go.Ab
/- link.moved. -/
namespace Go.Ab
open Go.Proofs
/-- A function in memory of its own: three rows apart, in groups from a on, below b. -/
def FuncO (h : Tr Grp) (a b : Nat) (x : FuncL) (c : List AV) : Prop := ∃ vp vr vc, c = [.int .u64 x.level, vp, vr, .int .i64 x.locals, .int .i64 x.stack, vc] ∧ Row h 1 vp (x.params.map lC) ∧ Row h 1 vr (x.results.map lC) ∧ Row h 2 vc (x.code.map inC) ∧
  (∀ g ∈ vp.gs, a ≤ g ∧ g < b) ∧ (∀ g ∈ vr.gs, a ≤ g ∧ g < b) ∧ (∀ g ∈ vc.gs, a ≤ g ∧ g < b) ∧ (∀ g ∈ vp.gs, g ∉ vr.gs) ∧ (∀ g ∈ vp.gs, g ∉ vc.gs) ∧ (∀ g ∈ vr.gs, g ∉ vc.gs) ∧ (vp.gs = [] → vp = .nils) ∧ (vr.gs = [] → vr = .nils) ∧ vc.gs ≠ []
set_option maxRecDepth 10000 in
set_option maxHeartbeats 4000000 in
theorem moved_ok {s : St} {c : List AV} {x : FuncL} {gf : FuncId} {caps : List AV} {turn : InstrL → InstrL} (hok : s.Ok) (hx : x.small) (hv : FuncLR s.h x c)
    (hturn : ∀ (s' : St) (y : InstrL), y ∈ x.code → Keep [] s s' → CallS Try.prog Tt Kt gf (.agg (inC y) :: caps) s' (fun r s'' => Keep [] s' s'' ∧ r = .agg (inC (turn y)))) :
    CallS Try.prog Tt Kt 101 [.agg c, .fn gf caps] s (fun r s' => Keep [] s s' ∧ ∃ c', r = .agg c' ∧ FuncO s'.h s.ctr s'.ctr { x with code := x.code.map turn } c') := by
  have hz := (FuncLR.to x c hv).leaf.2
  obtain ⟨vp, vr, vc, rfl, hvp, hvr, hvc⟩ := hv
  obtain ⟨hx1, hx2, hx3⟩ := hx
  have hvpr := hvp.row
  have hvrr := hvr.row
  have hvcr := hvc.row
  have hvpg : vp.gs ≠ [] := by obtain ⟨u, rfl, hu, -⟩ := hvp; rw [cutA_gs]; exact hu
  have hvrg : vr.gs ≠ [] := by obtain ⟨u, rfl, hu, -⟩ := hvr; rw [cutA_gs]; exact hu
  refine call_of (fn := Try.f101) (nt := 40) Try.func101 rfl rfl rfl ?_
  repeat refine wc_seq ?_
  refine wc_region ?_
  refine w_box rfl rfl rfl hz hok ?_
  intro s1 hp hk1 hc1
  have hK := (Keep.refl hok).two hk1
  have hp : Pt s1.h (.ptr s.ctr 0 0) [.int .u64 x.level, vp, vr, .int .i64 x.locals, .int .i64 x.stack, vc] := hp
  refine w_alloc rfl rfl rfl rfl hK.ok ?_
  intro s2 hq hk2 hc2
  have hK := hK.two hk2
  have hp := hp.keep0 hk2
  have hq : Pt s2.h (.ptr s1.ctr 0 0) [.int .u64 0, .nils, .nils, .int .i64 0, .int .i64 0, .nils] := hq
  have hsc : vc.slen = some x.code.length := hvcr.slenF
  refine w_nil ?_
  refine then_n ?_
  repeat refine wc_seq ?_
  have hR := Keep.refl hK.ok
  have hK2 := hK
  refine wc_order (D := Old s2 []) (RL := [1, 5]) (A := []) (s0 := s2) (by kernel_rfl) rfl ?_
  refine wf_val (fun _ => rfl) rfl rfl (op_fld rfl rfl rfl rfl (by decide) (Pt.bare hp) (Nat.le_of_ble_eq_true rfl)) ?_
  refine wf_load hR rfl rfl (hp.fld 1 (Nat.le_of_ble_eq_true rfl)) rfl (fun _ _ h => by cases h) (by decide) rfl rfl ?_
  refine wf_call hR (by intro p hp; cases hp) rfl rfl (fun _ => rfl) (op_call rfl rfl rfl rfl) (cloneLabels_ok hR.ok (by simpa using hx1) (Row.bare ((hvpr.keep0 hK2).keep0 hR)) hvpg) (fun _ _ h => h.1) ?_
  rintro vp1 sA ⟨-, hvp1, gvp1, nvp1⟩ hkJ
  have hvp1 : Row (sA.join s2).h 1 vp1 _ := hvp1
  have huvp1 : ∀ g ∈ vp1.gs, g < (sA.join s2).ctr := hvp1.lt hkJ.ok
  have ggvp1 : ∀ g ∈ vp1.gs, s2.ctr ≤ g := gvp1
  generalize sA.join s2 = tA at hkJ hvp1 huvp1 ⊢
  have hcJtA := hkJ.ctr
  have hR := hR.two hkJ
  refine wf_call hR (by intro p hp; cases hp) rfl rfl (fun _ => rfl) (op_call rfl rfl rfl rfl) (clipLabels_ok (Row.bare hvp1) (fun e => (nvp1 e).elim)) (fun _ s' h => by rw [h.1]; exact Keep.refl hR.ok) ?_
  rintro _ sB ⟨eB, rfl⟩ hkJ
  rw [eB, show (St.bare tA).join tA = tA from rfl]
  clear eB hkJ
  refine wf_val (fun _ => rfl) rfl rfl (op_fld rfl rfl rfl rfl (by decide) (Pt.bare (hp.keep0 hR)) (Nat.le_of_ble_eq_true rfl)) ?_
  refine wf_load hR rfl rfl (hp.fld 2 (Nat.le_of_ble_eq_true rfl)) rfl (fun _ _ h => by cases h) (by decide) rfl rfl ?_
  refine wf_call hR (by intro p hp; cases hp) rfl rfl (fun _ => rfl) (op_call rfl rfl rfl rfl) (cloneLabels_ok hR.ok (by simpa using hx2) (Row.bare ((hvrr.keep0 hK2).keep0 hR)) hvrg) (fun _ _ h => h.1) ?_
  rintro vr1 sA ⟨-, hvr1, gvr1, nvr1⟩ hkJ
  have hvr1 : Row (sA.join tA).h 1 vr1 _ := hvr1
  have huvr1 : ∀ g ∈ vr1.gs, g < (sA.join tA).ctr := hvr1.lt hkJ.ok
  have ggvr1 : ∀ g ∈ vr1.gs, tA.ctr ≤ g := gvr1
  generalize sA.join tA = tB at hkJ hvr1 huvr1 ⊢
  have hcJtB := hkJ.ctr
  have hR := hR.two hkJ
  have hvp1 := hvp1.keep0 hkJ
  refine wf_call hR (by intro p hp; cases hp) rfl rfl (fun _ => rfl) (op_call rfl rfl rfl rfl) (clipLabels_ok (Row.bare hvr1) (fun e => (nvr1 e).elim)) (fun _ s' h => by rw [h.1]; exact Keep.refl hR.ok) ?_
  rintro _ sB ⟨eB, rfl⟩ hkJ
  rw [eB, show (St.bare tB).join tB = tB from rfl]
  clear eB hkJ
  have hpJ := hp.keep0 hR
  refine wf_val (fun _ => rfl) rfl rfl (op_fld rfl rfl rfl rfl (by decide) (Pt.bare hpJ) (Nat.le_of_ble_eq_true rfl)) ?_
  refine wf_store_fld (o := 1) hR.ok (by intro i hi; rcases List.mem_cons.1 hi with rfl | hi; exact .inl (by kernel_rfl); rw [List.mem_singleton.1 hi]; exact .inl (by kernel_rfl)) (by intro p hp; cases hp) rfl rfl rfl rfl (by rw [AV.cells_leaf hvp1.clip.leaf]; rfl) (by simp only [AV.cells_leaf hvp1.clip.leaf, List.all_cons, List.all_nil, hvp1.clip.leaf]; rfl) hpJ (by rw [AV.cells_leaf hvp1.clip.leaf]; exact Nat.le_of_ble_eq_true rfl) ?_
  intro tC hpJ' hkJ hcctC
  have hpJ : Pt tC.h (.ptr s.ctr 0 0) [.int .u64 x.level, clipA vp1, vr, .int .i64 x.locals, .int .i64 x.stack, vc] := by rw [AV.cells_leaf hvp1.clip.leaf] at hpJ'; exact hpJ'
  have hKC := (hK2.two hR).fresh hkJ (fun g hg => by rw [List.mem_singleton.1 hg]; exact Nat.le_refl _)
  have hvp1 := hvp1.keep hkJ (fun g hg h => by have := List.mem_singleton.1 h; have := ggvp1 g hg; omega)
  have hvr1 := hvr1.keep hkJ (fun g hg h => by have := List.mem_singleton.1 h; have := ggvr1 g hg; omega)
  have hq := (hq.keep0 hR).keep hkJ (fun g hg h => by rw [List.mem_singleton.1 hg] at h; have := List.mem_singleton.1 h; omega)
  have hR := Keep.refl hKC.ok
  refine wf_val (fun _ => rfl) rfl rfl (op_fld rfl rfl rfl rfl (by decide) (Pt.bare hpJ) (Nat.le_of_ble_eq_true rfl)) ?_
  refine wf_store_fld (o := 2) hR.ok (by intro i hi; rcases List.mem_cons.1 hi with rfl | hi; exact .inl (by kernel_rfl); rw [List.mem_singleton.1 hi]; exact .inl (by kernel_rfl)) (by intro p hp; cases hp) rfl rfl rfl rfl (by rw [AV.cells_leaf hvr1.clip.leaf]; rfl) (by simp only [AV.cells_leaf hvr1.clip.leaf, List.all_cons, List.all_nil, hvr1.clip.leaf]; rfl) hpJ (by rw [AV.cells_leaf hvr1.clip.leaf]; exact Nat.le_of_ble_eq_true rfl) ?_
  intro tD hpJ' hkJ hcctD
  have hpJ : Pt tD.h (.ptr s.ctr 0 0) [.int .u64 x.level, clipA vp1, clipA vr1, .int .i64 x.locals, .int .i64 x.stack, vc] := by rw [AV.cells_leaf hvr1.clip.leaf] at hpJ'; exact hpJ'
  have hK := hKC.fresh hkJ (fun g hg => by rw [List.mem_singleton.1 hg]; exact Nat.le_refl _)
  have hvp1 := (hvp1.keep hkJ (fun g hg h => by have := List.mem_singleton.1 h; have := ggvp1 g hg; omega)).clip
  have hvr1 := (hvr1.keep hkJ (fun g hg h => by have := List.mem_singleton.1 h; have := ggvr1 g hg; omega)).clip
  have hq := hq.keep hkJ (fun g hg h => by rw [List.mem_singleton.1 hg] at h; have := List.mem_singleton.1 h; omega)
  have hp := hpJ
  clear hpJ hpJ' hR hKC
  refine wf_nil ?_
  refine then_n ?_
  repeat refine wc_seq ?_
  refine wc_region ?_
  refine w_val rfl rfl (op_fld rfl rfl rfl rfl (by decide) (by assumption) (Nat.le_of_ble_eq_true rfl)) ?_
  refine w_val rfl rfl (op_load rfl rfl (Pt.fld (by assumption) _ (Nat.le_of_ble_eq_true rfl)) rfl) ?_
  refine w_val rfl rfl (op_len rfl rfl rfl rfl rfl (by assumption)) ?_
  refine w_make (n := x.code.length) rfl rfl rfl rfl rfl rfl rfl rfl (by decide) rfl (by simp only [maxBytes]; omega) (by omega) hK.ok ?_
  intro w sM hw hkM hcM hgw
  have hK := hK.two hkM
  have hp := hp.keep0 hkM
  have hq := hq.keep0 hkM
  have hvp1 := hvp1.keep0 hkM
  have hvr1 := hvr1.keep0 hkM
  have hcT : tD.ctr = tB.ctr := by omega
  refine w_val rfl rfl (op_pure rfl) ?_
  refine w_nil ?_
  refine then_n ?_
  repeat refine wc_seq ?_
  refine wc_region ?_
  refine w_val rfl rfl (op_fld rfl rfl rfl rfl (by decide) (by assumption) (Nat.le_of_ble_eq_true rfl)) ?_
  refine w_val rfl rfl (op_load rfl rfl (Pt.fld (by assumption) _ (Nat.le_of_ble_eq_true rfl)) rfl) ?_
  refine w_val rfl rfl (op_len rfl rfl rfl rfl rfl (by assumption)) ?_
  refine w_val rfl rfl (op_pure rfl) ?_
  refine w_nil ?_
  refine then_n ?_
  repeat refine wc_seq ?_
  refine wc_block ?_
  refine wc_loop_at (fun j m sI => ∃ (i : Nat), j = x.code.length - i ∧ i ≤ x.code.length ∧ m = [(1, .fn gf caps), (2, .ptr s.ctr 0 0), (4, .ptr s1.ctr 0 0), (5, w), (23, vc), (24, .int .i64 (x.code.length : Nat)), (25, .int .i64 (i : Nat))] ∧ Keep [] s sI ∧ sM.ctr ≤ sI.ctr ∧ Pt sI.h (.ptr s.ctr 0 0) [.int .u64 x.level, clipA vp1, clipA vr1, .int .i64 x.locals, .int .i64 x.stack, vc] ∧ Pt sI.h (.ptr s1.ctr 0 0) [.int .u64 0, .nils, .nils, .int .i64 0, .int .i64 0, .nils] ∧ Row sI.h 1 (clipA vp1) (x.params.map lC) ∧ Row sI.h 1 (clipA vr1) (x.results.map lC) ∧ Row sI.h 2 w (((x.code.take i).map turn).map inC ++ List.replicate (x.code.length - i) [.int .i64 0, .int .i64 0])) x.code.length
    [(1, .fn gf caps), (2, .ptr s.ctr 0 0), (4, .ptr s1.ctr 0 0), (5, w), (23, vc), (24, .int .i64 (x.code.length : Nat)), (25, .int .i64 ((0 : Nat) : Int))] (Sub.cons rfl (Sub.cons rfl (Sub.cons rfl (Sub.cons rfl (Sub.cons rfl (Sub.cons rfl (Sub.cons rfl (Sub.nil _)))))))) ⟨0, by simp, by simp, rfl, hK, by omega, hp, hq, hvp1, hvr1, by simpa using hw⟩ ?_
  clear hK hp hq hvp1 hvr1 hw
  rintro j m sI ⟨i, rfl, hi, rfl, hK, hcI, hp, hq, hvp1, hvr1, hw⟩
  repeat refine wc_seq ?_
  refine wc_region ?_
  refine w_val rfl rfl (op_pure rfl) ?_
  refine w_nil ?_
  refine then_n ?_
  repeat refine wc_seq ?_
  refine wc_condT rfl (fun h26 => ?_) (fun h26 => ?_)
  · simp only [decide_eq_true_eq] at h26
    refine wc_skip ?_
    refine then_n ?_
    repeat refine wc_seq ?_
    refine wc_block ?_
    repeat refine wc_seq ?_
    obtain ⟨y, hy⟩ : ∃ x', x.code[i]? = some x' := ⟨_, List.getElem?_eq_getElem (by omega)⟩
    refine wc_region ?_
    refine w_val rfl rfl (op_pure rfl) ?_
    refine w_val rfl rfl (op_idxF rfl rfl (natA_cast _ _) rfl rfl rfl rfl (Row.keep0 (by assumption) hK) (by omega)) ?_
    refine w_val rfl rfl (op_load rfl rfl (Pt.keep0 (Row.mk_pt (by assumption) (by assumption)) hK) rfl) ?_
    refine w_alloc rfl rfl rfl rfl hK.ok ?_
    intro sa hu hka hca
    have hK := hK.two hka
    have hp := hp.keep0 hka
    have hq := hq.keep0 hka
    have hvp1 := hvp1.keep0 hka
    have hvr1 := hvr1.keep0 hka
    have hw := hw.keep0 hka
    refine w_val rfl rfl (op_pure rfl) ?_
    refine w_store_all rfl rfl rfl rfl rfl (by rfl) rfl hK.ok hu (by simp [AV.gs]) ?_
    intro sb hu hkb hcb
    have hu : Pt sb.h (.ptr sI.ctr 0 0) (inC y) := hu
    have hK := hK.fresh hkb (fun g hg => by rw [List.mem_singleton.1 hg]; have := hK.ctr; omega)
    have hp := hp.keep hkb (fun g hg h => by rw [List.mem_singleton.1 hg] at h; have := List.mem_singleton.1 h; omega)
    have hq := hq.keep hkb (fun g hg h => by rw [List.mem_singleton.1 hg] at h; have := List.mem_singleton.1 h; omega)
    have hvp1 := hvp1.keep hkb (fun g hg h => by rw [clipA_gs] at hg; have e1 := List.mem_singleton.1 h; have e2 := huvp1 g hg; have e3 := ggvp1 g hg; omega)
    have hvr1 := hvr1.keep hkb (fun g hg h => by rw [clipA_gs] at hg; have e1 := List.mem_singleton.1 h; have e2 := huvr1 g hg; have e3 := ggvr1 g hg; omega)
    have hw := hw.keep hkb (fun g hg h => by rw [hgw] at hg; have e1 := List.mem_singleton.1 hg; have e2 := List.mem_singleton.1 h; omega)
    refine w_nil ?_
    refine then_n ?_
    refine wc_region ?_
    refine w_val rfl rfl (op_pure rfl) ?_
    refine w_val rfl rfl (op_pure rfl) ?_
    refine w_val rfl rfl (op_pure rfl) ?_
    refine w_val rfl rfl (op_load rfl rfl (by assumption) rfl) ?_
    refine w_call rfl rfl (op_call rfl rfl rfl rfl) (hturn _ y (List.mem_of_getElem? hy) hK) ?_
    rintro _ sC ⟨hkC, rfl⟩
    have hcC := hkC.ctr
    have hK := hK.two hkC
    have hp := hp.keep0 hkC
    have hq := hq.keep0 hkC
    have hvp1 := hvp1.keep0 hkC
    have hvr1 := hvr1.keep0 hkC
    have hw := hw.keep0 hkC
    have hli : i < (((x.code.take i).map turn).map inC ++ List.replicate (x.code.length - i) [AV.int .i64 0, AV.int .i64 0]).length := by simp; omega
    refine w_val rfl rfl (op_idx rfl rfl (natA_cast _ _) rfl rfl rfl rfl (by assumption) (by omega)) ?_
    refine w_store_row rfl rfl rfl rfl rfl rfl rfl hK.ok hw (by rw [hgw]; exact fun e => by cases e) hli ?_
    intro sD hw hkD hcD
    have hw : Row sD.h 2 w (((x.code.take (i + 1)).map turn).map inC ++ List.replicate (x.code.length - (i + 1)) [.int .i64 0, .int .i64 0]) := by
      have e : (((x.code.take i).map turn).map inC ++ List.replicate (x.code.length - i) [AV.int .i64 0, AV.int .i64 0]).set i (inC (turn y)) = ((x.code.take (i + 1)).map turn).map inC ++ List.replicate (x.code.length - (i + 1)) [AV.int .i64 0, AV.int .i64 0] := by
        have hlen : (((x.code.take i).map turn).map inC).length = i := by simp; omega
        rw [List.set_append_right (h := by omega), hlen, Nat.sub_self, ← take_snoc hy]
        rw [show x.code.length - i = (x.code.length - (i + 1)) + 1 by omega, List.replicate_succ, List.set_cons_zero]
        simp
      rw [← e]; exact hw
    rw [hgw] at hkD
    have hK := hK.fresh hkD (fun g hg => by rw [List.mem_singleton.1 hg]; omega)
    have hp := hp.keep hkD (fun g hg h => by rw [List.mem_singleton.1 hg] at h; have := List.mem_singleton.1 h; omega)
    have hq := hq.keep hkD (fun g hg h => by rw [List.mem_singleton.1 hg] at h; have := List.mem_singleton.1 h; omega)
    have hvp1 := hvp1.keep hkD (fun g hg h => by rw [clipA_gs] at hg; have e1 := List.mem_singleton.1 h; have e2 := huvp1 g hg; have e3 := ggvp1 g hg; omega)
    have hvr1 := hvr1.keep hkD (fun g hg h => by rw [clipA_gs] at hg; have e1 := List.mem_singleton.1 h; have e2 := huvr1 g hg; have e3 := ggvr1 g hg; omega)
    refine w_nil ?_
    refine out_n ?_
    refine then_n ?_
    refine wc_region ?_
    refine w_val rfl rfl (op_add rfl rfl (by unfold In64; omega)) ?_
    refine w_val rfl rfl (op_pure rfl) ?_
    refine w_nil ?_
    exact round_n _ _ (by omega) (Sub.cons rfl (Sub.cons rfl (Sub.cons rfl (Sub.cons rfl (Sub.cons rfl (Sub.cons rfl (Sub.cons rfl (Sub.nil _)))))))) ⟨i + 1, rfl, by omega, rfl, hK, by omega, hp, hq, hvp1, hvr1, hw⟩
  simp only [decide_eq_false_iff_not] at h26
  obtain rfl : i = x.code.length := by omega
  rw [List.take_length, Nat.sub_self, List.replicate_zero, List.append_nil] at hw
  refine wc_exit ?_
  repeat first | refine then_x ?_ | refine round_x ?_ | refine cut_x ?_ | refine out_x' (by decide) ?_
  refine out_x ?_
  refine then_n ?_
  repeat refine wc_seq ?_
  refine wc_region ?_
  refine w_val rfl rfl (op_pure rfl) ?_
  refine w_val rfl rfl (op_fld rfl rfl rfl rfl (by decide) (by assumption) (Nat.le_of_ble_eq_true rfl)) ?_
  refine w_store_fld (o := 5) rfl rfl rfl rfl (by rw [AV.cells_leaf hw.leaf]; rfl) (by simp only [AV.cells_leaf hw.leaf, List.all_cons, List.all_nil, hw.leaf]; rfl) hK.ok hp (by simp [AV.gs]) (by rw [AV.cells_leaf hw.leaf]; exact Nat.le_of_ble_eq_true rfl) ?_
  intro sE hp' hkE hcE
  have hK := hK.fresh hkE (fun g hg => by rw [List.mem_singleton.1 hg]; exact Nat.le_refl _)
  have hq := hq.keep hkE (fun g hg h => by rw [List.mem_singleton.1 hg] at h; have := List.mem_singleton.1 h; omega)
  have hvp1 := hvp1.keep hkE (fun g hg h => by rw [clipA_gs] at hg; have e1 := List.mem_singleton.1 h; have e2 := huvp1 g hg; have e3 := ggvp1 g hg; omega)
  have hvr1 := hvr1.keep hkE (fun g hg h => by rw [clipA_gs] at hg; have e1 := List.mem_singleton.1 h; have e2 := huvr1 g hg; have e3 := ggvr1 g hg; omega)
  have hp : Pt sE.h (.ptr s.ctr 0 0) [.int .u64 x.level, clipA vp1, clipA vr1, .int .i64 x.locals, .int .i64 x.stack, w] := by rw [AV.cells_leaf hw.leaf] at hp'; exact hp'
  have hw := hw.keep hkE (fun g hg h => by rw [hgw] at hg; have e1 := List.mem_singleton.1 hg; have e2 := List.mem_singleton.1 h; omega)
  refine w_nil ?_
  refine then_n ?_
  repeat refine wc_seq ?_
  refine wc_region ?_
  refine w_val rfl rfl (op_load rfl rfl (by assumption) rfl) ?_
  have hzf : ([.int .u64 x.level, clipA vp1, clipA vr1, .int .i64 x.locals, .int .i64 x.stack, w] : List AV).all AV.leaf = true := by
    simp only [List.all_cons, List.all_nil, hvp1.leaf, hvr1.leaf, hw.leaf]; rfl
  refine w_store_all rfl rfl rfl rfl rfl (by rfl) hzf hK.ok hq (by simp [AV.gs]) ?_
  intro sF hq' hkF hcF
  have hq' : Pt sF.h (.ptr s1.ctr 0 0) [.int .u64 x.level, clipA vp1, clipA vr1, .int .i64 x.locals, .int .i64 x.stack, w] := hq'
  have hK := hK.fresh hkF (fun g hg => by rw [List.mem_singleton.1 hg]; omega)
  have hvp1 := hvp1.keep hkF (fun g hg h => by rw [clipA_gs] at hg; have e1 := List.mem_singleton.1 h; have e2 := huvp1 g hg; have e3 := ggvp1 g hg; omega)
  have hvr1 := hvr1.keep hkF (fun g hg h => by rw [clipA_gs] at hg; have e1 := List.mem_singleton.1 h; have e2 := huvr1 g hg; have e3 := ggvr1 g hg; omega)
  have hw := hw.keep hkF (fun g hg h => by rw [hgw] at hg; have e1 := List.mem_singleton.1 hg; have e2 := List.mem_singleton.1 h; omega)
  refine w_nil ?_
  refine then_n ?_
  refine wc_ret ?_
  repeat first | refine then_r ?_ | refine out_r ?_ | refine round_r ?_ | refine cut_r ?_ | refine sc_r ?_
  exact ⟨_, res_cell rfl rfl hq' rfl, hK, _, rfl, _, _, _, rfl, hvp1, hvr1, hw, (by rw [clipA_gs]; exact fun g hg => ⟨by have := ggvp1 g hg; omega, by have := huvp1 g hg; omega⟩), (by rw [clipA_gs]; exact fun g hg => ⟨by have := ggvr1 g hg; omega, by have := huvr1 g hg; omega⟩), (fun g hg => by rw [hgw] at hg; rw [List.mem_singleton.1 hg]; omega),
    (by rw [clipA_gs, clipA_gs]; exact fun g hg h => by have := huvp1 g hg; have := ggvr1 g h; omega), (by rw [clipA_gs]; exact fun g hg h => by rw [hgw] at h; have := List.mem_singleton.1 h; have := huvp1 g hg; omega), (by rw [clipA_gs]; exact fun g hg h => by rw [hgw] at h; have := List.mem_singleton.1 h; have := huvr1 g hg; omega), fun e => by have := clipA_gs vp1; rw [e] at this; exact (nvp1 this.symm).elim, (fun e => by have := clipA_gs vr1; rw [e] at this; exact (nvr1 this.symm).elim), by rw [hgw]; exact fun e => by cases e⟩
end Go.Ab
/- link.all. -/
namespace Go.Ab
open Go.Proofs
def turnC (turn : InstrL → InstrL) (x : FuncL) : FuncL := { x with code := x.code.map turn }
/-- A function in memory of its own, with the bounds of its groups. -/
def FuncQ : RP (FuncL × Nat × Nat) := fun h F q c => ∃ vp vr vc, c = [.int .u64 q.1.level, vp, vr, .int .i64 q.1.locals, .int .i64 q.1.stack, vc] ∧ Row h 1 vp (q.1.params.map lC) ∧ Row h 1 vr (q.1.results.map lC) ∧ Row h 2 vc (q.1.code.map inC) ∧
  (∀ g ∈ vp.gs, (q.2.1 ≤ g ∧ g < q.2.2) ∧ F g) ∧ (∀ g ∈ vr.gs, (q.2.1 ≤ g ∧ g < q.2.2) ∧ F g) ∧ (∀ g ∈ vc.gs, (q.2.1 ≤ g ∧ g < q.2.2) ∧ F g) ∧ (∀ g ∈ vp.gs, g ∉ vr.gs) ∧ (∀ g ∈ vp.gs, g ∉ vc.gs) ∧ (∀ g ∈ vr.gs, g ∉ vc.gs) ∧ (vp.gs = [] → vp = .nils) ∧ (vr.gs = [] → vr = .nils) ∧ vc.gs ≠ []
theorem good_q : Good FuncQ where
  keep := fun ⟨vp, vr, vc, e, h1, h2, h3, f1, f2, f3, r⟩ h hY => ⟨vp, vr, vc, e, h1.keep h fun g hg hy => hY g hy (f1 g hg).2, h2.keep h fun g hg hy => hY g hy (f2 g hg).2, h3.keep h fun g hg hy => hY g hy (f3 g hg).2, f1, f2, f3, r⟩
  mono := fun ⟨vp, vr, vc, e, h1, h2, h3, f1, f2, f3, r⟩ h => ⟨vp, vr, vc, e, h1, h2, h3, fun g hg => ⟨(f1 g hg).1, h g (f1 g hg).2⟩, fun g hg => ⟨(f2 g hg).1, h g (f2 g hg).2⟩, fun g hg => ⟨(f3 g hg).1, h g (f3 g hg).2⟩, r⟩
theorem FuncQ.of {h : Tr Grp} {a b : Nat} {x : FuncL} {c : List AV} {F : Nat → Prop} (k : FuncO h a b x c) (hF : ∀ g, a ≤ g ∧ g < b → F g) : FuncQ h F (x, a, b) c := by
  obtain ⟨vp, vr, vc, e, h1, h2, h3, f1, f2, f3, r⟩ := k
  exact ⟨vp, vr, vc, e, h1, h2, h3, fun g hg => ⟨f1 g hg, hF g (f1 g hg)⟩, fun g hg => ⟨f2 g hg, hF g (f2 g hg)⟩, fun g hg => ⟨f3 g hg, hF g (f3 g hg)⟩, r⟩
theorem FuncO.leaf {h : Tr Grp} {a b : Nat} {x : FuncL} {c : List AV} (k : FuncO h a b x c) : c.all AV.leaf = true := by
  obtain ⟨vp, vr, vc, rfl, h1, h2, h3, -⟩ := k
  simp only [List.all_cons, List.all_nil, h1.leaf, h2.leaf, h3.leaf]; rfl
/-- Bounds behind one another. -/
structure Apart (a b : Nat) (qs : List (FuncL × Nat × Nat)) : Prop where
  pw : qs.Pairwise fun p q => p.2.2 ≤ q.2.1
  lo : ∀ q ∈ qs, a ≤ q.2.1 ∧ q.2.2 ≤ b
theorem Apart.nil (a b : Nat) : Apart a b [] := ⟨List.Pairwise.nil, fun q h => by cases h⟩
theorem Apart.snoc {a b b' c d : Nat} {qs : List (FuncL × Nat × Nat)} {x : FuncL} (h : Apart a b qs) (h1 : b ≤ c) (h2 : d ≤ b') (h3 : a ≤ c ∧ b ≤ b') : Apart a b' (qs ++ [(x, c, d)]) := by
  refine ⟨?_, fun q hq => ?_⟩
  · rw [List.pairwise_append]
    refine ⟨h.pw, List.pairwise_singleton _ _, fun p hp q hq => ?_⟩
    rw [List.mem_singleton.1 hq]
    exact Nat.le_trans (h.lo p hp).2 h1
  · rcases List.mem_append.1 hq with hq | hq
    · have := h.lo q hq; exact ⟨this.1, by omega⟩
    · rw [List.mem_singleton.1 hq]; exact ⟨h3.1, h2⟩
set_option maxRecDepth 10000 in
set_option maxHeartbeats 4000000 in
theorem all_ok {s : St} {vf : AV} {l : List FuncL} {gf : FuncId} {caps : List AV} {turn : InstrL → InstrL} (hok : s.Ok) (hl : l.length ≤ 2097152) (hsm : ∀ x ∈ l, x.small) (hv : RowR s.h 6 FuncLR vf l)
    (hturn : ∀ (s' : St) (x : FuncL) (y : InstrL), x ∈ l → y ∈ x.code → Keep [] s s' → CallS Try.prog Tt Kt gf (.agg (inC y) :: caps) s' (fun r s'' => Keep [] s' s'' ∧ r = .agg (inC (turn y)))) :
    CallS Try.prog Tt Kt 68 [vf, .fn gf caps] s (fun r s' => Keep [] s s' ∧ ∃ qs, qs.map (·.1) = l.map (turnC turn) ∧ Apart s.ctr s'.ctr qs ∧ Bld s.ctr s'.ctr s' 6 FuncQ r qs) := by
  obtain ⟨css, hrf, hlf, hF⟩ := hv
  refine call_of (fn := Try.f68) (nt := 22) Try.func68 rfl rfl rfl ?_
  repeat refine wc_seq ?_
  refine wc_region ?_
  refine w_val rfl rfl (op_pure rfl) ?_
  refine w_nil ?_
  refine then_n ?_
  repeat refine wc_seq ?_
  refine wc_region ?_
  refine w_val rfl rfl (op_pure rfl) ?_
  refine w_nil ?_
  refine then_n ?_
  repeat refine wc_seq ?_
  have hK := Keep.refl hok
  have hsf : vf.slen = some l.length := hrf.slen.trans (congrArg some hlf)
  refine wc_region ?_
  refine w_val rfl rfl (op_pure rfl) ?_
  refine w_val rfl rfl (op_len rfl rfl rfl rfl rfl (by assumption)) ?_
  refine w_val rfl rfl (op_pure rfl) ?_
  refine w_nil ?_
  refine then_n ?_
  repeat refine wc_seq ?_
  refine wc_block ?_
  refine wc_loop_at (fun j m sI => ∃ (i : Nat) (f : AV) (qs : List (FuncL × Nat × Nat)), j = l.length - i ∧ i ≤ l.length ∧ m = [(1, .fn gf caps), (5, f), (8, vf), (9, .int .i64 (l.length : Nat)), (10, .int .i64 (i : Nat))] ∧ Keep [] s sI ∧ qs.map (·.1) = (l.take i).map (turnC turn) ∧ Apart s.ctr sI.ctr qs ∧ Bld s.ctr sI.ctr sI 6 FuncQ f qs) l.length
    [(1, .fn gf caps), (5, .nils), (8, vf), (9, .int .i64 (l.length : Nat)), (10, .int .i64 ((0 : Nat) : Int))] (Sub.cons rfl (Sub.cons rfl (Sub.cons rfl (Sub.cons rfl (Sub.cons rfl (Sub.nil _)))))) ⟨0, .nils, [], by simp, by simp, rfl, hK, rfl, Apart.nil _ _, Bld.nil⟩ ?_
  clear hK
  rintro j m sI ⟨i, f, qs, rfl, hi, rfl, hK, hqs, hap, hB⟩
  have hKI := hK.ctr
  repeat refine wc_seq ?_
  refine wc_region ?_
  refine w_val rfl rfl (op_pure rfl) ?_
  refine w_nil ?_
  refine then_n ?_
  repeat refine wc_seq ?_
  refine wc_condT rfl (fun h11 => ?_) (fun h11 => ?_)
  · simp only [decide_eq_true_eq] at h11
    refine wc_skip ?_
    refine then_n ?_
    repeat refine wc_seq ?_
    refine wc_block ?_
    repeat refine wc_seq ?_
    obtain ⟨x, hx⟩ : ∃ x, l[i]? = some x := ⟨_, List.getElem?_eq_getElem (by omega)⟩
    obtain ⟨cx, hcx⟩ : ∃ c, css[i]? = some c := ⟨_, List.getElem?_eq_getElem (by omega)⟩
    have hfx := hF i x cx hx hcx
    have hsx := hsm x (List.mem_of_getElem? hx)
    have hzx := (FuncLR.to x cx hfx).leaf
    have hql : qs.length = i := by have := congrArg List.length hqs; rw [List.length_map, List.length_map, List.length_take] at this; omega
    obtain ⟨y0, y1, y2, y3, y4, y5, rfl⟩ : ∃ y0 y1 y2 y3 y4 y5, cx = [y0, y1, y2, y3, y4, y5] := by
      obtain ⟨w1, w2, w3, e, -⟩ := hfx
      exact ⟨_, _, _, _, _, _, e⟩
    refine wc_region ?_
    refine w_val rfl rfl (op_idx rfl rfl (natA_cast _ _) rfl rfl rfl rfl (Row.keep0 (by assumption) hK) (by omega)) ?_
    refine w_val rfl rfl (op_load rfl rfl (Pt.keep0 (Row.pt (by assumption) (by assumption)) hK) rfl) ?_
    refine w_alloc rfl rfl rfl rfl hK.ok ?_
    intro sa hu hka hca
    have hK := hK.two hka
    have hB := hB.keep good_q hka (fun g hg => by cases hg)
    refine w_store_all rfl rfl rfl rfl rfl (by rfl) hzx.2 hK.ok hu (by simp [AV.gs]) ?_
    intro sb hu hkb hcb
    have hu : Pt sb.h (.ptr sI.ctr 0 0) [y0, y1, y2, y3, y4, y5] := hu
    have hKc := hK.ctr
    have hK := hK.fresh hkb (fun g hg => by rw [List.mem_singleton.1 hg]; omega)
    have hB := hB.keep good_q hkb (fun g hg => by rw [List.mem_singleton.1 hg]; exact Nat.le_refl _)
    refine w_nil ?_
    refine then_n ?_
    refine wc_region ?_
    refine w_val rfl rfl (op_pure rfl) ?_
    refine w_val rfl rfl (op_load rfl rfl (by assumption) rfl) ?_
    refine w_val rfl rfl (op_pure rfl) ?_
    refine w_call rfl rfl (op_call rfl rfl rfl rfl) (moved_ok (turn := turn) hK.ok hsx (hfx.keep0 hK) (fun s' y hy hk => hturn s' x y (List.mem_of_getElem? hx) hy (hK.two hk))) ?_
    rintro _ sC ⟨hkC, cO, rfl, hO⟩
    have hcC := hkC.ctr
    have hK := hK.two hkC
    have hB := hB.keep good_q hkC (fun g hg => by cases hg)
    obtain ⟨z0, z1, z2, z3, z4, z5, rfl⟩ : ∃ y0 y1 y2 y3 y4 y5, cO = [y0, y1, y2, y3, y4, y5] := by
      obtain ⟨w1, w2, w3, e, -⟩ := hO
      exact ⟨_, _, _, _, _, _, e⟩
    have hzO : ([z0, z1, z2, z3, z4, z5] : List AV).all AV.leaf = true := hO.leaf
    refine w_lit1 (c := [z0, z1, z2, z3, z4, z5]) rfl rfl rfl rfl rfl rfl rfl (by decide) (by decide) rfl hzO rfl hK.ok ?_
    rintro bE sE hbE hkE hcE -
    have hK := hK.two hkE
    have hB := hB.keep good_q hkE (fun g hg => by cases hg)
    have hO : FuncQ sE.h (Fr s.ctr sE.ctr f.gs) (turnC turn x, sb.ctr, sC.ctr) [z0, z1, z2, z3, z4, z5] := by
      have hfg := hB.gs
      exact good_q.keep (FuncQ.of hO fun g hg => ⟨by omega, by omega, fun h => by have := (hfg g h).2; omega⟩) hkE (fun g hg => by cases hg)
    refine w_app_bld good_q (z := (turnC turn x, sb.ctr, sC.ctr)) (sz := 6) rfl rfl rfl rfl rfl rfl rfl rfl rfl (by decide) rfl hK.ok hB (by omega) (by omega) hbE hO (by simp only [maxBytes]; omega) (by simp only [maxBytes]; omega) ?_
    rintro f2 sG hB2 hkG -
    have hcG := hkG.ctr
    have hfg := hB.gs
    have hK := hK.fresh hkG (fun g hg => (hfg g hg).1)
    have hap2 : Apart s.ctr sG.ctr (qs ++ [(turnC turn x, sb.ctr, sC.ctr)]) := hap.snoc (by omega) (by omega) ⟨by omega, by omega⟩
    have hqs2 : (qs ++ [(turnC turn x, sb.ctr, sC.ctr)]).map (·.1) = (l.take (i + 1)).map (turnC turn) := by rw [List.map_append, hqs, ← take_snoc hx, List.map_append]; rfl
    refine w_val rfl rfl (op_pure rfl) ?_
    refine w_nil ?_
    refine out_n ?_
    refine then_n ?_
    refine wc_region ?_
    refine w_val rfl rfl (op_add rfl rfl (by unfold In64; omega)) ?_
    refine w_val rfl rfl (op_pure rfl) ?_
    refine w_nil ?_
    exact round_n _ _ (by omega) (Sub.cons rfl (Sub.cons rfl (Sub.cons rfl (Sub.cons rfl (Sub.cons rfl (Sub.nil _)))))) ⟨i + 1, f2, _, rfl, by omega, rfl, hK, hqs2, hap2, hB2⟩
  simp only [decide_eq_false_iff_not] at h11
  obtain rfl : i = l.length := by omega
  rw [List.take_length] at hqs
  refine wc_exit ?_
  repeat first | refine then_x ?_ | refine round_x ?_ | refine cut_x ?_ | refine out_x' (by decide) ?_
  refine out_x ?_
  refine then_n ?_
  repeat refine wc_seq ?_
  refine wc_region ?_
  refine w_val rfl rfl (op_pure rfl) ?_
  refine w_val rfl rfl (op_pure rfl) ?_
  refine w_nil ?_
  refine then_n ?_
  refine wc_ret ?_
  repeat first | refine then_r ?_ | refine out_r ?_ | refine round_r ?_ | refine cut_r ?_ | refine sc_r ?_
  exact ⟨_, rfl, hK, qs, hqs, hap, hB⟩
end Go.Ab
/- slices.Grow of nothing. -/
namespace Go.Ab
open Go.Proofs
end Go.Ab
/- slices.Concat. -/
namespace Go.Ab
open Go.Proofs
end Go.Ab
/- Shape: whole modules, the document's way; is a module right? -/
namespace Go.Ab
open Go.Proofs
section
variable {mm : ModL} {x : FuncL} {f : Nat}
theorem funP_hd {e : Int} (h : mm.funcs[f]? = some x) (he : headE x = e) (hn : ¬ e = 0) : funP mm f = some (e, ((f : Nat) : Int), -1) := by subst he; exact funP_head h hn
theorem head_74 (h : 8 < x.params.length ∨ 4 < x.results.length ∨ 2048 < x.code.length ∨ 32 < x.locals ∨ 64 < x.stack) : headE x = 74 := if_pos h
theorem head_130 (h : ¬ (8 < x.params.length ∨ 4 < x.results.length ∨ 2048 < x.code.length ∨ 32 < x.locals ∨ 64 < x.stack)) (h1 : x.locals < 0 ∨ x.stack < 0) : headE x = 130 := by unfold headE; rw [if_neg h, if_pos h1]
theorem head_132 (h : ¬ (8 < x.params.length ∨ 4 < x.results.length ∨ 2048 < x.code.length ∨ 32 < x.locals ∨ 64 < x.stack)) (h1 : ¬ (x.locals < 0 ∨ x.stack < 0)) (h2 : x.code.length = 0) : headE x = 132 := by unfold headE; rw [if_neg h, if_neg h1, if_pos h2]
theorem head_0 (h : ¬ (8 < x.params.length ∨ 4 < x.results.length ∨ 2048 < x.code.length ∨ 32 < x.locals ∨ 64 < x.stack)) (h1 : ¬ (x.locals < 0 ∨ x.stack < 0)) (h2 : ¬ x.code.length = 0) : headE x = 0 := by unfold headE; rw [if_neg h, if_neg h1, if_neg h2]
theorem ModR.bare {s : St} {m : ModL} {c : List AV} (k : ModR s.h m c) : ModR s.bare.h m c := k
end
set_option maxRecDepth 10000 in
set_option maxHeartbeats 4000000 in
theorem check_ref_ok {s : St} {c : List AV} {mm : ModL} (hok : s.Ok) (hm : mm.small) (hv : ModR s.h mm c) :
    CallS Try.prog Tt Kt 91 [.agg c] s (fun r s' => Keep [] s s' ∧ r = .agg (faultC (checkF mm))) := by
  have hz := hv.leaf.2
  obtain ⟨vg, va, vh, vf, rfl, hvg, hva, hvh, csf, hrf, hlf, hF⟩ := hv
  obtain ⟨hl1, hl3, hl2, hl4, -⟩ := id hm
  refine call_of (fn := Try.f91) (nt := 158) Try.func91 rfl rfl rfl ?_
  repeat refine wc_seq ?_
  refine wc_region ?_
  refine w_box rfl rfl rfl hz hok ?_
  intro s1 hp1 hk1 hc1
  have hK := (Keep.refl hok).two hk1
  have hp : Pt s1.h (.ptr s.ctr 0 0) [vg, va, vh, vf] := hp1
  refine w_alloc rfl rfl rfl rfl hK.ok ?_
  intro s2 hq hk2 hc2
  have hK := hK.two hk2
  have hp := hp.keep0 hk2
  have hq : Pt s2.h (.ptr s1.ctr 0 0) [.int .i64 0, .int .i64 0, .int .i64 0] := hq
  have hsv : va.slen = some mm.arrays.length := hva.slenF
  have hsf : vf.slen = some mm.funcs.length := hrf.slen.trans (congrArg some hlf)
  refine w_nil ?_
  refine then_n ?_
  repeat refine wc_seq ?_
  refine wc_region ?_
  refine w_val rfl rfl (op_fld rfl rfl rfl rfl (by decide) (by assumption) (Nat.le_of_ble_eq_true rfl)) ?_
  refine w_val rfl rfl (op_load rfl rfl (by assumption) rfl) ?_
  refine w_val rfl rfl (op_len rfl rfl rfl rfl rfl (Row.slenF (by assumption))) ?_
  refine w_val rfl rfl (op_pure rfl) ?_
  refine w_val rfl rfl (op_pure rfl) ?_
  refine w_split (i := 13) rfl (fun h13 => ?_) (fun h13 => ?_)
  · simp only [decide_eq_true_eq, gt_iff_lt] at h13
    refine w_off rfl rfl ?_
    refine w_off rfl rfl ?_
    refine w_off rfl rfl ?_
    refine w_off rfl rfl ?_
    refine w_val rfl rfl (op_pure rfl) ?_
    refine w_val rfl rfl (op_pure rfl) ?_
    refine w_off rfl rfl ?_
    refine w_off rfl rfl ?_
    refine w_off rfl rfl ?_
    refine w_off rfl rfl ?_
    refine w_val rfl rfl (op_pure rfl) ?_
    refine w_val rfl rfl (op_pure rfl) ?_
    refine w_off rfl rfl ?_
    refine w_off rfl rfl ?_
    refine w_off rfl rfl ?_
    refine w_off rfl rfl ?_
    refine w_val rfl rfl (op_pure rfl) ?_
    refine w_nil ?_
    refine then_n ?_
    repeat refine wc_seq ?_
    refine wc_cond_t rfl ?_
    repeat refine wc_seq ?_
    refine wc_region ?_
    refine w_val rfl rfl (op_pure rfl) ?_
    refine w_store_all (old := [.int .i64 0, .int .i64 0, .int .i64 0]) rfl rfl rfl rfl rfl (by rfl) rfl hK.ok hq (by simp [AV.gs]) ?_
    intro sq hq' hkq hcq
    have hq : Pt sq.h (.ptr s1.ctr 0 0) [.int .i64 74, .int .i64 (-1), .int .i64 0] := hq'
    have hK := hK.fresh hkq (fun g hg => by rw [List.mem_singleton.1 hg]; have := hk1.ctr; omega)
    refine w_nil ?_
    refine then_n ?_
    refine wc_ret ?_
    repeat first | refine then_r ?_ | refine out_r ?_ | refine round_r ?_ | refine cut_r ?_ | refine sc_r ?_
    exact ⟨_, res_cell rfl rfl hq rfl, hK, congrArg (fun r => AV.agg (faultC r)) (chk_many (by omega)).symm⟩
  simp only [decide_eq_false_iff_not, gt_iff_lt] at h13
  refine w_val rfl rfl (op_fld rfl rfl rfl rfl (by decide) (by assumption) (Nat.le_of_ble_eq_true rfl)) ?_
  refine w_val rfl rfl (op_load rfl rfl (Pt.fld (by assumption) _ (Nat.le_of_ble_eq_true rfl)) rfl) ?_
  refine w_val rfl rfl (op_len rfl rfl rfl rfl rfl (by assumption)) ?_
  refine w_val rfl rfl (op_pure rfl) ?_
  refine w_val rfl rfl (op_pure rfl) ?_
  refine w_val rfl rfl (op_pure rfl) ?_
  refine w_split (i := 19) rfl (fun h19 => ?_) (fun h19 => ?_)
  · simp only [decide_eq_true_eq, gt_iff_lt] at h19
    refine w_off rfl rfl ?_
    refine w_off rfl rfl ?_
    refine w_off rfl rfl ?_
    refine w_off rfl rfl ?_
    refine w_val rfl rfl (op_pure rfl) ?_
    refine w_val rfl rfl (op_pure rfl) ?_
    refine w_off rfl rfl ?_
    refine w_off rfl rfl ?_
    refine w_off rfl rfl ?_
    refine w_off rfl rfl ?_
    refine w_val rfl rfl (op_pure rfl) ?_
    refine w_nil ?_
    refine then_n ?_
    repeat refine wc_seq ?_
    refine wc_cond_t rfl ?_
    repeat refine wc_seq ?_
    refine wc_region ?_
    refine w_val rfl rfl (op_pure rfl) ?_
    refine w_store_all (old := [.int .i64 0, .int .i64 0, .int .i64 0]) rfl rfl rfl rfl rfl (by rfl) rfl hK.ok hq (by simp [AV.gs]) ?_
    intro sq hq' hkq hcq
    have hq : Pt sq.h (.ptr s1.ctr 0 0) [.int .i64 74, .int .i64 (-1), .int .i64 0] := hq'
    have hK := hK.fresh hkq (fun g hg => by rw [List.mem_singleton.1 hg]; have := hk1.ctr; omega)
    refine w_nil ?_
    refine then_n ?_
    refine wc_ret ?_
    repeat first | refine then_r ?_ | refine out_r ?_ | refine round_r ?_ | refine cut_r ?_ | refine sc_r ?_
    exact ⟨_, res_cell rfl rfl hq rfl, hK, congrArg (fun r => AV.agg (faultC r)) (chk_many (by omega)).symm⟩
  simp only [decide_eq_false_iff_not, gt_iff_lt] at h19
  refine w_val rfl rfl (op_fld rfl rfl rfl rfl (by decide) (by assumption) (Nat.le_of_ble_eq_true rfl)) ?_
  refine w_val rfl rfl (op_load rfl rfl (Pt.fld (by assumption) _ (Nat.le_of_ble_eq_true rfl)) rfl) ?_
  refine w_val rfl rfl (op_len rfl rfl rfl rfl rfl (Row.slenF (by assumption))) ?_
  refine w_val rfl rfl (op_pure rfl) ?_
  refine w_val rfl rfl (op_pure rfl) ?_
  refine w_val rfl rfl (op_pure rfl) ?_
  refine w_split (i := 25) rfl (fun h25 => ?_) (fun h25 => ?_)
  · simp only [decide_eq_true_eq, gt_iff_lt] at h25
    refine w_off rfl rfl ?_
    refine w_off rfl rfl ?_
    refine w_off rfl rfl ?_
    refine w_off rfl rfl ?_
    refine w_val rfl rfl (op_pure rfl) ?_
    refine w_nil ?_
    refine then_n ?_
    repeat refine wc_seq ?_
    refine wc_cond_t rfl ?_
    repeat refine wc_seq ?_
    refine wc_region ?_
    refine w_val rfl rfl (op_pure rfl) ?_
    refine w_store_all (old := [.int .i64 0, .int .i64 0, .int .i64 0]) rfl rfl rfl rfl rfl (by rfl) rfl hK.ok hq (by simp [AV.gs]) ?_
    intro sq hq' hkq hcq
    have hq : Pt sq.h (.ptr s1.ctr 0 0) [.int .i64 74, .int .i64 (-1), .int .i64 0] := hq'
    have hK := hK.fresh hkq (fun g hg => by rw [List.mem_singleton.1 hg]; have := hk1.ctr; omega)
    refine w_nil ?_
    refine then_n ?_
    refine wc_ret ?_
    repeat first | refine then_r ?_ | refine out_r ?_ | refine round_r ?_ | refine cut_r ?_ | refine sc_r ?_
    exact ⟨_, res_cell rfl rfl hq rfl, hK, congrArg (fun r => AV.agg (faultC r)) (chk_many (by omega)).symm⟩
  simp only [decide_eq_false_iff_not, gt_iff_lt] at h25
  refine w_val rfl rfl (op_fld rfl rfl rfl rfl (by decide) (by assumption) (Nat.le_of_ble_eq_true rfl)) ?_
  refine w_val rfl rfl (op_load rfl rfl (Pt.fld (by assumption) _ (Nat.le_of_ble_eq_true rfl)) rfl) ?_
  refine w_val rfl rfl (op_len rfl rfl rfl rfl rfl (by assumption)) ?_
  refine w_val rfl rfl (op_pure rfl) ?_
  refine w_val rfl rfl (op_pure rfl) ?_
  refine w_nil ?_
  refine then_n ?_
  repeat refine wc_seq ?_
  refine wc_condT rfl (fun h30 => ?_) (fun h30 => ?_)
  · simp only [decide_eq_true_eq, gt_iff_lt] at h30
    repeat refine wc_seq ?_
    refine wc_region ?_
    refine w_val rfl rfl (op_pure rfl) ?_
    refine w_store_all (old := [.int .i64 0, .int .i64 0, .int .i64 0]) rfl rfl rfl rfl rfl (by rfl) rfl hK.ok hq (by simp [AV.gs]) ?_
    intro sq hq' hkq hcq
    have hq : Pt sq.h (.ptr s1.ctr 0 0) [.int .i64 74, .int .i64 (-1), .int .i64 0] := hq'
    have hK := hK.fresh hkq (fun g hg => by rw [List.mem_singleton.1 hg]; have := hk1.ctr; omega)
    refine w_nil ?_
    refine then_n ?_
    refine wc_ret ?_
    repeat first | refine then_r ?_ | refine out_r ?_ | refine round_r ?_ | refine cut_r ?_ | refine sc_r ?_
    exact ⟨_, res_cell rfl rfl hq rfl, hK, congrArg (fun r => AV.agg (faultC r)) (chk_many (by omega)).symm⟩
  simp only [decide_eq_false_iff_not, gt_iff_lt] at h30
  refine wc_skip ?_
  refine then_n ?_
  repeat refine wc_seq ?_
  have hmany : ¬ (32 < mm.globals.length ∨ 16 < mm.arrays.length ∨ 16 < mm.channels.length ∨ 32 < mm.funcs.length) := by omega
  refine wc_region ?_
  refine w_val rfl rfl (op_pure rfl) ?_
  refine w_nil ?_
  refine then_n ?_
  repeat refine wc_seq ?_
  refine wc_block ?_
  refine wc_loop_at (fun j m sI => ∃ (i : Nat), j = mm.arrays.length - i ∧ i ≤ mm.arrays.length ∧ m = [(1, .ptr s.ctr 0 0), (2, .ptr s1.ctr 0 0), (3, .int .i64 (i : Nat))] ∧ Keep [] s sI ∧ s2.ctr ≤ sI.ctr ∧ Pt sI.h (.ptr s.ctr 0 0) [vg, va, vh, vf] ∧ Pt sI.h (.ptr s1.ctr 0 0) [.int .i64 0, .int .i64 0, .int .i64 0] ∧ fo (arrP mm) i = none) mm.arrays.length
    [(1, .ptr s.ctr 0 0), (2, .ptr s1.ctr 0 0), (3, .int .i64 ((0 : Nat) : Int))] (Sub.cons rfl (Sub.cons rfl (Sub.cons rfl (Sub.nil _)))) ⟨0, by simp, by simp, rfl, hK, Nat.le_refl _, hp, hq, rfl⟩ ?_
  clear hK hp hq
  rintro j m s3 ⟨i, rfl, hi, rfl, hK, hcI, hp, hq, hfo⟩
  repeat refine wc_seq ?_
  refine wc_region ?_
  refine w_val rfl rfl (op_pure rfl) ?_
  refine w_val rfl rfl (op_fld rfl rfl rfl rfl (by decide) (by assumption) (Nat.le_of_ble_eq_true rfl)) ?_
  refine w_val rfl rfl (op_load rfl rfl (Pt.fld (by assumption) _ (Nat.le_of_ble_eq_true rfl)) rfl) ?_
  refine w_val rfl rfl (op_len rfl rfl rfl rfl rfl (by assumption)) ?_
  refine w_val rfl rfl (op_pure rfl) ?_
  refine w_nil ?_
  refine then_n ?_
  repeat refine wc_seq ?_
  refine wc_condT rfl (fun h36 => ?_) (fun h36 => ?_)
  · simp only [decide_eq_true_eq] at h36
    refine wc_skip ?_
    refine then_n ?_
    repeat refine wc_seq ?_
    refine wc_block ?_
    repeat refine wc_seq ?_
    obtain ⟨a, ha⟩ : ∃ x, mm.arrays[i]? = some x := ⟨_, List.getElem?_eq_getElem (by omega)⟩
    have hi' : i < mm.arrays.length := by omega
    refine wc_region ?_
    refine w_val rfl rfl (op_fld rfl rfl rfl rfl (by decide) (by assumption) (Nat.le_of_ble_eq_true rfl)) ?_
    refine w_val rfl rfl (op_load rfl rfl (Pt.fld (by assumption) _ (Nat.le_of_ble_eq_true rfl)) rfl) ?_
    refine w_val rfl rfl (op_pure rfl) ?_
    refine w_val rfl rfl (op_idxF rfl rfl (natA_cast _ _) rfl rfl rfl rfl (Row.keep0 (by assumption) hK) (by omega)) ?_
    refine w_val rfl rfl (op_fld rfl rfl rfl rfl (by decide) (Pt.keep0 (Row.mk_pt (by assumption) (by assumption)) hK) (Nat.le_of_ble_eq_true rfl)) ?_
    refine w_val rfl rfl (op_load rfl rfl (Pt.fld (Pt.keep0 (Row.mk_pt (by assumption) (by assumption)) hK) _ (Nat.le_of_ble_eq_true rfl)) rfl) ?_
    refine w_val rfl rfl (op_pure rfl) ?_
    refine w_val rfl rfl (op_pure rfl) ?_
    refine w_split (i := 46) rfl (fun h46 => ?_) (fun h46 => ?_)
    · simp only [decide_eq_true_eq] at h46
      refine w_off rfl rfl ?_
      refine w_off rfl rfl ?_
      refine w_off rfl rfl ?_
      refine w_off rfl rfl ?_
      refine w_off rfl rfl ?_
      refine w_off rfl rfl ?_
      refine w_off rfl rfl ?_
      refine w_val rfl rfl (op_pure rfl) ?_
      refine w_nil ?_
      refine then_n ?_
      refine wc_cond_t rfl ?_
      repeat refine wc_seq ?_
      refine wc_region ?_
      refine w_val rfl rfl (op_pure rfl) ?_
      refine w_val rfl rfl (op_pure rfl) ?_
      refine w_store_all (old := [.int .i64 0, .int .i64 0, .int .i64 0]) rfl rfl rfl rfl rfl (by rfl) rfl hK.ok hq (by simp [AV.gs]) ?_
      intro sq hq' hkq hcq
      have hq : Pt sq.h (.ptr s1.ctr 0 0) [.int .i64 130, .int .i64 (-1), .int .i64 (i : Nat)] := hq'
      have hK := hK.fresh hkq (fun g hg => by rw [List.mem_singleton.1 hg]; have := hk1.ctr; omega)
      refine w_nil ?_
      refine then_n ?_
      refine wc_ret ?_
      repeat first | refine then_r ?_ | refine out_r ?_ | refine round_r ?_ | refine cut_r ?_ | refine sc_r ?_
      exact ⟨_, res_cell rfl rfl hq rfl, hK, congrArg (fun r => AV.agg (faultC r)) (chk_arr hmany (fo_hit hfo (arrP_bad ha (by omega)) hi')).symm⟩
    simp only [decide_eq_false_iff_not] at h46
    refine w_val rfl rfl (op_fld rfl rfl rfl rfl (by decide) (by assumption) (Nat.le_of_ble_eq_true rfl)) ?_
    refine w_val rfl rfl (op_load rfl rfl (Pt.fld (by assumption) _ (Nat.le_of_ble_eq_true rfl)) rfl) ?_
    refine w_val rfl rfl (op_pure rfl) ?_
    refine w_val rfl rfl (op_idxF rfl rfl (natA_cast _ _) rfl rfl rfl rfl (Row.keep0 (by assumption) hK) (by omega)) ?_
    refine w_val rfl rfl (op_fld rfl rfl rfl rfl (by decide) (Pt.keep0 (Row.mk_pt (by assumption) (by assumption)) hK) (Nat.le_of_ble_eq_true rfl)) ?_
    refine w_val rfl rfl (op_load rfl rfl (Pt.fld (Pt.keep0 (Row.mk_pt (by assumption) (by assumption)) hK) _ (Nat.le_of_ble_eq_true rfl)) rfl) ?_
    refine w_val rfl rfl (op_pure rfl) ?_
    refine w_val rfl rfl (op_pure rfl) ?_
    refine w_nil ?_
    refine then_n ?_
    refine wc_condT rfl (fun h54 => ?_) (fun h54 => ?_)
    · simp only [decide_eq_true_eq, gt_iff_lt] at h54
      repeat refine wc_seq ?_
      refine wc_region ?_
      refine w_val rfl rfl (op_pure rfl) ?_
      refine w_val rfl rfl (op_pure rfl) ?_
      refine w_store_all (old := [.int .i64 0, .int .i64 0, .int .i64 0]) rfl rfl rfl rfl rfl (by rfl) rfl hK.ok hq (by simp [AV.gs]) ?_
      intro sq hq' hkq hcq
      have hq : Pt sq.h (.ptr s1.ctr 0 0) [.int .i64 130, .int .i64 (-1), .int .i64 (i : Nat)] := hq'
      have hK := hK.fresh hkq (fun g hg => by rw [List.mem_singleton.1 hg]; have := hk1.ctr; omega)
      refine w_nil ?_
      refine then_n ?_
      refine wc_ret ?_
      repeat first | refine then_r ?_ | refine out_r ?_ | refine round_r ?_ | refine cut_r ?_ | refine sc_r ?_
      exact ⟨_, res_cell rfl rfl hq rfl, hK, congrArg (fun r => AV.agg (faultC r)) (chk_arr hmany (fo_hit hfo (arrP_bad ha (by omega)) hi')).symm⟩
    simp only [decide_eq_false_iff_not, gt_iff_lt] at h54
    refine wc_skip ?_
    refine out_n ?_
    refine then_n ?_
    refine wc_region ?_
    refine w_val rfl rfl (op_pure rfl) ?_
    refine w_val rfl rfl (op_add rfl rfl (by unfold In64; omega)) ?_
    refine w_val rfl rfl (op_pure rfl) ?_
    refine w_nil ?_
    exact round_n _ _ (by omega) (Sub.cons rfl (Sub.cons rfl (Sub.cons rfl (Sub.nil _)))) ⟨i + 1, rfl, by omega, rfl, hK, by omega, hp, hq, fo_next hfo (arrP_ok ha (by omega))⟩
  simp only [decide_eq_false_iff_not] at h36
  obtain rfl : i = mm.arrays.length := by omega
  refine wc_exit ?_
  repeat first | refine then_x ?_ | refine round_x ?_ | refine cut_x ?_ | refine out_x' (by decide) ?_
  refine out_x ?_
  refine then_n ?_
  repeat refine wc_seq ?_
  refine wc_region ?_
  refine w_val rfl rfl (op_pure rfl) ?_
  refine w_nil ?_
  refine then_n ?_
  repeat refine wc_seq ?_
  refine wc_block ?_
  refine wc_loop_at (fun j m sI => ∃ (f : Nat), j = mm.funcs.length - f ∧ f ≤ mm.funcs.length ∧ m = [(1, .ptr s.ctr 0 0), (2, .ptr s1.ctr 0 0), (4, .int .i64 (f : Nat))] ∧ Keep [] s sI ∧ s2.ctr ≤ sI.ctr ∧ Pt sI.h (.ptr s.ctr 0 0) [vg, va, vh, vf] ∧ Pt sI.h (.ptr s1.ctr 0 0) [.int .i64 0, .int .i64 0, .int .i64 0] ∧ fo (funP mm) f = none) mm.funcs.length
    [(1, .ptr s.ctr 0 0), (2, .ptr s1.ctr 0 0), (4, .int .i64 ((0 : Nat) : Int))] (Sub.cons rfl (Sub.cons rfl (Sub.cons rfl (Sub.nil _)))) ⟨0, by simp, by simp, rfl, hK, hcI, hp, hq, rfl⟩ ?_
  clear hK hp hq hcI
  rintro j m s6 ⟨f, rfl, hf, rfl, hK, hcI, hp, hq, hff⟩
  repeat refine wc_seq ?_
  refine wc_region ?_
  refine w_val rfl rfl (op_pure rfl) ?_
  refine w_val rfl rfl (op_fld rfl rfl rfl rfl (by decide) (by assumption) (Nat.le_of_ble_eq_true rfl)) ?_
  refine w_val rfl rfl (op_load rfl rfl (Pt.fld (by assumption) _ (Nat.le_of_ble_eq_true rfl)) rfl) ?_
  refine w_val rfl rfl (op_len rfl rfl rfl rfl rfl (by assumption)) ?_
  refine w_val rfl rfl (op_pure rfl) ?_
  refine w_nil ?_
  refine then_n ?_
  repeat refine wc_seq ?_
  refine wc_condT rfl (fun h61 => ?_) (fun h61 => ?_)
  · simp only [decide_eq_true_eq] at h61
    refine wc_skip ?_
    refine then_n ?_
    repeat refine wc_seq ?_
    refine wc_block ?_
    repeat refine wc_seq ?_
    obtain ⟨x, hx⟩ : ∃ x, mm.funcs[f]? = some x := ⟨_, List.getElem?_eq_getElem (by omega)⟩
    have hf' : f < mm.funcs.length := by omega
    obtain ⟨cx, hcx⟩ : ∃ c, csf[f]? = some c := ⟨_, List.getElem?_eq_getElem (by omega)⟩
    have hfx := hF f x cx hx hcx
    have hzx := hfx.leaf.2
    obtain ⟨vp, vr, vc, rfl, hvp, hvr, hvc⟩ := hfx
    have hsx := hm.2.2.2.2 x (List.mem_of_getElem? hx)
    have hx3 := hsx.2.2
    have hsc : vc.slen = some x.code.length := hvc.slenF
    refine wc_region ?_
    refine w_val rfl rfl (op_fld rfl rfl rfl rfl (by decide) (by assumption) (Nat.le_of_ble_eq_true rfl)) ?_
    refine w_val rfl rfl (op_load rfl rfl (Pt.fld (by assumption) _ (Nat.le_of_ble_eq_true rfl)) rfl) ?_
    refine w_val rfl rfl (op_pure rfl) ?_
    refine w_val rfl rfl (op_idx rfl rfl (natA_cast _ _) rfl rfl rfl rfl (Row.keep0 (by assumption) hK) (by omega)) ?_
    refine w_val rfl rfl (op_load rfl rfl (Pt.keep0 (Row.pt (by assumption) (by assumption)) hK) rfl) ?_
    refine w_alloc rfl rfl rfl rfl hK.ok ?_
    intro s7 hv7 hk7 hc7
    have hK := hK.two hk7
    have hp := hp.keep0 hk7
    have hq := hq.keep0 hk7
    refine w_store_all rfl rfl rfl rfl rfl (by rfl) hzx hK.ok hv7 (by simp [AV.gs]) ?_
    intro s8 hv8 hk8 hc8
    have hw : Pt s8.h (.ptr s6.ctr 0 0) [.int .u64 x.level, vp, vr, .int .i64 x.locals, .int .i64 x.stack, vc] := hv8
    have hbelow := hK.ctr
    have hK := hK.fresh hk8 (fun g hg => by rw [List.mem_singleton.1 hg]; omega)
    have hp := hp.keep hk8 (fun g hg h => by rw [List.mem_singleton.1 hg] at h; have := List.mem_singleton.1 h; omega)
    have hq := hq.keep hk8 (fun g hg h => by rw [List.mem_singleton.1 hg] at h; have := List.mem_singleton.1 h; omega)
    refine w_nil ?_
    refine then_n ?_
    repeat refine wc_seq ?_
    refine wc_region ?_
    refine w_val rfl rfl (op_fld rfl rfl rfl rfl (by decide) (by assumption) (Nat.le_of_ble_eq_true rfl)) ?_
    refine w_val rfl rfl (op_load rfl rfl (Pt.fld (by assumption) _ (Nat.le_of_ble_eq_true rfl)) rfl) ?_
    refine w_val rfl rfl (op_len rfl rfl rfl rfl rfl (by assumption)) ?_
    refine w_val rfl rfl (op_pure rfl) ?_
    refine w_nil ?_
    refine then_n ?_
    repeat refine wc_seq ?_
    refine wc_region ?_
    refine w_val rfl rfl (op_fld rfl rfl rfl rfl (by decide) (by assumption) (Nat.le_of_ble_eq_true rfl)) ?_
    refine w_val rfl rfl (op_load rfl rfl (Pt.fld (by assumption) _ (Nat.le_of_ble_eq_true rfl)) rfl) ?_
    refine w_val rfl rfl (op_len rfl rfl rfl rfl rfl (Row.slenF (by assumption))) ?_
    refine w_val rfl rfl (op_pure rfl) ?_
    refine w_val rfl rfl (op_pure rfl) ?_
    refine w_split (i := 76) rfl (fun h76 => ?_) (fun h76 => ?_)
    · simp only [decide_eq_true_eq, gt_iff_lt] at h76
      refine w_off rfl rfl ?_
      refine w_off rfl rfl ?_
      refine w_off rfl rfl ?_
      refine w_off rfl rfl ?_
      refine w_val rfl rfl (op_pure rfl) ?_
      refine w_val rfl rfl (op_pure rfl) ?_
      refine w_off rfl rfl ?_
      refine w_off rfl rfl ?_
      refine w_val rfl rfl (op_pure rfl) ?_
      refine w_val rfl rfl (op_pure rfl) ?_
      refine w_off rfl rfl ?_
      refine w_off rfl rfl ?_
      refine w_off rfl rfl ?_
      refine w_val rfl rfl (op_pure rfl) ?_
      refine w_val rfl rfl (op_pure rfl) ?_
      refine w_off rfl rfl ?_
      refine w_off rfl rfl ?_
      refine w_off rfl rfl ?_
      refine w_val rfl rfl (op_pure rfl) ?_
      refine w_nil ?_
      refine then_n ?_
      repeat refine wc_seq ?_
      refine wc_cond_t rfl ?_
      repeat refine wc_seq ?_
      refine wc_region ?_
      refine w_val rfl rfl (op_pure rfl) ?_
      refine w_val rfl rfl (op_pure rfl) ?_
      refine w_store_all (old := [.int .i64 0, .int .i64 0, .int .i64 0]) rfl rfl rfl rfl rfl (by rfl) rfl hK.ok hq (by simp [AV.gs]) ?_
      intro sq hq' hkq hcq
      have hq : Pt sq.h (.ptr s1.ctr 0 0) [.int .i64 74, .int .i64 (f : Nat), .int .i64 (-1)] := hq'
      have hK := hK.fresh hkq (fun g hg => by rw [List.mem_singleton.1 hg]; have := hk1.ctr; omega)
      refine w_nil ?_
      refine then_n ?_
      refine wc_ret ?_
      repeat first | refine then_r ?_ | refine out_r ?_ | refine round_r ?_ | refine cut_r ?_ | refine sc_r ?_
      exact ⟨_, res_cell rfl rfl hq rfl, hK, congrArg (fun r => AV.agg (faultC r)) (chk_fun hmany hfo (fo_hit hff (funP_hd hx (head_74 (by omega)) (by decide)) hf')).symm⟩
    simp only [decide_eq_false_iff_not, gt_iff_lt] at h76
    refine w_val rfl rfl (op_fld rfl rfl rfl rfl (by decide) (by assumption) (Nat.le_of_ble_eq_true rfl)) ?_
    refine w_val rfl rfl (op_load rfl rfl (Pt.fld (by assumption) _ (Nat.le_of_ble_eq_true rfl)) rfl) ?_
    refine w_val rfl rfl (op_len rfl rfl rfl rfl rfl (Row.slenF (by assumption))) ?_
    refine w_val rfl rfl (op_pure rfl) ?_
    refine w_val rfl rfl (op_pure rfl) ?_
    refine w_val rfl rfl (op_pure rfl) ?_
    refine w_split (i := 82) rfl (fun h82 => ?_) (fun h82 => ?_)
    · simp only [decide_eq_true_eq, gt_iff_lt] at h82
      refine w_off rfl rfl ?_
      refine w_off rfl rfl ?_
      refine w_val rfl rfl (op_pure rfl) ?_
      refine w_val rfl rfl (op_pure rfl) ?_
      refine w_off rfl rfl ?_
      refine w_off rfl rfl ?_
      refine w_off rfl rfl ?_
      refine w_val rfl rfl (op_pure rfl) ?_
      refine w_val rfl rfl (op_pure rfl) ?_
      refine w_off rfl rfl ?_
      refine w_off rfl rfl ?_
      refine w_off rfl rfl ?_
      refine w_val rfl rfl (op_pure rfl) ?_
      refine w_nil ?_
      refine then_n ?_
      repeat refine wc_seq ?_
      refine wc_cond_t rfl ?_
      repeat refine wc_seq ?_
      refine wc_region ?_
      refine w_val rfl rfl (op_pure rfl) ?_
      refine w_val rfl rfl (op_pure rfl) ?_
      refine w_store_all (old := [.int .i64 0, .int .i64 0, .int .i64 0]) rfl rfl rfl rfl rfl (by rfl) rfl hK.ok hq (by simp [AV.gs]) ?_
      intro sq hq' hkq hcq
      have hq : Pt sq.h (.ptr s1.ctr 0 0) [.int .i64 74, .int .i64 (f : Nat), .int .i64 (-1)] := hq'
      have hK := hK.fresh hkq (fun g hg => by rw [List.mem_singleton.1 hg]; have := hk1.ctr; omega)
      refine w_nil ?_
      refine then_n ?_
      refine wc_ret ?_
      repeat first | refine then_r ?_ | refine out_r ?_ | refine round_r ?_ | refine cut_r ?_ | refine sc_r ?_
      exact ⟨_, res_cell rfl rfl hq rfl, hK, congrArg (fun r => AV.agg (faultC r)) (chk_fun hmany hfo (fo_hit hff (funP_hd hx (head_74 (by omega)) (by decide)) hf')).symm⟩
    simp only [decide_eq_false_iff_not, gt_iff_lt] at h82
    refine w_val rfl rfl (op_pure rfl) ?_
    refine w_val rfl rfl (op_pure rfl) ?_
    refine w_val rfl rfl (op_pure rfl) ?_
    refine w_val rfl rfl (op_pure rfl) ?_
    refine w_split (i := 86) rfl (fun h86 => ?_) (fun h86 => ?_)
    · simp only [decide_eq_true_eq, gt_iff_lt] at h86
      refine w_off rfl rfl ?_
      refine w_off rfl rfl ?_
      refine w_off rfl rfl ?_
      refine w_val rfl rfl (op_pure rfl) ?_
      refine w_val rfl rfl (op_pure rfl) ?_
      refine w_off rfl rfl ?_
      refine w_off rfl rfl ?_
      refine w_off rfl rfl ?_
      refine w_val rfl rfl (op_pure rfl) ?_
      refine w_nil ?_
      refine then_n ?_
      repeat refine wc_seq ?_
      refine wc_cond_t rfl ?_
      repeat refine wc_seq ?_
      refine wc_region ?_
      refine w_val rfl rfl (op_pure rfl) ?_
      refine w_val rfl rfl (op_pure rfl) ?_
      refine w_store_all (old := [.int .i64 0, .int .i64 0, .int .i64 0]) rfl rfl rfl rfl rfl (by rfl) rfl hK.ok hq (by simp [AV.gs]) ?_
      intro sq hq' hkq hcq
      have hq : Pt sq.h (.ptr s1.ctr 0 0) [.int .i64 74, .int .i64 (f : Nat), .int .i64 (-1)] := hq'
      have hK := hK.fresh hkq (fun g hg => by rw [List.mem_singleton.1 hg]; have := hk1.ctr; omega)
      refine w_nil ?_
      refine then_n ?_
      refine wc_ret ?_
      repeat first | refine then_r ?_ | refine out_r ?_ | refine round_r ?_ | refine cut_r ?_ | refine sc_r ?_
      exact ⟨_, res_cell rfl rfl hq rfl, hK, congrArg (fun r => AV.agg (faultC r)) (chk_fun hmany hfo (fo_hit hff (funP_hd hx (head_74 (by omega)) (by decide)) hf')).symm⟩
    simp only [decide_eq_false_iff_not, gt_iff_lt] at h86
    refine w_val rfl rfl (op_fld rfl rfl rfl rfl (by decide) (by assumption) (Nat.le_of_ble_eq_true rfl)) ?_
    refine w_val rfl rfl (op_load rfl rfl (Pt.fld (by assumption) _ (Nat.le_of_ble_eq_true rfl)) rfl) ?_
    refine w_val rfl rfl (op_pure rfl) ?_
    refine w_val rfl rfl (op_pure rfl) ?_
    refine w_val rfl rfl (op_pure rfl) ?_
    refine w_split (i := 91) rfl (fun h91 => ?_) (fun h91 => ?_)
    · simp only [decide_eq_true_eq, gt_iff_lt] at h91
      refine w_off rfl rfl ?_
      refine w_off rfl rfl ?_
      refine w_off rfl rfl ?_
      refine w_val rfl rfl (op_pure rfl) ?_
      refine w_nil ?_
      refine then_n ?_
      repeat refine wc_seq ?_
      refine wc_cond_t rfl ?_
      repeat refine wc_seq ?_
      refine wc_region ?_
      refine w_val rfl rfl (op_pure rfl) ?_
      refine w_val rfl rfl (op_pure rfl) ?_
      refine w_store_all (old := [.int .i64 0, .int .i64 0, .int .i64 0]) rfl rfl rfl rfl rfl (by rfl) rfl hK.ok hq (by simp [AV.gs]) ?_
      intro sq hq' hkq hcq
      have hq : Pt sq.h (.ptr s1.ctr 0 0) [.int .i64 74, .int .i64 (f : Nat), .int .i64 (-1)] := hq'
      have hK := hK.fresh hkq (fun g hg => by rw [List.mem_singleton.1 hg]; have := hk1.ctr; omega)
      refine w_nil ?_
      refine then_n ?_
      refine wc_ret ?_
      repeat first | refine then_r ?_ | refine out_r ?_ | refine round_r ?_ | refine cut_r ?_ | refine sc_r ?_
      exact ⟨_, res_cell rfl rfl hq rfl, hK, congrArg (fun r => AV.agg (faultC r)) (chk_fun hmany hfo (fo_hit hff (funP_hd hx (head_74 (by omega)) (by decide)) hf')).symm⟩
    simp only [decide_eq_false_iff_not, gt_iff_lt] at h91
    refine w_val rfl rfl (op_fld rfl rfl rfl rfl (by decide) (by assumption) (Nat.le_of_ble_eq_true rfl)) ?_
    refine w_val rfl rfl (op_load rfl rfl (Pt.fld (by assumption) _ (Nat.le_of_ble_eq_true rfl)) rfl) ?_
    refine w_val rfl rfl (op_pure rfl) ?_
    refine w_val rfl rfl (op_pure rfl) ?_
    refine w_nil ?_
    refine then_n ?_
    repeat refine wc_seq ?_
    refine wc_condT rfl (fun h95 => ?_) (fun h95 => ?_)
    · simp only [decide_eq_true_eq, gt_iff_lt] at h95
      repeat refine wc_seq ?_
      refine wc_region ?_
      refine w_val rfl rfl (op_pure rfl) ?_
      refine w_val rfl rfl (op_pure rfl) ?_
      refine w_store_all (old := [.int .i64 0, .int .i64 0, .int .i64 0]) rfl rfl rfl rfl rfl (by rfl) rfl hK.ok hq (by simp [AV.gs]) ?_
      intro sq hq' hkq hcq
      have hq : Pt sq.h (.ptr s1.ctr 0 0) [.int .i64 74, .int .i64 (f : Nat), .int .i64 (-1)] := hq'
      have hK := hK.fresh hkq (fun g hg => by rw [List.mem_singleton.1 hg]; have := hk1.ctr; omega)
      refine w_nil ?_
      refine then_n ?_
      refine wc_ret ?_
      repeat first | refine then_r ?_ | refine out_r ?_ | refine round_r ?_ | refine cut_r ?_ | refine sc_r ?_
      exact ⟨_, res_cell rfl rfl hq rfl, hK, congrArg (fun r => AV.agg (faultC r)) (chk_fun hmany hfo (fo_hit hff (funP_hd hx (head_74 (by omega)) (by decide)) hf')).symm⟩
    simp only [decide_eq_false_iff_not, gt_iff_lt] at h95
    refine wc_skip ?_
    refine then_n ?_
    repeat refine wc_seq ?_
    refine wc_region ?_
    refine w_val rfl rfl (op_fld rfl rfl rfl rfl (by decide) (by assumption) (Nat.le_of_ble_eq_true rfl)) ?_
    refine w_val rfl rfl (op_load rfl rfl (Pt.fld (by assumption) _ (Nat.le_of_ble_eq_true rfl)) rfl) ?_
    refine w_val rfl rfl (op_pure rfl) ?_
    refine w_val rfl rfl (op_pure rfl) ?_
    refine w_split (i := 101) rfl (fun h101 => ?_) (fun h101 => ?_)
    · simp only [decide_eq_true_eq] at h101
      refine w_off rfl rfl ?_
      refine w_off rfl rfl ?_
      refine w_off rfl rfl ?_
      refine w_val rfl rfl (op_pure rfl) ?_
      refine w_nil ?_
      refine then_n ?_
      repeat refine wc_seq ?_
      refine wc_cond_t rfl ?_
      repeat refine wc_seq ?_
      refine wc_region ?_
      refine w_val rfl rfl (op_pure rfl) ?_
      refine w_val rfl rfl (op_pure rfl) ?_
      refine w_store_all (old := [.int .i64 0, .int .i64 0, .int .i64 0]) rfl rfl rfl rfl rfl (by rfl) rfl hK.ok hq (by simp [AV.gs]) ?_
      intro sq hq' hkq hcq
      have hq : Pt sq.h (.ptr s1.ctr 0 0) [.int .i64 130, .int .i64 (f : Nat), .int .i64 (-1)] := hq'
      have hK := hK.fresh hkq (fun g hg => by rw [List.mem_singleton.1 hg]; have := hk1.ctr; omega)
      refine w_nil ?_
      refine then_n ?_
      refine wc_ret ?_
      repeat first | refine then_r ?_ | refine out_r ?_ | refine round_r ?_ | refine cut_r ?_ | refine sc_r ?_
      exact ⟨_, res_cell rfl rfl hq rfl, hK, congrArg (fun r => AV.agg (faultC r)) (chk_fun hmany hfo (fo_hit hff (funP_hd hx (head_130 (by omega) (by omega)) (by decide)) hf')).symm⟩
    simp only [decide_eq_false_iff_not] at h101
    refine w_val rfl rfl (op_fld rfl rfl rfl rfl (by decide) (by assumption) (Nat.le_of_ble_eq_true rfl)) ?_
    refine w_val rfl rfl (op_load rfl rfl (Pt.fld (by assumption) _ (Nat.le_of_ble_eq_true rfl)) rfl) ?_
    refine w_val rfl rfl (op_pure rfl) ?_
    refine w_val rfl rfl (op_pure rfl) ?_
    refine w_nil ?_
    refine then_n ?_
    repeat refine wc_seq ?_
    refine wc_condT rfl (fun h105 => ?_) (fun h105 => ?_)
    · simp only [decide_eq_true_eq] at h105
      repeat refine wc_seq ?_
      refine wc_region ?_
      refine w_val rfl rfl (op_pure rfl) ?_
      refine w_val rfl rfl (op_pure rfl) ?_
      refine w_store_all (old := [.int .i64 0, .int .i64 0, .int .i64 0]) rfl rfl rfl rfl rfl (by rfl) rfl hK.ok hq (by simp [AV.gs]) ?_
      intro sq hq' hkq hcq
      have hq : Pt sq.h (.ptr s1.ctr 0 0) [.int .i64 130, .int .i64 (f : Nat), .int .i64 (-1)] := hq'
      have hK := hK.fresh hkq (fun g hg => by rw [List.mem_singleton.1 hg]; have := hk1.ctr; omega)
      refine w_nil ?_
      refine then_n ?_
      refine wc_ret ?_
      repeat first | refine then_r ?_ | refine out_r ?_ | refine round_r ?_ | refine cut_r ?_ | refine sc_r ?_
      exact ⟨_, res_cell rfl rfl hq rfl, hK, congrArg (fun r => AV.agg (faultC r)) (chk_fun hmany hfo (fo_hit hff (funP_hd hx (head_130 (by omega) (by omega)) (by decide)) hf')).symm⟩
    simp only [decide_eq_false_iff_not] at h105
    refine wc_skip ?_
    refine then_n ?_
    repeat refine wc_seq ?_
    refine wc_region ?_
    refine w_val rfl rfl (op_pure rfl) ?_
    refine w_val rfl rfl (op_pure rfl) ?_
    refine w_nil ?_
    refine then_n ?_
    repeat refine wc_seq ?_
    refine wc_condT rfl (fun h109 => ?_) (fun h109 => ?_)
    · simp only [beq_iff_eq] at h109
      repeat refine wc_seq ?_
      refine wc_region ?_
      refine w_val rfl rfl (op_pure rfl) ?_
      refine w_val rfl rfl (op_pure rfl) ?_
      refine w_store_all (old := [.int .i64 0, .int .i64 0, .int .i64 0]) rfl rfl rfl rfl rfl (by rfl) rfl hK.ok hq (by simp [AV.gs]) ?_
      intro sq hq' hkq hcq
      have hq : Pt sq.h (.ptr s1.ctr 0 0) [.int .i64 132, .int .i64 (f : Nat), .int .i64 (-1)] := hq'
      have hK := hK.fresh hkq (fun g hg => by rw [List.mem_singleton.1 hg]; have := hk1.ctr; omega)
      refine w_nil ?_
      refine then_n ?_
      refine wc_ret ?_
      repeat first | refine then_r ?_ | refine out_r ?_ | refine round_r ?_ | refine cut_r ?_ | refine sc_r ?_
      exact ⟨_, res_cell rfl rfl hq rfl, hK, congrArg (fun r => AV.agg (faultC r)) (chk_fun hmany hfo (fo_hit hff (funP_hd hx (head_132 (by omega) (by omega) (by omega)) (by decide)) hf')).symm⟩
    simp only [beq_eq_false_iff_ne, ne_eq] at h109
    refine wc_skip ?_
    refine then_n ?_
    repeat refine wc_seq ?_
    have h64 : headE x = 0 := head_0 (by omega) (by omega) (by omega)
    refine wc_region ?_
    refine w_val rfl rfl (op_pure rfl) ?_
    refine w_nil ?_
    refine then_n ?_
    refine wc_block ?_
    refine wc_loop_at (fun j m sI => ∃ (a : Nat), j = x.code.length - a ∧ a ≤ x.code.length ∧ m = [(1, .ptr s.ctr 0 0), (2, .ptr s1.ctr 0 0), (4, .int .i64 (f : Nat)), (5, .ptr s6.ctr 0 0), (6, .int .i64 (x.code.length : Nat)), (7, .int .i64 (a : Nat))] ∧ Keep [] s sI ∧ s2.ctr ≤ sI.ctr ∧ Pt sI.h (.ptr s.ctr 0 0) [vg, va, vh, vf] ∧ Pt sI.h (.ptr s1.ctr 0 0) [.int .i64 0, .int .i64 0, .int .i64 0] ∧ s8.ctr ≤ sI.ctr ∧ Pt sI.h (.ptr s6.ctr 0 0) [.int .u64 x.level, vp, vr, .int .i64 x.locals, .int .i64 x.stack, vc] ∧ fo (insP mm x f) a = none) x.code.length
      [(1, .ptr s.ctr 0 0), (2, .ptr s1.ctr 0 0), (4, .int .i64 (f : Nat)), (5, .ptr s6.ctr 0 0), (6, .int .i64 (x.code.length : Nat)), (7, .int .i64 ((0 : Nat) : Int))] (Sub.cons rfl (Sub.cons rfl (Sub.cons rfl (Sub.cons rfl (Sub.cons rfl (Sub.cons rfl (Sub.nil _))))))) ⟨0, by simp, by simp, rfl, hK, by omega, hp, hq, by omega, hw, rfl⟩ ?_
    clear hK hp hq hw
    rintro j m s10 ⟨a, rfl, ha, rfl, hK, hcJ, hp, hq, hc10, hw, hfa⟩
    repeat refine wc_seq ?_
    refine wc_region ?_
    refine w_val rfl rfl (op_pure rfl) ?_
    refine w_val rfl rfl (op_pure rfl) ?_
    refine w_val rfl rfl (op_pure rfl) ?_
    refine w_nil ?_
    refine then_n ?_
    repeat refine wc_seq ?_
    refine wc_condT rfl (fun h114 => ?_) (fun h114 => ?_)
    · simp only [decide_eq_true_eq] at h114
      refine wc_skip ?_
      refine then_n ?_
      repeat refine wc_seq ?_
      refine wc_block ?_
      repeat refine wc_seq ?_
      obtain ⟨y, hy⟩ : ∃ x', x.code[a]? = some x' := ⟨_, List.getElem?_eq_getElem (by omega)⟩
      have ha' : a < x.code.length := by omega
      have hvc10 := hvc.keep0 hK
      have hm10 : ModR s10.h mm [vg, va, vh, vf] := ⟨vg, va, vh, vf, rfl, hvg.keep0 hK, hva.keep0 hK, hvh.keep0 hK, RowR.keep0 FuncR.keep0 (⟨csf, hrf, hlf, hF⟩ : RowR s.h 6 FuncR vf mm.funcs) hK⟩
      have hR := Keep.refl (s := s10) (hK.ok)
      refine wc_draw (Old s10 []) (by kernel_rfl) rfl ?_
      refine wo_load hR rfl rfl (by assumption) rfl (fun _ _ h => by cases h) rfl rfl ?_
      refine wo_val (fun _ => rfl) rfl rfl (op_pure rfl) ?_
      refine wo_val (fun _ => rfl) rfl rfl (op_fld rfl rfl rfl rfl (by decide) (by assumption) (Nat.le_of_ble_eq_true rfl)) ?_
      refine wo_load hR rfl rfl (Pt.fld (by assumption) _ (Nat.le_of_ble_eq_true rfl)) rfl (fun _ _ h => by cases h) rfl rfl ?_
      refine wo_val (fun _ => rfl) rfl rfl (op_pure rfl) ?_
      refine wo_val (fun _ => rfl) rfl rfl (op_idxF rfl rfl (natA_cast _ _) rfl rfl rfl rfl (by assumption) (by omega)) ?_
      refine wo_load hR rfl rfl (Row.mk_pt (by assumption) (by assumption)) rfl (fun _ _ h => by cases h) rfl rfl ?_
      refine wo_call hR rfl rfl (fun _ => rfl) (op_call rfl rfl rfl rfl) (instr_ref_ok (x := x) (y := y) hR.ok hm hx (ModR.bare (hm10.keep0 hR))) (fun _ _ h => h.1) ?_
      rintro _ s11 ⟨hk11, rfl⟩ hR
      have hk11 : Keep [] s10 (s11.join s10) := hk11.joined
      generalize s11.join s10 = t11 at hk11 hR ⊢
      have hc11 := hk11.ctr
      have hK := hK.two hk11
      have hp := hp.keep0 hk11
      have hq := hq.keep0 hk11
      have hw := hw.keep0 hk11
      refine wo_val (fun _ => rfl) rfl rfl (op_pure rfl) ?_
      refine wd_nil ?_
      refine then_n ?_
      repeat refine wc_seq ?_
      refine wc_region ?_
      refine w_val rfl rfl (op_pure rfl) ?_
      refine w_val rfl rfl (op_pure rfl) ?_
      refine w_val rfl rfl (op_pure rfl) ?_
      refine w_split (i := 127) rfl (fun h127 => ?_) (fun h127 => ?_)
      · simp only [beq_iff_eq] at h127
        refine w_val rfl rfl (op_pure rfl) ?_
        refine w_val rfl rfl (op_pure rfl) ?_
        refine w_val rfl rfl (op_sub rfl rfl (by unfold In64; omega)) ?_
        refine w_val rfl rfl (op_pure rfl) ?_
        refine w_val rfl rfl (op_pure rfl) ?_
        refine w_val rfl rfl (op_pure rfl) ?_
        refine w_split (i := 133) rfl (fun h133 => ?_) (fun h133 => ?_)
        · simp only [beq_iff_eq] at h133
          refine w_val rfl rfl (op_fld rfl rfl rfl rfl (by decide) (by assumption) (Nat.le_of_ble_eq_true rfl)) ?_
          refine w_val rfl rfl (op_load rfl rfl (Pt.fld (by assumption) _ (Nat.le_of_ble_eq_true rfl)) rfl) ?_
          refine w_val rfl rfl (op_pure rfl) ?_
          refine w_val rfl rfl (op_idxF rfl rfl (natA_cast _ _) rfl rfl rfl rfl (Row.keep0 (by assumption) hK) (by omega)) ?_
          refine w_val rfl rfl (op_fld rfl rfl rfl rfl (by decide) (Pt.keep0 (Row.mk_pt (by assumption) (by assumption)) hK) (Nat.le_of_ble_eq_true rfl)) ?_
          refine w_val rfl rfl (op_load rfl rfl (Pt.fld (Pt.keep0 (Row.mk_pt (by assumption) (by assumption)) hK) _ (Nat.le_of_ble_eq_true rfl)) rfl) ?_
          refine w_val rfl rfl (op_pure rfl) ?_
          refine w_val rfl rfl (op_pure rfl) ?_
          refine w_val rfl rfl (op_pure rfl) ?_
          refine w_split (i := 142) rfl (fun h142 => ?_) (fun h142 => ?_)
          · simp only [bne_iff_ne, ne_eq] at h142
            refine w_val rfl rfl (op_fld rfl rfl rfl rfl (by decide) (by assumption) (Nat.le_of_ble_eq_true rfl)) ?_
            refine w_val rfl rfl (op_load rfl rfl (Pt.fld (by assumption) _ (Nat.le_of_ble_eq_true rfl)) rfl) ?_
            refine w_val rfl rfl (op_pure rfl) ?_
            refine w_val rfl rfl (op_idxF rfl rfl (natA_cast _ _) rfl rfl rfl rfl (Row.keep0 (by assumption) hK) (by omega)) ?_
            refine w_val rfl rfl (op_fld rfl rfl rfl rfl (by decide) (Pt.keep0 (Row.mk_pt (by assumption) (by assumption)) hK) (Nat.le_of_ble_eq_true rfl)) ?_
            refine w_val rfl rfl (op_load rfl rfl (Pt.fld (Pt.keep0 (Row.mk_pt (by assumption) (by assumption)) hK) _ (Nat.le_of_ble_eq_true rfl)) rfl) ?_
            refine w_val rfl rfl (op_pure rfl) ?_
            refine w_val rfl rfl (op_pure rfl) ?_
            refine w_nil ?_
            refine then_n ?_
            repeat refine wc_seq ?_
            refine wc_condT rfl (fun h150 => ?_) (fun h150 => ?_)
            · simp only [bne_iff_ne, ne_eq] at h150
              refine wc_region ?_
              refine w_val rfl rfl (op_pure rfl) ?_
              refine w_nil ?_
              refine then_n ?_
              repeat refine wc_seq ?_
              refine wc_region ?_
              refine w_val rfl rfl (op_pure rfl) ?_
              refine w_val rfl rfl (op_pure rfl) ?_
              refine w_nil ?_
              refine then_n ?_
              refine wc_condT rfl (fun h152 => ?_) (fun h152 => ?_)
              · skip
                repeat refine wc_seq ?_
                refine wc_region ?_
                refine w_val rfl rfl (op_pure rfl) ?_
                refine w_val rfl rfl (op_pure rfl) ?_
                refine w_val rfl rfl (op_pure rfl) ?_
                refine w_val rfl rfl (op_pure rfl) ?_
                first
                  | (refine w_store_all (u := .agg [.int .i64 131, .int .i64 (f : Nat), .int .i64 (a : Nat)]) (old := [.int .i64 0, .int .i64 0, .int .i64 0]) rfl rfl rfl rfl rfl (by rfl) rfl hK.ok hq (by simp [AV.gs]) ?_)
                  | (refine w_store_all (u := .agg [.int .i64 (instrE mm x y), .int .i64 (f : Nat), .int .i64 (a : Nat)]) (old := [.int .i64 0, .int .i64 0, .int .i64 0]) rfl rfl rfl rfl rfl (by rfl) rfl hK.ok hq (by simp [AV.gs]) ?_)
                intro sq hq' hkq hcq
                have hK := hK.fresh hkq (fun g hg => by rw [List.mem_singleton.1 hg]; have := hk1.ctr; omega)
                refine w_nil ?_
                refine then_n ?_
                refine wc_ret ?_
                repeat first | refine then_r ?_ | refine out_r ?_ | refine round_r ?_ | refine cut_r ?_ | refine sc_r ?_
                exact ⟨_, res_cell rfl rfl (show Pt sq.h (.ptr s1.ctr 0 0) [_, _, _] from hq') rfl, hK, congrArg (fun r => AV.agg (faultC r)) (chk_fun hmany hfo (fo_hit hff (funP_ins hx h64 (fo_hit hfa (insP_some hy (insE_fall h127 (by omega) h142 h150) (by decide)) ha')) hf')).symm⟩
              skip
              refine wc_skip ?_
              refine out_n ?_
              refine then_n ?_
              refine wc_region ?_
              refine w_val rfl rfl (op_pure rfl) ?_
              refine w_val rfl rfl (op_add rfl rfl (by unfold In64; omega)) ?_
              refine w_val rfl rfl (op_pure rfl) ?_
              refine w_nil ?_
              exact absurd h152 (by decide)
            simp only [bne_eq_false_iff_eq] at h150
            refine wc_skip ?_
            refine then_n ?_
            repeat refine wc_seq ?_
            refine wc_region ?_
            refine w_val rfl rfl (op_pure rfl) ?_
            refine w_val rfl rfl (op_pure rfl) ?_
            refine w_nil ?_
            refine then_n ?_
            refine wc_condT rfl (fun h152 => ?_) (fun h152 => ?_)
            · skip
              repeat refine wc_seq ?_
              refine wc_region ?_
              refine w_val rfl rfl (op_pure rfl) ?_
              refine w_val rfl rfl (op_pure rfl) ?_
              refine w_val rfl rfl (op_pure rfl) ?_
              refine w_val rfl rfl (op_pure rfl) ?_
              first
                | (refine w_store_all (u := .agg [.int .i64 131, .int .i64 (f : Nat), .int .i64 (a : Nat)]) (old := [.int .i64 0, .int .i64 0, .int .i64 0]) rfl rfl rfl rfl rfl (by rfl) rfl hK.ok hq (by simp [AV.gs]) ?_)
                | (refine w_store_all (u := .agg [.int .i64 (instrE mm x y), .int .i64 (f : Nat), .int .i64 (a : Nat)]) (old := [.int .i64 0, .int .i64 0, .int .i64 0]) rfl rfl rfl rfl rfl (by rfl) rfl hK.ok hq (by simp [AV.gs]) ?_)
              intro sq hq' hkq hcq
              have hK := hK.fresh hkq (fun g hg => by rw [List.mem_singleton.1 hg]; have := hk1.ctr; omega)
              refine w_nil ?_
              refine then_n ?_
              refine wc_ret ?_
              repeat first | refine then_r ?_ | refine out_r ?_ | refine round_r ?_ | refine cut_r ?_ | refine sc_r ?_
              exact absurd h152 (by rw [h127]; decide)
            skip
            refine wc_skip ?_
            refine out_n ?_
            refine then_n ?_
            refine wc_region ?_
            refine w_val rfl rfl (op_pure rfl) ?_
            refine w_val rfl rfl (op_add rfl rfl (by unfold In64; omega)) ?_
            refine w_val rfl rfl (op_pure rfl) ?_
            refine w_nil ?_
            exact round_n _ _ (by omega) (Sub.cons rfl (Sub.cons rfl (Sub.cons rfl (Sub.cons rfl (Sub.cons rfl (Sub.cons rfl (Sub.nil _))))))) ⟨a + 1, rfl, by omega, rfl, hK, by omega, hp, hq, by omega, hw, fo_next hfa (insP_none hy (insE_none h127 (fun k => k.2.2 h150)))⟩
          simp only [bne_eq_false_iff_eq] at h142
          refine w_off rfl rfl ?_
          refine w_off rfl rfl ?_
          refine w_off rfl rfl ?_
          refine w_off rfl rfl ?_
          refine w_off rfl rfl ?_
          refine w_off rfl rfl ?_
          refine w_off rfl rfl ?_
          refine w_val rfl rfl (op_pure rfl) ?_
          refine w_nil ?_
          refine then_n ?_
          repeat refine wc_seq ?_
          refine wc_cond_f rfl ?_
          refine wc_skip ?_
          refine then_n ?_
          repeat refine wc_seq ?_
          refine wc_region ?_
          refine w_val rfl rfl (op_pure rfl) ?_
          refine w_val rfl rfl (op_pure rfl) ?_
          refine w_nil ?_
          refine then_n ?_
          refine wc_condT rfl (fun h152 => ?_) (fun h152 => ?_)
          · skip
            repeat refine wc_seq ?_
            refine wc_region ?_
            refine w_val rfl rfl (op_pure rfl) ?_
            refine w_val rfl rfl (op_pure rfl) ?_
            refine w_val rfl rfl (op_pure rfl) ?_
            refine w_val rfl rfl (op_pure rfl) ?_
            first
              | (refine w_store_all (u := .agg [.int .i64 131, .int .i64 (f : Nat), .int .i64 (a : Nat)]) (old := [.int .i64 0, .int .i64 0, .int .i64 0]) rfl rfl rfl rfl rfl (by rfl) rfl hK.ok hq (by simp [AV.gs]) ?_)
              | (refine w_store_all (u := .agg [.int .i64 (instrE mm x y), .int .i64 (f : Nat), .int .i64 (a : Nat)]) (old := [.int .i64 0, .int .i64 0, .int .i64 0]) rfl rfl rfl rfl rfl (by rfl) rfl hK.ok hq (by simp [AV.gs]) ?_)
            intro sq hq' hkq hcq
            have hK := hK.fresh hkq (fun g hg => by rw [List.mem_singleton.1 hg]; have := hk1.ctr; omega)
            refine w_nil ?_
            refine then_n ?_
            refine wc_ret ?_
            repeat first | refine then_r ?_ | refine out_r ?_ | refine round_r ?_ | refine cut_r ?_ | refine sc_r ?_
            exact absurd h152 (by rw [h127]; decide)
          skip
          refine wc_skip ?_
          refine out_n ?_
          refine then_n ?_
          refine wc_region ?_
          refine w_val rfl rfl (op_pure rfl) ?_
          refine w_val rfl rfl (op_add rfl rfl (by unfold In64; omega)) ?_
          refine w_val rfl rfl (op_pure rfl) ?_
          refine w_nil ?_
          exact round_n _ _ (by omega) (Sub.cons rfl (Sub.cons rfl (Sub.cons rfl (Sub.cons rfl (Sub.cons rfl (Sub.cons rfl (Sub.nil _))))))) ⟨a + 1, rfl, by omega, rfl, hK, by omega, hp, hq, by omega, hw, fo_next hfa (insP_none hy (insE_none h127 (fun k => k.2.1 h142)))⟩
        simp only [beq_eq_false_iff_ne, ne_eq] at h133
        refine w_off rfl rfl ?_
        refine w_off rfl rfl ?_
        refine w_off rfl rfl ?_
        refine w_off rfl rfl ?_
        refine w_off rfl rfl ?_
        refine w_off rfl rfl ?_
        refine w_off rfl rfl ?_
        refine w_val rfl rfl (op_pure rfl) ?_
        refine w_val rfl rfl (op_pure rfl) ?_
        refine w_off rfl rfl ?_
        refine w_off rfl rfl ?_
        refine w_off rfl rfl ?_
        refine w_off rfl rfl ?_
        refine w_off rfl rfl ?_
        refine w_off rfl rfl ?_
        refine w_off rfl rfl ?_
        refine w_val rfl rfl (op_pure rfl) ?_
        refine w_nil ?_
        refine then_n ?_
        repeat refine wc_seq ?_
        refine wc_cond_f rfl ?_
        refine wc_skip ?_
        refine then_n ?_
        repeat refine wc_seq ?_
        refine wc_region ?_
        refine w_val rfl rfl (op_pure rfl) ?_
        refine w_val rfl rfl (op_pure rfl) ?_
        refine w_nil ?_
        refine then_n ?_
        refine wc_condT rfl (fun h152 => ?_) (fun h152 => ?_)
        · skip
          repeat refine wc_seq ?_
          refine wc_region ?_
          refine w_val rfl rfl (op_pure rfl) ?_
          refine w_val rfl rfl (op_pure rfl) ?_
          refine w_val rfl rfl (op_pure rfl) ?_
          refine w_val rfl rfl (op_pure rfl) ?_
          first
            | (refine w_store_all (u := .agg [.int .i64 131, .int .i64 (f : Nat), .int .i64 (a : Nat)]) (old := [.int .i64 0, .int .i64 0, .int .i64 0]) rfl rfl rfl rfl rfl (by rfl) rfl hK.ok hq (by simp [AV.gs]) ?_)
            | (refine w_store_all (u := .agg [.int .i64 (instrE mm x y), .int .i64 (f : Nat), .int .i64 (a : Nat)]) (old := [.int .i64 0, .int .i64 0, .int .i64 0]) rfl rfl rfl rfl rfl (by rfl) rfl hK.ok hq (by simp [AV.gs]) ?_)
          intro sq hq' hkq hcq
          have hK := hK.fresh hkq (fun g hg => by rw [List.mem_singleton.1 hg]; have := hk1.ctr; omega)
          refine w_nil ?_
          refine then_n ?_
          refine wc_ret ?_
          repeat first | refine then_r ?_ | refine out_r ?_ | refine round_r ?_ | refine cut_r ?_ | refine sc_r ?_
          exact absurd h152 (by rw [h127]; decide)
        skip
        refine wc_skip ?_
        refine out_n ?_
        refine then_n ?_
        refine wc_region ?_
        refine w_val rfl rfl (op_pure rfl) ?_
        refine w_val rfl rfl (op_add rfl rfl (by unfold In64; omega)) ?_
        refine w_val rfl rfl (op_pure rfl) ?_
        refine w_nil ?_
        exact round_n _ _ (by omega) (Sub.cons rfl (Sub.cons rfl (Sub.cons rfl (Sub.cons rfl (Sub.cons rfl (Sub.cons rfl (Sub.nil _))))))) ⟨a + 1, rfl, by omega, rfl, hK, by omega, hp, hq, by omega, hw, fo_next hfa (insP_none hy (insE_none h127 (fun k => h133 (by omega))))⟩
      simp only [beq_eq_false_iff_ne, ne_eq] at h127
      refine w_off rfl rfl ?_
      refine w_off rfl rfl ?_
      refine w_off rfl rfl ?_
      refine w_off rfl rfl ?_
      refine w_val rfl rfl (op_pure rfl) ?_
      refine w_val rfl rfl (op_pure rfl) ?_
      refine w_off rfl rfl ?_
      refine w_off rfl rfl ?_
      refine w_off rfl rfl ?_
      refine w_off rfl rfl ?_
      refine w_off rfl rfl ?_
      refine w_off rfl rfl ?_
      refine w_off rfl rfl ?_
      refine w_val rfl rfl (op_pure rfl) ?_
      refine w_val rfl rfl (op_pure rfl) ?_
      refine w_off rfl rfl ?_
      refine w_off rfl rfl ?_
      refine w_off rfl rfl ?_
      refine w_off rfl rfl ?_
      refine w_off rfl rfl ?_
      refine w_off rfl rfl ?_
      refine w_off rfl rfl ?_
      refine w_val rfl rfl (op_pure rfl) ?_
      refine w_nil ?_
      refine then_n ?_
      repeat refine wc_seq ?_
      refine wc_cond_f rfl ?_
      refine wc_skip ?_
      refine then_n ?_
      repeat refine wc_seq ?_
      refine wc_region ?_
      refine w_val rfl rfl (op_pure rfl) ?_
      refine w_val rfl rfl (op_pure rfl) ?_
      refine w_nil ?_
      refine then_n ?_
      refine wc_condT rfl (fun h152 => ?_) (fun h152 => ?_)
      · skip
        repeat refine wc_seq ?_
        refine wc_region ?_
        refine w_val rfl rfl (op_pure rfl) ?_
        refine w_val rfl rfl (op_pure rfl) ?_
        refine w_val rfl rfl (op_pure rfl) ?_
        refine w_val rfl rfl (op_pure rfl) ?_
        first
          | (refine w_store_all (u := .agg [.int .i64 131, .int .i64 (f : Nat), .int .i64 (a : Nat)]) (old := [.int .i64 0, .int .i64 0, .int .i64 0]) rfl rfl rfl rfl rfl (by rfl) rfl hK.ok hq (by simp [AV.gs]) ?_)
          | (refine w_store_all (u := .agg [.int .i64 (instrE mm x y), .int .i64 (f : Nat), .int .i64 (a : Nat)]) (old := [.int .i64 0, .int .i64 0, .int .i64 0]) rfl rfl rfl rfl rfl (by rfl) rfl hK.ok hq (by simp [AV.gs]) ?_)
        intro sq hq' hkq hcq
        have hK := hK.fresh hkq (fun g hg => by rw [List.mem_singleton.1 hg]; have := hk1.ctr; omega)
        refine w_nil ?_
        refine then_n ?_
        refine wc_ret ?_
        repeat first | refine then_r ?_ | refine out_r ?_ | refine round_r ?_ | refine cut_r ?_ | refine sc_r ?_
        exact ⟨_, res_cell rfl rfl (show Pt sq.h (.ptr s1.ctr 0 0) [_, _, _] from hq') rfl, hK, congrArg (fun r => AV.agg (faultC r)) (chk_fun hmany hfo (fo_hit hff (funP_ins hx h64 (fo_hit hfa (insP_some hy (insE_own h127) h127) ha')) hf')).symm⟩
      skip
      refine wc_skip ?_
      refine out_n ?_
      refine then_n ?_
      refine wc_region ?_
      refine w_val rfl rfl (op_pure rfl) ?_
      refine w_val rfl rfl (op_add rfl rfl (by unfold In64; omega)) ?_
      refine w_val rfl rfl (op_pure rfl) ?_
      refine w_nil ?_
      exact absurd (bne_eq_false_iff_eq.1 h152) h127
    simp only [decide_eq_false_iff_not] at h114
    obtain rfl : a = x.code.length := by omega
    refine wc_exit ?_
    repeat first | refine then_x ?_ | refine round_x ?_ | refine cut_x ?_ | refine out_x' (by decide) ?_
    refine out_x ?_
    refine out_n ?_
    refine then_n ?_
    refine wc_region ?_
    refine w_val rfl rfl (op_pure rfl) ?_
    refine w_val rfl rfl (op_add rfl rfl (by unfold In64; omega)) ?_
    refine w_val rfl rfl (op_pure rfl) ?_
    refine w_nil ?_
    exact round_n _ _ (by omega) (Sub.cons rfl (Sub.cons rfl (Sub.cons rfl (Sub.nil _)))) ⟨f + 1, rfl, by omega, rfl, hK, by omega, hp, hq, fo_next hff (funP_none hx h64 hfa)⟩
  simp only [decide_eq_false_iff_not] at h61
  obtain rfl : f = mm.funcs.length := by omega
  refine wc_exit ?_
  repeat first | refine then_x ?_ | refine round_x ?_ | refine cut_x ?_ | refine out_x' (by decide) ?_
  refine out_x ?_
  refine then_n ?_
  repeat refine wc_seq ?_
  refine wc_region ?_
  refine w_val rfl rfl (op_pure rfl) ?_
  refine w_store_all (old := [.int .i64 0, .int .i64 0, .int .i64 0]) rfl rfl rfl rfl rfl (by rfl) rfl hK.ok hq (by simp [AV.gs]) ?_
  intro sq hq' hkq hcq
  have hq : Pt sq.h (.ptr s1.ctr 0 0) [.int .i64 0, .int .i64 0, .int .i64 0] := hq'
  have hK := hK.fresh hkq (fun g hg => by rw [List.mem_singleton.1 hg]; have := hk1.ctr; omega)
  refine w_nil ?_
  refine then_n ?_
  refine wc_ret ?_
  repeat first | refine then_r ?_ | refine out_r ?_ | refine round_r ?_ | refine cut_r ?_ | refine sc_r ?_
  exact ⟨_, res_cell rfl rfl hq rfl, hK, congrArg (fun r => AV.agg (faultC r)) (chk_ok hmany hfo hff).symm⟩
set_option maxRecDepth 10000 in
set_option maxHeartbeats 4000000 in
theorem right_ok {s : St} {c : List AV} {mm : ModL} (hok : s.Ok) (hm : mm.small) (hv : ModR s.h mm c) :
    CallS Try.prog Tt Kt 66 [.agg c] s (fun r s' => Keep [] s s' ∧ r = .bool ((checkF mm).1 == 0 && ((checkF mm).2.1 == 0 && ((checkF mm).2.2 == 0 && true)))) := by
  have hz := hv.leaf.2
  refine call_of (fn := Try.f66) (nt := 7) Try.func66 rfl rfl rfl ?_
  repeat refine wc_seq ?_
  refine wc_region ?_
  refine w_box rfl rfl rfl hz hok ?_
  intro s1 hp1 hk1 hc1
  have hK := (Keep.refl hok).two hk1
  obtain ⟨vg, va, vh, vf, rfl, hrest⟩ := id hv
  have hp : Pt s1.h (.ptr s.ctr 0 0) [vg, va, vh, vf] := hp1
  refine w_val rfl rfl (op_pure rfl) ?_
  refine w_nil ?_
  refine then_n ?_
  repeat refine wc_seq ?_
  refine wc_region ?_
  refine w_val rfl rfl (op_load rfl rfl (by assumption) rfl) ?_
  refine w_call rfl rfl (op_call rfl rfl rfl rfl) (check_ok hK.ok hm (by exact hv.keep0 hK)) ?_
  rintro _ s2 ⟨hk2, rfl⟩
  have hK := hK.two hk2
  refine w_val rfl rfl (op_pure rfl) ?_
  refine w_val rfl rfl (op_pure rfl) ?_
  refine w_val rfl rfl (op_pure rfl) ?_
  refine w_nil ?_
  refine then_n ?_
  refine wc_ret ?_
  repeat first | refine then_r ?_ | refine out_r ?_ | refine round_r ?_ | refine cut_r ?_ | refine sc_r ?_
  exact ⟨_, rfl, hK, rfl⟩
set_option maxRecDepth 10000 in
set_option maxHeartbeats 4000000 in
theorem right_ref_ok {s : St} {c : List AV} {mm : ModL} (hok : s.Ok) (hm : mm.small) (hv : ModR s.h mm c) :
    CallS Try.prog Tt Kt 76 [.agg c] s (fun r s' => Keep [] s s' ∧ r = .bool ((checkF mm).1 == 0 && ((checkF mm).2.1 == 0 && ((checkF mm).2.2 == 0 && true)))) := by
  have hz := hv.leaf.2
  refine call_of (fn := Try.f76) (nt := 7) Try.func76 rfl rfl rfl ?_
  repeat refine wc_seq ?_
  refine wc_region ?_
  refine w_box rfl rfl rfl hz hok ?_
  intro s1 hp1 hk1 hc1
  have hK := (Keep.refl hok).two hk1
  obtain ⟨vg, va, vh, vf, rfl, hrest⟩ := id hv
  have hp : Pt s1.h (.ptr s.ctr 0 0) [vg, va, vh, vf] := hp1
  refine w_val rfl rfl (op_pure rfl) ?_
  refine w_nil ?_
  refine then_n ?_
  repeat refine wc_seq ?_
  refine wc_region ?_
  refine w_val rfl rfl (op_load rfl rfl (by assumption) rfl) ?_
  refine w_call rfl rfl (op_call rfl rfl rfl rfl) (check_ref_ok hK.ok hm (by exact hv.keep0 hK)) ?_
  rintro _ s2 ⟨hk2, rfl⟩
  have hK := hK.two hk2
  refine w_val rfl rfl (op_pure rfl) ?_
  refine w_val rfl rfl (op_pure rfl) ?_
  refine w_val rfl rfl (op_pure rfl) ?_
  refine w_nil ?_
  refine then_n ?_
  refine wc_ret ?_
  repeat first | refine then_r ?_ | refine out_r ?_ | refine round_r ?_ | refine cut_r ?_ | refine sc_r ?_
  exact ⟨_, rfl, hK, rfl⟩
end Go.Ab
/- The document's link of two modules. -/
namespace Go.Ab
open Go.Proofs
def okM (mm : ModL) : Bool := (checkF mm).1 == 0 && ((checkF mm).2.1 == 0 && ((checkF mm).2.2 == 0 && true))
def linkE (a b : ModL) : Int := if okM a = false ∨ okM b = false then 1 else if 32 < a.globals.length + b.globals.length ∨ 16 < a.arrays.length + b.arrays.length ∨ 16 < a.channels.length + b.channels.length ∨ 32 < a.funcs.length + b.funcs.length then 270 else 0
def turnF (a : ModL) (x : FuncL) : FuncL := { x with code := x.code.map (turnI a) }
def linkM (a b : ModL) : ModL := if linkE a b = 0 then ⟨a.globals ++ b.globals, a.arrays ++ b.arrays, a.channels ++ b.channels, a.funcs ++ b.funcs.map (turnF a)⟩ else ⟨[], [], [], []⟩
theorem res_cell2 {T : Tab} {m : Sy} {s : St} {a b : Nat} {tt : TypeId} {i : TI} {g' j off : Nat} {cs : List AV} {v w : AV} (hm : m.at a = some (.ptr g' j off)) (hw : m.at b = some w) (hT : T tt = some i) (hp : Pt s.h (.ptr g' j off) cs) (hc : loadC i cs = some v) : resY T m s [.cell a tt, .tmp b] = some [v, w] := by
  unfold loadC at hc
  split at hc
  · rename_i hl
    have := rdH_part hp 0 i.cnt (by omega)
    rw [Nat.add_zero, List.drop_zero] at this
    unfold resY
    simp only [hT, hm, read_rd, this, hc, resY, hw]
  · cases hc
theorem elemA_gs (v : AV) (i : Nat) : ∀ g ∈ (elemA v i).gs, g ∈ v.gs := by
  intro g hg
  cases v with
  | slc g' j off sz len lo ex => exact hg
  | ro nl xs =>
    simp only [elemA] at hg
    split at hg <;> cases hg
  | _ => cases hg
def FuncRF : RP FuncL := fun h F x c => ∃ vp vr vc, c = [.int .u64 x.level, vp, vr, .int .i64 x.locals, .int .i64 x.stack, vc] ∧ Row h 1 vp (x.params.map lC) ∧ Row h 1 vr (x.results.map lC) ∧ Row h 2 vc (x.code.map inC) ∧ (∀ g ∈ vp.gs, F g) ∧ (∀ g ∈ vr.gs, F g) ∧ ∀ g ∈ vc.gs, F g
/-- Groups apart from those between lo and hi. -/
def FuncRH (lo hi : Nat) : RP FuncL := fun h F x c => FuncRF h (fun g => F g ∧ (g < lo ∨ hi ≤ g)) x c
end Go.Ab
/- What a right module's instructions are. -/
namespace Go.Ab
theorem fo_some {β : Type} {p : Nat → Option β} {n : Nat} {r : β} (h : fo p n = some r) : ∃ i, p i = some r := by
  induction n with
  | zero => cases h
  | succ n ih =>
    unfold fo at h
    cases e : fo p n with
    | none => rw [e] at h; exact ⟨n, h⟩
    | some b => rw [e] at h; cases h; exact ih e
theorem fo_none {β : Type} {p : Nat → Option β} {n : Nat} (h : fo p n = none) : ∀ i, i < n → p i = none := by
  induction n with
  | zero => intro i hi; omega
  | succ n ih =>
    unfold fo at h
    cases e : fo p n with
    | some b => rw [e] at h; cases h
    | none =>
      rw [e] at h
      intro i hi
      by_cases hin : i = n
      · rw [hin]; exact h
      · exact ih e i (by omega)
section
variable {mm : ModL} {x : FuncL} {y : InstrL}
theorem insP_err {f a : Nat} {r : Fault} (h : insP mm x f a = some r) : ¬ r.1 = 0 := by
  unfold insP at h
  split at h
  · split at h
    · cases h
    · rename_i hn
      cases h
      exact hn
  · cases h
theorem funP_err {f : Nat} {r : Fault} (h : funP mm f = some r) : ¬ r.1 = 0 := by
  unfold funP at h
  split at h
  · split at h
    · obtain ⟨i, hi⟩ := fo_some h
      exact insP_err hi
    · rename_i hn
      cases h
      exact hn
  · cases h
theorem arrP_err {i : Nat} {r : Fault} (h : arrP mm i = some r) : ¬ r.1 = 0 := by
  unfold arrP at h
  split at h
  · split at h
    · cases h; exact fun e => by simp at e
    · cases h
  · cases h
theorem okM_ins (h : okM mm = true) (hx : x ∈ mm.funcs) (hy : y ∈ x.code) : instrE mm x y = 0 := by
  have h1 : (checkF mm).1 = 0 := by
    unfold okM at h
    simp only [Bool.and_eq_true, beq_iff_eq] at h
    exact h.1
  unfold checkF at h1
  split at h1
  · cases h1
  · split at h1
    · rename_i r hr
      obtain ⟨i, hi⟩ := fo_some hr
      exact absurd h1 (arrP_err hi)
    · split at h1
      · rename_i r hr
        obtain ⟨i, hi⟩ := fo_some hr
        exact absurd h1 (funP_err hi)
      · rename_i hf
        obtain ⟨f, hfx⟩ := List.getElem?_of_mem hx
        obtain ⟨a, hay⟩ := List.getElem?_of_mem hy
        have h2 := fo_none hf f (List.getElem?_eq_some_iff.1 hfx).1
        unfold funP at h2
        rw [hfx] at h2
        simp only at h2
        split at h2
        · have h3 := fo_none h2 a (List.getElem?_eq_some_iff.1 hay).1
          unfold insP at h3
          rw [hay] at h3
          simp only at h3
          split at h3
          · rename_i h4
            unfold insE at h4
            split at h4
            · cases h4
            · exact h4
          · cases h3
        · cases h2
end
end Go.Ab
/- A module in memory of its own. -/
namespace Go.Ab
/-- A list that is chosen element by element. -/
theorem list_choice {β : Type} {P : Nat → β → Prop} : ∀ n : Nat, (∀ i, i < n → ∃ y, P i y) → ∃ l : List β, l.length = n ∧ ∀ i y, l[i]? = some y → P i y
  | 0, _ => ⟨[], rfl, fun i y h => by simp at h⟩
  | n + 1, h => by
    obtain ⟨l, h1, h2⟩ := list_choice n (fun i hi => h i (by omega))
    obtain ⟨y, hy⟩ := h n (by omega)
    refine ⟨l ++ [y], by simp [h1], fun i z hz => ?_⟩
    by_cases hi : i < l.length
    · rw [List.getElem?_append_left hi] at hz; exact h2 i z hz
    · have hlt := (List.getElem?_eq_some_iff.1 hz).1
      rw [List.length_append, List.length_singleton] at hlt
      have e : i = l.length := by omega
      rw [e, List.getElem?_append_right (Nat.le_refl _), Nat.sub_self] at hz
      simp at hz
      subst hz
      rw [e, h1]; exact hy
/-- No group in common. -/
def Dis (u v : AV) : Prop := ∀ g ∈ u.gs, g ∉ v.gs
theorem Dis.symm {u v : AV} (h : Dis u v) : Dis v u := fun g hg k => h g k hg
abbrev FM := FuncL × AV × AV × AV
def fC (q : FM) : List AV := [.int .u64 q.1.level, q.2.1, q.2.2.1, .int .i64 q.1.locals, .int .i64 q.1.stack, q.2.2.2]
structure MemM where
  vg : AV
  va : AV
  vh : AV
  vf : AV
  fs : List FM
def MemM.cells (M : MemM) : List AV := [M.vg, M.va, M.vh, M.vf]
def MemM.labs (M : MemM) : List AV := M.vg :: M.vh :: M.fs.flatMap fun q => [q.2.1, q.2.2.1]
def MemM.cods (M : MemM) : List AV := M.fs.map fun q => q.2.2.2
def MemM.all (M : MemM) : List AV := M.va :: M.vf :: (M.labs ++ M.cods)
structure ModO (H : Tr Grp) (mm : ModL) (M : MemM) : Prop where
  g : Row H 1 M.vg (mm.globals.map lC)
  a : Row H 2 M.va (mm.arrays.map aC)
  ch : Row H 1 M.vh (mm.channels.map lC)
  f : Row H 6 M.vf (M.fs.map fC)
  fs : M.fs.map (·.1) = mm.funcs
  each : ∀ q ∈ M.fs, Row H 1 q.2.1 (q.1.params.map lC) ∧ Row H 1 q.2.2.1 (q.1.results.map lC) ∧ Row H 2 q.2.2.2 (q.1.code.map inC)
  dis : M.all.Pairwise Dis
  nil : ∀ v ∈ M.all, v.gs = [] → v = .nils
theorem ModO.r {h : Tr Grp} {mm : ModL} {M : MemM} (k : ModO h mm M) : ModR h mm M.cells := by
  refine ⟨_, _, _, _, rfl, k.g, k.a, k.ch, M.fs.map fC, k.f, by rw [← k.fs]; simp, fun i x c h1 h2 => ?_⟩
  rw [← k.fs, List.getElem?_map] at h1
  rw [List.getElem?_map] at h2
  cases e : M.fs[i]? with
  | none => rw [e] at h1; cases h1
  | some q =>
    rw [e] at h1 h2
    cases h1
    cases h2
    obtain ⟨k1, k2, k3⟩ := k.each q (List.mem_of_getElem? e)
    exact ⟨_, _, _, rfl, k1, k2, k3⟩
theorem ModO.keep {s s' : St} {mm : ModL} {M : MemM} {Y : List Nat} (k : ModO s.h mm M) (h : Keep Y s s') (hY : ∀ v ∈ M.all, ∀ g ∈ v.gs, g ∉ Y) : ModO s'.h mm M where
  g := k.g.keep h (hY _ (by simp only [MemM.all, MemM.labs, List.mem_cons, List.mem_append, true_or, or_true]))
  a := k.a.keep h (hY _ (by simp only [MemM.all, List.mem_cons, true_or]))
  ch := k.ch.keep h (hY _ (by simp only [MemM.all, MemM.labs, List.mem_cons, List.mem_append, true_or, or_true]))
  f := k.f.keep h (hY _ (by simp only [MemM.all, List.mem_cons, true_or, or_true]))
  fs := k.fs
  each := fun q hq => by
    obtain ⟨k1, k2, k3⟩ := k.each q hq
    refine ⟨k1.keep h (hY q.2.1 ?_), k2.keep h (hY q.2.2.1 ?_), k3.keep h (hY q.2.2.2 ?_)⟩
    · simp only [MemM.all, MemM.labs, List.mem_cons, List.mem_append, List.mem_flatMap]; exact .inr (.inr (.inl (.inr (.inr ⟨q, hq, .inl rfl⟩))))
    · simp only [MemM.all, MemM.labs, List.mem_cons, List.mem_append, List.mem_flatMap]; exact .inr (.inr (.inl (.inr (.inr ⟨q, hq, .inr (.inl rfl)⟩))))
    · simp only [MemM.all, MemM.cods, List.mem_cons, List.mem_append, List.mem_map]; exact .inr (.inr (.inr ⟨q, hq, rfl⟩))
  dis := k.dis
  nil := k.nil
/-- The empty module. -/
theorem ModO.empty (h : Tr Grp) : ModO h ⟨[], [], [], []⟩ ⟨.nils, .nils, .nils, .nils, []⟩ where
  g := rfl
  a := rfl
  ch := rfl
  f := rfl
  fs := rfl
  each := fun q hq => by cases hq
  dis := by simp [MemM.all, MemM.labs, MemM.cods, Dis, AV.gs]
  nil := by simp [MemM.all, MemM.labs, MemM.cods]
theorem modO_of {h : Tr Grp} {mm : ModL} {vg va vh vf : AV} {qs : List (FuncL × Nat × Nat)} {css : List (List AV)} {a b : Nat} (hg : Row h 1 vg (mm.globals.map lC)) (ha : Row h 2 va (mm.arrays.map aC)) (hh : Row h 1 vh (mm.channels.map lC)) (hf : Row h 6 vf css)
    (hl : css.length = qs.length) (hx : ∀ (i : Nat) (q : FuncL × Nat × Nat) (c : List AV), qs[i]? = some q → css[i]? = some c → FuncQ h (Fr a b vf.gs) q c) (hap : Apart a b qs) (hq : qs.map (·.1) = mm.funcs)
    (dgf : Dis vg vf) (daf : Dis va vf) (dhf : Dis vh vf) (dga : Dis vg va) (dgh : Dis vg vh) (dah : Dis va vh) (lg : ∀ g ∈ vg.gs, b ≤ g) (la : ∀ g ∈ va.gs, b ≤ g) (lh : ∀ g ∈ vh.gs, b ≤ g)
    (ng : vg.gs = [] → vg = .nils) (na : va.gs = [] → va = .nils) (nh : vh.gs = [] → vh = .nils) (nf : vf.gs = [] → vf = .nils) :
    ∃ fs, ModO h mm ⟨vg, va, vh, vf, fs⟩ ∧ ∀ q ∈ fs, ∀ v ∈ [q.2.1, q.2.2.1, q.2.2.2], ∀ g ∈ v.gs, a ≤ g ∧ g < b := by
  obtain ⟨fs, hfl, hfs⟩ := list_choice (P := fun i (f : FM) => ∃ q, qs[i]? = some q ∧ f.1 = q.1 ∧ css[i]? = some (fC f) ∧ Row h 1 f.2.1 (f.1.params.map lC) ∧ Row h 1 f.2.2.1 (f.1.results.map lC) ∧ Row h 2 f.2.2.2 (f.1.code.map inC) ∧
      (∀ v ∈ [f.2.1, f.2.2.1, f.2.2.2], ∀ g ∈ v.gs, (q.2.1 ≤ g ∧ g < q.2.2) ∧ g ∉ vf.gs) ∧ Dis f.2.1 f.2.2.1 ∧ Dis f.2.1 f.2.2.2 ∧ Dis f.2.2.1 f.2.2.2 ∧ (∀ v ∈ [f.2.1, f.2.2.1, f.2.2.2], v.gs = [] → v = .nils)) qs.length (fun i hi => by
    have e1 : qs[i]? = some qs[i] := List.getElem?_eq_getElem hi
    have e2 : css[i]? = some (css[i]'(by omega)) := List.getElem?_eq_getElem (by omega)
    obtain ⟨vp, vr, vc, e, h1, h2, h3, f1, f2, f3, d1, d2, d3, n1, n2, n3⟩ := hx i _ _ e1 e2
    refine ⟨(qs[i].1, vp, vr, vc), qs[i], e1, rfl, ?_, h1, h2, h3, ?_, d1, d2, d3, ?_⟩
    · rw [e2, e]; rfl
    · intro v hv g hg
      simp only [List.mem_cons, List.not_mem_nil, or_false] at hv
      rcases hv with rfl | rfl | rfl
      · exact ⟨(f1 g hg).1, (f1 g hg).2.2.2⟩
      · exact ⟨(f2 g hg).1, (f2 g hg).2.2.2⟩
      · exact ⟨(f3 g hg).1, (f3 g hg).2.2.2⟩
    · intro v hv hn
      simp only [List.mem_cons, List.not_mem_nil, or_false] at hv
      rcases hv with rfl | rfl | rfl
      · exact n1 hn
      · exact n2 hn
      · exact (n3 hn).elim)
  have hcss : css = fs.map fC := by
    refine List.ext_getElem? fun i => ?_
    rw [List.getElem?_map]
    cases e : fs[i]? with
    | none =>
      have := List.getElem?_eq_none_iff.1 e
      rw [List.getElem?_eq_none (by omega)]; rfl
    | some f =>
      obtain ⟨q, -, -, e2, -⟩ := hfs i f e
      rw [e2]; rfl
  have hfun : fs.map (·.1) = mm.funcs := by
    rw [← hq]
    refine List.ext_getElem? fun i => ?_
    rw [List.getElem?_map, List.getElem?_map]
    cases e : fs[i]? with
    | none =>
      have := List.getElem?_eq_none_iff.1 e
      rw [List.getElem?_eq_none (by omega)]; rfl
    | some f =>
      obtain ⟨q, e1, e2, -⟩ := hfs i f e
      rw [e1]; simp only [Option.map_some, e2]
  have hmem : ∀ f ∈ fs, ∃ q, q ∈ qs ∧ Row h 1 f.2.1 (f.1.params.map lC) ∧ Row h 1 f.2.2.1 (f.1.results.map lC) ∧ Row h 2 f.2.2.2 (f.1.code.map inC) ∧
      (∀ v ∈ [f.2.1, f.2.2.1, f.2.2.2], ∀ g ∈ v.gs, (q.2.1 ≤ g ∧ g < q.2.2) ∧ g ∉ vf.gs) ∧ Dis f.2.1 f.2.2.1 ∧ Dis f.2.1 f.2.2.2 ∧ Dis f.2.2.1 f.2.2.2 ∧ (∀ v ∈ [f.2.1, f.2.2.1, f.2.2.2], v.gs = [] → v = .nils) := by
    intro f hf
    obtain ⟨i, hi⟩ := List.getElem?_of_mem hf
    obtain ⟨q, e1, -, -, r⟩ := hfs i f hi
    exact ⟨q, List.mem_of_getElem? e1, r⟩
  have hpw : fs.Pairwise fun f f' => ∀ u ∈ [f.2.1, f.2.2.1, f.2.2.2], ∀ w ∈ [f'.2.1, f'.2.2.1, f'.2.2.2], Dis u w := by
    rw [List.pairwise_iff_getElem]
    intro i j hi hj hij u hu w hw g hg hg'
    obtain ⟨q, e1, -, -, -, -, -, r1, -⟩ := hfs i _ (List.getElem?_eq_getElem hi)
    obtain ⟨q', e1', -, -, -, -, -, r1', -⟩ := hfs j _ (List.getElem?_eq_getElem hj)
    have hp := (List.pairwise_iff_getElem.1 hap.pw) i j (List.getElem?_eq_some_iff.1 e1).1 (List.getElem?_eq_some_iff.1 e1').1 hij
    rw [(List.getElem?_eq_some_iff.1 e1).2, (List.getElem?_eq_some_iff.1 e1').2] at hp
    have := r1 u hu g hg
    have := r1' w hw g hg'
    omega
  have hbd : ∀ f ∈ fs, ∀ v ∈ [f.2.1, f.2.2.1, f.2.2.2], ∀ g ∈ v.gs, (a ≤ g ∧ g < b) ∧ g ∉ vf.gs := by
    intro f hf v hv g hg
    obtain ⟨q, hq, -, -, -, r, -⟩ := hmem f hf
    have h1 := r v hv g hg
    have h2 := hap.lo q hq
    exact ⟨by omega, h1.2⟩
  have m1 : ∀ f : FM, f.2.1 ∈ [f.2.1, f.2.2.1, f.2.2.2] := fun f => List.mem_cons_self ..
  have m2 : ∀ f : FM, f.2.2.1 ∈ [f.2.1, f.2.2.1, f.2.2.2] := fun f => List.mem_cons_of_mem _ (List.mem_cons_self ..)
  have m3 : ∀ f : FM, f.2.2.2 ∈ [f.2.1, f.2.2.1, f.2.2.2] := fun f => List.mem_cons_of_mem _ (List.mem_cons_of_mem _ (List.mem_cons_self ..))
  have hin : ∀ v ∈ fs.flatMap (fun q => [q.2.1, q.2.2.1]), ∃ f ∈ fs, v ∈ [f.2.1, f.2.2.1, f.2.2.2] := by
    intro v hv
    obtain ⟨f, hf, hv⟩ := List.mem_flatMap.1 hv
    refine ⟨f, hf, ?_⟩
    rcases List.mem_cons.1 hv with rfl | hv
    · exact m1 f
    · rw [List.mem_singleton.1 hv]; exact m2 f
  have hin2 : ∀ v ∈ fs.map (fun q => q.2.2.2), ∃ f ∈ fs, v ∈ [f.2.1, f.2.2.1, f.2.2.2] := by
    intro v hv
    obtain ⟨f, hf, rfl⟩ := List.mem_map.1 hv
    exact ⟨f, hf, m3 f⟩
  have hin3 : ∀ v ∈ fs.flatMap (fun q => [q.2.1, q.2.2.1]) ++ fs.map (fun q => q.2.2.2), ∃ f ∈ fs, v ∈ [f.2.1, f.2.2.1, f.2.2.2] := by
    intro v hv
    rcases List.mem_append.1 hv with hv | hv
    · exact hin v hv
    · exact hin2 v hv
  have hup : ∀ w : AV, (∀ g ∈ w.gs, b ≤ g) → ∀ v ∈ fs.flatMap (fun q => [q.2.1, q.2.2.1]) ++ fs.map (fun q => q.2.2.2), Dis w v := by
    intro w hw v hv g hg hg'
    obtain ⟨f, hf, hv'⟩ := hin3 v hv
    have := hbd f hf v hv' g hg'
    have := hw g hg
    omega
  refine ⟨fs, ⟨hg, ha, hh, by rw [← hcss]; exact hf, hfun, fun f hf => ?_, ?_, ?_⟩, fun f hf v hv g hg => (hbd f hf v hv g hg).1⟩
  · obtain ⟨q, -, h1, h2, h3, -⟩ := hmem f hf
    exact ⟨h1, h2, h3⟩
  · simp only [MemM.all, MemM.labs, MemM.cods, List.cons_append, List.pairwise_cons]
    refine ⟨fun v hv => ?_, fun v hv => ?_, fun v hv => ?_, fun v hv => hup vh lh v hv, ?_⟩
    · rcases List.mem_cons.1 hv with rfl | hv
      · exact daf
      rcases List.mem_cons.1 hv with rfl | hv
      · exact dga.symm
      rcases List.mem_cons.1 hv with rfl | hv
      · exact dah
      exact hup va la v hv
    · rcases List.mem_cons.1 hv with rfl | hv
      · exact dgf.symm
      rcases List.mem_cons.1 hv with rfl | hv
      · exact dhf.symm
      obtain ⟨f, hf, hv'⟩ := hin3 v hv
      exact Dis.symm fun g hg => (hbd f hf v hv' g hg).2
    · rcases List.mem_cons.1 hv with rfl | hv
      · exact dgh
      exact hup vg lg v hv
    · rw [List.pairwise_append]
      refine ⟨?_, ?_, ?_⟩
      · rw [List.pairwise_flatMap]
        refine ⟨fun f hf => ?_, hpw.imp fun {f f'} h u hu w hw => ?_⟩
        · obtain ⟨q, -, -, -, -, -, d1, -⟩ := hmem f hf
          refine List.pairwise_cons.2 ⟨fun w hw => by rw [List.mem_singleton.1 hw]; exact d1, List.pairwise_singleton _ _⟩
        · refine h u ?_ w ?_
          · rcases List.mem_cons.1 hu with rfl | hu
            · exact m1 f
            · rw [List.mem_singleton.1 hu]; exact m2 f
          · rcases List.mem_cons.1 hw with rfl | hw
            · exact m1 f'
            · rw [List.mem_singleton.1 hw]; exact m2 f'
      · rw [List.pairwise_map]
        exact hpw.imp fun {f f'} h => h _ (m3 f) _ (m3 f')
      · intro u hu w hw
        obtain ⟨f, hf, hu⟩ := List.mem_flatMap.1 hu
        obtain ⟨f', hf', rfl⟩ := List.mem_map.1 hw
        obtain ⟨i, hi⟩ := List.getElem?_of_mem hf
        obtain ⟨j, hj⟩ := List.getElem?_of_mem hf'
        have hu' : u ∈ [f.2.1, f.2.2.1, f.2.2.2] := by
          rcases List.mem_cons.1 hu with rfl | hu
          · exact m1 f
          · rw [List.mem_singleton.1 hu]; exact m2 f
        obtain ⟨hi1, hi2⟩ := List.getElem?_eq_some_iff.1 hi
        obtain ⟨hj1, hj2⟩ := List.getElem?_eq_some_iff.1 hj
        have hpw' := List.pairwise_iff_getElem.1 hpw
        rcases Nat.lt_trichotomy i j with hij | hij | hij
        · have := hpw' i j hi1 hj1 hij
          rw [hi2, hj2] at this
          exact this u hu' _ (m3 f')
        · subst hij
          rw [hi] at hj
          cases hj
          obtain ⟨q, -, -, -, -, -, d1, d2, d3, -⟩ := hmem f hf
          rcases List.mem_cons.1 hu with rfl | hu
          · exact d2
          · rw [List.mem_singleton.1 hu]; exact d3
        · have := hpw' j i hj1 hi1 hij
          rw [hi2, hj2] at this
          exact (this _ (m3 f') u hu').symm
  · intro v hv
    simp only [MemM.all, MemM.labs, MemM.cods, List.cons_append] at hv
    rcases List.mem_cons.1 hv with rfl | hv
    · exact na
    rcases List.mem_cons.1 hv with rfl | hv
    · exact nf
    rcases List.mem_cons.1 hv with rfl | hv
    · exact ng
    rcases List.mem_cons.1 hv with rfl | hv
    · exact nh
    obtain ⟨f, hf, hv'⟩ := hin3 v hv
    obtain ⟨q, -, -, -, -, -, -, -, -, n⟩ := hmem f hf
    exact n v hv'
end Go.Ab
