/- Parts of one proof, put together: X7 H19 D25 H20 H21 D26 D27 D28 H22 D29 D30 D31 N1 N3 D32 D33 H23 D36 D37 H24 N4 D38. -/
import Derived.Test.YtdpdlmjlahehoaaLinkBinds3
/- What the third text left out. -/
namespace Go.Ab
section
variable {P : Program} {T : Tab} {K : FuncId → Option Bool}
variable {nt : Nat} {ops : Array Oper} {o : Oper} {rest : List Oper} {m : Sy} {s : St} {Q : Sy → St → Prop}
variable {D : Nat → Prop}
variable {c a b : Code} {R : Ex → Sy → St → Prop}
theorem wc_goto {l : Nat} (h : R (.goto l) m s) : WC P T K nt (.goto l) m s R := ⟨1, .goto l, m, s, h, fun n k _ hk t ht => by
  obtain ⟨k, rfl⟩ : ∃ j, k = j + 1 := ⟨k - 1, by omega⟩
  exact ⟨t, by simp only [evCode], ht⟩⟩
end
section
variable {P : Program} {T : Tab} {K : FuncId → Option Bool} {nt : Nat} {ops : Array Oper} {rest : List Oper} {m : Sy} {s s' : St} {Q : Sy → St → Prop} {op : Op} {d ty : Nat} {pos : String} {af : Array Edge} {g : Option (Nat × Bool)} {v : AV}
variable {D : Nat → Prop}
variable {a b c : Code} {R : Ex → Sy → St → Prop} {id : Nat} {I : Nat → Sy → St → Prop} {j : Nat}
end
end Go.Ab
namespace Go.Ab
theorem Row.cutF {H : Tr Grp} {sz : Nat} {v : AV} {α : Type} {f : α → List AV} {xs : List α} (k : Row H sz v (xs.map f)) {h : Nat} (hh : h ≤ xs.length) : Row H sz (cutA v 0 h) ((xs.take h).map f) := by
  have := k.cut (Nat.zero_le h) (by rwa [List.length_map])
  rw [List.drop_zero, Nat.sub_zero, ← List.map_take] at this
  exact this

section
variable {P : Program} {T : Tab} {K : FuncId → Option Bool} {nt : Nat} {ops : Array Oper} {rest : List Oper} {m : Sy} {s : St} {Q : Sy → St → Prop} {d ty : Nat} {pos : String} {af : Array Edge} {g : Option (Nat × Bool)}
end
end Go.Ab
namespace Go.Ab
section
variable {P : Program} {T : Tab} {K : FuncId → Option Bool} {nt : Nat} {ops : Array Oper}
variable {D : Nat → Prop} {A : List (Nat × Nat)} {j : Nat} {rest : List Oper} {hs : List (Option (Nat × List AV))} {m : Sy} {s s0 : St} {Q : Sy → St → Prop} {R : Ex → Sy → St → Prop} {o : Oper}
theorem we_nil (h : Q m s) : WE P T K nt ops D A j [] [] m s Q := ⟨0, m, s, h, fun _ _ t ht => ⟨t, [], rfl, ht, fun i e h => by simp at h⟩⟩
theorem we_cons (hr : ∀ t, Has t nt m → ∀ g, readsA t o.op = some g → D g)
    (h : W1 P T K nt ops o m s.bare fun m1 s1 => (∀ g ∈ s1.wr, ¬ D g ∧ ∀ p ∈ A, p.2 = g → aheadB (Region.before ops) p.1 j = true) ∧ WE P T K nt ops D A (j + 1) rest hs m1 (s1.join s) Q) : WE P T K nt ops D A j (o :: rest) (none :: hs) m s Q := by
  obtain ⟨N, m1, s1, ⟨hw, N', m', s', hq, h'⟩, hn⟩ := h
  refine ⟨max N N', m', s', hq, fun n hn' t ht => ?_⟩
  obtain ⟨t1, e1, ht1⟩ := hn n (by omega) t ht
  obtain ⟨t2, es, e2, ht2, he⟩ := h' n (by omega) t1 ht1
  refine ⟨t2, ⟨if guardA ops t o.guard = some true then readsA t o.op else none, s1.wr, none⟩ :: es, ?_, ht2, ?_⟩
  · rw [evLog, show ({ s with wr := [] } : St) = s.bare from rfl, e1]
    simp only
    rw [show ({ s1 with wr := s1.wr ++ s.wr } : St) = s1.join s from rfl, e2]
  · intro i e hi
    cases i with
    | zero =>
      simp only [List.getElem?_cons_zero, Option.some.injEq] at hi
      subst hi
      refine ⟨fun g hg => ?_, hw, fun g hg => by cases hg⟩
      simp only at hg
      split at hg
      · exact hr t ht g hg
      · cases hg
    | succ i =>
      have := he i e (by simpa using hi)
      rw [show j + (i + 1) = j + 1 + i by omega]
      exact this
theorem we_alloc {d ty : Nat} {pos : String} {af : Array Edge} {e : TypeId} {c : Nat} {cs : List AV} (hd : Nat.ble (d + 1) nt = true) (hA : (j, c) ∈ A) (k : WE P T K nt ops D A (j + 1) rest hs ((d, .ptr c 0 0) :: m) s Q) :
    WE P T K nt ops D A j (⟨some d, .alloc e, ty, pos, af, none⟩ :: rest) (some (c, cs) :: hs) m s Q := by
  obtain ⟨N, m', s', hq, hn⟩ := k
  refine ⟨N, m', s', hq, fun n hn' t ht => ?_⟩
  obtain ⟨t2, es, e2, ht2, he⟩ := hn n hn' (t.set d (.ptr c 0 0)) (ht.set _ (Nat.le_of_ble_eq_true hd))
  refine ⟨t2, ⟨none, [], some c⟩ :: es, ?_, ht2, ?_⟩
  · rw [evLog]
    have : earlyVal T ops ⟨some d, .alloc e, ty, pos, af, none⟩ t c cs = some (.ptr c 0 0) := rfl
    rw [this]
    simp only
    rw [show putA t (some d) (.ptr c 0 0) = t.set d (.ptr c 0 0) from rfl, e2]
  · intro i x hi
    cases i with
    | zero =>
      simp only [List.getElem?_cons_zero, Option.some.injEq] at hi
      subst hi
      exact ⟨fun g hg => by simp at hg, fun g hg => by simp at hg, fun g hg => by cases hg; exact hA⟩
    | succ i =>
      have := he i x (by simpa using hi)
      rw [show j + (i + 1) = j + 1 + i by omega]
      exact this
theorem logOk_ent {B : Array Nat} {l : List Entry} (h : ∀ (i : Nat) (e : Entry), l[i]? = some e → EntOk B D A i e) : logOk B l = true := by
  unfold logOk
  rw [List.all_eq_true]
  intro i _
  cases hi : l[i]? with
  | none => rfl
  | some x =>
    obtain ⟨h1, h2, h3⟩ := h i x hi
    simp only [Bool.and_eq_true]
    constructor
    · cases hrd : x.rd with
      | none => rfl
      | some g =>
        simp only
        rw [List.all_eq_true]
        intro e _
        cases he : l[e]? with
        | none => simp
        | some y =>
          obtain ⟨-, k2, -⟩ := h e y he
          have : y.wr.contains g = false := by
            cases hc : y.wr.contains g with
            | false => rfl
            | true => exact absurd (h1 g hrd) (k2 g (by simpa using hc)).1
          simp only [this, Bool.not_false, Bool.or_true]
    · cases hal : x.al with
      | none => rfl
      | some g =>
        simp only
        rw [List.all_eq_true]
        intro e _
        cases he : l[e]? with
        | none => simp
        | some y =>
          obtain ⟨-, k2, -⟩ := h e y he
          cases hc : y.wr.contains g with
          | false => simp only [hc, Bool.not_false, Bool.or_true]
          | true => rw [(k2 g (by simpa using hc)).2 (i, g) (h3 g hal) rfl]; rfl
theorem wc_early {id : Nat} (hd : drawOk false ops = true) (hh : hoist false T ops.toList [] s = some (s0, hs)) (h : WE P T K nt ops D A 0 ops.toList hs m s0 (R .normal)) : WC P T K nt (.region id ops true) m s R := by
  obtain ⟨N, m', s', hq, hn⟩ := h
  refine ⟨N + 1, .normal, m', s', hq, fun n k hn1 hk t ht => ?_⟩
  obtain ⟨t', es, e1, ht', he⟩ := hn n (by omega) t ht
  obtain ⟨k, rfl⟩ : ∃ j, k = j + 1 := ⟨k - 1, by omega⟩
  refine ⟨t', ?_, ht'⟩
  have : evDraw T (evCallK P T K n) false [] ops t s = some (t', s') := by
    unfold evDraw
    rw [hh]
    simp only [e1]
    rw [if_pos (logOk_ent (D := D) (A := A) fun i e hi => by have := he i e hi; rwa [Nat.zero_add] at this)]
  simp only [evCode, hd, if_true, this]
variable {X : List Nat} {d ty : Nat} {pos : String} {af : Array Edge} {g : Option (Nat × Bool)} {op : Op} {v : AV}
theorem we_val (hr : ∀ t, readsA t op = none) (hg : guardY ops m g = some true) (hd : Nat.ble (d + 1) nt = true) (h : ∀ t, Has t nt m → evOp T op t s.bare = some (.val v, s.bare)) (k : WE P T K nt ops D A (j + 1) rest hs ((d, v) :: m) s Q) :
    WE P T K nt ops D A j (⟨some d, op, ty, pos, af, g⟩ :: rest) (none :: hs) m s Q := we_cons (fun t _ g hg => by rw [hr t] at hg; cases hg) (w1_val hg hd h ⟨fun g hg => (by cases hg), k⟩)
theorem we_load {tt : TypeId} {a : Operand} {i : TI} {p : AV} {cs : List AV} (hK : Keep [] s0 s) (hx : evY m a = some p) (hT : T tt = some i) (hp : Pt s0.h p cs) (hc : loadC i cs = some v) (hX : ∀ g ∈ p.gs, g ∉ X) (hg : guardY ops m g = some true) (hd : Nat.ble (d + 1) nt = true)
    (k : WE P T K nt ops (Old s0 X) A (j + 1) rest hs ((d, v) :: m) s Q) : WE P T K nt ops (Old s0 X) A j (⟨some d, .load tt a, ty, pos, af, g⟩ :: rest) (none :: hs) m s Q :=
  have hp' : Pt s.h p cs := hp.keep hK (by intro g _ h; cases h)
  we_cons (fun t ht g hg => by
    have := rd_load ht hx g hg
    exact ⟨hp.lt hK.ok0 g this, hX g this⟩) (w1_val (s' := s.bare) hg hd (op_load (s := s.bare) hx hT (show Pt s.bare.h p cs from hp') hc) ⟨fun g hg => (by cases hg), k⟩)
theorem we_call {f : FuncId} {args : List AV} {R : AV → St → Prop} (hK : Keep [] s0 s) (hA : ∀ p ∈ A, p.2 < s0.ctr) (hg : guardY ops m g = some true) (hd : Nat.ble (d + 1) nt = true) (hr : ∀ t, readsA t op = none) (h : ∀ t, Has t nt m → evOp T op t s.bare = some (.call f args, s.bare)) (hc : CallS P T K f args s.bare R)
    (hw : ∀ v s', R v s' → Keep [] s.bare s') (k : ∀ v s', R v s' → Keep [] s (s'.join s) → WE P T K nt ops (Old s0 X) A (j + 1) rest hs ((d, v) :: m) (s'.join s) Q) : WE P T K nt ops (Old s0 X) A j (⟨some d, op, ty, pos, af, g⟩ :: rest) (none :: hs) m s Q :=
  we_cons (fun t _ g hg => by rw [hr t] at hg; cases hg) (w1_call hg hd h hc fun v s' hr' => by
    have hk := hw v s' hr'
    have key : ∀ g ∈ s'.wr, s0.ctr ≤ g := by
      intro g hg
      rcases hk.wr g hg with h1 | h1 | h1
      · cases h1
      · cases h1
      · exact Nat.le_trans hK.ctr h1
    refine ⟨fun g hg => ⟨fun ho => ?_, fun p hp e => ?_⟩, k v s' hr' hk.joined⟩
    · have := key g hg
      have := ho.1
      omega
    · have := key g hg
      have := hA p hp
      omega)
theorem we_store_all {tt : TypeId} {a x : Operand} {i : TI} {c off : Nat} {u : AV} {old : List AV} (hX : c ∈ X) (hok : s.Ok) (hah : ∀ p ∈ A, p.2 = c → aheadB (Region.before ops) p.1 j = true) (hg : guardY ops m g = some true) (ha : evY m a = some (.ptr c 0 off)) (hx : evY m x = some u) (hT : T tt = some i) (hl : u.cells.length = i.size) (hlo : u.cells.length = old.length)
    (hz : u.cells.all AV.leaf = true) (hp : Pt s.h (.ptr c 0 off) old)
    (k : ∀ s', Pt s'.h (.ptr c 0 off) u.cells → Keep [c] s s' → s'.ctr = s.ctr → WE P T K nt ops (Old s0 X) A (j + 1) rest hs m s' Q) : WE P T K nt ops (Old s0 X) A j (⟨none, .store tt a x, ty, pos, af, g⟩ :: rest) (none :: hs) m s Q := by
  have hokb : s.bare.Ok := hok
  have hpb : rdH s.bare.h c 0 off old.length = some old := hp
  have hw : ∃ G G', s.get c = some G ∧ s.write c 0 off u.cells = some (s.setG c G') := by
    obtain ⟨s', e1, -⟩ := write_over (s := s) hok (show rdH s.h c 0 off old.length = some old from hp) (k := 0) (c := u.cells) (by omega) hz
    rw [Nat.add_zero] at e1
    unfold St.write at e1 ⊢
    simp only [hz, if_true] at e1 ⊢
    split at e1
    · cases e1
    · rename_i G hG
      split at e1
      · cases e1
      · rename_i G' hG'
        exact ⟨G, G', hG, by simp only []⟩
  obtain ⟨s', e1, e2, e3, e4⟩ := write_over hokb hpb (k := 0) (c := u.cells) (by omega) hz
  rw [Nat.add_zero] at e1
  have hwr : ∀ g ∈ s'.wr, g = c := by
    unfold St.write at e1
    simp only [hz, if_true] at e1
    split at e1
    · cases e1
    · split at e1
      · cases e1
      · cases e1
        intro g hg
        exact List.mem_singleton.1 hg
  refine we_cons (fun t _ g hg => by cases hg) (w1_skip (s' := s') hg rfl (fun t ht => ?_) ⟨fun g hg => ?_, k (s'.join s) ?_ e3.joined e4⟩)
  · have hnl : ¬ (u.cells.length ≠ i.size) := fun h => h hl
    simp only [evOp, hT, evY_ok ht ha, evY_ok ht hx, if_neg hnl, e1]
  · rw [hwr g hg]
    exact ⟨fun ho => ho.2 hX, hah⟩
  · show rdH s'.h c 0 off u.cells.length = some u.cells
    rw [hlo, e2]
    unfold over
    simp [hlo]
end
end Go.Ab
namespace Go.Ab
open Go.Proofs
set_option maxRecDepth 10000 in
theorem cloneCode_ok {s : St} {v : AV} {cs : List (List AV)} (hok : s.Ok) (hl : cs.length ≤ 2097152) (hv : Row s.h 2 v cs) (hg : v.gs ≠ []) :
    CallS Try.prog Tt Kt 55 [v] s (fun r s' => Keep [] s s' ∧ Row s'.h 2 r cs ∧ (∀ g ∈ r.gs, s.ctr ≤ g) ∧ r.gs ≠ []) := by
  refine call_of (fn := Try.f55) (nt := 8) Try.func55 rfl rfl rfl ?_
  repeat refine wc_seq ?_
  refine wc_region ?_
  refine w_val rfl rfl (op_pure rfl) ?_
  refine w_nil ?_
  refine then_n ?_
  repeat refine wc_seq ?_
  refine wc_region ?_
  refine w_val rfl rfl (op_pure rfl) ?_
  refine w_val rfl rfl (op_isnil rfl rfl rfl rfl hv hg) ?_
  refine w_nil ?_
  refine then_n ?_
  repeat refine wc_seq ?_
  refine wc_condT rfl (fun h4 => ?_) (fun h4 => ?_)
  · cases h4
  clear h4
  refine wc_skip ?_
  refine then_n ?_
  repeat refine wc_seq ?_
  refine wc_region ?_
  refine w_lit0 rfl rfl rfl rfl rfl rfl (by decide) hok ?_
  rintro a s1 ha hk1 hc1 hga
  have hv1 := hv.keep0 hk1
  refine w_val rfl rfl (op_pure rfl) ?_
  refine w_append rfl rfl rfl rfl rfl rfl rfl rfl rfl (by decide) hk1.ok ha (fun e => by rw [hga] at e; cases e) hv1 (by simp only [List.length_nil, maxBytes]; omega) (by simp only [List.length_nil, maxBytes]; omega) ?_
  rintro r s2 hr hk2 hc2 hgr - -
  rw [List.nil_append] at hr
  refine w_val rfl rfl (op_pure rfl) ?_
  refine w_nil ?_
  refine then_n ?_
  refine wc_ret ?_
  repeat first | refine then_r ?_ | refine out_r ?_ | refine round_r ?_ | refine cut_r ?_ | refine sc_r ?_
  refine ⟨_, rfl, hk1.fresh hk2 (by rw [hga]; exact mem_none _), hr, ?_, ?_⟩
  · show ∀ g ∈ r.gs, _
    rcases hgr with e | e
    · rw [e, hga]; exact mem_none _
    · rw [e]; intro g hg; rw [List.mem_singleton.1 hg]; omega
  · show r.gs ≠ []
    rcases hgr with e | e
    · rw [e, hga]; exact fun e => by cases e
    · rw [e]; exact fun e => by cases e
set_option maxRecDepth 10000 in
theorem cloneInts_ok {s : St} {v : AV} {cs : List (List AV)} (hok : s.Ok) (hl : cs.length ≤ 2097152) (hv : Row s.h 1 v cs) (hg : v.gs ≠ []) :
    CallS Try.prog Tt Kt 100 [v] s (fun r s' => Keep [] s s' ∧ Row s'.h 1 r cs ∧ (∀ g ∈ r.gs, s.ctr ≤ g) ∧ r.gs ≠ []) := by
  refine call_of (fn := Try.f100) (nt := 8) Try.func100 rfl rfl rfl ?_
  repeat refine wc_seq ?_
  refine wc_region ?_
  refine w_val rfl rfl (op_pure rfl) ?_
  refine w_nil ?_
  refine then_n ?_
  repeat refine wc_seq ?_
  refine wc_region ?_
  refine w_val rfl rfl (op_pure rfl) ?_
  refine w_val rfl rfl (op_isnil rfl rfl rfl rfl hv hg) ?_
  refine w_nil ?_
  refine then_n ?_
  repeat refine wc_seq ?_
  refine wc_condT rfl (fun h4 => ?_) (fun h4 => ?_)
  · cases h4
  clear h4
  refine wc_skip ?_
  refine then_n ?_
  repeat refine wc_seq ?_
  refine wc_region ?_
  refine w_lit0 rfl rfl rfl rfl rfl rfl (by decide) hok ?_
  rintro a s1 ha hk1 hc1 hga
  have hv1 := hv.keep0 hk1
  refine w_val rfl rfl (op_pure rfl) ?_
  refine w_append rfl rfl rfl rfl rfl rfl rfl rfl rfl (by decide) hk1.ok ha (fun e => by rw [hga] at e; cases e) hv1 (by simp only [List.length_nil, maxBytes]; omega) (by simp only [List.length_nil, maxBytes]; omega) ?_
  rintro r s2 hr hk2 hc2 hgr - -
  rw [List.nil_append] at hr
  refine w_val rfl rfl (op_pure rfl) ?_
  refine w_nil ?_
  refine then_n ?_
  refine wc_ret ?_
  repeat first | refine then_r ?_ | refine out_r ?_ | refine round_r ?_ | refine cut_r ?_ | refine sc_r ?_
  refine ⟨_, rfl, hk1.fresh hk2 (by rw [hga]; exact mem_none _), hr, ?_, ?_⟩
  · show ∀ g ∈ r.gs, _
    rcases hgr with e | e
    · rw [e, hga]; exact mem_none _
    · rw [e]; intro g hg; rw [List.mem_singleton.1 hg]; omega
  · show r.gs ≠ []
    rcases hgr with e | e
    · rw [e, hga]; exact fun e => by cases e
    · rw [e]; exact fun e => by cases e
end Go.Ab
namespace Go.Ab
theorem dis_clip {u v : AV} (h : Dis u v) : Dis (clipA u) v := fun g hg => h g (by rwa [clipA_gs] at hg)
end Go.Ab
/- What a function owns, in one list of chunks: each with its groups, all apart; rules that turn the list. -/
namespace Go.Ab
structure Chunk where
  F : Nat → Prop
  P : Tr Grp → Prop
  kp : ∀ {Y : List Nat} {s s' : St}, P s.h → Keep Y s s' → (∀ g ∈ Y, ¬ F g) → P s'.h
def ptC (p : AV) (cs : List AV) : Chunk := ⟨fun g => g ∈ p.gs, fun h => Pt h p cs, fun k h hY => k.keep h fun g hg hy => hY g hy hg⟩
def rowC (v : AV) (sz : Nat) (css : List (List AV)) : Chunk := ⟨fun g => g ∈ v.gs, fun h => Row h sz v css ∧ (v.gs = [] → v = .nils), fun k h hY => ⟨k.1.keep h fun g hg hy => hY g hy hg, k.2⟩⟩
def emC : Chunk := ⟨fun _ => False, fun _ => True, fun _ _ _ => trivial⟩
def bldC {α : Type} (R : RP α) (hG : Good R) (F : Nat → Prop) (sz : Nat) (v : AV) (xs : List α) : Chunk :=
  ⟨F, fun h => ∃ css, Row h sz v css ∧ (v.gs = [] → v = .nils) ∧ (∀ g ∈ v.gs, F g) ∧ css.length = xs.length ∧ ∀ (i : Nat) (x : α) (c : List AV), xs[i]? = some x → css[i]? = some c → R h (fun g => F g ∧ g ∉ v.gs) x c,
   fun ⟨css, h1, h2, h3, h4, h5⟩ h hY => ⟨css, h1.keep h fun g hg hy => hY g hy (h3 g hg), h2, h3, h4, fun i x c k1 k2 => hG.keep (h5 i x c k1 k2) h fun g hy hF => hY g hy hF.1⟩⟩
structure SH (s0 : St) (L : List Chunk) (s : St) : Prop where
  K : Keep [] s0 s
  own : ∀ (i : Nat) (c : Chunk), L[i]? = some c → c.P s.h ∧ ∀ g, c.F g → s0.ctr ≤ g ∧ g < s.ctr
  dis : ∀ (i j : Nat) (c d : Chunk), i ≠ j → L[i]? = some c → L[j]? = some d → ∀ g, c.F g → ¬ d.F g
section
variable {s0 s s' : St} {L : List Chunk} {c c' d : Chunk} {i j : Nat} {Y : List Nat}
theorem SH.ok (h : SH s0 L s) : s.Ok := h.K.ok
theorem SH.start (hok : s.Ok) : SH s [] s := ⟨Keep.refl hok, fun i c h => by simp at h, fun i j c d _ h => by simp at h⟩
theorem SH.get (h : SH s0 L s) (i : Nat) (hi : L[i]? = some c) : c.P s.h := (h.own i c hi).1
theorem SH.bd (h : SH s0 L s) (i : Nat) (hi : L[i]? = some c) : ∀ g, c.F g → s0.ctr ≤ g ∧ g < s.ctr := (h.own i c hi).2
theorem SH.row {v : AV} {sz : Nat} {css : List (List AV)} (h : SH s0 L s) (i : Nat) (hi : L[i]? = some (rowC v sz css)) : Row s.h sz v css := (h.get i hi).1
theorem SH.nls {v : AV} {sz : Nat} {css : List (List AV)} (h : SH s0 L s) (i : Nat) (hi : L[i]? = some (rowC v sz css)) : v.gs = [] → v = .nils := (h.get i hi).2
theorem SH.pt {p : AV} {cs : List AV} (h : SH s0 L s) (i : Nat) (hi : L[i]? = some (ptC p cs)) : Pt s.h p cs := h.get i hi
theorem SH.mov (h : SH s0 L s) (k : Keep [] s s') : SH s0 L s' :=
  ⟨h.K.two k, fun i c hi => ⟨c.kp (h.own i c hi).1 k (fun g hg => by cases hg), fun g hg => ⟨((h.own i c hi).2 g hg).1, Nat.lt_of_lt_of_le ((h.own i c hi).2 g hg).2 k.ctr⟩⟩, h.dis⟩
theorem SH.add (h : SH s0 L s) (k : Keep [] s s') (c : Chunk) (hP : c.P s'.h) (hF : ∀ g, c.F g → s.ctr ≤ g ∧ g < s'.ctr) : SH s0 (L ++ [c]) s' := by
  have hm := h.mov k
  have hc := h.K.ctr
  have key : ∀ (i : Nat) (x : Chunk), (L ++ [c])[i]? = some x → (i < L.length ∧ L[i]? = some x) ∨ (i = L.length ∧ x = c) := by
    intro i x hi
    by_cases hl : i < L.length
    · rw [List.getElem?_append_left hl] at hi; exact .inl ⟨hl, hi⟩
    · have h1 := (List.getElem?_eq_some_iff.1 hi).1
      rw [List.length_append, List.length_singleton] at h1
      have e : i = L.length := by omega
      subst e
      rw [List.getElem?_append_right (Nat.le_refl _), Nat.sub_self] at hi
      simp at hi
      exact .inr ⟨rfl, hi.symm⟩
  refine ⟨hm.K, fun i x hi => ?_, fun i j x y hij hi hj g hx hy => ?_⟩
  · rcases key i x hi with ⟨-, h1⟩ | ⟨-, rfl⟩
    · exact hm.own i x h1
    · exact ⟨hP, fun g hg => ⟨Nat.le_trans hc (hF g hg).1, (hF g hg).2⟩⟩
  · rcases key i x hi with ⟨h0, h1⟩ | ⟨h1, rfl⟩ <;> rcases key j y hj with ⟨k0, k1⟩ | ⟨k1, rfl⟩
    · exact h.dis i j x y hij h1 k1 g hx hy
    · have := (h.own i x h1).2 g hx; have := hF g hy; omega
    · have := (h.own j y k1).2 g hy; have := hF g hx; omega
    · omega
theorem getElem?_set_cases {α : Type} {L : List α} {i j : Nat} {c x : α} (h : (L.set i c)[j]? = some x) : (j = i ∧ x = c ∧ i < L.length) ∨ (j ≠ i ∧ L[j]? = some x) := by
  rw [List.getElem?_set] at h
  split at h
  · rename_i e
    split at h
    · cases h; exact .inl ⟨e.symm, rfl, by omega⟩
    · cases h
  · exact .inr ⟨by omega, h⟩
theorem SH.upd (h : SH s0 L s) (i : Nat) (hi : L[i]? = some c) (k : Keep Y s s') (hY : ∀ g ∈ Y, c.F g) (c' : Chunk) (hP : c'.P s'.h) (hF : ∀ g, c'.F g → c.F g ∨ (s.ctr ≤ g ∧ g < s'.ctr)) : SH s0 (L.set i c') s' := by
  have hc := h.K.ctr
  have hk := k.ctr
  refine ⟨h.K.fresh k fun g hg => ((h.own i c hi).2 g (hY g hg)).1, fun j x hj => ?_, fun a b x y hab ha hb g hx hy => ?_⟩
  · rcases getElem?_set_cases hj with ⟨-, rfl, -⟩ | ⟨hne, hj⟩
    · refine ⟨hP, fun g hg => ?_⟩
      rcases hF g hg with h1 | h1
      · have := (h.own i c hi).2 g h1; omega
      · omega
    · obtain ⟨k1, k2⟩ := h.own j x hj
      refine ⟨x.kp k1 k fun g hg hx => h.dis j i x c hne hj hi g hx (hY g hg), fun g hg => ?_⟩
      have := k2 g hg; omega
  · rcases getElem?_set_cases ha with ⟨e1, e1', -⟩ | ⟨hne, ha'⟩ <;> rcases getElem?_set_cases hb with ⟨e2, e2', -⟩ | ⟨hne2, hb'⟩
    · omega
    · rw [e1'] at hx
      rcases hF g hx with h1 | h1
      · exact h.dis i b c y (by omega) hi hb' g h1 hy
      · have := (h.own b y hb').2 g hy; omega
    · rw [e2'] at hy
      rcases hF g hy with h1 | h1
      · exact h.dis a i x c (by omega) ha' hi g hx h1
      · have := (h.own a x ha').2 g hx; omega
    · exact h.dis a b x y hab ha' hb' g hx hy
/-- The same memory, told otherwise. -/
theorem SH.as (h : SH s0 L s) (i : Nat) (hi : L[i]? = some c) (c' : Chunk) (hP : c'.P s.h) (hF : ∀ g, c'.F g → c.F g) : SH s0 (L.set i c') s :=
  h.upd i hi (Keep.refl h.ok) (fun g hg => by cases hg) c' hP fun g hg => .inl (hF g hg)
/-- Two chunks as one. -/
theorem SH.mrg (h : SH s0 L s) (i j : Nat) (_hij : i ≠ j) (hi : L[i]? = some c) (hj : L[j]? = some d) (c' : Chunk) (hP : c'.P s.h) (hF : ∀ g, c'.F g → c.F g ∨ d.F g) : SH s0 ((L.set j emC).set i c') s := by
  refine ⟨h.K, fun a x ha => ?_, fun a b x y hab ha hb g hx hy => ?_⟩
  · rcases getElem?_set_cases ha with ⟨-, rfl, -⟩ | ⟨-, ha⟩
    · exact ⟨hP, fun g hg => (hF g hg).elim ((h.own i c hi).2 g) ((h.own j d hj).2 g)⟩
    · rcases getElem?_set_cases ha with ⟨-, rfl, -⟩ | ⟨-, ha⟩
      · exact ⟨trivial, fun g hg => hg.elim⟩
      · exact h.own a x ha
  · rcases getElem?_set_cases ha with ⟨e1, e1', -⟩ | ⟨n1, ha'⟩ <;> rcases getElem?_set_cases hb with ⟨e2, e2', -⟩ | ⟨n2, hb'⟩
    · omega
    · rw [e1'] at hx
      rcases getElem?_set_cases hb' with ⟨-, e3, -⟩ | ⟨n3, hb''⟩
      · rw [e3] at hy; exact hy
      · rcases hF g hx with h1 | h1
        · exact h.dis i b c y (by omega) hi hb'' g h1 hy
        · exact h.dis j b d y (by omega) hj hb'' g h1 hy
    · rw [e2'] at hy
      rcases getElem?_set_cases ha' with ⟨-, e3, -⟩ | ⟨n3, ha''⟩
      · rw [e3] at hx; exact hx
      · rcases hF g hy with h1 | h1
        · exact h.dis a i x c (by omega) ha'' hi g hx h1
        · exact h.dis a j x d (by omega) ha'' hj g hx h1
    · rcases getElem?_set_cases ha' with ⟨-, e3, -⟩ | ⟨n3, ha''⟩
      · rw [e3] at hx; exact hx
      · rcases getElem?_set_cases hb' with ⟨-, e4, -⟩ | ⟨n4, hb''⟩
        · rw [e4] at hy; exact hy
        · exact h.dis a b x y hab ha'' hb'' g hx hy
def pickL (L : List Chunk) : List Nat → Option (List Chunk)
  | [] => some []
  | j :: r => match L[j]?, pickL L r with
    | some c, some l => some (c :: l)
    | _, _ => none
theorem pickL_get : ∀ {js : List Nat} {L L' : List Chunk}, pickL L js = some L' → ∀ (i : Nat) (c : Chunk), L'[i]? = some c → ∃ j, js[i]? = some j ∧ L[j]? = some c
  | [], L, L', h, i, c, hi => by cases h; simp at hi
  | j :: r, L, L', h, i, c, hi => by
    unfold pickL at h
    split at h
    · rename_i x l hx hl
      cases h
      cases i with
      | zero => simp at hi; subst hi; exact ⟨j, rfl, hx⟩
      | succ i =>
        obtain ⟨k, h1, h2⟩ := pickL_get hl i c (by simpa using hi)
        exact ⟨k, by simpa using h1, h2⟩
    · cases h
/-- Some of the chunks, in another order. -/
theorem SH.sel {L' : List Chunk} (h : SH s0 L s) (js : List Nat) (hL : pickL L js = some L') (hn : js.Nodup) : SH s0 L' s := by
  refine ⟨h.K, fun i c hi => ?_, fun a b x y hab ha hb => ?_⟩
  · obtain ⟨k, -, h2⟩ := pickL_get hL i c hi
    exact h.own k c h2
  · obtain ⟨p, p1, p2⟩ := pickL_get hL a x ha
    obtain ⟨q, q1, q2⟩ := pickL_get hL b y hb
    refine h.dis p q x y (fun e => hab ?_) p2 q2
    subst e
    exact (List.getElem?_inj (List.getElem?_eq_some_iff.1 p1).1 hn).1 (p1.trans q1.symm)
theorem SH.nil (h : SH s0 L s) (sz : Nat) : SH s0 (L ++ [rowC .nils sz []]) s := h.add (Keep.refl h.ok) _ ⟨rfl, fun _ => rfl⟩ fun g hg => by cases hg
end
theorem row_newb {s s' : St} {sz : Nat} {v : AV} {css : List (List AV)} (_k : Keep [] s s') (_h : Row s'.h sz v css) (hv : v.gs = [s.ctr]) (hc : s'.ctr = s.ctr + 1) : ∀ g ∈ v.gs, s.ctr ≤ g ∧ g < s'.ctr := fun g hg => by
  rw [hv] at hg; rw [List.mem_singleton.1 hg]; omega
section
variable {P : Program} {T : Tab} {K : FuncId → Option Bool} {nt : Nat} {ops : Array Oper} {rest : List Oper} {m : Sy} {s s0 : St} {Q : Sy → St → Prop} {d ty : Nat} {pos : String} {af : Array Edge} {g : Option (Nat × Bool)} {L : List Chunk}
theorem ws_alloc {e : TypeId} {i : TI} (hS : SH s0 L s) (hg : guardY ops m g = some true) (hd : Nat.ble (d + 1) nt = true) (hT : T e = some i) (hz : i.zero.all AV.leaf = true)
    (k : ∀ c s', SH s0 (L ++ [ptC (.ptr c 0 0) i.zero]) s' → Keep [] s s' → W P T K nt ops rest ((d, .ptr c 0 0) :: m) s' Q) : W P T K nt ops (⟨some d, .alloc e, ty, pos, af, g⟩ :: rest) m s Q := by
  refine w_alloc hg hd hT hz hS.ok fun s' hp hk hc => k _ s' (hS.add hk _ hp fun g hg => ?_) hk
  rw [List.mem_singleton.1 hg]; omega
theorem ws_box {e : TypeId} {x : Operand} {v : AV} (hS : SH s0 L s) (hg : guardY ops m g = some true) (hd : Nat.ble (d + 1) nt = true) (hx : evY m x = some v) (hz : v.cells.all AV.leaf = true)
    (k : ∀ c s', SH s0 (L ++ [ptC (.ptr c 0 0) v.cells]) s' → Keep [] s s' → W P T K nt ops rest ((d, .ptr c 0 0) :: m) s' Q) : W P T K nt ops (⟨some d, .box e x, ty, pos, af, g⟩ :: rest) m s Q := by
  refine w_box hg hd hx hz hS.ok fun s' hp hk hc => k _ s' (hS.add hk _ hp fun g hg => ?_) hk
  rw [List.mem_singleton.1 hg]; omega
theorem ws_store {tt : TypeId} {a x : Operand} {i : TI} {u : AV} {c o : Nat} {cs : List AV} (n : Nat) (hS : SH s0 L s) (hn : L[n]? = some (ptC (.ptr c 0 0) cs)) (hg : guardY ops m g = some true) (ha : evY m a = some (.ptr c 0 o)) (hx : evY m x = some u) (hT : T tt = some i) (hl : u.cells.length = i.size)
    (hz : u.cells.all AV.leaf = true) (hlo : o + u.cells.length ≤ cs.length)
    (k : ∀ s', SH s0 (L.set n (ptC (.ptr c 0 0) (over cs o u.cells))) s' → W P T K nt ops rest m s' Q) : W P T K nt ops (⟨none, .store tt a x, ty, pos, af, g⟩ :: rest) m s Q := by
  refine w_store_fld (o := o) hg (p := .ptr c 0 0) (by rw [ha]; simp only [fldA, Nat.zero_add]) hx hT hl hz hS.ok (hS.pt n hn) (by simp [AV.gs]) hlo fun s' hp hk hc => k s' (hS.upd n hn hk (fun g hg => hg) _ hp fun g hg => .inl hg)
theorem ws_storeL {tt : TypeId} {a x : Operand} {i : TI} {u : AV} {c o : Nat} {cs : List AV} (n : Nat) (hS : SH s0 L s) (hn : L[n]? = some (ptC (.ptr c 0 0) cs)) (hg : guardY ops m g = some true) (ha : evY m a = some (.ptr c 0 o)) (hx : evY m x = some u) (hT : T tt = some i) (h1 : i.size = 1)
    (hu : u.leaf = true) (hlo : o < cs.length)
    (k : ∀ s', SH s0 (L.set n (ptC (.ptr c 0 0) (cs.set o u))) s' → W P T K nt ops rest m s' Q) : W P T K nt ops (⟨none, .store tt a x, ty, pos, af, g⟩ :: rest) m s Q := by
  have hc : u.cells = [u] := AV.cells_leaf hu
  refine ws_store n hS hn hg ha hx hT (by rw [hc, h1]; rfl) (by rw [hc]; simp [hu]) (by rw [hc]; exact hlo) fun s' h => k s' ?_
  have : over cs o u.cells = cs.set o u := by
    rw [hc]; unfold over
    rw [List.set_eq_take_append_cons_drop, if_pos hlo]
    simp
  rwa [this] at h
theorem op_fldP {st : TypeId} {x : Operand} {f : Nat} {i : TI} {fs : List (Nat × Nat × Bool)} {off sz : Nat} {ag : Bool} {c j o : Nat} (hx : evY m x = some (.ptr c j o)) (hT : T st = some i) (hs : i.sh = .struct fs) (hf : fs[f]? = some (off, sz, ag)) (hz : sz ≠ 0) :
    ∀ t, Has t nt m → evOp T (.fieldAddr st x f) t s = some (.val (.ptr c j (o + off)), s) := by
  intro t ht
  obtain ⟨sh, size, bytes, zero, flat⟩ := i
  cases hs
  simp only [evOp, hT, hf, evY_ok ht hx, hz, if_false]
theorem Pt.at {h : Tr Grp} {c o : Nat} {cs : List AV} (k : Pt h (.ptr c 0 0) cs) (ho : o ≤ cs.length) : Pt h (.ptr c 0 o) (cs.drop o) := by
  have := k.fld o ho
  rwa [fldA, Nat.zero_add] at this
theorem op_loadC {tt : TypeId} {a : Operand} {i : TI} {c o : Nat} {v : AV} {cs : List AV} (n : Nat) (hS : SH s0 L s) (hn : L[n]? = some (ptC (.ptr c 0 0) cs)) (hx : evY m a = some (.ptr c 0 o)) (hT : T tt = some i) (ho : o ≤ cs.length) (hc : loadC i (cs.drop o) = some v) :
    ∀ t, Has t nt m → evOp T (.load tt a) t s = some (.val v, s) := op_load hx hT ((hS.pt n hn).at ho) hc
theorem ws_append {tt e : TypeId} {x y : Operand} {args : Array Operand} {tys : Array TypeId} {i ie : TI} {a b : AV} {sz : Nat} {cs ns : List (List AV)} (n : Nat) (hS : SH s0 L s) (hn : L[n]? = some (rowC a sz cs)) (hg : guardY ops m g = some true) (hd : Nat.ble (d + 1) nt = true) (h1 : args.toList = [x, y]) (h2 : tys.toList = [tt, tt])
    (hx : evY m x = some a) (hy : evY m y = some b) (hT : T tt = some i) (hs : i.sh = .slice e) (he : T e = some ie) (hsz : ie.size = sz) (h0 : sz ≠ 0) (hb : Row s.h sz b ns)
    (hb1 : (cs.length + ns.length) * ie.bytes ≤ maxBytes) (hb2 : cs.length + ns.length ≤ maxBytes)
    (k : ∀ v s', SH s0 (L.set n (rowC v sz (cs ++ ns))) s' → W P T K nt ops rest ((d, v) :: m) s' Q) :
    W P T K nt ops (⟨some d, .call ⟨.builtin .append, args, tys⟩, ty, pos, af, g⟩ :: rest) m s Q := by
  subst hsz
  refine w_append hg hd h1 h2 hx hy hT hs he h0 hS.ok (hS.row n hn) (hS.nls n hn) hb hb1 hb2 fun v s' hv hk hle hvg hvn _ => k v s' (hS.upd n hn hk (fun g hg => hg) _ ⟨hv, hvn⟩ fun g hg => ?_)
  rcases hvg with h | h
  · exact .inl (by have hg : _ ∈ v.gs := hg; rwa [h] at hg)
  · have hg : _ ∈ v.gs := hg
    exact .inr ⟨by rw [h] at hg; rw [List.mem_singleton.1 hg]; exact Nat.le_refl _, hv.lt hk.ok _ hg⟩
/-- append of one element that was just built. -/
theorem ws_lit1 {tt e : TypeId} {parts : Array (Nat × Operand)} {i ie : TI} {ps : List (Nat × AV)} {c : List AV} {sz : Nat} (hS : SH s0 L s) (hg : guardY ops m g = some true) (hd : Nat.ble (d + 1) nt = true) (hT : T tt = some i) (hs : i.sh = .slice e) (he : T e = some ie) (hp : evPartsY m parts.toList = some ps)
    (hsz : ie.size = sz) (hz : ie.zero.length = ie.size) (h0 : ie.size ≠ 0) (h24 : ie.size ≤ 2 ^ 24) (hf : fillA (fun n => some (n * ie.size, ie.size)) ie.zero ps = some c) (hl : c.all AV.leaf = true) (hcl : c.length = ie.size)
    (k : ∀ v s', SH s0 L s' → Keep [] s s' → Row s'.h sz v [c] → W P T K nt ops rest ((d, v) :: m) s' Q) : W P T K nt ops (⟨some d, .buildSlice tt 1 parts, ty, pos, af, g⟩ :: rest) m s Q := by
  subst hsz
  exact w_lit1 hg hd hT hs he hp hz h0 h24 hf hl hcl hS.ok fun v s' hv hk hc hvg => k v s' (hS.mov hk) hk hv
theorem ws_storeE {tt : TypeId} {a x : Operand} {i : TI} {r u : AV} {j sz : Nat} {cs : List (List AV)} (n : Nat) (hS : SH s0 L s) (hn : L[n]? = some (rowC r sz cs)) (hg : guardY ops m g = some true) (ha : evY m a = some (elemA r j)) (hx : evY m x = some u) (hT : T tt = some i) (hl : u.cells.length = i.size) (hsz : i.size = sz)
    (hz : u.cells.all AV.leaf = true) (hj : j < cs.length)
    (k : ∀ s', SH s0 (L.set n (rowC r sz (cs.set j u.cells))) s' → W P T K nt ops rest m s' Q) : W P T K nt ops (⟨none, .store tt a x, ty, pos, af, g⟩ :: rest) m s Q := by
  have hr := hS.row n hn
  have hne : r.gs ≠ [] := fun h => by
    have := hS.nls n hn h
    subst this
    cases (hr : cs = [])
    simp at hj
  exact w_store_row hg ha hx hT hl hsz hz hS.ok hr hne hj fun s' hv hk hc => k s' (hS.upd n hn hk (fun g hg => hg) _ ⟨hv, fun h => (hne h).elim⟩ fun g hg => .inl hg)
end
end Go.Ab
/- link.Link. -/
namespace Go.Ab
open Go.Proofs
theorem Lent.ng {α : Type} {h : Tr Grp} {sz : Nat} {f : α → List AV} {mk : List AV} {v : AV} {xs : List α} (k : Lent h sz f mk v xs) : v.gs ≠ [] := by
  obtain ⟨u, rfl, hu, -⟩ := k
  rw [cutA_gs]; exact hu
theorem fill2 {a b : AV} (ha : a.leaf = true) (hb : b.leaf = true) : fillA (fun n => some (n * 1, 1)) (List.replicate 2 [AV.nils]).flatten [(0, a), (1, b)] = some [a, b] := by
  simp [fillA, AV.cells_leaf ha, AV.cells_leaf hb, over, List.replicate]
theorem dis_clip2 {u v : AV} (h : Dis u v) : Dis (clipA u) (clipA v) := fun g hg h' => h g (by rwa [clipA_gs] at hg) (by rwa [clipA_gs] at h')
end Go.Ab
/- Appending, with what it leaves of the rows of the same group; several rows that are apart. -/
namespace Go.Ab
/-- What appending leaves. -/
structure AppK (a v : AV) (s s' : St) (k : Nat) : Prop where
  fin : v.gs = a.gs → a.gs ≠ [] → finA s'.h v = finA s.h a + k
  rows : ∀ {sz' : Nat} {r : AV} {rs : List (List AV)}, Row s.h sz' r rs → (∀ g ∈ r.gs, g ∈ a.gs → finA s.h r ≤ finA s.h a) → Row s'.h sz' r rs ∧ finA s'.h r = finA s.h r
section
variable {P : Program} {T : Tab} {K : FuncId → Option Bool} {nt : Nat} {ops : Array Oper} {rest : List Oper} {m : Sy} {s s0 : St} {Q : Sy → St → Prop} {d ty : Nat} {pos : String} {af : Array Edge} {g : Option (Nat × Bool)} {L : List Chunk}
theorem w_appendK {tt e : TypeId} {x y : Operand} {args : Array Operand} {tys : Array TypeId} {i ie : TI} {a b : AV} {cs ns : List (List AV)} {sz : Nat} (hg : guardY ops m g = some true) (hd : Nat.ble (d + 1) nt = true) (h1 : args.toList = [x, y]) (h2 : tys.toList = [tt, tt])
    (hx : evY m x = some a) (hy : evY m y = some b) (hT : T tt = some i) (hs : i.sh = .slice e) (he : T e = some ie) (hsz : ie.size = sz) (h0 : sz ≠ 0) (hok : s.Ok) (ha : Row s.h sz a cs) (hro : a.gs = [] → a = .nils) (hb : Row s.h sz b ns)
    (hb1 : (cs.length + ns.length) * ie.bytes ≤ maxBytes) (hb2 : cs.length + ns.length ≤ maxBytes)
    (k : ∀ v s', Row s'.h sz v (cs ++ ns) → Keep a.gs s s' → s'.ctr ≤ s.ctr + 1 → (v.gs = a.gs ∨ v.gs = [s.ctr]) → (v.gs = [] → v = .nils) → (ns ≠ [] → v.gs ≠ []) → AppK a v s s' (ns.length * sz) → W P T K nt ops rest ((d, v) :: m) s' Q) :
    W P T K nt ops (⟨some d, .call ⟨.builtin .append, args, tys⟩, ty, pos, af, g⟩ :: rest) m s Q := by
  subst hsz
  obtain ⟨sh, size, bytes, zero, flat⟩ := i
  cases hs
  obtain ⟨v, s', e1, e2, e3, e4, e5, e6, e7⟩ := app_row hok h0 ha hro hb.cells hb1 hb2
  have hnl : ns.flatten.length = ns.length * ie.size := flat_len fun c hc => (hb.cells c hc).1
  obtain ⟨k1, k2⟩ := app_keep hok ha hro e1 hnl
  refine w_val hg hd (v := v) (s' := s') (fun t ht => ?_) (k v s' e2 e3 e4 e5 e6 e7 ⟨k1, fun h1 h2 => k2 h1 h2⟩)
  have hev : evsY m [x, y] = some [a, b] := by simp only [evsY, hx, hy]
  simp only [evOp, h1, h2, evsY_ok ht hev, callA, ne_eq, not_true_eq_false, if_false, hT, he, hb.slen, hb.elems, e1]
end
/-- Rows by number; of each, what G says. -/
def RowsI {α : Type} (h : Tr Grp) (sz : Nat) (f : α → List AV) (data : List (AV × List α)) (G : Nat → List α → Prop) : Prop :=
  ∀ (q : Nat) (p : AV × List α), data[q]? = some p → ∃ xs : List α, xs.length = p.2.length ∧ Row h sz p.1 (xs.map f) ∧ G q xs
section
variable {α : Type} {sz : Nat} {f : α → List AV} {data : List (AV × List α)} {G G' : Nat → List α → Prop} {s s' : St}
theorem pw_get {β : Type} {R : β → β → Prop} {l : List β} (h : l.Pairwise R) (hs : ∀ {a b}, R a b → R b a) {i j : Nat} {x y : β} (hx : l[i]? = some x) (hy : l[j]? = some y) (hij : i ≠ j) : R x y := by
  obtain ⟨h1, rfl⟩ := List.getElem?_eq_some_iff.1 hx
  obtain ⟨h2, rfl⟩ := List.getElem?_eq_some_iff.1 hy
  rw [List.pairwise_iff_getElem] at h
  rcases Nat.lt_or_gt_of_ne hij with k | k
  · exact h i j h1 h2 k
  · exact hs (h j i h2 h1 k)
theorem RowsI.upd (k : RowsI s.h sz f data G) (hd : (data.map (·.1)).Pairwise Dis) {i : Nat} {p : AV × List α} (hi : data[i]? = some p) (hk : Keep p.1.gs s s') {xs : List α} (hr : Row s'.h sz p.1 (xs.map f)) (hl : xs.length = p.2.length) (hG : G' i xs) (hG' : ∀ q xs, q ≠ i → G q xs → G' q xs) : RowsI s'.h sz f data G' := by
  intro q p' hq
  by_cases e : q = i
  · subst e
    rw [hi] at hq
    cases hq
    exact ⟨xs, hl, hr, hG⟩
  · obtain ⟨ys, h1, h2, h3⟩ := k q p' hq
    have hdis : Dis p'.1 p.1 := pw_get hd (fun h => h.symm) (i := q) (j := i) (by rw [List.getElem?_map, hq]; rfl) (by rw [List.getElem?_map, hi]; rfl) e
    exact ⟨ys, h1, h2.keep hk hdis, hG' q ys e h3⟩
theorem RowsI.keep (k : RowsI s.h sz f data G) {Y : List Nat} (hk : Keep Y s s') (hY : ∀ p ∈ data, ∀ g ∈ p.1.gs, g ∉ Y) : RowsI s'.h sz f data G := by
  intro q p hq
  obtain ⟨ys, h1, h2, h3⟩ := k q p hq
  exact ⟨ys, h1, h2.keep hk (hY p (List.mem_of_getElem? hq)), h3⟩
theorem RowsI.mono (k : RowsI s.h sz f data G) (h : ∀ q p xs, data[q]? = some p → xs.length = p.2.length → G q xs → G' q xs) : RowsI s.h sz f data G' := by
  intro q p hq
  obtain ⟨ys, h1, h2, h3⟩ := k q p hq
  exact ⟨ys, h1, h2, h q p ys hq h1 h3⟩
def fullM (mk : Nat → Nat → α) (i n : Nat) : List α := (List.range n).map (mk i)
theorem fullM_get (mk : Nat → Nat → α) {i n q : Nat} (h : q < n) : (fullM mk i n)[q]? = some (mk i q) := by
  simp [fullM, h]
theorem fullM_len (mk : Nat → Nat → α) (i n : Nat) : (fullM mk i n).length = n := by simp [fullM]
/-- So many marks are written. -/
def MarkG (mk : Nat → Nat → α) (i k : Nat) (q : Nat) (xs : List α) : Prop := (q < i → xs = fullM mk q xs.length) ∧ (q = i → xs.take k = fullM mk i (min k xs.length))
theorem MarkG.zero (mk : Nat → Nat → α) (q : Nat) (xs : List α) : MarkG mk 0 0 q xs := ⟨fun h => by omega, fun _ => by simp [fullM]⟩
theorem MarkG.next {mk : Nat → Nat → α} {i k q : Nat} {xs : List α} (h : MarkG mk i k q xs) (hk : q = i → xs.length ≤ k) : MarkG mk (i + 1) 0 q xs := by
  refine ⟨fun hq => ?_, fun _ => by simp [fullM]⟩
  by_cases e : q = i
  · have := h.2 e
    have h3 := hk e
    rw [List.take_of_length_le h3, Nat.min_eq_right h3] at this
    rw [e]; exact this
  · exact h.1 (by omega)
theorem MarkG.step {mk : Nat → Nat → α} {i k : Nat} {xs : List α} (h : MarkG mk i k i xs) (hk : k < xs.length) : MarkG mk i (k + 1) i (xs.set k (mk i k)) := by
  refine ⟨fun h => by omega, fun _ => ?_⟩
  have := h.2 rfl
  rw [Nat.min_eq_left (Nat.le_of_lt hk)] at this
  rw [List.length_set, Nat.min_eq_left (by omega)]
  have e1 : (xs.set k (mk i k)).take (k + 1) = xs.take k ++ [mk i k] := by
    rw [List.set_eq_take_append_cons_drop, if_pos hk, List.take_append]
    simp [Nat.min_eq_left (Nat.le_of_lt hk)]
    exact List.take_of_length_le (by simp; omega)
  rw [e1, this]
  simp [fullM, List.range_succ]
theorem MarkG.other {mk : Nat → Nat → α} {i k k' q : Nat} {xs : List α} (hq : q ≠ i) (h : MarkG mk i k q xs) : MarkG mk i k' q xs := ⟨h.1, fun e => (hq e).elim⟩
/-- All rows are written full. -/
def FullG (mk : Nat → Nat → α) (q : Nat) (xs : List α) : Prop := xs = fullM mk q xs.length
end
end Go.Ab
/- Rows that were handed out, written full and gone on with. -/
namespace Go.Ab
section
variable {α : Type} {s : St} {sz : Nat} {f : α → List AV} {data : List (AV × List α)} {mk tl : Nat → Nat → α} {i cut : Nat} {ms : List AV} {F : AV} {z z' : St} {p : AV × List α}
structure Ap2 (s : St) (sz : Nat) (f : α → List AV) (data : List (AV × List α)) (mk tl : Nat → Nat → α) (i cut : Nat) (ms : List AV) (F : AV) (z : St) : Prop where
  K : Keep (data.flatMap (·.1.gs)) s z
  old : RowsI z.h sz f data (FullG mk)
  len : ms.length = i
  new : ∀ (j : Nat) (w : AV) (p : AV × List α), ms[j]? = some w → data[j]? = some p → Row z.h sz w ((fullM mk j p.2.length ++ fullM tl j 30).map f) ∧ ∀ g ∈ w.gs, g ∈ p.1.gs ∨ (s.ctr ≤ g ∧ g < cut)
  rF : Row z.h 1 F (ms.map fun w => [w])
  Fb : ∀ g ∈ F.gs, s.ctr ≤ g ∧ g < cut
  Fn : F.gs = [] → F = .nils
  dis : ∀ (j : Nat) (w : AV), ms[j]? = some w → Dis w F
  cutb : s.ctr ≤ cut ∧ cut ≤ z.ctr
theorem Ap2.grow (k : Ap2 s sz f data mk tl i cut ms F z) (hd : (data.map (·.1)).Pairwise Dis) (hb : ∀ p ∈ data, ∀ g ∈ p.1.gs, g < s.ctr) (hp : data[i]? = some p) {Y : List Nat} (hk : Keep Y z z') (hY : ∀ g ∈ Y, g ∈ p.1.gs ∨ cut ≤ g) (hrow : ∀ xs : List α, Row z.h sz p.1 (xs.map f) → Row z'.h sz p.1 (xs.map f)) : Ap2 s sz f data mk tl i cut ms F z' := by
  have hpm := List.mem_of_getElem? hp
  have hdis : ∀ (q : Nat) (p' : AV × List α), q ≠ i → data[q]? = some p' → Dis p'.1 p.1 := fun q p' e hq => pw_get hd (fun h => h.symm) (i := q) (j := i) (by rw [List.getElem?_map, hq]; rfl) (by rw [List.getElem?_map, hp]; rfl) e
  have hcut := k.cutb
  refine ⟨k.K.trans hk fun g hg => ?_, fun q p' hq => ?_, k.len, fun j w p' h1 h2 => ?_, k.rF.keep hk fun g hg hy => ?_, k.Fb, k.Fn, k.dis, ⟨hcut.1, Nat.le_trans hcut.2 hk.ctr⟩⟩
  · rcases hY g hg with h | h
    · exact .inl (List.mem_flatMap.2 ⟨p, hpm, h⟩)
    · exact .inr (Nat.le_trans hcut.1 h)
  · obtain ⟨ys, h1, h2, h3⟩ := k.old q p' hq
    by_cases e : q = i
    · subst e
      rw [hp] at hq
      cases hq
      exact ⟨ys, h1, hrow _ h2, h3⟩
    · refine ⟨ys, h1, h2.keep hk fun g hg hy => ?_, h3⟩
      rcases hY g hy with h | h
      · exact hdis q p' e hq g hg h
      · have := hb p' (List.mem_of_getElem? hq) g hg; omega
  · obtain ⟨k1, k2⟩ := k.new j w p' h1 h2
    have hj : j ≠ i := by
      have := (List.getElem?_eq_some_iff.1 h1).1
      rw [k.len] at this; omega
    refine ⟨k1.keep hk fun g hg hy => ?_, k2⟩
    rcases k2 g hg with h | h <;> rcases hY g hy with h' | h'
    · exact hdis j p' hj h2 g h h'
    · have := hb p' (List.mem_of_getElem? h2) g h; omega
    · have := hb p hpm g h'; omega
    · omega
  · have := k.Fb g hg
    rcases hY g hy with h | h
    · have := hb p hpm g h; omega
    · omega
theorem Ap2.push (k : Ap2 s sz f data mk tl i cut ms F z) (hb : ∀ p ∈ data, ∀ g ∈ p.1.gs, g < s.ctr) (hp : data[i]? = some p) {l F' : AV} (hl : Row z.h sz l ((fullM mk i p.2.length ++ fullM tl i 30).map f)) (hlb : ∀ g ∈ l.gs, g ∈ p.1.gs ∨ cut ≤ g)
    (hF : Row z'.h 1 F' (ms.map (fun w => [w]) ++ [[l]])) (hk : Keep F.gs z z') (hFg : F'.gs = F.gs ∨ F'.gs = [z.ctr]) (hFn : F'.gs = [] → F' = .nils) : Ap2 s sz f data mk tl (i + 1) z'.ctr (ms ++ [l]) F' z' := by
  have hpm := List.mem_of_getElem? hp
  have hcut := k.cutb
  have hct := hk.ctr
  have hz := k.K.ctr
  have hlF : Dis l F := fun g hg hf => by
    have := k.Fb g hf
    rcases hlb g hg with h | h
    · have := hb p hpm g h; omega
    · omega
  have hlz := hl.lt hk.ok0
  have hFb : ∀ g ∈ F'.gs, s.ctr ≤ g ∧ g < z'.ctr := fun g hg => by
    refine ⟨?_, hF.lt hk.ok g hg⟩
    rcases hFg with h | h
    · rw [h] at hg; exact (k.Fb g hg).1
    · rw [h] at hg; rw [List.mem_singleton.1 hg]; exact hz
  have hsub : ∀ w : AV, Dis w F → (∀ g ∈ w.gs, g < z.ctr) → Dis w F' := fun w h h' g hg hg' => by
    rcases hFg with e | e
    · rw [e] at hg'; exact h g hg hg'
    · rw [e] at hg'; have := h' g hg; rw [List.mem_singleton.1 hg'] at this; omega
  have key : ∀ (j : Nat) (w : AV), (ms ++ [l])[j]? = some w → (j < i ∧ ms[j]? = some w) ∨ (j = i ∧ w = l) := by
    intro j w hj
    by_cases hlt : j < ms.length
    · rw [List.getElem?_append_left hlt] at hj; exact .inl ⟨by rw [← k.len]; exact hlt, hj⟩
    · have h1 := (List.getElem?_eq_some_iff.1 hj).1
      rw [List.length_append, List.length_singleton] at h1
      have e : j = ms.length := by omega
      subst e
      rw [List.getElem?_append_right (Nat.le_refl _), Nat.sub_self] at hj
      simp at hj
      exact .inr ⟨k.len, hj.symm⟩
  refine ⟨k.K.trans hk fun g hg => .inr (k.Fb g hg).1, ?_, by simp [k.len], fun j w p' h1 h2 => ?_, by rw [List.map_append]; exact hF, hFb, hFn, fun j w h1 => ?_, ⟨by omega, Nat.le_refl _⟩⟩
  · exact k.old.keep hk fun p' hp' g hg hf => by have := hb p' hp' g hg; have := k.Fb g hf; omega
  · rcases key j w h1 with ⟨-, h⟩ | ⟨rfl, rfl⟩
    · obtain ⟨k1, k2⟩ := k.new j w p' h h2
      exact ⟨k1.keep hk (k.dis j w h), fun g hg => (k2 g hg).imp id fun h => ⟨h.1, by omega⟩⟩
    · rw [hp] at h2
      cases h2
      exact ⟨hl.keep hk hlF, fun g hg => (hlb g hg).imp id fun h => ⟨by omega, by have := hlz g hg; omega⟩⟩
  · rcases key j w h1 with ⟨hj, h⟩ | ⟨rfl, rfl⟩
    · refine hsub w (k.dis j w h) fun g hg => ?_
      have hjd : j < data.length := Nat.lt_trans hj (List.getElem?_eq_some_iff.1 hp).1
      exact ((k.new j w _ h (List.getElem?_eq_getElem hjd)).1.lt hk.ok0 g hg)
    · exact hsub _ hlF hlz
end
section
variable {T : Tab} {nt : Nat} {m : Sy} {s : St}
theorem op_mul {xt yt : TypeId} {x y : Operand} {a b : Int} (hx : evY m x = some (.int .i64 a)) (hy : evY m y = some (.int .i64 b)) (h : In64 (a * b)) :
    ∀ t, Has t nt m → evOp T (.binOp .mul xt x y yt) t s = some (.val (.int .i64 (a * b)), s) :=
  op_int hx hy (by decide) (by unfold intA; rw [wrap64 h])
end
end Go.Ab
/- Lists that were handed out are written over: they are apart. -/
namespace Go.Ab
open Go.Proofs
theorem fillS1 {a : AV} (ha : a.leaf = true) : fillA (fun n => some (n * 1, 1)) [AV.nils] [(0, a)] = some [a] := by
  simp [fillA, AV.cells_leaf ha, over]
theorem natA_add (k : IntKind) (a b : Nat) : natA (.int k ((a : Int) + (b : Nat))) = some (a + b) := by
  have : ((a : Int) + (b : Nat)) = ((a + b : Nat) : Int) := by omega
  rw [this]; exact natA_cast _ _
theorem finA_keep {X : List Nat} {s s' : St} {sz : Nat} {v : AV} {cs : List (List AV)} (hr : Row s.h sz v cs) (hk : Keep X s s') (hX : ∀ g ∈ v.gs, g ∉ X) : finA s'.h v = finA s.h v :=
  finA_same fun g hg => by
    obtain ⟨G, hG⟩ := hr.has g hg
    rw [hG]; exact hk.keep g (hX g hg) G hG
def mkL (i k : Nat) : Int := 1000 * (i : Int) + (k : Nat)
def tlL (i k : Nat) : Int := 500000 + 1000 * (i : Int) + (k : Nat)
def mkI (i k : Nat) : InstrL := ⟨1000 * (i : Int) + (k : Nat), 0⟩
def tlI (i k : Nat) : InstrL := ⟨500000 + 1000 * (i : Int) + (k : Nat), 0⟩
set_option maxRecDepth 10000 in
set_option maxHeartbeats 8000000 in
/-- Lists of labels. -/
theorem apartLabels_ok {s : St} {v : AV} {data : List (AV × List Int)} (hok : s.Ok) (hv : Row s.h 1 v (data.map fun p => [p.1])) (hvX : ∀ g ∈ v.gs, g ∉ data.flatMap (·.1.gs)) (hr : ∀ p ∈ data, Row s.h 1 p.1 (p.2.map lC)) (hd : (data.map (·.1)).Pairwise Dis) (hn : ∀ p ∈ data, p.1.gs = [] → p.1 = .nils)
    (hl1 : data.length ≤ 1000000) (hl2 : ∀ p ∈ data, p.2.length ≤ 2097152) : CallS Try.prog Tt Kt 82 [v] s (fun r s' => Keep (data.flatMap (·.1.gs)) s s' ∧ r = .bool true) := by
  have hb : ∀ p ∈ data, ∀ g ∈ p.1.gs, g < s.ctr := fun p hp => (hr p hp).lt hok
  refine call_of (fn := Try.f82) (nt := 130) Try.func82 rfl rfl rfl ?_
  repeat refine wc_seq ?_
  refine wc_region ?_
  refine w_val rfl rfl (op_pure rfl) ?_
  refine w_nil ?_
  refine then_n ?_
  repeat refine wc_seq ?_
  have hK := Keep.refl hok
  have hvl : v.slen = some data.length := hv.slenF
  have hI : RowsI s.h 1 lC data (MarkG mkL 0 0) := fun q p hq => ⟨p.2, rfl, hr p (List.mem_of_getElem? hq), MarkG.zero _ _ _⟩
  have hK : Keep (data.flatMap (·.1.gs)) s s := hK.more (fun g hg => by cases hg)
  refine wc_region ?_
  refine w_val rfl rfl (op_pure rfl) ?_
  refine w_nil ?_
  refine then_n ?_
  repeat refine wc_seq ?_
  refine wc_block ?_
  refine wc_loop_at (fun j m z => ∃ i : Nat, j = data.length - i ∧ i ≤ data.length ∧ m = [(0, v), (3, .int .i64 (i : Nat))] ∧ Keep (data.flatMap (·.1.gs)) s z ∧ RowsI z.h 1 lC data (MarkG mkL i 0)) data.length
    [(0, v), (3, .int .i64 ((0 : Nat) : Int))] (Sub.cons rfl (Sub.cons rfl (Sub.nil _))) ⟨0, by simp, by simp, rfl, hK, hI⟩ ?_
  clear hK hI
  rintro j m z ⟨i, rfl, hi, rfl, hK, hI⟩
  have hvz := hv.keep hK hvX
  repeat refine wc_seq ?_
  refine wc_region ?_
  refine w_val rfl rfl (op_pure rfl) ?_
  refine w_val rfl rfl (op_pure rfl) ?_
  refine w_val rfl rfl (op_len rfl rfl rfl rfl rfl (by assumption)) ?_
  refine w_val rfl rfl (op_pure rfl) ?_
  refine w_nil ?_
  refine then_n ?_
  repeat refine wc_seq ?_
  refine wc_condT rfl (fun h16 => ?_) (fun h16 => ?_)
  · simp only [decide_eq_true_eq] at h16
    refine wc_skip ?_
    refine then_n ?_
    repeat refine wc_seq ?_
    refine wc_block ?_
    repeat refine wc_seq ?_
    obtain ⟨p, hp⟩ : ∃ x, data[i]? = some x := ⟨_, List.getElem?_eq_getElem (by omega)⟩
    have hpm := List.mem_of_getElem? hp
    have hpl := hl2 p hpm
    refine wc_region ?_
    refine w_val rfl rfl (op_pure rfl) ?_
    refine w_nil ?_
    refine then_n ?_
    refine wc_block ?_
    refine wc_loop_at (fun j m z => ∃ k : Nat, j = p.2.length - k ∧ k ≤ p.2.length ∧ m = [(0, v), (3, .int .i64 (i : Nat)), (4, .int .i64 (k : Nat))] ∧ Keep (data.flatMap (·.1.gs)) s z ∧ RowsI z.h 1 lC data (MarkG mkL i k)) p.2.length
      [(0, v), (3, .int .i64 (i : Nat)), (4, .int .i64 ((0 : Nat) : Int))] (Sub.cons rfl (Sub.cons rfl (Sub.cons rfl (Sub.nil _)))) ⟨0, by simp, by simp, rfl, hK, hI⟩ ?_
    clear hK hI hvz
    rintro j1 m1 z ⟨k, rfl, hk, rfl, hK, hI⟩
    have hvz := hv.keep hK hvX
    obtain ⟨xs, hxl, hxr, hxG⟩ := hI i p hp
    have hxs : p.1.slen = some p.2.length := hxr.slenF.trans (congrArg some hxl)
    repeat refine wc_seq ?_
    refine wc_region ?_
    refine w_val rfl rfl (op_pure rfl) ?_
    refine w_val rfl rfl (op_pure rfl) ?_
    refine w_val rfl rfl (op_pure rfl) ?_
    refine w_val rfl rfl (op_idxF rfl rfl (natA_cast _ _) rfl rfl rfl rfl (by assumption) (by omega)) ?_
    refine w_val rfl rfl (op_load rfl rfl (Row.mk_pt hvz hp) rfl) ?_
    refine w_val rfl rfl (op_len rfl rfl rfl rfl rfl (by assumption)) ?_
    refine w_val rfl rfl (op_pure rfl) ?_
    refine w_nil ?_
    refine then_n ?_
    repeat refine wc_seq ?_
    refine wc_condT rfl (fun h25 => ?_) (fun h25 => ?_)
    · simp only [decide_eq_true_eq] at h25
      refine wc_skip ?_
      refine then_n ?_
      repeat refine wc_seq ?_
      refine wc_block ?_
      refine wc_region ?_
      refine w_val rfl rfl (op_pure rfl) ?_
      refine w_val rfl rfl (op_pure rfl) ?_
      refine w_val rfl rfl (op_idxF rfl rfl (natA_cast _ _) rfl rfl rfl rfl (by assumption) (by omega)) ?_
      refine w_val rfl rfl (op_load rfl rfl (Row.mk_pt hvz hp) rfl) ?_
      refine w_val rfl rfl (op_pure rfl) ?_
      refine w_val rfl rfl (op_pure rfl) ?_
      refine w_val rfl rfl (op_mul rfl rfl (by unfold In64; omega)) ?_
      refine w_val rfl rfl (op_pure rfl) ?_
      refine w_val rfl rfl (op_add rfl rfl (by unfold In64; omega)) ?_
      refine w_val rfl rfl (op_cv (r := 1000 * (i : Int) + (k : Nat)) rfl rfl rfl rfl rfl (wrapU64 (by omega) (by omega))) ?_
      refine w_val rfl rfl (op_idxF rfl rfl (natA_cast _ _) rfl rfl rfl rfl hxr (by omega)) ?_
      refine w_store_row rfl rfl rfl rfl rfl rfl rfl hK.ok hxr (fun e => by have := hn p hpm e; rw [this] at hxr; have h0 := congrArg List.length (show xs.map lC = [] from hxr); rw [List.length_map, List.length_nil] at h0; omega) (by rw [List.length_map]; omega) ?_
      intro zz hx2 hk2 hc2
      have hI := hI.upd hd hp hk2 (xs := xs.set k (mkL i k)) (G' := MarkG mkL i (k + 1)) (by rw [List.map_set]; exact hx2) (by rw [List.length_set]; exact hxl) (hxG.step (by omega)) (fun q xs hq h => h.other hq)
      have hK := hK.trans hk2 (fun g hg => .inl (List.mem_flatMap.2 ⟨p, hpm, hg⟩))
      clear hx2 hk2 hc2 hxr hxG
      refine w_nil ?_
      refine out_n ?_
      refine then_n ?_
      refine wc_region ?_
      refine w_val rfl rfl (op_pure rfl) ?_
      refine w_val rfl rfl (op_add rfl rfl (by unfold In64; omega)) ?_
      refine w_val rfl rfl (op_pure rfl) ?_
      refine w_nil ?_
      exact round_n _ _ (by omega) (Sub.cons rfl (Sub.cons rfl (Sub.cons rfl (Sub.nil _)))) ⟨k + 1, rfl, by omega, rfl, hK, hI⟩
    simp only [decide_eq_false_iff_not] at h25
    obtain rfl : k = p.2.length := by omega
    replace hI := hI.mono (G' := MarkG mkL (i + 1) 0) (fun q p' xs hq hx h => h.next fun e => by subst e; rw [hp] at hq; cases hq; omega)
    clear hxr hxG hxs
    refine wc_exit ?_
    repeat first | refine then_x ?_ | refine round_x ?_ | refine cut_x ?_ | refine out_x' (by decide) ?_
    refine out_x ?_
    refine out_n ?_
    refine then_n ?_
    refine wc_region ?_
    refine w_val rfl rfl (op_pure rfl) ?_
    refine w_val rfl rfl (op_add rfl rfl (by unfold In64; omega)) ?_
    refine w_val rfl rfl (op_pure rfl) ?_
    refine w_nil ?_
    exact round_n _ _ (by omega) (Sub.cons rfl (Sub.cons rfl (Sub.nil _))) ⟨i + 1, rfl, by omega, rfl, hK, hI⟩
  simp only [decide_eq_false_iff_not] at h16
  obtain rfl : i = data.length := by omega
  refine wc_exit ?_
  repeat first | refine then_x ?_ | refine round_x ?_ | refine cut_x ?_ | refine out_x' (by decide) ?_
  refine out_x ?_
  refine then_n ?_
  repeat refine wc_seq ?_
  have hcut := hK.ctr
  have hA : Ap2 s 1 lC data mkL tlL 0 z.ctr [] .nils z := ⟨hK, hI.mono fun q p xs hq _ h => h.1 (List.getElem?_eq_some_iff.1 hq).1, rfl, fun j w p h => (by simp at h), rfl, fun g hg => (by cases hg), fun _ => rfl, fun j w h => (by simp at h), ⟨hcut, Nat.le_refl _⟩⟩
  clear hI hK hvz
  refine wc_region ?_
  refine w_val rfl rfl (op_pure rfl) ?_
  refine w_nil ?_
  refine then_n ?_
  repeat refine wc_seq ?_
  refine wc_region ?_
  refine w_val rfl rfl (op_pure rfl) ?_
  refine w_nil ?_
  refine then_n ?_
  repeat refine wc_seq ?_
  refine wc_block ?_
  refine wc_loop_at (fun j m z => ∃ (i cut : Nat) (ms : List AV) (F : AV), j = data.length - i ∧ i ≤ data.length ∧ m = [(0, v), (5, F), (6, .int .i64 (i : Nat))] ∧ Ap2 s 1 lC data mkL tlL i cut ms F z) data.length
    [(0, v), (5, .nils), (6, .int .i64 ((0 : Nat) : Int))] (Sub.cons rfl (Sub.cons rfl (Sub.cons rfl (Sub.nil _)))) ⟨0, _, _, _, by simp, by simp, rfl, hA⟩ ?_
  clear hA hcut
  rintro j m z ⟨i, cut, ms, F, rfl, hi, rfl, hA⟩
  have hvz := hv.keep hA.K hvX
  have hcut := hA.cutb
  repeat refine wc_seq ?_
  refine wc_region ?_
  refine w_val rfl rfl (op_pure rfl) ?_
  refine w_val rfl rfl (op_pure rfl) ?_
  refine w_val rfl rfl (op_len rfl rfl rfl rfl rfl (by assumption)) ?_
  refine w_val rfl rfl (op_pure rfl) ?_
  refine w_nil ?_
  refine then_n ?_
  repeat refine wc_seq ?_
  refine wc_condT rfl (fun h42 => ?_) (fun h42 => ?_)
  · simp only [decide_eq_true_eq] at h42
    refine wc_skip ?_
    refine then_n ?_
    repeat refine wc_seq ?_
    refine wc_block ?_
    repeat refine wc_seq ?_
    obtain ⟨p, hp⟩ : ∃ x, data[i]? = some x := ⟨_, List.getElem?_eq_getElem (by omega)⟩
    have hpm := List.mem_of_getElem? hp
    have hpl := hl2 p hpm
    obtain ⟨xs, hxl, hxr, hxG⟩ := hA.old i p hp
    unfold FullG at hxG
    rw [hxl] at hxG
    rw [hxG] at hxr
    clear hxG hxl
    refine wc_region ?_
    refine w_val rfl rfl (op_pure rfl) ?_
    refine w_val rfl rfl (op_pure rfl) ?_
    refine w_val rfl rfl (op_idxF rfl rfl (natA_cast _ _) rfl rfl rfl rfl (by assumption) (by omega)) ?_
    refine w_val rfl rfl (op_load rfl rfl (Row.mk_pt hvz hp) rfl) ?_
    refine w_val rfl rfl (op_pure rfl) ?_
    refine w_nil ?_
    refine then_n ?_
    repeat refine wc_seq ?_
    refine wc_region ?_
    refine w_val rfl rfl (op_pure rfl) ?_
    refine w_nil ?_
    refine then_n ?_
    repeat refine wc_seq ?_
    refine wc_block ?_
    refine wc_loop_at (fun j m z => ∃ (k : Nat) (l : AV), j = 30 - k ∧ k ≤ 30 ∧ m = [(0, v), (5, F), (6, .int .i64 (i : Nat)), (7, l), (8, .int .i64 (k : Nat))] ∧ Ap2 s 1 lC data mkL tlL i cut ms F z ∧ Row z.h 1 p.1 ((fullM mkL i p.2.length).map lC) ∧ Row z.h 1 l ((fullM mkL i p.2.length ++ fullM tlL i k).map lC) ∧
        (∀ g ∈ l.gs, g ∈ p.1.gs ∨ cut ≤ g) ∧ (l.gs = [] → l = .nils) ∧ (∀ g ∈ p.1.gs, g ∈ l.gs → finA z.h p.1 ≤ finA z.h l)) 30
      [(0, v), (5, F), (6, .int .i64 (i : Nat)), (7, p.1), (8, .int .i64 ((0 : Nat) : Int))] (Sub.cons rfl (Sub.cons rfl (Sub.cons rfl (Sub.cons rfl (Sub.cons rfl (Sub.nil _)))))) ⟨0, p.1, by simp, by simp, rfl, hA, hxr, by simpa [fullM] using hxr, fun g hg => .inl hg, hn p hpm, fun g _ _ => Nat.le_refl _⟩ ?_
    clear hA hxr hvz
    rintro j1 m1 z ⟨k, l, rfl, hk, rfl, hA, hxr, hl, hlb, hln, hlf⟩
    have hcut := hA.cutb
    repeat refine wc_seq ?_
    refine wc_region ?_
    refine w_val rfl rfl (op_pure rfl) ?_
    refine w_val rfl rfl (op_pure rfl) ?_
    refine w_nil ?_
    refine then_n ?_
    repeat refine wc_seq ?_
    refine wc_condT rfl (fun h50 => ?_) (fun h50 => ?_)
    · simp only [decide_eq_true_eq] at h50
      refine wc_skip ?_
      refine then_n ?_
      repeat refine wc_seq ?_
      refine wc_block ?_
      refine wc_region ?_
      refine w_val rfl rfl (op_pure rfl) ?_
      refine w_val rfl rfl (op_pure rfl) ?_
      refine w_val rfl rfl (op_mul rfl rfl (by unfold In64; omega)) ?_
      refine w_val rfl rfl (op_add rfl rfl (by unfold In64; omega)) ?_
      refine w_val rfl rfl (op_pure rfl) ?_
      refine w_val rfl rfl (op_add rfl rfl (by unfold In64; omega)) ?_
      refine w_val rfl rfl (op_cv (r := 500000 + 1000 * (i : Int) + (k : Nat)) rfl rfl rfl rfl rfl (wrapU64 (by omega) (by omega))) ?_
      refine w_lit1 (c := [.int .u64 (500000 + 1000 * (i : Int) + (k : Nat))]) rfl rfl rfl rfl rfl rfl rfl (by decide) (by decide) rfl rfl rfl hA.K.ok ?_
      rintro b z1 hb1 hk1 hc1 hg1
      have hA := hA.grow hd hb hp hk1 (fun g hg => by cases hg) (fun xs h => h.keep0 hk1)
      have hfp : finA z1.h p.1 = finA z.h p.1 := finA_keep hxr hk1 (fun g _ h => by cases h)
      have hfl : finA z1.h l = finA z.h l := finA_keep hl hk1 (fun g _ h => by cases h)
      rw [← hfp, ← hfl] at hlf
      have hxr := hxr.keep0 hk1
      have hl := hl.keep0 hk1
      have hcz : cut ≤ z1.ctr := by have := hA.cutb; omega
      clear hfp hfl hk1 hc1 hg1
      refine w_appendK (sz := 1) (ns := [tlL i k].map lC) rfl rfl rfl rfl rfl rfl rfl rfl rfl rfl (by decide) hA.K.ok hl hln hb1 (by simp only [List.length_map, List.length_append, List.length_cons, List.length_nil, fullM_len, maxBytes]; omega) (by simp only [List.length_map, List.length_append, List.length_cons, List.length_nil, fullM_len, maxBytes]; omega) ?_
      rintro l2 z2 hl2' hk2 hc2 hg2 hn2 - hap
      rw [← List.map_append, List.append_assoc, show fullM tlL i k ++ [tlL i k] = fullM tlL i (k + 1) by simp [fullM, List.range_succ]] at hl2'
      have hlt := hxr.lt hA.K.ok
      obtain ⟨hx2, hfx⟩ := hap.rows hxr hlf
      have hlf2 : ∀ g ∈ p.1.gs, g ∈ l2.gs → finA z2.h p.1 ≤ finA z2.h l2 := fun g h1 h2 => by
        rcases hg2 with e | e
        · rw [e] at h2
          rw [hfx, hap.fin e (fun e0 => by rw [e0] at h2; cases h2)]
          exact Nat.le_trans (hlf g h1 h2) (Nat.le_add_right _ _)
        · rw [e] at h2; have := hlt g h1; rw [List.mem_singleton.1 h2] at this; omega
      have hlb2 : ∀ g ∈ l2.gs, g ∈ p.1.gs ∨ cut ≤ g := fun g h => by
        rcases hg2 with e | e
        · rw [e] at h; exact hlb g h
        · rw [e] at h; rw [List.mem_singleton.1 h]; exact .inr hcz
      have hA := hA.grow hd hb hp hk2 hlb (fun xs h => (hap.rows h hlf).1)
      clear hap hfx hxr hl hb1
      refine w_val rfl rfl (op_pure rfl) ?_
      refine w_nil ?_
      refine out_n ?_
      refine then_n ?_
      refine wc_region ?_
      refine w_val rfl rfl (op_pure rfl) ?_
      refine w_val rfl rfl (op_add rfl rfl (by unfold In64; omega)) ?_
      refine w_val rfl rfl (op_pure rfl) ?_
      refine w_nil ?_
      exact round_n _ _ (by omega) (Sub.cons rfl (Sub.cons rfl (Sub.cons rfl (Sub.cons rfl (Sub.cons rfl (Sub.nil _)))))) ⟨k + 1, l2, rfl, by omega, rfl, hA, hx2, hl2', hlb2, hn2, hlf2⟩
    simp only [decide_eq_false_iff_not] at h50
    obtain rfl : k = 30 := by omega
    refine wc_exit ?_
    repeat first | refine then_x ?_ | refine round_x ?_ | refine cut_x ?_ | refine out_x' (by decide) ?_
    refine out_x ?_
    refine then_n ?_
    refine wc_region ?_
    refine w_val rfl rfl (op_pure rfl) ?_
    refine w_val rfl rfl (op_pure rfl) ?_
    refine w_lit1 (c := [l]) rfl rfl rfl rfl rfl rfl rfl (by decide) (by decide) (fillS1 hl.leaf) (by simp only [List.all_cons, List.all_nil, hl.leaf]; rfl) rfl hA.K.ok ?_
    rintro b z1 hb1 hk1 hc1 -
    have hA := hA.grow hd hb hp hk1 (fun g hg => by cases hg) (fun xs h => h.keep0 hk1)
    have hl := hl.keep0 hk1
    clear hk1 hc1
    refine w_append rfl rfl rfl rfl rfl rfl rfl rfl rfl (by decide) hA.K.ok hA.rF hA.Fn hb1 (by rw [List.length_map, hA.len]; simp only [List.length_cons, List.length_nil, maxBytes]; omega) (by rw [List.length_map, hA.len]; simp only [List.length_cons, List.length_nil, maxBytes]; omega) ?_
    rintro F2 z2 hF2 hk2 - hg2 hn2 -
    have hA := hA.push hb hp hl hlb hF2 hk2 hg2 hn2
    refine w_val rfl rfl (op_pure rfl) ?_
    refine w_nil ?_
    refine out_n ?_
    refine then_n ?_
    refine wc_region ?_
    refine w_val rfl rfl (op_pure rfl) ?_
    refine w_val rfl rfl (op_add rfl rfl (by unfold In64; omega)) ?_
    refine w_val rfl rfl (op_pure rfl) ?_
    refine w_nil ?_
    exact round_n _ _ (by omega) (Sub.cons rfl (Sub.cons rfl (Sub.cons rfl (Sub.nil _)))) ⟨i + 1, _, _, F2, rfl, by omega, rfl, hA⟩
  simp only [decide_eq_false_iff_not] at h42
  obtain rfl : i = data.length := by omega
  refine wc_exit ?_
  repeat first | refine then_x ?_ | refine round_x ?_ | refine cut_x ?_ | refine out_x' (by decide) ?_
  refine out_x ?_
  refine then_n ?_
  repeat refine wc_seq ?_
  have hFz := hA.rF
  have hml := hA.len
  refine wc_region ?_
  refine w_val rfl rfl (op_pure rfl) ?_
  refine w_nil ?_
  refine then_n ?_
  repeat refine wc_seq ?_
  refine wc_block ?_
  refine wc_loop_at (fun j m z' => ∃ i : Nat, j = data.length - i ∧ i ≤ data.length ∧ m = [(0, v), (5, F), (9, .int .i64 (i : Nat))] ∧ z = z') data.length
    [(0, v), (5, F), (9, .int .i64 ((0 : Nat) : Int))] (Sub.cons rfl (Sub.cons rfl (Sub.cons rfl (Sub.nil _)))) ⟨0, by simp, by simp, rfl, rfl⟩ ?_
  rintro j m _ ⟨i, rfl, hi, rfl, rfl⟩
  repeat refine wc_seq ?_
  refine wc_region ?_
  refine w_val rfl rfl (op_pure rfl) ?_
  refine w_val rfl rfl (op_pure rfl) ?_
  refine w_val rfl rfl (op_len rfl rfl rfl rfl rfl (by assumption)) ?_
  refine w_val rfl rfl (op_pure rfl) ?_
  refine w_nil ?_
  refine then_n ?_
  repeat refine wc_seq ?_
  refine wc_condT rfl (fun h69 => ?_) (fun h69 => ?_)
  · simp only [decide_eq_true_eq] at h69
    refine wc_skip ?_
    refine then_n ?_
    repeat refine wc_seq ?_
    refine wc_block ?_
    repeat refine wc_seq ?_
    obtain ⟨p, hp⟩ : ∃ x, data[i]? = some x := ⟨_, List.getElem?_eq_getElem (by omega)⟩
    have hpm := List.mem_of_getElem? hp
    have hpl := hl2 p hpm
    obtain ⟨xs, hxl, hxr, hxG⟩ := hA.old i p hp
    unfold FullG at hxG
    rw [hxl] at hxG
    rw [hxG] at hxr
    clear hxG hxl
    have hxs : p.1.slen = some p.2.length := hxr.slenF.trans (by rw [fullM_len])
    obtain ⟨w, hw⟩ : ∃ x, ms[i]? = some x := ⟨_, List.getElem?_eq_getElem (by omega)⟩
    obtain ⟨hwr, -⟩ := hA.new i w p hw hp
    refine wc_region ?_
    refine w_val rfl rfl (op_pure rfl) ?_
    refine w_val rfl rfl (op_pure rfl) ?_
    refine w_val rfl rfl (op_idxF rfl rfl (natA_cast _ _) rfl rfl rfl rfl (by assumption) (by omega)) ?_
    refine w_val rfl rfl (op_load rfl rfl (Row.mk_pt hvz hp) rfl) ?_
    refine w_val rfl rfl (op_len rfl rfl rfl rfl rfl (by assumption)) ?_
    refine w_val rfl rfl (op_pure rfl) ?_
    refine w_nil ?_
    refine then_n ?_
    repeat refine wc_seq ?_
    refine wc_region ?_
    refine w_val rfl rfl (op_pure rfl) ?_
    refine w_nil ?_
    refine then_n ?_
    repeat refine wc_seq ?_
    refine wc_block ?_
    refine wc_loop_at (fun j m z' => ∃ k : Nat, j = p.2.length - k ∧ k ≤ p.2.length ∧ m = [(0, v), (5, F), (9, .int .i64 (i : Nat)), (10, .int .i64 (p.2.length : Nat)), (11, .int .i64 (k : Nat))] ∧ z = z') p.2.length
      [(0, v), (5, F), (9, .int .i64 (i : Nat)), (10, .int .i64 (p.2.length : Nat)), (11, .int .i64 ((0 : Nat) : Int))] (Sub.cons rfl (Sub.cons rfl (Sub.cons rfl (Sub.cons rfl (Sub.cons rfl (Sub.nil _)))))) ⟨0, by simp, by simp, rfl, rfl⟩ ?_
    rintro j1 m1 _ ⟨k, rfl, hk, rfl, rfl⟩
    repeat refine wc_seq ?_
    refine wc_region ?_
    refine w_val rfl rfl (op_pure rfl) ?_
    refine w_val rfl rfl (op_pure rfl) ?_
    refine w_val rfl rfl (op_pure rfl) ?_
    refine w_nil ?_
    refine then_n ?_
    repeat refine wc_seq ?_
    refine wc_condT rfl (fun h79 => ?_) (fun h79 => ?_)
    · simp only [decide_eq_true_eq] at h79
      refine wc_skip ?_
      refine then_n ?_
      repeat refine wc_seq ?_
      refine wc_block ?_
      repeat refine wc_seq ?_
      have hxk : (fullM mkL i p.2.length)[k]? = some (mkL i k) := fullM_get _ (by omega)
      have hwk : (fullM mkL i p.2.length ++ fullM tlL i 30)[k]? = some (mkL i k) := by rw [List.getElem?_append_left (by rw [fullM_len]; omega)]; exact hxk
      refine wc_region ?_
      refine w_val rfl rfl (op_pure rfl) ?_
      refine w_val rfl rfl (op_pure rfl) ?_
      refine w_val rfl rfl (op_idxF rfl rfl (natA_cast _ _) rfl rfl rfl rfl (by assumption) (by omega)) ?_
      refine w_val rfl rfl (op_load rfl rfl (Row.mk_pt hvz hp) rfl) ?_
      refine w_val rfl rfl (op_pure rfl) ?_
      refine w_val rfl rfl (op_idxF rfl rfl (natA_cast _ _) rfl rfl rfl rfl hxr (by rw [fullM_len]; omega)) ?_
      refine w_val rfl rfl (op_load rfl rfl (Row.mk_pt hxr hxk) rfl) ?_
      refine w_val rfl rfl (op_cv (r := mkL i k) rfl rfl rfl rfl rfl (wrap64 (by unfold In64 mkL; omega))) ?_
      refine w_val rfl rfl (op_pure rfl) ?_
      refine w_val rfl rfl (op_mul rfl rfl (by unfold In64; omega)) ?_
      refine w_val rfl rfl (op_pure rfl) ?_
      refine w_val rfl rfl (op_add rfl rfl (by unfold In64; omega)) ?_
      refine w_val rfl rfl (op_int (v := .bool false) rfl rfl (by decide) (by simp [intA, mkL])) ?_
      refine w_val rfl rfl (op_pure rfl) ?_
      refine w_split (i := 95) rfl (fun h95 => ?_) (fun h95 => ?_)
      · cases h95
      skip
      refine w_val rfl rfl (op_pure rfl) ?_
      refine w_val rfl rfl (op_pure rfl) ?_
      refine w_val rfl rfl (op_idxF rfl rfl (natA_cast _ _) rfl rfl rfl rfl hFz (by omega)) ?_
      refine w_val rfl rfl (op_load rfl rfl (Row.mk_pt hFz hw) rfl) ?_
      refine w_val rfl rfl (op_pure rfl) ?_
      refine w_val rfl rfl (op_idxF rfl rfl (natA_cast _ _) rfl rfl rfl rfl hwr (by rw [List.length_append, fullM_len, fullM_len]; omega)) ?_
      refine w_val rfl rfl (op_load rfl rfl (Row.mk_pt hwr hwk) rfl) ?_
      refine w_val rfl rfl (op_cv (r := mkL i k) rfl rfl rfl rfl rfl (wrap64 (by unfold In64 mkL; omega))) ?_
      refine w_val rfl rfl (op_pure rfl) ?_
      refine w_val rfl rfl (op_mul rfl rfl (by unfold In64; omega)) ?_
      refine w_val rfl rfl (op_pure rfl) ?_
      refine w_val rfl rfl (op_add rfl rfl (by unfold In64; omega)) ?_
      refine w_val rfl rfl (op_int (v := .bool false) rfl rfl (by decide) (by simp [intA, mkL])) ?_
      refine w_val rfl rfl (op_pure rfl) ?_
      refine w_nil ?_
      refine then_n ?_
      refine wc_condT rfl (fun h109 => ?_) (fun h109 => ?_)
      · cases h109
      skip
      refine wc_skip ?_
      refine out_n ?_
      refine then_n ?_
      refine wc_region ?_
      refine w_val rfl rfl (op_pure rfl) ?_
      refine w_val rfl rfl (op_add rfl rfl (by unfold In64; omega)) ?_
      refine w_val rfl rfl (op_pure rfl) ?_
      refine w_nil ?_
      exact round_n _ _ (by omega) (Sub.cons rfl (Sub.cons rfl (Sub.cons rfl (Sub.cons rfl (Sub.cons rfl (Sub.nil _)))))) ⟨k + 1, rfl, by omega, rfl, rfl⟩
    simp only [decide_eq_false_iff_not] at h79
    obtain rfl : k = p.2.length := by omega
    refine wc_exit ?_
    repeat first | refine then_x ?_ | refine round_x ?_ | refine cut_x ?_ | refine out_x' (by decide) ?_
    refine out_x ?_
    refine then_n ?_
    repeat refine wc_seq ?_
    refine wc_region ?_
    refine w_val rfl rfl (op_pure rfl) ?_
    refine w_nil ?_
    refine then_n ?_
    refine wc_block ?_
    refine wc_loop_at (fun j m z' => ∃ k : Nat, j = 30 - k ∧ k ≤ 30 ∧ m = [(0, v), (5, F), (9, .int .i64 (i : Nat)), (10, .int .i64 (p.2.length : Nat)), (12, .int .i64 (k : Nat))] ∧ z = z') 30
      [(0, v), (5, F), (9, .int .i64 (i : Nat)), (10, .int .i64 (p.2.length : Nat)), (12, .int .i64 ((0 : Nat) : Int))] (Sub.cons rfl (Sub.cons rfl (Sub.cons rfl (Sub.cons rfl (Sub.cons rfl (Sub.nil _)))))) ⟨0, by simp, by simp, rfl, rfl⟩ ?_
    rintro j1 m1 _ ⟨k, rfl, hk, rfl, rfl⟩
    repeat refine wc_seq ?_
    refine wc_region ?_
    refine w_val rfl rfl (op_pure rfl) ?_
    refine w_val rfl rfl (op_pure rfl) ?_
    refine w_nil ?_
    refine then_n ?_
    repeat refine wc_seq ?_
    refine wc_condT rfl (fun h111 => ?_) (fun h111 => ?_)
    · simp only [decide_eq_true_eq] at h111
      refine wc_skip ?_
      refine then_n ?_
      repeat refine wc_seq ?_
      refine wc_block ?_
      repeat refine wc_seq ?_
      have hwk : (fullM mkL i p.2.length ++ fullM tlL i 30)[p.2.length + k]? = some (tlL i k) := by rw [List.getElem?_append_right (by rw [fullM_len]; omega), fullM_len, Nat.add_sub_cancel_left]; exact fullM_get _ (by omega)
      refine wc_region ?_
      refine w_val rfl rfl (op_pure rfl) ?_
      refine w_val rfl rfl (op_pure rfl) ?_
      refine w_val rfl rfl (op_idxF rfl rfl (natA_cast _ _) rfl rfl rfl rfl hFz (by omega)) ?_
      refine w_val rfl rfl (op_load rfl rfl (Row.mk_pt hFz hw) rfl) ?_
      refine w_val rfl rfl (op_pure rfl) ?_
      refine w_val rfl rfl (op_pure rfl) ?_
      refine w_val rfl rfl (op_add rfl rfl (by unfold In64; omega)) ?_
      refine w_val rfl rfl (op_idxF (n := p.2.length + k) rfl rfl (natA_add _ _ _) rfl rfl rfl rfl hwr (by rw [List.length_append, fullM_len, fullM_len]; omega)) ?_
      refine w_val rfl rfl (op_load rfl rfl (Row.mk_pt hwr hwk) rfl) ?_
      refine w_val rfl rfl (op_cv (r := tlL i k) rfl rfl rfl rfl rfl (wrap64 (by unfold In64 tlL; omega))) ?_
      refine w_val rfl rfl (op_pure rfl) ?_
      refine w_val rfl rfl (op_mul rfl rfl (by unfold In64; omega)) ?_
      refine w_val rfl rfl (op_add rfl rfl (by unfold In64; omega)) ?_
      refine w_val rfl rfl (op_pure rfl) ?_
      refine w_val rfl rfl (op_add rfl rfl (by unfold In64; omega)) ?_
      refine w_val rfl rfl (op_int (v := .bool false) rfl rfl (by decide) (by simp [intA, tlL])) ?_
      refine w_nil ?_
      refine then_n ?_
      refine wc_condT rfl (fun h129 => ?_) (fun h129 => ?_)
      · cases h129
      skip
      refine wc_skip ?_
      refine out_n ?_
      refine then_n ?_
      refine wc_region ?_
      refine w_val rfl rfl (op_pure rfl) ?_
      refine w_val rfl rfl (op_add rfl rfl (by unfold In64; omega)) ?_
      refine w_val rfl rfl (op_pure rfl) ?_
      refine w_nil ?_
      exact round_n _ _ (by omega) (Sub.cons rfl (Sub.cons rfl (Sub.cons rfl (Sub.cons rfl (Sub.cons rfl (Sub.nil _)))))) ⟨k + 1, rfl, by omega, rfl, rfl⟩
    simp only [decide_eq_false_iff_not] at h111
    obtain rfl : k = 30 := by omega
    refine wc_exit ?_
    repeat first | refine then_x ?_ | refine round_x ?_ | refine cut_x ?_ | refine out_x' (by decide) ?_
    refine out_x ?_
    refine out_n ?_
    refine then_n ?_
    refine wc_region ?_
    refine w_val rfl rfl (op_pure rfl) ?_
    refine w_val rfl rfl (op_add rfl rfl (by unfold In64; omega)) ?_
    refine w_val rfl rfl (op_pure rfl) ?_
    refine w_nil ?_
    exact round_n _ _ (by omega) (Sub.cons rfl (Sub.cons rfl (Sub.cons rfl (Sub.nil _)))) ⟨i + 1, rfl, by omega, rfl, rfl⟩
  simp only [decide_eq_false_iff_not] at h69
  obtain rfl : i = data.length := by omega
  refine wc_exit ?_
  repeat first | refine then_x ?_ | refine round_x ?_ | refine cut_x ?_ | refine out_x' (by decide) ?_
  refine out_x ?_
  refine then_n ?_
  repeat refine wc_seq ?_
  refine wc_region ?_
  refine w_val rfl rfl (op_pure rfl) ?_
  refine w_nil ?_
  refine then_n ?_
  refine wc_ret ?_
  repeat first | refine then_r ?_ | refine out_r ?_ | refine round_r ?_ | refine cut_r ?_ | refine sc_r ?_
  exact ⟨_, rfl, hA.K, rfl⟩
set_option maxRecDepth 10000 in
set_option maxHeartbeats 8000000 in
/-- Lists of instructions. -/
theorem apartCode_ok {s : St} {v : AV} {data : List (AV × List InstrL)} (hok : s.Ok) (hv : Row s.h 1 v (data.map fun p => [p.1])) (hvX : ∀ g ∈ v.gs, g ∉ data.flatMap (·.1.gs)) (hr : ∀ p ∈ data, Row s.h 2 p.1 (p.2.map inC)) (hd : (data.map (·.1)).Pairwise Dis) (hn : ∀ p ∈ data, p.1.gs = [] → p.1 = .nils)
    (hl1 : data.length ≤ 1000000) (hl2 : ∀ p ∈ data, p.2.length ≤ 2097152) : CallS Try.prog Tt Kt 24 [v] s (fun r s' => Keep (data.flatMap (·.1.gs)) s s' ∧ r = .bool true) := by
  have hb : ∀ p ∈ data, ∀ g ∈ p.1.gs, g < s.ctr := fun p hp => (hr p hp).lt hok
  refine call_of (fn := Try.f24) (nt := 130) Try.func24 rfl rfl rfl ?_
  repeat refine wc_seq ?_
  refine wc_region ?_
  refine w_val rfl rfl (op_pure rfl) ?_
  refine w_nil ?_
  refine then_n ?_
  repeat refine wc_seq ?_
  have hK := Keep.refl hok
  have hvl : v.slen = some data.length := hv.slenF
  have hI : RowsI s.h 2 inC data (MarkG mkI 0 0) := fun q p hq => ⟨p.2, rfl, hr p (List.mem_of_getElem? hq), MarkG.zero _ _ _⟩
  have hK : Keep (data.flatMap (·.1.gs)) s s := hK.more (fun g hg => by cases hg)
  refine wc_region ?_
  refine w_val rfl rfl (op_pure rfl) ?_
  refine w_nil ?_
  refine then_n ?_
  repeat refine wc_seq ?_
  refine wc_block ?_
  refine wc_loop_at (fun j m z => ∃ i : Nat, j = data.length - i ∧ i ≤ data.length ∧ m = [(0, v), (3, .int .i64 (i : Nat))] ∧ Keep (data.flatMap (·.1.gs)) s z ∧ RowsI z.h 2 inC data (MarkG mkI i 0)) data.length
    [(0, v), (3, .int .i64 ((0 : Nat) : Int))] (Sub.cons rfl (Sub.cons rfl (Sub.nil _))) ⟨0, by simp, by simp, rfl, hK, hI⟩ ?_
  clear hK hI
  rintro j m z ⟨i, rfl, hi, rfl, hK, hI⟩
  have hvz := hv.keep hK hvX
  repeat refine wc_seq ?_
  refine wc_region ?_
  refine w_val rfl rfl (op_pure rfl) ?_
  refine w_val rfl rfl (op_pure rfl) ?_
  refine w_val rfl rfl (op_len rfl rfl rfl rfl rfl (by assumption)) ?_
  refine w_val rfl rfl (op_pure rfl) ?_
  refine w_nil ?_
  refine then_n ?_
  repeat refine wc_seq ?_
  refine wc_condT rfl (fun h16 => ?_) (fun h16 => ?_)
  · simp only [decide_eq_true_eq] at h16
    refine wc_skip ?_
    refine then_n ?_
    repeat refine wc_seq ?_
    refine wc_block ?_
    repeat refine wc_seq ?_
    obtain ⟨p, hp⟩ : ∃ x, data[i]? = some x := ⟨_, List.getElem?_eq_getElem (by omega)⟩
    have hpm := List.mem_of_getElem? hp
    have hpl := hl2 p hpm
    refine wc_region ?_
    refine w_val rfl rfl (op_pure rfl) ?_
    refine w_nil ?_
    refine then_n ?_
    refine wc_block ?_
    refine wc_loop_at (fun j m z => ∃ k : Nat, j = p.2.length - k ∧ k ≤ p.2.length ∧ m = [(0, v), (3, .int .i64 (i : Nat)), (4, .int .i64 (k : Nat))] ∧ Keep (data.flatMap (·.1.gs)) s z ∧ RowsI z.h 2 inC data (MarkG mkI i k)) p.2.length
      [(0, v), (3, .int .i64 (i : Nat)), (4, .int .i64 ((0 : Nat) : Int))] (Sub.cons rfl (Sub.cons rfl (Sub.cons rfl (Sub.nil _)))) ⟨0, by simp, by simp, rfl, hK, hI⟩ ?_
    clear hK hI hvz
    rintro j1 m1 z ⟨k, rfl, hk, rfl, hK, hI⟩
    have hvz := hv.keep hK hvX
    obtain ⟨xs, hxl, hxr, hxG⟩ := hI i p hp
    have hxs : p.1.slen = some p.2.length := hxr.slenF.trans (congrArg some hxl)
    repeat refine wc_seq ?_
    refine wc_region ?_
    refine w_val rfl rfl (op_pure rfl) ?_
    refine w_val rfl rfl (op_pure rfl) ?_
    refine w_val rfl rfl (op_pure rfl) ?_
    refine w_val rfl rfl (op_idxF rfl rfl (natA_cast _ _) rfl rfl rfl rfl (by assumption) (by omega)) ?_
    refine w_val rfl rfl (op_load rfl rfl (Row.mk_pt hvz hp) rfl) ?_
    refine w_val rfl rfl (op_len rfl rfl rfl rfl rfl (by assumption)) ?_
    refine w_val rfl rfl (op_pure rfl) ?_
    refine w_nil ?_
    refine then_n ?_
    repeat refine wc_seq ?_
    refine wc_condT rfl (fun h25 => ?_) (fun h25 => ?_)
    · simp only [decide_eq_true_eq] at h25
      refine wc_skip ?_
      refine then_n ?_
      repeat refine wc_seq ?_
      refine wc_block ?_
      refine wc_region ?_
      refine w_val rfl rfl (op_pure rfl) ?_
      refine w_val rfl rfl (op_pure rfl) ?_
      refine w_val rfl rfl (op_idxF rfl rfl (natA_cast _ _) rfl rfl rfl rfl (by assumption) (by omega)) ?_
      refine w_val rfl rfl (op_load rfl rfl (Row.mk_pt hvz hp) rfl) ?_
      refine w_val rfl rfl (op_pure rfl) ?_
      refine w_val rfl rfl (op_pure rfl) ?_
      refine w_val rfl rfl (op_mul rfl rfl (by unfold In64; omega)) ?_
      refine w_val rfl rfl (op_pure rfl) ?_
      refine w_val rfl rfl (op_add rfl rfl (by unfold In64; omega)) ?_
      refine w_val rfl rfl (op_pure rfl) ?_
      refine w_val rfl rfl (op_idxF rfl rfl (natA_cast _ _) rfl rfl rfl rfl hxr (by omega)) ?_
      refine w_store_row rfl rfl rfl rfl rfl rfl rfl hK.ok hxr (fun e => by have := hn p hpm e; rw [this] at hxr; have h0 := congrArg List.length (show xs.map inC = [] from hxr); rw [List.length_map, List.length_nil] at h0; omega) (by rw [List.length_map]; omega) ?_
      intro zz hx2 hk2 hc2
      have hI := hI.upd hd hp hk2 (xs := xs.set k (mkI i k)) (G' := MarkG mkI i (k + 1)) (by rw [List.map_set]; exact hx2) (by rw [List.length_set]; exact hxl) (hxG.step (by omega)) (fun q xs hq h => h.other hq)
      have hK := hK.trans hk2 (fun g hg => .inl (List.mem_flatMap.2 ⟨p, hpm, hg⟩))
      clear hx2 hk2 hc2 hxr hxG
      refine w_nil ?_
      refine out_n ?_
      refine then_n ?_
      refine wc_region ?_
      refine w_val rfl rfl (op_pure rfl) ?_
      refine w_val rfl rfl (op_add rfl rfl (by unfold In64; omega)) ?_
      refine w_val rfl rfl (op_pure rfl) ?_
      refine w_nil ?_
      exact round_n _ _ (by omega) (Sub.cons rfl (Sub.cons rfl (Sub.cons rfl (Sub.nil _)))) ⟨k + 1, rfl, by omega, rfl, hK, hI⟩
    simp only [decide_eq_false_iff_not] at h25
    obtain rfl : k = p.2.length := by omega
    replace hI := hI.mono (G' := MarkG mkI (i + 1) 0) (fun q p' xs hq hx h => h.next fun e => by subst e; rw [hp] at hq; cases hq; omega)
    clear hxr hxG hxs
    refine wc_exit ?_
    repeat first | refine then_x ?_ | refine round_x ?_ | refine cut_x ?_ | refine out_x' (by decide) ?_
    refine out_x ?_
    refine out_n ?_
    refine then_n ?_
    refine wc_region ?_
    refine w_val rfl rfl (op_pure rfl) ?_
    refine w_val rfl rfl (op_add rfl rfl (by unfold In64; omega)) ?_
    refine w_val rfl rfl (op_pure rfl) ?_
    refine w_nil ?_
    exact round_n _ _ (by omega) (Sub.cons rfl (Sub.cons rfl (Sub.nil _))) ⟨i + 1, rfl, by omega, rfl, hK, hI⟩
  simp only [decide_eq_false_iff_not] at h16
  obtain rfl : i = data.length := by omega
  refine wc_exit ?_
  repeat first | refine then_x ?_ | refine round_x ?_ | refine cut_x ?_ | refine out_x' (by decide) ?_
  refine out_x ?_
  refine then_n ?_
  repeat refine wc_seq ?_
  have hcut := hK.ctr
  have hA : Ap2 s 2 inC data mkI tlI 0 z.ctr [] .nils z := ⟨hK, hI.mono fun q p xs hq _ h => h.1 (List.getElem?_eq_some_iff.1 hq).1, rfl, fun j w p h => (by simp at h), rfl, fun g hg => (by cases hg), fun _ => rfl, fun j w h => (by simp at h), ⟨hcut, Nat.le_refl _⟩⟩
  clear hI hK hvz
  refine wc_region ?_
  refine w_val rfl rfl (op_pure rfl) ?_
  refine w_nil ?_
  refine then_n ?_
  repeat refine wc_seq ?_
  refine wc_region ?_
  refine w_val rfl rfl (op_pure rfl) ?_
  refine w_nil ?_
  refine then_n ?_
  repeat refine wc_seq ?_
  refine wc_block ?_
  refine wc_loop_at (fun j m z => ∃ (i cut : Nat) (ms : List AV) (F : AV), j = data.length - i ∧ i ≤ data.length ∧ m = [(0, v), (5, F), (6, .int .i64 (i : Nat))] ∧ Ap2 s 2 inC data mkI tlI i cut ms F z) data.length
    [(0, v), (5, .nils), (6, .int .i64 ((0 : Nat) : Int))] (Sub.cons rfl (Sub.cons rfl (Sub.cons rfl (Sub.nil _)))) ⟨0, _, _, _, by simp, by simp, rfl, hA⟩ ?_
  clear hA hcut
  rintro j m z ⟨i, cut, ms, F, rfl, hi, rfl, hA⟩
  have hvz := hv.keep hA.K hvX
  have hcut := hA.cutb
  repeat refine wc_seq ?_
  refine wc_region ?_
  refine w_val rfl rfl (op_pure rfl) ?_
  refine w_val rfl rfl (op_pure rfl) ?_
  refine w_val rfl rfl (op_len rfl rfl rfl rfl rfl (by assumption)) ?_
  refine w_val rfl rfl (op_pure rfl) ?_
  refine w_nil ?_
  refine then_n ?_
  repeat refine wc_seq ?_
  refine wc_condT rfl (fun h42 => ?_) (fun h42 => ?_)
  · simp only [decide_eq_true_eq] at h42
    refine wc_skip ?_
    refine then_n ?_
    repeat refine wc_seq ?_
    refine wc_block ?_
    repeat refine wc_seq ?_
    obtain ⟨p, hp⟩ : ∃ x, data[i]? = some x := ⟨_, List.getElem?_eq_getElem (by omega)⟩
    have hpm := List.mem_of_getElem? hp
    have hpl := hl2 p hpm
    obtain ⟨xs, hxl, hxr, hxG⟩ := hA.old i p hp
    unfold FullG at hxG
    rw [hxl] at hxG
    rw [hxG] at hxr
    clear hxG hxl
    refine wc_region ?_
    refine w_val rfl rfl (op_pure rfl) ?_
    refine w_val rfl rfl (op_pure rfl) ?_
    refine w_val rfl rfl (op_idxF rfl rfl (natA_cast _ _) rfl rfl rfl rfl (by assumption) (by omega)) ?_
    refine w_val rfl rfl (op_load rfl rfl (Row.mk_pt hvz hp) rfl) ?_
    refine w_val rfl rfl (op_pure rfl) ?_
    refine w_nil ?_
    refine then_n ?_
    repeat refine wc_seq ?_
    refine wc_region ?_
    refine w_val rfl rfl (op_pure rfl) ?_
    refine w_nil ?_
    refine then_n ?_
    repeat refine wc_seq ?_
    refine wc_block ?_
    refine wc_loop_at (fun j m z => ∃ (k : Nat) (l : AV), j = 30 - k ∧ k ≤ 30 ∧ m = [(0, v), (5, F), (6, .int .i64 (i : Nat)), (7, l), (8, .int .i64 (k : Nat))] ∧ Ap2 s 2 inC data mkI tlI i cut ms F z ∧ Row z.h 2 p.1 ((fullM mkI i p.2.length).map inC) ∧ Row z.h 2 l ((fullM mkI i p.2.length ++ fullM tlI i k).map inC) ∧
        (∀ g ∈ l.gs, g ∈ p.1.gs ∨ cut ≤ g) ∧ (l.gs = [] → l = .nils) ∧ (∀ g ∈ p.1.gs, g ∈ l.gs → finA z.h p.1 ≤ finA z.h l)) 30
      [(0, v), (5, F), (6, .int .i64 (i : Nat)), (7, p.1), (8, .int .i64 ((0 : Nat) : Int))] (Sub.cons rfl (Sub.cons rfl (Sub.cons rfl (Sub.cons rfl (Sub.cons rfl (Sub.nil _)))))) ⟨0, p.1, by simp, by simp, rfl, hA, hxr, by simpa [fullM] using hxr, fun g hg => .inl hg, hn p hpm, fun g _ _ => Nat.le_refl _⟩ ?_
    clear hA hxr hvz
    rintro j1 m1 z ⟨k, l, rfl, hk, rfl, hA, hxr, hl, hlb, hln, hlf⟩
    have hcut := hA.cutb
    repeat refine wc_seq ?_
    refine wc_region ?_
    refine w_val rfl rfl (op_pure rfl) ?_
    refine w_val rfl rfl (op_pure rfl) ?_
    refine w_nil ?_
    refine then_n ?_
    repeat refine wc_seq ?_
    refine wc_condT rfl (fun h50 => ?_) (fun h50 => ?_)
    · simp only [decide_eq_true_eq] at h50
      refine wc_skip ?_
      refine then_n ?_
      repeat refine wc_seq ?_
      refine wc_block ?_
      refine wc_region ?_
      refine w_val rfl rfl (op_pure rfl) ?_
      refine w_val rfl rfl (op_pure rfl) ?_
      refine w_val rfl rfl (op_mul rfl rfl (by unfold In64; omega)) ?_
      refine w_val rfl rfl (op_add rfl rfl (by unfold In64; omega)) ?_
      refine w_val rfl rfl (op_pure rfl) ?_
      refine w_val rfl rfl (op_add rfl rfl (by unfold In64; omega)) ?_
      refine w_val rfl rfl (op_pure rfl) ?_
      refine w_lit1 (c := [.int .i64 (500000 + 1000 * (i : Int) + (k : Nat)), .int .i64 0]) rfl rfl rfl rfl rfl rfl rfl (by decide) (by decide) rfl rfl rfl hA.K.ok ?_
      rintro b z1 hb1 hk1 hc1 hg1
      have hA := hA.grow hd hb hp hk1 (fun g hg => by cases hg) (fun xs h => h.keep0 hk1)
      have hfp : finA z1.h p.1 = finA z.h p.1 := finA_keep hxr hk1 (fun g _ h => by cases h)
      have hfl : finA z1.h l = finA z.h l := finA_keep hl hk1 (fun g _ h => by cases h)
      rw [← hfp, ← hfl] at hlf
      have hxr := hxr.keep0 hk1
      have hl := hl.keep0 hk1
      have hcz : cut ≤ z1.ctr := by have := hA.cutb; omega
      clear hfp hfl hk1 hc1 hg1
      refine w_appendK (sz := 2) (ns := [tlI i k].map inC) rfl rfl rfl rfl rfl rfl rfl rfl rfl rfl (by decide) hA.K.ok hl hln hb1 (by simp only [List.length_map, List.length_append, List.length_cons, List.length_nil, fullM_len, maxBytes]; omega) (by simp only [List.length_map, List.length_append, List.length_cons, List.length_nil, fullM_len, maxBytes]; omega) ?_
      rintro l2 z2 hl2' hk2 hc2 hg2 hn2 - hap
      rw [← List.map_append, List.append_assoc, show fullM tlI i k ++ [tlI i k] = fullM tlI i (k + 1) by simp [fullM, List.range_succ]] at hl2'
      have hlt := hxr.lt hA.K.ok
      obtain ⟨hx2, hfx⟩ := hap.rows hxr hlf
      have hlf2 : ∀ g ∈ p.1.gs, g ∈ l2.gs → finA z2.h p.1 ≤ finA z2.h l2 := fun g h1 h2 => by
        rcases hg2 with e | e
        · rw [e] at h2
          rw [hfx, hap.fin e (fun e0 => by rw [e0] at h2; cases h2)]
          exact Nat.le_trans (hlf g h1 h2) (Nat.le_add_right _ _)
        · rw [e] at h2; have := hlt g h1; rw [List.mem_singleton.1 h2] at this; omega
      have hlb2 : ∀ g ∈ l2.gs, g ∈ p.1.gs ∨ cut ≤ g := fun g h => by
        rcases hg2 with e | e
        · rw [e] at h; exact hlb g h
        · rw [e] at h; rw [List.mem_singleton.1 h]; exact .inr hcz
      have hA := hA.grow hd hb hp hk2 hlb (fun xs h => (hap.rows h hlf).1)
      clear hap hfx hxr hl hb1
      refine w_val rfl rfl (op_pure rfl) ?_
      refine w_nil ?_
      refine out_n ?_
      refine then_n ?_
      refine wc_region ?_
      refine w_val rfl rfl (op_pure rfl) ?_
      refine w_val rfl rfl (op_add rfl rfl (by unfold In64; omega)) ?_
      refine w_val rfl rfl (op_pure rfl) ?_
      refine w_nil ?_
      exact round_n _ _ (by omega) (Sub.cons rfl (Sub.cons rfl (Sub.cons rfl (Sub.cons rfl (Sub.cons rfl (Sub.nil _)))))) ⟨k + 1, l2, rfl, by omega, rfl, hA, hx2, hl2', hlb2, hn2, hlf2⟩
    simp only [decide_eq_false_iff_not] at h50
    obtain rfl : k = 30 := by omega
    refine wc_exit ?_
    repeat first | refine then_x ?_ | refine round_x ?_ | refine cut_x ?_ | refine out_x' (by decide) ?_
    refine out_x ?_
    refine then_n ?_
    refine wc_region ?_
    refine w_val rfl rfl (op_pure rfl) ?_
    refine w_val rfl rfl (op_pure rfl) ?_
    refine w_lit1 (c := [l]) rfl rfl rfl rfl rfl rfl rfl (by decide) (by decide) (fillS1 hl.leaf) (by simp only [List.all_cons, List.all_nil, hl.leaf]; rfl) rfl hA.K.ok ?_
    rintro b z1 hb1 hk1 hc1 -
    have hA := hA.grow hd hb hp hk1 (fun g hg => by cases hg) (fun xs h => h.keep0 hk1)
    have hl := hl.keep0 hk1
    clear hk1 hc1
    refine w_append rfl rfl rfl rfl rfl rfl rfl rfl rfl (by decide) hA.K.ok hA.rF hA.Fn hb1 (by rw [List.length_map, hA.len]; simp only [List.length_cons, List.length_nil, maxBytes]; omega) (by rw [List.length_map, hA.len]; simp only [List.length_cons, List.length_nil, maxBytes]; omega) ?_
    rintro F2 z2 hF2 hk2 - hg2 hn2 -
    have hA := hA.push hb hp hl hlb hF2 hk2 hg2 hn2
    refine w_val rfl rfl (op_pure rfl) ?_
    refine w_nil ?_
    refine out_n ?_
    refine then_n ?_
    refine wc_region ?_
    refine w_val rfl rfl (op_pure rfl) ?_
    refine w_val rfl rfl (op_add rfl rfl (by unfold In64; omega)) ?_
    refine w_val rfl rfl (op_pure rfl) ?_
    refine w_nil ?_
    exact round_n _ _ (by omega) (Sub.cons rfl (Sub.cons rfl (Sub.cons rfl (Sub.nil _)))) ⟨i + 1, _, _, F2, rfl, by omega, rfl, hA⟩
  simp only [decide_eq_false_iff_not] at h42
  obtain rfl : i = data.length := by omega
  refine wc_exit ?_
  repeat first | refine then_x ?_ | refine round_x ?_ | refine cut_x ?_ | refine out_x' (by decide) ?_
  refine out_x ?_
  refine then_n ?_
  repeat refine wc_seq ?_
  have hFz := hA.rF
  have hml := hA.len
  refine wc_region ?_
  refine w_val rfl rfl (op_pure rfl) ?_
  refine w_nil ?_
  refine then_n ?_
  repeat refine wc_seq ?_
  refine wc_block ?_
  refine wc_loop_at (fun j m z' => ∃ i : Nat, j = data.length - i ∧ i ≤ data.length ∧ m = [(0, v), (5, F), (9, .int .i64 (i : Nat))] ∧ z = z') data.length
    [(0, v), (5, F), (9, .int .i64 ((0 : Nat) : Int))] (Sub.cons rfl (Sub.cons rfl (Sub.cons rfl (Sub.nil _)))) ⟨0, by simp, by simp, rfl, rfl⟩ ?_
  rintro j m _ ⟨i, rfl, hi, rfl, rfl⟩
  repeat refine wc_seq ?_
  refine wc_region ?_
  refine w_val rfl rfl (op_pure rfl) ?_
  refine w_val rfl rfl (op_pure rfl) ?_
  refine w_val rfl rfl (op_len rfl rfl rfl rfl rfl (by assumption)) ?_
  refine w_val rfl rfl (op_pure rfl) ?_
  refine w_nil ?_
  refine then_n ?_
  repeat refine wc_seq ?_
  refine wc_condT rfl (fun h69 => ?_) (fun h69 => ?_)
  · simp only [decide_eq_true_eq] at h69
    refine wc_skip ?_
    refine then_n ?_
    repeat refine wc_seq ?_
    refine wc_block ?_
    repeat refine wc_seq ?_
    obtain ⟨p, hp⟩ : ∃ x, data[i]? = some x := ⟨_, List.getElem?_eq_getElem (by omega)⟩
    have hpm := List.mem_of_getElem? hp
    have hpl := hl2 p hpm
    obtain ⟨xs, hxl, hxr, hxG⟩ := hA.old i p hp
    unfold FullG at hxG
    rw [hxl] at hxG
    rw [hxG] at hxr
    clear hxG hxl
    have hxs : p.1.slen = some p.2.length := hxr.slenF.trans (by rw [fullM_len])
    obtain ⟨w, hw⟩ : ∃ x, ms[i]? = some x := ⟨_, List.getElem?_eq_getElem (by omega)⟩
    obtain ⟨hwr, -⟩ := hA.new i w p hw hp
    refine wc_region ?_
    refine w_val rfl rfl (op_pure rfl) ?_
    refine w_val rfl rfl (op_pure rfl) ?_
    refine w_val rfl rfl (op_idxF rfl rfl (natA_cast _ _) rfl rfl rfl rfl (by assumption) (by omega)) ?_
    refine w_val rfl rfl (op_load rfl rfl (Row.mk_pt hvz hp) rfl) ?_
    refine w_val rfl rfl (op_len rfl rfl rfl rfl rfl (by assumption)) ?_
    refine w_val rfl rfl (op_pure rfl) ?_
    refine w_nil ?_
    refine then_n ?_
    repeat refine wc_seq ?_
    refine wc_region ?_
    refine w_val rfl rfl (op_pure rfl) ?_
    refine w_nil ?_
    refine then_n ?_
    repeat refine wc_seq ?_
    refine wc_block ?_
    refine wc_loop_at (fun j m z' => ∃ k : Nat, j = p.2.length - k ∧ k ≤ p.2.length ∧ m = [(0, v), (5, F), (9, .int .i64 (i : Nat)), (10, .int .i64 (p.2.length : Nat)), (11, .int .i64 (k : Nat))] ∧ z = z') p.2.length
      [(0, v), (5, F), (9, .int .i64 (i : Nat)), (10, .int .i64 (p.2.length : Nat)), (11, .int .i64 ((0 : Nat) : Int))] (Sub.cons rfl (Sub.cons rfl (Sub.cons rfl (Sub.cons rfl (Sub.cons rfl (Sub.nil _)))))) ⟨0, by simp, by simp, rfl, rfl⟩ ?_
    rintro j1 m1 _ ⟨k, rfl, hk, rfl, rfl⟩
    repeat refine wc_seq ?_
    refine wc_region ?_
    refine w_val rfl rfl (op_pure rfl) ?_
    refine w_val rfl rfl (op_pure rfl) ?_
    refine w_val rfl rfl (op_pure rfl) ?_
    refine w_nil ?_
    refine then_n ?_
    repeat refine wc_seq ?_
    refine wc_condT rfl (fun h79 => ?_) (fun h79 => ?_)
    · simp only [decide_eq_true_eq] at h79
      refine wc_skip ?_
      refine then_n ?_
      repeat refine wc_seq ?_
      refine wc_block ?_
      repeat refine wc_seq ?_
      have hxk : (fullM mkI i p.2.length)[k]? = some (mkI i k) := fullM_get _ (by omega)
      have hwk : (fullM mkI i p.2.length ++ fullM tlI i 30)[k]? = some (mkI i k) := by rw [List.getElem?_append_left (by rw [fullM_len]; omega)]; exact hxk
      refine wc_region ?_
      refine w_val rfl rfl (op_pure rfl) ?_
      refine w_val rfl rfl (op_pure rfl) ?_
      refine w_val rfl rfl (op_idxF rfl rfl (natA_cast _ _) rfl rfl rfl rfl (by assumption) (by omega)) ?_
      refine w_val rfl rfl (op_load rfl rfl (Row.mk_pt hvz hp) rfl) ?_
      refine w_val rfl rfl (op_pure rfl) ?_
      refine w_val rfl rfl (op_idxF rfl rfl (natA_cast _ _) rfl rfl rfl rfl hxr (by rw [fullM_len]; omega)) ?_
      refine w_val rfl rfl (op_fld rfl rfl rfl rfl (by decide) (Row.mk_pt hxr hxk) (Nat.le_of_ble_eq_true rfl)) ?_
      refine w_val rfl rfl (op_load rfl rfl ((Row.mk_pt hxr hxk).fld _ (Nat.le_of_ble_eq_true rfl)) rfl) ?_
      refine w_val rfl rfl (op_pure rfl) ?_
      refine w_val rfl rfl (op_mul rfl rfl (by unfold In64; omega)) ?_
      refine w_val rfl rfl (op_pure rfl) ?_
      refine w_val rfl rfl (op_add rfl rfl (by unfold In64; omega)) ?_
      refine w_val rfl rfl (op_int (v := .bool false) rfl rfl (by decide) (by simp [intA, mkI])) ?_
      refine w_val rfl rfl (op_pure rfl) ?_
      refine w_split (i := 95) rfl (fun h95 => ?_) (fun h95 => ?_)
      · cases h95
      skip
      refine w_val rfl rfl (op_pure rfl) ?_
      refine w_val rfl rfl (op_pure rfl) ?_
      refine w_val rfl rfl (op_idxF rfl rfl (natA_cast _ _) rfl rfl rfl rfl hFz (by omega)) ?_
      refine w_val rfl rfl (op_load rfl rfl (Row.mk_pt hFz hw) rfl) ?_
      refine w_val rfl rfl (op_pure rfl) ?_
      refine w_val rfl rfl (op_idxF rfl rfl (natA_cast _ _) rfl rfl rfl rfl hwr (by rw [List.length_append, fullM_len, fullM_len]; omega)) ?_
      refine w_val rfl rfl (op_fld rfl rfl rfl rfl (by decide) (Row.mk_pt hwr hwk) (Nat.le_of_ble_eq_true rfl)) ?_
      refine w_val rfl rfl (op_load rfl rfl ((Row.mk_pt hwr hwk).fld _ (Nat.le_of_ble_eq_true rfl)) rfl) ?_
      refine w_val rfl rfl (op_pure rfl) ?_
      refine w_val rfl rfl (op_mul rfl rfl (by unfold In64; omega)) ?_
      refine w_val rfl rfl (op_pure rfl) ?_
      refine w_val rfl rfl (op_add rfl rfl (by unfold In64; omega)) ?_
      refine w_val rfl rfl (op_int (v := .bool false) rfl rfl (by decide) (by simp [intA, mkI])) ?_
      refine w_val rfl rfl (op_pure rfl) ?_
      refine w_nil ?_
      refine then_n ?_
      refine wc_condT rfl (fun h109 => ?_) (fun h109 => ?_)
      · cases h109
      skip
      refine wc_skip ?_
      refine out_n ?_
      refine then_n ?_
      refine wc_region ?_
      refine w_val rfl rfl (op_pure rfl) ?_
      refine w_val rfl rfl (op_add rfl rfl (by unfold In64; omega)) ?_
      refine w_val rfl rfl (op_pure rfl) ?_
      refine w_nil ?_
      exact round_n _ _ (by omega) (Sub.cons rfl (Sub.cons rfl (Sub.cons rfl (Sub.cons rfl (Sub.cons rfl (Sub.nil _)))))) ⟨k + 1, rfl, by omega, rfl, rfl⟩
    simp only [decide_eq_false_iff_not] at h79
    obtain rfl : k = p.2.length := by omega
    refine wc_exit ?_
    repeat first | refine then_x ?_ | refine round_x ?_ | refine cut_x ?_ | refine out_x' (by decide) ?_
    refine out_x ?_
    refine then_n ?_
    repeat refine wc_seq ?_
    refine wc_region ?_
    refine w_val rfl rfl (op_pure rfl) ?_
    refine w_nil ?_
    refine then_n ?_
    refine wc_block ?_
    refine wc_loop_at (fun j m z' => ∃ k : Nat, j = 30 - k ∧ k ≤ 30 ∧ m = [(0, v), (5, F), (9, .int .i64 (i : Nat)), (10, .int .i64 (p.2.length : Nat)), (12, .int .i64 (k : Nat))] ∧ z = z') 30
      [(0, v), (5, F), (9, .int .i64 (i : Nat)), (10, .int .i64 (p.2.length : Nat)), (12, .int .i64 ((0 : Nat) : Int))] (Sub.cons rfl (Sub.cons rfl (Sub.cons rfl (Sub.cons rfl (Sub.cons rfl (Sub.nil _)))))) ⟨0, by simp, by simp, rfl, rfl⟩ ?_
    rintro j1 m1 _ ⟨k, rfl, hk, rfl, rfl⟩
    repeat refine wc_seq ?_
    refine wc_region ?_
    refine w_val rfl rfl (op_pure rfl) ?_
    refine w_val rfl rfl (op_pure rfl) ?_
    refine w_nil ?_
    refine then_n ?_
    repeat refine wc_seq ?_
    refine wc_condT rfl (fun h111 => ?_) (fun h111 => ?_)
    · simp only [decide_eq_true_eq] at h111
      refine wc_skip ?_
      refine then_n ?_
      repeat refine wc_seq ?_
      refine wc_block ?_
      repeat refine wc_seq ?_
      have hwk : (fullM mkI i p.2.length ++ fullM tlI i 30)[p.2.length + k]? = some (tlI i k) := by rw [List.getElem?_append_right (by rw [fullM_len]; omega), fullM_len, Nat.add_sub_cancel_left]; exact fullM_get _ (by omega)
      refine wc_region ?_
      refine w_val rfl rfl (op_pure rfl) ?_
      refine w_val rfl rfl (op_pure rfl) ?_
      refine w_val rfl rfl (op_idxF rfl rfl (natA_cast _ _) rfl rfl rfl rfl hFz (by omega)) ?_
      refine w_val rfl rfl (op_load rfl rfl (Row.mk_pt hFz hw) rfl) ?_
      refine w_val rfl rfl (op_pure rfl) ?_
      refine w_val rfl rfl (op_pure rfl) ?_
      refine w_val rfl rfl (op_add rfl rfl (by unfold In64; omega)) ?_
      refine w_val rfl rfl (op_idxF (n := p.2.length + k) rfl rfl (natA_add _ _ _) rfl rfl rfl rfl hwr (by rw [List.length_append, fullM_len, fullM_len]; omega)) ?_
      refine w_val rfl rfl (op_fld rfl rfl rfl rfl (by decide) (Row.mk_pt hwr hwk) (Nat.le_of_ble_eq_true rfl)) ?_
      refine w_val rfl rfl (op_load rfl rfl ((Row.mk_pt hwr hwk).fld _ (Nat.le_of_ble_eq_true rfl)) rfl) ?_
      refine w_val rfl rfl (op_pure rfl) ?_
      refine w_val rfl rfl (op_mul rfl rfl (by unfold In64; omega)) ?_
      refine w_val rfl rfl (op_add rfl rfl (by unfold In64; omega)) ?_
      refine w_val rfl rfl (op_pure rfl) ?_
      refine w_val rfl rfl (op_add rfl rfl (by unfold In64; omega)) ?_
      refine w_val rfl rfl (op_int (v := .bool false) rfl rfl (by decide) (by simp [intA, tlI])) ?_
      refine w_nil ?_
      refine then_n ?_
      refine wc_condT rfl (fun h129 => ?_) (fun h129 => ?_)
      · cases h129
      skip
      refine wc_skip ?_
      refine out_n ?_
      refine then_n ?_
      refine wc_region ?_
      refine w_val rfl rfl (op_pure rfl) ?_
      refine w_val rfl rfl (op_add rfl rfl (by unfold In64; omega)) ?_
      refine w_val rfl rfl (op_pure rfl) ?_
      refine w_nil ?_
      exact round_n _ _ (by omega) (Sub.cons rfl (Sub.cons rfl (Sub.cons rfl (Sub.cons rfl (Sub.cons rfl (Sub.nil _)))))) ⟨k + 1, rfl, by omega, rfl, rfl⟩
    simp only [decide_eq_false_iff_not] at h111
    obtain rfl : k = 30 := by omega
    refine wc_exit ?_
    repeat first | refine then_x ?_ | refine round_x ?_ | refine cut_x ?_ | refine out_x' (by decide) ?_
    refine out_x ?_
    refine out_n ?_
    refine then_n ?_
    refine wc_region ?_
    refine w_val rfl rfl (op_pure rfl) ?_
    refine w_val rfl rfl (op_add rfl rfl (by unfold In64; omega)) ?_
    refine w_val rfl rfl (op_pure rfl) ?_
    refine w_nil ?_
    exact round_n _ _ (by omega) (Sub.cons rfl (Sub.cons rfl (Sub.cons rfl (Sub.nil _)))) ⟨i + 1, rfl, by omega, rfl, rfl⟩
  simp only [decide_eq_false_iff_not] at h69
  obtain rfl : i = data.length := by omega
  refine wc_exit ?_
  repeat first | refine then_x ?_ | refine round_x ?_ | refine cut_x ?_ | refine out_x' (by decide) ?_
  refine out_x ?_
  refine then_n ?_
  repeat refine wc_seq ?_
  refine wc_region ?_
  refine w_val rfl rfl (op_pure rfl) ?_
  refine w_nil ?_
  refine then_n ?_
  refine wc_ret ?_
  repeat first | refine then_r ?_ | refine out_r ?_ | refine round_r ?_ | refine cut_r ?_ | refine sc_r ?_
  exact ⟨_, rfl, hA.K, rfl⟩
end Go.Ab
/- Modules that were handed out. -/
namespace Go.Ab
open Go.Proofs
abbrev MD := ModL × MemM
def labF (f : FM) : List (AV × List Int) := [(f.2.1, f.1.params), (f.2.2.1, f.1.results)]
def labD (q : MD) : List (AV × List Int) := (q.2.vg, q.1.globals) :: (q.2.vh, q.1.channels) :: q.2.fs.flatMap labF
def codF (f : FM) : AV × List InstrL := (f.2.2.2, f.1.code)
def codD (q : MD) : List (AV × List InstrL) := q.2.fs.map codF
theorem labD_fst (q : MD) : (labD q).map (·.1) = q.2.labs := by
  unfold labD MemM.labs
  simp only [List.map_cons, List.map_flatMap, labF, List.map_nil]
theorem codD_fst (q : MD) : (codD q).map (·.1) = q.2.cods := by
  unfold codD MemM.cods
  rw [List.map_map]; rfl
theorem map_flat {α β γ : Type} (l : List α) (f : α → List β) (g : β → γ) : (l.flatMap f).map g = l.flatMap fun x => (f x).map g := List.map_flatMap ..
theorem labs_all {M : MemM} {v : AV} (h : v ∈ M.labs) : v ∈ M.all := List.mem_cons_of_mem _ (List.mem_cons_of_mem _ (List.mem_append.2 (.inl h)))
theorem cods_all {M : MemM} {v : AV} (h : v ∈ M.cods) : v ∈ M.all := List.mem_cons_of_mem _ (List.mem_cons_of_mem _ (List.mem_append.2 (.inr h)))
theorem va_all {M : MemM} : M.va ∈ M.all := List.mem_cons_self ..
theorem vf_all {M : MemM} : M.vf ∈ M.all := List.mem_cons_of_mem _ (List.mem_cons_self ..)
theorem labD_mem {q : MD} {p : AV × List Int} (h : p ∈ labD q) : p.1 ∈ q.2.labs := by
  rw [← labD_fst]; exact List.mem_map_of_mem h
theorem codD_mem {q : MD} {p : AV × List InstrL} (h : p ∈ codD q) : p.1 ∈ q.2.cods := by
  rw [← codD_fst]; exact List.mem_map_of_mem h
theorem labD_row {h : Tr Grp} {q : MD} (k : ModO h q.1 q.2) {p : AV × List Int} (hp : p ∈ labD q) : Row h 1 p.1 (p.2.map lC) := by
  unfold labD at hp
  rcases List.mem_cons.1 hp with rfl | hp
  · exact k.g
  rcases List.mem_cons.1 hp with rfl | hp
  · exact k.ch
  obtain ⟨f, hf, hp⟩ := List.mem_flatMap.1 hp
  obtain ⟨k1, k2, k3⟩ := k.each f hf
  rcases List.mem_cons.1 hp with rfl | hp
  · exact k1
  · rw [List.mem_singleton.1 hp]; exact k2
theorem codD_row {h : Tr Grp} {q : MD} (k : ModO h q.1 q.2) {p : AV × List InstrL} (hp : p ∈ codD q) : Row h 2 p.1 (p.2.map inC) := by
  obtain ⟨f, hf, rfl⟩ := List.mem_map.1 hp
  exact (k.each f hf).2.2
theorem mod_funcs {h : Tr Grp} {q : MD} (k : ModO h q.1 q.2) {f : FM} (hf : f ∈ q.2.fs) : f.1 ∈ q.1.funcs := by
  rw [← k.fs]; exact List.mem_map_of_mem hf
theorem labD_small {h : Tr Grp} {q : MD} (k : ModO h q.1 q.2) (hs : q.1.small) {p : AV × List Int} (hp : p ∈ labD q) : p.2.length ≤ 2097152 := by
  unfold labD at hp
  rcases List.mem_cons.1 hp with rfl | hp
  · exact hs.1
  rcases List.mem_cons.1 hp with rfl | hp
  · exact hs.2.2.1
  obtain ⟨f, hf, hp⟩ := List.mem_flatMap.1 hp
  have := hs.2.2.2.2 f.1 (mod_funcs k hf)
  rcases List.mem_cons.1 hp with rfl | hp
  · exact this.1
  · rw [List.mem_singleton.1 hp]; exact this.2.1
theorem codD_small {h : Tr Grp} {q : MD} (k : ModO h q.1 q.2) (hs : q.1.small) {p : AV × List InstrL} (hp : p ∈ codD q) : p.2.length ≤ 2097152 := by
  obtain ⟨f, hf, rfl⟩ := List.mem_map.1 hp
  exact (hs.2.2.2.2 f.1 (mod_funcs k hf)).2.2
theorem flat_most {α β : Type} {l : List α} {f : α → List β} {n : Nat} (h : ∀ x ∈ l, (f x).length ≤ n) : (l.flatMap f).length ≤ l.length * n := by
  induction l with
  | nil => simp
  | cons x l ih =>
    rw [List.flatMap_cons, List.length_append, List.length_cons, Nat.succ_mul]
    have := ih fun y hy => h y (List.mem_cons_of_mem _ hy)
    have := h x (List.mem_cons_self ..)
    omega
theorem labD_len (q : MD) : (labD q).length = 2 + 2 * q.2.fs.length := by
  have : ∀ l : List FM, (l.flatMap labF).length = 2 * l.length := by
    intro l
    induction l with
    | nil => rfl
    | cons x l ih => rw [List.flatMap_cons, List.length_append, ih]; simp [labF]; omega
  unfold labD
  rw [List.length_cons, List.length_cons, this]; omega
theorem flat_snoc {α β : Type} {l : List α} {f : α → List β} {i : Nat} {x : α} (h : l[i]? = some x) : (l.take (i + 1)).flatMap f = (l.take i).flatMap f ++ f x := by
  rw [← take_snoc h, List.flatMap_append]; simp
structure Mods (h : Tr Grp) (data : List MD) : Prop where
  ok : ∀ q ∈ data, ModO h q.1 q.2
  small : ∀ q ∈ data, q.1.small ∧ q.1.funcs.length ≤ 1000
  dis : data.Pairwise fun p q => ∀ u ∈ p.2.all, ∀ w ∈ q.2.all, Dis u w
  len : data.length ≤ 100
section
variable {s s' : St} {data : List MD}
theorem Mods.fsl (k : Mods s.h data) {q : MD} (hq : q ∈ data) : q.2.fs.length ≤ 1000 := by
  have := congrArg List.length (k.ok q hq).fs
  rw [List.length_map] at this
  have := (k.small q hq).2
  omega
theorem Mods.keep (k : Mods s.h data) {Y : List Nat} (h : Keep Y s s') (hY : ∀ q ∈ data, ∀ v ∈ q.2.all, ∀ g ∈ v.gs, g ∉ Y) : Mods s'.h data := ⟨fun q hq => (k.ok q hq).keep h (hY q hq), k.small, k.dis, k.len⟩
/-- The lists of parts that are chosen from each module are apart. -/
theorem Mods.pw (k : Mods s.h data) {sel : MemM → List AV} (hs : ∀ M, List.Sublist (sel M) M.all) : (data.flatMap fun q => sel q.2).Pairwise Dis := by
  rw [List.pairwise_flatMap]
  refine ⟨fun q hq => (k.ok q hq).dis.sublist (hs q.2), k.dis.imp fun {p q} h x hx y hy => h x ((hs _).subset hx) y ((hs _).subset hy)⟩
theorem labs_sub (M : MemM) : List.Sublist M.labs M.all := .cons _ (.cons _ (List.sublist_append_left ..))
theorem cods_sub (M : MemM) : List.Sublist M.cods M.all := .cons _ (.cons _ (List.sublist_append_right ..))
/-- Two parts of the modules, of different kinds. -/
theorem Mods.apart (k : Mods s.h data) {q q' : MD} (hq : q ∈ data) (hq' : q' ∈ data) {u w : AV} (hu : u ∈ q.2.all) (hw : w ∈ q'.2.all) (hne : q = q' → Dis u w) : Dis u w := by
  obtain ⟨i, hi⟩ := List.getElem?_of_mem hq
  obtain ⟨j, hj⟩ := List.getElem?_of_mem hq'
  by_cases e : i = j
  · subst e
    rw [hi] at hj
    exact hne (Option.some.inj hj)
  · obtain ⟨h1, e1⟩ := List.getElem?_eq_some_iff.1 hi
    obtain ⟨h2, e2⟩ := List.getElem?_eq_some_iff.1 hj
    have hp := List.pairwise_iff_getElem.1 k.dis
    rcases Nat.lt_or_gt_of_ne e with h | h
    · have := hp i j h1 h2 h
      rw [e1, e2] at this
      exact this u hu w hw
    · have := hp j i h2 h1 h
      rw [e1, e2] at this
      exact (this w hw u hu).symm
theorem ModO.lab_cod {h : Tr Grp} {mm : ModL} {M : MemM} (k : ModO h mm M) {u w : AV} (hu : u ∈ M.labs) (hw : w ∈ M.cods) : Dis u w := by
  have := k.dis
  unfold MemM.all at this
  rw [List.pairwise_cons, List.pairwise_cons, List.pairwise_append] at this
  exact this.2.2.2.2 u hu w hw
theorem ModO.va_dis {h : Tr Grp} {mm : ModL} {M : MemM} (k : ModO h mm M) {w : AV} (hw : w ∈ M.vf :: (M.labs ++ M.cods)) : Dis M.va w := by
  have := k.dis
  unfold MemM.all at this
  rw [List.pairwise_cons] at this
  exact this.1 w hw
theorem ModO.vf_dis {h : Tr Grp} {mm : ModL} {M : MemM} (k : ModO h mm M) {w : AV} (hw : w ∈ M.labs ++ M.cods) : Dis M.vf w := by
  have := k.dis
  unfold MemM.all at this
  rw [List.pairwise_cons, List.pairwise_cons] at this
  exact this.2.1 w hw
end
def fnD (q : MD) : AV × List (List AV) := (q.2.vf, q.2.fs.map fC)
def arD (q : MD) : AV × List (List AV) := (q.2.va, q.1.arrays.map aC)
def mkFn (i k : Nat) : List AV := [.int .u64 0, .nils, .nils, .int .i64 0, .int .i64 (1000 * (i : Int) + (k : Nat)), .nils]
def mkAr (i k : Nat) : List AV := [.int .i64 (1000 * (i : Int) + (k : Nat)), .int .u64 0]
/-- The groups of the modules. -/
def allG (data : List MD) : List Nat := data.flatMap fun q => q.2.all.flatMap AV.gs
theorem allG_mem {data : List MD} {q : MD} (hq : q ∈ data) {v : AV} (hv : v ∈ q.2.all) {g : Nat} (hg : g ∈ v.gs) : g ∈ allG data := List.mem_flatMap.2 ⟨q, hq, List.mem_flatMap.2 ⟨v, hv, hg⟩⟩
theorem allG_lab {data : List MD} : ∀ g ∈ (data.flatMap labD).flatMap (·.1.gs), g ∈ allG data := by
  intro g hg
  obtain ⟨p, hp, hg⟩ := List.mem_flatMap.1 hg
  obtain ⟨q, hq, hp⟩ := List.mem_flatMap.1 hp
  exact allG_mem hq (labs_all (labD_mem hp)) hg
theorem allG_cod {data : List MD} : ∀ g ∈ (data.flatMap codD).flatMap (·.1.gs), g ∈ allG data := by
  intro g hg
  obtain ⟨p, hp, hg⟩ := List.mem_flatMap.1 hg
  obtain ⟨q, hq, hp⟩ := List.mem_flatMap.1 hp
  exact allG_mem hq (cods_all (codD_mem hp)) hg
theorem lab_cod_dis {s : St} {data : List MD} (k : Mods s.h data) {p : AV × List InstrL} (hp : p ∈ data.flatMap codD) : ∀ g ∈ p.1.gs, g ∉ (data.flatMap labD).flatMap (·.1.gs) := by
  intro g hg hg'
  obtain ⟨q, hq, hp⟩ := List.mem_flatMap.1 hp
  obtain ⟨p', hp', hg'⟩ := List.mem_flatMap.1 hg'
  obtain ⟨q', hq', hp'⟩ := List.mem_flatMap.1 hp'
  refine k.apart hq' hq (labs_all (labD_mem hp')) (cods_all (codD_mem hp)) (fun e => ?_) g hg' hg
  subst e
  exact (k.ok _ hq).lab_cod (labD_mem hp') (codD_mem hp)
theorem map_pair {data : List MD} : data.map (fun q => (q.2.vf, q.2.fs.map fC)) = data.map fnD := rfl
theorem fldA_gs (p : AV) (o : Nat) : ∀ g ∈ (fldA p o).gs, g ∈ p.gs := by
  cases p <;> intro g hg <;> first | exact hg | cases hg
theorem hc2L {x y : AV} (hx : x.leaf = true) (hy : y.leaf = true) : ∀ c ∈ ([[x], [y]] : List (List AV)), c.length = 1 ∧ c.all AV.leaf = true := by
  intro c hc
  rcases List.mem_cons.1 hc with rfl | hc
  · simp [hx]
  · rw [List.mem_singleton.1 hc]; simp [hy]
def lp (data : List MD) (i k : Nat) (q : MD) : List (AV × List Int) := (data.take i).flatMap labD ++ ((q.2.vg, q.1.globals) :: (q.2.vh, q.1.channels) :: (q.2.fs.take k).flatMap labF)
def cp (data : List MD) (i k : Nat) (q : MD) : List (AV × List InstrL) := (data.take i).flatMap codD ++ (q.2.fs.take k).map codF
section
variable {data : List MD} {i k : Nat} {q : MD} {f : FM} {s : St}
theorem lp_zero : (lp data i 0 q).map (fun p => [p.1]) = ((data.take i).flatMap labD).map (fun p => [p.1]) ++ [[q.2.vg], [q.2.vh]] := by
  simp [lp]
theorem cp_zero : cp data i 0 q = (data.take i).flatMap codD := by simp [cp]
theorem lp_succ (hf : q.2.fs[k]? = some f) : (lp data i (k + 1) q).map (fun p => [p.1]) = (lp data i k q).map (fun p => [p.1]) ++ [[f.2.1], [f.2.2.1]] := by
  unfold lp
  rw [flat_snoc hf]
  simp [labF]
theorem cp_succ (hf : q.2.fs[k]? = some f) : (cp data i (k + 1) q).map (fun p => [p.1]) = (cp data i k q).map (fun p => [p.1]) ++ [[f.2.2.2]] := by
  unfold cp
  rw [← take_snoc hf]
  simp [codF]
theorem lp_all (hq : data[i]? = some q) : lp data i q.2.fs.length q = (data.take (i + 1)).flatMap labD := by
  unfold lp
  rw [flat_snoc hq, List.take_length]; rfl
theorem cp_all (hq : data[i]? = some q) : cp data i q.2.fs.length q = (data.take (i + 1)).flatMap codD := by
  unfold cp
  rw [flat_snoc hq, List.take_length]; rfl
theorem lab_most (hM : Mods s.h data) (i : Nat) : ((data.take i).flatMap labD).length ≤ 200200 := by
  have := flat_most (l := data.take i) (f := labD) (n := 2002) fun x hx => by rw [labD_len]; have := hM.fsl (List.mem_of_mem_take hx); omega
  have h2 : (data.take i).length ≤ 100 := by rw [List.length_take]; have := hM.len; omega
  have := Nat.mul_le_mul_right 2002 h2
  omega
theorem cod_most (hM : Mods s.h data) (i : Nat) : ((data.take i).flatMap codD).length ≤ 100000 := by
  have := flat_most (l := data.take i) (f := codD) (n := 1000) fun x hx => by unfold codD; rw [List.length_map]; exact hM.fsl (List.mem_of_mem_take hx)
  have h2 : (data.take i).length ≤ 100 := by rw [List.length_take]; have := hM.len; omega
  have := Nat.mul_le_mul_right 1000 h2
  omega
theorem lp_most (hM : Mods s.h data) (i : Nat) (hq : q ∈ data) (k : Nat) : (lp data i k q).length ≤ 300000 := by
  have h1 := lab_most hM i
  have h2 : ∀ l : List FM, (l.flatMap labF).length = 2 * l.length := by
    intro l
    induction l with
    | nil => rfl
    | cons x l ih => rw [List.flatMap_cons, List.length_append, ih]; simp [labF]; omega
  have h3 := hM.fsl hq
  unfold lp
  rw [List.length_append, List.length_cons, List.length_cons, h2, List.length_take]
  omega
theorem cp_most (hM : Mods s.h data) (i : Nat) (hq : q ∈ data) (k : Nat) : (cp data i k q).length ≤ 300000 := by
  have h1 := cod_most hM i
  have h3 := hM.fsl hq
  unfold cp
  rw [List.length_append, List.length_map, List.length_take]
  omega
theorem all_lt {mm : ModL} {M : MemM} (h : ModO s.h mm M) (hok : s.Ok) {w : AV} (hw : w ∈ M.all) : ∀ g ∈ w.gs, g < s.ctr := by
  unfold MemM.all MemM.labs MemM.cods at hw
  simp only [List.cons_append, List.mem_cons, List.mem_append, List.mem_flatMap, List.mem_map, List.not_mem_nil, or_false] at hw
  rcases hw with rfl | rfl | rfl | rfl | ⟨f, hf, rfl | rfl⟩ | ⟨f, hf, rfl⟩
  · exact h.a.lt hok
  · exact h.f.lt hok
  · exact h.g.lt hok
  · exact h.ch.lt hok
  · exact (h.each f hf).1.lt hok
  · exact (h.each f hf).2.1.lt hok
  · exact (h.each f hf).2.2.lt hok
theorem fn_lab (hM : Mods s.h data) (hq : q ∈ data) : ∀ g ∈ (fnD q).1.gs, g ∉ (data.flatMap labD).flatMap (·.1.gs) := by
  intro g hg h
  obtain ⟨p, hp, h⟩ := List.mem_flatMap.1 h
  obtain ⟨q', hq', hp⟩ := List.mem_flatMap.1 hp
  refine hM.apart hq hq' vf_all (labs_all (labD_mem hp)) (fun e => ?_) g hg h
  subst e
  exact (hM.ok _ hq).vf_dis (List.mem_append.2 (.inl (labD_mem hp)))
theorem fn_cod (hM : Mods s.h data) (hq : q ∈ data) : ∀ g ∈ (fnD q).1.gs, g ∉ (data.flatMap codD).flatMap (·.1.gs) := by
  intro g hg h
  obtain ⟨p, hp, h⟩ := List.mem_flatMap.1 h
  obtain ⟨q', hq', hp⟩ := List.mem_flatMap.1 hp
  refine hM.apart hq hq' vf_all (cods_all (codD_mem hp)) (fun e => ?_) g hg h
  subst e
  exact (hM.ok _ hq).vf_dis (List.mem_append.2 (.inr (codD_mem hp)))
theorem ar_lab (hM : Mods s.h data) (hq : q ∈ data) : ∀ g ∈ (arD q).1.gs, g ∉ (data.flatMap labD).flatMap (·.1.gs) := by
  intro g hg h
  obtain ⟨p, hp, h⟩ := List.mem_flatMap.1 h
  obtain ⟨q', hq', hp⟩ := List.mem_flatMap.1 hp
  refine hM.apart hq hq' va_all (labs_all (labD_mem hp)) (fun e => ?_) g hg h
  subst e
  exact (hM.ok _ hq).va_dis (List.mem_cons_of_mem _ (List.mem_append.2 (.inl (labD_mem hp))))
theorem ar_cod (hM : Mods s.h data) (hq : q ∈ data) : ∀ g ∈ (arD q).1.gs, g ∉ (data.flatMap codD).flatMap (·.1.gs) := by
  intro g hg h
  obtain ⟨p, hp, h⟩ := List.mem_flatMap.1 h
  obtain ⟨q', hq', hp⟩ := List.mem_flatMap.1 hp
  refine hM.apart hq hq' va_all (cods_all (codD_mem hp)) (fun e => ?_) g hg h
  subst e
  exact (hM.ok _ hq).va_dis (List.mem_cons_of_mem _ (List.mem_append.2 (.inr (codD_mem hp))))
theorem fn_ar (hM : Mods s.h data) {q' : MD} (hq : q ∈ data) (hq' : q' ∈ data) : ∀ g ∈ (fnD q).1.gs, g ∉ (arD q').1.gs := by
  refine hM.apart hq hq' vf_all va_all (fun e => ?_)
  subst e
  exact ((hM.ok _ hq).va_dis (List.mem_cons_self ..)).symm
theorem fn_pw (hM : Mods s.h data) : ((data.map fnD).map (·.1)).Pairwise Dis := by
  rw [List.map_map, List.pairwise_map]
  exact hM.dis.imp fun {a b} h => h _ vf_all _ vf_all
theorem ar_pw (hM : Mods s.h data) : ((data.map arD).map (·.1)).Pairwise Dis := by
  rw [List.map_map, List.pairwise_map]
  exact hM.dis.imp fun {a b} h => h _ va_all _ va_all
end
set_option maxRecDepth 10000 in
set_option maxHeartbeats 8000000 in
theorem modules_ok {s : St} {v : AV} {data : List MD} (hok : s.Ok) (hv : Row s.h 4 v (data.map fun q => q.2.cells)) (hM : Mods s.h data) (hvX : ∀ g ∈ v.gs, g ∉ allG data) :
    CallS Try.prog Tt Kt 32 [v] s (fun r s' => Keep (allG data) s s' ∧ r = .bool true) := by
  refine call_of (fn := Try.f32) (nt := 187) Try.func32 rfl rfl rfl ?_
  repeat refine wc_seq ?_
  have hM0 := hM
  have hvl : v.slen = some data.length := hv.slenF
  have hS : SH s [rowC .nils 1 (((data.take 0).flatMap labD).map fun p => [p.1]), rowC .nils 1 (((data.take 0).flatMap codD).map fun p => [p.1])] s := ((SH.start hok).nil 1).nil 1
  have hdl := hM.len
  refine wc_region ?_
  refine w_val rfl rfl (op_pure rfl) ?_
  refine w_nil ?_
  refine then_n ?_
  repeat refine wc_seq ?_
  refine wc_region ?_
  refine w_val rfl rfl (op_pure rfl) ?_
  refine w_nil ?_
  refine then_n ?_
  repeat refine wc_seq ?_
  refine wc_region ?_
  refine w_val rfl rfl (op_pure rfl) ?_
  refine w_nil ?_
  refine then_n ?_
  repeat refine wc_seq ?_
  refine wc_region ?_
  refine w_val rfl rfl (op_pure rfl) ?_
  refine w_nil ?_
  refine then_n ?_
  repeat refine wc_seq ?_
  refine wc_block ?_
  refine wc_loop_at (fun j m z => ∃ (i : Nat) (lw cw : AV), j = data.length - i ∧ i ≤ data.length ∧ m = [(0, v), (3, lw), (4, cw), (5, .int .i64 (i : Nat))] ∧ SH s [rowC lw 1 (((data.take i).flatMap labD).map fun p => [p.1]), rowC cw 1 (((data.take i).flatMap codD).map fun p => [p.1])] z) data.length
    [(0, v), (3, .nils), (4, .nils), (5, .int .i64 ((0 : Nat) : Int))] (Sub.cons rfl (Sub.cons rfl (Sub.cons rfl (Sub.cons rfl (Sub.nil _))))) ⟨0, .nils, .nils, by simp, by simp, rfl, hS⟩ ?_
  clear hS
  rintro j m z ⟨i, lw, cw, rfl, hi, rfl, hS⟩
  have hK := hS.K
  have hvz := hv.keep0 hK
  repeat refine wc_seq ?_
  refine wc_region ?_
  refine w_val rfl rfl (op_pure rfl) ?_
  refine w_val rfl rfl (op_pure rfl) ?_
  refine w_val rfl rfl (op_len rfl rfl rfl rfl rfl (by assumption)) ?_
  refine w_val rfl rfl (op_pure rfl) ?_
  refine w_nil ?_
  refine then_n ?_
  repeat refine wc_seq ?_
  refine wc_condT rfl (fun h16 => ?_) (fun h16 => ?_)
  · simp only [decide_eq_true_eq] at h16
    refine wc_skip ?_
    refine then_n ?_
    repeat refine wc_seq ?_
    refine wc_block ?_
    repeat refine wc_seq ?_
    obtain ⟨q, hq⟩ : ∃ x, data[i]? = some x := ⟨_, List.getElem?_eq_getElem (by omega)⟩
    have hqm := List.mem_of_getElem? hq
    have hfl := hM.fsl hqm
    have hMq := (hM.ok q hqm).keep hK (fun _ _ _ _ h => by cases h)
    have hR := Keep.refl hS.ok
    have hLb : ∀ g ∈ lw.gs, s.ctr ≤ g := fun g hg => (hS.bd 0 rfl g hg).1
    have hvlt := hv.lt hok
    have hXv : ∀ g ∈ (elemA v i).gs, g ∉ lw.gs := fun g hg h => by have := hvlt g (elemA_gs _ _ g hg); have := hLb g h; omega
    refine wc_draw (Old z lw.gs) (by kernel_rfl) rfl ?_
    refine wo_val (fun _ => rfl) rfl rfl (op_pure rfl) ?_
    refine wo_val (fun _ => rfl) rfl rfl (op_pure rfl) ?_
    refine wo_val (fun _ => rfl) rfl rfl (op_pure rfl) ?_
    refine wo_val (fun _ => rfl) rfl rfl (op_idxF rfl rfl (natA_cast _ _) rfl rfl rfl rfl (Row.bare (hvz)) (by omega)) ?_
    refine wo_val (fun _ => rfl) rfl rfl (op_fld rfl rfl rfl rfl (by decide) (Pt.bare (Row.mk_pt hvz hq)) (Nat.le_of_ble_eq_true rfl)) ?_
    refine wo_load hR rfl rfl ((Row.mk_pt hvz hq).fld 0 (Nat.le_of_ble_eq_true rfl)) rfl (fun g hg => hXv g (fldA_gs _ _ g hg)) rfl rfl ?_
    refine wo_val (fun _ => rfl) rfl rfl (op_pure rfl) ?_
    refine wo_val (fun _ => rfl) rfl rfl (op_pure rfl) ?_
    refine wo_val (fun _ => rfl) rfl rfl (op_idxF rfl rfl (natA_cast _ _) rfl rfl rfl rfl (Row.bare (hvz)) (by omega)) ?_
    refine wo_val (fun _ => rfl) rfl rfl (op_fld rfl rfl rfl rfl (by decide) (Pt.bare (Row.mk_pt hvz hq)) (Nat.le_of_ble_eq_true rfl)) ?_
    refine wo_load hR rfl rfl ((Row.mk_pt hvz hq).fld 2 (Nat.le_of_ble_eq_true rfl)) rfl (fun g hg => hXv g (fldA_gs _ _ g hg)) rfl rfl ?_
    refine wo_lit [[q.2.vg], [q.2.vh]] hR rfl rfl rfl rfl rfl rfl rfl (by decide) (by decide) (fill2 hMq.g.leaf hMq.ch.leaf) (by simp only [List.all_cons, List.all_nil, hMq.g.leaf, hMq.ch.leaf]; rfl) rfl (hc2L hMq.g.leaf hMq.ch.leaf) rfl ?_
    rintro b zb hb1 hk1 hc1 hg1
    have hS := hS.mov hk1
    have hR1 := hR.two hk1
    refine wo_append hR1 (fun g hg => .inr hg) rfl rfl rfl rfl rfl rfl rfl rfl rfl (by decide) (hS.row 0 rfl) (hS.nls 0 rfl) hb1 (by simp only [List.length_map, List.length_cons, List.length_nil, maxBytes]; have := lab_most hM i; omega) (by simp only [List.length_map, List.length_cons, List.length_nil, maxBytes]; have := lab_most hM i; omega) ?_
    rintro lw2 z hl2 hk2 hc2 hg2 hn2 -
    have hS := hS.upd 0 rfl hk2 (fun g hg => hg) (rowC lw2 1 ((lp data i 0 q).map fun p => [p.1])) ⟨by rw [lp_zero]; exact hl2, hn2⟩ (fun g hg => by
      rcases hg2 with h | h
      · exact .inl (by have hg : g ∈ lw2.gs := hg; rwa [h] at hg)
      · have hg : g ∈ lw2.gs := hg
        have := hl2.lt hk2.ok g hg
        exact .inr ⟨by rw [h] at hg; rw [List.mem_singleton.1 hg]; exact Nat.le_refl _, this⟩)
    have hS : SH s [_, _] z := hS
    have hK := hS.K
    have hvz := hv.keep0 hK
    clear hb1 hk1 hc1 hg1 hl2 hk2 hc2 hg2 hn2 hR1
    clear hR hLb hXv hMq
    refine wo_val (fun _ => rfl) rfl rfl (op_pure rfl) ?_
    refine wd_nil ?_
    refine then_n ?_
    repeat refine wc_seq ?_
    refine wc_region ?_
    refine w_val rfl rfl (op_pure rfl) ?_
    refine w_nil ?_
    refine then_n ?_
    refine wc_block ?_
    have hS : SH s [rowC lw2 1 ((lp data i 0 q).map fun p => [p.1]), rowC cw 1 ((cp data i 0 q).map fun p => [p.1])] z := by rw [cp_zero]; exact hS
    refine wc_loop_at (fun j m z => ∃ (k : Nat) (lw cw : AV), j = q.2.fs.length - k ∧ k ≤ q.2.fs.length ∧ m = [(0, v), (3, lw), (4, cw), (5, .int .i64 (i : Nat)), (6, .int .i64 (k : Nat))] ∧ SH s [rowC lw 1 ((lp data i k q).map fun p => [p.1]), rowC cw 1 ((cp data i k q).map fun p => [p.1])] z) q.2.fs.length
      [(0, v), (3, lw2), (4, cw), (5, .int .i64 (i : Nat)), (6, .int .i64 ((0 : Nat) : Int))] (Sub.cons rfl (Sub.cons rfl (Sub.cons rfl (Sub.cons rfl (Sub.cons rfl (Sub.nil _)))))) ⟨0, lw2, cw, by simp, by simp, rfl, hS⟩ ?_
    clear hS hvz hK
    rintro j1 m1 z ⟨k, lw, cw, rfl, hk, rfl, hS⟩
    have hK := hS.K
    have hvz := hv.keep0 hK
    have hMq := (hM.ok q hqm).keep hK (fun _ _ _ _ h => by cases h)
    have hvf := hMq.f
    have hvfs : q.2.vf.slen = some q.2.fs.length := hvf.slenF
    repeat refine wc_seq ?_
    refine wc_region ?_
    refine w_val rfl rfl (op_pure rfl) ?_
    refine w_val rfl rfl (op_pure rfl) ?_
    refine w_val rfl rfl (op_pure rfl) ?_
    refine w_val rfl rfl (op_idxF rfl rfl (natA_cast _ _) rfl rfl rfl rfl (hvz) (by omega)) ?_
    refine w_val rfl rfl (op_fld rfl rfl rfl rfl (by decide) (Row.mk_pt hvz hq) (Nat.le_of_ble_eq_true rfl)) ?_
    refine w_val rfl rfl (op_load rfl rfl ((Row.mk_pt hvz hq).fld 3 (Nat.le_of_ble_eq_true rfl)) rfl) ?_
    refine w_val rfl rfl (op_len rfl rfl rfl rfl rfl (by assumption)) ?_
    refine w_val rfl rfl (op_pure rfl) ?_
    refine w_nil ?_
    refine then_n ?_
    repeat refine wc_seq ?_
    refine wc_condT rfl (fun h39 => ?_) (fun h39 => ?_)
    · simp only [decide_eq_true_eq] at h39
      refine wc_skip ?_
      refine then_n ?_
      repeat refine wc_seq ?_
      refine wc_block ?_
      repeat refine wc_seq ?_
      obtain ⟨f, hf⟩ : ∃ x, q.2.fs[k]? = some x := ⟨_, List.getElem?_eq_getElem (by omega)⟩
      have hfm := List.mem_of_getElem? hf
      obtain ⟨hfp, hfr, hfc⟩ := hMq.each f hfm
      have hR := Keep.refl hS.ok
      have hLb : ∀ g ∈ lw.gs, s.ctr ≤ g := fun g hg => (hS.bd 0 rfl g hg).1
      have hvlt := hv.lt hok
      have hXv : ∀ g ∈ (elemA v i).gs, g ∉ lw.gs := fun g hg h => by have := hvlt g (elemA_gs _ _ g hg); have := hLb g h; omega
      have hflt := (hM.ok q hqm).f.lt hok
      have hXf : ∀ g ∈ (elemA q.2.vf k).gs, g ∉ lw.gs := fun g hg h => by have := hflt g (elemA_gs _ _ g hg); have := hLb g h; omega
      refine wc_draw (Old z lw.gs) (by kernel_rfl) rfl ?_
      refine wo_val (fun _ => rfl) rfl rfl (op_pure rfl) ?_
      refine wo_val (fun _ => rfl) rfl rfl (op_pure rfl) ?_
      refine wo_val (fun _ => rfl) rfl rfl (op_pure rfl) ?_
      refine wo_val (fun _ => rfl) rfl rfl (op_idxF rfl rfl (natA_cast _ _) rfl rfl rfl rfl (Row.bare (hvz)) (by omega)) ?_
      refine wo_val (fun _ => rfl) rfl rfl (op_fld rfl rfl rfl rfl (by decide) (Pt.bare (Row.mk_pt hvz hq)) (Nat.le_of_ble_eq_true rfl)) ?_
      refine wo_load hR rfl rfl ((Row.mk_pt hvz hq).fld 3 (Nat.le_of_ble_eq_true rfl)) rfl (fun g hg => hXv g (fldA_gs _ _ g hg)) rfl rfl ?_
      refine wo_val (fun _ => rfl) rfl rfl (op_pure rfl) ?_
      refine wo_val (fun _ => rfl) rfl rfl (op_idxF rfl rfl (natA_cast _ _) rfl rfl rfl rfl (Row.bare (hvf)) (by omega)) ?_
      refine wo_val (fun _ => rfl) rfl rfl (op_fld rfl rfl rfl rfl (by decide) (Pt.bare (Row.mk_pt hvf hf)) (Nat.le_of_ble_eq_true rfl)) ?_
      refine wo_load hR rfl rfl ((Row.mk_pt hvf hf).fld 1 (Nat.le_of_ble_eq_true rfl)) rfl (fun g hg => hXf g (fldA_gs _ _ g hg)) rfl rfl ?_
      refine wo_val (fun _ => rfl) rfl rfl (op_pure rfl) ?_
      refine wo_val (fun _ => rfl) rfl rfl (op_pure rfl) ?_
      refine wo_val (fun _ => rfl) rfl rfl (op_idxF rfl rfl (natA_cast _ _) rfl rfl rfl rfl (Row.bare (hvz)) (by omega)) ?_
      refine wo_val (fun _ => rfl) rfl rfl (op_fld rfl rfl rfl rfl (by decide) (Pt.bare (Row.mk_pt hvz hq)) (Nat.le_of_ble_eq_true rfl)) ?_
      refine wo_load hR rfl rfl ((Row.mk_pt hvz hq).fld 3 (Nat.le_of_ble_eq_true rfl)) rfl (fun g hg => hXv g (fldA_gs _ _ g hg)) rfl rfl ?_
      refine wo_val (fun _ => rfl) rfl rfl (op_pure rfl) ?_
      refine wo_val (fun _ => rfl) rfl rfl (op_idxF rfl rfl (natA_cast _ _) rfl rfl rfl rfl (Row.bare (hvf)) (by omega)) ?_
      refine wo_val (fun _ => rfl) rfl rfl (op_fld rfl rfl rfl rfl (by decide) (Pt.bare (Row.mk_pt hvf hf)) (Nat.le_of_ble_eq_true rfl)) ?_
      refine wo_load hR rfl rfl ((Row.mk_pt hvf hf).fld 2 (Nat.le_of_ble_eq_true rfl)) rfl (fun g hg => hXf g (fldA_gs _ _ g hg)) rfl rfl ?_
      refine wo_lit [[f.2.1], [f.2.2.1]] hR rfl rfl rfl rfl rfl rfl rfl (by decide) (by decide) (fill2 hfp.leaf hfr.leaf) (by simp only [List.all_cons, List.all_nil, hfp.leaf, hfr.leaf]; rfl) rfl (hc2L hfp.leaf hfr.leaf) rfl ?_
      rintro b zb hb1 hk1 hc1 hg1
      have hS := hS.mov hk1
      have hR1 := hR.two hk1
      refine wo_append hR1 (fun g hg => .inr hg) rfl rfl rfl rfl rfl rfl rfl rfl rfl (by decide) (hS.row 0 rfl) (hS.nls 0 rfl) hb1 (by simp only [List.length_map, List.length_cons, List.length_nil, maxBytes]; have := lp_most hM i hqm k; omega) (by simp only [List.length_map, List.length_cons, List.length_nil, maxBytes]; have := lp_most hM i hqm k; omega) ?_
      rintro lw2 z hl2 hk2 hc2 hg2 hn2 -
      have hS := hS.upd 0 rfl hk2 (fun g hg => hg) (rowC lw2 1 ((lp data i (k + 1) q).map fun p => [p.1])) ⟨by rw [lp_succ hf]; exact hl2, hn2⟩ (fun g hg => by
        rcases hg2 with h | h
        · exact .inl (by have hg : g ∈ lw2.gs := hg; rwa [h] at hg)
        · have hg : g ∈ lw2.gs := hg
          have := hl2.lt hk2.ok g hg
          exact .inr ⟨by rw [h] at hg; rw [List.mem_singleton.1 hg]; exact Nat.le_refl _, this⟩)
      have hS : SH s [_, _] z := hS
      have hK := hS.K
      have hvz := hv.keep0 hK
      clear hb1 hk1 hc1 hg1 hl2 hk2 hc2 hg2 hn2 hR1
      have hvf := ((hM.ok q hqm).keep hK (fun _ _ _ _ h => by cases h)).f
      clear hR hLb hXv hXf hflt hvlt hfp hfr
      refine wo_val (fun _ => rfl) rfl rfl (op_pure rfl) ?_
      refine wd_nil ?_
      refine then_n ?_
      refine wc_region ?_
      refine w_val rfl rfl (op_pure rfl) ?_
      refine w_val rfl rfl (op_pure rfl) ?_
      refine w_val rfl rfl (op_pure rfl) ?_
      refine w_val rfl rfl (op_idxF rfl rfl (natA_cast _ _) rfl rfl rfl rfl (hvz) (by omega)) ?_
      refine w_val rfl rfl (op_fld rfl rfl rfl rfl (by decide) (Row.mk_pt hvz hq) (Nat.le_of_ble_eq_true rfl)) ?_
      refine w_val rfl rfl (op_load rfl rfl ((Row.mk_pt hvz hq).fld 3 (Nat.le_of_ble_eq_true rfl)) rfl) ?_
      refine w_val rfl rfl (op_pure rfl) ?_
      refine w_val rfl rfl (op_idxF rfl rfl (natA_cast _ _) rfl rfl rfl rfl (hvf) (by omega)) ?_
      refine w_val rfl rfl (op_fld rfl rfl rfl rfl (by decide) (Row.mk_pt hvf hf) (Nat.le_of_ble_eq_true rfl)) ?_
      refine w_val rfl rfl (op_load rfl rfl ((Row.mk_pt hvf hf).fld 5 (Nat.le_of_ble_eq_true rfl)) rfl) ?_
      refine ws_lit1 (c := [f.2.2.2]) hS rfl rfl rfl rfl rfl rfl rfl rfl (by decide) (by decide) (fill1 hfc.leaf) (by simp only [List.all_cons, List.all_nil, hfc.leaf]; rfl) rfl ?_
      rintro b z hS hk1 hb1
      refine ws_append 1 hS rfl rfl rfl rfl rfl rfl rfl rfl rfl rfl rfl (by decide) hb1 (by simp only [List.length_map, List.length_cons, List.length_nil, maxBytes]; have := cp_most hM i hqm k; omega) (by simp only [List.length_map, List.length_cons, List.length_nil, maxBytes]; have := cp_most hM i hqm k; omega) ?_
      rintro cw2 z hS
      have hS : SH s [rowC lw2 1 ((lp data i (k + 1) q).map fun p => [p.1]), rowC cw2 1 ((cp data i (k + 1) q).map fun p => [p.1])] z := by rw [cp_succ hf]; exact hS
      clear hb1 hk1 hfc
      refine w_val rfl rfl (op_pure rfl) ?_
      refine w_nil ?_
      refine out_n ?_
      refine then_n ?_
      refine wc_region ?_
      refine w_val rfl rfl (op_pure rfl) ?_
      refine w_val rfl rfl (op_add rfl rfl (by unfold In64; omega)) ?_
      refine w_val rfl rfl (op_pure rfl) ?_
      refine w_nil ?_
      exact round_n _ _ (by omega) (Sub.cons rfl (Sub.cons rfl (Sub.cons rfl (Sub.cons rfl (Sub.cons rfl (Sub.nil _)))))) ⟨k + 1, lw2, cw2, rfl, by omega, rfl, hS⟩
    simp only [decide_eq_false_iff_not] at h39
    obtain rfl : k = q.2.fs.length := by omega
    rw [lp_all hq, cp_all hq] at hS
    refine wc_exit ?_
    repeat first | refine then_x ?_ | refine round_x ?_ | refine cut_x ?_ | refine out_x' (by decide) ?_
    refine out_x ?_
    refine out_n ?_
    refine then_n ?_
    refine wc_region ?_
    refine w_val rfl rfl (op_pure rfl) ?_
    refine w_val rfl rfl (op_add rfl rfl (by unfold In64; omega)) ?_
    refine w_val rfl rfl (op_pure rfl) ?_
    refine w_nil ?_
    exact round_n _ _ (by omega) (Sub.cons rfl (Sub.cons rfl (Sub.cons rfl (Sub.cons rfl (Sub.nil _))))) ⟨i + 1, lw, cw, rfl, by omega, rfl, hS⟩
  simp only [decide_eq_false_iff_not] at h16
  obtain rfl : i = data.length := by omega
  rw [List.take_length] at hS
  refine wc_exit ?_
  repeat first | refine then_x ?_ | refine round_x ?_ | refine cut_x ?_ | refine out_x' (by decide) ?_
  refine out_x ?_
  refine then_n ?_
  repeat refine wc_seq ?_
  have hMz := hM.keep hK (fun _ _ _ _ _ _ h => by cases h)
  have hown : ∀ q ∈ data, ∀ w ∈ q.2.all, ∀ g ∈ w.gs, g < s.ctr := fun q hq w hw => all_lt (hM.ok q hq) hok hw
  have hGlt : ∀ g ∈ allG data, g < s.ctr := fun g hg => by
    obtain ⟨q, hq, hg⟩ := List.mem_flatMap.1 hg
    obtain ⟨w, hw, hg⟩ := List.mem_flatMap.1 hg
    exact hown q hq w hw g hg
  have hlG : ∀ g ∈ lw.gs, g ∉ (data.flatMap labD).flatMap (·.1.gs) := fun g hg h => by have := hGlt g (allG_lab g h); have := (hS.bd 0 rfl g hg).1; omega
  have hcG1 : ∀ g ∈ cw.gs, g ∉ (data.flatMap labD).flatMap (·.1.gs) := fun g hg h => by have := hGlt g (allG_lab g h); have := (hS.bd 1 rfl g hg).1; omega
  have hcG2 : ∀ g ∈ cw.gs, g ∉ (data.flatMap codD).flatMap (·.1.gs) := fun g hg h => by have := hGlt g (allG_cod g h); have := (hS.bd 1 rfl g hg).1; omega
  refine wc_region ?_
  refine w_val rfl rfl (op_pure rfl) ?_
  refine w_call rfl rfl (op_call rfl rfl rfl rfl) (apartLabels_ok (data := data.flatMap labD) hK.ok (hS.row 0 rfl) hlG (fun p hp => by obtain ⟨q, hq, hp⟩ := List.mem_flatMap.1 hp; exact labD_row (hMz.ok q hq) hp) (by rw [map_flat]; simp only [labD_fst]; exact hMz.pw labs_sub) (fun p hp => by obtain ⟨q, hq, hp⟩ := List.mem_flatMap.1 hp; exact (hMz.ok q hq).nil _ (labs_all (labD_mem hp)))
    (by have := lab_most hM data.length; rw [List.take_length] at this; omega) (fun p hp => by obtain ⟨q, hq, hp⟩ := List.mem_flatMap.1 hp; exact labD_small (hMz.ok q hq) (hM.small q hq).1 hp)) ?_
  rintro _ z1 ⟨hk1, rfl⟩
  have hcr : ∀ p ∈ data.flatMap codD, Row z1.h 2 p.1 (p.2.map inC) := fun p hp => by
    have := lab_cod_dis hM hp
    obtain ⟨q, hq, hp⟩ := List.mem_flatMap.1 hp
    exact (codD_row (hMz.ok q hq) hp).keep hk1 this
  have hcw := (hS.row 1 rfl).keep hk1 hcG1
  have hK1 : Keep (allG data) s z1 := (hK.more fun g hg => by cases hg).trans hk1 fun g hg => .inl (allG_lab g hg)
  refine w_val rfl rfl (op_pure rfl) ?_
  refine w_val rfl rfl (op_pure rfl) ?_
  refine w_val rfl rfl (op_pure rfl) ?_
  refine w_call rfl rfl (op_call rfl rfl rfl rfl) (apartCode_ok (data := data.flatMap codD) hK1.ok hcw hcG2 hcr (by rw [map_flat]; simp only [codD_fst]; exact hMz.pw cods_sub) (fun p hp => by obtain ⟨q, hq, hp⟩ := List.mem_flatMap.1 hp; exact (hMz.ok q hq).nil _ (cods_all (codD_mem hp)))
    (by have := cod_most hM data.length; rw [List.take_length] at this; omega) (fun p hp => by obtain ⟨q, hq, hp⟩ := List.mem_flatMap.1 hp; exact codD_small (hMz.ok q hq) (hM.small q hq).1 hp)) ?_
  rintro _ z2 ⟨hk2, rfl⟩
  have hK : Keep (allG data) s z2 := hK1.trans hk2 fun g hg => .inl (allG_cod g hg)
  have hF : RowsI z2.h 6 id (data.map fnD) (MarkG mkFn 0 0) := by
    intro q p hp
    rw [List.getElem?_map] at hp
    cases e : data[q]? with
    | none => rw [e] at hp; cases hp
    | some x =>
      rw [e] at hp
      cases hp
      have hxm := List.mem_of_getElem? e
      refine ⟨_, rfl, ?_, MarkG.zero _ _ _⟩
      rw [List.map_id]
      refine ((hMz.ok x hxm).f.keep hk1 fun g hg h => ?_).keep hk2 fun g hg h => ?_
      · exact fn_lab hM hxm g hg h
      · exact fn_cod hM hxm g hg h
  have hA : RowsI z2.h 2 id (data.map arD) (MarkG mkAr 0 0) := by
    intro q p hp
    rw [List.getElem?_map] at hp
    cases e : data[q]? with
    | none => rw [e] at hp; cases hp
    | some x =>
      rw [e] at hp
      cases hp
      have hxm := List.mem_of_getElem? e
      refine ⟨_, rfl, ?_, MarkG.zero _ _ _⟩
      rw [List.map_id]
      refine ((hMz.ok x hxm).a.keep hk1 fun g hg h => ?_).keep hk2 fun g hg h => ?_
      · exact ar_lab hM hxm g hg h
      · exact ar_cod hM hxm g hg h
  clear hcr hcw hK1 hk1 hk2 hMz hlG hcG1 hcG2 hS hvz
  refine w_val rfl rfl (op_pure rfl) ?_
  refine w_val rfl rfl (op_pure rfl) ?_
  refine w_nil ?_
  refine then_n ?_
  repeat refine wc_seq ?_
  refine wc_cond_f rfl ?_
  refine wc_skip ?_
  refine then_n ?_
  repeat refine wc_seq ?_
  refine wc_region ?_
  refine w_val rfl rfl (op_pure rfl) ?_
  refine w_nil ?_
  refine then_n ?_
  repeat refine wc_seq ?_
  refine wc_block ?_
  refine wc_loop_at (fun j m z => ∃ i : Nat, j = data.length - i ∧ i ≤ data.length ∧ m = [(0, v), (7, .int .i64 (i : Nat))] ∧ Keep (allG data) s z ∧ RowsI z.h 6 id (data.map fnD) (MarkG mkFn i 0) ∧ RowsI z.h 2 id (data.map arD) (MarkG mkAr i 0)) data.length
    [(0, v), (7, .int .i64 ((0 : Nat) : Int))] (Sub.cons rfl (Sub.cons rfl (Sub.nil _))) ⟨0, by simp, by simp, rfl, hK, hF, hA⟩ ?_
  clear hK hF hA
  rintro j m z ⟨i, rfl, hi, rfl, hK, hF, hA⟩
  have hvz := hv.keep hK hvX
  repeat refine wc_seq ?_
  refine wc_region ?_
  refine w_val rfl rfl (op_pure rfl) ?_
  refine w_val rfl rfl (op_pure rfl) ?_
  refine w_val rfl rfl (op_len rfl rfl rfl rfl rfl (by assumption)) ?_
  refine w_val rfl rfl (op_pure rfl) ?_
  refine w_nil ?_
  refine then_n ?_
  repeat refine wc_seq ?_
  refine wc_condT rfl (fun h86 => ?_) (fun h86 => ?_)
  · simp only [decide_eq_true_eq] at h86
    refine wc_skip ?_
    refine then_n ?_
    repeat refine wc_seq ?_
    refine wc_block ?_
    repeat refine wc_seq ?_
    obtain ⟨q, hq⟩ : ∃ x, data[i]? = some x := ⟨_, List.getElem?_eq_getElem (by omega)⟩
    have hqm := List.mem_of_getElem? hq
    have hfl := hM.fsl hqm
    have hal := (hM.small q hqm).1.2.1
    have hpF : (data.map fnD)[i]? = some (fnD q) := by rw [List.getElem?_map, hq]; rfl
    have hpA : (data.map arD)[i]? = some (arD q) := by rw [List.getElem?_map, hq]; rfl
    have hql : (fnD q).2.length = q.2.fs.length := by simp [fnD]
    have hqa : (arD q).2.length = q.1.arrays.length := by simp [arD]
    refine wc_region ?_
    refine w_val rfl rfl (op_pure rfl) ?_
    refine w_nil ?_
    refine then_n ?_
    repeat refine wc_seq ?_
    refine wc_block ?_
    refine wc_loop_at (fun j m z => ∃ k : Nat, j = q.2.fs.length - k ∧ k ≤ q.2.fs.length ∧ m = [(0, v), (7, .int .i64 (i : Nat)), (8, .int .i64 (k : Nat))] ∧ Keep (allG data) s z ∧ RowsI z.h 6 id (data.map fnD) (MarkG mkFn i k) ∧ RowsI z.h 2 id (data.map arD) (MarkG mkAr i 0)) q.2.fs.length
      [(0, v), (7, .int .i64 (i : Nat)), (8, .int .i64 ((0 : Nat) : Int))] (Sub.cons rfl (Sub.cons rfl (Sub.cons rfl (Sub.nil _)))) ⟨0, by simp, by simp, rfl, hK, hF, hA⟩ ?_
    clear hK hF hA hvz
    rintro j1 m1 z ⟨k, rfl, hk, rfl, hK, hF, hA⟩
    have hvz := hv.keep hK hvX
    obtain ⟨xs, hxl, hxr, hxG⟩ := hF i _ hpF
    have hvfs : q.2.vf.slen = some q.2.fs.length := hxr.slenF.trans (congrArg some (hxl.trans hql))
    have hxl' : xs.length = q.2.fs.length := hxl.trans hql
    repeat refine wc_seq ?_
    refine wc_region ?_
    refine w_val rfl rfl (op_pure rfl) ?_
    refine w_val rfl rfl (op_pure rfl) ?_
    refine w_val rfl rfl (op_pure rfl) ?_
    refine w_val rfl rfl (op_idxF rfl rfl (natA_cast _ _) rfl rfl rfl rfl (hvz) (by omega)) ?_
    refine w_val rfl rfl (op_fld rfl rfl rfl rfl (by decide) (Row.mk_pt hvz hq) (Nat.le_of_ble_eq_true rfl)) ?_
    refine w_val rfl rfl (op_load rfl rfl ((Row.mk_pt hvz hq).fld 3 (Nat.le_of_ble_eq_true rfl)) rfl) ?_
    refine w_val rfl rfl (op_len rfl rfl rfl rfl rfl (by assumption)) ?_
    refine w_val rfl rfl (op_pure rfl) ?_
    refine w_nil ?_
    refine then_n ?_
    repeat refine wc_seq ?_
    refine wc_condT rfl (fun h96 => ?_) (fun h96 => ?_)
    · simp only [decide_eq_true_eq] at h96
      refine wc_skip ?_
      refine then_n ?_
      repeat refine wc_seq ?_
      refine wc_block ?_
      refine wc_region ?_
      refine w_val rfl rfl (op_pure rfl) ?_
      refine w_val rfl rfl (op_pure rfl) ?_
      refine w_val rfl rfl (op_idxF rfl rfl (natA_cast _ _) rfl rfl rfl rfl (hvz) (by omega)) ?_
      refine w_val rfl rfl (op_fld rfl rfl rfl rfl (by decide) (Row.mk_pt hvz hq) (Nat.le_of_ble_eq_true rfl)) ?_
      refine w_val rfl rfl (op_load rfl rfl ((Row.mk_pt hvz hq).fld 3 (Nat.le_of_ble_eq_true rfl)) rfl) ?_
      refine w_val rfl rfl (op_pure rfl) ?_
      refine w_val rfl rfl (op_pure rfl) ?_
      refine w_val rfl rfl (op_mul rfl rfl (by unfold In64; omega)) ?_
      refine w_val rfl rfl (op_pure rfl) ?_
      refine w_val rfl rfl (op_add rfl rfl (by unfold In64; omega)) ?_
      refine w_val rfl rfl (op_pure rfl) ?_
      refine w_val rfl rfl (op_idxF rfl rfl (natA_cast _ _) rfl rfl rfl rfl (hxr) (by omega)) ?_
      refine w_store_row rfl rfl rfl rfl rfl rfl rfl hK.ok hxr (fun e => by have hxr' := hxr; have := (hM.ok q hqm).nil _ vf_all e; rw [show (fnD q).1 = q.2.vf from rfl, this] at hxr'; have h0 := congrArg List.length (show xs.map id = [] from hxr'); rw [List.length_map, List.length_nil] at h0; omega) (by rw [List.length_map]; omega) ?_
      intro zz hx2 hk2 hc2
      have hA := hA.keep hk2 (fun p hp g hg h => by obtain ⟨q', hq', rfl⟩ := List.mem_map.1 hp; exact fn_ar hM hqm hq' g h hg)
      have hF := hF.upd (fn_pw hM) hpF hk2 (xs := xs.set k (mkFn i k)) (G' := MarkG mkFn i (k + 1)) (by rw [List.map_set]; exact hx2) (by rw [List.length_set]; exact hxl) (hxG.step (by omega)) (fun q xs hq h => h.other hq)
      have hK := hK.trans hk2 (fun g hg => .inl (allG_mem hqm vf_all hg))
      clear hx2 hk2 hc2 hxr hxG
      refine w_nil ?_
      refine out_n ?_
      refine then_n ?_
      refine wc_region ?_
      refine w_val rfl rfl (op_pure rfl) ?_
      refine w_val rfl rfl (op_add rfl rfl (by unfold In64; omega)) ?_
      refine w_val rfl rfl (op_pure rfl) ?_
      refine w_nil ?_
      exact round_n _ _ (by omega) (Sub.cons rfl (Sub.cons rfl (Sub.cons rfl (Sub.nil _)))) ⟨k + 1, rfl, by omega, rfl, hK, hF, hA⟩
    simp only [decide_eq_false_iff_not] at h96
    obtain rfl : k = q.2.fs.length := by omega
    replace hF := hF.mono (G' := MarkG mkFn (i + 1) 0) (fun q' p' xs hq' hx h => h.next fun e => by subst e; rw [hpF] at hq'; cases hq'; omega)
    clear hxr hxG hvfs
    refine wc_exit ?_
    repeat first | refine then_x ?_ | refine round_x ?_ | refine cut_x ?_ | refine out_x' (by decide) ?_
    refine out_x ?_
    refine then_n ?_
    repeat refine wc_seq ?_
    refine wc_region ?_
    refine w_val rfl rfl (op_pure rfl) ?_
    refine w_nil ?_
    refine then_n ?_
    refine wc_block ?_
    refine wc_loop_at (fun j m z => ∃ k : Nat, j = q.1.arrays.length - k ∧ k ≤ q.1.arrays.length ∧ m = [(0, v), (7, .int .i64 (i : Nat)), (9, .int .i64 (k : Nat))] ∧ Keep (allG data) s z ∧ RowsI z.h 6 id (data.map fnD) (MarkG mkFn (i + 1) 0) ∧ RowsI z.h 2 id (data.map arD) (MarkG mkAr i k)) q.1.arrays.length
      [(0, v), (7, .int .i64 (i : Nat)), (9, .int .i64 ((0 : Nat) : Int))] (Sub.cons rfl (Sub.cons rfl (Sub.cons rfl (Sub.nil _)))) ⟨0, by simp, by simp, rfl, hK, hF, hA⟩ ?_
    clear hK hF hA hvz
    rintro j1 m1 z ⟨k, rfl, hk, rfl, hK, hF, hA⟩
    have hvz := hv.keep hK hvX
    obtain ⟨xs, hxl, hxr, hxG⟩ := hA i _ hpA
    have hvas : q.2.va.slen = some q.1.arrays.length := hxr.slenF.trans (congrArg some (hxl.trans hqa))
    have hxl' : xs.length = q.1.arrays.length := hxl.trans hqa
    repeat refine wc_seq ?_
    refine wc_region ?_
    refine w_val rfl rfl (op_pure rfl) ?_
    refine w_val rfl rfl (op_pure rfl) ?_
    refine w_val rfl rfl (op_pure rfl) ?_
    refine w_val rfl rfl (op_idxF rfl rfl (natA_cast _ _) rfl rfl rfl rfl (hvz) (by omega)) ?_
    refine w_val rfl rfl (op_fld rfl rfl rfl rfl (by decide) (Row.mk_pt hvz hq) (Nat.le_of_ble_eq_true rfl)) ?_
    refine w_val rfl rfl (op_load rfl rfl ((Row.mk_pt hvz hq).fld 1 (Nat.le_of_ble_eq_true rfl)) rfl) ?_
    refine w_val rfl rfl (op_len rfl rfl rfl rfl rfl (by assumption)) ?_
    refine w_val rfl rfl (op_pure rfl) ?_
    refine w_nil ?_
    refine then_n ?_
    repeat refine wc_seq ?_
    refine wc_condT rfl (fun h118 => ?_) (fun h118 => ?_)
    · simp only [decide_eq_true_eq] at h118
      refine wc_skip ?_
      refine then_n ?_
      repeat refine wc_seq ?_
      refine wc_block ?_
      refine wc_region ?_
      refine w_val rfl rfl (op_pure rfl) ?_
      refine w_val rfl rfl (op_pure rfl) ?_
      refine w_val rfl rfl (op_idxF rfl rfl (natA_cast _ _) rfl rfl rfl rfl (hvz) (by omega)) ?_
      refine w_val rfl rfl (op_fld rfl rfl rfl rfl (by decide) (Row.mk_pt hvz hq) (Nat.le_of_ble_eq_true rfl)) ?_
      refine w_val rfl rfl (op_load rfl rfl ((Row.mk_pt hvz hq).fld 1 (Nat.le_of_ble_eq_true rfl)) rfl) ?_
      refine w_val rfl rfl (op_pure rfl) ?_
      refine w_val rfl rfl (op_pure rfl) ?_
      refine w_val rfl rfl (op_mul rfl rfl (by unfold In64; omega)) ?_
      refine w_val rfl rfl (op_pure rfl) ?_
      refine w_val rfl rfl (op_add rfl rfl (by unfold In64; omega)) ?_
      refine w_val rfl rfl (op_pure rfl) ?_
      refine w_val rfl rfl (op_idxF rfl rfl (natA_cast _ _) rfl rfl rfl rfl (hxr) (by omega)) ?_
      refine w_store_row rfl rfl rfl rfl rfl rfl rfl hK.ok hxr (fun e => by have hxr' := hxr; have := (hM.ok q hqm).nil _ va_all e; rw [show (arD q).1 = q.2.va from rfl, this] at hxr'; have h0 := congrArg List.length (show xs.map id = [] from hxr'); rw [List.length_map, List.length_nil] at h0; omega) (by rw [List.length_map]; omega) ?_
      intro zz hx2 hk2 hc2
      have hF := hF.keep hk2 (fun p hp g hg h => by obtain ⟨q', hq', rfl⟩ := List.mem_map.1 hp; exact fn_ar hM hq' hqm g hg h)
      have hA := hA.upd (ar_pw hM) hpA hk2 (xs := xs.set k (mkAr i k)) (G' := MarkG mkAr i (k + 1)) (by rw [List.map_set]; exact hx2) (by rw [List.length_set]; exact hxl) (hxG.step (by omega)) (fun q xs hq h => h.other hq)
      have hK := hK.trans hk2 (fun g hg => .inl (allG_mem hqm va_all hg))
      clear hx2 hk2 hc2 hxr hxG
      refine w_nil ?_
      refine out_n ?_
      refine then_n ?_
      refine wc_region ?_
      refine w_val rfl rfl (op_pure rfl) ?_
      refine w_val rfl rfl (op_add rfl rfl (by unfold In64; omega)) ?_
      refine w_val rfl rfl (op_pure rfl) ?_
      refine w_nil ?_
      exact round_n _ _ (by omega) (Sub.cons rfl (Sub.cons rfl (Sub.cons rfl (Sub.nil _)))) ⟨k + 1, rfl, by omega, rfl, hK, hF, hA⟩
    simp only [decide_eq_false_iff_not] at h118
    obtain rfl : k = q.1.arrays.length := by omega
    replace hA := hA.mono (G' := MarkG mkAr (i + 1) 0) (fun q' p' xs hq' hx h => h.next fun e => by subst e; rw [hpA] at hq'; cases hq'; omega)
    clear hxr hxG hvas
    refine wc_exit ?_
    repeat first | refine then_x ?_ | refine round_x ?_ | refine cut_x ?_ | refine out_x' (by decide) ?_
    refine out_x ?_
    refine out_n ?_
    refine then_n ?_
    refine wc_region ?_
    refine w_val rfl rfl (op_pure rfl) ?_
    refine w_val rfl rfl (op_add rfl rfl (by unfold In64; omega)) ?_
    refine w_val rfl rfl (op_pure rfl) ?_
    refine w_nil ?_
    exact round_n _ _ (by omega) (Sub.cons rfl (Sub.cons rfl (Sub.nil _))) ⟨i + 1, rfl, by omega, rfl, hK, hF, hA⟩
  simp only [decide_eq_false_iff_not] at h86
  obtain rfl : i = data.length := by omega
  refine wc_exit ?_
  repeat first | refine then_x ?_ | refine round_x ?_ | refine cut_x ?_ | refine out_x' (by decide) ?_
  refine out_x ?_
  refine then_n ?_
  repeat refine wc_seq ?_
  replace hF := hF.mono (G' := FullG mkFn) (fun q p xs hq _ h => h.1 (by have := (List.getElem?_eq_some_iff.1 hq).1; rw [List.length_map] at this; exact this))
  replace hA := hA.mono (G' := FullG mkAr) (fun q p xs hq _ h => h.1 (by have := (List.getElem?_eq_some_iff.1 hq).1; rw [List.length_map] at this; exact this))
  refine wc_region ?_
  refine w_val rfl rfl (op_pure rfl) ?_
  refine w_nil ?_
  refine then_n ?_
  repeat refine wc_seq ?_
  refine wc_block ?_
  refine wc_loop_at (fun j m z' => ∃ i : Nat, j = data.length - i ∧ i ≤ data.length ∧ m = [(0, v), (10, .int .i64 (i : Nat))] ∧ z = z') data.length
    [(0, v), (10, .int .i64 ((0 : Nat) : Int))] (Sub.cons rfl (Sub.cons rfl (Sub.nil _))) ⟨0, by simp, by simp, rfl, rfl⟩ ?_
  rintro j m _ ⟨i, rfl, hi, rfl, rfl⟩
  repeat refine wc_seq ?_
  refine wc_region ?_
  refine w_val rfl rfl (op_pure rfl) ?_
  refine w_val rfl rfl (op_pure rfl) ?_
  refine w_val rfl rfl (op_len rfl rfl rfl rfl rfl (by assumption)) ?_
  refine w_val rfl rfl (op_pure rfl) ?_
  refine w_nil ?_
  refine then_n ?_
  repeat refine wc_seq ?_
  refine wc_condT rfl (fun h136 => ?_) (fun h136 => ?_)
  · simp only [decide_eq_true_eq] at h136
    refine wc_skip ?_
    refine then_n ?_
    repeat refine wc_seq ?_
    refine wc_block ?_
    repeat refine wc_seq ?_
    obtain ⟨q, hq⟩ : ∃ x, data[i]? = some x := ⟨_, List.getElem?_eq_getElem (by omega)⟩
    have hqm := List.mem_of_getElem? hq
    have hfl := hM.fsl hqm
    have hal := (hM.small q hqm).1.2.1
    have hpF : (data.map fnD)[i]? = some (fnD q) := by rw [List.getElem?_map, hq]; rfl
    have hpA : (data.map arD)[i]? = some (arD q) := by rw [List.getElem?_map, hq]; rfl
    have hql : (fnD q).2.length = q.2.fs.length := by simp [fnD]
    have hqa : (arD q).2.length = q.1.arrays.length := by simp [arD]
    obtain ⟨xs, hxl, hxr, hxG⟩ := hF i _ hpF
    unfold FullG at hxG
    rw [hxl, hql] at hxG
    rw [hxG] at hxr
    obtain ⟨ys, hyl, hyr, hyG⟩ := hA i _ hpA
    unfold FullG at hyG
    rw [hyl, hqa] at hyG
    rw [hyG] at hyr
    have hvfs : q.2.vf.slen = some q.2.fs.length := hxr.slenF.trans (by rw [fullM_len])
    have hvas : q.2.va.slen = some q.1.arrays.length := hyr.slenF.trans (by rw [fullM_len])
    have hx1 : (fullM mkFn i q.2.fs.length).length = q.2.fs.length := fullM_len ..
    have hy1 : (fullM mkAr i q.1.arrays.length).length = q.1.arrays.length := fullM_len ..
    refine wc_region ?_
    refine w_val rfl rfl (op_pure rfl) ?_
    refine w_nil ?_
    refine then_n ?_
    repeat refine wc_seq ?_
    refine wc_block ?_
    refine wc_loop_at (fun j m z' => ∃ k : Nat, j = q.2.fs.length - k ∧ k ≤ q.2.fs.length ∧ m = [(0, v), (10, .int .i64 (i : Nat)), (11, .int .i64 (k : Nat))] ∧ z = z') q.2.fs.length
      [(0, v), (10, .int .i64 (i : Nat)), (11, .int .i64 ((0 : Nat) : Int))] (Sub.cons rfl (Sub.cons rfl (Sub.cons rfl (Sub.nil _)))) ⟨0, by simp, by simp, rfl, rfl⟩ ?_
    rintro j1 m1 _ ⟨k, rfl, hk, rfl, rfl⟩
    repeat refine wc_seq ?_
    refine wc_region ?_
    refine w_val rfl rfl (op_pure rfl) ?_
    refine w_val rfl rfl (op_pure rfl) ?_
    refine w_val rfl rfl (op_pure rfl) ?_
    refine w_val rfl rfl (op_idxF rfl rfl (natA_cast _ _) rfl rfl rfl rfl (hvz) (by omega)) ?_
    refine w_val rfl rfl (op_fld rfl rfl rfl rfl (by decide) (Row.mk_pt hvz hq) (Nat.le_of_ble_eq_true rfl)) ?_
    refine w_val rfl rfl (op_load rfl rfl ((Row.mk_pt hvz hq).fld 3 (Nat.le_of_ble_eq_true rfl)) rfl) ?_
    refine w_val rfl rfl (op_len rfl rfl rfl rfl rfl (by assumption)) ?_
    refine w_val rfl rfl (op_pure rfl) ?_
    refine w_nil ?_
    refine then_n ?_
    repeat refine wc_seq ?_
    refine wc_condT rfl (fun h146 => ?_) (fun h146 => ?_)
    · simp only [decide_eq_true_eq] at h146
      refine wc_skip ?_
      refine then_n ?_
      repeat refine wc_seq ?_
      refine wc_block ?_
      repeat refine wc_seq ?_
      have hxk : (fullM mkFn i q.2.fs.length)[k]? = some (mkFn i k) := fullM_get _ (by omega)
      refine wc_region ?_
      refine w_val rfl rfl (op_pure rfl) ?_
      refine w_val rfl rfl (op_pure rfl) ?_
      refine w_val rfl rfl (op_idxF rfl rfl (natA_cast _ _) rfl rfl rfl rfl (hvz) (by omega)) ?_
      refine w_val rfl rfl (op_fld rfl rfl rfl rfl (by decide) (Row.mk_pt hvz hq) (Nat.le_of_ble_eq_true rfl)) ?_
      refine w_val rfl rfl (op_load rfl rfl ((Row.mk_pt hvz hq).fld 3 (Nat.le_of_ble_eq_true rfl)) rfl) ?_
      refine w_val rfl rfl (op_pure rfl) ?_
      refine w_val rfl rfl (op_idxF rfl rfl (natA_cast _ _) rfl rfl rfl rfl (hxr) (by omega)) ?_
      refine w_val rfl rfl (op_fld rfl rfl rfl rfl (by decide) (Row.mk_pt hxr hxk) (Nat.le_of_ble_eq_true rfl)) ?_
      refine w_val rfl rfl (op_load rfl rfl ((Row.mk_pt hxr hxk).fld 4 (Nat.le_of_ble_eq_true rfl)) rfl) ?_
      refine w_val rfl rfl (op_pure rfl) ?_
      refine w_val rfl rfl (op_mul rfl rfl (by unfold In64; omega)) ?_
      refine w_val rfl rfl (op_pure rfl) ?_
      refine w_val rfl rfl (op_add rfl rfl (by unfold In64; omega)) ?_
      refine w_val rfl rfl (op_int (v := .bool false) rfl rfl (by decide) (by simp [intA])) ?_
      refine w_nil ?_
      refine then_n ?_
      refine wc_condT rfl (fun h162 => ?_) (fun h162 => ?_)
      · cases h162
      skip
      refine wc_skip ?_
      refine out_n ?_
      refine then_n ?_
      refine wc_region ?_
      refine w_val rfl rfl (op_pure rfl) ?_
      refine w_val rfl rfl (op_add rfl rfl (by unfold In64; omega)) ?_
      refine w_val rfl rfl (op_pure rfl) ?_
      refine w_nil ?_
      exact round_n _ _ (by omega) (Sub.cons rfl (Sub.cons rfl (Sub.cons rfl (Sub.nil _)))) ⟨k + 1, rfl, by omega, rfl, rfl⟩
    simp only [decide_eq_false_iff_not] at h146
    obtain rfl : k = q.2.fs.length := by omega
    refine wc_exit ?_
    repeat first | refine then_x ?_ | refine round_x ?_ | refine cut_x ?_ | refine out_x' (by decide) ?_
    refine out_x ?_
    refine then_n ?_
    repeat refine wc_seq ?_
    refine wc_region ?_
    refine w_val rfl rfl (op_pure rfl) ?_
    refine w_nil ?_
    refine then_n ?_
    refine wc_block ?_
    refine wc_loop_at (fun j m z' => ∃ k : Nat, j = q.1.arrays.length - k ∧ k ≤ q.1.arrays.length ∧ m = [(0, v), (10, .int .i64 (i : Nat)), (12, .int .i64 (k : Nat))] ∧ z = z') q.1.arrays.length
      [(0, v), (10, .int .i64 (i : Nat)), (12, .int .i64 ((0 : Nat) : Int))] (Sub.cons rfl (Sub.cons rfl (Sub.cons rfl (Sub.nil _)))) ⟨0, by simp, by simp, rfl, rfl⟩ ?_
    rintro j1 m1 _ ⟨k, rfl, hk, rfl, rfl⟩
    repeat refine wc_seq ?_
    refine wc_region ?_
    refine w_val rfl rfl (op_pure rfl) ?_
    refine w_val rfl rfl (op_pure rfl) ?_
    refine w_val rfl rfl (op_pure rfl) ?_
    refine w_val rfl rfl (op_idxF rfl rfl (natA_cast _ _) rfl rfl rfl rfl (hvz) (by omega)) ?_
    refine w_val rfl rfl (op_fld rfl rfl rfl rfl (by decide) (Row.mk_pt hvz hq) (Nat.le_of_ble_eq_true rfl)) ?_
    refine w_val rfl rfl (op_load rfl rfl ((Row.mk_pt hvz hq).fld 1 (Nat.le_of_ble_eq_true rfl)) rfl) ?_
    refine w_val rfl rfl (op_len rfl rfl rfl rfl rfl (by assumption)) ?_
    refine w_val rfl rfl (op_pure rfl) ?_
    refine w_nil ?_
    refine then_n ?_
    repeat refine wc_seq ?_
    refine wc_condT rfl (fun h170 => ?_) (fun h170 => ?_)
    · simp only [decide_eq_true_eq] at h170
      refine wc_skip ?_
      refine then_n ?_
      repeat refine wc_seq ?_
      refine wc_block ?_
      repeat refine wc_seq ?_
      have hxk : (fullM mkAr i q.1.arrays.length)[k]? = some (mkAr i k) := fullM_get _ (by omega)
      refine wc_region ?_
      refine w_val rfl rfl (op_pure rfl) ?_
      refine w_val rfl rfl (op_pure rfl) ?_
      refine w_val rfl rfl (op_idxF rfl rfl (natA_cast _ _) rfl rfl rfl rfl (hvz) (by omega)) ?_
      refine w_val rfl rfl (op_fld rfl rfl rfl rfl (by decide) (Row.mk_pt hvz hq) (Nat.le_of_ble_eq_true rfl)) ?_
      refine w_val rfl rfl (op_load rfl rfl ((Row.mk_pt hvz hq).fld 1 (Nat.le_of_ble_eq_true rfl)) rfl) ?_
      refine w_val rfl rfl (op_pure rfl) ?_
      refine w_val rfl rfl (op_idxF rfl rfl (natA_cast _ _) rfl rfl rfl rfl (hyr) (by omega)) ?_
      refine w_val rfl rfl (op_fld rfl rfl rfl rfl (by decide) (Row.mk_pt hyr hxk) (Nat.le_of_ble_eq_true rfl)) ?_
      refine w_val rfl rfl (op_load rfl rfl ((Row.mk_pt hyr hxk).fld 0 (Nat.le_of_ble_eq_true rfl)) rfl) ?_
      refine w_val rfl rfl (op_pure rfl) ?_
      refine w_val rfl rfl (op_mul rfl rfl (by unfold In64; omega)) ?_
      refine w_val rfl rfl (op_pure rfl) ?_
      refine w_val rfl rfl (op_add rfl rfl (by unfold In64; omega)) ?_
      refine w_val rfl rfl (op_int (v := .bool false) rfl rfl (by decide) (by simp [intA])) ?_
      refine w_nil ?_
      refine then_n ?_
      refine wc_condT rfl (fun h186 => ?_) (fun h186 => ?_)
      · cases h186
      skip
      refine wc_skip ?_
      refine out_n ?_
      refine then_n ?_
      refine wc_region ?_
      refine w_val rfl rfl (op_pure rfl) ?_
      refine w_val rfl rfl (op_add rfl rfl (by unfold In64; omega)) ?_
      refine w_val rfl rfl (op_pure rfl) ?_
      refine w_nil ?_
      exact round_n _ _ (by omega) (Sub.cons rfl (Sub.cons rfl (Sub.cons rfl (Sub.nil _)))) ⟨k + 1, rfl, by omega, rfl, rfl⟩
    simp only [decide_eq_false_iff_not] at h170
    obtain rfl : k = q.1.arrays.length := by omega
    refine wc_exit ?_
    repeat first | refine then_x ?_ | refine round_x ?_ | refine cut_x ?_ | refine out_x' (by decide) ?_
    refine out_x ?_
    refine out_n ?_
    refine then_n ?_
    refine wc_region ?_
    refine w_val rfl rfl (op_pure rfl) ?_
    refine w_val rfl rfl (op_add rfl rfl (by unfold In64; omega)) ?_
    refine w_val rfl rfl (op_pure rfl) ?_
    refine w_nil ?_
    exact round_n _ _ (by omega) (Sub.cons rfl (Sub.cons rfl (Sub.nil _))) ⟨i + 1, rfl, by omega, rfl, rfl⟩
  simp only [decide_eq_false_iff_not] at h136
  obtain rfl : i = data.length := by omega
  refine wc_exit ?_
  repeat first | refine then_x ?_ | refine round_x ?_ | refine cut_x ?_ | refine out_x' (by decide) ?_
  refine out_x ?_
  refine then_n ?_
  repeat refine wc_seq ?_
  refine wc_region ?_
  refine w_val rfl rfl (op_pure rfl) ?_
  refine w_nil ?_
  refine then_n ?_
  refine wc_ret ?_
  repeat first | refine then_r ?_ | refine out_r ?_ | refine round_r ?_ | refine cut_r ?_ | refine sc_r ?_
  exact ⟨_, rfl, hK, rfl⟩
end Go.Ab
/- louverlaw27.LinkTwo. -/
namespace Go.Ab
open Go.Proofs
def gC {α : Type} (R : RP α) (hG : Good R) (F : Nat → Prop) (x : α) (c : List AV) : Chunk := ⟨F, fun h => R h F x c, fun k h hY => hG.keep k h hY⟩
def modC (mm : ModL) (M : MemM) : Chunk := ⟨fun g => ∃ v ∈ M.all, g ∈ v.gs, fun h => ModO h mm M, fun k h hY => k.keep h fun v hv g hg hy => hY g hy ⟨v, hv, hg⟩⟩
def anyC (F : Nat → Prop) : Chunk := ⟨F, fun _ => True, fun _ _ _ => trivial⟩
theorem SH.kill2 {s0 s s' : St} {L : List Chunk} {c d : Chunk} {Y : List Nat} (h : SH s0 L s) (i j : Nat) (hij : i ≠ j) (hi : L[i]? = some c) (hj : L[j]? = some d) (k : Keep Y s s') (hY : ∀ g ∈ Y, c.F g ∨ d.F g) : SH s0 (((L.set j emC).set i (anyC fun g => c.F g ∨ d.F g)).set i emC) s' := by
  have hg : ((L.set j emC).set i (anyC fun g => c.F g ∨ d.F g))[i]? = some (anyC fun g => c.F g ∨ d.F g) := by
    rw [List.getElem?_set_self]
    rw [List.length_set]
    exact (List.getElem?_eq_some_iff.1 hi).1
  exact (h.mrg i j hij hi hj (anyC fun g => c.F g ∨ d.F g) trivial fun g hg => hg).upd i hg k hY emC trivial fun g hg => hg.elim
theorem ModR.four {h : Tr Grp} {m : ModL} {c : List AV} (k : ModR h m c) : ∃ a b d e, c = [a, b, d, e] := by
  obtain ⟨a, b, d, e, rfl, -⟩ := k
  exact ⟨a, b, d, e, rfl⟩
theorem mods2 {h : Tr Grp} {mm : ModL} {M N : MemM} (h1 : ModO h mm M) (h2 : ModO h mm N) (hs : mm.small ∧ mm.funcs.length ≤ 1000) (hd : ∀ u ∈ M.all, ∀ w ∈ N.all, Dis u w) : Mods h [(mm, M), (mm, N)] := by
  refine ⟨fun q hq => ?_, fun q hq => ?_, ?_, by simp⟩
  · rcases List.mem_cons.1 hq with rfl | hq
    · exact h1
    · rw [List.mem_singleton.1 hq]; exact h2
  · rcases List.mem_cons.1 hq with rfl | hq
    · exact hs
    · rw [List.mem_singleton.1 hq]; exact hs
  · refine List.pairwise_cons.2 ⟨fun q hq => ?_, List.pairwise_singleton ..⟩
    rw [List.mem_singleton.1 hq]; exact hd
theorem allG2 {mm : ModL} {M N : MemM} {g : Nat} (h : g ∈ allG [(mm, M), (mm, N)]) : (modC mm M).F g ∨ (modC mm N).F g := by
  obtain ⟨q, hq, h⟩ := List.mem_flatMap.1 h
  have h := List.mem_flatMap.1 h
  obtain ⟨v, hv, h⟩ := h
  rcases List.mem_cons.1 hq with e | hq
  · rw [e] at hv; exact .inl ⟨v, hv, h⟩
  · rw [List.mem_singleton.1 hq] at hv; exact .inr ⟨v, hv, h⟩
theorem ModO.cells_leaf {h : Tr Grp} {mm : ModL} {M : MemM} (k : ModO h mm M) : M.cells.all AV.leaf = true := k.r.leaf.2
theorem lit2_cells {a b : List AV} (ha : a.length = 4 ∧ a.all AV.leaf = true) (hb : b.length = 4 ∧ b.all AV.leaf = true) : ∀ x ∈ [a, b], x.length = 4 ∧ x.all AV.leaf = true := by
  intro x hx
  rcases List.mem_cons.1 hx with rfl | hx
  · exact ha
  · rw [List.mem_singleton.1 hx]; exact hb
end Go.Ab
/- A row under construction takes over what its new element owns. -/
namespace Go.Ab
section
variable {P : Program} {T : Tab} {K : FuncId → Option Bool} {nt : Nat} {ops : Array Oper} {rest : List Oper} {m : Sy} {s s0 : St} {Q : Sy → St → Prop} {d ty : Nat} {pos : String} {af : Array Edge} {g : Option (Nat × Bool)} {L : List Chunk} {α : Type}
theorem SH.nilB (h : SH s0 L s) (R : RP α) (hG : Good R) (sz : Nat) : SH s0 (L ++ [bldC R hG (fun _ => False) sz .nils []]) s :=
  h.add (Keep.refl h.ok) _ ⟨[], rfl, fun _ => rfl, fun g hg => (by cases hg), rfl, fun i x c h1 => (by simp at h1)⟩ fun g hg => hg.elim
theorem SH.bld {R : RP α} {hG : Good R} {F : Nat → Prop} {sz : Nat} {v : AV} {xs : List α} (h : SH s0 L s) (n : Nat) (hn : L[n]? = some (bldC R hG F sz v xs)) : ∃ css, Row s.h sz v css ∧ (v.gs = [] → v = .nils) ∧ (∀ g ∈ v.gs, F g) ∧ css.length = xs.length ∧ ∀ (i : Nat) (x : α) (c : List AV), xs[i]? = some x → css[i]? = some c → R s.h (fun g => F g ∧ g ∉ v.gs) x c := h.get n hn
theorem SH.bldLeaf {R : RP α} {hG : Good R} {F : Nat → Prop} {sz : Nat} {v : AV} {xs : List α} (h : SH s0 L s) (n : Nat) (hn : L[n]? = some (bldC R hG F sz v xs)) : v.leaf = true := by
  obtain ⟨css, hr, -⟩ := h.bld n hn
  exact hr.leaf
theorem ws_app_bld {R : RP α} {hG : Good R} {F : Nat → Prop} {sz : Nat} {f b : AV} {xs : List α} {z : α} {c : List AV} {dc : Chunk} {tt e : TypeId} {x y : Operand} {args : Array Operand} {tys : Array TypeId} {i ie : TI} (n j : Nat) (hnj : n ≠ j) (hS : SH s0 L s) (hn : L[n]? = some (bldC R hG F sz f xs)) (hj : L[j]? = some dc)
    (hg : guardY ops m g = some true) (hd : Nat.ble (d + 1) nt = true) (h1 : args.toList = [x, y]) (h2 : tys.toList = [tt, tt]) (hx : evY m x = some f) (hy : evY m y = some b) (hT : T tt = some i) (hs : i.sh = .slice e) (he : T e = some ie) (hsz : ie.size = sz) (h0 : sz ≠ 0) (hb : Row s.h sz b [c]) (hc : R s.h dc.F z c)
    (hb1 : (xs.length + 1) * ie.bytes ≤ maxBytes) (hb2 : xs.length + 1 ≤ maxBytes)
    (k : ∀ v s' F', SH s0 ((L.set j emC).set n (bldC R hG F' sz v (xs ++ [z]))) s' → W P T K nt ops rest ((d, v) :: m) s' Q) :
    W P T K nt ops (⟨some d, .call ⟨.builtin .append, args, tys⟩, ty, pos, af, g⟩ :: rest) m s Q := by
  subst hsz
  obtain ⟨css, hr, hnl, hgF, hl, hX⟩ := hS.bld n hn
  refine w_append hg hd h1 h2 hx hy hT hs he h0 hS.ok hr hnl hb (by rw [hl]; exact hb1) (by rw [hl]; exact hb2) ?_
  intro v s' hv hk hle hvg hvn hne
  have hdis := hS.dis n j _ _ hnj hn hj
  have hbn := hS.bd n hn
  have hbj := hS.bd j hj
  have hvl := hv.lt hk.ok
  let F' : Nat → Prop := fun g => F g ∨ dc.F g ∨ (s.ctr ≤ g ∧ g < s'.ctr)
  have hvF : ∀ g ∈ v.gs, F' g := fun g hg => by
    rcases hvg with h | h
    · exact .inl (hgF g (by rwa [h] at hg))
    · refine .inr (.inr ⟨?_, hvl g hg⟩)
      rw [h] at hg; rw [List.mem_singleton.1 hg]; exact Nat.le_refl _
  have hnv : ∀ g, g < s.ctr → g ∉ f.gs → g ∉ v.gs := fun g hg hf hv' => by
    rcases hvg with h | h
    · exact hf (by rwa [h] at hv')
    · rw [h] at hv'; rw [List.mem_singleton.1 hv'] at hg; omega
  have hP : (bldC R hG F' ie.size v (xs ++ [z])).P s'.h := by
    refine ⟨css ++ [c], hv, hvn, hvF, by simp [hl], fun i x c' h1' h2' => ?_⟩
    by_cases hi : i < xs.length
    · rw [List.getElem?_append_left hi] at h1'
      rw [List.getElem?_append_left (by omega)] at h2'
      exact hG.mono (hG.keep (hX i x c' h1' h2') hk fun g hg hF => hF.2 hg) fun g hF => ⟨.inl hF.1, hnv g (hbn g hF.1).2 hF.2⟩
    · have hlt := (List.getElem?_eq_some_iff.1 h1').1
      rw [List.length_append, List.length_singleton] at hlt
      have e : i = xs.length := by omega
      subst e
      rw [List.getElem?_append_right (Nat.le_refl _)] at h1'
      rw [List.getElem?_append_right (by omega)] at h2'
      simp at h1'
      rw [hl] at h2'
      simp at h2'
      subst h1' h2'
      exact hG.mono (hG.keep hc hk fun g hg hF => hdis g (hgF g hg) hF) fun g hF => ⟨.inr (.inl hF), hnv g (hbj g hF).2 fun hf => hdis g (hgF g hf) hF⟩
  have hm := hS.mrg n j hnj hn hj (anyC fun g => F g ∨ dc.F g) trivial fun g hg => hg
  have hg' : ((L.set j emC).set n (anyC fun g => F g ∨ dc.F g))[n]? = some (anyC fun g => F g ∨ dc.F g) := by
    rw [List.getElem?_set_self]
    rw [List.length_set]
    exact (List.getElem?_eq_some_iff.1 hn).1
  have := hm.upd n hg' hk (fun g hg => .inl (hgF g hg)) (bldC R hG F' ie.size v (xs ++ [z])) hP fun g hg => by
    rcases hg with h | h | h
    · exact .inl (.inl h)
    · exact .inl (.inr h)
    · exact .inr h
  rw [List.set_set] at this
  exact k v s' F' this
end
end Go.Ab
/- Labels within labels; what Bind asks of two functions, and how it turns an instruction. -/
namespace Go.Ab
open Go.Proofs
end Go.Ab
/- link.Bind. -/
namespace Go.Ab
open Go.Proofs
end Go.Ab
/- The document's Bind. -/
namespace Go.Ab
open Go.Proofs
/-- A function whose labels are as they came in, and whose code is new. -/
def FuncE (s : St) : RP FuncL := fun h F x c => ∃ vp vr vc, c = [.int .u64 x.level, vp, vr, .int .i64 x.locals, .int .i64 x.stack, vc] ∧ Row s.h 1 vp (x.params.map lC) ∧ Row s.h 1 vr (x.results.map lC) ∧ Row h 2 vc (x.code.map inC) ∧ ∀ g ∈ vc.gs, F g
theorem good_e (s : St) : Good (FuncE s) where
  keep := fun ⟨vp, vr, vc, e, h1, h2, h3, f3⟩ h hY => ⟨vp, vr, vc, e, h1, h2, h3.keep h fun g hg hy => hY g hy (f3 g hg), f3⟩
  mono := fun ⟨vp, vr, vc, e, h1, h2, h3, f3⟩ h => ⟨vp, vr, vc, e, h1, h2, h3, fun g hg => h g (f3 g hg)⟩
theorem snoc_map1 {α β : Type} {xs : List α} {k : Nat} {x : α} (h : xs[k]? = some x) (f : α → β) : (xs.take (k + 1)).map f = (xs.take k).map f ++ [f x] := by
  rw [← take_snoc h]; simp
end Go.Ab
/- Which functions a function calls, directly and through others. -/
namespace Go.Ab
open Go.Proofs
def CEdge (m : ModL) (a b : Nat) : Prop := ∃ x y, m.funcs[a]? = some x ∧ y ∈ x.code ∧ y.op = 45 ∧ y.a = (b : Int)
inductive Rch (m : ModL) (f : Nat) : Nat → Prop where
  | here : Rch m f f
  | step {a b : Nat} : Rch m f a → CEdge m a b → Rch m f b
/-- Is it marked? -/
def Tk (l : List Bool) (k : Nat) : Prop := l[k]? = some true
def cntF (l : List Bool) : Nat := l.countP (!·)
theorem cntF_set {l : List Bool} {a : Nat} (h : l[a]? = some false) : cntF (l.set a true) + 1 = cntF l := by
  obtain ⟨h1, h2⟩ := List.getElem?_eq_some_iff.1 h
  unfold cntF
  rw [List.countP_set h1, h2]
  have : 0 < l.countP (!·) := List.countP_pos_iff.2 ⟨false, List.mem_of_getElem? h, rfl⟩
  simp
  omega
theorem Tk_set {l : List Bool} {a k : Nat} (ha : a < l.length) : Tk (l.set a true) k ↔ (k = a ∨ Tk l k) := by
  unfold Tk
  rw [List.getElem?_set]
  by_cases e : a = k
  · subst e; simp [ha]
  · simp [e, Ne.symm e]
theorem not_Tk {l : List Bool} {a : Nat} (h : l[a]? = some false) : ¬ Tk l a := by unfold Tk; rw [h]; simp
/-- What a walk from a marks. -/
structure Dfs (m : ModL) (a : Nat) (l l' : List Bool) : Prop where
  len : l'.length = l.length
  mono : ∀ k, Tk l k → Tk l' k
  here : Tk l' a
  new : ∀ k, Tk l' k → ¬ Tk l k → Rch m a k ∧ ∀ b, CEdge m k b → Tk l' b
/-- What the walk over the instructions of a has marked; l1: a is marked too. -/
structure DfsI (m : ModL) (a : Nat) (x : FuncL) (l l1 : List Bool) (q : Nat) : Prop where
  len : l1.length = l.length
  mono : ∀ k, Tk l k → Tk l1 k
  here : Tk l1 a
  new : ∀ k, Tk l1 k → ¬ Tk l k → k ≠ a → Rch m a k ∧ ∀ b, CEdge m k b → Tk l1 b
  done : ∀ (i : Nat) (y : InstrL) (b : Nat), i < q → x.code[i]? = some y → y.op = 45 → y.a = (b : Int) → Tk l1 b
/-- The numbers of the marked ones. -/
def numL (l : List Bool) (k : Nat) : List Int := ((List.range k).filter fun i => l.getD i false).map fun i : Nat => (i : Int)
theorem numL_zero (l : List Bool) : numL l 0 = [] := rfl
def bC (b : Bool) : List AV := [.bool b]
end Go.Ab
/- Where an address of code comes to. -/
namespace Go.Ab
theorem pigeon : ∀ (n : Nat) (f : Nat → Nat), (∀ i, i ≤ n → f i < n) → ∃ i j, i < j ∧ j ≤ n ∧ f i = f j := by
  intro n
  induction n with
  | zero => intro f h; exact absurd (h 0 (Nat.le_refl _)) (Nat.not_lt_zero _)
  | succ n ih =>
    intro f h
    by_cases e : ∃ i, i ≤ n ∧ f i = f (n + 1)
    · obtain ⟨i, h1, h2⟩ := e
      exact ⟨i, n + 1, by omega, Nat.le_refl _, h2⟩
    · have hne : ∀ i, i ≤ n → f i ≠ f (n + 1) := fun i hi he => e ⟨i, hi, he⟩
      have hv := h (n + 1) (Nat.le_refl _)
      obtain ⟨i, j, h1, h2, h3⟩ := ih (fun i => if f i = n then f (n + 1) else f i) fun i hi => by
        have h1 := h i (by omega)
        have h2 := hne i hi
        split <;> omega
      refine ⟨i, j, h1, by omega, ?_⟩
      have k1 := hne i (by omega)
      have k2 := hne j h2
      split at h3 <;> split at h3 <;> omega
/-- The address behind one that is passed; none: it stops there. -/
def stepC (l : List InstrL) (a : Nat) : Option Nat := match l[a]? with
  | some y => if y.op = 42 then some (a + 1) else if y.op = 43 then some y.a.toNat else none
  | none => none
def iterC (l : List InstrL) (a : Nat) : Nat → Option Nat
  | 0 => some a
  | k + 1 => (iterC l a k).bind (stepC l)
def branchI (y : InstrL) : Bool := y.op == 43 || y.op == 44
def badI (n : Int) (y : InstrL) : Bool := branchI y && (decide (y.a < 0) || decide (n ≤ y.a))
def rightC (l : List InstrL) : Bool := match l.getLast? with
  | none => false
  | some z => (z.op == 43 || z.op == 46) && !l.any (badI l.length)
section
variable {l : List InstrL} {a b c k : Nat}
theorem rightC_jump (h : rightC l = true) {y : InstrL} (hy : y ∈ l) (ho : y.op = 43 ∨ y.op = 44) : 0 ≤ y.a ∧ y.a < (l.length : Int) := by
  unfold rightC at h
  split at h
  · cases h
  · simp only [Bool.and_eq_true, Bool.not_eq_true', List.any_eq_false] at h
    have := h.2 y hy
    have hb : branchI y = true := by unfold branchI; rcases ho with e | e <;> simp [e]
    unfold badI at this
    rw [hb] at this
    simp at this
    omega
theorem rightC_last (h : rightC l = true) (ha : a + 1 = l.length) {y : InstrL} (hy : l[a]? = some y) : y.op = 43 ∨ y.op = 46 := by
  unfold rightC at h
  split at h
  · cases h
  · rename_i z hz
    rw [List.getLast?_eq_getElem?, show l.length - 1 = a by omega, hy] at hz
    cases hz
    simp only [Bool.and_eq_true, Bool.or_eq_true, beq_iff_eq] at h
    exact h.1
theorem step_in (h : rightC l = true) (hs : stepC l a = some b) : b < l.length := by
  unfold stepC at hs
  split at hs
  · rename_i y hy
    have ha := (List.getElem?_eq_some_iff.1 hy).1
    split at hs
    · rename_i ho
      cases hs
      rcases Nat.lt_or_ge (a + 1) l.length with h1 | h1
      · exact h1
      · have := rightC_last h (by omega) hy; omega
    · split at hs
      · rename_i ho
        cases hs
        have := rightC_jump h (List.mem_of_getElem? hy) (.inl ho)
        omega
      · cases hs
  · cases hs
theorem iter_in (h : rightC l = true) (ha : a < l.length) : ∀ {k b}, iterC l a k = some b → b < l.length := by
  intro k
  cases k with
  | zero => intro b hb; cases hb; exact ha
  | succ k =>
    intro b hb
    unfold iterC at hb
    cases e : iterC l a k with
    | none => rw [e] at hb; cases hb
    | some c => rw [e] at hb; exact step_in h hb
theorem iter_some (h : iterC l a k = some b) : ∀ i, i ≤ k → ∃ c, iterC l a i = some c := by
  induction k generalizing b with
  | zero => intro i hi; obtain rfl : i = 0 := by omega
            exact ⟨a, rfl⟩
  | succ k ih =>
    intro i hi
    cases e : iterC l a k with
    | none => unfold iterC at h; rw [e] at h; cases h
    | some c =>
      by_cases hk : i = k + 1
      · subst hk; exact ⟨b, h⟩
      · exact ih e i (by omega)
theorem iter_add (i j m : Nat) (h : iterC l a i = iterC l a j) : iterC l a (i + m) = iterC l a (j + m) := by
  induction m with
  | zero => exact h
  | succ m ih => rw [← Nat.add_assoc, ← Nat.add_assoc]; unfold iterC; rw [ih]
/-- It goes round: it never stops. -/
theorem never {i j : Nat} (hij : i < j) (hj : iterC l a j = some b) (h : iterC l a i = iterC l a j) : ∀ k, ∃ c, iterC l a k = some c := by
  intro k
  induction k using Nat.strongRecOn with
  | _ k ih =>
    by_cases hk : k ≤ j
    · exact iter_some hj k hk
    · obtain ⟨c, hc⟩ := ih (k - (j - i)) (by omega)
      refine ⟨c, ?_⟩
      have := iter_add i j (k - j) h
      rw [show i + (k - j) = k - (j - i) by omega, show j + (k - j) = k by omega] at this
      rw [← this]; exact hc
theorem never_long (h : rightC l = true) (ha : a < l.length) (hk : l.length ≤ k) (hb : iterC l a k = some b) : ∀ k, ∃ c, iterC l a k = some c := by
  obtain ⟨i, j, h1, h2, h3⟩ := pigeon l.length (fun i => (iterC l a i).getD 0) fun i hi => by
    obtain ⟨c, hc⟩ := iter_some hb i (by omega)
    simp only [hc, Option.getD_some]
    exact iter_in h ha hc
  obtain ⟨c, hc⟩ := iter_some hb i (by omega)
  obtain ⟨d, hd⟩ := iter_some hb j (by omega)
  simp only [hc, hd, Option.getD_some] at h3
  subst h3
  exact never h1 hd (hc.trans hd.symm)
/-- Where it stops. -/
def Stop (l : List InstrL) (a b : Nat) : Prop := ∃ k, iterC l a k = some b ∧ stepC l b = none
theorem Stop.one {c : Nat} (h : Stop l a b) (h' : Stop l a c) : b = c := by
  obtain ⟨k, h1, h2⟩ := h
  obtain ⟨j, k1, k2⟩ := h'
  have key : ∀ {k j b c : Nat}, iterC l a k = some b → stepC l b = none → iterC l a j = some c → k < j → False := by
    intro k j b c h1 h2 k1 hlt
    obtain ⟨d, hd⟩ := iter_some k1 (k + 1) (by omega)
    unfold iterC at hd
    rw [h1] at hd
    rw [Option.bind_some, h2] at hd
    cases hd
  rcases Nat.lt_trichotomy k j with h | h | h
  · exact (key h1 h2 k1 h).elim
  · subst h; rw [h1] at k1; cases k1; rfl
  · exact (key k1 k2 h1 h).elim
theorem no_stop (h : ∀ k, ∃ c, iterC l a k = some c) : ¬ Stop l a b := by
  rintro ⟨k, h1, h2⟩
  obtain ⟨c, hc⟩ := h (k + 1)
  unfold iterC at hc
  rw [h1] at hc
  rw [Option.bind_some, h2] at hc
  cases hc
open Classical in
noncomputable def comesN (l : List InstrL) (a : Nat) : Nat := if h : ∃ b, Stop l a b then h.choose else a
theorem comesN_stop (h : Stop l a b) : comesN l a = b := by
  unfold comesN
  rw [dif_pos ⟨b, h⟩]
  exact Stop.one (Classical.choose_spec (⟨b, h⟩ : ∃ b, Stop l a b)) h
theorem comesN_never (h : ∀ k, ∃ c, iterC l a k = some c) : comesN l a = a := by
  unfold comesN
  rw [dif_neg]
  rintro ⟨b, hb⟩
  exact no_stop h hb
noncomputable def comesF (l : List InstrL) (a : Int) : Int := if rightC l = true ∧ 0 ≤ a ∧ a < (l.length : Int) then (comesN l a.toNat : Int) else -1
theorem comesF_no {a : Int} (h : rightC l = false ∨ a < 0 ∨ (l.length : Int) ≤ a) : comesF l a = -1 := by
  unfold comesF
  rw [if_neg]
  rintro ⟨h1, h2, h3⟩
  rcases h with h | h | h
  · rw [h] at h1; cases h1
  · omega
  · omega
theorem comesF_yes (h : rightC l = true) (ha : a < l.length) : comesF l (a : Nat) = (comesN l a : Int) := by
  unfold comesF
  rw [if_pos ⟨h, by omega, by omega⟩, Int.toNat_natCast]
theorem comesN_in (h : rightC l = true) (ha : a < l.length) : comesN l a < l.length := by
  by_cases e : ∃ b, Stop l a b
  · obtain ⟨b, hb⟩ := e
    rw [comesN_stop hb]
    obtain ⟨k, h1, -⟩ := hb
    exact iter_in h ha h1
  · unfold comesN; rw [dif_neg e]; exact ha
theorem iter_next {y : InstrL} (h : iterC l a k = some b) (_hy : l[b]? = some y) (hb : stepC l b = some c) : iterC l a (k + 1) = some c := by
  unfold iterC; rw [h]; exact hb
end
end Go.Ab
/- link.Needs, and the walk that it does. -/
namespace Go.Ab
open Go.Proofs
end Go.Ab
/- link.Needs. -/
namespace Go.Ab
section
variable {P : Program} {T : Tab} {K : FuncId → Option Bool} {nt : Nat} {ops : Array Oper} {rest : List Oper} {m : Sy} {s s0 : St} {Q : Sy → St → Prop} {d ty : Nat} {pos : String} {af : Array Edge} {g : Option (Nat × Bool)} {L : List Chunk}
theorem ws_mk {tt e : TypeId} {x y : Operand} {i ie : TI} {n sz : Nat} (hS : SH s0 L s) (hg : guardY ops m g = some true) (hd : Nat.ble (d + 1) nt = true) (hT : T tt = some i) (hs : i.sh = .slice e) (he : T e = some ie) (hx : evY m x = some (.int .i64 n)) (hy : evY m y = some (.int .i64 n))
    (hsz : ie.size = sz) (hz : ie.zero.length = ie.size) (h0 : ie.size ≠ 0) (hl : ie.zero.all AV.leaf = true) (hb : n * ie.bytes ≤ maxBytes) (hb' : n ≤ 140737488355328)
    (k : ∀ v s', SH s0 (L ++ [rowC v sz (List.replicate n ie.zero)]) s' → v.gs ≠ [] → Keep [] s s' → W P T K nt ops rest ((d, v) :: m) s' Q) : W P T K nt ops (⟨some d, .makeSlice tt x y, ty, pos, af, g⟩ :: rest) m s Q := by
  subst hsz
  exact w_make hg hd hT hs he hx hy hz h0 hl hb hb' hS.ok fun v s' hv hk hc hvg => k v s' (hS.add hk _ ⟨hv, fun h => by rw [hvg] at h; cases h⟩ (row_newb hk hv hvg hc)) (by rw [hvg]; simp) hk
end
open Go.Proofs
theorem rep_bC (n : Nat) : List.replicate n [AV.bool false] = (List.replicate n false).map bC := by simp [bC]
end Go.Ab
/- Scopes in which the code jumps back. -/
namespace Go.Ab
section
variable {P : Program} {T : Tab} {K : FuncId → Option Bool} {nt : Nat} {m : Sy} {s : St} {R : Ex → Sy → St → Prop} {b c X : Code}
/-- A scope's body from a place on. -/
def WSc (P : Program) (T : Tab) (K : FuncId → Option Bool) (nt : Nat) (b c : Code) (m : Sy) (s : St) (R : Ex → Sy → St → Prop) : Prop :=
  ∃ N e m' s', R e m' s' ∧ ∀ n k, N ≤ n → N ≤ k → ∀ t, Has t nt m → ∃ t', evCode.evScope T (evCallK P T K n) k b c t s = some (e, t', s') ∧ Has t' nt m'
/-- What stands behind a part of the body: a jump goes on with the rest behind the label. -/
def ScG (P : Program) (T : Tab) (K : FuncId → Option Bool) (nt : Nat) (b : Code) (R : Ex → Sy → St → Prop) : Ex → Sy → St → Prop
  | .goto l, m, s => ∃ rest, findLabel b l = some rest ∧ WSc P T K nt b rest m s R
  | e, m, s => R e m s
theorem wsc_of (h : WC P T K nt c m s (ScG P T K nt b R)) : WSc P T K nt b c m s R := by
  obtain ⟨N, e, m1, s1, hq, hn⟩ := h
  by_cases hg : ∃ l, e = .goto l
  · obtain ⟨l, rfl⟩ := hg
    obtain ⟨rest, hf, N', e', m', s', hq', hn'⟩ := hq
    refine ⟨max N N' + 1, e', m', s', hq', fun n k h1 h2 t ht => ?_⟩
    obtain ⟨k, rfl⟩ : ∃ j, k = j + 1 := ⟨k - 1, by omega⟩
    obtain ⟨t1, e1, ht1⟩ := hn n k (by omega) (by omega) t ht
    obtain ⟨t2, e2, ht2⟩ := hn' n k (by omega) (by omega) t1 ht1
    exact ⟨t2, by simp only [evCode.evScope, e1, hf, e2], ht2⟩
  · refine ⟨N + 1, e, m1, s1, ?_, fun n k h1 h2 t ht => ?_⟩
    · cases e <;> first | exact hq | exact (hg ⟨_, rfl⟩).elim
    · obtain ⟨k, rfl⟩ : ∃ j, k = j + 1 := ⟨k - 1, by omega⟩
      obtain ⟨t1, e1, ht1⟩ := hn n k (by omega) (by omega) t ht
      refine ⟨t1, ?_, ht1⟩
      simp only [evCode.evScope, e1]
      all_goals (cases e <;> first | rfl | exact (hg ⟨_, rfl⟩).elim)
theorem wc_scopeG (h : WC P T K nt b m s (ScG P T K nt b R)) : WC P T K nt (.scope b) m s R := by
  obtain ⟨N, e, m', s', hq, hn⟩ := wsc_of h
  refine ⟨N + 1, e, m', s', hq, fun n k h1 h2 t ht => ?_⟩
  obtain ⟨k, rfl⟩ : ∃ j, k = j + 1 := ⟨k - 1, by omega⟩
  obtain ⟨t', e1, ht'⟩ := hn n k (by omega) (by omega) t ht
  exact ⟨t', by simp only [evCode, e1], ht'⟩
/-- A round that ends in the jump. -/
def Gt (l : Nat) (I : Nat → Sy → St → Prop) (j : Nat) (R : Ex → Sy → St → Prop) : Ex → Sy → St → Prop
  | .goto l', m, s => l' = l ∧ ∃ i m', i < j ∧ Sub m' m ∧ I i m' s
  | e, m, s => R e m s
theorem wsc_sub {m' : Sy} (hs : Sub m' m) (h : WSc P T K nt b c m' s R) : WSc P T K nt b c m s R := by
  obtain ⟨N, e, m1, s', hq, hn⟩ := h
  exact ⟨N, e, m1, s', hq, fun n k h1 h2 t ht => hn n k h1 h2 t (ht.sub hs)⟩
theorem wc_goto_at {l : Nat} (I : Nat → Sy → St → Prop) (j : Nat) (m' : Sy) (hs : Sub m' m) (h0 : I j m' s) (hf : findLabel b l = some (.seq .skip X)) (hI : ∀ j m s, I j m s → WC P T K nt X m s (Gt l I j R)) : WC P T K nt (.seq (.label l) X) m s (ScG P T K nt b R) := by
  have key : ∀ (j : Nat) (m : Sy) (s : St), I j m s → WC P T K nt X m s (ScG P T K nt b R) := by
    intro j
    induction j using Nat.strongRecOn with
    | _ j ih =>
      intro m s hi
      refine wc_mono (hI j m s hi) fun e m1 s1 hq => ?_
      cases e with
      | goto l' =>
        obtain ⟨rfl, i, m2, hlt, hsub, hi'⟩ := hq
        exact ⟨_, hf, wsc_sub hsub (wsc_of (wc_seq (wc_skip (then_n (ih i hlt m2 s1 hi')))))⟩
      | _ => exact hq
  exact wc_sub hs (wc_seq (wc_label (then_n (key j m' s h0))))
theorem gt_g {l j : Nat} {I : Nat → Sy → St → Prop} (i : Nat) (m' : Sy) (hi : i < j) (hs : Sub m' m) (h : I i m' s) : Gt l I j R (.goto l) m s := ⟨rfl, i, m', hi, hs, h⟩
end
end Go.Ab
/- trim: which code is right, and where an address comes to. -/
namespace Go.Ab
open Go.Proofs
theorem natA_pred (k : IntKind) {n : Nat} (h : 0 < n) : natA (.int k ((n : Int) - 1)) = some (n - 1) := by
  have : ((n : Int) - 1) = ((n - 1 : Nat) : Int) := by omega
  rw [this]; exact natA_cast _ _
set_option maxRecDepth 10000 in
set_option maxHeartbeats 8000000 in
theorem rightI_ok {s : St} {y : InstrL} {pn : AV} {n : Int} (hok : s.Ok) (hpn : Pt s.h pn [.int .i64 n]) : CallS Try.prog Tt Kt 97 [.agg (inC y), pn] s (fun r s' => Keep [] s s' ∧ r = .bool (badI n y)) := by
  refine call_of (fn := Try.f97) (nt := 23) Try.func97 rfl rfl rfl ?_
  repeat refine wc_seq ?_
  have hS := SH.start hok
  refine wc_region ?_
  refine ws_box hS rfl rfl rfl (by rfl) ?_
  rintro p0 z hS hk
  have hS : SH _ [_] z := hS
  have hK := hS.K
  refine w_val rfl rfl (op_pure rfl) ?_
  refine w_nil ?_
  refine then_n ?_
  repeat refine wc_seq ?_
  refine wc_region ?_
  refine w_val rfl rfl (op_fldP rfl rfl rfl rfl (by decide)) ?_
  refine w_val rfl rfl (op_loadC 0 hS rfl rfl rfl (Nat.le_of_ble_eq_true rfl) rfl) ?_
  refine w_val rfl rfl (op_pure rfl) ?_
  refine w_val rfl rfl (op_pure rfl) ?_
  refine w_split (i := 7) rfl (fun h7 => ?_) (fun h7 => ?_)
  · simp only [beq_iff_eq] at h7
    refine w_off rfl rfl ?_
    refine w_off rfl rfl ?_
    refine w_off rfl rfl ?_
    refine w_val rfl rfl (op_pure rfl) ?_
    refine w_val rfl rfl (op_pure rfl) ?_
    refine w_val rfl rfl (op_fldP rfl rfl rfl rfl (by decide)) ?_
    refine w_val rfl rfl (op_loadC 0 hS rfl rfl rfl (Nat.le_of_ble_eq_true rfl) rfl) ?_
    refine w_val rfl rfl (op_pure rfl) ?_
    refine w_val rfl rfl (op_pure rfl) ?_
    refine w_split (i := 16) rfl (fun h16 => ?_) (fun h16 => ?_)
    · simp only [decide_eq_true_eq] at h16
      refine w_off rfl rfl ?_
      refine w_off rfl rfl ?_
      refine w_off rfl rfl ?_
      refine w_off rfl rfl ?_
      refine w_val rfl rfl (op_pure rfl) ?_
      refine w_val rfl rfl (op_pure rfl) ?_
      refine w_val rfl rfl (op_pure rfl) ?_
      refine w_nil ?_
      refine then_n ?_
      refine wc_ret ?_
      repeat first | refine then_r ?_ | refine out_r ?_ | refine round_r ?_ | refine cut_r ?_ | refine sc_r ?_
      exact ⟨_, rfl, hK, by first | (simp [badI, branchI, packA, h7, h16]; done) | (simp [badI, branchI, packA, h7, h12, h16]; done) | (simp [badI, branchI, packA, h7, h12]; done)⟩
    simp only [decide_eq_false_iff_not] at h16
    refine w_val rfl rfl (op_fldP rfl rfl rfl rfl (by decide)) ?_
    refine w_val rfl rfl (op_loadC 0 hS rfl rfl rfl (Nat.le_of_ble_eq_true rfl) rfl) ?_
    refine w_val rfl rfl (op_load rfl rfl (hpn.keep0 hK) rfl) ?_
    refine w_val rfl rfl (op_pure rfl) ?_
    refine w_val rfl rfl (op_pure rfl) ?_
    refine w_val rfl rfl (op_pure rfl) ?_
    refine w_val rfl rfl (op_pure rfl) ?_
    refine w_nil ?_
    refine then_n ?_
    refine wc_ret ?_
    repeat first | refine then_r ?_ | refine out_r ?_ | refine round_r ?_ | refine cut_r ?_ | refine sc_r ?_
    exact ⟨_, rfl, hK, by first | (simp [badI, branchI, packA, h7, h16]; done) | (simp [badI, branchI, packA, h7, h12, h16]; done) | (simp [badI, branchI, packA, h7, h12]; done)⟩
  simp only [beq_eq_false_iff_ne, ne_eq] at h7
  refine w_val rfl rfl (op_fldP rfl rfl rfl rfl (by decide)) ?_
  refine w_val rfl rfl (op_loadC 0 hS rfl rfl rfl (Nat.le_of_ble_eq_true rfl) rfl) ?_
  refine w_val rfl rfl (op_pure rfl) ?_
  refine w_val rfl rfl (op_pure rfl) ?_
  refine w_val rfl rfl (op_pure rfl) ?_
  refine w_split (i := 12) rfl (fun h12 => ?_) (fun h12 => ?_)
  · simp only [beq_iff_eq] at h12
    refine w_val rfl rfl (op_fldP rfl rfl rfl rfl (by decide)) ?_
    refine w_val rfl rfl (op_loadC 0 hS rfl rfl rfl (Nat.le_of_ble_eq_true rfl) rfl) ?_
    refine w_val rfl rfl (op_pure rfl) ?_
    refine w_val rfl rfl (op_pure rfl) ?_
    refine w_split (i := 16) rfl (fun h16 => ?_) (fun h16 => ?_)
    · simp only [decide_eq_true_eq] at h16
      refine w_off rfl rfl ?_
      refine w_off rfl rfl ?_
      refine w_off rfl rfl ?_
      refine w_off rfl rfl ?_
      refine w_val rfl rfl (op_pure rfl) ?_
      refine w_val rfl rfl (op_pure rfl) ?_
      refine w_val rfl rfl (op_pure rfl) ?_
      refine w_nil ?_
      refine then_n ?_
      refine wc_ret ?_
      repeat first | refine then_r ?_ | refine out_r ?_ | refine round_r ?_ | refine cut_r ?_ | refine sc_r ?_
      exact ⟨_, rfl, hK, by first | (simp [badI, branchI, packA, h7, h16]; done) | (simp [badI, branchI, packA, h12, h16]; done) | (simp [badI, branchI, packA, h7, h12]; done)⟩
    simp only [decide_eq_false_iff_not] at h16
    refine w_val rfl rfl (op_fldP rfl rfl rfl rfl (by decide)) ?_
    refine w_val rfl rfl (op_loadC 0 hS rfl rfl rfl (Nat.le_of_ble_eq_true rfl) rfl) ?_
    refine w_val rfl rfl (op_load rfl rfl (hpn.keep0 hK) rfl) ?_
    refine w_val rfl rfl (op_pure rfl) ?_
    refine w_val rfl rfl (op_pure rfl) ?_
    refine w_val rfl rfl (op_pure rfl) ?_
    refine w_val rfl rfl (op_pure rfl) ?_
    refine w_nil ?_
    refine then_n ?_
    refine wc_ret ?_
    repeat first | refine then_r ?_ | refine out_r ?_ | refine round_r ?_ | refine cut_r ?_ | refine sc_r ?_
    exact ⟨_, rfl, hK, by first | (simp [badI, branchI, packA, h7, h16]; done) | (simp [badI, branchI, packA, h12, h16]; done) | (simp [badI, branchI, packA, h7, h12]; done)⟩
  simp only [beq_eq_false_iff_ne, ne_eq] at h12
  refine w_off rfl rfl ?_
  refine w_off rfl rfl ?_
  refine w_off rfl rfl ?_
  refine w_off rfl rfl ?_
  refine w_off rfl rfl ?_
  refine w_off rfl rfl ?_
  refine w_off rfl rfl ?_
  refine w_off rfl rfl ?_
  refine w_off rfl rfl ?_
  refine w_val rfl rfl (op_pure rfl) ?_
  refine w_val rfl rfl (op_pure rfl) ?_
  refine w_nil ?_
  refine then_n ?_
  refine wc_ret ?_
  repeat first | refine then_r ?_ | refine out_r ?_ | refine round_r ?_ | refine cut_r ?_ | refine sc_r ?_
  exact ⟨_, rfl, hK, by first | (simp [badI, branchI, packA, h7, h16]; done) | (simp [badI, branchI, packA, h7, h12, h16]; done) | (simp [badI, branchI, packA, h7, h12]; done)⟩
set_option maxRecDepth 10000 in
set_option maxHeartbeats 8000000 in
theorem indexF_ok {s : St} {v : AV} {l : List InstrL} {gf : FuncId} {caps : List AV} {p : InstrL → Bool} (hok : s.Ok) (hv : Row s.h 2 v (l.map inC)) (hl : l.length ≤ 2097152)
    (hcl : ∀ (s' : St) (y : InstrL), y ∈ l → Keep [] s s' → CallS Try.prog Tt Kt gf (.agg (inC y) :: caps) s' (fun r s'' => Keep [] s' s'' ∧ r = .bool (p y))) : CallS Try.prog Tt Kt 112 [v, .fn gf caps] s (fun r s' => Keep [] s s' ∧ ∃ k : Int, r = .int .i64 k ∧ (0 ≤ k ↔ l.any p = true)) := by
  refine call_of (fn := Try.f112) (nt := 19) Try.func112 rfl rfl rfl ?_
  repeat refine wc_seq ?_
  have hK := Keep.refl hok
  refine wc_region ?_
  refine w_val rfl rfl (op_pure rfl) ?_
  refine w_nil ?_
  refine then_n ?_
  repeat refine wc_seq ?_
  refine wc_region ?_
  refine w_val rfl rfl (op_pure rfl) ?_
  refine w_val rfl rfl (op_len rfl rfl rfl rfl rfl hv.slenF) ?_
  refine w_val rfl rfl (op_pure rfl) ?_
  refine w_nil ?_
  refine then_n ?_
  repeat refine wc_seq ?_
  refine wc_block ?_
  refine wc_loop_at (fun j m z => ∃ k : Nat, j = l.length - k ∧ k ≤ l.length ∧ m = [(0, v), (1, .fn gf caps), (7, .int .i64 (l.length : Nat)), (8, .int .i64 (k : Nat))] ∧ Keep [] s z ∧ ∀ (j : Nat) (y : InstrL), j < k → l[j]? = some y → p y = false) l.length
    [(0, v), (1, .fn gf caps), (7, .int .i64 (l.length : Nat)), (8, .int .i64 ((0 : Nat) : Int))] (Sub.cons rfl (Sub.cons rfl (Sub.cons rfl (Sub.cons rfl (Sub.nil _))))) ⟨0, by simp, by simp, rfl, hK, fun j y h => by omega⟩ ?_
  clear hK
  rintro j m z ⟨k, rfl, hk, rfl, hK, hI⟩
  repeat refine wc_seq ?_
  refine wc_region ?_
  refine w_val rfl rfl (op_pure rfl) ?_
  refine w_nil ?_
  refine then_n ?_
  repeat refine wc_seq ?_
  refine wc_condT rfl (fun h9 => ?_) (fun h9 => ?_)
  · simp only [decide_eq_true_eq] at h9
    refine wc_skip ?_
    refine then_n ?_
    repeat refine wc_seq ?_
    refine wc_block ?_
    repeat refine wc_seq ?_
    refine wc_region ?_
    refine w_val rfl rfl (op_pure rfl) ?_
    refine w_val rfl rfl (op_pure rfl) ?_
    refine w_nil ?_
    refine then_n ?_
    repeat refine wc_seq ?_
    obtain ⟨y, hy⟩ : ∃ y, l[k]? = some y := ⟨_, List.getElem?_eq_getElem (by omega)⟩
    have hvz := hv.keep0 hK
    refine wc_region ?_
    refine w_val rfl rfl (op_pure rfl) ?_
    refine w_val rfl rfl (op_pure rfl) ?_
    refine w_val rfl rfl (op_pure rfl) ?_
    refine w_val rfl rfl (op_idxF rfl rfl (natA_cast _ _) rfl rfl rfl rfl hvz (by omega)) ?_
    refine w_val rfl rfl (op_load (v := .agg (inC y)) rfl rfl (Row.mk_pt hvz hy) rfl) ?_
    refine w_call rfl rfl (op_call rfl rfl rfl rfl) (hcl _ y (List.mem_of_getElem? hy) hK) ?_
    rintro _ z ⟨hk2, rfl⟩
    have hK := hK.two hk2
    refine w_nil ?_
    refine then_n ?_
    refine wc_condT rfl (fun h16 => ?_) (fun h16 => ?_)
    · have hA : l.any p = true := List.any_eq_true.2 ⟨y, List.mem_of_getElem? hy, h16⟩
      repeat refine wc_seq ?_
      refine wc_region ?_
      refine w_val rfl rfl (op_pure rfl) ?_
      refine w_val rfl rfl (op_pure rfl) ?_
      refine w_nil ?_
      refine then_n ?_
      refine wc_ret ?_
      repeat first | refine then_r ?_ | refine out_r ?_ | refine round_r ?_ | refine cut_r ?_ | refine sc_r ?_
      exact ⟨_, rfl, hK, _, rfl, ⟨fun _ => hA, fun _ => by omega⟩⟩
    skip
    refine wc_skip ?_
    refine out_n ?_
    refine then_n ?_
    refine wc_region ?_
    refine w_val rfl rfl (op_add rfl rfl (by unfold In64; omega)) ?_
    refine w_val rfl rfl (op_pure rfl) ?_
    refine w_nil ?_
    exact round_n _ _ (by omega) (Sub.cons rfl (Sub.cons rfl (Sub.cons rfl (Sub.cons rfl (Sub.nil _))))) ⟨k + 1, rfl, by omega, rfl, hK, fun j y2 hj h => (Nat.lt_succ_iff_lt_or_eq.1 hj).elim (fun h1 => hI j y2 h1 h) (fun e => by subst e; rw [hy] at h; cases h; exact h16)⟩
  simp only [decide_eq_false_iff_not] at h9
  obtain rfl : k = l.length := by omega
  refine wc_exit ?_
  repeat first | refine then_x ?_ | refine round_x ?_ | refine cut_x ?_ | refine out_x' (by decide) ?_
  refine out_x ?_
  refine then_n ?_
  repeat refine wc_seq ?_
  refine wc_region ?_
  refine w_val rfl rfl (op_pure rfl) ?_
  refine w_nil ?_
  refine then_n ?_
  refine wc_ret ?_
  repeat first | refine then_r ?_ | refine out_r ?_ | refine round_r ?_ | refine cut_r ?_ | refine sc_r ?_
  have hA : l.any p = false := by
    rw [List.any_eq_false]
    intro y hy
    obtain ⟨j, hj⟩ := List.getElem?_of_mem hy
    rw [hI j y (List.getElem?_eq_some_iff.1 hj).1 hj]
    simp
  exact ⟨_, rfl, hK, _, rfl, ⟨fun h => by omega, fun h => by rw [hA] at h; cases h⟩⟩
set_option maxRecDepth 10000 in
set_option maxHeartbeats 8000000 in
theorem containsF_ok {s : St} {v : AV} {l : List InstrL} {gf : FuncId} {caps : List AV} {p : InstrL → Bool} (hok : s.Ok) (hv : Row s.h 2 v (l.map inC)) (hl : l.length ≤ 2097152)
    (hcl : ∀ (s' : St) (y : InstrL), y ∈ l → Keep [] s s' → CallS Try.prog Tt Kt gf (.agg (inC y) :: caps) s' (fun r s'' => Keep [] s' s'' ∧ r = .bool (p y))) : CallS Try.prog Tt Kt 96 [v, .fn gf caps] s (fun r s' => Keep [] s s' ∧ r = .bool (l.any p)) := by
  refine call_of (fn := Try.f96) (nt := 9) Try.func96 rfl rfl rfl ?_
  repeat refine wc_seq ?_
  refine wc_region ?_
  refine w_val rfl rfl (op_pure rfl) ?_
  refine w_nil ?_
  refine then_n ?_
  repeat refine wc_seq ?_
  refine wc_region ?_
  refine w_val rfl rfl (op_pure rfl) ?_
  refine w_val rfl rfl (op_pure rfl) ?_
  refine w_call rfl rfl (op_call rfl rfl rfl rfl) (indexF_ok hok hv hl hcl) ?_
  rintro _ z ⟨hK, k, rfl, hk⟩
  refine w_val rfl rfl (op_pure rfl) ?_
  refine w_val rfl rfl (op_pure rfl) ?_
  refine w_nil ?_
  refine then_n ?_
  refine wc_ret ?_
  repeat first | refine then_r ?_ | refine out_r ?_ | refine round_r ?_ | refine cut_r ?_ | refine sc_r ?_
  exact ⟨_, rfl, hK, congrArg AV.bool (by rw [Bool.eq_iff_iff, decide_eq_true_iff]; exact hk)⟩
set_option maxRecDepth 10000 in
set_option maxHeartbeats 8000000 in
theorem right_code_ok {s : St} {v : AV} {l : List InstrL} (hok : s.Ok) (hv : Row s.h 2 v (l.map inC)) (hl : l.length ≤ 2097152) : CallS Try.prog Tt Kt 54 [v] s (fun r s' => Keep [] s s' ∧ r = .bool (rightC l)) := by
  refine call_of (fn := Try.f54) (nt := 30) Try.func54 rfl rfl rfl ?_
  repeat refine wc_seq ?_
  have hS := SH.start hok
  refine wc_region ?_
  refine w_val rfl rfl (op_pure rfl) ?_
  refine w_nil ?_
  refine then_n ?_
  repeat refine wc_seq ?_
  refine wc_region ?_
  refine w_val rfl rfl (op_pure rfl) ?_
  refine w_val rfl rfl (op_len rfl rfl rfl rfl rfl hv.slenF) ?_
  refine ws_alloc hS rfl rfl rfl rfl ?_
  rintro p0 z hS hk
  have hS : SH _ [_] z := hS
  have hK := hS.K
  refine ws_storeL 0 hS rfl rfl rfl rfl rfl rfl (by rfl) (Nat.le_of_ble_eq_true rfl) ?_
  rintro z hS
  have hS : SH _ [_] z := hS
  have hK := hS.K
  refine w_nil ?_
  refine then_n ?_
  repeat refine wc_seq ?_
  refine wc_region ?_
  refine w_val rfl rfl (op_loadC 0 hS rfl rfl rfl (Nat.le_of_ble_eq_true rfl) rfl) ?_
  refine w_val rfl rfl (op_pure rfl) ?_
  refine w_val rfl rfl (op_pure rfl) ?_
  refine w_split (i := 8) rfl (fun h8 => ?_) (fun h8 => ?_)
  · simp only [beq_iff_eq] at h8
    refine w_off rfl rfl ?_
    refine w_off rfl rfl ?_
    refine w_off rfl rfl ?_
    refine w_off rfl rfl ?_
    refine w_off rfl rfl ?_
    refine w_off rfl rfl ?_
    refine w_off rfl rfl ?_
    refine w_off rfl rfl ?_
    refine w_off rfl rfl ?_
    refine w_off rfl rfl ?_
    refine w_off rfl rfl ?_
    refine w_off rfl rfl ?_
    refine w_off rfl rfl ?_
    refine w_off rfl rfl ?_
    refine w_off rfl rfl ?_
    refine w_off rfl rfl ?_
    refine w_val rfl rfl (op_pure rfl) ?_
    refine w_nil ?_
    refine then_n ?_
    repeat refine wc_seq ?_
    refine wc_cond_t rfl ?_
    repeat refine wc_seq ?_
    refine wc_region ?_
    refine w_val rfl rfl (op_pure rfl) ?_
    refine w_nil ?_
    refine then_n ?_
    refine wc_ret ?_
    repeat first | refine then_r ?_ | refine out_r ?_ | refine round_r ?_ | refine cut_r ?_ | refine sc_r ?_
    have hnil : l = [] := List.eq_nil_of_length_eq_zero (by omega)
    exact ⟨_, rfl, hK, by rw [hnil]; rfl⟩
  simp only [beq_eq_false_iff_ne, ne_eq] at h8
  have hpos : 0 < l.length := by omega
  obtain ⟨y, hy⟩ : ∃ y, l[l.length - 1]? = some y := ⟨_, List.getElem?_eq_getElem (by omega)⟩
  have hvz := hv.keep0 hK
  have hla : l.getLast? = some y := by rw [List.getLast?_eq_getElem?]; exact hy
  refine w_val rfl rfl (op_pure rfl) ?_
  refine w_val rfl rfl (op_loadC 0 hS rfl rfl rfl (Nat.le_of_ble_eq_true rfl) rfl) ?_
  refine w_val rfl rfl (op_sub rfl rfl (by unfold In64; omega)) ?_
  refine w_val rfl rfl (op_idxF (n := l.length - 1) rfl rfl (natA_pred _ hpos) rfl rfl rfl rfl hvz (by omega)) ?_
  refine w_val rfl rfl (op_fld rfl rfl rfl rfl (by decide) (Row.mk_pt hvz hy) (Nat.le_of_ble_eq_true rfl)) ?_
  refine w_val rfl rfl (op_load rfl rfl ((Row.mk_pt hvz hy).fld _ (Nat.le_of_ble_eq_true rfl)) rfl) ?_
  refine w_val rfl rfl (op_pure rfl) ?_
  refine w_val rfl rfl (op_pure rfl) ?_
  refine w_split (i := 16) rfl (fun h16 => ?_) (fun h16 => ?_)
  · simp only [ne_eq, bne_iff_ne] at h16
    refine w_val rfl rfl (op_pure rfl) ?_
    refine w_val rfl rfl (op_loadC 0 hS rfl rfl rfl (Nat.le_of_ble_eq_true rfl) rfl) ?_
    refine w_val rfl rfl (op_sub rfl rfl (by unfold In64; omega)) ?_
    refine w_val rfl rfl (op_idxF (n := l.length - 1) rfl rfl (natA_pred _ hpos) rfl rfl rfl rfl hvz (by omega)) ?_
    refine w_val rfl rfl (op_fld rfl rfl rfl rfl (by decide) (Row.mk_pt hvz hy) (Nat.le_of_ble_eq_true rfl)) ?_
    refine w_val rfl rfl (op_load rfl rfl ((Row.mk_pt hvz hy).fld _ (Nat.le_of_ble_eq_true rfl)) rfl) ?_
    refine w_val rfl rfl (op_pure rfl) ?_
    refine w_val rfl rfl (op_pure rfl) ?_
    refine w_val rfl rfl (op_pure rfl) ?_
    refine w_nil ?_
    refine then_n ?_
    repeat refine wc_seq ?_
    refine wc_condT rfl (fun h25 => ?_) (fun h25 => ?_)
    · simp only [ne_eq, bne_iff_ne] at h25
      repeat refine wc_seq ?_
      refine wc_region ?_
      refine w_val rfl rfl (op_pure rfl) ?_
      refine w_nil ?_
      refine then_n ?_
      refine wc_ret ?_
      repeat first | refine then_r ?_ | refine out_r ?_ | refine round_r ?_ | refine cut_r ?_ | refine sc_r ?_
      exact ⟨_, rfl, hK, by unfold rightC; rw [hla]; first | (simp [packA, h16, h25]; done) | (simp [packA, h16]; done) | (simp [packA, h25]; done)⟩
    simp only [bne_eq_false_iff_eq] at h25
    refine wc_skip ?_
    refine then_n ?_
    repeat refine wc_seq ?_
    refine wc_region ?_
    refine w_val rfl rfl (op_pure rfl) ?_
    refine w_val rfl rfl (op_pure rfl) ?_
    refine w_call rfl rfl (op_call rfl rfl rfl rfl) (containsF_ok (p := badI l.length) hK.ok (hv.keep0 hK) hl (fun s' y _ hk => rightI_ok hk.ok ((hS.pt 0 rfl).keep0 hk))) ?_
    rintro _ z ⟨hk, rfl⟩
    have hK := hK.two hk
    refine w_val rfl rfl (op_pure rfl) ?_
    refine w_val rfl rfl (op_pure rfl) ?_
    refine w_nil ?_
    refine then_n ?_
    refine wc_ret ?_
    repeat first | refine then_r ?_ | refine out_r ?_ | refine round_r ?_ | refine cut_r ?_ | refine sc_r ?_
    exact ⟨_, rfl, hK, by unfold rightC; rw [hla]; first | (simp [packA, h25]; done) | (simp [packA, h16]; done) | (simp [packA, h25]; done)⟩
  simp only [bne_eq_false_iff_eq] at h16
  refine w_off rfl rfl ?_
  refine w_off rfl rfl ?_
  refine w_off rfl rfl ?_
  refine w_off rfl rfl ?_
  refine w_off rfl rfl ?_
  refine w_off rfl rfl ?_
  refine w_off rfl rfl ?_
  refine w_val rfl rfl (op_pure rfl) ?_
  refine w_val rfl rfl (op_pure rfl) ?_
  refine w_nil ?_
  refine then_n ?_
  repeat refine wc_seq ?_
  refine wc_cond_f rfl ?_
  refine wc_skip ?_
  refine then_n ?_
  repeat refine wc_seq ?_
  refine wc_region ?_
  refine w_val rfl rfl (op_pure rfl) ?_
  refine w_val rfl rfl (op_pure rfl) ?_
  refine w_call rfl rfl (op_call rfl rfl rfl rfl) (containsF_ok (p := badI l.length) hK.ok (hv.keep0 hK) hl (fun s' y _ hk => rightI_ok hk.ok ((hS.pt 0 rfl).keep0 hk))) ?_
  rintro _ z ⟨hk, rfl⟩
  have hK := hK.two hk
  refine w_val rfl rfl (op_pure rfl) ?_
  refine w_val rfl rfl (op_pure rfl) ?_
  refine w_nil ?_
  refine then_n ?_
  refine wc_ret ?_
  repeat first | refine then_r ?_ | refine out_r ?_ | refine round_r ?_ | refine cut_r ?_ | refine sc_r ?_
  exact ⟨_, rfl, hK, by unfold rightC; rw [hla]; first | (simp [packA, h16, h25]; done) | (simp [packA, h16]; done) | (simp [packA, h25]; done)⟩
set_option maxRecDepth 10000 in
set_option maxHeartbeats 8000000 in
theorem right_ref_code_ok {s : St} {v : AV} {l : List InstrL} (hok : s.Ok) (hv : Row s.h 2 v (l.map inC)) (hl : l.length ≤ 2097152) : CallS Try.prog Tt Kt 59 [v] s (fun r s' => Keep [] s s' ∧ r = .bool (rightC l)) := by
  refine call_of (fn := Try.f59) (nt := 54) Try.func59 rfl rfl rfl ?_
  repeat refine wc_seq ?_
  have hS := SH.start hok
  have hK := hS.K
  refine wc_region ?_
  refine w_val rfl rfl (op_pure rfl) ?_
  refine w_nil ?_
  refine then_n ?_
  repeat refine wc_seq ?_
  refine wc_region ?_
  refine w_val rfl rfl (op_pure rfl) ?_
  refine w_val rfl rfl (op_len rfl rfl rfl rfl rfl hv.slenF) ?_
  refine w_val rfl rfl (op_pure rfl) ?_
  refine w_nil ?_
  refine then_n ?_
  repeat refine wc_seq ?_
  refine wc_region ?_
  refine w_val rfl rfl (op_pure rfl) ?_
  refine w_val rfl rfl (op_pure rfl) ?_
  refine w_nil ?_
  refine then_n ?_
  repeat refine wc_seq ?_
  refine wc_condT rfl (fun h9 => ?_) (fun h9 => ?_)
  · simp only [beq_iff_eq] at h9
    repeat refine wc_seq ?_
    refine wc_region ?_
    refine w_val rfl rfl (op_pure rfl) ?_
    refine w_nil ?_
    refine then_n ?_
    refine wc_ret ?_
    repeat first | refine then_r ?_ | refine out_r ?_ | refine round_r ?_ | refine cut_r ?_ | refine sc_r ?_
    have hnil : l = [] := List.eq_nil_of_length_eq_zero (by omega)
    exact ⟨_, rfl, hK, by rw [hnil]; rfl⟩
  simp only [beq_eq_false_iff_ne, ne_eq] at h9
  refine wc_skip ?_
  refine then_n ?_
  repeat refine wc_seq ?_
  refine wc_region ?_
  refine w_val rfl rfl (op_pure rfl) ?_
  refine w_nil ?_
  refine then_n ?_
  repeat refine wc_seq ?_
  refine wc_block ?_
  refine wc_loop_at (fun j m z => ∃ k : Nat, j = l.length - k ∧ k ≤ l.length ∧ m = [(0, v), (3, .int .i64 (l.length : Nat)), (4, .int .i64 (k : Nat))] ∧ SH s [] z ∧ ∀ (j : Nat) (y : InstrL), j < k → l[j]? = some y → badI l.length y = false) l.length
    [(0, v), (3, .int .i64 (l.length : Nat)), (4, .int .i64 ((0 : Nat) : Int))] (Sub.cons rfl (Sub.cons rfl (Sub.cons rfl (Sub.nil _)))) ⟨0, by simp, by simp, rfl, hS, fun j y h => by omega⟩ ?_
  clear hS hK
  rintro j m z ⟨k, rfl, hk, rfl, hS, hI⟩
  have hK := hS.K
  repeat refine wc_seq ?_
  refine wc_region ?_
  refine w_val rfl rfl (op_pure rfl) ?_
  refine w_val rfl rfl (op_pure rfl) ?_
  refine w_val rfl rfl (op_pure rfl) ?_
  refine w_nil ?_
  refine then_n ?_
  repeat refine wc_seq ?_
  refine wc_condT rfl (fun h12 => ?_) (fun h12 => ?_)
  · simp only [decide_eq_true_eq] at h12
    refine wc_skip ?_
    refine then_n ?_
    repeat refine wc_seq ?_
    refine wc_block ?_
    repeat refine wc_seq ?_
    obtain ⟨y, hy⟩ : ∃ y, l[k]? = some y := ⟨_, List.getElem?_eq_getElem (by omega)⟩
    have hvz := hv.keep0 hK
    refine wc_region ?_
    refine w_val rfl rfl (op_pure rfl) ?_
    refine w_val rfl rfl (op_pure rfl) ?_
    refine w_val rfl rfl (op_idxF rfl rfl (natA_cast _ _) rfl rfl rfl rfl hvz (by omega)) ?_
    refine w_val rfl rfl (op_load (v := .agg (inC y)) rfl rfl (Row.mk_pt hvz hy) rfl) ?_
    refine ws_alloc hS rfl rfl rfl rfl ?_
    rintro p0 z hS hk
    have hS : SH _ [_] z := hS
    have hK := hS.K
    refine ws_store 0 hS rfl rfl rfl rfl rfl rfl (by rfl) (Nat.le_of_ble_eq_true rfl) ?_
    rintro z hS
    have hS : SH _ [_] z := hS
    have hK := hS.K
    refine w_nil ?_
    refine then_n ?_
    repeat refine wc_seq ?_
    refine wc_region ?_
    refine w_val rfl rfl (op_fldP rfl rfl rfl rfl (by decide)) ?_
    refine w_val rfl rfl (op_loadC 0 hS rfl rfl rfl (Nat.le_of_ble_eq_true rfl) rfl) ?_
    refine w_val rfl rfl (op_pure rfl) ?_
    refine w_val rfl rfl (op_pure rfl) ?_
    refine w_split (i := 22) rfl (fun h22 => ?_) (fun h22 => ?_)
    · simp only [beq_iff_eq] at h22
      refine w_off rfl rfl ?_
      refine w_off rfl rfl ?_
      refine w_off rfl rfl ?_
      refine w_val rfl rfl (op_pure rfl) ?_
      refine w_val rfl rfl (op_pure rfl) ?_
      refine w_val rfl rfl (op_fldP rfl rfl rfl rfl (by decide)) ?_
      refine w_val rfl rfl (op_loadC 0 hS rfl rfl rfl (Nat.le_of_ble_eq_true rfl) rfl) ?_
      refine w_val rfl rfl (op_pure rfl) ?_
      refine w_val rfl rfl (op_pure rfl) ?_
      refine w_split (i := 31) rfl (fun h31 => ?_) (fun h31 => ?_)
      · simp only [decide_eq_true_eq] at h31
        refine w_off rfl rfl ?_
        refine w_off rfl rfl ?_
        refine w_off rfl rfl ?_
        refine w_off rfl rfl ?_
        refine w_val rfl rfl (op_pure rfl) ?_
        refine w_val rfl rfl (op_pure rfl) ?_
        refine w_nil ?_
        refine then_n ?_
        refine wc_cond_t rfl ?_
        repeat refine wc_seq ?_
        refine wc_region ?_
        refine w_val rfl rfl (op_pure rfl) ?_
        refine w_nil ?_
        refine then_n ?_
        refine wc_ret ?_
        repeat first | refine then_r ?_ | refine out_r ?_ | refine round_r ?_ | refine cut_r ?_ | refine sc_r ?_
        exact ⟨_, rfl, hK, by first
          | (unfold rightC; rw [hla]; simp [packA, hA, h45]; done)
          | (have hB : badI l.length y = true := (by (simp [badI, branchI, h22, h31]; done))
             have hA : l.any (badI l.length) = true := List.any_eq_true.2 ⟨y, List.mem_of_getElem? hy, hB⟩
             unfold rightC
             cases l.getLast? with
             | none => rfl
             | some z => simp [packA, hA])⟩
      simp only [decide_eq_false_iff_not] at h31
      refine w_val rfl rfl (op_fldP rfl rfl rfl rfl (by decide)) ?_
      refine w_val rfl rfl (op_loadC 0 hS rfl rfl rfl (Nat.le_of_ble_eq_true rfl) rfl) ?_
      refine w_val rfl rfl (op_pure rfl) ?_
      refine w_val rfl rfl (op_pure rfl) ?_
      refine w_val rfl rfl (op_pure rfl) ?_
      refine w_val rfl rfl (op_pure rfl) ?_
      refine w_nil ?_
      refine then_n ?_
      refine wc_condT rfl (fun h37 => ?_) (fun h37 => ?_)
      · simp only [decide_eq_true_eq, ge_iff_le] at h37
        repeat refine wc_seq ?_
        refine wc_region ?_
        refine w_val rfl rfl (op_pure rfl) ?_
        refine w_nil ?_
        refine then_n ?_
        refine wc_ret ?_
        repeat first | refine then_r ?_ | refine out_r ?_ | refine round_r ?_ | refine cut_r ?_ | refine sc_r ?_
        exact ⟨_, rfl, hK, by first
          | (unfold rightC; rw [hla]; simp [packA, hA, h45]; done)
          | (have hB : badI l.length y = true := (by (simp [badI, branchI, h22, h31, h37]; done))
             have hA : l.any (badI l.length) = true := List.any_eq_true.2 ⟨y, List.mem_of_getElem? hy, hB⟩
             unfold rightC
             cases l.getLast? with
             | none => rfl
             | some z => simp [packA, hA])⟩
      simp only [decide_eq_false_iff_not, ge_iff_le] at h37
      refine wc_skip ?_
      refine out_n ?_
      refine then_n ?_
      refine wc_region ?_
      refine w_val rfl rfl (op_pure rfl) ?_
      refine w_val rfl rfl (op_add rfl rfl (by unfold In64; omega)) ?_
      refine w_val rfl rfl (op_pure rfl) ?_
      refine w_nil ?_
      have hB : badI l.length y = false := by first | (simp [badI, branchI, h22, h31, h37]; done) | (simp [badI, branchI, h22, h27, h31, h37]; done) | (simp [badI, branchI, h22, h27]; done)
      exact round_n _ _ (by omega) (Sub.cons rfl (Sub.cons rfl (Sub.cons rfl (Sub.nil _)))) ⟨k + 1, rfl, by omega, rfl, hS.sel [] rfl (by decide), fun j y2 hj h => (Nat.lt_succ_iff_lt_or_eq.1 hj).elim (fun h1 => hI j y2 h1 h) (fun e => by subst e; rw [hy] at h; cases h; exact hB)⟩
    simp only [beq_eq_false_iff_ne, ne_eq] at h22
    refine w_val rfl rfl (op_fldP rfl rfl rfl rfl (by decide)) ?_
    refine w_val rfl rfl (op_loadC 0 hS rfl rfl rfl (Nat.le_of_ble_eq_true rfl) rfl) ?_
    refine w_val rfl rfl (op_pure rfl) ?_
    refine w_val rfl rfl (op_pure rfl) ?_
    refine w_val rfl rfl (op_pure rfl) ?_
    refine w_split (i := 27) rfl (fun h27 => ?_) (fun h27 => ?_)
    · simp only [beq_iff_eq] at h27
      refine w_val rfl rfl (op_fldP rfl rfl rfl rfl (by decide)) ?_
      refine w_val rfl rfl (op_loadC 0 hS rfl rfl rfl (Nat.le_of_ble_eq_true rfl) rfl) ?_
      refine w_val rfl rfl (op_pure rfl) ?_
      refine w_val rfl rfl (op_pure rfl) ?_
      refine w_split (i := 31) rfl (fun h31 => ?_) (fun h31 => ?_)
      · simp only [decide_eq_true_eq] at h31
        refine w_off rfl rfl ?_
        refine w_off rfl rfl ?_
        refine w_off rfl rfl ?_
        refine w_off rfl rfl ?_
        refine w_val rfl rfl (op_pure rfl) ?_
        refine w_val rfl rfl (op_pure rfl) ?_
        refine w_nil ?_
        refine then_n ?_
        refine wc_cond_t rfl ?_
        repeat refine wc_seq ?_
        refine wc_region ?_
        refine w_val rfl rfl (op_pure rfl) ?_
        refine w_nil ?_
        refine then_n ?_
        refine wc_ret ?_
        repeat first | refine then_r ?_ | refine out_r ?_ | refine round_r ?_ | refine cut_r ?_ | refine sc_r ?_
        exact ⟨_, rfl, hK, by first
          | (unfold rightC; rw [hla]; simp [packA, hA, h45]; done)
          | (have hB : badI l.length y = true := (by (simp [badI, branchI, h27, h31]; done))
             have hA : l.any (badI l.length) = true := List.any_eq_true.2 ⟨y, List.mem_of_getElem? hy, hB⟩
             unfold rightC
             cases l.getLast? with
             | none => rfl
             | some z => simp [packA, hA])⟩
      simp only [decide_eq_false_iff_not] at h31
      refine w_val rfl rfl (op_fldP rfl rfl rfl rfl (by decide)) ?_
      refine w_val rfl rfl (op_loadC 0 hS rfl rfl rfl (Nat.le_of_ble_eq_true rfl) rfl) ?_
      refine w_val rfl rfl (op_pure rfl) ?_
      refine w_val rfl rfl (op_pure rfl) ?_
      refine w_val rfl rfl (op_pure rfl) ?_
      refine w_val rfl rfl (op_pure rfl) ?_
      refine w_nil ?_
      refine then_n ?_
      refine wc_condT rfl (fun h37 => ?_) (fun h37 => ?_)
      · simp only [decide_eq_true_eq, ge_iff_le] at h37
        repeat refine wc_seq ?_
        refine wc_region ?_
        refine w_val rfl rfl (op_pure rfl) ?_
        refine w_nil ?_
        refine then_n ?_
        refine wc_ret ?_
        repeat first | refine then_r ?_ | refine out_r ?_ | refine round_r ?_ | refine cut_r ?_ | refine sc_r ?_
        exact ⟨_, rfl, hK, by first
          | (unfold rightC; rw [hla]; simp [packA, hA, h45]; done)
          | (have hB : badI l.length y = true := (by (simp [badI, branchI, h27, h31, h37]; done))
             have hA : l.any (badI l.length) = true := List.any_eq_true.2 ⟨y, List.mem_of_getElem? hy, hB⟩
             unfold rightC
             cases l.getLast? with
             | none => rfl
             | some z => simp [packA, hA])⟩
      simp only [decide_eq_false_iff_not, ge_iff_le] at h37
      refine wc_skip ?_
      refine out_n ?_
      refine then_n ?_
      refine wc_region ?_
      refine w_val rfl rfl (op_pure rfl) ?_
      refine w_val rfl rfl (op_add rfl rfl (by unfold In64; omega)) ?_
      refine w_val rfl rfl (op_pure rfl) ?_
      refine w_nil ?_
      have hB : badI l.length y = false := by first | (simp [badI, branchI, h31, h37]; done) | (simp [badI, branchI, h22, h27, h31, h37]; done) | (simp [badI, branchI, h22, h27]; done)
      exact round_n _ _ (by omega) (Sub.cons rfl (Sub.cons rfl (Sub.cons rfl (Sub.nil _)))) ⟨k + 1, rfl, by omega, rfl, hS.sel [] rfl (by decide), fun j y2 hj h => (Nat.lt_succ_iff_lt_or_eq.1 hj).elim (fun h1 => hI j y2 h1 h) (fun e => by subst e; rw [hy] at h; cases h; exact hB)⟩
    simp only [beq_eq_false_iff_ne, ne_eq] at h27
    refine w_off rfl rfl ?_
    refine w_off rfl rfl ?_
    refine w_off rfl rfl ?_
    refine w_off rfl rfl ?_
    refine w_off rfl rfl ?_
    refine w_off rfl rfl ?_
    refine w_off rfl rfl ?_
    refine w_off rfl rfl ?_
    refine w_off rfl rfl ?_
    refine w_val rfl rfl (op_pure rfl) ?_
    refine w_nil ?_
    refine then_n ?_
    refine wc_cond_f rfl ?_
    refine wc_skip ?_
    refine out_n ?_
    refine then_n ?_
    refine wc_region ?_
    refine w_val rfl rfl (op_pure rfl) ?_
    refine w_val rfl rfl (op_add rfl rfl (by unfold In64; omega)) ?_
    refine w_val rfl rfl (op_pure rfl) ?_
    refine w_nil ?_
    have hB : badI l.length y = false := by first | (simp [badI, branchI, h22, h31, h37]; done) | (simp [badI, branchI, h22, h27, h31, h37]; done) | (simp [badI, branchI, h22, h27]; done)
    exact round_n _ _ (by omega) (Sub.cons rfl (Sub.cons rfl (Sub.cons rfl (Sub.nil _)))) ⟨k + 1, rfl, by omega, rfl, hS.sel [] rfl (by decide), fun j y2 hj h => (Nat.lt_succ_iff_lt_or_eq.1 hj).elim (fun h1 => hI j y2 h1 h) (fun e => by subst e; rw [hy] at h; cases h; exact hB)⟩
  simp only [decide_eq_false_iff_not] at h12
  obtain rfl : k = l.length := by omega
  have hA : l.any (badI l.length) = false := by
    rw [List.any_eq_false]
    intro y hy
    obtain ⟨j, hj⟩ := List.getElem?_of_mem hy
    rw [hI j y (List.getElem?_eq_some_iff.1 hj).1 hj]
    simp
  have hpos : 0 < l.length := by omega
  obtain ⟨y, hy⟩ : ∃ y, l[l.length - 1]? = some y := ⟨_, List.getElem?_eq_getElem (by omega)⟩
  have hvz := hv.keep0 hK
  have hla : l.getLast? = some y := by rw [List.getLast?_eq_getElem?]; exact hy
  refine wc_exit ?_
  repeat first | refine then_x ?_ | refine round_x ?_ | refine cut_x ?_ | refine out_x' (by decide) ?_
  refine out_x ?_
  refine then_n ?_
  repeat refine wc_seq ?_
  refine wc_region ?_
  refine w_val rfl rfl (op_pure rfl) ?_
  refine w_val rfl rfl (op_pure rfl) ?_
  refine w_val rfl rfl (op_sub rfl rfl (by unfold In64; omega)) ?_
  refine w_val rfl rfl (op_idxF (n := l.length - 1) rfl rfl (natA_pred _ hpos) rfl rfl rfl rfl hvz (by omega)) ?_
  refine w_val rfl rfl (op_fld rfl rfl rfl rfl (by decide) (Row.mk_pt hvz hy) (Nat.le_of_ble_eq_true rfl)) ?_
  refine w_val rfl rfl (op_load rfl rfl ((Row.mk_pt hvz hy).fld _ (Nat.le_of_ble_eq_true rfl)) rfl) ?_
  refine w_val rfl rfl (op_pure rfl) ?_
  refine w_val rfl rfl (op_pure rfl) ?_
  refine w_split (i := 45) rfl (fun h45 => ?_) (fun h45 => ?_)
  · simp only [beq_iff_eq] at h45
    refine w_off rfl rfl ?_
    refine w_off rfl rfl ?_
    refine w_off rfl rfl ?_
    refine w_off rfl rfl ?_
    refine w_off rfl rfl ?_
    refine w_off rfl rfl ?_
    refine w_off rfl rfl ?_
    refine w_val rfl rfl (op_pure rfl) ?_
    refine w_val rfl rfl (op_pure rfl) ?_
    refine w_nil ?_
    refine then_n ?_
    refine wc_ret ?_
    repeat first | refine then_r ?_ | refine out_r ?_ | refine round_r ?_ | refine cut_r ?_ | refine sc_r ?_
    exact ⟨_, rfl, hK, by first
      | (unfold rightC; rw [hla]; simp [packA, hA, h45]; done)
      | (have hB : badI l.length y = true := (by first | (simp [badI, branchI, h22, h31]; done) | (simp [badI, branchI, h22, h31, h37]; done) | (simp [badI, branchI, h22, h27, h31]; done) | (simp [badI, branchI, h22, h27, h31, h37]; done))
         have hA : l.any (badI l.length) = true := List.any_eq_true.2 ⟨y, List.mem_of_getElem? hy, hB⟩
         unfold rightC
         cases l.getLast? with
         | none => rfl
         | some z => simp [packA, hA])⟩
  simp only [beq_eq_false_iff_ne, ne_eq] at h45
  refine w_val rfl rfl (op_pure rfl) ?_
  refine w_val rfl rfl (op_pure rfl) ?_
  refine w_val rfl rfl (op_sub rfl rfl (by unfold In64; omega)) ?_
  refine w_val rfl rfl (op_idxF (n := l.length - 1) rfl rfl (natA_pred _ hpos) rfl rfl rfl rfl hvz (by omega)) ?_
  refine w_val rfl rfl (op_fld rfl rfl rfl rfl (by decide) (Row.mk_pt hvz hy) (Nat.le_of_ble_eq_true rfl)) ?_
  refine w_val rfl rfl (op_load rfl rfl ((Row.mk_pt hvz hy).fld _ (Nat.le_of_ble_eq_true rfl)) rfl) ?_
  refine w_val rfl rfl (op_pure rfl) ?_
  refine w_val rfl rfl (op_pure rfl) ?_
  refine w_val rfl rfl (op_pure rfl) ?_
  refine w_nil ?_
  refine then_n ?_
  refine wc_ret ?_
  repeat first | refine then_r ?_ | refine out_r ?_ | refine round_r ?_ | refine cut_r ?_ | refine sc_r ?_
  exact ⟨_, rfl, hK, by first
    | (unfold rightC; rw [hla]; simp [packA, hA, h45]; done)
    | (have hB : badI l.length y = true := (by first | (simp [badI, branchI, h22, h31]; done) | (simp [badI, branchI, h22, h31, h37]; done) | (simp [badI, branchI, h22, h27, h31]; done) | (simp [badI, branchI, h22, h27, h31, h37]; done))
       have hA : l.any (badI l.length) = true := List.any_eq_true.2 ⟨y, List.mem_of_getElem? hy, hB⟩
       unfold rightC
       cases l.getLast? with
       | none => rfl
       | some z => simp [packA, hA])⟩
end Go.Ab
/- Comes, both ways. -/
namespace Go.Ab
open Go.Proofs
theorem step_nop {l : List InstrL} {b : Nat} {y : InstrL} (hy : l[b]? = some y) (h : y.op = 42) : stepC l b = some (b + 1) := by
  unfold stepC; rw [hy]; simp [h]
theorem step_jump {l : List InstrL} {b c : Nat} {y : InstrL} (hy : l[b]? = some y) (_h : ¬ y.op = 42) (h2 : y.op = 43) (hc : y.a = (c : Int)) : stepC l b = some c := by
  unfold stepC; rw [hy]; simp [h2, hc]
theorem step_stop {l : List InstrL} {b : Nat} {y : InstrL} (hy : l[b]? = some y) (h : ¬ y.op = 42) (h2 : ¬ y.op = 43) : stepC l b = none := by
  unfold stepC; rw [hy]; simp [h, h2]
set_option maxRecDepth 10000 in
set_option maxHeartbeats 8000000 in
theorem comes_ok {s : St} {v : AV} {l : List InstrL} {a : Nat} (hok : s.Ok) (hv : Row s.h 2 v (l.map inC)) (hl : l.length ≤ 2097152) (hr : rightC l = true) (ha : a < l.length) : CallS Try.prog Tt Kt 57 [v, .int .i64 (a : Nat)] s (fun r s' => Keep [] s s' ∧ r = .int .i64 (comesN l a : Nat)) := by
  refine call_of (fn := Try.f57) (nt := 34) Try.func57 rfl rfl rfl ?_
  repeat refine wc_seq ?_
  have hS := SH.start hok
  have hK := hS.K
  refine wc_region ?_
  refine w_val rfl rfl (op_pure rfl) ?_
  refine w_nil ?_
  refine then_n ?_
  refine wc_scopeG ?_
  repeat refine wc_seq ?_
  refine wc_region ?_
  refine w_val rfl rfl (op_pure rfl) ?_
  refine w_val rfl rfl (op_pure rfl) ?_
  refine w_val rfl rfl (op_pure rfl) ?_
  refine w_nil ?_
  refine then_n ?_
  refine wc_goto_at (fun jj m z => ∃ (k b : Nat), jj = l.length + 2 - k ∧ k ≤ l.length + 1 ∧ m = [(0, v), (1, .int .i64 (a : Nat)), (5, .int .i64 (b : Nat)), (6, .int .i64 (k : Nat))] ∧ SH s [] z ∧ iterC l a k = some b) (l.length + 2) [(0, v), (1, .int .i64 (a : Nat)), (5, .int .i64 (a : Nat)), (6, .int .i64 ((0 : Nat) : Int))] (Sub.cons rfl (Sub.cons rfl (Sub.cons rfl (Sub.cons rfl (Sub.nil _))))) ⟨0, a, by simp, by omega, rfl, hS, rfl⟩ rfl ?_
  clear hS hK
  rintro jj m z ⟨k, b, rfl, hk, rfl, hS, hI⟩
  have hK := hS.K
  have hvz := hv.keep0 hK
  have hb := iter_in hr ha hI
  obtain ⟨y, hy⟩ : ∃ y, l[b]? = some y := ⟨_, List.getElem?_eq_getElem hb⟩
  repeat refine wc_seq ?_
  refine wc_region ?_
  refine w_val rfl rfl (op_pure rfl) ?_
  refine w_val rfl rfl (op_pure rfl) ?_
  refine w_val rfl rfl (op_idxF rfl rfl (natA_cast _ _) rfl rfl rfl rfl hvz (by omega)) ?_
  refine w_val rfl rfl (op_load (v := .agg (inC y)) rfl rfl (Row.mk_pt hvz hy) rfl) ?_
  refine ws_alloc hS rfl rfl rfl rfl ?_
  rintro p0 z hS hk
  have hS : SH _ [_] z := hS
  have hK := hS.K
  refine ws_store 0 hS rfl rfl rfl rfl rfl rfl (by rfl) (Nat.le_of_ble_eq_true rfl) ?_
  rintro z hS
  have hS : SH _ [_] z := hS
  have hK := hS.K
  refine w_nil ?_
  refine then_n ?_
  repeat refine wc_seq ?_
  refine wc_block ?_
  repeat refine wc_seq ?_
  refine wc_region ?_
  refine w_val rfl rfl (op_pure rfl) ?_
  refine w_val rfl rfl (op_pure rfl) ?_
  refine w_val rfl rfl (op_len rfl rfl rfl rfl rfl hv.slenF) ?_
  refine w_val rfl rfl (op_pure rfl) ?_
  refine w_val rfl rfl (op_pure rfl) ?_
  refine w_nil ?_
  refine then_n ?_
  refine wc_condT rfl (fun h14 => ?_) (fun h14 => ?_)
  · simp only [decide_eq_true_eq, gt_iff_lt] at h14
    repeat refine wc_seq ?_
    refine wc_region ?_
    refine w_val rfl rfl (op_pure rfl) ?_
    refine w_val rfl rfl (op_pure rfl) ?_
    refine w_nil ?_
    refine then_n ?_
    refine wc_ret ?_
    repeat first | refine then_r ?_ | refine out_r ?_ | refine round_r ?_ | refine cut_r ?_ | refine sc_r ?_ | refine gt_r ?_ | refine scg_r ?_
    exact ⟨_, rfl, hK, by rw [comesN_never (never_long hr ha (by omega) hI)]; rfl⟩
  simp only [decide_eq_false_iff_not, gt_iff_lt] at h14
  repeat refine wc_seq ?_
  refine wc_region ?_
  refine w_val rfl rfl (op_fldP rfl rfl rfl rfl (by decide)) ?_
  refine w_val rfl rfl (op_loadC 0 hS rfl rfl rfl (Nat.le_of_ble_eq_true rfl) rfl) ?_
  refine w_val rfl rfl (op_pure rfl) ?_
  refine w_val rfl rfl (op_pure rfl) ?_
  refine w_nil ?_
  refine then_n ?_
  refine wc_condT rfl (fun h20 => ?_) (fun h20 => ?_)
  · simp only [beq_iff_eq] at h20
    refine wc_region ?_
    refine w_val rfl rfl (op_pure rfl) ?_
    refine w_val rfl rfl (op_add rfl rfl (by unfold In64; omega)) ?_
    refine w_val rfl rfl (op_pure rfl) ?_
    refine w_nil ?_
    refine out_n ?_
    refine then_n ?_
    repeat refine wc_seq ?_
    refine wc_region ?_
    refine w_val rfl rfl (op_pure rfl) ?_
    refine w_val rfl rfl (op_add rfl rfl (by unfold In64; omega)) ?_
    refine w_val rfl rfl (op_pure rfl) ?_
    refine w_nil ?_
    refine then_n ?_
    refine wc_goto ?_
    repeat first | refine then_g ?_ | refine out_g ?_
    exact gt_g _ _ (by omega) (Sub.cons rfl (Sub.cons rfl (Sub.cons rfl (Sub.cons rfl (Sub.nil _))))) ⟨k + 1, b + 1, rfl, by omega, rfl, hS.sel [] rfl (by decide), iter_next hI hy (step_nop hy h20)⟩
  simp only [beq_eq_false_iff_ne, ne_eq] at h20
  repeat refine wc_seq ?_
  refine wc_region ?_
  refine w_val rfl rfl (op_fldP rfl rfl rfl rfl (by decide)) ?_
  refine w_val rfl rfl (op_loadC 0 hS rfl rfl rfl (Nat.le_of_ble_eq_true rfl) rfl) ?_
  refine w_val rfl rfl (op_pure rfl) ?_
  refine w_val rfl rfl (op_pure rfl) ?_
  refine w_nil ?_
  refine then_n ?_
  refine wc_condT rfl (fun h26 => ?_) (fun h26 => ?_)
  · simp only [beq_iff_eq] at h26
    obtain ⟨hy0, hyn⟩ := rightC_jump hr (List.mem_of_getElem? hy) (.inl h26)
    obtain ⟨yo, ya⟩ := y
    obtain ⟨c, hc⟩ : ∃ c : Nat, ya = c := ⟨ya.toNat, by simp only at hy0; omega⟩
    subst hc
    refine wc_region ?_
    refine w_val rfl rfl (op_fldP rfl rfl rfl rfl (by decide)) ?_
    refine w_val rfl rfl (op_loadC 0 hS rfl rfl rfl (Nat.le_of_ble_eq_true rfl) rfl) ?_
    refine w_val rfl rfl (op_pure rfl) ?_
    refine w_nil ?_
    refine out_n ?_
    refine then_n ?_
    repeat refine wc_seq ?_
    refine wc_region ?_
    refine w_val rfl rfl (op_pure rfl) ?_
    refine w_val rfl rfl (op_add rfl rfl (by unfold In64; omega)) ?_
    refine w_val rfl rfl (op_pure rfl) ?_
    refine w_nil ?_
    refine then_n ?_
    refine wc_goto ?_
    repeat first | refine then_g ?_ | refine out_g ?_
    exact gt_g _ _ (by omega) (Sub.cons rfl (Sub.cons rfl (Sub.cons rfl (Sub.cons rfl (Sub.nil _))))) ⟨k + 1, c, rfl, by omega, rfl, hS.sel [] rfl (by decide), iter_next hI hy (step_jump hy h20 h26 rfl)⟩
  simp only [beq_eq_false_iff_ne, ne_eq] at h26
  repeat refine wc_seq ?_
  refine wc_region ?_
  refine w_val rfl rfl (op_pure rfl) ?_
  refine w_val rfl rfl (op_pure rfl) ?_
  refine w_nil ?_
  refine then_n ?_
  refine wc_ret ?_
  repeat first | refine then_r ?_ | refine out_r ?_ | refine round_r ?_ | refine cut_r ?_ | refine sc_r ?_ | refine gt_r ?_ | refine scg_r ?_
  exact ⟨_, rfl, hK, by rw [comesN_stop ⟨k, hI, step_stop hy h20 h26⟩]; rfl⟩
set_option maxRecDepth 10000 in
set_option maxHeartbeats 8000000 in
theorem comes_ref_ok {s : St} {v : AV} {l : List InstrL} {a : Int} (hok : s.Ok) (hv : Row s.h 2 v (l.map inC)) (hl : l.length ≤ 2097152) : CallS Try.prog Tt Kt 22 [v, .int .i64 a] s (fun r s' => Keep [] s s' ∧ r = .int .i64 (comesF l a)) := by
  refine call_of (fn := Try.f22) (nt := 50) Try.func22 rfl rfl rfl ?_
  repeat refine wc_seq ?_
  have hS := SH.start hok
  have hK := hS.K
  refine wc_region ?_
  refine w_val rfl rfl (op_pure rfl) ?_
  refine w_nil ?_
  refine then_n ?_
  repeat refine wc_seq ?_
  refine wc_region ?_
  refine w_val rfl rfl (op_pure rfl) ?_
  refine w_call rfl rfl (op_call rfl rfl rfl rfl) (right_ref_code_ok hK.ok hv hl) ?_
  rintro _ z ⟨hk, rfl⟩
  have hS := hS.mov hk
  have hK := hS.K
  refine w_val rfl rfl (op_pure rfl) ?_
  refine w_val rfl rfl (op_pure rfl) ?_
  refine w_split (i := 10) rfl (fun h10 => ?_) (fun h10 => ?_)
  · simp only [Bool.not_eq_true'] at h10
    refine w_off rfl rfl ?_
    refine w_off rfl rfl ?_
    refine w_val rfl rfl (op_pure rfl) ?_
    refine w_val rfl rfl (op_pure rfl) ?_
    refine w_off rfl rfl ?_
    refine w_off rfl rfl ?_
    refine w_off rfl rfl ?_
    refine w_off rfl rfl ?_
    refine w_val rfl rfl (op_pure rfl) ?_
    refine w_nil ?_
    refine then_n ?_
    repeat refine wc_seq ?_
    refine wc_cond_t rfl ?_
    repeat refine wc_seq ?_
    refine wc_region ?_
    refine w_val rfl rfl (op_pure rfl) ?_
    refine w_nil ?_
    refine then_n ?_
    refine wc_ret ?_
    repeat first | refine then_r ?_ | refine out_r ?_ | refine round_r ?_ | refine cut_r ?_ | refine sc_r ?_
    exact ⟨_, rfl, hK, by rw [comesF_no (.inl (by assumption))]; rfl⟩
  simp only [Bool.not_eq_false'] at h10
  refine w_val rfl rfl (op_pure rfl) ?_
  refine w_val rfl rfl (op_pure rfl) ?_
  refine w_val rfl rfl (op_pure rfl) ?_
  refine w_val rfl rfl (op_pure rfl) ?_
  refine w_split (i := 14) rfl (fun h14 => ?_) (fun h14 => ?_)
  · simp only [decide_eq_true_eq] at h14
    refine w_off rfl rfl ?_
    refine w_off rfl rfl ?_
    refine w_off rfl rfl ?_
    refine w_off rfl rfl ?_
    refine w_val rfl rfl (op_pure rfl) ?_
    refine w_nil ?_
    refine then_n ?_
    repeat refine wc_seq ?_
    refine wc_cond_t rfl ?_
    repeat refine wc_seq ?_
    refine wc_region ?_
    refine w_val rfl rfl (op_pure rfl) ?_
    refine w_nil ?_
    refine then_n ?_
    refine wc_ret ?_
    repeat first | refine then_r ?_ | refine out_r ?_ | refine round_r ?_ | refine cut_r ?_ | refine sc_r ?_
    exact ⟨_, rfl, hK, by rw [comesF_no (by (right; omega))]; rfl⟩
  simp only [decide_eq_false_iff_not] at h14
  refine w_val rfl rfl (op_pure rfl) ?_
  refine w_val rfl rfl (op_pure rfl) ?_
  refine w_val rfl rfl (op_len rfl rfl rfl rfl rfl hv.slenF) ?_
  refine w_val rfl rfl (op_pure rfl) ?_
  refine w_val rfl rfl (op_pure rfl) ?_
  refine w_nil ?_
  refine then_n ?_
  repeat refine wc_seq ?_
  refine wc_condT rfl (fun h19 => ?_) (fun h19 => ?_)
  · simp only [decide_eq_true_eq, ge_iff_le] at h19
    repeat refine wc_seq ?_
    refine wc_region ?_
    refine w_val rfl rfl (op_pure rfl) ?_
    refine w_nil ?_
    refine then_n ?_
    refine wc_ret ?_
    repeat first | refine then_r ?_ | refine out_r ?_ | refine round_r ?_ | refine cut_r ?_ | refine sc_r ?_
    exact ⟨_, rfl, hK, by rw [comesF_no (by (right; omega))]; rfl⟩
  simp only [decide_eq_false_iff_not, ge_iff_le] at h19
  refine wc_skip ?_
  refine then_n ?_
  repeat refine wc_seq ?_
  obtain ⟨a, rfl⟩ : ∃ b : Nat, a = b := ⟨a.toNat, by omega⟩
  have ha : a < l.length := by omega
  refine wc_region ?_
  refine w_val rfl rfl (op_pure rfl) ?_
  refine w_val rfl rfl (op_len rfl rfl rfl rfl rfl hv.slenF) ?_
  refine ws_mk hS rfl rfl rfl rfl rfl rfl rfl rfl rfl (by decide) rfl (by simp only [maxBytes]; omega) (by omega) ?_
  rintro sv z hS hne hk
  have hS : SH s [rowC sv 1 ((List.replicate l.length false).map bC)] z := by rw [← rep_bC]; exact hS
  have hK := hS.K
  refine w_val rfl rfl (op_pure rfl) ?_
  refine w_nil ?_
  refine then_n ?_
  repeat refine wc_seq ?_
  refine wc_region ?_
  refine w_val rfl rfl (op_pure rfl) ?_
  refine w_val rfl rfl (op_pure rfl) ?_
  refine w_nil ?_
  refine then_n ?_
  repeat refine wc_seq ?_
  refine wc_block ?_
  refine wc_loop_at (fun jj m z => ∃ (j b : Nat) (L : List Bool), jj = cntF L ∧ m = [(0, v), (1, .int .i64 (a : Nat)), (5, sv), (6, .int .i64 (b : Nat))] ∧ SH s [rowC sv 1 (L.map bC)] z ∧ L.length = l.length ∧ iterC l a j = some b ∧ ∀ c, Tk L c ↔ ∃ i, i < j ∧ iterC l a i = some c) (cntF (List.replicate l.length false))
    [(0, v), (1, .int .i64 (a : Nat)), (5, sv), (6, .int .i64 (a : Nat))] (Sub.cons rfl (Sub.cons rfl (Sub.cons rfl (Sub.cons rfl (Sub.nil _))))) ⟨0, a, _, rfl, rfl, hS, by simp, rfl, fun c => ⟨fun h => (by have := List.mem_of_getElem? h; rw [List.mem_replicate] at this; exact Bool.noConfusion this.2), fun ⟨i, h, _⟩ => by omega⟩⟩ ?_
  clear hS hK
  rintro jj m z ⟨j, b, L, rfl, rfl, hS, hL, hI, hT⟩
  have hK := hS.K
  have hr := h10
  have hb := iter_in hr ha hI
  have hvz := hv.keep0 hK
  obtain ⟨y, hy⟩ : ∃ y, l[b]? = some y := ⟨_, List.getElem?_eq_getElem hb⟩
  obtain ⟨bb, hbb⟩ : ∃ y, L[b]? = some y := ⟨_, List.getElem?_eq_getElem (by omega)⟩
  repeat refine wc_seq ?_
  refine wc_region ?_
  refine w_val rfl rfl (op_pure rfl) ?_
  refine w_val rfl rfl (op_pure rfl) ?_
  refine w_val rfl rfl (op_idxF rfl rfl (natA_cast _ _) rfl rfl rfl rfl (hS.row 0 rfl) (by omega)) ?_
  refine w_val rfl rfl (op_load rfl rfl (Row.mk_pt (hS.row 0 rfl) (by assumption)) rfl) ?_
  refine w_val rfl rfl (op_pure rfl) ?_
  refine w_nil ?_
  refine then_n ?_
  repeat refine wc_seq ?_
  refine wc_condT rfl (fun h28 => ?_) (fun h28 => ?_)
  · simp only [Bool.not_eq_true'] at h28
    subst h28
    refine wc_skip ?_
    refine then_n ?_
    refine wc_block ?_
    repeat refine wc_seq ?_
    refine wc_region ?_
    refine w_val rfl rfl (op_pure rfl) ?_
    refine w_val rfl rfl (op_pure rfl) ?_
    refine w_val rfl rfl (op_idxF rfl rfl (natA_cast _ _) rfl rfl rfl rfl (hS.row 0 rfl) (by omega)) ?_
    refine ws_storeE 0 hS rfl rfl rfl rfl rfl rfl rfl (by rfl) (by (simp; omega)) ?_
    rintro z hS
    have hS : SH _ [_] z := hS
    have hK := hS.K
    refine w_nil ?_
    refine then_n ?_
    repeat refine wc_seq ?_
    have hvz := hv.keep0 hK
    refine wc_region ?_
    refine w_val rfl rfl (op_pure rfl) ?_
    refine w_val rfl rfl (op_pure rfl) ?_
    refine w_val rfl rfl (op_idxF rfl rfl (natA_cast _ _) rfl rfl rfl rfl hvz (by omega)) ?_
    refine w_val rfl rfl (op_fld rfl rfl rfl rfl (by decide) (Row.mk_pt hvz hy) (Nat.le_of_ble_eq_true rfl)) ?_
    refine w_val rfl rfl (op_load rfl rfl ((Row.mk_pt hvz hy).fld _ (Nat.le_of_ble_eq_true rfl)) rfl) ?_
    refine w_nil ?_
    refine then_n ?_
    refine wc_block ?_
    repeat refine wc_seq ?_
    refine wc_region ?_
    refine w_val rfl rfl (op_pure rfl) ?_
    refine w_val rfl rfl (op_pure rfl) ?_
    refine w_nil ?_
    refine then_n ?_
    refine wc_condT rfl (fun h38 => ?_) (fun h38 => ?_)
    · simp only [beq_iff_eq] at h38
      refine wc_region ?_
      refine w_val rfl rfl (op_pure rfl) ?_
      refine w_val rfl rfl (op_add rfl rfl (by unfold In64; omega)) ?_
      refine w_val rfl rfl (op_pure rfl) ?_
      refine w_nil ?_
      refine out_n ?_
      refine out_n ?_
      have hS : SH s [rowC sv 1 ((L.set b true).map bC)] z := by rw [List.map_set]; exact hS
      exact round_n _ _ (by have := cntF_set hbb; omega) (Sub.cons rfl (Sub.cons rfl (Sub.cons rfl (Sub.cons rfl (Sub.nil _))))) ⟨j + 1, b + 1, L.set b true, rfl, rfl, hS, by rw [List.length_set]; exact hL, iter_next hI hy (step_nop hy h38), fun c => by
        rw [Tk_set (by omega), hT]
        constructor
        · rintro (rfl | ⟨i, h1, h2⟩)
          · exact ⟨j, by omega, hI⟩
          · exact ⟨i, by omega, h2⟩
        · rintro ⟨i, h1, h2⟩
          rcases Nat.lt_succ_iff_lt_or_eq.1 h1 with h1 | rfl
          · exact .inr ⟨i, h1, h2⟩
          · rw [hI] at h2; cases h2; exact .inl rfl⟩
    simp only [beq_eq_false_iff_ne, ne_eq] at h38
    repeat refine wc_seq ?_
    refine wc_region ?_
    refine w_val rfl rfl (op_pure rfl) ?_
    refine w_val rfl rfl (op_pure rfl) ?_
    refine w_nil ?_
    refine then_n ?_
    refine wc_condT rfl (fun h42 => ?_) (fun h42 => ?_)
    · simp only [beq_iff_eq] at h42
      obtain ⟨hy0, hyn⟩ := rightC_jump hr (List.mem_of_getElem? hy) (.inl h42)
      obtain ⟨c, hc⟩ : ∃ c : Nat, y.a = c := ⟨y.a.toNat, by omega⟩
      refine wc_region ?_
      refine w_val rfl rfl (op_pure rfl) ?_
      refine w_val rfl rfl (op_pure rfl) ?_
      refine w_val rfl rfl (op_idxF rfl rfl (natA_cast _ _) rfl rfl rfl rfl hvz (by omega)) ?_
      refine w_val rfl rfl (op_fld rfl rfl rfl rfl (by decide) (Row.mk_pt hvz hy) (Nat.le_of_ble_eq_true rfl)) ?_
      refine w_val rfl rfl (op_load (v := .int .i64 (c : Nat)) rfl rfl ((Row.mk_pt hvz hy).fld 1 (Nat.le_of_ble_eq_true rfl)) (by rw [← hc]; rfl)) ?_
      refine w_val rfl rfl (op_pure rfl) ?_
      refine w_nil ?_
      refine out_n ?_
      refine out_n ?_
      have hS : SH s [rowC sv 1 ((L.set b true).map bC)] z := by rw [List.map_set]; exact hS
      exact round_n _ _ (by have := cntF_set hbb; omega) (Sub.cons rfl (Sub.cons rfl (Sub.cons rfl (Sub.cons rfl (Sub.nil _))))) ⟨j + 1, c, L.set b true, rfl, rfl, hS, by rw [List.length_set]; exact hL, iter_next hI hy (step_jump hy h38 h42 hc), fun c => by
        rw [Tk_set (by omega), hT]
        constructor
        · rintro (rfl | ⟨i, h1, h2⟩)
          · exact ⟨j, by omega, hI⟩
          · exact ⟨i, by omega, h2⟩
        · rintro ⟨i, h1, h2⟩
          rcases Nat.lt_succ_iff_lt_or_eq.1 h1 with h1 | rfl
          · exact .inr ⟨i, h1, h2⟩
          · rw [hI] at h2; cases h2; exact .inl rfl⟩
    simp only [beq_eq_false_iff_ne, ne_eq] at h42
    repeat refine wc_seq ?_
    refine wc_region ?_
    refine w_val rfl rfl (op_pure rfl) ?_
    refine w_val rfl rfl (op_pure rfl) ?_
    refine w_nil ?_
    refine then_n ?_
    refine wc_ret ?_
    repeat first | refine then_r ?_ | refine out_r ?_ | refine round_r ?_ | refine cut_r ?_ | refine sc_r ?_
    exact ⟨_, rfl, hK, by rw [comesF_yes hr ha, comesN_stop ⟨j, hI, step_stop hy h38 h42⟩]; rfl⟩
  simp only [Bool.not_eq_false'] at h28
  subst h28
  obtain ⟨i, hi, he⟩ := (hT b).1 hbb
  have hN := comesN_never (never hi hI (he.trans hI.symm))
  refine wc_exit ?_
  repeat first | refine then_x ?_ | refine round_x ?_ | refine cut_x ?_ | refine out_x' (by decide) ?_
  refine out_x ?_
  refine then_n ?_
  repeat refine wc_seq ?_
  refine wc_region ?_
  refine w_val rfl rfl (op_pure rfl) ?_
  refine w_val rfl rfl (op_pure rfl) ?_
  refine w_nil ?_
  refine then_n ?_
  refine wc_ret ?_
  repeat first | refine then_r ?_ | refine out_r ?_ | refine round_r ?_ | refine cut_r ?_ | refine sc_r ?_
  exact ⟨_, rfl, hK, by rw [comesF_yes hr ha, hN]; rfl⟩
end Go.Ab
/- Arrays in variables. -/
namespace Go.Ab
section
variable {T : Tab} {nt : Nat} {m : Sy} {s : St}
theorem op_idxArr {tt e : TypeId} {x ix : Operand} {i ie : TI} {n k c j off : Nat} {vi : AV} (hx : evY m x = some (.ptr c j off)) (hi : evY m ix = some vi) (hn : natA vi = some k) (hT : T tt = some i) (hs : i.sh = .array n e) (he : T e = some ie) (hk : k < n) :
    ∀ t, Has t nt m → evOp T (.indexAddr tt x ix) t s = some (.val (.ptr c j (off + k * ie.size)), s) := by
  intro t ht
  obtain ⟨sh, size, bytes, zero, flat⟩ := i
  cases hs
  have : idxA T tt (.ptr c j off) k = some (.ptr c j (off + k * ie.size)) := by
    unfold idxA
    simp only [hT, he, hk, if_true]
  simp only [evOp, evY_ok ht hx, evY_ok ht hi, hn, this]
theorem op_cutArr {tt e : TypeId} {x hi : Operand} {i ie : TI} {n k c : Nat} {vh : AV} {cs : List AV} (hx : evY m x = some (.ptr c 0 0)) (hvh : evY m hi = some vh) (hn : natA vh = some k) (hT : T tt = some i) (hs : i.sh = .array n e) (he : T e = some ie) (h1 : ie.size = 1) (hk : k ≤ n) (hp : Pt s.h (.ptr c 0 0) cs) (hl : cs.length = n) :
    ∀ t, Has t nt m → evOp T (.slice tt x none (some hi) none) t s = some (.val (.slc c 0 0 1 k n true), s) := by
  intro t ht
  obtain ⟨sh, size, bytes, zero, flat⟩ := i
  cases hs
  have h2 : sliceA T tt (.ptr c 0 0) none (some k) none = some (.slc c 0 0 1 k n true) := by
    unfold sliceA
    simp only [hT, he, h1, Option.getD_none, Option.getD_some, Nat.zero_mul, Nat.zero_le, hk, Nat.sub_zero, Nat.zero_add]
    simp
  have h3 : arrOk T tt (.ptr c 0 0) s = true := by
    unfold arrOk
    simp only [hT, he, h1, Nat.mul_one, read_rd]
    rw [show rdH s.h c 0 0 n = some cs by rw [← hl]; exact hp]
    rfl
  simp only [evOp, evY_ok ht hx, evY_ok ht hvh, hn, h2, h3, optNat, if_true]
end
theorem arr_row {h : Tr Grp} {c k n : Nat} {cs : List AV} (hp : Pt h (.ptr c 0 0) cs) (hl : cs.length = n) (hk : k ≤ n) (hz : cs.all AV.leaf = true) : Row h 1 (.slc c 0 0 1 k n true) ((cs.take k).map fun x => [x]) := by
  refine ⟨rfl, by decide, by simp [hl, hk], hk, ?_, cs.drop k, ?_⟩
  · intro x hx
    obtain ⟨y, hy, rfl⟩ := List.mem_map.1 hx
    rw [List.all_eq_true] at hz
    exact ⟨rfl, by simp [hz y (List.mem_of_mem_take hy)]⟩
  · have hf : ∀ l : List AV, (l.map fun x => [x]).flatten = l := by
      intro l
      induction l with
      | nil => rfl
      | cons a l ih => rw [List.map_cons, List.flatten_cons, ih]; rfl
    rw [hf, List.take_append_drop, Nat.mul_one, ← hl]
    exact hp
end Go.Ab
/- The nodes behind one. -/
namespace Go.Ab
/-- One more node, if it is one and isn't there yet. -/
def putA2 (q : Int × Int × Nat) (b most : Int) : Int × Int × Nat := if 0 ≤ b ∧ b ≤ most ∧ (q.2.2 = 0 ∨ q.1 ≠ b) then (if q.2.2 = 0 then (b, q.2.1, 1) else (q.1, b, 2)) else q
def rawN (n : Int) (a : Int) (y : InstrL) : Int × Int × Nat :=
  if y.op = 43 then putA2 (0, 0, 0) y.a (n - 1)
  else if y.op = 44 then putA2 (putA2 (0, 0, 0) (a + 1) (n - 1)) y.a (n - 1)
  else if y.op = 46 then putA2 (0, 0, 0) n n
  else putA2 (0, 0, 0) (a + 1) (n - 1)
def srtN (q : Int × Int × Nat) : Int × Int × Nat := if q.2.2 = 2 ∧ q.1 > q.2.1 then (q.2.1, q.1, q.2.2) else q
def nextN (n a : Int) (y : InstrL) : List Int := ([(srtN (rawN n a y)).1, (srtN (rawN n a y)).2.1] : List Int).take (srtN (rawN n a y)).2.2
theorem putA2_le {q : Int × Int × Nat} {b most : Int} (h : q.2.2 ≤ 1) : (putA2 q b most).2.2 ≤ q.2.2 + 1 := by
  unfold putA2
  split
  · split
    · simp only; omega
    · simp only; omega
  · omega
theorem rawN_le (n a : Int) (y : InstrL) : (rawN n a y).2.2 ≤ 2 := by
  unfold rawN
  split
  · have := putA2_le (q := (0, 0, 0)) (b := y.a) (most := n - 1) (by simp); simp only at this; omega
  split
  · have h1 := putA2_le (q := (0, 0, 0)) (b := a + 1) (most := n - 1) (by simp)
    have h2 := putA2_le (q := putA2 (0, 0, 0) (a + 1) (n - 1)) (b := y.a) (most := n - 1) (by simpa using h1)
    simp only at h1; omega
  split
  · have := putA2_le (q := (0, 0, 0)) (b := n) (most := n) (by simp); simp only at this; omega
  · have := putA2_le (q := (0, 0, 0)) (b := a + 1) (most := n - 1) (by simp); simp only at this; omega
theorem srtN_cnt (q : Int × Int × Nat) : (srtN q).2.2 = q.2.2 := by unfold srtN; split <;> rfl
/-- The document's way. -/
def sec1 (n a : Int) (y : InstrL) : Int := if y.op = 43 ∨ y.op = 44 then (if 0 ≤ y.a ∧ y.a < n then y.a else n) else a + 1
def fst1 (n a : Int) (y : InstrL) : Int := if y.op = 43 then sec1 n a y else a + 1
def outN (n f g : Int) : List Int := (if f < n then [f] else []) ++ (if g < n ∧ g ≠ f then [g] else [])
def nextD (n a : Int) (y : InstrL) : List Int := if y.op = 46 then [n] else if fst1 n a y > sec1 n a y then outN n (sec1 n a y) (fst1 n a y) else outN n (fst1 n a y) (sec1 n a y)
theorem next_same {n a : Int} (hn : 0 < n) (ha : 0 ≤ a) (han : a < n) (y : InstrL) : nextD n a y = nextN n a y := by
  unfold nextD nextN
  by_cases h46 : y.op = 46
  · rw [if_pos h46]
    have : rawN n a y = (n, 0, 1) := by
      unfold rawN putA2
      rw [if_neg (by omega), if_neg (by omega), if_pos h46]
      simp; omega
    rw [this]; rfl
  rw [if_neg h46]
  by_cases h43 : y.op = 43
  · have hs : sec1 n a y = if 0 ≤ y.a ∧ y.a < n then y.a else n := by unfold sec1; rw [if_pos (.inl h43)]
    have hf : fst1 n a y = sec1 n a y := by unfold fst1; rw [if_pos h43]
    rw [hf, if_neg (by omega)]
    have hr : rawN n a y = putA2 (0, 0, 0) y.a (n - 1) := by unfold rawN; rw [if_pos h43]
    rw [hr]
    by_cases hc : 0 ≤ y.a ∧ y.a < n
    · rw [if_pos hc] at hs
      have : putA2 (0, 0, 0) y.a (n - 1) = (y.a, 0, 1) := by unfold putA2; rw [if_pos ⟨by omega, by omega, .inl rfl⟩]; rfl
      rw [this, hs]
      unfold outN srtN
      simp [hc.2]
    · rw [if_neg hc] at hs
      have : putA2 (0, 0, 0) y.a (n - 1) = (0, 0, 0) := by unfold putA2; rw [if_neg (by omega)]
      rw [this, hs]
      unfold outN srtN
      simp
  by_cases h44 : y.op = 44
  · have hs : sec1 n a y = if 0 ≤ y.a ∧ y.a < n then y.a else n := by unfold sec1; rw [if_pos (.inr h44)]
    have hf : fst1 n a y = a + 1 := by unfold fst1; rw [if_neg h43]
    have hr : rawN n a y = putA2 (putA2 (0, 0, 0) (a + 1) (n - 1)) y.a (n - 1) := by unfold rawN; rw [if_neg h43, if_pos h44]
    rw [hf, hr]
    by_cases ha1 : a + 1 < n
    · have e1 : putA2 (0, 0, 0) (a + 1) (n - 1) = (a + 1, 0, 1) := by unfold putA2; rw [if_pos ⟨by omega, by omega, .inl rfl⟩]; rfl
      rw [e1]
      by_cases hc : 0 ≤ y.a ∧ y.a < n
      · rw [if_pos hc] at hs
        by_cases he : a + 1 = y.a
        · have e2 : putA2 (a + 1, 0, 1) y.a (n - 1) = (a + 1, 0, 1) := by unfold putA2; rw [if_neg]; simp only; omega
          rw [e2, hs, if_neg (by omega)]
          unfold outN srtN
          simp [he]
          omega
        · have e2 : putA2 (a + 1, 0, 1) y.a (n - 1) = (a + 1, y.a, 2) := by unfold putA2; rw [if_pos ⟨by omega, by omega, .inr he⟩]; rfl
          rw [e2, hs]
          unfold outN srtN
          by_cases hg : a + 1 > y.a
          · rw [if_pos hg]
            simp [hg, hc.2, ha1, he]
          · rw [if_neg hg]
            simp [hg, hc.2, ha1, Ne.symm he]
      · rw [if_neg hc] at hs
        have e2 : putA2 (a + 1, 0, 1) y.a (n - 1) = (a + 1, 0, 1) := by unfold putA2; rw [if_neg (by omega)]
        rw [e2, hs, if_neg (by omega)]
        unfold outN srtN
        simp [ha1]
    · have e1 : putA2 (0, 0, 0) (a + 1) (n - 1) = (0, 0, 0) := by unfold putA2; rw [if_neg (by omega)]
      rw [e1]
      have hna : a + 1 = n := by omega
      by_cases hc : 0 ≤ y.a ∧ y.a < n
      · rw [if_pos hc] at hs
        have e2 : putA2 (0, 0, 0) y.a (n - 1) = (y.a, 0, 1) := by unfold putA2; rw [if_pos ⟨by omega, by omega, .inl rfl⟩]; rfl
        rw [e2, hs, if_pos (by omega)]
        unfold outN srtN
        simp [hc.2, hna]
      · rw [if_neg hc] at hs
        have e2 : putA2 (0, 0, 0) y.a (n - 1) = (0, 0, 0) := by unfold putA2; rw [if_neg (by omega)]
        rw [e2, hs, if_neg (by omega)]
        unfold outN srtN
        simp [hna]
  · have hs : sec1 n a y = a + 1 := by unfold sec1; rw [if_neg (by omega)]
    have hf : fst1 n a y = a + 1 := by unfold fst1; rw [if_neg h43]
    have hr : rawN n a y = putA2 (0, 0, 0) (a + 1) (n - 1) := by unfold rawN; rw [if_neg h43, if_neg h44, if_neg h46]
    rw [hs, hf, hr, if_neg (by omega)]
    by_cases ha1 : a + 1 < n
    · have e1 : putA2 (0, 0, 0) (a + 1) (n - 1) = (a + 1, 0, 1) := by unfold putA2; rw [if_pos ⟨by omega, by omega, .inl rfl⟩]; rfl
      rw [e1]
      unfold outN srtN
      simp [ha1]
    · have e1 : putA2 (0, 0, 0) (a + 1) (n - 1) = (0, 0, 0) := by unfold putA2; rw [if_neg (by omega)]
      rw [e1]
      unfold outN srtN
      simp [ha1]
theorem nextN_in {n a b : Int} (hn : 0 < n) (ha : 0 ≤ a) (han : a < n) {y : InstrL} (h : b ∈ nextN n a y) : 0 ≤ b ∧ b ≤ n := by
  rw [← next_same hn ha han] at h
  unfold nextD at h
  split at h
  · rw [List.mem_singleton.1 h]; omega
  · have key : ∀ f g : Int, 0 ≤ f → 0 ≤ g → b ∈ outN n f g → 0 ≤ b ∧ b ≤ n := by
      intro f g hf hg hb
      unfold outN at hb
      rcases List.mem_append.1 hb with hb | hb
      · split at hb
        · rw [List.mem_singleton.1 hb]; omega
        · cases hb
      · split at hb
        · rw [List.mem_singleton.1 hb]; omega
        · cases hb
    have h1 : 0 ≤ sec1 n a y := by unfold sec1; split; split; all_goals omega
    have h2 : 0 ≤ fst1 n a y := by unfold fst1; split; exact h1; omega
    split at h
    · exact key _ _ h1 h2 h
    · exact key _ _ h2 h1 h
end Go.Ab
/- graph.to, graph.Next. -/
namespace Go.Ab
open Go.Proofs
set_option maxRecDepth 10000 in
set_option maxHeartbeats 8000000 in
theorem put0_ok {s0 s : St} {c0 c3 : Chunk} {pl pn : Nat} {x0 x1 b most : Int} (hS : SH s0 [c0, ptC (.ptr pl 0 0) [.int .i64 x0, .int .i64 x1], ptC (.ptr pn 0 0) [.int .i64 ((0 : Nat) : Int)], c3] s) :
    CallS Try.prog Tt Kt 114 [.int .i64 b, .int .i64 most, .ptr pn 0 0, .ptr pl 0 0] s (fun r s' => r = .tup [] ∧ SH s0 [c0, ptC (.ptr pl 0 0) [.int .i64 (putA2 (x0, x1, 0) b most).1, .int .i64 (putA2 (x0, x1, 0) b most).2.1], ptC (.ptr pn 0 0) [.int .i64 ((putA2 (x0, x1, 0) b most).2.2 : Nat)], c3] s') := by
  refine call_of (fn := Try.f114) (nt := 28) Try.func114 rfl rfl rfl ?_
  repeat refine wc_seq ?_
  refine wc_region ?_
  refine w_val rfl rfl (op_pure rfl) ?_
  refine w_val rfl rfl (op_pure rfl) ?_
  refine w_val rfl rfl (op_pure rfl) ?_
  refine w_split (i := 8) rfl (fun h8 => ?_) (fun h8 => ?_)
  · simp only [decide_eq_true_eq, ge_iff_le] at h8
    refine w_val rfl rfl (op_pure rfl) ?_
    refine w_val rfl rfl (op_pure rfl) ?_
    refine w_val rfl rfl (op_pure rfl) ?_
    refine w_val rfl rfl (op_pure rfl) ?_
    refine w_val rfl rfl (op_pure rfl) ?_
    refine w_split (i := 13) rfl (fun h13 => ?_) (fun h13 => ?_)
    · simp only [decide_eq_true_eq] at h13
      refine w_val rfl rfl (op_loadC 2 hS rfl rfl rfl (Nat.le_of_ble_eq_true rfl) rfl) ?_
      refine w_val rfl rfl (op_int (v := .bool true) rfl rfl (by decide) rfl) ?_
      refine w_val rfl rfl (op_pure rfl) ?_
      refine w_off rfl rfl ?_
      refine w_off rfl rfl ?_
      refine w_off rfl rfl ?_
      refine w_off rfl rfl ?_
      refine w_val rfl rfl (op_pure rfl) ?_
      refine w_val rfl rfl (op_pure rfl) ?_
      refine w_nil ?_
      refine then_n ?_
      refine wc_cond_t rfl ?_
      repeat refine wc_seq ?_
      refine wc_region ?_
      refine w_val rfl rfl (op_loadC 2 hS rfl rfl rfl (Nat.le_of_ble_eq_true rfl) rfl) ?_
      refine w_val rfl rfl (op_pure rfl) ?_
      refine w_val rfl rfl (op_idxArr (k := 0) rfl rfl rfl rfl rfl rfl (by decide)) ?_
      refine ws_storeL 1 hS rfl rfl rfl rfl rfl rfl (by rfl) (Nat.le_of_ble_eq_true rfl) ?_
      rintro z hS
      have hS : SH _ [_, _, _, _] z := hS
      have hK := hS.K
      refine w_nil ?_
      refine then_n ?_
      refine wc_region ?_
      refine w_val rfl rfl (op_loadC 2 hS rfl rfl rfl (Nat.le_of_ble_eq_true rfl) rfl) ?_
      refine w_val rfl rfl (op_add rfl rfl (by unfold In64; omega)) ?_
      refine ws_storeL 2 hS rfl rfl rfl rfl rfl rfl (by rfl) (Nat.le_of_ble_eq_true rfl) ?_
      rintro z hS
      have hS : SH _ [_, _, _, _] z := hS
      have hK := hS.K
      refine w_nil ?_
      have e : putA2 (x0, x1, 0) b most = (b, x1, 1) := by unfold putA2; rw [if_pos ⟨h8, h13, .inl rfl⟩]; rfl
      rw [e]
      exact ⟨_, rfl, rfl, hS⟩
    simp only [decide_eq_false_iff_not] at h13
    refine w_off rfl rfl ?_
    refine w_off rfl rfl ?_
    refine w_off rfl rfl ?_
    refine w_off rfl rfl ?_
    refine w_off rfl rfl ?_
    refine w_off rfl rfl ?_
    refine w_off rfl rfl ?_
    refine w_off rfl rfl ?_
    refine w_val rfl rfl (op_pure rfl) ?_
    refine w_nil ?_
    refine then_n ?_
    refine wc_cond_f rfl ?_
    refine wc_skip ?_
    have e : putA2 (x0, x1, 0) b most = (x0, x1, 0) := by unfold putA2; rw [if_neg (fun h => h13 h.2.1)]
    rw [e]
    exact ⟨_, rfl, rfl, hS⟩
  simp only [decide_eq_false_iff_not, ge_iff_le] at h8
  refine w_off rfl rfl ?_
  refine w_off rfl rfl ?_
  refine w_off rfl rfl ?_
  refine w_val rfl rfl (op_pure rfl) ?_
  refine w_val rfl rfl (op_pure rfl) ?_
  refine w_off rfl rfl ?_
  refine w_off rfl rfl ?_
  refine w_off rfl rfl ?_
  refine w_off rfl rfl ?_
  refine w_off rfl rfl ?_
  refine w_off rfl rfl ?_
  refine w_off rfl rfl ?_
  refine w_off rfl rfl ?_
  refine w_val rfl rfl (op_pure rfl) ?_
  refine w_nil ?_
  refine then_n ?_
  refine wc_cond_f rfl ?_
  refine wc_skip ?_
  have e : putA2 (x0, x1, 0) b most = (x0, x1, 0) := by unfold putA2; rw [if_neg (fun h => h8 h.1)]
  rw [e]
  exact ⟨_, rfl, rfl, hS⟩
-- unused hook: memt17
-- unused hook: ownt17
set_option maxRecDepth 10000 in
set_option maxHeartbeats 8000000 in
theorem put1_ok {s0 s : St} {c0 c3 : Chunk} {pl pn : Nat} {x0 x1 b most : Int} (hS : SH s0 [c0, ptC (.ptr pl 0 0) [.int .i64 x0, .int .i64 x1], ptC (.ptr pn 0 0) [.int .i64 ((1 : Nat) : Int)], c3] s) :
    CallS Try.prog Tt Kt 114 [.int .i64 b, .int .i64 most, .ptr pn 0 0, .ptr pl 0 0] s (fun r s' => r = .tup [] ∧ SH s0 [c0, ptC (.ptr pl 0 0) [.int .i64 (putA2 (x0, x1, 1) b most).1, .int .i64 (putA2 (x0, x1, 1) b most).2.1], ptC (.ptr pn 0 0) [.int .i64 ((putA2 (x0, x1, 1) b most).2.2 : Nat)], c3] s') := by
  refine call_of (fn := Try.f114) (nt := 28) Try.func114 rfl rfl rfl ?_
  repeat refine wc_seq ?_
  refine wc_region ?_
  refine w_val rfl rfl (op_pure rfl) ?_
  refine w_val rfl rfl (op_pure rfl) ?_
  refine w_val rfl rfl (op_pure rfl) ?_
  refine w_split (i := 8) rfl (fun h8 => ?_) (fun h8 => ?_)
  · simp only [decide_eq_true_eq, ge_iff_le] at h8
    refine w_val rfl rfl (op_pure rfl) ?_
    refine w_val rfl rfl (op_pure rfl) ?_
    refine w_val rfl rfl (op_pure rfl) ?_
    refine w_val rfl rfl (op_pure rfl) ?_
    refine w_val rfl rfl (op_pure rfl) ?_
    refine w_split (i := 13) rfl (fun h13 => ?_) (fun h13 => ?_)
    · simp only [decide_eq_true_eq] at h13
      refine w_val rfl rfl (op_loadC 2 hS rfl rfl rfl (Nat.le_of_ble_eq_true rfl) rfl) ?_
      refine w_val rfl rfl (op_int (v := .bool false) rfl rfl (by decide) rfl) ?_
      refine w_val rfl rfl (op_pure rfl) ?_
      refine w_val rfl rfl (op_idxArr (k := 0) rfl rfl rfl rfl rfl rfl (by decide)) ?_
      refine w_val rfl rfl (op_loadC 1 hS rfl rfl rfl (Nat.le_of_ble_eq_true rfl) rfl) ?_
      refine w_val rfl rfl (op_pure rfl) ?_
      refine w_val rfl rfl (op_pure rfl) ?_
      refine w_val rfl rfl (op_pure rfl) ?_
      refine w_val rfl rfl (op_pure rfl) ?_
      refine w_nil ?_
      refine then_n ?_
      refine wc_condT rfl (fun h22 => ?_) (fun h22 => ?_)
      · simp only [ne_eq, bne_iff_ne] at h22
        repeat refine wc_seq ?_
        refine wc_region ?_
        refine w_val rfl rfl (op_loadC 2 hS rfl rfl rfl (Nat.le_of_ble_eq_true rfl) rfl) ?_
        refine w_val rfl rfl (op_pure rfl) ?_
        refine w_val rfl rfl (op_idxArr (k := 1) rfl rfl rfl rfl rfl rfl (by decide)) ?_
        refine ws_storeL 1 hS rfl rfl rfl rfl rfl rfl (by rfl) (Nat.le_of_ble_eq_true rfl) ?_
        rintro z hS
        have hS : SH _ [_, _, _, _] z := hS
        have hK := hS.K
        refine w_nil ?_
        refine then_n ?_
        refine wc_region ?_
        refine w_val rfl rfl (op_loadC 2 hS rfl rfl rfl (Nat.le_of_ble_eq_true rfl) rfl) ?_
        refine w_val rfl rfl (op_add rfl rfl (by unfold In64; omega)) ?_
        refine ws_storeL 2 hS rfl rfl rfl rfl rfl rfl (by rfl) (Nat.le_of_ble_eq_true rfl) ?_
        rintro z hS
        have hS : SH _ [_, _, _, _] z := hS
        have hK := hS.K
        refine w_nil ?_
        have e : putA2 (x0, x1, 1) b most = (x0, b, 2) := by unfold putA2; rw [if_pos ⟨h8, h13, .inr h22⟩]; rfl
        rw [e]
        exact ⟨_, rfl, rfl, hS⟩
      simp only [bne_eq_false_iff_eq] at h22
      refine wc_skip ?_
      have e : putA2 (x0, x1, 1) b most = (x0, x1, 1) := by unfold putA2; rw [if_neg]; rintro ⟨_, _, h | h⟩; cases h; exact h h22
      rw [e]
      exact ⟨_, rfl, rfl, hS⟩
    simp only [decide_eq_false_iff_not] at h13
    refine w_off rfl rfl ?_
    refine w_off rfl rfl ?_
    refine w_off rfl rfl ?_
    refine w_off rfl rfl ?_
    refine w_off rfl rfl ?_
    refine w_off rfl rfl ?_
    refine w_off rfl rfl ?_
    refine w_off rfl rfl ?_
    refine w_val rfl rfl (op_pure rfl) ?_
    refine w_nil ?_
    refine then_n ?_
    refine wc_cond_f rfl ?_
    refine wc_skip ?_
    have e : putA2 (x0, x1, 1) b most = (x0, x1, 1) := by unfold putA2; rw [if_neg (fun h => h13 h.2.1)]
    rw [e]
    exact ⟨_, rfl, rfl, hS⟩
  simp only [decide_eq_false_iff_not, ge_iff_le] at h8
  refine w_off rfl rfl ?_
  refine w_off rfl rfl ?_
  refine w_off rfl rfl ?_
  refine w_val rfl rfl (op_pure rfl) ?_
  refine w_val rfl rfl (op_pure rfl) ?_
  refine w_off rfl rfl ?_
  refine w_off rfl rfl ?_
  refine w_off rfl rfl ?_
  refine w_off rfl rfl ?_
  refine w_off rfl rfl ?_
  refine w_off rfl rfl ?_
  refine w_off rfl rfl ?_
  refine w_off rfl rfl ?_
  refine w_val rfl rfl (op_pure rfl) ?_
  refine w_nil ?_
  refine then_n ?_
  refine wc_cond_f rfl ?_
  refine wc_skip ?_
  have e : putA2 (x0, x1, 1) b most = (x0, x1, 1) := by unfold putA2; rw [if_neg (fun h => h8 h.1)]
  rw [e]
  exact ⟨_, rfl, rfl, hS⟩
theorem put_ok {s0 s : St} {c0 c3 : Chunk} {pl pn : Nat} {b most : Int} (q : Int × Int × Nat) (hq : q.2.2 ≤ 1) (hS : SH s0 [c0, ptC (.ptr pl 0 0) [.int .i64 q.1, .int .i64 q.2.1], ptC (.ptr pn 0 0) [.int .i64 (q.2.2 : Nat)], c3] s) :
    CallS Try.prog Tt Kt 114 [.int .i64 b, .int .i64 most, .ptr pn 0 0, .ptr pl 0 0] s (fun r s' => r = .tup [] ∧ SH s0 [c0, ptC (.ptr pl 0 0) [.int .i64 (putA2 q b most).1, .int .i64 (putA2 q b most).2.1], ptC (.ptr pn 0 0) [.int .i64 ((putA2 q b most).2.2 : Nat)], c3] s') := by
  obtain ⟨x0, x1, k⟩ := q
  match k, hq with
  | 0, _ => exact put0_ok hS
  | 1, _ => exact put1_ok hS
set_option maxRecDepth 10000 in
set_option maxHeartbeats 8000000 in
theorem to_ok {s : St} {v : AV} {l : List InstrL} {a : Nat} {y : InstrL} (hok : s.Ok) (hv : Row s.h 2 v (l.map inC)) (hl : l.length ≤ 2097152) (hy : l[a]? = some y) :
    CallS Try.prog Tt Kt 99 [v, .int .i64 (a : Nat)] s (fun r s' => Keep [] s s' ∧ r = .tup [.agg [.int .i64 (srtN (rawN l.length a y)).1, .int .i64 (srtN (rawN l.length a y)).2.1], .int .i64 ((srtN (rawN l.length a y)).2.2 : Nat)]) := by
  have ha := (List.getElem?_eq_some_iff.1 hy).1
  refine call_of (fn := Try.f99) (nt := 70) Try.func99 rfl rfl rfl ?_
  repeat refine wc_seq ?_
  have hS := SH.start hok
  have hK := hS.K
  refine wc_region ?_
  refine ws_alloc hS rfl rfl rfl rfl ?_
  rintro p0 z hS hk
  have hS : SH _ [_] z := hS
  have hK := hS.K
  refine w_val rfl rfl (op_pure rfl) ?_
  refine w_nil ?_
  refine then_n ?_
  repeat refine wc_seq ?_
  refine wc_region ?_
  refine ws_alloc hS rfl rfl rfl rfl ?_
  rintro p1 z hS hk
  have hS : SH _ [_, _] z := hS
  have hK := hS.K
  refine w_nil ?_
  refine then_n ?_
  repeat refine wc_seq ?_
  refine wc_region ?_
  refine ws_alloc hS rfl rfl rfl rfl ?_
  rintro p2 z hS hk
  have hS : SH _ [_, _, _] z := hS
  have hK := hS.K
  refine ws_storeL 2 hS rfl rfl rfl rfl rfl rfl (by rfl) (Nat.le_of_ble_eq_true rfl) ?_
  rintro z hS
  have hS : SH _ [_, _, _] z := hS
  have hK := hS.K
  refine w_nil ?_
  refine then_n ?_
  repeat refine wc_seq ?_
  refine wc_region ?_
  refine w_val rfl rfl (op_pure rfl) ?_
  refine w_val rfl rfl (op_pure rfl) ?_
  refine w_nil ?_
  refine then_n ?_
  repeat refine wc_seq ?_
  refine wc_region ?_
  refine w_val rfl rfl (op_pure rfl) ?_
  refine w_val rfl rfl (op_len rfl rfl rfl rfl rfl hv.slenF) ?_
  refine w_val rfl rfl (op_sub rfl rfl (by unfold In64; omega)) ?_
  refine w_val rfl rfl (op_pure rfl) ?_
  refine w_nil ?_
  refine then_n ?_
  repeat refine wc_seq ?_
  have hvz := hv.keep0 hK
  refine wc_region ?_
  refine w_val rfl rfl (op_pure rfl) ?_
  refine w_val rfl rfl (op_pure rfl) ?_
  refine w_val rfl rfl (op_idxF rfl rfl (natA_cast _ _) rfl rfl rfl rfl hvz (by omega)) ?_
  refine w_val rfl rfl (op_load (v := .agg (inC y)) rfl rfl (Row.mk_pt hvz hy) rfl) ?_
  refine ws_alloc hS rfl rfl rfl rfl ?_
  rintro p3 z hS hk
  have hS : SH _ [_, _, _, _] z := hS
  have hK := hS.K
  refine ws_store 3 hS rfl rfl rfl rfl rfl rfl (by rfl) (Nat.le_of_ble_eq_true rfl) ?_
  rintro z hS
  have hS : SH _ [_, _, _, _] z := hS
  have hK := hS.K
  refine w_nil ?_
  refine then_n ?_
  repeat refine wc_seq ?_
  refine wc_region ?_
  refine w_val rfl rfl (op_fldP rfl rfl rfl rfl (by decide)) ?_
  refine w_val rfl rfl (op_loadC 3 hS rfl rfl rfl (Nat.le_of_ble_eq_true rfl) rfl) ?_
  refine w_nil ?_
  refine then_n ?_
  repeat refine wc_seq ?_
  refine wc_block ?_
  repeat refine wc_seq ?_
  refine wc_region ?_
  refine w_val rfl rfl (op_pure rfl) ?_
  refine w_val rfl rfl (op_pure rfl) ?_
  refine w_nil ?_
  refine then_n ?_
  refine wc_condT rfl (fun h26 => ?_) (fun h26 => ?_)
  · simp only [beq_iff_eq] at h26
    refine wc_region ?_
    refine w_val rfl rfl (op_pure rfl) ?_
    refine w_val rfl rfl (op_fldP rfl rfl rfl rfl (by decide)) ?_
    refine w_val rfl rfl (op_loadC 3 hS rfl rfl rfl (Nat.le_of_ble_eq_true rfl) rfl) ?_
    refine w_val rfl rfl (op_pure rfl) ?_
    refine w_call rfl rfl (op_call rfl rfl rfl rfl) (put_ok (0, 0, 0) (by decide) hS) ?_
    rintro _ z ⟨rfl, hS⟩
    rw [show putA2 (0, 0, 0) _ _ = rawN l.length a y by unfold rawN; rw [if_pos h26]] at hS
    have hK := hS.K
    have hcnt := rawN_le l.length a y
    refine w_nil ?_
    refine out_n ?_
    refine then_n ?_
    repeat refine wc_seq ?_
    refine wc_region ?_
    refine w_val rfl rfl (op_loadC 2 hS rfl rfl rfl (Nat.le_of_ble_eq_true rfl) rfl) ?_
    refine w_val rfl rfl (op_pure rfl) ?_
    refine w_val rfl rfl (op_pure rfl) ?_
    refine w_split (i := 55) rfl (fun h55 => ?_) (fun h55 => ?_)
    · simp only [beq_iff_eq] at h55
      refine w_val rfl rfl (op_idxArr (k := 0) rfl rfl rfl rfl rfl rfl (by decide)) ?_
      refine w_val rfl rfl (op_loadC 1 hS rfl rfl rfl (Nat.le_of_ble_eq_true rfl) rfl) ?_
      refine w_val rfl rfl (op_idxArr (k := 1) rfl rfl rfl rfl rfl rfl (by decide)) ?_
      refine w_val rfl rfl (op_loadC 1 hS rfl rfl rfl (Nat.le_of_ble_eq_true rfl) rfl) ?_
      refine w_val rfl rfl (op_pure rfl) ?_
      refine w_val rfl rfl (op_pure rfl) ?_
      refine w_nil ?_
      refine then_n ?_
      repeat refine wc_seq ?_
      refine wc_condT rfl (fun h61 => ?_) (fun h61 => ?_)
      · simp only [decide_eq_true_eq, gt_iff_lt] at h61
        refine wc_region ?_
        refine w_val rfl rfl (op_idxArr (k := 1) rfl rfl rfl rfl rfl rfl (by decide)) ?_
        refine w_val rfl rfl (op_loadC 1 hS rfl rfl rfl (Nat.le_of_ble_eq_true rfl) rfl) ?_
        refine w_val rfl rfl (op_idxArr (k := 0) rfl rfl rfl rfl rfl rfl (by decide)) ?_
        refine w_val rfl rfl (op_loadC 1 hS rfl rfl rfl (Nat.le_of_ble_eq_true rfl) rfl) ?_
        refine w_val rfl rfl (op_idxArr (k := 0) rfl rfl rfl rfl rfl rfl (by decide)) ?_
        refine ws_storeL 1 hS rfl rfl rfl rfl rfl rfl (by rfl) (Nat.le_of_ble_eq_true rfl) ?_
        rintro z hS
        have hS : SH _ [_, _, _, _] z := hS
        have hK := hS.K
        refine w_val rfl rfl (op_idxArr (k := 1) rfl rfl rfl rfl rfl rfl (by decide)) ?_
        refine ws_storeL 1 hS rfl rfl rfl rfl rfl rfl (by rfl) (Nat.le_of_ble_eq_true rfl) ?_
        rintro z hS
        have hS : SH _ [_, _, _, _] z := hS
        have hK := hS.K
        refine w_nil ?_
        refine then_n ?_
        repeat refine wc_seq ?_
        have hR := Keep.refl hS.ok
        have hx1 : ∀ g ∈ [p1], g ∉ [p0] := fun g hg h => hS.dis 1 0 _ _ (by decide) rfl rfl g hg h
        have hx2 : ∀ g ∈ [p2], g ∉ [p0] := fun g hg h => hS.dis 2 0 _ _ (by decide) rfl rfl g hg h
        refine wc_draw (Old z [p0]) (by kernel_rfl) rfl ?_
        refine wo_load hR rfl rfl ((hS.pt 1 rfl).at (Nat.le_of_ble_eq_true rfl)) rfl hx1 rfl rfl ?_
        refine wo_load hR rfl rfl ((hS.pt 2 rfl).at (Nat.le_of_ble_eq_true rfl)) rfl hx2 rfl rfl ?_
        refine wo_store_all (p := .ptr p0 0 0) hR (fun g hg => hg) rfl rfl rfl rfl rfl (by rfl) rfl (hS.pt 0 rfl) (by simp [AV.gs]) ?_
        rintro z hp hk hc
        have hS := hS.upd 0 rfl hk (fun g hg => hg) (ptC (.ptr p0 0 0) _) hp (fun g hg => .inl hg)
        have hS : SH _ [_, _, _, _] z := hS
        have hK := hS.K
        refine wo_val (fun _ => rfl) rfl rfl (op_pure rfl) ?_
        refine wd_nil ?_
        refine then_n ?_
        refine wc_ret ?_
        repeat first | refine then_r ?_ | refine out_r ?_ | refine round_r ?_ | refine cut_r ?_ | refine sc_r ?_
        exact ⟨_, res_cell2 rfl rfl rfl (hS.pt 0 rfl) rfl, hK, by first
          | (have e : srtN (rawN l.length a y) = ((rawN l.length a y).2.1, (rawN l.length a y).1, (rawN l.length a y).2.2) := (by unfold srtN; rw [if_pos ⟨by omega, h61⟩])
             rw [e]; rfl)
          | (have e : srtN (rawN l.length a y) = rawN l.length a y := (by unfold srtN; rw [if_neg (by omega)])
             rw [e]; rfl)⟩
      simp only [decide_eq_false_iff_not, gt_iff_lt] at h61
      refine wc_skip ?_
      refine then_n ?_
      repeat refine wc_seq ?_
      have hR := Keep.refl hS.ok
      have hx1 : ∀ g ∈ [p1], g ∉ [p0] := fun g hg h => hS.dis 1 0 _ _ (by decide) rfl rfl g hg h
      have hx2 : ∀ g ∈ [p2], g ∉ [p0] := fun g hg h => hS.dis 2 0 _ _ (by decide) rfl rfl g hg h
      refine wc_draw (Old z [p0]) (by kernel_rfl) rfl ?_
      refine wo_load hR rfl rfl ((hS.pt 1 rfl).at (Nat.le_of_ble_eq_true rfl)) rfl hx1 rfl rfl ?_
      refine wo_load hR rfl rfl ((hS.pt 2 rfl).at (Nat.le_of_ble_eq_true rfl)) rfl hx2 rfl rfl ?_
      refine wo_store_all (p := .ptr p0 0 0) hR (fun g hg => hg) rfl rfl rfl rfl rfl (by rfl) rfl (hS.pt 0 rfl) (by simp [AV.gs]) ?_
      rintro z hp hk hc
      have hS := hS.upd 0 rfl hk (fun g hg => hg) (ptC (.ptr p0 0 0) _) hp (fun g hg => .inl hg)
      have hS : SH _ [_, _, _, _] z := hS
      have hK := hS.K
      refine wo_val (fun _ => rfl) rfl rfl (op_pure rfl) ?_
      refine wd_nil ?_
      refine then_n ?_
      refine wc_ret ?_
      repeat first | refine then_r ?_ | refine out_r ?_ | refine round_r ?_ | refine cut_r ?_ | refine sc_r ?_
      exact ⟨_, res_cell2 rfl rfl rfl (hS.pt 0 rfl) rfl, hK, by first
        | (have e : srtN (rawN l.length a y) = ((rawN l.length a y).2.1, (rawN l.length a y).1, (rawN l.length a y).2.2) := (by unfold srtN; rw [if_pos ⟨by omega, h61⟩])
           rw [e]; rfl)
        | (have e : srtN (rawN l.length a y) = rawN l.length a y := (by unfold srtN; rw [if_neg (by omega)])
           rw [e]; rfl)⟩
    simp only [beq_eq_false_iff_ne, ne_eq] at h55
    refine w_off rfl rfl ?_
    refine w_off rfl rfl ?_
    refine w_off rfl rfl ?_
    refine w_off rfl rfl ?_
    refine w_off rfl rfl ?_
    refine w_val rfl rfl (op_pure rfl) ?_
    refine w_nil ?_
    refine then_n ?_
    repeat refine wc_seq ?_
    refine wc_cond_f rfl ?_
    refine wc_skip ?_
    refine then_n ?_
    repeat refine wc_seq ?_
    have hR := Keep.refl hS.ok
    have hx1 : ∀ g ∈ [p1], g ∉ [p0] := fun g hg h => hS.dis 1 0 _ _ (by decide) rfl rfl g hg h
    have hx2 : ∀ g ∈ [p2], g ∉ [p0] := fun g hg h => hS.dis 2 0 _ _ (by decide) rfl rfl g hg h
    refine wc_draw (Old z [p0]) (by kernel_rfl) rfl ?_
    refine wo_load hR rfl rfl ((hS.pt 1 rfl).at (Nat.le_of_ble_eq_true rfl)) rfl hx1 rfl rfl ?_
    refine wo_load hR rfl rfl ((hS.pt 2 rfl).at (Nat.le_of_ble_eq_true rfl)) rfl hx2 rfl rfl ?_
    refine wo_store_all (p := .ptr p0 0 0) hR (fun g hg => hg) rfl rfl rfl rfl rfl (by rfl) rfl (hS.pt 0 rfl) (by simp [AV.gs]) ?_
    rintro z hp hk hc
    have hS := hS.upd 0 rfl hk (fun g hg => hg) (ptC (.ptr p0 0 0) _) hp (fun g hg => .inl hg)
    have hS : SH _ [_, _, _, _] z := hS
    have hK := hS.K
    refine wo_val (fun _ => rfl) rfl rfl (op_pure rfl) ?_
    refine wd_nil ?_
    refine then_n ?_
    refine wc_ret ?_
    repeat first | refine then_r ?_ | refine out_r ?_ | refine round_r ?_ | refine cut_r ?_ | refine sc_r ?_
    exact ⟨_, res_cell2 rfl rfl rfl (hS.pt 0 rfl) rfl, hK, by first
      | (have e : srtN (rawN l.length a y) = ((rawN l.length a y).2.1, (rawN l.length a y).1, (rawN l.length a y).2.2) := (by unfold srtN; rw [if_pos ⟨by omega, h61⟩])
         rw [e]; rfl)
      | (have e : srtN (rawN l.length a y) = rawN l.length a y := (by unfold srtN; rw [if_neg (by omega)])
         rw [e]; rfl)⟩
  simp only [beq_eq_false_iff_ne, ne_eq] at h26
  repeat refine wc_seq ?_
  refine wc_region ?_
  refine w_val rfl rfl (op_pure rfl) ?_
  refine w_val rfl rfl (op_pure rfl) ?_
  refine w_nil ?_
  refine then_n ?_
  refine wc_condT rfl (fun h33 => ?_) (fun h33 => ?_)
  · simp only [beq_iff_eq] at h33
    repeat refine wc_seq ?_
    refine wc_region ?_
    refine w_val rfl rfl (op_pure rfl) ?_
    refine w_val rfl rfl (op_pure rfl) ?_
    refine w_val rfl rfl (op_add rfl rfl (by unfold In64; omega)) ?_
    refine w_val rfl rfl (op_pure rfl) ?_
    refine w_call rfl rfl (op_call rfl rfl rfl rfl) (put_ok (0, 0, 0) (by decide) hS) ?_
    rintro _ z ⟨rfl, hS⟩
    have hK := hS.K
    refine w_nil ?_
    refine then_n ?_
    refine wc_region ?_
    refine w_val rfl rfl (op_pure rfl) ?_
    refine w_val rfl rfl (op_fldP rfl rfl rfl rfl (by decide)) ?_
    refine w_val rfl rfl (op_loadC 3 hS rfl rfl rfl (Nat.le_of_ble_eq_true rfl) rfl) ?_
    refine w_val rfl rfl (op_pure rfl) ?_
    refine w_call rfl rfl (op_call rfl rfl rfl rfl) (put_ok (putA2 (0, 0, 0) ((a : Int) + 1) ((l.length : Int) - 1)) (putA2_le (by decide)) hS) ?_
    rintro _ z ⟨rfl, hS⟩
    rw [show putA2 (putA2 (0, 0, 0) _ _) _ _ = rawN l.length a y by unfold rawN; rw [if_neg h26, if_pos h33]] at hS
    have hK := hS.K
    have hcnt := rawN_le l.length a y
    refine w_nil ?_
    refine out_n ?_
    refine then_n ?_
    repeat refine wc_seq ?_
    refine wc_region ?_
    refine w_val rfl rfl (op_loadC 2 hS rfl rfl rfl (Nat.le_of_ble_eq_true rfl) rfl) ?_
    refine w_val rfl rfl (op_pure rfl) ?_
    refine w_val rfl rfl (op_pure rfl) ?_
    refine w_split (i := 55) rfl (fun h55 => ?_) (fun h55 => ?_)
    · simp only [beq_iff_eq] at h55
      refine w_val rfl rfl (op_idxArr (k := 0) rfl rfl rfl rfl rfl rfl (by decide)) ?_
      refine w_val rfl rfl (op_loadC 1 hS rfl rfl rfl (Nat.le_of_ble_eq_true rfl) rfl) ?_
      refine w_val rfl rfl (op_idxArr (k := 1) rfl rfl rfl rfl rfl rfl (by decide)) ?_
      refine w_val rfl rfl (op_loadC 1 hS rfl rfl rfl (Nat.le_of_ble_eq_true rfl) rfl) ?_
      refine w_val rfl rfl (op_pure rfl) ?_
      refine w_val rfl rfl (op_pure rfl) ?_
      refine w_nil ?_
      refine then_n ?_
      repeat refine wc_seq ?_
      refine wc_condT rfl (fun h61 => ?_) (fun h61 => ?_)
      · simp only [decide_eq_true_eq, gt_iff_lt] at h61
        refine wc_region ?_
        refine w_val rfl rfl (op_idxArr (k := 1) rfl rfl rfl rfl rfl rfl (by decide)) ?_
        refine w_val rfl rfl (op_loadC 1 hS rfl rfl rfl (Nat.le_of_ble_eq_true rfl) rfl) ?_
        refine w_val rfl rfl (op_idxArr (k := 0) rfl rfl rfl rfl rfl rfl (by decide)) ?_
        refine w_val rfl rfl (op_loadC 1 hS rfl rfl rfl (Nat.le_of_ble_eq_true rfl) rfl) ?_
        refine w_val rfl rfl (op_idxArr (k := 0) rfl rfl rfl rfl rfl rfl (by decide)) ?_
        refine ws_storeL 1 hS rfl rfl rfl rfl rfl rfl (by rfl) (Nat.le_of_ble_eq_true rfl) ?_
        rintro z hS
        have hS : SH _ [_, _, _, _] z := hS
        have hK := hS.K
        refine w_val rfl rfl (op_idxArr (k := 1) rfl rfl rfl rfl rfl rfl (by decide)) ?_
        refine ws_storeL 1 hS rfl rfl rfl rfl rfl rfl (by rfl) (Nat.le_of_ble_eq_true rfl) ?_
        rintro z hS
        have hS : SH _ [_, _, _, _] z := hS
        have hK := hS.K
        refine w_nil ?_
        refine then_n ?_
        repeat refine wc_seq ?_
        have hR := Keep.refl hS.ok
        have hx1 : ∀ g ∈ [p1], g ∉ [p0] := fun g hg h => hS.dis 1 0 _ _ (by decide) rfl rfl g hg h
        have hx2 : ∀ g ∈ [p2], g ∉ [p0] := fun g hg h => hS.dis 2 0 _ _ (by decide) rfl rfl g hg h
        refine wc_draw (Old z [p0]) (by kernel_rfl) rfl ?_
        refine wo_load hR rfl rfl ((hS.pt 1 rfl).at (Nat.le_of_ble_eq_true rfl)) rfl hx1 rfl rfl ?_
        refine wo_load hR rfl rfl ((hS.pt 2 rfl).at (Nat.le_of_ble_eq_true rfl)) rfl hx2 rfl rfl ?_
        refine wo_store_all (p := .ptr p0 0 0) hR (fun g hg => hg) rfl rfl rfl rfl rfl (by rfl) rfl (hS.pt 0 rfl) (by simp [AV.gs]) ?_
        rintro z hp hk hc
        have hS := hS.upd 0 rfl hk (fun g hg => hg) (ptC (.ptr p0 0 0) _) hp (fun g hg => .inl hg)
        have hS : SH _ [_, _, _, _] z := hS
        have hK := hS.K
        refine wo_val (fun _ => rfl) rfl rfl (op_pure rfl) ?_
        refine wd_nil ?_
        refine then_n ?_
        refine wc_ret ?_
        repeat first | refine then_r ?_ | refine out_r ?_ | refine round_r ?_ | refine cut_r ?_ | refine sc_r ?_
        exact ⟨_, res_cell2 rfl rfl rfl (hS.pt 0 rfl) rfl, hK, by first
          | (have e : srtN (rawN l.length a y) = ((rawN l.length a y).2.1, (rawN l.length a y).1, (rawN l.length a y).2.2) := (by unfold srtN; rw [if_pos ⟨by omega, h61⟩])
             rw [e]; rfl)
          | (have e : srtN (rawN l.length a y) = rawN l.length a y := (by unfold srtN; rw [if_neg (by omega)])
             rw [e]; rfl)⟩
      simp only [decide_eq_false_iff_not, gt_iff_lt] at h61
      refine wc_skip ?_
      refine then_n ?_
      repeat refine wc_seq ?_
      have hR := Keep.refl hS.ok
      have hx1 : ∀ g ∈ [p1], g ∉ [p0] := fun g hg h => hS.dis 1 0 _ _ (by decide) rfl rfl g hg h
      have hx2 : ∀ g ∈ [p2], g ∉ [p0] := fun g hg h => hS.dis 2 0 _ _ (by decide) rfl rfl g hg h
      refine wc_draw (Old z [p0]) (by kernel_rfl) rfl ?_
      refine wo_load hR rfl rfl ((hS.pt 1 rfl).at (Nat.le_of_ble_eq_true rfl)) rfl hx1 rfl rfl ?_
      refine wo_load hR rfl rfl ((hS.pt 2 rfl).at (Nat.le_of_ble_eq_true rfl)) rfl hx2 rfl rfl ?_
      refine wo_store_all (p := .ptr p0 0 0) hR (fun g hg => hg) rfl rfl rfl rfl rfl (by rfl) rfl (hS.pt 0 rfl) (by simp [AV.gs]) ?_
      rintro z hp hk hc
      have hS := hS.upd 0 rfl hk (fun g hg => hg) (ptC (.ptr p0 0 0) _) hp (fun g hg => .inl hg)
      have hS : SH _ [_, _, _, _] z := hS
      have hK := hS.K
      refine wo_val (fun _ => rfl) rfl rfl (op_pure rfl) ?_
      refine wd_nil ?_
      refine then_n ?_
      refine wc_ret ?_
      repeat first | refine then_r ?_ | refine out_r ?_ | refine round_r ?_ | refine cut_r ?_ | refine sc_r ?_
      exact ⟨_, res_cell2 rfl rfl rfl (hS.pt 0 rfl) rfl, hK, by first
        | (have e : srtN (rawN l.length a y) = ((rawN l.length a y).2.1, (rawN l.length a y).1, (rawN l.length a y).2.2) := (by unfold srtN; rw [if_pos ⟨by omega, h61⟩])
           rw [e]; rfl)
        | (have e : srtN (rawN l.length a y) = rawN l.length a y := (by unfold srtN; rw [if_neg (by omega)])
           rw [e]; rfl)⟩
    simp only [beq_eq_false_iff_ne, ne_eq] at h55
    refine w_off rfl rfl ?_
    refine w_off rfl rfl ?_
    refine w_off rfl rfl ?_
    refine w_off rfl rfl ?_
    refine w_off rfl rfl ?_
    refine w_val rfl rfl (op_pure rfl) ?_
    refine w_nil ?_
    refine then_n ?_
    repeat refine wc_seq ?_
    refine wc_cond_f rfl ?_
    refine wc_skip ?_
    refine then_n ?_
    repeat refine wc_seq ?_
    have hR := Keep.refl hS.ok
    have hx1 : ∀ g ∈ [p1], g ∉ [p0] := fun g hg h => hS.dis 1 0 _ _ (by decide) rfl rfl g hg h
    have hx2 : ∀ g ∈ [p2], g ∉ [p0] := fun g hg h => hS.dis 2 0 _ _ (by decide) rfl rfl g hg h
    refine wc_draw (Old z [p0]) (by kernel_rfl) rfl ?_
    refine wo_load hR rfl rfl ((hS.pt 1 rfl).at (Nat.le_of_ble_eq_true rfl)) rfl hx1 rfl rfl ?_
    refine wo_load hR rfl rfl ((hS.pt 2 rfl).at (Nat.le_of_ble_eq_true rfl)) rfl hx2 rfl rfl ?_
    refine wo_store_all (p := .ptr p0 0 0) hR (fun g hg => hg) rfl rfl rfl rfl rfl (by rfl) rfl (hS.pt 0 rfl) (by simp [AV.gs]) ?_
    rintro z hp hk hc
    have hS := hS.upd 0 rfl hk (fun g hg => hg) (ptC (.ptr p0 0 0) _) hp (fun g hg => .inl hg)
    have hS : SH _ [_, _, _, _] z := hS
    have hK := hS.K
    refine wo_val (fun _ => rfl) rfl rfl (op_pure rfl) ?_
    refine wd_nil ?_
    refine then_n ?_
    refine wc_ret ?_
    repeat first | refine then_r ?_ | refine out_r ?_ | refine round_r ?_ | refine cut_r ?_ | refine sc_r ?_
    exact ⟨_, res_cell2 rfl rfl rfl (hS.pt 0 rfl) rfl, hK, by first
      | (have e : srtN (rawN l.length a y) = ((rawN l.length a y).2.1, (rawN l.length a y).1, (rawN l.length a y).2.2) := (by unfold srtN; rw [if_pos ⟨by omega, h61⟩])
         rw [e]; rfl)
      | (have e : srtN (rawN l.length a y) = rawN l.length a y := (by unfold srtN; rw [if_neg (by omega)])
         rw [e]; rfl)⟩
  simp only [beq_eq_false_iff_ne, ne_eq] at h33
  repeat refine wc_seq ?_
  refine wc_region ?_
  refine w_val rfl rfl (op_pure rfl) ?_
  refine w_val rfl rfl (op_pure rfl) ?_
  refine w_nil ?_
  refine then_n ?_
  refine wc_condT rfl (fun h45 => ?_) (fun h45 => ?_)
  · simp only [beq_iff_eq] at h45
    refine wc_region ?_
    refine w_val rfl rfl (op_pure rfl) ?_
    refine w_val rfl rfl (op_pure rfl) ?_
    refine w_val rfl rfl (op_add rfl rfl (by unfold In64; omega)) ?_
    refine w_val rfl rfl (op_pure rfl) ?_
    refine w_val rfl rfl (op_add rfl rfl (by unfold In64; omega)) ?_
    refine w_call rfl rfl (op_call rfl rfl rfl rfl) (put_ok (0, 0, 0) (by decide) hS) ?_
    rintro _ z ⟨rfl, hS⟩
    rw [show putA2 (0, 0, 0) _ _ = rawN l.length a y by unfold rawN; rw [if_neg h26, if_neg h33, if_pos h45, show (l.length : Int) - 1 + 1 = l.length by omega]] at hS
    have hK := hS.K
    have hcnt := rawN_le l.length a y
    refine w_nil ?_
    refine out_n ?_
    refine then_n ?_
    repeat refine wc_seq ?_
    refine wc_region ?_
    refine w_val rfl rfl (op_loadC 2 hS rfl rfl rfl (Nat.le_of_ble_eq_true rfl) rfl) ?_
    refine w_val rfl rfl (op_pure rfl) ?_
    refine w_val rfl rfl (op_pure rfl) ?_
    refine w_split (i := 55) rfl (fun h55 => ?_) (fun h55 => ?_)
    · simp only [beq_iff_eq] at h55
      refine w_val rfl rfl (op_idxArr (k := 0) rfl rfl rfl rfl rfl rfl (by decide)) ?_
      refine w_val rfl rfl (op_loadC 1 hS rfl rfl rfl (Nat.le_of_ble_eq_true rfl) rfl) ?_
      refine w_val rfl rfl (op_idxArr (k := 1) rfl rfl rfl rfl rfl rfl (by decide)) ?_
      refine w_val rfl rfl (op_loadC 1 hS rfl rfl rfl (Nat.le_of_ble_eq_true rfl) rfl) ?_
      refine w_val rfl rfl (op_pure rfl) ?_
      refine w_val rfl rfl (op_pure rfl) ?_
      refine w_nil ?_
      refine then_n ?_
      repeat refine wc_seq ?_
      refine wc_condT rfl (fun h61 => ?_) (fun h61 => ?_)
      · simp only [decide_eq_true_eq, gt_iff_lt] at h61
        refine wc_region ?_
        refine w_val rfl rfl (op_idxArr (k := 1) rfl rfl rfl rfl rfl rfl (by decide)) ?_
        refine w_val rfl rfl (op_loadC 1 hS rfl rfl rfl (Nat.le_of_ble_eq_true rfl) rfl) ?_
        refine w_val rfl rfl (op_idxArr (k := 0) rfl rfl rfl rfl rfl rfl (by decide)) ?_
        refine w_val rfl rfl (op_loadC 1 hS rfl rfl rfl (Nat.le_of_ble_eq_true rfl) rfl) ?_
        refine w_val rfl rfl (op_idxArr (k := 0) rfl rfl rfl rfl rfl rfl (by decide)) ?_
        refine ws_storeL 1 hS rfl rfl rfl rfl rfl rfl (by rfl) (Nat.le_of_ble_eq_true rfl) ?_
        rintro z hS
        have hS : SH _ [_, _, _, _] z := hS
        have hK := hS.K
        refine w_val rfl rfl (op_idxArr (k := 1) rfl rfl rfl rfl rfl rfl (by decide)) ?_
        refine ws_storeL 1 hS rfl rfl rfl rfl rfl rfl (by rfl) (Nat.le_of_ble_eq_true rfl) ?_
        rintro z hS
        have hS : SH _ [_, _, _, _] z := hS
        have hK := hS.K
        refine w_nil ?_
        refine then_n ?_
        repeat refine wc_seq ?_
        have hR := Keep.refl hS.ok
        have hx1 : ∀ g ∈ [p1], g ∉ [p0] := fun g hg h => hS.dis 1 0 _ _ (by decide) rfl rfl g hg h
        have hx2 : ∀ g ∈ [p2], g ∉ [p0] := fun g hg h => hS.dis 2 0 _ _ (by decide) rfl rfl g hg h
        refine wc_draw (Old z [p0]) (by kernel_rfl) rfl ?_
        refine wo_load hR rfl rfl ((hS.pt 1 rfl).at (Nat.le_of_ble_eq_true rfl)) rfl hx1 rfl rfl ?_
        refine wo_load hR rfl rfl ((hS.pt 2 rfl).at (Nat.le_of_ble_eq_true rfl)) rfl hx2 rfl rfl ?_
        refine wo_store_all (p := .ptr p0 0 0) hR (fun g hg => hg) rfl rfl rfl rfl rfl (by rfl) rfl (hS.pt 0 rfl) (by simp [AV.gs]) ?_
        rintro z hp hk hc
        have hS := hS.upd 0 rfl hk (fun g hg => hg) (ptC (.ptr p0 0 0) _) hp (fun g hg => .inl hg)
        have hS : SH _ [_, _, _, _] z := hS
        have hK := hS.K
        refine wo_val (fun _ => rfl) rfl rfl (op_pure rfl) ?_
        refine wd_nil ?_
        refine then_n ?_
        refine wc_ret ?_
        repeat first | refine then_r ?_ | refine out_r ?_ | refine round_r ?_ | refine cut_r ?_ | refine sc_r ?_
        exact ⟨_, res_cell2 rfl rfl rfl (hS.pt 0 rfl) rfl, hK, by first
          | (have e : srtN (rawN l.length a y) = ((rawN l.length a y).2.1, (rawN l.length a y).1, (rawN l.length a y).2.2) := (by unfold srtN; rw [if_pos ⟨by omega, h61⟩])
             rw [e]; rfl)
          | (have e : srtN (rawN l.length a y) = rawN l.length a y := (by unfold srtN; rw [if_neg (by omega)])
             rw [e]; rfl)⟩
      simp only [decide_eq_false_iff_not, gt_iff_lt] at h61
      refine wc_skip ?_
      refine then_n ?_
      repeat refine wc_seq ?_
      have hR := Keep.refl hS.ok
      have hx1 : ∀ g ∈ [p1], g ∉ [p0] := fun g hg h => hS.dis 1 0 _ _ (by decide) rfl rfl g hg h
      have hx2 : ∀ g ∈ [p2], g ∉ [p0] := fun g hg h => hS.dis 2 0 _ _ (by decide) rfl rfl g hg h
      refine wc_draw (Old z [p0]) (by kernel_rfl) rfl ?_
      refine wo_load hR rfl rfl ((hS.pt 1 rfl).at (Nat.le_of_ble_eq_true rfl)) rfl hx1 rfl rfl ?_
      refine wo_load hR rfl rfl ((hS.pt 2 rfl).at (Nat.le_of_ble_eq_true rfl)) rfl hx2 rfl rfl ?_
      refine wo_store_all (p := .ptr p0 0 0) hR (fun g hg => hg) rfl rfl rfl rfl rfl (by rfl) rfl (hS.pt 0 rfl) (by simp [AV.gs]) ?_
      rintro z hp hk hc
      have hS := hS.upd 0 rfl hk (fun g hg => hg) (ptC (.ptr p0 0 0) _) hp (fun g hg => .inl hg)
      have hS : SH _ [_, _, _, _] z := hS
      have hK := hS.K
      refine wo_val (fun _ => rfl) rfl rfl (op_pure rfl) ?_
      refine wd_nil ?_
      refine then_n ?_
      refine wc_ret ?_
      repeat first | refine then_r ?_ | refine out_r ?_ | refine round_r ?_ | refine cut_r ?_ | refine sc_r ?_
      exact ⟨_, res_cell2 rfl rfl rfl (hS.pt 0 rfl) rfl, hK, by first
        | (have e : srtN (rawN l.length a y) = ((rawN l.length a y).2.1, (rawN l.length a y).1, (rawN l.length a y).2.2) := (by unfold srtN; rw [if_pos ⟨by omega, h61⟩])
           rw [e]; rfl)
        | (have e : srtN (rawN l.length a y) = rawN l.length a y := (by unfold srtN; rw [if_neg (by omega)])
           rw [e]; rfl)⟩
    simp only [beq_eq_false_iff_ne, ne_eq] at h55
    refine w_off rfl rfl ?_
    refine w_off rfl rfl ?_
    refine w_off rfl rfl ?_
    refine w_off rfl rfl ?_
    refine w_off rfl rfl ?_
    refine w_val rfl rfl (op_pure rfl) ?_
    refine w_nil ?_
    refine then_n ?_
    repeat refine wc_seq ?_
    refine wc_cond_f rfl ?_
    refine wc_skip ?_
    refine then_n ?_
    repeat refine wc_seq ?_
    have hR := Keep.refl hS.ok
    have hx1 : ∀ g ∈ [p1], g ∉ [p0] := fun g hg h => hS.dis 1 0 _ _ (by decide) rfl rfl g hg h
    have hx2 : ∀ g ∈ [p2], g ∉ [p0] := fun g hg h => hS.dis 2 0 _ _ (by decide) rfl rfl g hg h
    refine wc_draw (Old z [p0]) (by kernel_rfl) rfl ?_
    refine wo_load hR rfl rfl ((hS.pt 1 rfl).at (Nat.le_of_ble_eq_true rfl)) rfl hx1 rfl rfl ?_
    refine wo_load hR rfl rfl ((hS.pt 2 rfl).at (Nat.le_of_ble_eq_true rfl)) rfl hx2 rfl rfl ?_
    refine wo_store_all (p := .ptr p0 0 0) hR (fun g hg => hg) rfl rfl rfl rfl rfl (by rfl) rfl (hS.pt 0 rfl) (by simp [AV.gs]) ?_
    rintro z hp hk hc
    have hS := hS.upd 0 rfl hk (fun g hg => hg) (ptC (.ptr p0 0 0) _) hp (fun g hg => .inl hg)
    have hS : SH _ [_, _, _, _] z := hS
    have hK := hS.K
    refine wo_val (fun _ => rfl) rfl rfl (op_pure rfl) ?_
    refine wd_nil ?_
    refine then_n ?_
    refine wc_ret ?_
    repeat first | refine then_r ?_ | refine out_r ?_ | refine round_r ?_ | refine cut_r ?_ | refine sc_r ?_
    exact ⟨_, res_cell2 rfl rfl rfl (hS.pt 0 rfl) rfl, hK, by first
      | (have e : srtN (rawN l.length a y) = ((rawN l.length a y).2.1, (rawN l.length a y).1, (rawN l.length a y).2.2) := (by unfold srtN; rw [if_pos ⟨by omega, h61⟩])
         rw [e]; rfl)
      | (have e : srtN (rawN l.length a y) = rawN l.length a y := (by unfold srtN; rw [if_neg (by omega)])
         rw [e]; rfl)⟩
  simp only [beq_eq_false_iff_ne, ne_eq] at h45
  refine wc_region ?_
  refine w_val rfl rfl (op_pure rfl) ?_
  refine w_val rfl rfl (op_pure rfl) ?_
  refine w_val rfl rfl (op_add rfl rfl (by unfold In64; omega)) ?_
  refine w_val rfl rfl (op_pure rfl) ?_
  refine w_call rfl rfl (op_call rfl rfl rfl rfl) (put_ok (0, 0, 0) (by decide) hS) ?_
  rintro _ z ⟨rfl, hS⟩
  rw [show putA2 (0, 0, 0) _ _ = rawN l.length a y by unfold rawN; rw [if_neg h26, if_neg h33, if_neg h45]] at hS
  have hK := hS.K
  have hcnt := rawN_le l.length a y
  refine w_nil ?_
  refine out_n ?_
  refine then_n ?_
  repeat refine wc_seq ?_
  refine wc_region ?_
  refine w_val rfl rfl (op_loadC 2 hS rfl rfl rfl (Nat.le_of_ble_eq_true rfl) rfl) ?_
  refine w_val rfl rfl (op_pure rfl) ?_
  refine w_val rfl rfl (op_pure rfl) ?_
  refine w_split (i := 55) rfl (fun h55 => ?_) (fun h55 => ?_)
  · simp only [beq_iff_eq] at h55
    refine w_val rfl rfl (op_idxArr (k := 0) rfl rfl rfl rfl rfl rfl (by decide)) ?_
    refine w_val rfl rfl (op_loadC 1 hS rfl rfl rfl (Nat.le_of_ble_eq_true rfl) rfl) ?_
    refine w_val rfl rfl (op_idxArr (k := 1) rfl rfl rfl rfl rfl rfl (by decide)) ?_
    refine w_val rfl rfl (op_loadC 1 hS rfl rfl rfl (Nat.le_of_ble_eq_true rfl) rfl) ?_
    refine w_val rfl rfl (op_pure rfl) ?_
    refine w_val rfl rfl (op_pure rfl) ?_
    refine w_nil ?_
    refine then_n ?_
    repeat refine wc_seq ?_
    refine wc_condT rfl (fun h61 => ?_) (fun h61 => ?_)
    · simp only [decide_eq_true_eq, gt_iff_lt] at h61
      refine wc_region ?_
      refine w_val rfl rfl (op_idxArr (k := 1) rfl rfl rfl rfl rfl rfl (by decide)) ?_
      refine w_val rfl rfl (op_loadC 1 hS rfl rfl rfl (Nat.le_of_ble_eq_true rfl) rfl) ?_
      refine w_val rfl rfl (op_idxArr (k := 0) rfl rfl rfl rfl rfl rfl (by decide)) ?_
      refine w_val rfl rfl (op_loadC 1 hS rfl rfl rfl (Nat.le_of_ble_eq_true rfl) rfl) ?_
      refine w_val rfl rfl (op_idxArr (k := 0) rfl rfl rfl rfl rfl rfl (by decide)) ?_
      refine ws_storeL 1 hS rfl rfl rfl rfl rfl rfl (by rfl) (Nat.le_of_ble_eq_true rfl) ?_
      rintro z hS
      have hS : SH _ [_, _, _, _] z := hS
      have hK := hS.K
      refine w_val rfl rfl (op_idxArr (k := 1) rfl rfl rfl rfl rfl rfl (by decide)) ?_
      refine ws_storeL 1 hS rfl rfl rfl rfl rfl rfl (by rfl) (Nat.le_of_ble_eq_true rfl) ?_
      rintro z hS
      have hS : SH _ [_, _, _, _] z := hS
      have hK := hS.K
      refine w_nil ?_
      refine then_n ?_
      repeat refine wc_seq ?_
      have hR := Keep.refl hS.ok
      have hx1 : ∀ g ∈ [p1], g ∉ [p0] := fun g hg h => hS.dis 1 0 _ _ (by decide) rfl rfl g hg h
      have hx2 : ∀ g ∈ [p2], g ∉ [p0] := fun g hg h => hS.dis 2 0 _ _ (by decide) rfl rfl g hg h
      refine wc_draw (Old z [p0]) (by kernel_rfl) rfl ?_
      refine wo_load hR rfl rfl ((hS.pt 1 rfl).at (Nat.le_of_ble_eq_true rfl)) rfl hx1 rfl rfl ?_
      refine wo_load hR rfl rfl ((hS.pt 2 rfl).at (Nat.le_of_ble_eq_true rfl)) rfl hx2 rfl rfl ?_
      refine wo_store_all (p := .ptr p0 0 0) hR (fun g hg => hg) rfl rfl rfl rfl rfl (by rfl) rfl (hS.pt 0 rfl) (by simp [AV.gs]) ?_
      rintro z hp hk hc
      have hS := hS.upd 0 rfl hk (fun g hg => hg) (ptC (.ptr p0 0 0) _) hp (fun g hg => .inl hg)
      have hS : SH _ [_, _, _, _] z := hS
      have hK := hS.K
      refine wo_val (fun _ => rfl) rfl rfl (op_pure rfl) ?_
      refine wd_nil ?_
      refine then_n ?_
      refine wc_ret ?_
      repeat first | refine then_r ?_ | refine out_r ?_ | refine round_r ?_ | refine cut_r ?_ | refine sc_r ?_
      exact ⟨_, res_cell2 rfl rfl rfl (hS.pt 0 rfl) rfl, hK, by first
        | (have e : srtN (rawN l.length a y) = ((rawN l.length a y).2.1, (rawN l.length a y).1, (rawN l.length a y).2.2) := (by unfold srtN; rw [if_pos ⟨by omega, h61⟩])
           rw [e]; rfl)
        | (have e : srtN (rawN l.length a y) = rawN l.length a y := (by unfold srtN; rw [if_neg (by omega)])
           rw [e]; rfl)⟩
    simp only [decide_eq_false_iff_not, gt_iff_lt] at h61
    refine wc_skip ?_
    refine then_n ?_
    repeat refine wc_seq ?_
    have hR := Keep.refl hS.ok
    have hx1 : ∀ g ∈ [p1], g ∉ [p0] := fun g hg h => hS.dis 1 0 _ _ (by decide) rfl rfl g hg h
    have hx2 : ∀ g ∈ [p2], g ∉ [p0] := fun g hg h => hS.dis 2 0 _ _ (by decide) rfl rfl g hg h
    refine wc_draw (Old z [p0]) (by kernel_rfl) rfl ?_
    refine wo_load hR rfl rfl ((hS.pt 1 rfl).at (Nat.le_of_ble_eq_true rfl)) rfl hx1 rfl rfl ?_
    refine wo_load hR rfl rfl ((hS.pt 2 rfl).at (Nat.le_of_ble_eq_true rfl)) rfl hx2 rfl rfl ?_
    refine wo_store_all (p := .ptr p0 0 0) hR (fun g hg => hg) rfl rfl rfl rfl rfl (by rfl) rfl (hS.pt 0 rfl) (by simp [AV.gs]) ?_
    rintro z hp hk hc
    have hS := hS.upd 0 rfl hk (fun g hg => hg) (ptC (.ptr p0 0 0) _) hp (fun g hg => .inl hg)
    have hS : SH _ [_, _, _, _] z := hS
    have hK := hS.K
    refine wo_val (fun _ => rfl) rfl rfl (op_pure rfl) ?_
    refine wd_nil ?_
    refine then_n ?_
    refine wc_ret ?_
    repeat first | refine then_r ?_ | refine out_r ?_ | refine round_r ?_ | refine cut_r ?_ | refine sc_r ?_
    exact ⟨_, res_cell2 rfl rfl rfl (hS.pt 0 rfl) rfl, hK, by first
      | (have e : srtN (rawN l.length a y) = ((rawN l.length a y).2.1, (rawN l.length a y).1, (rawN l.length a y).2.2) := (by unfold srtN; rw [if_pos ⟨by omega, h61⟩])
         rw [e]; rfl)
      | (have e : srtN (rawN l.length a y) = rawN l.length a y := (by unfold srtN; rw [if_neg (by omega)])
         rw [e]; rfl)⟩
  simp only [beq_eq_false_iff_ne, ne_eq] at h55
  refine w_off rfl rfl ?_
  refine w_off rfl rfl ?_
  refine w_off rfl rfl ?_
  refine w_off rfl rfl ?_
  refine w_off rfl rfl ?_
  refine w_val rfl rfl (op_pure rfl) ?_
  refine w_nil ?_
  refine then_n ?_
  repeat refine wc_seq ?_
  refine wc_cond_f rfl ?_
  refine wc_skip ?_
  refine then_n ?_
  repeat refine wc_seq ?_
  have hR := Keep.refl hS.ok
  have hx1 : ∀ g ∈ [p1], g ∉ [p0] := fun g hg h => hS.dis 1 0 _ _ (by decide) rfl rfl g hg h
  have hx2 : ∀ g ∈ [p2], g ∉ [p0] := fun g hg h => hS.dis 2 0 _ _ (by decide) rfl rfl g hg h
  refine wc_draw (Old z [p0]) (by kernel_rfl) rfl ?_
  refine wo_load hR rfl rfl ((hS.pt 1 rfl).at (Nat.le_of_ble_eq_true rfl)) rfl hx1 rfl rfl ?_
  refine wo_load hR rfl rfl ((hS.pt 2 rfl).at (Nat.le_of_ble_eq_true rfl)) rfl hx2 rfl rfl ?_
  refine wo_store_all (p := .ptr p0 0 0) hR (fun g hg => hg) rfl rfl rfl rfl rfl (by rfl) rfl (hS.pt 0 rfl) (by simp [AV.gs]) ?_
  rintro z hp hk hc
  have hS := hS.upd 0 rfl hk (fun g hg => hg) (ptC (.ptr p0 0 0) _) hp (fun g hg => .inl hg)
  have hS : SH _ [_, _, _, _] z := hS
  have hK := hS.K
  refine wo_val (fun _ => rfl) rfl rfl (op_pure rfl) ?_
  refine wd_nil ?_
  refine then_n ?_
  refine wc_ret ?_
  repeat first | refine then_r ?_ | refine out_r ?_ | refine round_r ?_ | refine cut_r ?_ | refine sc_r ?_
  exact ⟨_, res_cell2 rfl rfl rfl (hS.pt 0 rfl) rfl, hK, by first
    | (have e : srtN (rawN l.length a y) = ((rawN l.length a y).2.1, (rawN l.length a y).1, (rawN l.length a y).2.2) := (by unfold srtN; rw [if_pos ⟨by omega, h61⟩])
       rw [e]; rfl)
    | (have e : srtN (rawN l.length a y) = rawN l.length a y := (by unfold srtN; rw [if_neg (by omega)])
       rw [e]; rfl)⟩
def nextA (l : List InstrL) (a : Nat) : List Int := match l[a]? with
  | some y => nextN l.length a y
  | none => []
theorem nextA_len (l : List InstrL) (a : Nat) : (nextA l a).length ≤ 2 := by
  unfold nextA
  split
  · unfold nextN; rw [List.length_take]; simp only [List.length_cons, List.length_nil]; omega
  · simp
set_option maxRecDepth 10000 in
set_option maxHeartbeats 8000000 in
theorem next_ok {s : St} {v c1 c2 c3 c4 c5 : AV} {l : List InstrL} {a : Nat} (hok : s.Ok) (hv : Row s.h 2 v (l.map inC)) (hl : l.length ≤ 2097152) (hz : ([c1, c2, c3, c4, c5, v] : List AV).all AV.leaf = true) :
    CallS Try.prog Tt Kt 63 [.agg [c1, c2, c3, c4, c5, v], .int .i64 (a : Nat)] s (fun r s' => Keep [] s s' ∧ Row s'.h 1 r ((nextA l a).map iC) ∧ (r.gs = [] → r = .nils) ∧ ∀ g ∈ r.gs, s.ctr ≤ g) := by
  refine call_of (fn := Try.f63) (nt := 27) Try.func63 rfl rfl rfl ?_
  repeat refine wc_seq ?_
  have hS := SH.start hok
  refine wc_region ?_
  refine ws_box hS rfl rfl rfl hz ?_
  rintro p0 z hS hk
  have hS : SH _ [_] z := hS
  have hK := hS.K
  refine w_val rfl rfl (op_pure rfl) ?_
  refine w_nil ?_
  refine then_n ?_
  repeat refine wc_seq ?_
  refine wc_region ?_
  refine w_val rfl rfl (op_pure rfl) ?_
  refine w_val rfl rfl (op_int (v := .bool false) rfl rfl (by decide) (by unfold intA; rw [decide_eq_false (by omega)])) ?_
  refine w_val rfl rfl (op_pure rfl) ?_
  refine w_val rfl rfl (op_pure rfl) ?_
  refine w_val rfl rfl (op_fldP rfl rfl rfl rfl (by decide)) ?_
  refine w_val rfl rfl (op_loadC 0 hS rfl rfl rfl (Nat.le_of_ble_eq_true rfl) rfl) ?_
  refine w_val rfl rfl (op_len rfl rfl rfl rfl rfl hv.slenF) ?_
  refine w_val rfl rfl (op_pure rfl) ?_
  refine w_val rfl rfl (op_pure rfl) ?_
  refine w_nil ?_
  refine then_n ?_
  repeat refine wc_seq ?_
  refine wc_condT rfl (fun h15 => ?_) (fun h15 => ?_)
  · simp only [decide_eq_true_eq, ge_iff_le] at h15
    repeat refine wc_seq ?_
    refine wc_region ?_
    refine w_val rfl rfl (op_pure rfl) ?_
    refine w_nil ?_
    refine then_n ?_
    refine wc_ret ?_
    repeat first | refine then_r ?_ | refine out_r ?_ | refine round_r ?_ | refine cut_r ?_ | refine sc_r ?_
    have e : nextA l a = [] := by unfold nextA; rw [List.getElem?_eq_none (by omega)]
    exact ⟨_, rfl, hK, by rw [e]; exact row_nils _ _, fun _ => rfl, fun g hg => by cases hg⟩
  simp only [decide_eq_false_iff_not, ge_iff_le] at h15
  refine wc_skip ?_
  refine then_n ?_
  repeat refine wc_seq ?_
  obtain ⟨y, hy⟩ : ∃ y, l[a]? = some y := ⟨_, List.getElem?_eq_getElem (by omega)⟩
  have hvz := hv.keep0 hK
  have hcnt : (srtN (rawN l.length a y)).2.2 ≤ 2 := by rw [srtN_cnt]; exact rawN_le _ _ _
  have hnx : nextA l a = nextN l.length a y := by unfold nextA; rw [hy]
  refine wc_region ?_
  refine w_val rfl rfl (op_fldP rfl rfl rfl rfl (by decide)) ?_
  refine w_val rfl rfl (op_loadC 0 hS rfl rfl rfl (Nat.le_of_ble_eq_true rfl) rfl) ?_
  refine w_val rfl rfl (op_pure rfl) ?_
  refine w_call rfl rfl (op_call rfl rfl rfl rfl) (to_ok hK.ok hvz hl hy) ?_
  rintro _ z ⟨hk, rfl⟩
  have hS := hS.mov hk
  have hK := hS.K
  refine w_val rfl rfl (op_pure rfl) ?_
  refine w_val rfl rfl (op_pure rfl) ?_
  refine w_val rfl rfl (op_pure rfl) ?_
  refine ws_alloc hS rfl rfl rfl rfl ?_
  rintro p1 z hS hk
  have hS : SH _ [_, _] z := hS
  have hK := hS.K
  refine ws_store 1 hS rfl rfl rfl rfl rfl rfl (by rfl) (Nat.le_of_ble_eq_true rfl) ?_
  rintro z hS
  have hS : SH _ [_, _] z := hS
  have hK := hS.K
  refine w_val rfl rfl (op_pure rfl) ?_
  refine w_nil ?_
  refine then_n ?_
  repeat refine wc_seq ?_
  refine wc_region ?_
  refine w_val rfl rfl (op_pure rfl) ?_
  refine w_val rfl rfl (op_cutArr rfl rfl (natA_cast _ _) rfl rfl rfl rfl hcnt (hS.pt 1 rfl) rfl) ?_
  have hrow := arr_row (hS.pt 1 rfl) (n := 2) rfl hcnt rfl
  have hlen := nextA_len l a
  have hrow : Row z.h 1 (.slc p1 0 0 1 (srtN (rawN l.length a y)).2.2 2 true) ((nextA l a).map iC) := by
    rw [List.map_take] at hrow
    rw [hnx]; unfold nextN; rw [List.map_take]; exact hrow
  refine w_call rfl rfl (op_call rfl rfl rfl rfl) (cloneInts_ok hS.ok (by rw [List.length_map]; omega) hrow (by simp [AV.gs])) ?_
  rintro rr z ⟨hk, hr, hb, hn⟩
  have hS := hS.mov hk
  have hKc := hK.ctr
  have hK := hS.K
  refine w_call rfl rfl (op_call rfl rfl rfl rfl) (clipInts_ok hr (fun e => (hn e).elim)) ?_
  rintro _ _ ⟨rfl, rfl⟩
  refine w_val rfl rfl (op_pure rfl) ?_
  refine w_nil ?_
  refine then_n ?_
  refine wc_ret ?_
  repeat first | refine then_r ?_ | refine out_r ?_ | refine round_r ?_ | refine cut_r ?_ | refine sc_r ?_
  exact ⟨_, rfl, hK, hr.clip, (fun e => by have e' : (clipA rr).gs = [] := e; rw [clipA_gs] at e'; exact (hn e').elim), fun g hg => by have hg' : g ∈ (clipA rr).gs := hg; rw [clipA_gs] at hg'; have := hb g hg'; omega⟩
end Go.Ab
