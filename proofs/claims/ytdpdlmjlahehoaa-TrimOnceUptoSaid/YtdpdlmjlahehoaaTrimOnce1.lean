/- Parts of one proof, put together: X7 H19 D25 H20 H21 D26 D27 D28 H22 D29 D30 D31 N1 N3 D32 D33 H23 D36 D37 H24 N4 D38 N5 D39 D40 H25 N6 D41 N8 D42 D43 D47 GI R1. -/
import Derived.Test.YtdpdlmjlahehoaaLinkBinds3
import Derived.ChangeArms
/- What the texts before left out. -/
namespace Go.Ab
section
variable {P : Program} {T : Tab} {K : FuncId → Option Bool}
variable {nt : Nat} {ops : Array Oper} {o : Oper} {rest : List Oper} {m : Sy} {s : St} {Q : Sy → St → Prop}
variable {D : Nat → Prop}
variable {c a b : Code} {R : Ex → Sy → St → Prop}
theorem wc_goto {l : Nat} (h : R (.goto l) m s) : WC P T K nt (.goto l) m s R := ⟨1, .goto l, m, s, h, fun n k _ hk t ht => by
  obtain ⟨k, rfl⟩ : ∃ j, k = j + 1 := ⟨k - 1, by omega⟩
  exact ⟨t, by simp only [evCode], ht⟩⟩
end
section
variable {P : Program} {T : Tab} {K : FuncId → Option Bool} {nt : Nat} {ops : Array Oper} {rest : List Oper} {m : Sy} {s s' : St} {Q : Sy → St → Prop} {op : Op} {d ty : Nat} {pos : String} {af : Array Edge} {g : Option (Nat × Bool)} {v : AV}
variable {D : Nat → Prop}
variable {a b c : Code} {R : Ex → Sy → St → Prop} {id : Nat} {I : Nat → Sy → St → Prop} {j : Nat}
theorem wd_split {i : Nat} {x : Bool} {l : List Oper} (h : m.at i = some (.bool x)) (ht : x = true → WD P T K nt ops l ((i, .bool true) :: m) s D Q) (hf : x = false → WD P T K nt ops l ((i, .bool false) :: m) s D Q) : WD P T K nt ops l m s D Q := by
  have key : ∀ m', Sub m' m → WD P T K nt ops l m' s D Q → WD P T K nt ops l m s D Q := by
    intro m' hs ⟨N, m1, s1, hq, hn⟩
    exact ⟨N, m1, s1, hq, fun n hn' t htt => hn n hn' t (htt.sub hs)⟩
  cases x with
  | true => exact key _ (Sub.cons h (Sub.refl m)) (ht rfl)
  | false => exact key _ (Sub.cons h (Sub.refl m)) (hf rfl)
end
end Go.Ab
namespace Go.Ab
section
variable {T : Tab} {nt : Nat} {m : Sy} {s : St}
theorem natA_toNat {k : IntKind} {a : Int} (h : 0 ≤ a) : natA (.int k a) = some a.toNat := by simp [natA, h]
end
end Go.Ab
namespace Go.Ab
theorem Row.cutF {H : Tr Grp} {sz : Nat} {v : AV} {α : Type} {f : α → List AV} {xs : List α} (k : Row H sz v (xs.map f)) {h : Nat} (hh : h ≤ xs.length) : Row H sz (cutA v 0 h) ((xs.take h).map f) := by
  have := k.cut (Nat.zero_le h) (by rwa [List.length_map])
  rw [List.drop_zero, Nat.sub_zero, ← List.map_take] at this
  exact this

section
variable {P : Program} {T : Tab} {K : FuncId → Option Bool} {nt : Nat} {ops : Array Oper} {rest : List Oper} {m : Sy} {s : St} {Q : Sy → St → Prop} {d ty : Nat} {pos : String} {af : Array Edge} {g : Option (Nat × Bool)}
end
end Go.Ab
namespace Go.Ab
section
variable {P : Program} {T : Tab} {K : FuncId → Option Bool} {nt : Nat} {ops : Array Oper} {rest : List Oper} {m : Sy} {s s0 : St} {Q : Sy → St → Prop} {d ty : Nat} {pos : String} {af : Array Edge} {g : Option (Nat × Bool)} {op : Op} {v : AV} {X : List Nat}
theorem wo_off (hg : guardY ops m g = some false) (hd : Nat.ble (d + 1) nt = true) (k : WD P T K nt ops rest ((d, .undef) :: m) s (Old s0 X) Q) :
    WD P T K nt ops (⟨some d, op, ty, pos, af, g⟩ :: rest) m s (Old s0 X) Q := by
  obtain ⟨N, m', s', hq, hn⟩ := k
  refine ⟨N, m', s', hq, fun n hn' t ht => ?_⟩
  obtain ⟨t2, es, e2, ht2, he⟩ := hn n hn' (t.set d .undef) (ht.set .undef (Nat.le_of_ble_eq_true hd))
  refine ⟨t2, ⟨none, [], none⟩ :: es, ?_, ht2, ?_⟩
  · rw [List.map_cons, evLog]
    have e1 : evStep T (evCallK P T K n) ops ⟨some d, op, ty, pos, af, g⟩ t s.bare = some (t.set d .undef, s.bare) := by rw [evStep, guardY_ok ht hg]; rfl
    rw [show ({ s with wr := [] } : St) = s.bare from rfl, e1]
    simp only [guardY_ok ht hg]
    rw [show ({ s.bare with wr := s.bare.wr ++ s.wr } : St) = s from rfl, e2]
    rfl
  · intro e hm
    rcases List.mem_cons.1 hm with rfl | hm
    · refine ⟨rfl, fun g hg => ?_, fun g hg => ?_⟩
      · simp at hg
      · simp at hg
    · exact he e hm
theorem wo_split {i : Nat} {x : Bool} {l : List Oper} (h : m.at i = some (.bool x)) (ht : x = true → WD P T K nt ops l ((i, .bool true) :: m) s (Old s0 X) Q) (hf : x = false → WD P T K nt ops l ((i, .bool false) :: m) s (Old s0 X) Q) : WD P T K nt ops l m s (Old s0 X) Q := wd_split h ht hf
end
end Go.Ab
namespace Go.Ab
open Go.Proofs
set_option maxRecDepth 10000 in
theorem cloneInts_ok {s : St} {v : AV} {cs : List (List AV)} (hok : s.Ok) (hl : cs.length ≤ 2097152) (hv : Row s.h 1 v cs) (hg : v.gs ≠ []) :
    CallS Try.prog Tt Kt 100 [v] s (fun r s' => Keep [] s s' ∧ Row s'.h 1 r cs ∧ (∀ g ∈ r.gs, s.ctr ≤ g) ∧ r.gs ≠ []) := by
  refine call_of (fn := Try.f100) (nt := 8) Try.func100 rfl rfl rfl ?_
  repeat refine wc_seq ?_
  refine wc_region ?_
  refine w_val rfl rfl (op_pure rfl) ?_
  refine w_nil ?_
  refine then_n ?_
  repeat refine wc_seq ?_
  refine wc_region ?_
  refine w_val rfl rfl (op_pure rfl) ?_
  refine w_val rfl rfl (op_isnil rfl rfl rfl rfl hv hg) ?_
  refine w_nil ?_
  refine then_n ?_
  repeat refine wc_seq ?_
  refine wc_condT rfl (fun h4 => ?_) (fun h4 => ?_)
  · cases h4
  clear h4
  refine wc_skip ?_
  refine then_n ?_
  repeat refine wc_seq ?_
  refine wc_region ?_
  refine w_lit0 rfl rfl rfl rfl rfl rfl (by decide) hok ?_
  rintro a s1 ha hk1 hc1 hga
  have hv1 := hv.keep0 hk1
  refine w_val rfl rfl (op_pure rfl) ?_
  refine w_append rfl rfl rfl rfl rfl rfl rfl rfl rfl (by decide) hk1.ok ha (fun e => by rw [hga] at e; cases e) hv1 (by simp only [List.length_nil, maxBytes]; omega) (by simp only [List.length_nil, maxBytes]; omega) ?_
  rintro r s2 hr hk2 hc2 hgr - -
  rw [List.nil_append] at hr
  refine w_val rfl rfl (op_pure rfl) ?_
  refine w_nil ?_
  refine then_n ?_
  refine wc_ret ?_
  repeat first | refine then_r ?_ | refine out_r ?_ | refine round_r ?_ | refine cut_r ?_ | refine sc_r ?_
  refine ⟨_, rfl, hk1.fresh hk2 (by rw [hga]; exact mem_none _), hr, ?_, ?_⟩
  · show ∀ g ∈ r.gs, _
    rcases hgr with e | e
    · rw [e, hga]; exact mem_none _
    · rw [e]; intro g hg; rw [List.mem_singleton.1 hg]; omega
  · show r.gs ≠ []
    rcases hgr with e | e
    · rw [e, hga]; exact fun e => by cases e
    · rw [e]; exact fun e => by cases e
end Go.Ab
/- What a function owns, in one list of chunks: each with its groups, all apart; rules that turn the list. -/
namespace Go.Ab
structure Chunk where
  F : Nat → Prop
  P : Tr Grp → Prop
  kp : ∀ {Y : List Nat} {s s' : St}, P s.h → Keep Y s s' → (∀ g ∈ Y, ¬ F g) → P s'.h
def ptC (p : AV) (cs : List AV) : Chunk := ⟨fun g => g ∈ p.gs, fun h => Pt h p cs, fun k h hY => k.keep h fun g hg hy => hY g hy hg⟩
def rowC (v : AV) (sz : Nat) (css : List (List AV)) : Chunk := ⟨fun g => g ∈ v.gs, fun h => Row h sz v css ∧ (v.gs = [] → v = .nils), fun k h hY => ⟨k.1.keep h fun g hg hy => hY g hy hg, k.2⟩⟩
structure SH (s0 : St) (L : List Chunk) (s : St) : Prop where
  K : Keep [] s0 s
  own : ∀ (i : Nat) (c : Chunk), L[i]? = some c → c.P s.h ∧ ∀ g, c.F g → s0.ctr ≤ g ∧ g < s.ctr
  dis : ∀ (i j : Nat) (c d : Chunk), i ≠ j → L[i]? = some c → L[j]? = some d → ∀ g, c.F g → ¬ d.F g
section
variable {s0 s s' : St} {L : List Chunk} {c c' d : Chunk} {i j : Nat} {Y : List Nat}
theorem SH.ok (h : SH s0 L s) : s.Ok := h.K.ok
theorem SH.start (hok : s.Ok) : SH s [] s := ⟨Keep.refl hok, fun i c h => by simp at h, fun i j c d _ h => by simp at h⟩
theorem SH.get (h : SH s0 L s) (i : Nat) (hi : L[i]? = some c) : c.P s.h := (h.own i c hi).1
theorem SH.bd (h : SH s0 L s) (i : Nat) (hi : L[i]? = some c) : ∀ g, c.F g → s0.ctr ≤ g ∧ g < s.ctr := (h.own i c hi).2
theorem SH.row {v : AV} {sz : Nat} {css : List (List AV)} (h : SH s0 L s) (i : Nat) (hi : L[i]? = some (rowC v sz css)) : Row s.h sz v css := (h.get i hi).1
theorem SH.nls {v : AV} {sz : Nat} {css : List (List AV)} (h : SH s0 L s) (i : Nat) (hi : L[i]? = some (rowC v sz css)) : v.gs = [] → v = .nils := (h.get i hi).2
theorem SH.pt {p : AV} {cs : List AV} (h : SH s0 L s) (i : Nat) (hi : L[i]? = some (ptC p cs)) : Pt s.h p cs := h.get i hi
theorem SH.mov (h : SH s0 L s) (k : Keep [] s s') : SH s0 L s' :=
  ⟨h.K.two k, fun i c hi => ⟨c.kp (h.own i c hi).1 k (fun g hg => by cases hg), fun g hg => ⟨((h.own i c hi).2 g hg).1, Nat.lt_of_lt_of_le ((h.own i c hi).2 g hg).2 k.ctr⟩⟩, h.dis⟩
theorem SH.add (h : SH s0 L s) (k : Keep [] s s') (c : Chunk) (hP : c.P s'.h) (hF : ∀ g, c.F g → s.ctr ≤ g ∧ g < s'.ctr) : SH s0 (L ++ [c]) s' := by
  have hm := h.mov k
  have hc := h.K.ctr
  have key : ∀ (i : Nat) (x : Chunk), (L ++ [c])[i]? = some x → (i < L.length ∧ L[i]? = some x) ∨ (i = L.length ∧ x = c) := by
    intro i x hi
    by_cases hl : i < L.length
    · rw [List.getElem?_append_left hl] at hi; exact .inl ⟨hl, hi⟩
    · have h1 := (List.getElem?_eq_some_iff.1 hi).1
      rw [List.length_append, List.length_singleton] at h1
      have e : i = L.length := by omega
      subst e
      rw [List.getElem?_append_right (Nat.le_refl _), Nat.sub_self] at hi
      simp at hi
      exact .inr ⟨rfl, hi.symm⟩
  refine ⟨hm.K, fun i x hi => ?_, fun i j x y hij hi hj g hx hy => ?_⟩
  · rcases key i x hi with ⟨-, h1⟩ | ⟨-, rfl⟩
    · exact hm.own i x h1
    · exact ⟨hP, fun g hg => ⟨Nat.le_trans hc (hF g hg).1, (hF g hg).2⟩⟩
  · rcases key i x hi with ⟨h0, h1⟩ | ⟨h1, rfl⟩ <;> rcases key j y hj with ⟨k0, k1⟩ | ⟨k1, rfl⟩
    · exact h.dis i j x y hij h1 k1 g hx hy
    · have := (h.own i x h1).2 g hx; have := hF g hy; omega
    · have := (h.own j y k1).2 g hy; have := hF g hx; omega
    · omega
theorem getElem?_set_cases {α : Type} {L : List α} {i j : Nat} {c x : α} (h : (L.set i c)[j]? = some x) : (j = i ∧ x = c ∧ i < L.length) ∨ (j ≠ i ∧ L[j]? = some x) := by
  rw [List.getElem?_set] at h
  split at h
  · rename_i e
    split at h
    · cases h; exact .inl ⟨e.symm, rfl, by omega⟩
    · cases h
  · exact .inr ⟨by omega, h⟩
theorem SH.upd (h : SH s0 L s) (i : Nat) (hi : L[i]? = some c) (k : Keep Y s s') (hY : ∀ g ∈ Y, c.F g) (c' : Chunk) (hP : c'.P s'.h) (hF : ∀ g, c'.F g → c.F g ∨ (s.ctr ≤ g ∧ g < s'.ctr)) : SH s0 (L.set i c') s' := by
  have hc := h.K.ctr
  have hk := k.ctr
  refine ⟨h.K.fresh k fun g hg => ((h.own i c hi).2 g (hY g hg)).1, fun j x hj => ?_, fun a b x y hab ha hb g hx hy => ?_⟩
  · rcases getElem?_set_cases hj with ⟨-, rfl, -⟩ | ⟨hne, hj⟩
    · refine ⟨hP, fun g hg => ?_⟩
      rcases hF g hg with h1 | h1
      · have := (h.own i c hi).2 g h1; omega
      · omega
    · obtain ⟨k1, k2⟩ := h.own j x hj
      refine ⟨x.kp k1 k fun g hg hx => h.dis j i x c hne hj hi g hx (hY g hg), fun g hg => ?_⟩
      have := k2 g hg; omega
  · rcases getElem?_set_cases ha with ⟨e1, e1', -⟩ | ⟨hne, ha'⟩ <;> rcases getElem?_set_cases hb with ⟨e2, e2', -⟩ | ⟨hne2, hb'⟩
    · omega
    · rw [e1'] at hx
      rcases hF g hx with h1 | h1
      · exact h.dis i b c y (by omega) hi hb' g h1 hy
      · have := (h.own b y hb').2 g hy; omega
    · rw [e2'] at hy
      rcases hF g hy with h1 | h1
      · exact h.dis a i x c (by omega) ha' hi g hx h1
      · have := (h.own a x ha').2 g hx; omega
    · exact h.dis a b x y hab ha' hb' g hx hy
/-- The same memory, told otherwise. -/
theorem SH.as (h : SH s0 L s) (i : Nat) (hi : L[i]? = some c) (c' : Chunk) (hP : c'.P s.h) (hF : ∀ g, c'.F g → c.F g) : SH s0 (L.set i c') s :=
  h.upd i hi (Keep.refl h.ok) (fun g hg => by cases hg) c' hP fun g hg => .inl (hF g hg)
def pickL (L : List Chunk) : List Nat → Option (List Chunk)
  | [] => some []
  | j :: r => match L[j]?, pickL L r with
    | some c, some l => some (c :: l)
    | _, _ => none
theorem pickL_get : ∀ {js : List Nat} {L L' : List Chunk}, pickL L js = some L' → ∀ (i : Nat) (c : Chunk), L'[i]? = some c → ∃ j, js[i]? = some j ∧ L[j]? = some c
  | [], L, L', h, i, c, hi => by cases h; simp at hi
  | j :: r, L, L', h, i, c, hi => by
    unfold pickL at h
    split at h
    · rename_i x l hx hl
      cases h
      cases i with
      | zero => simp at hi; subst hi; exact ⟨j, rfl, hx⟩
      | succ i =>
        obtain ⟨k, h1, h2⟩ := pickL_get hl i c (by simpa using hi)
        exact ⟨k, by simpa using h1, h2⟩
    · cases h
/-- Some of the chunks, in another order. -/
theorem SH.sel {L' : List Chunk} (h : SH s0 L s) (js : List Nat) (hL : pickL L js = some L') (hn : js.Nodup) : SH s0 L' s := by
  refine ⟨h.K, fun i c hi => ?_, fun a b x y hab ha hb => ?_⟩
  · obtain ⟨k, -, h2⟩ := pickL_get hL i c hi
    exact h.own k c h2
  · obtain ⟨p, p1, p2⟩ := pickL_get hL a x ha
    obtain ⟨q, q1, q2⟩ := pickL_get hL b y hb
    refine h.dis p q x y (fun e => hab ?_) p2 q2
    subst e
    exact (List.getElem?_inj (List.getElem?_eq_some_iff.1 p1).1 hn).1 (p1.trans q1.symm)
theorem SH.nil (h : SH s0 L s) (sz : Nat) : SH s0 (L ++ [rowC .nils sz []]) s := h.add (Keep.refl h.ok) _ ⟨rfl, fun _ => rfl⟩ fun g hg => by cases hg
end
theorem row_newb {s s' : St} {sz : Nat} {v : AV} {css : List (List AV)} (_k : Keep [] s s') (_h : Row s'.h sz v css) (hv : v.gs = [s.ctr]) (hc : s'.ctr = s.ctr + 1) : ∀ g ∈ v.gs, s.ctr ≤ g ∧ g < s'.ctr := fun g hg => by
  rw [hv] at hg; rw [List.mem_singleton.1 hg]; omega
section
variable {P : Program} {T : Tab} {K : FuncId → Option Bool} {nt : Nat} {ops : Array Oper} {rest : List Oper} {m : Sy} {s s0 : St} {Q : Sy → St → Prop} {d ty : Nat} {pos : String} {af : Array Edge} {g : Option (Nat × Bool)} {L : List Chunk}
theorem ws_alloc {e : TypeId} {i : TI} (hS : SH s0 L s) (hg : guardY ops m g = some true) (hd : Nat.ble (d + 1) nt = true) (hT : T e = some i) (hz : i.zero.all AV.leaf = true)
    (k : ∀ c s', SH s0 (L ++ [ptC (.ptr c 0 0) i.zero]) s' → Keep [] s s' → W P T K nt ops rest ((d, .ptr c 0 0) :: m) s' Q) : W P T K nt ops (⟨some d, .alloc e, ty, pos, af, g⟩ :: rest) m s Q := by
  refine w_alloc hg hd hT hz hS.ok fun s' hp hk hc => k _ s' (hS.add hk _ hp fun g hg => ?_) hk
  rw [List.mem_singleton.1 hg]; omega
theorem ws_box {e : TypeId} {x : Operand} {v : AV} (hS : SH s0 L s) (hg : guardY ops m g = some true) (hd : Nat.ble (d + 1) nt = true) (hx : evY m x = some v) (hz : v.cells.all AV.leaf = true)
    (k : ∀ c s', SH s0 (L ++ [ptC (.ptr c 0 0) v.cells]) s' → Keep [] s s' → W P T K nt ops rest ((d, .ptr c 0 0) :: m) s' Q) : W P T K nt ops (⟨some d, .box e x, ty, pos, af, g⟩ :: rest) m s Q := by
  refine w_box hg hd hx hz hS.ok fun s' hp hk hc => k _ s' (hS.add hk _ hp fun g hg => ?_) hk
  rw [List.mem_singleton.1 hg]; omega
theorem ws_store {tt : TypeId} {a x : Operand} {i : TI} {u : AV} {c o : Nat} {cs : List AV} (n : Nat) (hS : SH s0 L s) (hn : L[n]? = some (ptC (.ptr c 0 0) cs)) (hg : guardY ops m g = some true) (ha : evY m a = some (.ptr c 0 o)) (hx : evY m x = some u) (hT : T tt = some i) (hl : u.cells.length = i.size)
    (hz : u.cells.all AV.leaf = true) (hlo : o + u.cells.length ≤ cs.length)
    (k : ∀ s', SH s0 (L.set n (ptC (.ptr c 0 0) (over cs o u.cells))) s' → W P T K nt ops rest m s' Q) : W P T K nt ops (⟨none, .store tt a x, ty, pos, af, g⟩ :: rest) m s Q := by
  refine w_store_fld (o := o) hg (p := .ptr c 0 0) (by rw [ha]; simp only [fldA, Nat.zero_add]) hx hT hl hz hS.ok (hS.pt n hn) (by simp [AV.gs]) hlo fun s' hp hk hc => k s' (hS.upd n hn hk (fun g hg => hg) _ hp fun g hg => .inl hg)
theorem ws_storeL {tt : TypeId} {a x : Operand} {i : TI} {u : AV} {c o : Nat} {cs : List AV} (n : Nat) (hS : SH s0 L s) (hn : L[n]? = some (ptC (.ptr c 0 0) cs)) (hg : guardY ops m g = some true) (ha : evY m a = some (.ptr c 0 o)) (hx : evY m x = some u) (hT : T tt = some i) (h1 : i.size = 1)
    (hu : u.leaf = true) (hlo : o < cs.length)
    (k : ∀ s', SH s0 (L.set n (ptC (.ptr c 0 0) (cs.set o u))) s' → W P T K nt ops rest m s' Q) : W P T K nt ops (⟨none, .store tt a x, ty, pos, af, g⟩ :: rest) m s Q := by
  have hc : u.cells = [u] := AV.cells_leaf hu
  refine ws_store n hS hn hg ha hx hT (by rw [hc, h1]; rfl) (by rw [hc]; simp [hu]) (by rw [hc]; exact hlo) fun s' h => k s' ?_
  have : over cs o u.cells = cs.set o u := by
    rw [hc]; unfold over
    rw [List.set_eq_take_append_cons_drop, if_pos hlo]
    simp
  rwa [this] at h
theorem op_fldP {st : TypeId} {x : Operand} {f : Nat} {i : TI} {fs : List (Nat × Nat × Bool)} {off sz : Nat} {ag : Bool} {c j o : Nat} (hx : evY m x = some (.ptr c j o)) (hT : T st = some i) (hs : i.sh = .struct fs) (hf : fs[f]? = some (off, sz, ag)) (hz : sz ≠ 0) :
    ∀ t, Has t nt m → evOp T (.fieldAddr st x f) t s = some (.val (.ptr c j (o + off)), s) := by
  intro t ht
  obtain ⟨sh, size, bytes, zero, flat⟩ := i
  cases hs
  simp only [evOp, hT, hf, evY_ok ht hx, hz, if_false]
theorem Pt.at {h : Tr Grp} {c o : Nat} {cs : List AV} (k : Pt h (.ptr c 0 0) cs) (ho : o ≤ cs.length) : Pt h (.ptr c 0 o) (cs.drop o) := by
  have := k.fld o ho
  rwa [fldA, Nat.zero_add] at this
theorem op_loadC {tt : TypeId} {a : Operand} {i : TI} {c o : Nat} {v : AV} {cs : List AV} (n : Nat) (hS : SH s0 L s) (hn : L[n]? = some (ptC (.ptr c 0 0) cs)) (hx : evY m a = some (.ptr c 0 o)) (hT : T tt = some i) (ho : o ≤ cs.length) (hc : loadC i (cs.drop o) = some v) :
    ∀ t, Has t nt m → evOp T (.load tt a) t s = some (.val v, s) := op_load hx hT ((hS.pt n hn).at ho) hc
theorem ws_append {tt e : TypeId} {x y : Operand} {args : Array Operand} {tys : Array TypeId} {i ie : TI} {a b : AV} {sz : Nat} {cs ns : List (List AV)} (n : Nat) (hS : SH s0 L s) (hn : L[n]? = some (rowC a sz cs)) (hg : guardY ops m g = some true) (hd : Nat.ble (d + 1) nt = true) (h1 : args.toList = [x, y]) (h2 : tys.toList = [tt, tt])
    (hx : evY m x = some a) (hy : evY m y = some b) (hT : T tt = some i) (hs : i.sh = .slice e) (he : T e = some ie) (hsz : ie.size = sz) (h0 : sz ≠ 0) (hb : Row s.h sz b ns)
    (hb1 : (cs.length + ns.length) * ie.bytes ≤ maxBytes) (hb2 : cs.length + ns.length ≤ maxBytes)
    (k : ∀ v s', SH s0 (L.set n (rowC v sz (cs ++ ns))) s' → W P T K nt ops rest ((d, v) :: m) s' Q) :
    W P T K nt ops (⟨some d, .call ⟨.builtin .append, args, tys⟩, ty, pos, af, g⟩ :: rest) m s Q := by
  subst hsz
  refine w_append hg hd h1 h2 hx hy hT hs he h0 hS.ok (hS.row n hn) (hS.nls n hn) hb hb1 hb2 fun v s' hv hk hle hvg hvn _ => k v s' (hS.upd n hn hk (fun g hg => hg) _ ⟨hv, hvn⟩ fun g hg => ?_)
  rcases hvg with h | h
  · exact .inl (by have hg : _ ∈ v.gs := hg; rwa [h] at hg)
  · have hg : _ ∈ v.gs := hg
    exact .inr ⟨by rw [h] at hg; rw [List.mem_singleton.1 hg]; exact Nat.le_refl _, hv.lt hk.ok _ hg⟩
/-- append of one element that was just built. -/
theorem ws_lit1 {tt e : TypeId} {parts : Array (Nat × Operand)} {i ie : TI} {ps : List (Nat × AV)} {c : List AV} {sz : Nat} (hS : SH s0 L s) (hg : guardY ops m g = some true) (hd : Nat.ble (d + 1) nt = true) (hT : T tt = some i) (hs : i.sh = .slice e) (he : T e = some ie) (hp : evPartsY m parts.toList = some ps)
    (hsz : ie.size = sz) (hz : ie.zero.length = ie.size) (h0 : ie.size ≠ 0) (h24 : ie.size ≤ 2 ^ 24) (hf : fillA (fun n => some (n * ie.size, ie.size)) ie.zero ps = some c) (hl : c.all AV.leaf = true) (hcl : c.length = ie.size)
    (k : ∀ v s', SH s0 L s' → Keep [] s s' → Row s'.h sz v [c] → W P T K nt ops rest ((d, v) :: m) s' Q) : W P T K nt ops (⟨some d, .buildSlice tt 1 parts, ty, pos, af, g⟩ :: rest) m s Q := by
  subst hsz
  exact w_lit1 hg hd hT hs he hp hz h0 h24 hf hl hcl hS.ok fun v s' hv hk hc hvg => k v s' (hS.mov hk) hk hv
theorem ws_storeE {tt : TypeId} {a x : Operand} {i : TI} {r u : AV} {j sz : Nat} {cs : List (List AV)} (n : Nat) (hS : SH s0 L s) (hn : L[n]? = some (rowC r sz cs)) (hg : guardY ops m g = some true) (ha : evY m a = some (elemA r j)) (hx : evY m x = some u) (hT : T tt = some i) (hl : u.cells.length = i.size) (hsz : i.size = sz)
    (hz : u.cells.all AV.leaf = true) (hj : j < cs.length)
    (k : ∀ s', SH s0 (L.set n (rowC r sz (cs.set j u.cells))) s' → W P T K nt ops rest m s' Q) : W P T K nt ops (⟨none, .store tt a x, ty, pos, af, g⟩ :: rest) m s Q := by
  have hr := hS.row n hn
  have hne : r.gs ≠ [] := fun h => by
    have := hS.nls n hn h
    subst this
    cases (hr : cs = [])
    simp at hj
  exact w_store_row hg ha hx hT hl hsz hz hS.ok hr hne hj fun s' hv hk hc => k s' (hS.upd n hn hk (fun g hg => hg) _ ⟨hv, fun h => (hne h).elim⟩ fun g hg => .inl hg)
end
end Go.Ab
/- link.Link. -/
namespace Go.Ab
open Go.Proofs
end Go.Ab
/- Appending, with what it leaves of the rows of the same group; several rows that are apart. -/
namespace Go.Ab
/-- What appending leaves. -/
structure AppK (a v : AV) (s s' : St) (k : Nat) : Prop where
  fin : v.gs = a.gs → a.gs ≠ [] → finA s'.h v = finA s.h a + k
  rows : ∀ {sz' : Nat} {r : AV} {rs : List (List AV)}, Row s.h sz' r rs → (∀ g ∈ r.gs, g ∈ a.gs → finA s.h r ≤ finA s.h a) → Row s'.h sz' r rs ∧ finA s'.h r = finA s.h r
section
variable {P : Program} {T : Tab} {K : FuncId → Option Bool} {nt : Nat} {ops : Array Oper} {rest : List Oper} {m : Sy} {s s0 : St} {Q : Sy → St → Prop} {d ty : Nat} {pos : String} {af : Array Edge} {g : Option (Nat × Bool)} {L : List Chunk}
end
/-- Rows by number; of each, what G says. -/
def RowsI {α : Type} (h : Tr Grp) (sz : Nat) (f : α → List AV) (data : List (AV × List α)) (G : Nat → List α → Prop) : Prop :=
  ∀ (q : Nat) (p : AV × List α), data[q]? = some p → ∃ xs : List α, xs.length = p.2.length ∧ Row h sz p.1 (xs.map f) ∧ G q xs
section
variable {α : Type} {sz : Nat} {f : α → List AV} {data : List (AV × List α)} {G G' : Nat → List α → Prop} {s s' : St}
def fullM (mk : Nat → Nat → α) (i n : Nat) : List α := (List.range n).map (mk i)
/-- All rows are written full. -/
def FullG (mk : Nat → Nat → α) (q : Nat) (xs : List α) : Prop := xs = fullM mk q xs.length
end
end Go.Ab
/- Rows that were handed out, written full and gone on with. -/
namespace Go.Ab
section
variable {α : Type} {s : St} {sz : Nat} {f : α → List AV} {data : List (AV × List α)} {mk tl : Nat → Nat → α} {i cut : Nat} {ms : List AV} {F : AV} {z z' : St} {p : AV × List α}
structure Ap2 (s : St) (sz : Nat) (f : α → List AV) (data : List (AV × List α)) (mk tl : Nat → Nat → α) (i cut : Nat) (ms : List AV) (F : AV) (z : St) : Prop where
  K : Keep (data.flatMap (·.1.gs)) s z
  old : RowsI z.h sz f data (FullG mk)
  len : ms.length = i
  new : ∀ (j : Nat) (w : AV) (p : AV × List α), ms[j]? = some w → data[j]? = some p → Row z.h sz w ((fullM mk j p.2.length ++ fullM tl j 30).map f) ∧ ∀ g ∈ w.gs, g ∈ p.1.gs ∨ (s.ctr ≤ g ∧ g < cut)
  rF : Row z.h 1 F (ms.map fun w => [w])
  Fb : ∀ g ∈ F.gs, s.ctr ≤ g ∧ g < cut
  Fn : F.gs = [] → F = .nils
  dis : ∀ (j : Nat) (w : AV), ms[j]? = some w → Dis w F
  cutb : s.ctr ≤ cut ∧ cut ≤ z.ctr
end
section
variable {T : Tab} {nt : Nat} {m : Sy} {s : St}
end
end Go.Ab
/- Lists that were handed out are written over: they are apart. -/
namespace Go.Ab
open Go.Proofs
end Go.Ab
/- Modules that were handed out. -/
namespace Go.Ab
open Go.Proofs
abbrev MD := ModL × MemM
structure Mods (h : Tr Grp) (data : List MD) : Prop where
  ok : ∀ q ∈ data, ModO h q.1 q.2
  small : ∀ q ∈ data, q.1.small ∧ q.1.funcs.length ≤ 1000
  dis : data.Pairwise fun p q => ∀ u ∈ p.2.all, ∀ w ∈ q.2.all, Dis u w
  len : data.length ≤ 100
section
variable {s s' : St} {data : List MD}
end
def fnD (q : MD) : AV × List (List AV) := (q.2.vf, q.2.fs.map fC)
theorem map_pair {data : List MD} : data.map (fun q => (q.2.vf, q.2.fs.map fC)) = data.map fnD := rfl
section
variable {data : List MD} {i k : Nat} {q : MD} {f : FM} {s : St}
end
end Go.Ab
/- louverlaw27.LinkTwo. -/
namespace Go.Ab
open Go.Proofs
end Go.Ab
/- A row under construction takes over what its new element owns. -/
namespace Go.Ab
section
variable {P : Program} {T : Tab} {K : FuncId → Option Bool} {nt : Nat} {ops : Array Oper} {rest : List Oper} {m : Sy} {s s0 : St} {Q : Sy → St → Prop} {d ty : Nat} {pos : String} {af : Array Edge} {g : Option (Nat × Bool)} {L : List Chunk} {α : Type}
end
end Go.Ab
/- Labels within labels; what Bind asks of two functions, and how it turns an instruction. -/
namespace Go.Ab
open Go.Proofs
end Go.Ab
/- link.Bind. -/
namespace Go.Ab
open Go.Proofs
end Go.Ab
/- The document's Bind. -/
namespace Go.Ab
open Go.Proofs
end Go.Ab
/- Which functions a function calls, directly and through others. -/
namespace Go.Ab
open Go.Proofs
def CEdge (m : ModL) (a b : Nat) : Prop := ∃ x y, m.funcs[a]? = some x ∧ y ∈ x.code ∧ y.op = 45 ∧ y.a = (b : Int)
inductive Rch (m : ModL) (f : Nat) : Nat → Prop where
  | here : Rch m f f
  | step {a b : Nat} : Rch m f a → CEdge m a b → Rch m f b
/-- Is it marked? -/
def Tk (l : List Bool) (k : Nat) : Prop := l[k]? = some true
def cntF (l : List Bool) : Nat := l.countP (!·)
theorem cntF_set {l : List Bool} {a : Nat} (h : l[a]? = some false) : cntF (l.set a true) + 1 = cntF l := by
  obtain ⟨h1, h2⟩ := List.getElem?_eq_some_iff.1 h
  unfold cntF
  rw [List.countP_set h1, h2]
  have : 0 < l.countP (!·) := List.countP_pos_iff.2 ⟨false, List.mem_of_getElem? h, rfl⟩
  simp
  omega
theorem Tk_set {l : List Bool} {a k : Nat} (ha : a < l.length) : Tk (l.set a true) k ↔ (k = a ∨ Tk l k) := by
  unfold Tk
  rw [List.getElem?_set]
  by_cases e : a = k
  · subst e; simp [ha]
  · simp [e, Ne.symm e]
/-- What a walk from a marks. -/
structure Dfs (m : ModL) (a : Nat) (l l' : List Bool) : Prop where
  len : l'.length = l.length
  mono : ∀ k, Tk l k → Tk l' k
  here : Tk l' a
  new : ∀ k, Tk l' k → ¬ Tk l k → Rch m a k ∧ ∀ b, CEdge m k b → Tk l' b
/-- What the walk over the instructions of a has marked; l1: a is marked too. -/
structure DfsI (m : ModL) (a : Nat) (x : FuncL) (l l1 : List Bool) (q : Nat) : Prop where
  len : l1.length = l.length
  mono : ∀ k, Tk l k → Tk l1 k
  here : Tk l1 a
  new : ∀ k, Tk l1 k → ¬ Tk l k → k ≠ a → Rch m a k ∧ ∀ b, CEdge m k b → Tk l1 b
  done : ∀ (i : Nat) (y : InstrL) (b : Nat), i < q → x.code[i]? = some y → y.op = 45 → y.a = (b : Int) → Tk l1 b
/-- The numbers of the marked ones. -/
def numL (l : List Bool) (k : Nat) : List Int := ((List.range k).filter fun i => l.getD i false).map fun i : Nat => (i : Int)
theorem numL_zero (l : List Bool) : numL l 0 = [] := rfl
def bC (b : Bool) : List AV := [.bool b]
end Go.Ab
/- Where an address of code comes to. -/
namespace Go.Ab
theorem pigeon : ∀ (n : Nat) (f : Nat → Nat), (∀ i, i ≤ n → f i < n) → ∃ i j, i < j ∧ j ≤ n ∧ f i = f j := by
  intro n
  induction n with
  | zero => intro f h; exact absurd (h 0 (Nat.le_refl _)) (Nat.not_lt_zero _)
  | succ n ih =>
    intro f h
    by_cases e : ∃ i, i ≤ n ∧ f i = f (n + 1)
    · obtain ⟨i, h1, h2⟩ := e
      exact ⟨i, n + 1, by omega, Nat.le_refl _, h2⟩
    · have hne : ∀ i, i ≤ n → f i ≠ f (n + 1) := fun i hi he => e ⟨i, hi, he⟩
      have hv := h (n + 1) (Nat.le_refl _)
      obtain ⟨i, j, h1, h2, h3⟩ := ih (fun i => if f i = n then f (n + 1) else f i) fun i hi => by
        have h1 := h i (by omega)
        have h2 := hne i hi
        split <;> omega
      refine ⟨i, j, h1, by omega, ?_⟩
      have k1 := hne i (by omega)
      have k2 := hne j h2
      split at h3 <;> split at h3 <;> omega
/-- The address behind one that is passed; none: it stops there. -/
def stepC (l : List InstrL) (a : Nat) : Option Nat := match l[a]? with
  | some y => if y.op = 42 then some (a + 1) else if y.op = 43 then some y.a.toNat else none
  | none => none
def iterC (l : List InstrL) (a : Nat) : Nat → Option Nat
  | 0 => some a
  | k + 1 => (iterC l a k).bind (stepC l)
def branchI (y : InstrL) : Bool := y.op == 43 || y.op == 44
def badI (n : Int) (y : InstrL) : Bool := branchI y && (decide (y.a < 0) || decide (n ≤ y.a))
def rightC (l : List InstrL) : Bool := match l.getLast? with
  | none => false
  | some z => (z.op == 43 || z.op == 46) && !l.any (badI l.length)
section
variable {l : List InstrL} {a b c k : Nat}
theorem rightC_jump (h : rightC l = true) {y : InstrL} (hy : y ∈ l) (ho : y.op = 43 ∨ y.op = 44) : 0 ≤ y.a ∧ y.a < (l.length : Int) := by
  unfold rightC at h
  split at h
  · cases h
  · simp only [Bool.and_eq_true, Bool.not_eq_true', List.any_eq_false] at h
    have := h.2 y hy
    have hb : branchI y = true := by unfold branchI; rcases ho with e | e <;> simp [e]
    unfold badI at this
    rw [hb] at this
    simp at this
    omega
theorem rightC_last (h : rightC l = true) (ha : a + 1 = l.length) {y : InstrL} (hy : l[a]? = some y) : y.op = 43 ∨ y.op = 46 := by
  unfold rightC at h
  split at h
  · cases h
  · rename_i z hz
    rw [List.getLast?_eq_getElem?, show l.length - 1 = a by omega, hy] at hz
    cases hz
    simp only [Bool.and_eq_true, Bool.or_eq_true, beq_iff_eq] at h
    exact h.1
theorem step_in (h : rightC l = true) (hs : stepC l a = some b) : b < l.length := by
  unfold stepC at hs
  split at hs
  · rename_i y hy
    have ha := (List.getElem?_eq_some_iff.1 hy).1
    split at hs
    · rename_i ho
      cases hs
      rcases Nat.lt_or_ge (a + 1) l.length with h1 | h1
      · exact h1
      · have := rightC_last h (by omega) hy; omega
    · split at hs
      · rename_i ho
        cases hs
        have := rightC_jump h (List.mem_of_getElem? hy) (.inl ho)
        omega
      · cases hs
  · cases hs
theorem iter_in (h : rightC l = true) (ha : a < l.length) : ∀ {k b}, iterC l a k = some b → b < l.length := by
  intro k
  cases k with
  | zero => intro b hb; cases hb; exact ha
  | succ k =>
    intro b hb
    unfold iterC at hb
    cases e : iterC l a k with
    | none => rw [e] at hb; cases hb
    | some c => rw [e] at hb; exact step_in h hb
theorem iter_some (h : iterC l a k = some b) : ∀ i, i ≤ k → ∃ c, iterC l a i = some c := by
  induction k generalizing b with
  | zero => intro i hi; obtain rfl : i = 0 := by omega
            exact ⟨a, rfl⟩
  | succ k ih =>
    intro i hi
    cases e : iterC l a k with
    | none => unfold iterC at h; rw [e] at h; cases h
    | some c =>
      by_cases hk : i = k + 1
      · subst hk; exact ⟨b, h⟩
      · exact ih e i (by omega)
theorem iter_add (i j m : Nat) (h : iterC l a i = iterC l a j) : iterC l a (i + m) = iterC l a (j + m) := by
  induction m with
  | zero => exact h
  | succ m ih => rw [← Nat.add_assoc, ← Nat.add_assoc]; unfold iterC; rw [ih]
/-- It goes round: it never stops. -/
theorem never {i j : Nat} (hij : i < j) (hj : iterC l a j = some b) (h : iterC l a i = iterC l a j) : ∀ k, ∃ c, iterC l a k = some c := by
  intro k
  induction k using Nat.strongRecOn with
  | _ k ih =>
    by_cases hk : k ≤ j
    · exact iter_some hj k hk
    · obtain ⟨c, hc⟩ := ih (k - (j - i)) (by omega)
      refine ⟨c, ?_⟩
      have := iter_add i j (k - j) h
      rw [show i + (k - j) = k - (j - i) by omega, show j + (k - j) = k by omega] at this
      rw [← this]; exact hc
theorem never_long (h : rightC l = true) (ha : a < l.length) (hk : l.length ≤ k) (hb : iterC l a k = some b) : ∀ k, ∃ c, iterC l a k = some c := by
  obtain ⟨i, j, h1, h2, h3⟩ := pigeon l.length (fun i => (iterC l a i).getD 0) fun i hi => by
    obtain ⟨c, hc⟩ := iter_some hb i (by omega)
    simp only [hc, Option.getD_some]
    exact iter_in h ha hc
  obtain ⟨c, hc⟩ := iter_some hb i (by omega)
  obtain ⟨d, hd⟩ := iter_some hb j (by omega)
  simp only [hc, hd, Option.getD_some] at h3
  subst h3
  exact never h1 hd (hc.trans hd.symm)
/-- Where it stops. -/
def Stop (l : List InstrL) (a b : Nat) : Prop := ∃ k, iterC l a k = some b ∧ stepC l b = none
theorem Stop.one {c : Nat} (h : Stop l a b) (h' : Stop l a c) : b = c := by
  obtain ⟨k, h1, h2⟩ := h
  obtain ⟨j, k1, k2⟩ := h'
  have key : ∀ {k j b c : Nat}, iterC l a k = some b → stepC l b = none → iterC l a j = some c → k < j → False := by
    intro k j b c h1 h2 k1 hlt
    obtain ⟨d, hd⟩ := iter_some k1 (k + 1) (by omega)
    unfold iterC at hd
    rw [h1] at hd
    rw [Option.bind_some, h2] at hd
    cases hd
  rcases Nat.lt_trichotomy k j with h | h | h
  · exact (key h1 h2 k1 h).elim
  · subst h; rw [h1] at k1; cases k1; rfl
  · exact (key k1 k2 h1 h).elim
theorem no_stop (h : ∀ k, ∃ c, iterC l a k = some c) : ¬ Stop l a b := by
  rintro ⟨k, h1, h2⟩
  obtain ⟨c, hc⟩ := h (k + 1)
  unfold iterC at hc
  rw [h1] at hc
  rw [Option.bind_some, h2] at hc
  cases hc
open Classical in
noncomputable def comesN (l : List InstrL) (a : Nat) : Nat := if h : ∃ b, Stop l a b then h.choose else a
theorem comesN_stop (h : Stop l a b) : comesN l a = b := by
  unfold comesN
  rw [dif_pos ⟨b, h⟩]
  exact Stop.one (Classical.choose_spec (⟨b, h⟩ : ∃ b, Stop l a b)) h
theorem comesN_never (h : ∀ k, ∃ c, iterC l a k = some c) : comesN l a = a := by
  unfold comesN
  rw [dif_neg]
  rintro ⟨b, hb⟩
  exact no_stop h hb
noncomputable def comesF (l : List InstrL) (a : Int) : Int := if rightC l = true ∧ 0 ≤ a ∧ a < (l.length : Int) then (comesN l a.toNat : Int) else -1
theorem comesF_no {a : Int} (h : rightC l = false ∨ a < 0 ∨ (l.length : Int) ≤ a) : comesF l a = -1 := by
  unfold comesF
  rw [if_neg]
  rintro ⟨h1, h2, h3⟩
  rcases h with h | h | h
  · rw [h] at h1; cases h1
  · omega
  · omega
theorem comesF_yes (h : rightC l = true) (ha : a < l.length) : comesF l (a : Nat) = (comesN l a : Int) := by
  unfold comesF
  rw [if_pos ⟨h, by omega, by omega⟩, Int.toNat_natCast]
theorem comesN_in (h : rightC l = true) (ha : a < l.length) : comesN l a < l.length := by
  by_cases e : ∃ b, Stop l a b
  · obtain ⟨b, hb⟩ := e
    rw [comesN_stop hb]
    obtain ⟨k, h1, -⟩ := hb
    exact iter_in h ha h1
  · unfold comesN; rw [dif_neg e]; exact ha
theorem iter_next {y : InstrL} (h : iterC l a k = some b) (_hy : l[b]? = some y) (hb : stepC l b = some c) : iterC l a (k + 1) = some c := by
  unfold iterC; rw [h]; exact hb
end
end Go.Ab
/- link.Needs, and the walk that it does. -/
namespace Go.Ab
open Go.Proofs
end Go.Ab
/- link.Needs. -/
namespace Go.Ab
section
variable {P : Program} {T : Tab} {K : FuncId → Option Bool} {nt : Nat} {ops : Array Oper} {rest : List Oper} {m : Sy} {s s0 : St} {Q : Sy → St → Prop} {d ty : Nat} {pos : String} {af : Array Edge} {g : Option (Nat × Bool)} {L : List Chunk}
theorem ws_mk {tt e : TypeId} {x y : Operand} {i ie : TI} {n sz : Nat} (hS : SH s0 L s) (hg : guardY ops m g = some true) (hd : Nat.ble (d + 1) nt = true) (hT : T tt = some i) (hs : i.sh = .slice e) (he : T e = some ie) (hx : evY m x = some (.int .i64 n)) (hy : evY m y = some (.int .i64 n))
    (hsz : ie.size = sz) (hz : ie.zero.length = ie.size) (h0 : ie.size ≠ 0) (hl : ie.zero.all AV.leaf = true) (hb : n * ie.bytes ≤ maxBytes) (hb' : n ≤ 140737488355328)
    (k : ∀ v s', SH s0 (L ++ [rowC v sz (List.replicate n ie.zero)]) s' → v.gs ≠ [] → Keep [] s s' → W P T K nt ops rest ((d, v) :: m) s' Q) : W P T K nt ops (⟨some d, .makeSlice tt x y, ty, pos, af, g⟩ :: rest) m s Q := by
  subst hsz
  exact w_make hg hd hT hs he hx hy hz h0 hl hb hb' hS.ok fun v s' hv hk hc hvg => k v s' (hS.add hk _ ⟨hv, fun h => by rw [hvg] at h; cases h⟩ (row_newb hk hv hvg hc)) (by rw [hvg]; simp) hk
end
open Go.Proofs
theorem rep_bC (n : Nat) : List.replicate n [AV.bool false] = (List.replicate n false).map bC := by simp [bC]
end Go.Ab
/- Scopes in which the code jumps back. -/
namespace Go.Ab
section
variable {P : Program} {T : Tab} {K : FuncId → Option Bool} {nt : Nat} {m : Sy} {s : St} {R : Ex → Sy → St → Prop} {b c X : Code}
/-- A scope's body from a place on. -/
def WSc (P : Program) (T : Tab) (K : FuncId → Option Bool) (nt : Nat) (b c : Code) (m : Sy) (s : St) (R : Ex → Sy → St → Prop) : Prop :=
  ∃ N e m' s', R e m' s' ∧ ∀ n k, N ≤ n → N ≤ k → ∀ t, Has t nt m → ∃ t', evCode.evScope T (evCallK P T K n) k b c t s = some (e, t', s') ∧ Has t' nt m'
/-- What stands behind a part of the body: a jump goes on with the rest behind the label. -/
def ScG (P : Program) (T : Tab) (K : FuncId → Option Bool) (nt : Nat) (b : Code) (R : Ex → Sy → St → Prop) : Ex → Sy → St → Prop
  | .goto l, m, s => ∃ rest, findLabel b l = some rest ∧ WSc P T K nt b rest m s R
  | e, m, s => R e m s
theorem wsc_of (h : WC P T K nt c m s (ScG P T K nt b R)) : WSc P T K nt b c m s R := by
  obtain ⟨N, e, m1, s1, hq, hn⟩ := h
  by_cases hg : ∃ l, e = .goto l
  · obtain ⟨l, rfl⟩ := hg
    obtain ⟨rest, hf, N', e', m', s', hq', hn'⟩ := hq
    refine ⟨max N N' + 1, e', m', s', hq', fun n k h1 h2 t ht => ?_⟩
    obtain ⟨k, rfl⟩ : ∃ j, k = j + 1 := ⟨k - 1, by omega⟩
    obtain ⟨t1, e1, ht1⟩ := hn n k (by omega) (by omega) t ht
    obtain ⟨t2, e2, ht2⟩ := hn' n k (by omega) (by omega) t1 ht1
    exact ⟨t2, by simp only [evCode.evScope, e1, hf, e2], ht2⟩
  · refine ⟨N + 1, e, m1, s1, ?_, fun n k h1 h2 t ht => ?_⟩
    · cases e <;> first | exact hq | exact (hg ⟨_, rfl⟩).elim
    · obtain ⟨k, rfl⟩ : ∃ j, k = j + 1 := ⟨k - 1, by omega⟩
      obtain ⟨t1, e1, ht1⟩ := hn n k (by omega) (by omega) t ht
      refine ⟨t1, ?_, ht1⟩
      simp only [evCode.evScope, e1]
      all_goals (cases e <;> first | rfl | exact (hg ⟨_, rfl⟩).elim)
theorem wc_scopeG (h : WC P T K nt b m s (ScG P T K nt b R)) : WC P T K nt (.scope b) m s R := by
  obtain ⟨N, e, m', s', hq, hn⟩ := wsc_of h
  refine ⟨N + 1, e, m', s', hq, fun n k h1 h2 t ht => ?_⟩
  obtain ⟨k, rfl⟩ : ∃ j, k = j + 1 := ⟨k - 1, by omega⟩
  obtain ⟨t', e1, ht'⟩ := hn n k (by omega) (by omega) t ht
  exact ⟨t', by simp only [evCode, e1], ht'⟩
/-- A round that ends in the jump. -/
def Gt (l : Nat) (I : Nat → Sy → St → Prop) (j : Nat) (R : Ex → Sy → St → Prop) : Ex → Sy → St → Prop
  | .goto l', m, s => l' = l ∧ ∃ i m', i < j ∧ Sub m' m ∧ I i m' s
  | e, m, s => R e m s
theorem wsc_sub {m' : Sy} (hs : Sub m' m) (h : WSc P T K nt b c m' s R) : WSc P T K nt b c m s R := by
  obtain ⟨N, e, m1, s', hq, hn⟩ := h
  exact ⟨N, e, m1, s', hq, fun n k h1 h2 t ht => hn n k h1 h2 t (ht.sub hs)⟩
theorem wc_goto_at {l : Nat} (I : Nat → Sy → St → Prop) (j : Nat) (m' : Sy) (hs : Sub m' m) (h0 : I j m' s) (hf : findLabel b l = some (.seq .skip X)) (hI : ∀ j m s, I j m s → WC P T K nt X m s (Gt l I j R)) : WC P T K nt (.seq (.label l) X) m s (ScG P T K nt b R) := by
  have key : ∀ (j : Nat) (m : Sy) (s : St), I j m s → WC P T K nt X m s (ScG P T K nt b R) := by
    intro j
    induction j using Nat.strongRecOn with
    | _ j ih =>
      intro m s hi
      refine wc_mono (hI j m s hi) fun e m1 s1 hq => ?_
      cases e with
      | goto l' =>
        obtain ⟨rfl, i, m2, hlt, hsub, hi'⟩ := hq
        exact ⟨_, hf, wsc_sub hsub (wsc_of (wc_seq (wc_skip (then_n (ih i hlt m2 s1 hi')))))⟩
      | _ => exact hq
  exact wc_sub hs (wc_seq (wc_label (then_n (key j m' s h0))))
theorem gt_g {l j : Nat} {I : Nat → Sy → St → Prop} (i : Nat) (m' : Sy) (hi : i < j) (hs : Sub m' m) (h : I i m' s) : Gt l I j R (.goto l) m s := ⟨rfl, i, m', hi, hs, h⟩
end
end Go.Ab
/- trim: which code is right, and where an address comes to. -/
namespace Go.Ab
open Go.Proofs
theorem natA_pred (k : IntKind) {n : Nat} (h : 0 < n) : natA (.int k ((n : Int) - 1)) = some (n - 1) := by
  have : ((n : Int) - 1) = ((n - 1 : Nat) : Int) := by omega
  rw [this]; exact natA_cast _ _
set_option maxRecDepth 10000 in
set_option maxHeartbeats 8000000 in
theorem rightI_ok {s : St} {y : InstrL} {pn : AV} {n : Int} (hok : s.Ok) (hpn : Pt s.h pn [.int .i64 n]) : CallS Try.prog Tt Kt 97 [.agg (inC y), pn] s (fun r s' => Keep [] s s' ∧ r = .bool (badI n y)) := by
  refine call_of (fn := Try.f97) (nt := 23) Try.func97 rfl rfl rfl ?_
  repeat refine wc_seq ?_
  have hS := SH.start hok
  refine wc_region ?_
  refine ws_box hS rfl rfl rfl (by rfl) ?_
  rintro p0 z hS hk
  have hS : SH _ [_] z := hS
  have hK := hS.K
  refine w_val rfl rfl (op_pure rfl) ?_
  refine w_nil ?_
  refine then_n ?_
  repeat refine wc_seq ?_
  refine wc_region ?_
  refine w_val rfl rfl (op_fldP rfl rfl rfl rfl (by decide)) ?_
  refine w_val rfl rfl (op_loadC 0 hS rfl rfl rfl (Nat.le_of_ble_eq_true rfl) rfl) ?_
  refine w_val rfl rfl (op_pure rfl) ?_
  refine w_val rfl rfl (op_pure rfl) ?_
  refine w_split (i := 7) rfl (fun h7 => ?_) (fun h7 => ?_)
  · simp only [beq_iff_eq] at h7
    refine w_off rfl rfl ?_
    refine w_off rfl rfl ?_
    refine w_off rfl rfl ?_
    refine w_val rfl rfl (op_pure rfl) ?_
    refine w_val rfl rfl (op_pure rfl) ?_
    refine w_val rfl rfl (op_fldP rfl rfl rfl rfl (by decide)) ?_
    refine w_val rfl rfl (op_loadC 0 hS rfl rfl rfl (Nat.le_of_ble_eq_true rfl) rfl) ?_
    refine w_val rfl rfl (op_pure rfl) ?_
    refine w_val rfl rfl (op_pure rfl) ?_
    refine w_split (i := 16) rfl (fun h16 => ?_) (fun h16 => ?_)
    · simp only [decide_eq_true_eq] at h16
      refine w_off rfl rfl ?_
      refine w_off rfl rfl ?_
      refine w_off rfl rfl ?_
      refine w_off rfl rfl ?_
      refine w_val rfl rfl (op_pure rfl) ?_
      refine w_val rfl rfl (op_pure rfl) ?_
      refine w_val rfl rfl (op_pure rfl) ?_
      refine w_nil ?_
      refine then_n ?_
      refine wc_ret ?_
      repeat first | refine then_r ?_ | refine out_r ?_ | refine round_r ?_ | refine cut_r ?_ | refine sc_r ?_
      exact ⟨_, rfl, hK, by first | (simp [badI, branchI, packA, h7, h16]; done) | (simp [badI, branchI, packA, h7, h12, h16]; done) | (simp [badI, branchI, packA, h7, h12]; done)⟩
    simp only [decide_eq_false_iff_not] at h16
    refine w_val rfl rfl (op_fldP rfl rfl rfl rfl (by decide)) ?_
    refine w_val rfl rfl (op_loadC 0 hS rfl rfl rfl (Nat.le_of_ble_eq_true rfl) rfl) ?_
    refine w_val rfl rfl (op_load rfl rfl (hpn.keep0 hK) rfl) ?_
    refine w_val rfl rfl (op_pure rfl) ?_
    refine w_val rfl rfl (op_pure rfl) ?_
    refine w_val rfl rfl (op_pure rfl) ?_
    refine w_val rfl rfl (op_pure rfl) ?_
    refine w_nil ?_
    refine then_n ?_
    refine wc_ret ?_
    repeat first | refine then_r ?_ | refine out_r ?_ | refine round_r ?_ | refine cut_r ?_ | refine sc_r ?_
    exact ⟨_, rfl, hK, by first | (simp [badI, branchI, packA, h7, h16]; done) | (simp [badI, branchI, packA, h7, h12, h16]; done) | (simp [badI, branchI, packA, h7, h12]; done)⟩
  simp only [beq_eq_false_iff_ne, ne_eq] at h7
  refine w_val rfl rfl (op_fldP rfl rfl rfl rfl (by decide)) ?_
  refine w_val rfl rfl (op_loadC 0 hS rfl rfl rfl (Nat.le_of_ble_eq_true rfl) rfl) ?_
  refine w_val rfl rfl (op_pure rfl) ?_
  refine w_val rfl rfl (op_pure rfl) ?_
  refine w_val rfl rfl (op_pure rfl) ?_
  refine w_split (i := 12) rfl (fun h12 => ?_) (fun h12 => ?_)
  · simp only [beq_iff_eq] at h12
    refine w_val rfl rfl (op_fldP rfl rfl rfl rfl (by decide)) ?_
    refine w_val rfl rfl (op_loadC 0 hS rfl rfl rfl (Nat.le_of_ble_eq_true rfl) rfl) ?_
    refine w_val rfl rfl (op_pure rfl) ?_
    refine w_val rfl rfl (op_pure rfl) ?_
    refine w_split (i := 16) rfl (fun h16 => ?_) (fun h16 => ?_)
    · simp only [decide_eq_true_eq] at h16
      refine w_off rfl rfl ?_
      refine w_off rfl rfl ?_
      refine w_off rfl rfl ?_
      refine w_off rfl rfl ?_
      refine w_val rfl rfl (op_pure rfl) ?_
      refine w_val rfl rfl (op_pure rfl) ?_
      refine w_val rfl rfl (op_pure rfl) ?_
      refine w_nil ?_
      refine then_n ?_
      refine wc_ret ?_
      repeat first | refine then_r ?_ | refine out_r ?_ | refine round_r ?_ | refine cut_r ?_ | refine sc_r ?_
      exact ⟨_, rfl, hK, by first | (simp [badI, branchI, packA, h7, h16]; done) | (simp [badI, branchI, packA, h12, h16]; done) | (simp [badI, branchI, packA, h7, h12]; done)⟩
    simp only [decide_eq_false_iff_not] at h16
    refine w_val rfl rfl (op_fldP rfl rfl rfl rfl (by decide)) ?_
    refine w_val rfl rfl (op_loadC 0 hS rfl rfl rfl (Nat.le_of_ble_eq_true rfl) rfl) ?_
    refine w_val rfl rfl (op_load rfl rfl (hpn.keep0 hK) rfl) ?_
    refine w_val rfl rfl (op_pure rfl) ?_
    refine w_val rfl rfl (op_pure rfl) ?_
    refine w_val rfl rfl (op_pure rfl) ?_
    refine w_val rfl rfl (op_pure rfl) ?_
    refine w_nil ?_
    refine then_n ?_
    refine wc_ret ?_
    repeat first | refine then_r ?_ | refine out_r ?_ | refine round_r ?_ | refine cut_r ?_ | refine sc_r ?_
    exact ⟨_, rfl, hK, by first | (simp [badI, branchI, packA, h7, h16]; done) | (simp [badI, branchI, packA, h12, h16]; done) | (simp [badI, branchI, packA, h7, h12]; done)⟩
  simp only [beq_eq_false_iff_ne, ne_eq] at h12
  refine w_off rfl rfl ?_
  refine w_off rfl rfl ?_
  refine w_off rfl rfl ?_
  refine w_off rfl rfl ?_
  refine w_off rfl rfl ?_
  refine w_off rfl rfl ?_
  refine w_off rfl rfl ?_
  refine w_off rfl rfl ?_
  refine w_off rfl rfl ?_
  refine w_val rfl rfl (op_pure rfl) ?_
  refine w_val rfl rfl (op_pure rfl) ?_
  refine w_nil ?_
  refine then_n ?_
  refine wc_ret ?_
  repeat first | refine then_r ?_ | refine out_r ?_ | refine round_r ?_ | refine cut_r ?_ | refine sc_r ?_
  exact ⟨_, rfl, hK, by first | (simp [badI, branchI, packA, h7, h16]; done) | (simp [badI, branchI, packA, h7, h12, h16]; done) | (simp [badI, branchI, packA, h7, h12]; done)⟩
set_option maxRecDepth 10000 in
set_option maxHeartbeats 8000000 in
theorem indexF_ok {s : St} {v : AV} {l : List InstrL} {gf : FuncId} {caps : List AV} {p : InstrL → Bool} (hok : s.Ok) (hv : Row s.h 2 v (l.map inC)) (hl : l.length ≤ 2097152)
    (hcl : ∀ (s' : St) (y : InstrL), y ∈ l → Keep [] s s' → CallS Try.prog Tt Kt gf (.agg (inC y) :: caps) s' (fun r s'' => Keep [] s' s'' ∧ r = .bool (p y))) : CallS Try.prog Tt Kt 112 [v, .fn gf caps] s (fun r s' => Keep [] s s' ∧ ∃ k : Int, r = .int .i64 k ∧ (0 ≤ k ↔ l.any p = true)) := by
  refine call_of (fn := Try.f112) (nt := 19) Try.func112 rfl rfl rfl ?_
  repeat refine wc_seq ?_
  have hK := Keep.refl hok
  refine wc_region ?_
  refine w_val rfl rfl (op_pure rfl) ?_
  refine w_nil ?_
  refine then_n ?_
  repeat refine wc_seq ?_
  refine wc_region ?_
  refine w_val rfl rfl (op_pure rfl) ?_
  refine w_val rfl rfl (op_len rfl rfl rfl rfl rfl hv.slenF) ?_
  refine w_val rfl rfl (op_pure rfl) ?_
  refine w_nil ?_
  refine then_n ?_
  repeat refine wc_seq ?_
  refine wc_block ?_
  refine wc_loop_at (fun j m z => ∃ k : Nat, j = l.length - k ∧ k ≤ l.length ∧ m = [(0, v), (1, .fn gf caps), (7, .int .i64 (l.length : Nat)), (8, .int .i64 (k : Nat))] ∧ Keep [] s z ∧ ∀ (j : Nat) (y : InstrL), j < k → l[j]? = some y → p y = false) l.length
    [(0, v), (1, .fn gf caps), (7, .int .i64 (l.length : Nat)), (8, .int .i64 ((0 : Nat) : Int))] (Sub.cons rfl (Sub.cons rfl (Sub.cons rfl (Sub.cons rfl (Sub.nil _))))) ⟨0, by simp, by simp, rfl, hK, fun j y h => by omega⟩ ?_
  clear hK
  rintro j m z ⟨k, rfl, hk, rfl, hK, hI⟩
  repeat refine wc_seq ?_
  refine wc_region ?_
  refine w_val rfl rfl (op_pure rfl) ?_
  refine w_nil ?_
  refine then_n ?_
  repeat refine wc_seq ?_
  refine wc_condT rfl (fun h9 => ?_) (fun h9 => ?_)
  · simp only [decide_eq_true_eq] at h9
    refine wc_skip ?_
    refine then_n ?_
    repeat refine wc_seq ?_
    refine wc_block ?_
    repeat refine wc_seq ?_
    refine wc_region ?_
    refine w_val rfl rfl (op_pure rfl) ?_
    refine w_val rfl rfl (op_pure rfl) ?_
    refine w_nil ?_
    refine then_n ?_
    repeat refine wc_seq ?_
    obtain ⟨y, hy⟩ : ∃ y, l[k]? = some y := ⟨_, List.getElem?_eq_getElem (by omega)⟩
    have hvz := hv.keep0 hK
    refine wc_region ?_
    refine w_val rfl rfl (op_pure rfl) ?_
    refine w_val rfl rfl (op_pure rfl) ?_
    refine w_val rfl rfl (op_pure rfl) ?_
    refine w_val rfl rfl (op_idxF rfl rfl (natA_cast _ _) rfl rfl rfl rfl hvz (by omega)) ?_
    refine w_val rfl rfl (op_load (v := .agg (inC y)) rfl rfl (Row.mk_pt hvz hy) rfl) ?_
    refine w_call rfl rfl (op_call rfl rfl rfl rfl) (hcl _ y (List.mem_of_getElem? hy) hK) ?_
    rintro _ z ⟨hk2, rfl⟩
    have hK := hK.two hk2
    refine w_nil ?_
    refine then_n ?_
    refine wc_condT rfl (fun h16 => ?_) (fun h16 => ?_)
    · have hA : l.any p = true := List.any_eq_true.2 ⟨y, List.mem_of_getElem? hy, h16⟩
      repeat refine wc_seq ?_
      refine wc_region ?_
      refine w_val rfl rfl (op_pure rfl) ?_
      refine w_val rfl rfl (op_pure rfl) ?_
      refine w_nil ?_
      refine then_n ?_
      refine wc_ret ?_
      repeat first | refine then_r ?_ | refine out_r ?_ | refine round_r ?_ | refine cut_r ?_ | refine sc_r ?_
      exact ⟨_, rfl, hK, _, rfl, ⟨fun _ => hA, fun _ => by omega⟩⟩
    skip
    refine wc_skip ?_
    refine out_n ?_
    refine then_n ?_
    refine wc_region ?_
    refine w_val rfl rfl (op_add rfl rfl (by unfold In64; omega)) ?_
    refine w_val rfl rfl (op_pure rfl) ?_
    refine w_nil ?_
    exact round_n _ _ (by omega) (Sub.cons rfl (Sub.cons rfl (Sub.cons rfl (Sub.cons rfl (Sub.nil _))))) ⟨k + 1, rfl, by omega, rfl, hK, fun j y2 hj h => (Nat.lt_succ_iff_lt_or_eq.1 hj).elim (fun h1 => hI j y2 h1 h) (fun e => by subst e; rw [hy] at h; cases h; exact h16)⟩
  simp only [decide_eq_false_iff_not] at h9
  obtain rfl : k = l.length := by omega
  refine wc_exit ?_
  repeat first | refine then_x ?_ | refine round_x ?_ | refine cut_x ?_ | refine out_x' (by decide) ?_
  refine out_x ?_
  refine then_n ?_
  repeat refine wc_seq ?_
  refine wc_region ?_
  refine w_val rfl rfl (op_pure rfl) ?_
  refine w_nil ?_
  refine then_n ?_
  refine wc_ret ?_
  repeat first | refine then_r ?_ | refine out_r ?_ | refine round_r ?_ | refine cut_r ?_ | refine sc_r ?_
  have hA : l.any p = false := by
    rw [List.any_eq_false]
    intro y hy
    obtain ⟨j, hj⟩ := List.getElem?_of_mem hy
    rw [hI j y (List.getElem?_eq_some_iff.1 hj).1 hj]
    simp
  exact ⟨_, rfl, hK, _, rfl, ⟨fun h => by omega, fun h => by rw [hA] at h; cases h⟩⟩
set_option maxRecDepth 10000 in
set_option maxHeartbeats 8000000 in
theorem containsF_ok {s : St} {v : AV} {l : List InstrL} {gf : FuncId} {caps : List AV} {p : InstrL → Bool} (hok : s.Ok) (hv : Row s.h 2 v (l.map inC)) (hl : l.length ≤ 2097152)
    (hcl : ∀ (s' : St) (y : InstrL), y ∈ l → Keep [] s s' → CallS Try.prog Tt Kt gf (.agg (inC y) :: caps) s' (fun r s'' => Keep [] s' s'' ∧ r = .bool (p y))) : CallS Try.prog Tt Kt 96 [v, .fn gf caps] s (fun r s' => Keep [] s s' ∧ r = .bool (l.any p)) := by
  refine call_of (fn := Try.f96) (nt := 9) Try.func96 rfl rfl rfl ?_
  repeat refine wc_seq ?_
  refine wc_region ?_
  refine w_val rfl rfl (op_pure rfl) ?_
  refine w_nil ?_
  refine then_n ?_
  repeat refine wc_seq ?_
  refine wc_region ?_
  refine w_val rfl rfl (op_pure rfl) ?_
  refine w_val rfl rfl (op_pure rfl) ?_
  refine w_call rfl rfl (op_call rfl rfl rfl rfl) (indexF_ok hok hv hl hcl) ?_
  rintro _ z ⟨hK, k, rfl, hk⟩
  refine w_val rfl rfl (op_pure rfl) ?_
  refine w_val rfl rfl (op_pure rfl) ?_
  refine w_nil ?_
  refine then_n ?_
  refine wc_ret ?_
  repeat first | refine then_r ?_ | refine out_r ?_ | refine round_r ?_ | refine cut_r ?_ | refine sc_r ?_
  exact ⟨_, rfl, hK, congrArg AV.bool (by rw [Bool.eq_iff_iff, decide_eq_true_iff]; exact hk)⟩
set_option maxRecDepth 10000 in
set_option maxHeartbeats 8000000 in
theorem right_code_ok {s : St} {v : AV} {l : List InstrL} (hok : s.Ok) (hv : Row s.h 2 v (l.map inC)) (hl : l.length ≤ 2097152) : CallS Try.prog Tt Kt 54 [v] s (fun r s' => Keep [] s s' ∧ r = .bool (rightC l)) := by
  refine call_of (fn := Try.f54) (nt := 30) Try.func54 rfl rfl rfl ?_
  repeat refine wc_seq ?_
  have hS := SH.start hok
  refine wc_region ?_
  refine w_val rfl rfl (op_pure rfl) ?_
  refine w_nil ?_
  refine then_n ?_
  repeat refine wc_seq ?_
  refine wc_region ?_
  refine w_val rfl rfl (op_pure rfl) ?_
  refine w_val rfl rfl (op_len rfl rfl rfl rfl rfl hv.slenF) ?_
  refine ws_alloc hS rfl rfl rfl rfl ?_
  rintro p0 z hS hk
  have hS : SH _ [_] z := hS
  have hK := hS.K
  refine ws_storeL 0 hS rfl rfl rfl rfl rfl rfl (by rfl) (Nat.le_of_ble_eq_true rfl) ?_
  rintro z hS
  have hS : SH _ [_] z := hS
  have hK := hS.K
  refine w_nil ?_
  refine then_n ?_
  repeat refine wc_seq ?_
  refine wc_region ?_
  refine w_val rfl rfl (op_loadC 0 hS rfl rfl rfl (Nat.le_of_ble_eq_true rfl) rfl) ?_
  refine w_val rfl rfl (op_pure rfl) ?_
  refine w_val rfl rfl (op_pure rfl) ?_
  refine w_split (i := 8) rfl (fun h8 => ?_) (fun h8 => ?_)
  · simp only [beq_iff_eq] at h8
    refine w_off rfl rfl ?_
    refine w_off rfl rfl ?_
    refine w_off rfl rfl ?_
    refine w_off rfl rfl ?_
    refine w_off rfl rfl ?_
    refine w_off rfl rfl ?_
    refine w_off rfl rfl ?_
    refine w_off rfl rfl ?_
    refine w_off rfl rfl ?_
    refine w_off rfl rfl ?_
    refine w_off rfl rfl ?_
    refine w_off rfl rfl ?_
    refine w_off rfl rfl ?_
    refine w_off rfl rfl ?_
    refine w_off rfl rfl ?_
    refine w_off rfl rfl ?_
    refine w_val rfl rfl (op_pure rfl) ?_
    refine w_nil ?_
    refine then_n ?_
    repeat refine wc_seq ?_
    refine wc_cond_t rfl ?_
    repeat refine wc_seq ?_
    refine wc_region ?_
    refine w_val rfl rfl (op_pure rfl) ?_
    refine w_nil ?_
    refine then_n ?_
    refine wc_ret ?_
    repeat first | refine then_r ?_ | refine out_r ?_ | refine round_r ?_ | refine cut_r ?_ | refine sc_r ?_
    have hnil : l = [] := List.eq_nil_of_length_eq_zero (by omega)
    exact ⟨_, rfl, hK, by rw [hnil]; rfl⟩
  simp only [beq_eq_false_iff_ne, ne_eq] at h8
  have hpos : 0 < l.length := by omega
  obtain ⟨y, hy⟩ : ∃ y, l[l.length - 1]? = some y := ⟨_, List.getElem?_eq_getElem (by omega)⟩
  have hvz := hv.keep0 hK
  have hla : l.getLast? = some y := by rw [List.getLast?_eq_getElem?]; exact hy
  refine w_val rfl rfl (op_pure rfl) ?_
  refine w_val rfl rfl (op_loadC 0 hS rfl rfl rfl (Nat.le_of_ble_eq_true rfl) rfl) ?_
  refine w_val rfl rfl (op_sub rfl rfl (by unfold In64; omega)) ?_
  refine w_val rfl rfl (op_idxF (n := l.length - 1) rfl rfl (natA_pred _ hpos) rfl rfl rfl rfl hvz (by omega)) ?_
  refine w_val rfl rfl (op_fld rfl rfl rfl rfl (by decide) (Row.mk_pt hvz hy) (Nat.le_of_ble_eq_true rfl)) ?_
  refine w_val rfl rfl (op_load rfl rfl ((Row.mk_pt hvz hy).fld _ (Nat.le_of_ble_eq_true rfl)) rfl) ?_
  refine w_val rfl rfl (op_pure rfl) ?_
  refine w_val rfl rfl (op_pure rfl) ?_
  refine w_split (i := 16) rfl (fun h16 => ?_) (fun h16 => ?_)
  · simp only [ne_eq, bne_iff_ne] at h16
    refine w_val rfl rfl (op_pure rfl) ?_
    refine w_val rfl rfl (op_loadC 0 hS rfl rfl rfl (Nat.le_of_ble_eq_true rfl) rfl) ?_
    refine w_val rfl rfl (op_sub rfl rfl (by unfold In64; omega)) ?_
    refine w_val rfl rfl (op_idxF (n := l.length - 1) rfl rfl (natA_pred _ hpos) rfl rfl rfl rfl hvz (by omega)) ?_
    refine w_val rfl rfl (op_fld rfl rfl rfl rfl (by decide) (Row.mk_pt hvz hy) (Nat.le_of_ble_eq_true rfl)) ?_
    refine w_val rfl rfl (op_load rfl rfl ((Row.mk_pt hvz hy).fld _ (Nat.le_of_ble_eq_true rfl)) rfl) ?_
    refine w_val rfl rfl (op_pure rfl) ?_
    refine w_val rfl rfl (op_pure rfl) ?_
    refine w_val rfl rfl (op_pure rfl) ?_
    refine w_nil ?_
    refine then_n ?_
    repeat refine wc_seq ?_
    refine wc_condT rfl (fun h25 => ?_) (fun h25 => ?_)
    · simp only [ne_eq, bne_iff_ne] at h25
      repeat refine wc_seq ?_
      refine wc_region ?_
      refine w_val rfl rfl (op_pure rfl) ?_
      refine w_nil ?_
      refine then_n ?_
      refine wc_ret ?_
      repeat first | refine then_r ?_ | refine out_r ?_ | refine round_r ?_ | refine cut_r ?_ | refine sc_r ?_
      exact ⟨_, rfl, hK, by unfold rightC; rw [hla]; first | (simp [packA, h16, h25]; done) | (simp [packA, h16]; done) | (simp [packA, h25]; done)⟩
    simp only [bne_eq_false_iff_eq] at h25
    refine wc_skip ?_
    refine then_n ?_
    repeat refine wc_seq ?_
    refine wc_region ?_
    refine w_val rfl rfl (op_pure rfl) ?_
    refine w_val rfl rfl (op_pure rfl) ?_
    refine w_call rfl rfl (op_call rfl rfl rfl rfl) (containsF_ok (p := badI l.length) hK.ok (hv.keep0 hK) hl (fun s' y _ hk => rightI_ok hk.ok ((hS.pt 0 rfl).keep0 hk))) ?_
    rintro _ z ⟨hk, rfl⟩
    have hK := hK.two hk
    refine w_val rfl rfl (op_pure rfl) ?_
    refine w_val rfl rfl (op_pure rfl) ?_
    refine w_nil ?_
    refine then_n ?_
    refine wc_ret ?_
    repeat first | refine then_r ?_ | refine out_r ?_ | refine round_r ?_ | refine cut_r ?_ | refine sc_r ?_
    exact ⟨_, rfl, hK, by unfold rightC; rw [hla]; first | (simp [packA, h25]; done) | (simp [packA, h16]; done) | (simp [packA, h25]; done)⟩
  simp only [bne_eq_false_iff_eq] at h16
  refine w_off rfl rfl ?_
  refine w_off rfl rfl ?_
  refine w_off rfl rfl ?_
  refine w_off rfl rfl ?_
  refine w_off rfl rfl ?_
  refine w_off rfl rfl ?_
  refine w_off rfl rfl ?_
  refine w_val rfl rfl (op_pure rfl) ?_
  refine w_val rfl rfl (op_pure rfl) ?_
  refine w_nil ?_
  refine then_n ?_
  repeat refine wc_seq ?_
  refine wc_cond_f rfl ?_
  refine wc_skip ?_
  refine then_n ?_
  repeat refine wc_seq ?_
  refine wc_region ?_
  refine w_val rfl rfl (op_pure rfl) ?_
  refine w_val rfl rfl (op_pure rfl) ?_
  refine w_call rfl rfl (op_call rfl rfl rfl rfl) (containsF_ok (p := badI l.length) hK.ok (hv.keep0 hK) hl (fun s' y _ hk => rightI_ok hk.ok ((hS.pt 0 rfl).keep0 hk))) ?_
  rintro _ z ⟨hk, rfl⟩
  have hK := hK.two hk
  refine w_val rfl rfl (op_pure rfl) ?_
  refine w_val rfl rfl (op_pure rfl) ?_
  refine w_nil ?_
  refine then_n ?_
  refine wc_ret ?_
  repeat first | refine then_r ?_ | refine out_r ?_ | refine round_r ?_ | refine cut_r ?_ | refine sc_r ?_
  exact ⟨_, rfl, hK, by unfold rightC; rw [hla]; first | (simp [packA, h16, h25]; done) | (simp [packA, h16]; done) | (simp [packA, h25]; done)⟩
end Go.Ab
/- Comes, both ways. -/
namespace Go.Ab
open Go.Proofs
theorem step_nop {l : List InstrL} {b : Nat} {y : InstrL} (hy : l[b]? = some y) (h : y.op = 42) : stepC l b = some (b + 1) := by
  unfold stepC; rw [hy]; simp [h]
theorem step_jump {l : List InstrL} {b c : Nat} {y : InstrL} (hy : l[b]? = some y) (_h : ¬ y.op = 42) (h2 : y.op = 43) (hc : y.a = (c : Int)) : stepC l b = some c := by
  unfold stepC; rw [hy]; simp [h2, hc]
theorem step_stop {l : List InstrL} {b : Nat} {y : InstrL} (hy : l[b]? = some y) (h : ¬ y.op = 42) (h2 : ¬ y.op = 43) : stepC l b = none := by
  unfold stepC; rw [hy]; simp [h, h2]
set_option maxRecDepth 10000 in
set_option maxHeartbeats 8000000 in
theorem comes_ok {s : St} {v : AV} {l : List InstrL} {a : Nat} (hok : s.Ok) (hv : Row s.h 2 v (l.map inC)) (hl : l.length ≤ 2097152) (hr : rightC l = true) (ha : a < l.length) : CallS Try.prog Tt Kt 57 [v, .int .i64 (a : Nat)] s (fun r s' => Keep [] s s' ∧ r = .int .i64 (comesN l a : Nat)) := by
  refine call_of (fn := Try.f57) (nt := 34) Try.func57 rfl rfl rfl ?_
  repeat refine wc_seq ?_
  have hS := SH.start hok
  have hK := hS.K
  refine wc_region ?_
  refine w_val rfl rfl (op_pure rfl) ?_
  refine w_nil ?_
  refine then_n ?_
  refine wc_scopeG ?_
  repeat refine wc_seq ?_
  refine wc_region ?_
  refine w_val rfl rfl (op_pure rfl) ?_
  refine w_val rfl rfl (op_pure rfl) ?_
  refine w_val rfl rfl (op_pure rfl) ?_
  refine w_nil ?_
  refine then_n ?_
  refine wc_goto_at (fun jj m z => ∃ (k b : Nat), jj = l.length + 2 - k ∧ k ≤ l.length + 1 ∧ m = [(0, v), (1, .int .i64 (a : Nat)), (5, .int .i64 (b : Nat)), (6, .int .i64 (k : Nat))] ∧ SH s [] z ∧ iterC l a k = some b) (l.length + 2) [(0, v), (1, .int .i64 (a : Nat)), (5, .int .i64 (a : Nat)), (6, .int .i64 ((0 : Nat) : Int))] (Sub.cons rfl (Sub.cons rfl (Sub.cons rfl (Sub.cons rfl (Sub.nil _))))) ⟨0, a, by simp, by omega, rfl, hS, rfl⟩ rfl ?_
  clear hS hK
  rintro jj m z ⟨k, b, rfl, hk, rfl, hS, hI⟩
  have hK := hS.K
  have hvz := hv.keep0 hK
  have hb := iter_in hr ha hI
  obtain ⟨y, hy⟩ : ∃ y, l[b]? = some y := ⟨_, List.getElem?_eq_getElem hb⟩
  repeat refine wc_seq ?_
  refine wc_region ?_
  refine w_val rfl rfl (op_pure rfl) ?_
  refine w_val rfl rfl (op_pure rfl) ?_
  refine w_val rfl rfl (op_idxF rfl rfl (natA_cast _ _) rfl rfl rfl rfl hvz (by omega)) ?_
  refine w_val rfl rfl (op_load (v := .agg (inC y)) rfl rfl (Row.mk_pt hvz hy) rfl) ?_
  refine ws_alloc hS rfl rfl rfl rfl ?_
  rintro p0 z hS hk
  have hS : SH _ [_] z := hS
  have hK := hS.K
  refine ws_store 0 hS rfl rfl rfl rfl rfl rfl (by rfl) (Nat.le_of_ble_eq_true rfl) ?_
  rintro z hS
  have hS : SH _ [_] z := hS
  have hK := hS.K
  refine w_nil ?_
  refine then_n ?_
  repeat refine wc_seq ?_
  refine wc_block ?_
  repeat refine wc_seq ?_
  refine wc_region ?_
  refine w_val rfl rfl (op_pure rfl) ?_
  refine w_val rfl rfl (op_pure rfl) ?_
  refine w_val rfl rfl (op_len rfl rfl rfl rfl rfl hv.slenF) ?_
  refine w_val rfl rfl (op_pure rfl) ?_
  refine w_val rfl rfl (op_pure rfl) ?_
  refine w_nil ?_
  refine then_n ?_
  refine wc_condT rfl (fun h14 => ?_) (fun h14 => ?_)
  · simp only [decide_eq_true_eq, gt_iff_lt] at h14
    repeat refine wc_seq ?_
    refine wc_region ?_
    refine w_val rfl rfl (op_pure rfl) ?_
    refine w_val rfl rfl (op_pure rfl) ?_
    refine w_nil ?_
    refine then_n ?_
    refine wc_ret ?_
    repeat first | refine then_r ?_ | refine out_r ?_ | refine round_r ?_ | refine cut_r ?_ | refine sc_r ?_ | refine gt_r ?_ | refine scg_r ?_
    exact ⟨_, rfl, hK, by rw [comesN_never (never_long hr ha (by omega) hI)]; rfl⟩
  simp only [decide_eq_false_iff_not, gt_iff_lt] at h14
  repeat refine wc_seq ?_
  refine wc_region ?_
  refine w_val rfl rfl (op_fldP rfl rfl rfl rfl (by decide)) ?_
  refine w_val rfl rfl (op_loadC 0 hS rfl rfl rfl (Nat.le_of_ble_eq_true rfl) rfl) ?_
  refine w_val rfl rfl (op_pure rfl) ?_
  refine w_val rfl rfl (op_pure rfl) ?_
  refine w_nil ?_
  refine then_n ?_
  refine wc_condT rfl (fun h20 => ?_) (fun h20 => ?_)
  · simp only [beq_iff_eq] at h20
    refine wc_region ?_
    refine w_val rfl rfl (op_pure rfl) ?_
    refine w_val rfl rfl (op_add rfl rfl (by unfold In64; omega)) ?_
    refine w_val rfl rfl (op_pure rfl) ?_
    refine w_nil ?_
    refine out_n ?_
    refine then_n ?_
    repeat refine wc_seq ?_
    refine wc_region ?_
    refine w_val rfl rfl (op_pure rfl) ?_
    refine w_val rfl rfl (op_add rfl rfl (by unfold In64; omega)) ?_
    refine w_val rfl rfl (op_pure rfl) ?_
    refine w_nil ?_
    refine then_n ?_
    refine wc_goto ?_
    repeat first | refine then_g ?_ | refine out_g ?_
    exact gt_g _ _ (by omega) (Sub.cons rfl (Sub.cons rfl (Sub.cons rfl (Sub.cons rfl (Sub.nil _))))) ⟨k + 1, b + 1, rfl, by omega, rfl, hS.sel [] rfl (by decide), iter_next hI hy (step_nop hy h20)⟩
  simp only [beq_eq_false_iff_ne, ne_eq] at h20
  repeat refine wc_seq ?_
  refine wc_region ?_
  refine w_val rfl rfl (op_fldP rfl rfl rfl rfl (by decide)) ?_
  refine w_val rfl rfl (op_loadC 0 hS rfl rfl rfl (Nat.le_of_ble_eq_true rfl) rfl) ?_
  refine w_val rfl rfl (op_pure rfl) ?_
  refine w_val rfl rfl (op_pure rfl) ?_
  refine w_nil ?_
  refine then_n ?_
  refine wc_condT rfl (fun h26 => ?_) (fun h26 => ?_)
  · simp only [beq_iff_eq] at h26
    obtain ⟨hy0, hyn⟩ := rightC_jump hr (List.mem_of_getElem? hy) (.inl h26)
    obtain ⟨yo, ya⟩ := y
    obtain ⟨c, hc⟩ : ∃ c : Nat, ya = c := ⟨ya.toNat, by simp only at hy0; omega⟩
    subst hc
    refine wc_region ?_
    refine w_val rfl rfl (op_fldP rfl rfl rfl rfl (by decide)) ?_
    refine w_val rfl rfl (op_loadC 0 hS rfl rfl rfl (Nat.le_of_ble_eq_true rfl) rfl) ?_
    refine w_val rfl rfl (op_pure rfl) ?_
    refine w_nil ?_
    refine out_n ?_
    refine then_n ?_
    repeat refine wc_seq ?_
    refine wc_region ?_
    refine w_val rfl rfl (op_pure rfl) ?_
    refine w_val rfl rfl (op_add rfl rfl (by unfold In64; omega)) ?_
    refine w_val rfl rfl (op_pure rfl) ?_
    refine w_nil ?_
    refine then_n ?_
    refine wc_goto ?_
    repeat first | refine then_g ?_ | refine out_g ?_
    exact gt_g _ _ (by omega) (Sub.cons rfl (Sub.cons rfl (Sub.cons rfl (Sub.cons rfl (Sub.nil _))))) ⟨k + 1, c, rfl, by omega, rfl, hS.sel [] rfl (by decide), iter_next hI hy (step_jump hy h20 h26 rfl)⟩
  simp only [beq_eq_false_iff_ne, ne_eq] at h26
  repeat refine wc_seq ?_
  refine wc_region ?_
  refine w_val rfl rfl (op_pure rfl) ?_
  refine w_val rfl rfl (op_pure rfl) ?_
  refine w_nil ?_
  refine then_n ?_
  refine wc_ret ?_
  repeat first | refine then_r ?_ | refine out_r ?_ | refine round_r ?_ | refine cut_r ?_ | refine sc_r ?_ | refine gt_r ?_ | refine scg_r ?_
  exact ⟨_, rfl, hK, by rw [comesN_stop ⟨k, hI, step_stop hy h20 h26⟩]; rfl⟩
set_option maxRecDepth 10000 in
set_option maxHeartbeats 8000000 in
theorem comes_all_ok {s : St} {v : AV} {l : List InstrL} {a : Int} (hok : s.Ok) (hv : Row s.h 2 v (l.map inC)) (hl : l.length ≤ 2097152) : CallS Try.prog Tt Kt 21 [v, .int .i64 a] s (fun r s' => Keep [] s s' ∧ r = .int .i64 (comesF l a)) := by
  refine call_of (fn := Try.f21) (nt := 21) Try.func21 rfl rfl rfl ?_
  repeat refine wc_seq ?_
  refine wc_region ?_
  refine w_val rfl rfl (op_pure rfl) ?_
  refine w_nil ?_
  refine then_n ?_
  repeat refine wc_seq ?_
  refine wc_region ?_
  refine w_val rfl rfl (op_pure rfl) ?_
  refine w_call rfl rfl (op_call rfl rfl rfl rfl) (right_code_ok hok hv hl) ?_
  rintro _ z ⟨hK, rfl⟩
  refine w_val rfl rfl (op_pure rfl) ?_
  refine w_val rfl rfl (op_pure rfl) ?_
  refine w_split (i := 8) rfl (fun h8 => ?_) (fun h8 => ?_)
  · simp only [Bool.not_eq_true'] at h8
    refine w_off rfl rfl ?_
    refine w_off rfl rfl ?_
    refine w_val rfl rfl (op_pure rfl) ?_
    refine w_val rfl rfl (op_pure rfl) ?_
    refine w_off rfl rfl ?_
    refine w_off rfl rfl ?_
    refine w_off rfl rfl ?_
    refine w_off rfl rfl ?_
    refine w_val rfl rfl (op_pure rfl) ?_
    refine w_nil ?_
    refine then_n ?_
    repeat refine wc_seq ?_
    refine wc_cond_t rfl ?_
    repeat refine wc_seq ?_
    refine wc_region ?_
    refine w_val rfl rfl (op_pure rfl) ?_
    refine w_nil ?_
    refine then_n ?_
    refine wc_ret ?_
    repeat first | refine then_r ?_ | refine out_r ?_ | refine round_r ?_ | refine cut_r ?_ | refine sc_r ?_
    exact ⟨_, rfl, hK, by rw [comesF_no (.inl (by assumption))]; rfl⟩
  simp only [Bool.not_eq_false'] at h8
  refine w_val rfl rfl (op_pure rfl) ?_
  refine w_val rfl rfl (op_pure rfl) ?_
  refine w_val rfl rfl (op_pure rfl) ?_
  refine w_val rfl rfl (op_pure rfl) ?_
  refine w_split (i := 12) rfl (fun h12 => ?_) (fun h12 => ?_)
  · simp only [decide_eq_true_eq] at h12
    refine w_off rfl rfl ?_
    refine w_off rfl rfl ?_
    refine w_off rfl rfl ?_
    refine w_off rfl rfl ?_
    refine w_val rfl rfl (op_pure rfl) ?_
    refine w_nil ?_
    refine then_n ?_
    repeat refine wc_seq ?_
    refine wc_cond_t rfl ?_
    repeat refine wc_seq ?_
    refine wc_region ?_
    refine w_val rfl rfl (op_pure rfl) ?_
    refine w_nil ?_
    refine then_n ?_
    refine wc_ret ?_
    repeat first | refine then_r ?_ | refine out_r ?_ | refine round_r ?_ | refine cut_r ?_ | refine sc_r ?_
    exact ⟨_, rfl, hK, by rw [comesF_no (by (right; omega))]; rfl⟩
  simp only [decide_eq_false_iff_not] at h12
  refine w_val rfl rfl (op_pure rfl) ?_
  refine w_val rfl rfl (op_pure rfl) ?_
  refine w_val rfl rfl (op_len rfl rfl rfl rfl rfl hv.slenF) ?_
  refine w_val rfl rfl (op_pure rfl) ?_
  refine w_val rfl rfl (op_pure rfl) ?_
  refine w_nil ?_
  refine then_n ?_
  repeat refine wc_seq ?_
  refine wc_condT rfl (fun h17 => ?_) (fun h17 => ?_)
  · simp only [decide_eq_true_eq, ge_iff_le] at h17
    repeat refine wc_seq ?_
    refine wc_region ?_
    refine w_val rfl rfl (op_pure rfl) ?_
    refine w_nil ?_
    refine then_n ?_
    refine wc_ret ?_
    repeat first | refine then_r ?_ | refine out_r ?_ | refine round_r ?_ | refine cut_r ?_ | refine sc_r ?_
    exact ⟨_, rfl, hK, by rw [comesF_no (by (right; omega))]; rfl⟩
  simp only [decide_eq_false_iff_not, ge_iff_le] at h17
  refine wc_skip ?_
  refine then_n ?_
  repeat refine wc_seq ?_
  obtain ⟨b, rfl⟩ : ∃ b : Nat, a = b := ⟨a.toNat, by omega⟩
  refine wc_region ?_
  refine w_val rfl rfl (op_pure rfl) ?_
  refine w_val rfl rfl (op_pure rfl) ?_
  refine w_call rfl rfl (op_call rfl rfl rfl rfl) (comes_ok hK.ok (hv.keep0 hK) hl h8 (by omega)) ?_
  rintro _ z ⟨hk, rfl⟩
  refine w_val rfl rfl (op_pure rfl) ?_
  refine w_nil ?_
  refine then_n ?_
  refine wc_ret ?_
  repeat first | refine then_r ?_ | refine out_r ?_ | refine round_r ?_ | refine cut_r ?_ | refine sc_r ?_
  exact ⟨_, rfl, hK.two hk, by rw [comesF_yes h8 (by omega)]; rfl⟩
end Go.Ab
/- Arrays in variables. -/
namespace Go.Ab
section
variable {T : Tab} {nt : Nat} {m : Sy} {s : St}
theorem op_idxArr {tt e : TypeId} {x ix : Operand} {i ie : TI} {n k c j off : Nat} {vi : AV} (hx : evY m x = some (.ptr c j off)) (hi : evY m ix = some vi) (hn : natA vi = some k) (hT : T tt = some i) (hs : i.sh = .array n e) (he : T e = some ie) (hk : k < n) :
    ∀ t, Has t nt m → evOp T (.indexAddr tt x ix) t s = some (.val (.ptr c j (off + k * ie.size)), s) := by
  intro t ht
  obtain ⟨sh, size, bytes, zero, flat⟩ := i
  cases hs
  have : idxA T tt (.ptr c j off) k = some (.ptr c j (off + k * ie.size)) := by
    unfold idxA
    simp only [hT, he, hk, if_true]
  simp only [evOp, evY_ok ht hx, evY_ok ht hi, hn, this]
theorem op_cutArr {tt e : TypeId} {x hi : Operand} {i ie : TI} {n k c : Nat} {vh : AV} {cs : List AV} (hx : evY m x = some (.ptr c 0 0)) (hvh : evY m hi = some vh) (hn : natA vh = some k) (hT : T tt = some i) (hs : i.sh = .array n e) (he : T e = some ie) (h1 : ie.size = 1) (hk : k ≤ n) (hp : Pt s.h (.ptr c 0 0) cs) (hl : cs.length = n) :
    ∀ t, Has t nt m → evOp T (.slice tt x none (some hi) none) t s = some (.val (.slc c 0 0 1 k n true), s) := by
  intro t ht
  obtain ⟨sh, size, bytes, zero, flat⟩ := i
  cases hs
  have h2 : sliceA T tt (.ptr c 0 0) none (some k) none = some (.slc c 0 0 1 k n true) := by
    unfold sliceA
    simp only [hT, he, h1, Option.getD_none, Option.getD_some, Nat.zero_mul, Nat.zero_le, hk, Nat.sub_zero, Nat.zero_add]
    simp
  have h3 : arrOk T tt (.ptr c 0 0) s = true := by
    unfold arrOk
    simp only [hT, he, h1, Nat.mul_one, read_rd]
    rw [show rdH s.h c 0 0 n = some cs by rw [← hl]; exact hp]
    rfl
  simp only [evOp, evY_ok ht hx, evY_ok ht hvh, hn, h2, h3, optNat, if_true]
end
theorem arr_row {h : Tr Grp} {c k n : Nat} {cs : List AV} (hp : Pt h (.ptr c 0 0) cs) (hl : cs.length = n) (hk : k ≤ n) (hz : cs.all AV.leaf = true) : Row h 1 (.slc c 0 0 1 k n true) ((cs.take k).map fun x => [x]) := by
  refine ⟨rfl, by decide, by simp [hl, hk], hk, ?_, cs.drop k, ?_⟩
  · intro x hx
    obtain ⟨y, hy, rfl⟩ := List.mem_map.1 hx
    rw [List.all_eq_true] at hz
    exact ⟨rfl, by simp [hz y (List.mem_of_mem_take hy)]⟩
  · have hf : ∀ l : List AV, (l.map fun x => [x]).flatten = l := by
      intro l
      induction l with
      | nil => rfl
      | cons a l ih => rw [List.map_cons, List.flatten_cons, ih]; rfl
    rw [hf, List.take_append_drop, Nat.mul_one, ← hl]
    exact hp
end Go.Ab
/- The nodes behind one. -/
namespace Go.Ab
/-- One more node, if it is one and isn't there yet. -/
def putA2 (q : Int × Int × Nat) (b most : Int) : Int × Int × Nat := if 0 ≤ b ∧ b ≤ most ∧ (q.2.2 = 0 ∨ q.1 ≠ b) then (if q.2.2 = 0 then (b, q.2.1, 1) else (q.1, b, 2)) else q
def rawN (n : Int) (a : Int) (y : InstrL) : Int × Int × Nat :=
  if y.op = 43 then putA2 (0, 0, 0) y.a (n - 1)
  else if y.op = 44 then putA2 (putA2 (0, 0, 0) (a + 1) (n - 1)) y.a (n - 1)
  else if y.op = 46 then putA2 (0, 0, 0) n n
  else putA2 (0, 0, 0) (a + 1) (n - 1)
def srtN (q : Int × Int × Nat) : Int × Int × Nat := if q.2.2 = 2 ∧ q.1 > q.2.1 then (q.2.1, q.1, q.2.2) else q
def nextN (n a : Int) (y : InstrL) : List Int := ([(srtN (rawN n a y)).1, (srtN (rawN n a y)).2.1] : List Int).take (srtN (rawN n a y)).2.2
theorem putA2_le {q : Int × Int × Nat} {b most : Int} (h : q.2.2 ≤ 1) : (putA2 q b most).2.2 ≤ q.2.2 + 1 := by
  unfold putA2
  split
  · split
    · simp only; omega
    · simp only; omega
  · omega
theorem rawN_le (n a : Int) (y : InstrL) : (rawN n a y).2.2 ≤ 2 := by
  unfold rawN
  split
  · have := putA2_le (q := (0, 0, 0)) (b := y.a) (most := n - 1) (by simp); simp only at this; omega
  split
  · have h1 := putA2_le (q := (0, 0, 0)) (b := a + 1) (most := n - 1) (by simp)
    have h2 := putA2_le (q := putA2 (0, 0, 0) (a + 1) (n - 1)) (b := y.a) (most := n - 1) (by simpa using h1)
    simp only at h1; omega
  split
  · have := putA2_le (q := (0, 0, 0)) (b := n) (most := n) (by simp); simp only at this; omega
  · have := putA2_le (q := (0, 0, 0)) (b := a + 1) (most := n - 1) (by simp); simp only at this; omega
theorem srtN_cnt (q : Int × Int × Nat) : (srtN q).2.2 = q.2.2 := by unfold srtN; split <;> rfl
/-- The document's way. -/
def sec1 (n a : Int) (y : InstrL) : Int := if y.op = 43 ∨ y.op = 44 then (if 0 ≤ y.a ∧ y.a < n then y.a else n) else a + 1
def fst1 (n a : Int) (y : InstrL) : Int := if y.op = 43 then sec1 n a y else a + 1
def outN (n f g : Int) : List Int := (if f < n then [f] else []) ++ (if g < n ∧ g ≠ f then [g] else [])
def nextD (n a : Int) (y : InstrL) : List Int := if y.op = 46 then [n] else if fst1 n a y > sec1 n a y then outN n (sec1 n a y) (fst1 n a y) else outN n (fst1 n a y) (sec1 n a y)
theorem next_same {n a : Int} (hn : 0 < n) (ha : 0 ≤ a) (han : a < n) (y : InstrL) : nextD n a y = nextN n a y := by
  unfold nextD nextN
  by_cases h46 : y.op = 46
  · rw [if_pos h46]
    have : rawN n a y = (n, 0, 1) := by
      unfold rawN putA2
      rw [if_neg (by omega), if_neg (by omega), if_pos h46]
      simp; omega
    rw [this]; rfl
  rw [if_neg h46]
  by_cases h43 : y.op = 43
  · have hs : sec1 n a y = if 0 ≤ y.a ∧ y.a < n then y.a else n := by unfold sec1; rw [if_pos (.inl h43)]
    have hf : fst1 n a y = sec1 n a y := by unfold fst1; rw [if_pos h43]
    rw [hf, if_neg (by omega)]
    have hr : rawN n a y = putA2 (0, 0, 0) y.a (n - 1) := by unfold rawN; rw [if_pos h43]
    rw [hr]
    by_cases hc : 0 ≤ y.a ∧ y.a < n
    · rw [if_pos hc] at hs
      have : putA2 (0, 0, 0) y.a (n - 1) = (y.a, 0, 1) := by unfold putA2; rw [if_pos ⟨by omega, by omega, .inl rfl⟩]; rfl
      rw [this, hs]
      unfold outN srtN
      simp [hc.2]
    · rw [if_neg hc] at hs
      have : putA2 (0, 0, 0) y.a (n - 1) = (0, 0, 0) := by unfold putA2; rw [if_neg (by omega)]
      rw [this, hs]
      unfold outN srtN
      simp
  by_cases h44 : y.op = 44
  · have hs : sec1 n a y = if 0 ≤ y.a ∧ y.a < n then y.a else n := by unfold sec1; rw [if_pos (.inr h44)]
    have hf : fst1 n a y = a + 1 := by unfold fst1; rw [if_neg h43]
    have hr : rawN n a y = putA2 (putA2 (0, 0, 0) (a + 1) (n - 1)) y.a (n - 1) := by unfold rawN; rw [if_neg h43, if_pos h44]
    rw [hf, hr]
    by_cases ha1 : a + 1 < n
    · have e1 : putA2 (0, 0, 0) (a + 1) (n - 1) = (a + 1, 0, 1) := by unfold putA2; rw [if_pos ⟨by omega, by omega, .inl rfl⟩]; rfl
      rw [e1]
      by_cases hc : 0 ≤ y.a ∧ y.a < n
      · rw [if_pos hc] at hs
        by_cases he : a + 1 = y.a
        · have e2 : putA2 (a + 1, 0, 1) y.a (n - 1) = (a + 1, 0, 1) := by unfold putA2; rw [if_neg]; simp only; omega
          rw [e2, hs, if_neg (by omega)]
          unfold outN srtN
          simp [he]
          omega
        · have e2 : putA2 (a + 1, 0, 1) y.a (n - 1) = (a + 1, y.a, 2) := by unfold putA2; rw [if_pos ⟨by omega, by omega, .inr he⟩]; rfl
          rw [e2, hs]
          unfold outN srtN
          by_cases hg : a + 1 > y.a
          · rw [if_pos hg]
            simp [hg, hc.2, ha1, he]
          · rw [if_neg hg]
            simp [hg, hc.2, ha1, Ne.symm he]
      · rw [if_neg hc] at hs
        have e2 : putA2 (a + 1, 0, 1) y.a (n - 1) = (a + 1, 0, 1) := by unfold putA2; rw [if_neg (by omega)]
        rw [e2, hs, if_neg (by omega)]
        unfold outN srtN
        simp [ha1]
    · have e1 : putA2 (0, 0, 0) (a + 1) (n - 1) = (0, 0, 0) := by unfold putA2; rw [if_neg (by omega)]
      rw [e1]
      have hna : a + 1 = n := by omega
      by_cases hc : 0 ≤ y.a ∧ y.a < n
      · rw [if_pos hc] at hs
        have e2 : putA2 (0, 0, 0) y.a (n - 1) = (y.a, 0, 1) := by unfold putA2; rw [if_pos ⟨by omega, by omega, .inl rfl⟩]; rfl
        rw [e2, hs, if_pos (by omega)]
        unfold outN srtN
        simp [hc.2, hna]
      · rw [if_neg hc] at hs
        have e2 : putA2 (0, 0, 0) y.a (n - 1) = (0, 0, 0) := by unfold putA2; rw [if_neg (by omega)]
        rw [e2, hs, if_neg (by omega)]
        unfold outN srtN
        simp [hna]
  · have hs : sec1 n a y = a + 1 := by unfold sec1; rw [if_neg (by omega)]
    have hf : fst1 n a y = a + 1 := by unfold fst1; rw [if_neg h43]
    have hr : rawN n a y = putA2 (0, 0, 0) (a + 1) (n - 1) := by unfold rawN; rw [if_neg h43, if_neg h44, if_neg h46]
    rw [hs, hf, hr, if_neg (by omega)]
    by_cases ha1 : a + 1 < n
    · have e1 : putA2 (0, 0, 0) (a + 1) (n - 1) = (a + 1, 0, 1) := by unfold putA2; rw [if_pos ⟨by omega, by omega, .inl rfl⟩]; rfl
      rw [e1]
      unfold outN srtN
      simp [ha1]
    · have e1 : putA2 (0, 0, 0) (a + 1) (n - 1) = (0, 0, 0) := by unfold putA2; rw [if_neg (by omega)]
      rw [e1]
      unfold outN srtN
      simp [ha1]
theorem nextN_in {n a b : Int} (hn : 0 < n) (ha : 0 ≤ a) (han : a < n) {y : InstrL} (h : b ∈ nextN n a y) : 0 ≤ b ∧ b ≤ n := by
  rw [← next_same hn ha han] at h
  unfold nextD at h
  split at h
  · rw [List.mem_singleton.1 h]; omega
  · have key : ∀ f g : Int, 0 ≤ f → 0 ≤ g → b ∈ outN n f g → 0 ≤ b ∧ b ≤ n := by
      intro f g hf hg hb
      unfold outN at hb
      rcases List.mem_append.1 hb with hb | hb
      · split at hb
        · rw [List.mem_singleton.1 hb]; omega
        · cases hb
      · split at hb
        · rw [List.mem_singleton.1 hb]; omega
        · cases hb
    have h1 : 0 ≤ sec1 n a y := by unfold sec1; split; split; all_goals omega
    have h2 : 0 ≤ fst1 n a y := by unfold fst1; split; exact h1; omega
    split at h
    · exact key _ _ h1 h2 h
    · exact key _ _ h2 h1 h
end Go.Ab
/- graph.to, graph.Next. -/
namespace Go.Ab
open Go.Proofs
set_option maxRecDepth 10000 in
set_option maxHeartbeats 8000000 in
theorem put0_ok {s0 s : St} {c0 c3 : Chunk} {pl pn : Nat} {x0 x1 b most : Int} (hS : SH s0 [c0, ptC (.ptr pl 0 0) [.int .i64 x0, .int .i64 x1], ptC (.ptr pn 0 0) [.int .i64 ((0 : Nat) : Int)], c3] s) :
    CallS Try.prog Tt Kt 114 [.int .i64 b, .int .i64 most, .ptr pn 0 0, .ptr pl 0 0] s (fun r s' => r = .tup [] ∧ SH s0 [c0, ptC (.ptr pl 0 0) [.int .i64 (putA2 (x0, x1, 0) b most).1, .int .i64 (putA2 (x0, x1, 0) b most).2.1], ptC (.ptr pn 0 0) [.int .i64 ((putA2 (x0, x1, 0) b most).2.2 : Nat)], c3] s') := by
  refine call_of (fn := Try.f114) (nt := 28) Try.func114 rfl rfl rfl ?_
  repeat refine wc_seq ?_
  refine wc_region ?_
  refine w_val rfl rfl (op_pure rfl) ?_
  refine w_val rfl rfl (op_pure rfl) ?_
  refine w_val rfl rfl (op_pure rfl) ?_
  refine w_split (i := 8) rfl (fun h8 => ?_) (fun h8 => ?_)
  · simp only [decide_eq_true_eq, ge_iff_le] at h8
    refine w_val rfl rfl (op_pure rfl) ?_
    refine w_val rfl rfl (op_pure rfl) ?_
    refine w_val rfl rfl (op_pure rfl) ?_
    refine w_val rfl rfl (op_pure rfl) ?_
    refine w_val rfl rfl (op_pure rfl) ?_
    refine w_split (i := 13) rfl (fun h13 => ?_) (fun h13 => ?_)
    · simp only [decide_eq_true_eq] at h13
      refine w_val rfl rfl (op_loadC 2 hS rfl rfl rfl (Nat.le_of_ble_eq_true rfl) rfl) ?_
      refine w_val rfl rfl (op_int (v := .bool true) rfl rfl (by decide) rfl) ?_
      refine w_val rfl rfl (op_pure rfl) ?_
      refine w_off rfl rfl ?_
      refine w_off rfl rfl ?_
      refine w_off rfl rfl ?_
      refine w_off rfl rfl ?_
      refine w_val rfl rfl (op_pure rfl) ?_
      refine w_val rfl rfl (op_pure rfl) ?_
      refine w_nil ?_
      refine then_n ?_
      refine wc_cond_t rfl ?_
      repeat refine wc_seq ?_
      refine wc_region ?_
      refine w_val rfl rfl (op_loadC 2 hS rfl rfl rfl (Nat.le_of_ble_eq_true rfl) rfl) ?_
      refine w_val rfl rfl (op_pure rfl) ?_
      refine w_val rfl rfl (op_idxArr (k := 0) rfl rfl rfl rfl rfl rfl (by decide)) ?_
      refine ws_storeL 1 hS rfl rfl rfl rfl rfl rfl (by rfl) (Nat.le_of_ble_eq_true rfl) ?_
      rintro z hS
      have hS : SH _ [_, _, _, _] z := hS
      have hK := hS.K
      refine w_nil ?_
      refine then_n ?_
      refine wc_region ?_
      refine w_val rfl rfl (op_loadC 2 hS rfl rfl rfl (Nat.le_of_ble_eq_true rfl) rfl) ?_
      refine w_val rfl rfl (op_add rfl rfl (by unfold In64; omega)) ?_
      refine ws_storeL 2 hS rfl rfl rfl rfl rfl rfl (by rfl) (Nat.le_of_ble_eq_true rfl) ?_
      rintro z hS
      have hS : SH _ [_, _, _, _] z := hS
      have hK := hS.K
      refine w_nil ?_
      have e : putA2 (x0, x1, 0) b most = (b, x1, 1) := by unfold putA2; rw [if_pos ⟨h8, h13, .inl rfl⟩]; rfl
      rw [e]
      exact ⟨_, rfl, rfl, hS⟩
    simp only [decide_eq_false_iff_not] at h13
    refine w_off rfl rfl ?_
    refine w_off rfl rfl ?_
    refine w_off rfl rfl ?_
    refine w_off rfl rfl ?_
    refine w_off rfl rfl ?_
    refine w_off rfl rfl ?_
    refine w_off rfl rfl ?_
    refine w_off rfl rfl ?_
    refine w_val rfl rfl (op_pure rfl) ?_
    refine w_nil ?_
    refine then_n ?_
    refine wc_cond_f rfl ?_
    refine wc_skip ?_
    have e : putA2 (x0, x1, 0) b most = (x0, x1, 0) := by unfold putA2; rw [if_neg (fun h => h13 h.2.1)]
    rw [e]
    exact ⟨_, rfl, rfl, hS⟩
  simp only [decide_eq_false_iff_not, ge_iff_le] at h8
  refine w_off rfl rfl ?_
  refine w_off rfl rfl ?_
  refine w_off rfl rfl ?_
  refine w_val rfl rfl (op_pure rfl) ?_
  refine w_val rfl rfl (op_pure rfl) ?_
  refine w_off rfl rfl ?_
  refine w_off rfl rfl ?_
  refine w_off rfl rfl ?_
  refine w_off rfl rfl ?_
  refine w_off rfl rfl ?_
  refine w_off rfl rfl ?_
  refine w_off rfl rfl ?_
  refine w_off rfl rfl ?_
  refine w_val rfl rfl (op_pure rfl) ?_
  refine w_nil ?_
  refine then_n ?_
  refine wc_cond_f rfl ?_
  refine wc_skip ?_
  have e : putA2 (x0, x1, 0) b most = (x0, x1, 0) := by unfold putA2; rw [if_neg (fun h => h8 h.1)]
  rw [e]
  exact ⟨_, rfl, rfl, hS⟩
-- unused hook: memt17
-- unused hook: ownt17
set_option maxRecDepth 10000 in
set_option maxHeartbeats 8000000 in
theorem put1_ok {s0 s : St} {c0 c3 : Chunk} {pl pn : Nat} {x0 x1 b most : Int} (hS : SH s0 [c0, ptC (.ptr pl 0 0) [.int .i64 x0, .int .i64 x1], ptC (.ptr pn 0 0) [.int .i64 ((1 : Nat) : Int)], c3] s) :
    CallS Try.prog Tt Kt 114 [.int .i64 b, .int .i64 most, .ptr pn 0 0, .ptr pl 0 0] s (fun r s' => r = .tup [] ∧ SH s0 [c0, ptC (.ptr pl 0 0) [.int .i64 (putA2 (x0, x1, 1) b most).1, .int .i64 (putA2 (x0, x1, 1) b most).2.1], ptC (.ptr pn 0 0) [.int .i64 ((putA2 (x0, x1, 1) b most).2.2 : Nat)], c3] s') := by
  refine call_of (fn := Try.f114) (nt := 28) Try.func114 rfl rfl rfl ?_
  repeat refine wc_seq ?_
  refine wc_region ?_
  refine w_val rfl rfl (op_pure rfl) ?_
  refine w_val rfl rfl (op_pure rfl) ?_
  refine w_val rfl rfl (op_pure rfl) ?_
  refine w_split (i := 8) rfl (fun h8 => ?_) (fun h8 => ?_)
  · simp only [decide_eq_true_eq, ge_iff_le] at h8
    refine w_val rfl rfl (op_pure rfl) ?_
    refine w_val rfl rfl (op_pure rfl) ?_
    refine w_val rfl rfl (op_pure rfl) ?_
    refine w_val rfl rfl (op_pure rfl) ?_
    refine w_val rfl rfl (op_pure rfl) ?_
    refine w_split (i := 13) rfl (fun h13 => ?_) (fun h13 => ?_)
    · simp only [decide_eq_true_eq] at h13
      refine w_val rfl rfl (op_loadC 2 hS rfl rfl rfl (Nat.le_of_ble_eq_true rfl) rfl) ?_
      refine w_val rfl rfl (op_int (v := .bool false) rfl rfl (by decide) rfl) ?_
      refine w_val rfl rfl (op_pure rfl) ?_
      refine w_val rfl rfl (op_idxArr (k := 0) rfl rfl rfl rfl rfl rfl (by decide)) ?_
      refine w_val rfl rfl (op_loadC 1 hS rfl rfl rfl (Nat.le_of_ble_eq_true rfl) rfl) ?_
      refine w_val rfl rfl (op_pure rfl) ?_
      refine w_val rfl rfl (op_pure rfl) ?_
      refine w_val rfl rfl (op_pure rfl) ?_
      refine w_val rfl rfl (op_pure rfl) ?_
      refine w_nil ?_
      refine then_n ?_
      refine wc_condT rfl (fun h22 => ?_) (fun h22 => ?_)
      · simp only [ne_eq, bne_iff_ne] at h22
        repeat refine wc_seq ?_
        refine wc_region ?_
        refine w_val rfl rfl (op_loadC 2 hS rfl rfl rfl (Nat.le_of_ble_eq_true rfl) rfl) ?_
        refine w_val rfl rfl (op_pure rfl) ?_
        refine w_val rfl rfl (op_idxArr (k := 1) rfl rfl rfl rfl rfl rfl (by decide)) ?_
        refine ws_storeL 1 hS rfl rfl rfl rfl rfl rfl (by rfl) (Nat.le_of_ble_eq_true rfl) ?_
        rintro z hS
        have hS : SH _ [_, _, _, _] z := hS
        have hK := hS.K
        refine w_nil ?_
        refine then_n ?_
        refine wc_region ?_
        refine w_val rfl rfl (op_loadC 2 hS rfl rfl rfl (Nat.le_of_ble_eq_true rfl) rfl) ?_
        refine w_val rfl rfl (op_add rfl rfl (by unfold In64; omega)) ?_
        refine ws_storeL 2 hS rfl rfl rfl rfl rfl rfl (by rfl) (Nat.le_of_ble_eq_true rfl) ?_
        rintro z hS
        have hS : SH _ [_, _, _, _] z := hS
        have hK := hS.K
        refine w_nil ?_
        have e : putA2 (x0, x1, 1) b most = (x0, b, 2) := by unfold putA2; rw [if_pos ⟨h8, h13, .inr h22⟩]; rfl
        rw [e]
        exact ⟨_, rfl, rfl, hS⟩
      simp only [bne_eq_false_iff_eq] at h22
      refine wc_skip ?_
      have e : putA2 (x0, x1, 1) b most = (x0, x1, 1) := by unfold putA2; rw [if_neg]; rintro ⟨_, _, h | h⟩; cases h; exact h h22
      rw [e]
      exact ⟨_, rfl, rfl, hS⟩
    simp only [decide_eq_false_iff_not] at h13
    refine w_off rfl rfl ?_
    refine w_off rfl rfl ?_
    refine w_off rfl rfl ?_
    refine w_off rfl rfl ?_
    refine w_off rfl rfl ?_
    refine w_off rfl rfl ?_
    refine w_off rfl rfl ?_
    refine w_off rfl rfl ?_
    refine w_val rfl rfl (op_pure rfl) ?_
    refine w_nil ?_
    refine then_n ?_
    refine wc_cond_f rfl ?_
    refine wc_skip ?_
    have e : putA2 (x0, x1, 1) b most = (x0, x1, 1) := by unfold putA2; rw [if_neg (fun h => h13 h.2.1)]
    rw [e]
    exact ⟨_, rfl, rfl, hS⟩
  simp only [decide_eq_false_iff_not, ge_iff_le] at h8
  refine w_off rfl rfl ?_
  refine w_off rfl rfl ?_
  refine w_off rfl rfl ?_
  refine w_val rfl rfl (op_pure rfl) ?_
  refine w_val rfl rfl (op_pure rfl) ?_
  refine w_off rfl rfl ?_
  refine w_off rfl rfl ?_
  refine w_off rfl rfl ?_
  refine w_off rfl rfl ?_
  refine w_off rfl rfl ?_
  refine w_off rfl rfl ?_
  refine w_off rfl rfl ?_
  refine w_off rfl rfl ?_
  refine w_val rfl rfl (op_pure rfl) ?_
  refine w_nil ?_
  refine then_n ?_
  refine wc_cond_f rfl ?_
  refine wc_skip ?_
  have e : putA2 (x0, x1, 1) b most = (x0, x1, 1) := by unfold putA2; rw [if_neg (fun h => h8 h.1)]
  rw [e]
  exact ⟨_, rfl, rfl, hS⟩
theorem put_ok {s0 s : St} {c0 c3 : Chunk} {pl pn : Nat} {b most : Int} (q : Int × Int × Nat) (hq : q.2.2 ≤ 1) (hS : SH s0 [c0, ptC (.ptr pl 0 0) [.int .i64 q.1, .int .i64 q.2.1], ptC (.ptr pn 0 0) [.int .i64 (q.2.2 : Nat)], c3] s) :
    CallS Try.prog Tt Kt 114 [.int .i64 b, .int .i64 most, .ptr pn 0 0, .ptr pl 0 0] s (fun r s' => r = .tup [] ∧ SH s0 [c0, ptC (.ptr pl 0 0) [.int .i64 (putA2 q b most).1, .int .i64 (putA2 q b most).2.1], ptC (.ptr pn 0 0) [.int .i64 ((putA2 q b most).2.2 : Nat)], c3] s') := by
  obtain ⟨x0, x1, k⟩ := q
  match k, hq with
  | 0, _ => exact put0_ok hS
  | 1, _ => exact put1_ok hS
set_option maxRecDepth 10000 in
set_option maxHeartbeats 8000000 in
theorem to_ok {s : St} {v : AV} {l : List InstrL} {a : Nat} {y : InstrL} (hok : s.Ok) (hv : Row s.h 2 v (l.map inC)) (hl : l.length ≤ 2097152) (hy : l[a]? = some y) :
    CallS Try.prog Tt Kt 99 [v, .int .i64 (a : Nat)] s (fun r s' => Keep [] s s' ∧ r = .tup [.agg [.int .i64 (srtN (rawN l.length a y)).1, .int .i64 (srtN (rawN l.length a y)).2.1], .int .i64 ((srtN (rawN l.length a y)).2.2 : Nat)]) := by
  have ha := (List.getElem?_eq_some_iff.1 hy).1
  refine call_of (fn := Try.f99) (nt := 70) Try.func99 rfl rfl rfl ?_
  repeat refine wc_seq ?_
  have hS := SH.start hok
  have hK := hS.K
  refine wc_region ?_
  refine ws_alloc hS rfl rfl rfl rfl ?_
  rintro p0 z hS hk
  have hS : SH _ [_] z := hS
  have hK := hS.K
  refine w_val rfl rfl (op_pure rfl) ?_
  refine w_nil ?_
  refine then_n ?_
  repeat refine wc_seq ?_
  refine wc_region ?_
  refine ws_alloc hS rfl rfl rfl rfl ?_
  rintro p1 z hS hk
  have hS : SH _ [_, _] z := hS
  have hK := hS.K
  refine w_nil ?_
  refine then_n ?_
  repeat refine wc_seq ?_
  refine wc_region ?_
  refine ws_alloc hS rfl rfl rfl rfl ?_
  rintro p2 z hS hk
  have hS : SH _ [_, _, _] z := hS
  have hK := hS.K
  refine ws_storeL 2 hS rfl rfl rfl rfl rfl rfl (by rfl) (Nat.le_of_ble_eq_true rfl) ?_
  rintro z hS
  have hS : SH _ [_, _, _] z := hS
  have hK := hS.K
  refine w_nil ?_
  refine then_n ?_
  repeat refine wc_seq ?_
  refine wc_region ?_
  refine w_val rfl rfl (op_pure rfl) ?_
  refine w_val rfl rfl (op_pure rfl) ?_
  refine w_nil ?_
  refine then_n ?_
  repeat refine wc_seq ?_
  refine wc_region ?_
  refine w_val rfl rfl (op_pure rfl) ?_
  refine w_val rfl rfl (op_len rfl rfl rfl rfl rfl hv.slenF) ?_
  refine w_val rfl rfl (op_sub rfl rfl (by unfold In64; omega)) ?_
  refine w_val rfl rfl (op_pure rfl) ?_
  refine w_nil ?_
  refine then_n ?_
  repeat refine wc_seq ?_
  have hvz := hv.keep0 hK
  refine wc_region ?_
  refine w_val rfl rfl (op_pure rfl) ?_
  refine w_val rfl rfl (op_pure rfl) ?_
  refine w_val rfl rfl (op_idxF rfl rfl (natA_cast _ _) rfl rfl rfl rfl hvz (by omega)) ?_
  refine w_val rfl rfl (op_load (v := .agg (inC y)) rfl rfl (Row.mk_pt hvz hy) rfl) ?_
  refine ws_alloc hS rfl rfl rfl rfl ?_
  rintro p3 z hS hk
  have hS : SH _ [_, _, _, _] z := hS
  have hK := hS.K
  refine ws_store 3 hS rfl rfl rfl rfl rfl rfl (by rfl) (Nat.le_of_ble_eq_true rfl) ?_
  rintro z hS
  have hS : SH _ [_, _, _, _] z := hS
  have hK := hS.K
  refine w_nil ?_
  refine then_n ?_
  repeat refine wc_seq ?_
  refine wc_region ?_
  refine w_val rfl rfl (op_fldP rfl rfl rfl rfl (by decide)) ?_
  refine w_val rfl rfl (op_loadC 3 hS rfl rfl rfl (Nat.le_of_ble_eq_true rfl) rfl) ?_
  refine w_nil ?_
  refine then_n ?_
  repeat refine wc_seq ?_
  refine wc_block ?_
  repeat refine wc_seq ?_
  refine wc_region ?_
  refine w_val rfl rfl (op_pure rfl) ?_
  refine w_val rfl rfl (op_pure rfl) ?_
  refine w_nil ?_
  refine then_n ?_
  refine wc_condT rfl (fun h26 => ?_) (fun h26 => ?_)
  · simp only [beq_iff_eq] at h26
    refine wc_region ?_
    refine w_val rfl rfl (op_pure rfl) ?_
    refine w_val rfl rfl (op_fldP rfl rfl rfl rfl (by decide)) ?_
    refine w_val rfl rfl (op_loadC 3 hS rfl rfl rfl (Nat.le_of_ble_eq_true rfl) rfl) ?_
    refine w_val rfl rfl (op_pure rfl) ?_
    refine w_call rfl rfl (op_call rfl rfl rfl rfl) (put_ok (0, 0, 0) (by decide) hS) ?_
    rintro _ z ⟨rfl, hS⟩
    rw [show putA2 (0, 0, 0) _ _ = rawN l.length a y by unfold rawN; rw [if_pos h26]] at hS
    have hK := hS.K
    have hcnt := rawN_le l.length a y
    refine w_nil ?_
    refine out_n ?_
    refine then_n ?_
    repeat refine wc_seq ?_
    refine wc_region ?_
    refine w_val rfl rfl (op_loadC 2 hS rfl rfl rfl (Nat.le_of_ble_eq_true rfl) rfl) ?_
    refine w_val rfl rfl (op_pure rfl) ?_
    refine w_val rfl rfl (op_pure rfl) ?_
    refine w_split (i := 55) rfl (fun h55 => ?_) (fun h55 => ?_)
    · simp only [beq_iff_eq] at h55
      refine w_val rfl rfl (op_idxArr (k := 0) rfl rfl rfl rfl rfl rfl (by decide)) ?_
      refine w_val rfl rfl (op_loadC 1 hS rfl rfl rfl (Nat.le_of_ble_eq_true rfl) rfl) ?_
      refine w_val rfl rfl (op_idxArr (k := 1) rfl rfl rfl rfl rfl rfl (by decide)) ?_
      refine w_val rfl rfl (op_loadC 1 hS rfl rfl rfl (Nat.le_of_ble_eq_true rfl) rfl) ?_
      refine w_val rfl rfl (op_pure rfl) ?_
      refine w_val rfl rfl (op_pure rfl) ?_
      refine w_nil ?_
      refine then_n ?_
      repeat refine wc_seq ?_
      refine wc_condT rfl (fun h61 => ?_) (fun h61 => ?_)
      · simp only [decide_eq_true_eq, gt_iff_lt] at h61
        refine wc_region ?_
        refine w_val rfl rfl (op_idxArr (k := 1) rfl rfl rfl rfl rfl rfl (by decide)) ?_
        refine w_val rfl rfl (op_loadC 1 hS rfl rfl rfl (Nat.le_of_ble_eq_true rfl) rfl) ?_
        refine w_val rfl rfl (op_idxArr (k := 0) rfl rfl rfl rfl rfl rfl (by decide)) ?_
        refine w_val rfl rfl (op_loadC 1 hS rfl rfl rfl (Nat.le_of_ble_eq_true rfl) rfl) ?_
        refine w_val rfl rfl (op_idxArr (k := 0) rfl rfl rfl rfl rfl rfl (by decide)) ?_
        refine ws_storeL 1 hS rfl rfl rfl rfl rfl rfl (by rfl) (Nat.le_of_ble_eq_true rfl) ?_
        rintro z hS
        have hS : SH _ [_, _, _, _] z := hS
        have hK := hS.K
        refine w_val rfl rfl (op_idxArr (k := 1) rfl rfl rfl rfl rfl rfl (by decide)) ?_
        refine ws_storeL 1 hS rfl rfl rfl rfl rfl rfl (by rfl) (Nat.le_of_ble_eq_true rfl) ?_
        rintro z hS
        have hS : SH _ [_, _, _, _] z := hS
        have hK := hS.K
        refine w_nil ?_
        refine then_n ?_
        repeat refine wc_seq ?_
        have hR := Keep.refl hS.ok
        have hx1 : ∀ g ∈ [p1], g ∉ [p0] := fun g hg h => hS.dis 1 0 _ _ (by decide) rfl rfl g hg h
        have hx2 : ∀ g ∈ [p2], g ∉ [p0] := fun g hg h => hS.dis 2 0 _ _ (by decide) rfl rfl g hg h
        refine wc_draw (Old z [p0]) (by kernel_rfl) rfl ?_
        refine wo_load hR rfl rfl ((hS.pt 1 rfl).at (Nat.le_of_ble_eq_true rfl)) rfl hx1 rfl rfl ?_
        refine wo_load hR rfl rfl ((hS.pt 2 rfl).at (Nat.le_of_ble_eq_true rfl)) rfl hx2 rfl rfl ?_
        refine wo_store_all (p := .ptr p0 0 0) hR (fun g hg => hg) rfl rfl rfl rfl rfl (by rfl) rfl (hS.pt 0 rfl) (by simp [AV.gs]) ?_
        rintro z hp hk hc
        have hS := hS.upd 0 rfl hk (fun g hg => hg) (ptC (.ptr p0 0 0) _) hp (fun g hg => .inl hg)
        have hS : SH _ [_, _, _, _] z := hS
        have hK := hS.K
        refine wo_val (fun _ => rfl) rfl rfl (op_pure rfl) ?_
        refine wd_nil ?_
        refine then_n ?_
        refine wc_ret ?_
        repeat first | refine then_r ?_ | refine out_r ?_ | refine round_r ?_ | refine cut_r ?_ | refine sc_r ?_
        exact ⟨_, res_cell2 rfl rfl rfl (hS.pt 0 rfl) rfl, hK, by first
          | (have e : srtN (rawN l.length a y) = ((rawN l.length a y).2.1, (rawN l.length a y).1, (rawN l.length a y).2.2) := (by unfold srtN; rw [if_pos ⟨by omega, h61⟩])
             rw [e]; rfl)
          | (have e : srtN (rawN l.length a y) = rawN l.length a y := (by unfold srtN; rw [if_neg (by omega)])
             rw [e]; rfl)⟩
      simp only [decide_eq_false_iff_not, gt_iff_lt] at h61
      refine wc_skip ?_
      refine then_n ?_
      repeat refine wc_seq ?_
      have hR := Keep.refl hS.ok
      have hx1 : ∀ g ∈ [p1], g ∉ [p0] := fun g hg h => hS.dis 1 0 _ _ (by decide) rfl rfl g hg h
      have hx2 : ∀ g ∈ [p2], g ∉ [p0] := fun g hg h => hS.dis 2 0 _ _ (by decide) rfl rfl g hg h
      refine wc_draw (Old z [p0]) (by kernel_rfl) rfl ?_
      refine wo_load hR rfl rfl ((hS.pt 1 rfl).at (Nat.le_of_ble_eq_true rfl)) rfl hx1 rfl rfl ?_
      refine wo_load hR rfl rfl ((hS.pt 2 rfl).at (Nat.le_of_ble_eq_true rfl)) rfl hx2 rfl rfl ?_
      refine wo_store_all (p := .ptr p0 0 0) hR (fun g hg => hg) rfl rfl rfl rfl rfl (by rfl) rfl (hS.pt 0 rfl) (by simp [AV.gs]) ?_
      rintro z hp hk hc
      have hS := hS.upd 0 rfl hk (fun g hg => hg) (ptC (.ptr p0 0 0) _) hp (fun g hg => .inl hg)
      have hS : SH _ [_, _, _, _] z := hS
      have hK := hS.K
      refine wo_val (fun _ => rfl) rfl rfl (op_pure rfl) ?_
      refine wd_nil ?_
      refine then_n ?_
      refine wc_ret ?_
      repeat first | refine then_r ?_ | refine out_r ?_ | refine round_r ?_ | refine cut_r ?_ | refine sc_r ?_
      exact ⟨_, res_cell2 rfl rfl rfl (hS.pt 0 rfl) rfl, hK, by first
        | (have e : srtN (rawN l.length a y) = ((rawN l.length a y).2.1, (rawN l.length a y).1, (rawN l.length a y).2.2) := (by unfold srtN; rw [if_pos ⟨by omega, h61⟩])
           rw [e]; rfl)
        | (have e : srtN (rawN l.length a y) = rawN l.length a y := (by unfold srtN; rw [if_neg (by omega)])
           rw [e]; rfl)⟩
    simp only [beq_eq_false_iff_ne, ne_eq] at h55
    refine w_off rfl rfl ?_
    refine w_off rfl rfl ?_
    refine w_off rfl rfl ?_
    refine w_off rfl rfl ?_
    refine w_off rfl rfl ?_
    refine w_val rfl rfl (op_pure rfl) ?_
    refine w_nil ?_
    refine then_n ?_
    repeat refine wc_seq ?_
    refine wc_cond_f rfl ?_
    refine wc_skip ?_
    refine then_n ?_
    repeat refine wc_seq ?_
    have hR := Keep.refl hS.ok
    have hx1 : ∀ g ∈ [p1], g ∉ [p0] := fun g hg h => hS.dis 1 0 _ _ (by decide) rfl rfl g hg h
    have hx2 : ∀ g ∈ [p2], g ∉ [p0] := fun g hg h => hS.dis 2 0 _ _ (by decide) rfl rfl g hg h
    refine wc_draw (Old z [p0]) (by kernel_rfl) rfl ?_
    refine wo_load hR rfl rfl ((hS.pt 1 rfl).at (Nat.le_of_ble_eq_true rfl)) rfl hx1 rfl rfl ?_
    refine wo_load hR rfl rfl ((hS.pt 2 rfl).at (Nat.le_of_ble_eq_true rfl)) rfl hx2 rfl rfl ?_
    refine wo_store_all (p := .ptr p0 0 0) hR (fun g hg => hg) rfl rfl rfl rfl rfl (by rfl) rfl (hS.pt 0 rfl) (by simp [AV.gs]) ?_
    rintro z hp hk hc
    have hS := hS.upd 0 rfl hk (fun g hg => hg) (ptC (.ptr p0 0 0) _) hp (fun g hg => .inl hg)
    have hS : SH _ [_, _, _, _] z := hS
    have hK := hS.K
    refine wo_val (fun _ => rfl) rfl rfl (op_pure rfl) ?_
    refine wd_nil ?_
    refine then_n ?_
    refine wc_ret ?_
    repeat first | refine then_r ?_ | refine out_r ?_ | refine round_r ?_ | refine cut_r ?_ | refine sc_r ?_
    exact ⟨_, res_cell2 rfl rfl rfl (hS.pt 0 rfl) rfl, hK, by first
      | (have e : srtN (rawN l.length a y) = ((rawN l.length a y).2.1, (rawN l.length a y).1, (rawN l.length a y).2.2) := (by unfold srtN; rw [if_pos ⟨by omega, h61⟩])
         rw [e]; rfl)
      | (have e : srtN (rawN l.length a y) = rawN l.length a y := (by unfold srtN; rw [if_neg (by omega)])
         rw [e]; rfl)⟩
  simp only [beq_eq_false_iff_ne, ne_eq] at h26
  repeat refine wc_seq ?_
  refine wc_region ?_
  refine w_val rfl rfl (op_pure rfl) ?_
  refine w_val rfl rfl (op_pure rfl) ?_
  refine w_nil ?_
  refine then_n ?_
  refine wc_condT rfl (fun h33 => ?_) (fun h33 => ?_)
  · simp only [beq_iff_eq] at h33
    repeat refine wc_seq ?_
    refine wc_region ?_
    refine w_val rfl rfl (op_pure rfl) ?_
    refine w_val rfl rfl (op_pure rfl) ?_
    refine w_val rfl rfl (op_add rfl rfl (by unfold In64; omega)) ?_
    refine w_val rfl rfl (op_pure rfl) ?_
    refine w_call rfl rfl (op_call rfl rfl rfl rfl) (put_ok (0, 0, 0) (by decide) hS) ?_
    rintro _ z ⟨rfl, hS⟩
    have hK := hS.K
    refine w_nil ?_
    refine then_n ?_
    refine wc_region ?_
    refine w_val rfl rfl (op_pure rfl) ?_
    refine w_val rfl rfl (op_fldP rfl rfl rfl rfl (by decide)) ?_
    refine w_val rfl rfl (op_loadC 3 hS rfl rfl rfl (Nat.le_of_ble_eq_true rfl) rfl) ?_
    refine w_val rfl rfl (op_pure rfl) ?_
    refine w_call rfl rfl (op_call rfl rfl rfl rfl) (put_ok (putA2 (0, 0, 0) ((a : Int) + 1) ((l.length : Int) - 1)) (putA2_le (by decide)) hS) ?_
    rintro _ z ⟨rfl, hS⟩
    rw [show putA2 (putA2 (0, 0, 0) _ _) _ _ = rawN l.length a y by unfold rawN; rw [if_neg h26, if_pos h33]] at hS
    have hK := hS.K
    have hcnt := rawN_le l.length a y
    refine w_nil ?_
    refine out_n ?_
    refine then_n ?_
    repeat refine wc_seq ?_
    refine wc_region ?_
    refine w_val rfl rfl (op_loadC 2 hS rfl rfl rfl (Nat.le_of_ble_eq_true rfl) rfl) ?_
    refine w_val rfl rfl (op_pure rfl) ?_
    refine w_val rfl rfl (op_pure rfl) ?_
    refine w_split (i := 55) rfl (fun h55 => ?_) (fun h55 => ?_)
    · simp only [beq_iff_eq] at h55
      refine w_val rfl rfl (op_idxArr (k := 0) rfl rfl rfl rfl rfl rfl (by decide)) ?_
      refine w_val rfl rfl (op_loadC 1 hS rfl rfl rfl (Nat.le_of_ble_eq_true rfl) rfl) ?_
      refine w_val rfl rfl (op_idxArr (k := 1) rfl rfl rfl rfl rfl rfl (by decide)) ?_
      refine w_val rfl rfl (op_loadC 1 hS rfl rfl rfl (Nat.le_of_ble_eq_true rfl) rfl) ?_
      refine w_val rfl rfl (op_pure rfl) ?_
      refine w_val rfl rfl (op_pure rfl) ?_
      refine w_nil ?_
      refine then_n ?_
      repeat refine wc_seq ?_
      refine wc_condT rfl (fun h61 => ?_) (fun h61 => ?_)
      · simp only [decide_eq_true_eq, gt_iff_lt] at h61
        refine wc_region ?_
        refine w_val rfl rfl (op_idxArr (k := 1) rfl rfl rfl rfl rfl rfl (by decide)) ?_
        refine w_val rfl rfl (op_loadC 1 hS rfl rfl rfl (Nat.le_of_ble_eq_true rfl) rfl) ?_
        refine w_val rfl rfl (op_idxArr (k := 0) rfl rfl rfl rfl rfl rfl (by decide)) ?_
        refine w_val rfl rfl (op_loadC 1 hS rfl rfl rfl (Nat.le_of_ble_eq_true rfl) rfl) ?_
        refine w_val rfl rfl (op_idxArr (k := 0) rfl rfl rfl rfl rfl rfl (by decide)) ?_
        refine ws_storeL 1 hS rfl rfl rfl rfl rfl rfl (by rfl) (Nat.le_of_ble_eq_true rfl) ?_
        rintro z hS
        have hS : SH _ [_, _, _, _] z := hS
        have hK := hS.K
        refine w_val rfl rfl (op_idxArr (k := 1) rfl rfl rfl rfl rfl rfl (by decide)) ?_
        refine ws_storeL 1 hS rfl rfl rfl rfl rfl rfl (by rfl) (Nat.le_of_ble_eq_true rfl) ?_
        rintro z hS
        have hS : SH _ [_, _, _, _] z := hS
        have hK := hS.K
        refine w_nil ?_
        refine then_n ?_
        repeat refine wc_seq ?_
        have hR := Keep.refl hS.ok
        have hx1 : ∀ g ∈ [p1], g ∉ [p0] := fun g hg h => hS.dis 1 0 _ _ (by decide) rfl rfl g hg h
        have hx2 : ∀ g ∈ [p2], g ∉ [p0] := fun g hg h => hS.dis 2 0 _ _ (by decide) rfl rfl g hg h
        refine wc_draw (Old z [p0]) (by kernel_rfl) rfl ?_
        refine wo_load hR rfl rfl ((hS.pt 1 rfl).at (Nat.le_of_ble_eq_true rfl)) rfl hx1 rfl rfl ?_
        refine wo_load hR rfl rfl ((hS.pt 2 rfl).at (Nat.le_of_ble_eq_true rfl)) rfl hx2 rfl rfl ?_
        refine wo_store_all (p := .ptr p0 0 0) hR (fun g hg => hg) rfl rfl rfl rfl rfl (by rfl) rfl (hS.pt 0 rfl) (by simp [AV.gs]) ?_
        rintro z hp hk hc
        have hS := hS.upd 0 rfl hk (fun g hg => hg) (ptC (.ptr p0 0 0) _) hp (fun g hg => .inl hg)
        have hS : SH _ [_, _, _, _] z := hS
        have hK := hS.K
        refine wo_val (fun _ => rfl) rfl rfl (op_pure rfl) ?_
        refine wd_nil ?_
        refine then_n ?_
        refine wc_ret ?_
        repeat first | refine then_r ?_ | refine out_r ?_ | refine round_r ?_ | refine cut_r ?_ | refine sc_r ?_
        exact ⟨_, res_cell2 rfl rfl rfl (hS.pt 0 rfl) rfl, hK, by first
          | (have e : srtN (rawN l.length a y) = ((rawN l.length a y).2.1, (rawN l.length a y).1, (rawN l.length a y).2.2) := (by unfold srtN; rw [if_pos ⟨by omega, h61⟩])
             rw [e]; rfl)
          | (have e : srtN (rawN l.length a y) = rawN l.length a y := (by unfold srtN; rw [if_neg (by omega)])
             rw [e]; rfl)⟩
      simp only [decide_eq_false_iff_not, gt_iff_lt] at h61
      refine wc_skip ?_
      refine then_n ?_
      repeat refine wc_seq ?_
      have hR := Keep.refl hS.ok
      have hx1 : ∀ g ∈ [p1], g ∉ [p0] := fun g hg h => hS.dis 1 0 _ _ (by decide) rfl rfl g hg h
      have hx2 : ∀ g ∈ [p2], g ∉ [p0] := fun g hg h => hS.dis 2 0 _ _ (by decide) rfl rfl g hg h
      refine wc_draw (Old z [p0]) (by kernel_rfl) rfl ?_
      refine wo_load hR rfl rfl ((hS.pt 1 rfl).at (Nat.le_of_ble_eq_true rfl)) rfl hx1 rfl rfl ?_
      refine wo_load hR rfl rfl ((hS.pt 2 rfl).at (Nat.le_of_ble_eq_true rfl)) rfl hx2 rfl rfl ?_
      refine wo_store_all (p := .ptr p0 0 0) hR (fun g hg => hg) rfl rfl rfl rfl rfl (by rfl) rfl (hS.pt 0 rfl) (by simp [AV.gs]) ?_
      rintro z hp hk hc
      have hS := hS.upd 0 rfl hk (fun g hg => hg) (ptC (.ptr p0 0 0) _) hp (fun g hg => .inl hg)
      have hS : SH _ [_, _, _, _] z := hS
      have hK := hS.K
      refine wo_val (fun _ => rfl) rfl rfl (op_pure rfl) ?_
      refine wd_nil ?_
      refine then_n ?_
      refine wc_ret ?_
      repeat first | refine then_r ?_ | refine out_r ?_ | refine round_r ?_ | refine cut_r ?_ | refine sc_r ?_
      exact ⟨_, res_cell2 rfl rfl rfl (hS.pt 0 rfl) rfl, hK, by first
        | (have e : srtN (rawN l.length a y) = ((rawN l.length a y).2.1, (rawN l.length a y).1, (rawN l.length a y).2.2) := (by unfold srtN; rw [if_pos ⟨by omega, h61⟩])
           rw [e]; rfl)
        | (have e : srtN (rawN l.length a y) = rawN l.length a y := (by unfold srtN; rw [if_neg (by omega)])
           rw [e]; rfl)⟩
    simp only [beq_eq_false_iff_ne, ne_eq] at h55
    refine w_off rfl rfl ?_
    refine w_off rfl rfl ?_
    refine w_off rfl rfl ?_
    refine w_off rfl rfl ?_
    refine w_off rfl rfl ?_
    refine w_val rfl rfl (op_pure rfl) ?_
    refine w_nil ?_
    refine then_n ?_
    repeat refine wc_seq ?_
    refine wc_cond_f rfl ?_
    refine wc_skip ?_
    refine then_n ?_
    repeat refine wc_seq ?_
    have hR := Keep.refl hS.ok
    have hx1 : ∀ g ∈ [p1], g ∉ [p0] := fun g hg h => hS.dis 1 0 _ _ (by decide) rfl rfl g hg h
    have hx2 : ∀ g ∈ [p2], g ∉ [p0] := fun g hg h => hS.dis 2 0 _ _ (by decide) rfl rfl g hg h
    refine wc_draw (Old z [p0]) (by kernel_rfl) rfl ?_
    refine wo_load hR rfl rfl ((hS.pt 1 rfl).at (Nat.le_of_ble_eq_true rfl)) rfl hx1 rfl rfl ?_
    refine wo_load hR rfl rfl ((hS.pt 2 rfl).at (Nat.le_of_ble_eq_true rfl)) rfl hx2 rfl rfl ?_
    refine wo_store_all (p := .ptr p0 0 0) hR (fun g hg => hg) rfl rfl rfl rfl rfl (by rfl) rfl (hS.pt 0 rfl) (by simp [AV.gs]) ?_
    rintro z hp hk hc
    have hS := hS.upd 0 rfl hk (fun g hg => hg) (ptC (.ptr p0 0 0) _) hp (fun g hg => .inl hg)
    have hS : SH _ [_, _, _, _] z := hS
    have hK := hS.K
    refine wo_val (fun _ => rfl) rfl rfl (op_pure rfl) ?_
    refine wd_nil ?_
    refine then_n ?_
    refine wc_ret ?_
    repeat first | refine then_r ?_ | refine out_r ?_ | refine round_r ?_ | refine cut_r ?_ | refine sc_r ?_
    exact ⟨_, res_cell2 rfl rfl rfl (hS.pt 0 rfl) rfl, hK, by first
      | (have e : srtN (rawN l.length a y) = ((rawN l.length a y).2.1, (rawN l.length a y).1, (rawN l.length a y).2.2) := (by unfold srtN; rw [if_pos ⟨by omega, h61⟩])
         rw [e]; rfl)
      | (have e : srtN (rawN l.length a y) = rawN l.length a y := (by unfold srtN; rw [if_neg (by omega)])
         rw [e]; rfl)⟩
  simp only [beq_eq_false_iff_ne, ne_eq] at h33
  repeat refine wc_seq ?_
  refine wc_region ?_
  refine w_val rfl rfl (op_pure rfl) ?_
  refine w_val rfl rfl (op_pure rfl) ?_
  refine w_nil ?_
  refine then_n ?_
  refine wc_condT rfl (fun h45 => ?_) (fun h45 => ?_)
  · simp only [beq_iff_eq] at h45
    refine wc_region ?_
    refine w_val rfl rfl (op_pure rfl) ?_
    refine w_val rfl rfl (op_pure rfl) ?_
    refine w_val rfl rfl (op_add rfl rfl (by unfold In64; omega)) ?_
    refine w_val rfl rfl (op_pure rfl) ?_
    refine w_val rfl rfl (op_add rfl rfl (by unfold In64; omega)) ?_
    refine w_call rfl rfl (op_call rfl rfl rfl rfl) (put_ok (0, 0, 0) (by decide) hS) ?_
    rintro _ z ⟨rfl, hS⟩
    rw [show putA2 (0, 0, 0) _ _ = rawN l.length a y by unfold rawN; rw [if_neg h26, if_neg h33, if_pos h45, show (l.length : Int) - 1 + 1 = l.length by omega]] at hS
    have hK := hS.K
    have hcnt := rawN_le l.length a y
    refine w_nil ?_
    refine out_n ?_
    refine then_n ?_
    repeat refine wc_seq ?_
    refine wc_region ?_
    refine w_val rfl rfl (op_loadC 2 hS rfl rfl rfl (Nat.le_of_ble_eq_true rfl) rfl) ?_
    refine w_val rfl rfl (op_pure rfl) ?_
    refine w_val rfl rfl (op_pure rfl) ?_
    refine w_split (i := 55) rfl (fun h55 => ?_) (fun h55 => ?_)
    · simp only [beq_iff_eq] at h55
      refine w_val rfl rfl (op_idxArr (k := 0) rfl rfl rfl rfl rfl rfl (by decide)) ?_
      refine w_val rfl rfl (op_loadC 1 hS rfl rfl rfl (Nat.le_of_ble_eq_true rfl) rfl) ?_
      refine w_val rfl rfl (op_idxArr (k := 1) rfl rfl rfl rfl rfl rfl (by decide)) ?_
      refine w_val rfl rfl (op_loadC 1 hS rfl rfl rfl (Nat.le_of_ble_eq_true rfl) rfl) ?_
      refine w_val rfl rfl (op_pure rfl) ?_
      refine w_val rfl rfl (op_pure rfl) ?_
      refine w_nil ?_
      refine then_n ?_
      repeat refine wc_seq ?_
      refine wc_condT rfl (fun h61 => ?_) (fun h61 => ?_)
      · simp only [decide_eq_true_eq, gt_iff_lt] at h61
        refine wc_region ?_
        refine w_val rfl rfl (op_idxArr (k := 1) rfl rfl rfl rfl rfl rfl (by decide)) ?_
        refine w_val rfl rfl (op_loadC 1 hS rfl rfl rfl (Nat.le_of_ble_eq_true rfl) rfl) ?_
        refine w_val rfl rfl (op_idxArr (k := 0) rfl rfl rfl rfl rfl rfl (by decide)) ?_
        refine w_val rfl rfl (op_loadC 1 hS rfl rfl rfl (Nat.le_of_ble_eq_true rfl) rfl) ?_
        refine w_val rfl rfl (op_idxArr (k := 0) rfl rfl rfl rfl rfl rfl (by decide)) ?_
        refine ws_storeL 1 hS rfl rfl rfl rfl rfl rfl (by rfl) (Nat.le_of_ble_eq_true rfl) ?_
        rintro z hS
        have hS : SH _ [_, _, _, _] z := hS
        have hK := hS.K
        refine w_val rfl rfl (op_idxArr (k := 1) rfl rfl rfl rfl rfl rfl (by decide)) ?_
        refine ws_storeL 1 hS rfl rfl rfl rfl rfl rfl (by rfl) (Nat.le_of_ble_eq_true rfl) ?_
        rintro z hS
        have hS : SH _ [_, _, _, _] z := hS
        have hK := hS.K
        refine w_nil ?_
        refine then_n ?_
        repeat refine wc_seq ?_
        have hR := Keep.refl hS.ok
        have hx1 : ∀ g ∈ [p1], g ∉ [p0] := fun g hg h => hS.dis 1 0 _ _ (by decide) rfl rfl g hg h
        have hx2 : ∀ g ∈ [p2], g ∉ [p0] := fun g hg h => hS.dis 2 0 _ _ (by decide) rfl rfl g hg h
        refine wc_draw (Old z [p0]) (by kernel_rfl) rfl ?_
        refine wo_load hR rfl rfl ((hS.pt 1 rfl).at (Nat.le_of_ble_eq_true rfl)) rfl hx1 rfl rfl ?_
        refine wo_load hR rfl rfl ((hS.pt 2 rfl).at (Nat.le_of_ble_eq_true rfl)) rfl hx2 rfl rfl ?_
        refine wo_store_all (p := .ptr p0 0 0) hR (fun g hg => hg) rfl rfl rfl rfl rfl (by rfl) rfl (hS.pt 0 rfl) (by simp [AV.gs]) ?_
        rintro z hp hk hc
        have hS := hS.upd 0 rfl hk (fun g hg => hg) (ptC (.ptr p0 0 0) _) hp (fun g hg => .inl hg)
        have hS : SH _ [_, _, _, _] z := hS
        have hK := hS.K
        refine wo_val (fun _ => rfl) rfl rfl (op_pure rfl) ?_
        refine wd_nil ?_
        refine then_n ?_
        refine wc_ret ?_
        repeat first | refine then_r ?_ | refine out_r ?_ | refine round_r ?_ | refine cut_r ?_ | refine sc_r ?_
        exact ⟨_, res_cell2 rfl rfl rfl (hS.pt 0 rfl) rfl, hK, by first
          | (have e : srtN (rawN l.length a y) = ((rawN l.length a y).2.1, (rawN l.length a y).1, (rawN l.length a y).2.2) := (by unfold srtN; rw [if_pos ⟨by omega, h61⟩])
             rw [e]; rfl)
          | (have e : srtN (rawN l.length a y) = rawN l.length a y := (by unfold srtN; rw [if_neg (by omega)])
             rw [e]; rfl)⟩
      simp only [decide_eq_false_iff_not, gt_iff_lt] at h61
      refine wc_skip ?_
      refine then_n ?_
      repeat refine wc_seq ?_
      have hR := Keep.refl hS.ok
      have hx1 : ∀ g ∈ [p1], g ∉ [p0] := fun g hg h => hS.dis 1 0 _ _ (by decide) rfl rfl g hg h
      have hx2 : ∀ g ∈ [p2], g ∉ [p0] := fun g hg h => hS.dis 2 0 _ _ (by decide) rfl rfl g hg h
      refine wc_draw (Old z [p0]) (by kernel_rfl) rfl ?_
      refine wo_load hR rfl rfl ((hS.pt 1 rfl).at (Nat.le_of_ble_eq_true rfl)) rfl hx1 rfl rfl ?_
      refine wo_load hR rfl rfl ((hS.pt 2 rfl).at (Nat.le_of_ble_eq_true rfl)) rfl hx2 rfl rfl ?_
      refine wo_store_all (p := .ptr p0 0 0) hR (fun g hg => hg) rfl rfl rfl rfl rfl (by rfl) rfl (hS.pt 0 rfl) (by simp [AV.gs]) ?_
      rintro z hp hk hc
      have hS := hS.upd 0 rfl hk (fun g hg => hg) (ptC (.ptr p0 0 0) _) hp (fun g hg => .inl hg)
      have hS : SH _ [_, _, _, _] z := hS
      have hK := hS.K
      refine wo_val (fun _ => rfl) rfl rfl (op_pure rfl) ?_
      refine wd_nil ?_
      refine then_n ?_
      refine wc_ret ?_
      repeat first | refine then_r ?_ | refine out_r ?_ | refine round_r ?_ | refine cut_r ?_ | refine sc_r ?_
      exact ⟨_, res_cell2 rfl rfl rfl (hS.pt 0 rfl) rfl, hK, by first
        | (have e : srtN (rawN l.length a y) = ((rawN l.length a y).2.1, (rawN l.length a y).1, (rawN l.length a y).2.2) := (by unfold srtN; rw [if_pos ⟨by omega, h61⟩])
           rw [e]; rfl)
        | (have e : srtN (rawN l.length a y) = rawN l.length a y := (by unfold srtN; rw [if_neg (by omega)])
           rw [e]; rfl)⟩
    simp only [beq_eq_false_iff_ne, ne_eq] at h55
    refine w_off rfl rfl ?_
    refine w_off rfl rfl ?_
    refine w_off rfl rfl ?_
    refine w_off rfl rfl ?_
    refine w_off rfl rfl ?_
    refine w_val rfl rfl (op_pure rfl) ?_
    refine w_nil ?_
    refine then_n ?_
    repeat refine wc_seq ?_
    refine wc_cond_f rfl ?_
    refine wc_skip ?_
    refine then_n ?_
    repeat refine wc_seq ?_
    have hR := Keep.refl hS.ok
    have hx1 : ∀ g ∈ [p1], g ∉ [p0] := fun g hg h => hS.dis 1 0 _ _ (by decide) rfl rfl g hg h
    have hx2 : ∀ g ∈ [p2], g ∉ [p0] := fun g hg h => hS.dis 2 0 _ _ (by decide) rfl rfl g hg h
    refine wc_draw (Old z [p0]) (by kernel_rfl) rfl ?_
    refine wo_load hR rfl rfl ((hS.pt 1 rfl).at (Nat.le_of_ble_eq_true rfl)) rfl hx1 rfl rfl ?_
    refine wo_load hR rfl rfl ((hS.pt 2 rfl).at (Nat.le_of_ble_eq_true rfl)) rfl hx2 rfl rfl ?_
    refine wo_store_all (p := .ptr p0 0 0) hR (fun g hg => hg) rfl rfl rfl rfl rfl (by rfl) rfl (hS.pt 0 rfl) (by simp [AV.gs]) ?_
    rintro z hp hk hc
    have hS := hS.upd 0 rfl hk (fun g hg => hg) (ptC (.ptr p0 0 0) _) hp (fun g hg => .inl hg)
    have hS : SH _ [_, _, _, _] z := hS
    have hK := hS.K
    refine wo_val (fun _ => rfl) rfl rfl (op_pure rfl) ?_
    refine wd_nil ?_
    refine then_n ?_
    refine wc_ret ?_
    repeat first | refine then_r ?_ | refine out_r ?_ | refine round_r ?_ | refine cut_r ?_ | refine sc_r ?_
    exact ⟨_, res_cell2 rfl rfl rfl (hS.pt 0 rfl) rfl, hK, by first
      | (have e : srtN (rawN l.length a y) = ((rawN l.length a y).2.1, (rawN l.length a y).1, (rawN l.length a y).2.2) := (by unfold srtN; rw [if_pos ⟨by omega, h61⟩])
         rw [e]; rfl)
      | (have e : srtN (rawN l.length a y) = rawN l.length a y := (by unfold srtN; rw [if_neg (by omega)])
         rw [e]; rfl)⟩
  simp only [beq_eq_false_iff_ne, ne_eq] at h45
  refine wc_region ?_
  refine w_val rfl rfl (op_pure rfl) ?_
  refine w_val rfl rfl (op_pure rfl) ?_
  refine w_val rfl rfl (op_add rfl rfl (by unfold In64; omega)) ?_
  refine w_val rfl rfl (op_pure rfl) ?_
  refine w_call rfl rfl (op_call rfl rfl rfl rfl) (put_ok (0, 0, 0) (by decide) hS) ?_
  rintro _ z ⟨rfl, hS⟩
  rw [show putA2 (0, 0, 0) _ _ = rawN l.length a y by unfold rawN; rw [if_neg h26, if_neg h33, if_neg h45]] at hS
  have hK := hS.K
  have hcnt := rawN_le l.length a y
  refine w_nil ?_
  refine out_n ?_
  refine then_n ?_
  repeat refine wc_seq ?_
  refine wc_region ?_
  refine w_val rfl rfl (op_loadC 2 hS rfl rfl rfl (Nat.le_of_ble_eq_true rfl) rfl) ?_
  refine w_val rfl rfl (op_pure rfl) ?_
  refine w_val rfl rfl (op_pure rfl) ?_
  refine w_split (i := 55) rfl (fun h55 => ?_) (fun h55 => ?_)
  · simp only [beq_iff_eq] at h55
    refine w_val rfl rfl (op_idxArr (k := 0) rfl rfl rfl rfl rfl rfl (by decide)) ?_
    refine w_val rfl rfl (op_loadC 1 hS rfl rfl rfl (Nat.le_of_ble_eq_true rfl) rfl) ?_
    refine w_val rfl rfl (op_idxArr (k := 1) rfl rfl rfl rfl rfl rfl (by decide)) ?_
    refine w_val rfl rfl (op_loadC 1 hS rfl rfl rfl (Nat.le_of_ble_eq_true rfl) rfl) ?_
    refine w_val rfl rfl (op_pure rfl) ?_
    refine w_val rfl rfl (op_pure rfl) ?_
    refine w_nil ?_
    refine then_n ?_
    repeat refine wc_seq ?_
    refine wc_condT rfl (fun h61 => ?_) (fun h61 => ?_)
    · simp only [decide_eq_true_eq, gt_iff_lt] at h61
      refine wc_region ?_
      refine w_val rfl rfl (op_idxArr (k := 1) rfl rfl rfl rfl rfl rfl (by decide)) ?_
      refine w_val rfl rfl (op_loadC 1 hS rfl rfl rfl (Nat.le_of_ble_eq_true rfl) rfl) ?_
      refine w_val rfl rfl (op_idxArr (k := 0) rfl rfl rfl rfl rfl rfl (by decide)) ?_
      refine w_val rfl rfl (op_loadC 1 hS rfl rfl rfl (Nat.le_of_ble_eq_true rfl) rfl) ?_
      refine w_val rfl rfl (op_idxArr (k := 0) rfl rfl rfl rfl rfl rfl (by decide)) ?_
      refine ws_storeL 1 hS rfl rfl rfl rfl rfl rfl (by rfl) (Nat.le_of_ble_eq_true rfl) ?_
      rintro z hS
      have hS : SH _ [_, _, _, _] z := hS
      have hK := hS.K
      refine w_val rfl rfl (op_idxArr (k := 1) rfl rfl rfl rfl rfl rfl (by decide)) ?_
      refine ws_storeL 1 hS rfl rfl rfl rfl rfl rfl (by rfl) (Nat.le_of_ble_eq_true rfl) ?_
      rintro z hS
      have hS : SH _ [_, _, _, _] z := hS
      have hK := hS.K
      refine w_nil ?_
      refine then_n ?_
      repeat refine wc_seq ?_
      have hR := Keep.refl hS.ok
      have hx1 : ∀ g ∈ [p1], g ∉ [p0] := fun g hg h => hS.dis 1 0 _ _ (by decide) rfl rfl g hg h
      have hx2 : ∀ g ∈ [p2], g ∉ [p0] := fun g hg h => hS.dis 2 0 _ _ (by decide) rfl rfl g hg h
      refine wc_draw (Old z [p0]) (by kernel_rfl) rfl ?_
      refine wo_load hR rfl rfl ((hS.pt 1 rfl).at (Nat.le_of_ble_eq_true rfl)) rfl hx1 rfl rfl ?_
      refine wo_load hR rfl rfl ((hS.pt 2 rfl).at (Nat.le_of_ble_eq_true rfl)) rfl hx2 rfl rfl ?_
      refine wo_store_all (p := .ptr p0 0 0) hR (fun g hg => hg) rfl rfl rfl rfl rfl (by rfl) rfl (hS.pt 0 rfl) (by simp [AV.gs]) ?_
      rintro z hp hk hc
      have hS := hS.upd 0 rfl hk (fun g hg => hg) (ptC (.ptr p0 0 0) _) hp (fun g hg => .inl hg)
      have hS : SH _ [_, _, _, _] z := hS
      have hK := hS.K
      refine wo_val (fun _ => rfl) rfl rfl (op_pure rfl) ?_
      refine wd_nil ?_
      refine then_n ?_
      refine wc_ret ?_
      repeat first | refine then_r ?_ | refine out_r ?_ | refine round_r ?_ | refine cut_r ?_ | refine sc_r ?_
      exact ⟨_, res_cell2 rfl rfl rfl (hS.pt 0 rfl) rfl, hK, by first
        | (have e : srtN (rawN l.length a y) = ((rawN l.length a y).2.1, (rawN l.length a y).1, (rawN l.length a y).2.2) := (by unfold srtN; rw [if_pos ⟨by omega, h61⟩])
           rw [e]; rfl)
        | (have e : srtN (rawN l.length a y) = rawN l.length a y := (by unfold srtN; rw [if_neg (by omega)])
           rw [e]; rfl)⟩
    simp only [decide_eq_false_iff_not, gt_iff_lt] at h61
    refine wc_skip ?_
    refine then_n ?_
    repeat refine wc_seq ?_
    have hR := Keep.refl hS.ok
    have hx1 : ∀ g ∈ [p1], g ∉ [p0] := fun g hg h => hS.dis 1 0 _ _ (by decide) rfl rfl g hg h
    have hx2 : ∀ g ∈ [p2], g ∉ [p0] := fun g hg h => hS.dis 2 0 _ _ (by decide) rfl rfl g hg h
    refine wc_draw (Old z [p0]) (by kernel_rfl) rfl ?_
    refine wo_load hR rfl rfl ((hS.pt 1 rfl).at (Nat.le_of_ble_eq_true rfl)) rfl hx1 rfl rfl ?_
    refine wo_load hR rfl rfl ((hS.pt 2 rfl).at (Nat.le_of_ble_eq_true rfl)) rfl hx2 rfl rfl ?_
    refine wo_store_all (p := .ptr p0 0 0) hR (fun g hg => hg) rfl rfl rfl rfl rfl (by rfl) rfl (hS.pt 0 rfl) (by simp [AV.gs]) ?_
    rintro z hp hk hc
    have hS := hS.upd 0 rfl hk (fun g hg => hg) (ptC (.ptr p0 0 0) _) hp (fun g hg => .inl hg)
    have hS : SH _ [_, _, _, _] z := hS
    have hK := hS.K
    refine wo_val (fun _ => rfl) rfl rfl (op_pure rfl) ?_
    refine wd_nil ?_
    refine then_n ?_
    refine wc_ret ?_
    repeat first | refine then_r ?_ | refine out_r ?_ | refine round_r ?_ | refine cut_r ?_ | refine sc_r ?_
    exact ⟨_, res_cell2 rfl rfl rfl (hS.pt 0 rfl) rfl, hK, by first
      | (have e : srtN (rawN l.length a y) = ((rawN l.length a y).2.1, (rawN l.length a y).1, (rawN l.length a y).2.2) := (by unfold srtN; rw [if_pos ⟨by omega, h61⟩])
         rw [e]; rfl)
      | (have e : srtN (rawN l.length a y) = rawN l.length a y := (by unfold srtN; rw [if_neg (by omega)])
         rw [e]; rfl)⟩
  simp only [beq_eq_false_iff_ne, ne_eq] at h55
  refine w_off rfl rfl ?_
  refine w_off rfl rfl ?_
  refine w_off rfl rfl ?_
  refine w_off rfl rfl ?_
  refine w_off rfl rfl ?_
  refine w_val rfl rfl (op_pure rfl) ?_
  refine w_nil ?_
  refine then_n ?_
  repeat refine wc_seq ?_
  refine wc_cond_f rfl ?_
  refine wc_skip ?_
  refine then_n ?_
  repeat refine wc_seq ?_
  have hR := Keep.refl hS.ok
  have hx1 : ∀ g ∈ [p1], g ∉ [p0] := fun g hg h => hS.dis 1 0 _ _ (by decide) rfl rfl g hg h
  have hx2 : ∀ g ∈ [p2], g ∉ [p0] := fun g hg h => hS.dis 2 0 _ _ (by decide) rfl rfl g hg h
  refine wc_draw (Old z [p0]) (by kernel_rfl) rfl ?_
  refine wo_load hR rfl rfl ((hS.pt 1 rfl).at (Nat.le_of_ble_eq_true rfl)) rfl hx1 rfl rfl ?_
  refine wo_load hR rfl rfl ((hS.pt 2 rfl).at (Nat.le_of_ble_eq_true rfl)) rfl hx2 rfl rfl ?_
  refine wo_store_all (p := .ptr p0 0 0) hR (fun g hg => hg) rfl rfl rfl rfl rfl (by rfl) rfl (hS.pt 0 rfl) (by simp [AV.gs]) ?_
  rintro z hp hk hc
  have hS := hS.upd 0 rfl hk (fun g hg => hg) (ptC (.ptr p0 0 0) _) hp (fun g hg => .inl hg)
  have hS : SH _ [_, _, _, _] z := hS
  have hK := hS.K
  refine wo_val (fun _ => rfl) rfl rfl (op_pure rfl) ?_
  refine wd_nil ?_
  refine then_n ?_
  refine wc_ret ?_
  repeat first | refine then_r ?_ | refine out_r ?_ | refine round_r ?_ | refine cut_r ?_ | refine sc_r ?_
  exact ⟨_, res_cell2 rfl rfl rfl (hS.pt 0 rfl) rfl, hK, by first
    | (have e : srtN (rawN l.length a y) = ((rawN l.length a y).2.1, (rawN l.length a y).1, (rawN l.length a y).2.2) := (by unfold srtN; rw [if_pos ⟨by omega, h61⟩])
       rw [e]; rfl)
    | (have e : srtN (rawN l.length a y) = rawN l.length a y := (by unfold srtN; rw [if_neg (by omega)])
       rw [e]; rfl)⟩
def nextA (l : List InstrL) (a : Nat) : List Int := match l[a]? with
  | some y => nextN l.length a y
  | none => []
theorem nextA_len (l : List InstrL) (a : Nat) : (nextA l a).length ≤ 2 := by
  unfold nextA
  split
  · unfold nextN; rw [List.length_take]; simp only [List.length_cons, List.length_nil]; omega
  · simp
set_option maxRecDepth 10000 in
set_option maxHeartbeats 8000000 in
theorem next_ok {s : St} {v c1 c2 c3 c4 c5 : AV} {l : List InstrL} {a : Nat} (hok : s.Ok) (hv : Row s.h 2 v (l.map inC)) (hl : l.length ≤ 2097152) (hz : ([c1, c2, c3, c4, c5, v] : List AV).all AV.leaf = true) :
    CallS Try.prog Tt Kt 63 [.agg [c1, c2, c3, c4, c5, v], .int .i64 (a : Nat)] s (fun r s' => Keep [] s s' ∧ Row s'.h 1 r ((nextA l a).map iC) ∧ (r.gs = [] → r = .nils) ∧ ∀ g ∈ r.gs, s.ctr ≤ g) := by
  refine call_of (fn := Try.f63) (nt := 27) Try.func63 rfl rfl rfl ?_
  repeat refine wc_seq ?_
  have hS := SH.start hok
  refine wc_region ?_
  refine ws_box hS rfl rfl rfl hz ?_
  rintro p0 z hS hk
  have hS : SH _ [_] z := hS
  have hK := hS.K
  refine w_val rfl rfl (op_pure rfl) ?_
  refine w_nil ?_
  refine then_n ?_
  repeat refine wc_seq ?_
  refine wc_region ?_
  refine w_val rfl rfl (op_pure rfl) ?_
  refine w_val rfl rfl (op_int (v := .bool false) rfl rfl (by decide) (by unfold intA; rw [decide_eq_false (by omega)])) ?_
  refine w_val rfl rfl (op_pure rfl) ?_
  refine w_val rfl rfl (op_pure rfl) ?_
  refine w_val rfl rfl (op_fldP rfl rfl rfl rfl (by decide)) ?_
  refine w_val rfl rfl (op_loadC 0 hS rfl rfl rfl (Nat.le_of_ble_eq_true rfl) rfl) ?_
  refine w_val rfl rfl (op_len rfl rfl rfl rfl rfl hv.slenF) ?_
  refine w_val rfl rfl (op_pure rfl) ?_
  refine w_val rfl rfl (op_pure rfl) ?_
  refine w_nil ?_
  refine then_n ?_
  repeat refine wc_seq ?_
  refine wc_condT rfl (fun h15 => ?_) (fun h15 => ?_)
  · simp only [decide_eq_true_eq, ge_iff_le] at h15
    repeat refine wc_seq ?_
    refine wc_region ?_
    refine w_val rfl rfl (op_pure rfl) ?_
    refine w_nil ?_
    refine then_n ?_
    refine wc_ret ?_
    repeat first | refine then_r ?_ | refine out_r ?_ | refine round_r ?_ | refine cut_r ?_ | refine sc_r ?_
    have e : nextA l a = [] := by unfold nextA; rw [List.getElem?_eq_none (by omega)]
    exact ⟨_, rfl, hK, by rw [e]; exact row_nils _ _, fun _ => rfl, fun g hg => by cases hg⟩
  simp only [decide_eq_false_iff_not, ge_iff_le] at h15
  refine wc_skip ?_
  refine then_n ?_
  repeat refine wc_seq ?_
  obtain ⟨y, hy⟩ : ∃ y, l[a]? = some y := ⟨_, List.getElem?_eq_getElem (by omega)⟩
  have hvz := hv.keep0 hK
  have hcnt : (srtN (rawN l.length a y)).2.2 ≤ 2 := by rw [srtN_cnt]; exact rawN_le _ _ _
  have hnx : nextA l a = nextN l.length a y := by unfold nextA; rw [hy]
  refine wc_region ?_
  refine w_val rfl rfl (op_fldP rfl rfl rfl rfl (by decide)) ?_
  refine w_val rfl rfl (op_loadC 0 hS rfl rfl rfl (Nat.le_of_ble_eq_true rfl) rfl) ?_
  refine w_val rfl rfl (op_pure rfl) ?_
  refine w_call rfl rfl (op_call rfl rfl rfl rfl) (to_ok hK.ok hvz hl hy) ?_
  rintro _ z ⟨hk, rfl⟩
  have hS := hS.mov hk
  have hK := hS.K
  refine w_val rfl rfl (op_pure rfl) ?_
  refine w_val rfl rfl (op_pure rfl) ?_
  refine w_val rfl rfl (op_pure rfl) ?_
  refine ws_alloc hS rfl rfl rfl rfl ?_
  rintro p1 z hS hk
  have hS : SH _ [_, _] z := hS
  have hK := hS.K
  refine ws_store 1 hS rfl rfl rfl rfl rfl rfl (by rfl) (Nat.le_of_ble_eq_true rfl) ?_
  rintro z hS
  have hS : SH _ [_, _] z := hS
  have hK := hS.K
  refine w_val rfl rfl (op_pure rfl) ?_
  refine w_nil ?_
  refine then_n ?_
  repeat refine wc_seq ?_
  refine wc_region ?_
  refine w_val rfl rfl (op_pure rfl) ?_
  refine w_val rfl rfl (op_cutArr rfl rfl (natA_cast _ _) rfl rfl rfl rfl hcnt (hS.pt 1 rfl) rfl) ?_
  have hrow := arr_row (hS.pt 1 rfl) (n := 2) rfl hcnt rfl
  have hlen := nextA_len l a
  have hrow : Row z.h 1 (.slc p1 0 0 1 (srtN (rawN l.length a y)).2.2 2 true) ((nextA l a).map iC) := by
    rw [List.map_take] at hrow
    rw [hnx]; unfold nextN; rw [List.map_take]; exact hrow
  refine w_call rfl rfl (op_call rfl rfl rfl rfl) (cloneInts_ok hS.ok (by rw [List.length_map]; omega) hrow (by simp [AV.gs])) ?_
  rintro rr z ⟨hk, hr, hb, hn⟩
  have hS := hS.mov hk
  have hKc := hK.ctr
  have hK := hS.K
  refine w_call rfl rfl (op_call rfl rfl rfl rfl) (clipInts_ok hr (fun e => (hn e).elim)) ?_
  rintro _ _ ⟨rfl, rfl⟩
  refine w_val rfl rfl (op_pure rfl) ?_
  refine w_nil ?_
  refine then_n ?_
  refine wc_ret ?_
  repeat first | refine then_r ?_ | refine out_r ?_ | refine round_r ?_ | refine cut_r ?_ | refine sc_r ?_
  exact ⟨_, rfl, hK, hr.clip, (fun e => by have e' : (clipA rr).gs = [] := e; rw [clipA_gs] at e'; exact (hn e').elim), fun g hg => by have hg' : g ∈ (clipA rr).gs := hg; rw [clipA_gs] at hg'; have := hb g hg'; omega⟩
end Go.Ab
/- Which nodes are reached. -/
namespace Go.Ab
open Go.Proofs
def EdN (l : List InstrL) (a b : Nat) : Prop := ((b : Nat) : Int) ∈ nextA l a
inductive RN (l : List InstrL) (f : Nat) : Nat → Prop where
  | here : RN l f f
  | step {a b : Nat} : RN l f a → EdN l a b → RN l f b
def MkN (l : List InstrL) (f : Nat) (L : List Bool) : Prop := L.length = l.length + 1 ∧ ∀ k, Tk L k ↔ RN l f k
theorem nextA_in {l : List InstrL} {a : Nat} {b : Int} (h : b ∈ nextA l a) : 0 ≤ b ∧ b ≤ (l.length : Int) := by
  unfold nextA at h
  split at h
  · rename_i y hy
    have ha := (List.getElem?_eq_some_iff.1 hy).1
    exact nextN_in (by omega) (by omega) (by omega) h
  · cases h
theorem rep_noTk {n k : Nat} : ¬ Tk (List.replicate n false) k := fun h => by
  have := List.mem_of_getElem? h
  rw [List.mem_replicate] at this
  exact Bool.noConfusion this.2
section
variable {l : List InstrL} {f : Nat} {L : List Bool} {todo : List Nat} {a b : Nat}
structure VisI (l : List InstrL) (f : Nat) (L : List Bool) (todo : List Nat) : Prop where
  len : L.length = l.length + 1
  here : Tk L f
  sound : ∀ k, Tk L k → RN l f k
  inL : ∀ k ∈ todo, Tk L k
  clo : ∀ k, Tk L k → k ∉ todo → ∀ b, EdN l k b → Tk L b
  cnt : todo.length + cntF L ≤ l.length + 1
theorem cntF_rep' (n : Nat) : cntF (List.replicate n false) = n := by unfold cntF; rw [List.countP_replicate]; rfl
theorem VisI.start (hf : f < l.length + 1) : VisI l f ((List.replicate (l.length + 1) false).set f true) [f] := by
  have hl : f < (List.replicate (l.length + 1) false).length := by rw [List.length_replicate]; exact hf
  refine ⟨by simp, (Tk_set hl).2 (.inl rfl), fun k hk => ?_, fun k hk => ?_, fun k hk hn => ?_, ?_⟩
  · rcases (Tk_set hl).1 hk with rfl | h
    · exact .here
    · exact (rep_noTk h).elim
  · rw [List.mem_singleton.1 hk]; exact (Tk_set hl).2 (.inl rfl)
  · rcases (Tk_set hl).1 hk with rfl | h
    · exact (hn (List.mem_singleton.2 rfl)).elim
    · exact (rep_noTk h).elim
  · have hr : (List.replicate (l.length + 1) false)[f]? = some false := by rw [List.getElem?_replicate, if_pos hf]
    have := cntF_set hr
    rw [cntF_rep'] at this
    rw [List.length_singleton]; omega
theorem VisI.push (h : VisI l f L todo) (ha : a ∈ todo) (he : EdN l a b) (hb : L[b]? = some false) : VisI l f (L.set b true) (todo ++ [b]) := by
  have hbl := (List.getElem?_eq_some_iff.1 hb).1
  refine ⟨by rw [List.length_set]; exact h.len, (Tk_set hbl).2 (.inr h.here), fun k hk => ?_, fun k hk => ?_, fun k hk hn c hc => ?_, by have := cntF_set hb; have := h.cnt; rw [List.length_append, List.length_singleton]; omega⟩
  · rcases (Tk_set hbl).1 hk with rfl | hk
    · exact .step (h.sound a (h.inL a ha)) he
    · exact h.sound k hk
  · rcases List.mem_append.1 hk with hk | hk
    · exact (Tk_set hbl).2 (.inr (h.inL k hk))
    · rw [List.mem_singleton.1 hk]; exact (Tk_set hbl).2 (.inl rfl)
  · rcases (Tk_set hbl).1 hk with rfl | hk
    · exact (hn (List.mem_append.2 (.inr (List.mem_singleton.2 rfl)))).elim
    · exact (Tk_set hbl).2 (.inr (h.clo k hk (fun h' => hn (List.mem_append.2 (.inl h'))) c hc))
theorem VisI.pop {t : List Nat} (h : VisI l f L (t ++ [a])) (ha : ∀ b, EdN l a b → Tk L b) : VisI l f L t := by
  refine ⟨h.len, h.here, h.sound, fun k hk => h.inL k (List.mem_append.2 (.inl hk)), fun k hk hn c hc => ?_, by have := h.cnt; rw [List.length_append, List.length_singleton] at this; omega⟩
  by_cases e : k = a
  · subst e; exact ha c hc
  · exact h.clo k hk (fun h' => by rcases List.mem_append.1 h' with h' | h'; exact hn h'; exact e (List.mem_singleton.1 h')) c hc
theorem VisI.marks (h : VisI l f L []) : MkN l f L := by
  refine ⟨h.len, fun k => ⟨h.sound k, fun hk => ?_⟩⟩
  induction hk with
  | here => exact h.here
  | step _ e ih => exact h.clo _ ih (fun h => by cases h) _ e
structure BfsI (l : List InstrL) (f : Nat) (L : List Bool) (todo : List Nat) (k : Nat) : Prop where
  len : L.length = l.length + 1
  sound : ∀ k, Tk L k → RN l f k
  mem : ∀ c, Tk L c ↔ c ∈ todo
  here : f ∈ todo
  cnt : todo.length + cntF L = l.length + 1
  done : ∀ (j c : Nat), j < k → todo[j]? = some c → ∀ b, EdN l c b → Tk L b
end
def tI (t : List Nat) : List Int := t.map fun k : Nat => (k : Int)
theorem tI_get {t : List Nat} {i k : Nat} (h : t[i]? = some k) : (tI t)[i]? = some (k : Int) := by unfold tI; rw [List.getElem?_map, h]; rfl
theorem tI_len (t : List Nat) : (tI t).length = t.length := List.length_map ..
theorem tI_app (t : List Nat) (a : Nat) : tI (t ++ [a]) = tI t ++ [(a : Int)] := by simp [tI]
end Go.Ab
/- graph.Reach. -/
namespace Go.Ab
open Go.Proofs
section
variable {P : Program} {T : Tab} {K : FuncId → Option Bool} {nt : Nat} {ops : Array Oper} {rest : List Oper} {m : Sy} {s s0 : St} {Q : Sy → St → Prop} {d ty : Nat} {pos : String} {af : Array Edge} {g : Option (Nat × Bool)} {L : List Chunk}
theorem ws_lit1C {tt e : TypeId} {parts : Array (Nat × Operand)} {i ie : TI} {ps : List (Nat × AV)} {c : List AV} {sz : Nat} (hS : SH s0 L s) (hg : guardY ops m g = some true) (hd : Nat.ble (d + 1) nt = true) (hT : T tt = some i) (hs : i.sh = .slice e) (he : T e = some ie) (hp : evPartsY m parts.toList = some ps)
    (hsz : ie.size = sz) (hz : ie.zero.length = ie.size) (h0 : ie.size ≠ 0) (h24 : ie.size ≤ 2 ^ 24) (hf : fillA (fun n => some (n * ie.size, ie.size)) ie.zero ps = some c) (hl : c.all AV.leaf = true) (hcl : c.length = ie.size)
    (k : ∀ v s', SH s0 (L ++ [rowC v sz [c]]) s' → v.gs ≠ [] → W P T K nt ops rest ((d, v) :: m) s' Q) : W P T K nt ops (⟨some d, .buildSlice tt 1 parts, ty, pos, af, g⟩ :: rest) m s Q := by
  subst hsz
  exact w_lit1 hg hd hT hs he hp hz h0 h24 hf hl hcl hS.ok fun v s' hv hk hc hvg => k v s' (hS.add hk _ ⟨hv, fun h => by rw [hvg] at h; cases h⟩ (row_newb hk hv hvg hc)) (by rw [hvg]; simp)
end
theorem RowCut {s0 s : St} {L : List Chunk} {v : AV} {sz n h : Nat} {α : Type} {f : α → List AV} {xs : List α} (hS : SH s0 L s) (hn : L[n]? = some (rowC v sz (xs.map f))) (hh : h ≤ xs.length) : SH s0 (L.set n (rowC (cutA v 0 h) sz ((xs.take h).map f))) s :=
  hS.as n hn _ ⟨(hS.row n hn).cutF hh, fun e => by rw [cutA_gs] at e; rw [hS.nls n hn e]; rfl⟩ fun g hg => by have hg' : g ∈ (cutA v 0 h).gs := hg; rw [cutA_gs] at hg'; exact hg'
theorem snoc_cases {β : Type} (l : List β) : l = [] ∨ ∃ t a, l = t ++ [a] := by
  rcases List.eq_nil_or_concat l with h | ⟨t, a, h⟩
  · exact .inl h
  · exact .inr ⟨t, a, by rw [h, List.concat_eq_append]⟩
theorem tI_last (t : List Nat) (a : Nat) : (tI (t ++ [a]))[(tI (t ++ [a])).length - 1]? = some (a : Int) := by
  rw [tI_len, List.length_append, List.length_singleton, Nat.add_sub_cancel]
  exact tI_get (by simp)
theorem tI_take (t : List Nat) (a : Nat) : (tI (t ++ [a])).take ((tI (t ++ [a])).length - 1) = tI t := by
  rw [tI_len, List.length_append, List.length_singleton, Nat.add_sub_cancel, tI_app]
  rw [List.take_append_of_le_length (by rw [tI_len]; exact Nat.le_refl _), List.take_of_length_le (by rw [tI_len]; exact Nat.le_refl _)]
set_option maxRecDepth 10000 in
set_option maxHeartbeats 8000000 in
theorem visitN_ok {s : St} {l : List InstrL} {gf : FuncId} {caps : List AV} (hok : s.Ok) (hl : l.length ≤ 2097152)
    (hcl : ∀ (s' : St) (k : Nat), Keep [] s s' → CallS Try.prog Tt Kt gf (.int .i64 (k : Nat) :: caps) s' (fun r s'' => Keep [] s' s'' ∧ Row s''.h 1 r ((nextA l k).map iC))) :
    CallS Try.prog Tt Kt 61 [.int .i64 ((l.length : Nat) + 1), .int .i64 0, .fn gf caps] s (fun r s' => Keep [] s s' ∧ ∃ L, MkN l 0 L ∧ Row s'.h 1 r (L.map bC) ∧ (∀ g ∈ r.gs, s.ctr ≤ g) ∧ (r.gs = [] → r = .nils)) := by
  refine call_of (fn := Try.f61) (nt := 63) Try.func61 rfl rfl rfl ?_
  repeat refine wc_seq ?_
  have hS := SH.start hok
  have hK := hS.K
  refine wc_region ?_
  refine w_val rfl rfl (op_pure rfl) ?_
  refine w_nil ?_
  refine then_n ?_
  refine wc_scope ?_
  repeat refine wc_seq ?_
  refine wc_region ?_
  refine w_val rfl rfl (op_pure rfl) ?_
  refine ws_mk (n := l.length + 1) hS rfl rfl rfl rfl rfl rfl rfl rfl rfl (by decide) rfl (by simp only [maxBytes]; omega) (by omega) ?_
  rintro sv z hS hne hk
  have hS : SH s [rowC sv 1 ((List.replicate (l.length + 1) false).map bC)] z := by rw [← rep_bC]; exact hS
  have hK := hS.K
  refine w_val rfl rfl (op_pure rfl) ?_
  refine w_nil ?_
  refine then_n ?_
  repeat refine wc_seq ?_
  refine wc_region ?_
  refine w_val rfl rfl (op_pure rfl) ?_
  refine w_val rfl rfl (op_int (v := .bool false) rfl rfl (by decide) rfl) ?_
  refine w_val rfl rfl (op_pure rfl) ?_
  refine w_val rfl rfl (op_pure rfl) ?_
  refine w_val rfl rfl (op_pure rfl) ?_
  refine w_val rfl rfl (op_int (v := .bool false) rfl rfl (by decide) (show intA .geq .i64 0 ((l.length : Nat) + 1) = some (.bool false) from congrArg (fun b => some (AV.bool b)) (decide_eq_false (by omega)))) ?_
  refine w_val rfl rfl (op_pure rfl) ?_
  refine w_nil ?_
  refine then_n ?_
  repeat refine wc_seq ?_
  refine wc_cond_f rfl ?_
  refine wc_skip ?_
  refine then_n ?_
  repeat refine wc_seq ?_
  refine wc_region ?_
  refine w_val rfl rfl (op_pure rfl) ?_
  refine w_val rfl rfl (op_pure rfl) ?_
  refine w_val rfl rfl (op_idxF rfl rfl (natA_cast _ _) rfl rfl rfl rfl (hS.row 0 rfl) (by (simp; done))) ?_
  refine ws_storeE 0 hS rfl rfl rfl rfl rfl rfl rfl (by rfl) (by (simp; done)) ?_
  rintro z hS
  have hS : SH _ [_] z := hS
  have hK := hS.K
  refine w_nil ?_
  have hS : SH s [rowC sv 1 (((List.replicate (l.length + 1) false).set 0 true).map bC)] z := by rw [List.map_set]; exact hS
  have hI := VisI.start (l := l) (f := 0) (by omega)
  generalize (List.replicate (l.length + 1) false).set 0 true = L at hS hI
  refine then_n ?_
  repeat refine wc_seq ?_
  refine wc_region ?_
  refine w_val rfl rfl (op_pure rfl) ?_
  refine ws_lit1C hS rfl rfl rfl rfl rfl rfl rfl rfl (by decide) (by decide) rfl rfl rfl ?_
  rintro tv z hS hnt
  have hS : SH s [rowC sv 1 (L.map bC), rowC tv 1 ((tI [0]).map iC)] z := hS
  have hK := hS.K
  refine w_val rfl rfl (op_pure rfl) ?_
  refine w_nil ?_
  refine then_n ?_
  repeat refine wc_seq ?_
  refine wc_label ?_
  refine then_n ?_
  repeat refine wc_seq ?_
  refine wc_block ?_
  refine wc_loop_at (fun jj m z => ∃ (L : List Bool) (todo : List Nat) (tv : AV), jj = 2 * cntF L + todo.length ∧ m = [(2, .fn gf caps), (7, sv), (8, tv)] ∧ SH s [rowC sv 1 (L.map bC), rowC tv 1 ((tI todo).map iC)] z ∧ VisI l 0 L todo) (2 * cntF L + 1)
    [(2, .fn gf caps), (7, sv), (8, tv)] (Sub.cons rfl (Sub.cons rfl (Sub.cons rfl (Sub.nil _)))) ⟨L, [0], tv, rfl, rfl, hS, hI⟩ ?_
  clear hS hI hK hnt
  rintro jj m z ⟨L, todo, tv, rfl, rfl, hS, hI⟩
  have hK := hS.K
  have hLl := hI.len
  repeat refine wc_seq ?_
  refine wc_region ?_
  refine w_val rfl rfl (op_pure rfl) ?_
  refine w_val rfl rfl (op_len rfl rfl rfl rfl rfl (hS.row 1 rfl).slenF) ?_
  refine w_val rfl rfl (op_pure rfl) ?_
  refine w_nil ?_
  refine then_n ?_
  repeat refine wc_seq ?_
  refine wc_condT rfl (fun h29 => ?_) (fun h29 => ?_)
  · simp only [decide_eq_true_eq, gt_iff_lt] at h29
    obtain rfl | ⟨t, a, rfl⟩ := snoc_cases todo
    · simp [tI] at h29
    have hlen : 0 < (tI (t ++ [a])).length := by rw [tI_len]; simp
    have hll : (tI (t ++ [a])).length = t.length + 1 := by rw [tI_len]; simp
    have htl := tI_last t a
    have hct := hI.cnt
    rw [List.length_append, List.length_singleton] at hct
    refine wc_skip ?_
    refine then_n ?_
    refine wc_block ?_
    repeat refine wc_seq ?_
    refine wc_region ?_
    refine w_val rfl rfl (op_pure rfl) ?_
    refine w_val rfl rfl (op_pure rfl) ?_
    refine w_val rfl rfl (op_len rfl rfl rfl rfl rfl (hS.row 1 rfl).slenF) ?_
    refine w_val rfl rfl (op_sub rfl rfl (by unfold In64; omega)) ?_
    refine w_val rfl rfl (op_idxF rfl rfl (natA_pred _ hlen) rfl rfl rfl rfl (hS.row 1 rfl) (by omega)) ?_
    refine w_val rfl rfl (op_load rfl rfl (Row.mk_pt (hS.row 1 rfl) htl) rfl) ?_
    refine w_val rfl rfl (op_pure rfl) ?_
    refine w_nil ?_
    refine then_n ?_
    repeat refine wc_seq ?_
    refine wc_region ?_
    refine w_val rfl rfl (op_pure rfl) ?_
    refine w_val rfl rfl (op_pure rfl) ?_
    refine w_call rfl rfl (op_call rfl rfl rfl rfl) (hcl _ a hK) ?_
    rintro rv z ⟨hk, hr⟩
    have hS := hS.mov hk
    have hK := hS.K
    have hnl := nextA_len l a
    refine w_val rfl rfl (op_len rfl rfl rfl rfl rfl hr.slenF) ?_
    refine w_val rfl rfl (op_pure rfl) ?_
    refine w_nil ?_
    refine then_n ?_
    repeat refine wc_seq ?_
    refine wc_block ?_
    refine wc_loop_at (fun jj m z' => ∃ q : Nat, jj = (nextA l a).length - q ∧ q ≤ (nextA l a).length ∧ m = [(2, .fn gf caps), (7, sv), (8, tv), (38, rv), (39, .int .i64 ((nextA l a).length : Nat)), (40, .int .i64 (q : Nat))] ∧ z = z' ∧ ∀ (i b : Nat), i < q → (nextA l a)[i]? = some (b : Int) → Tk L b) (nextA l a).length
      [(2, .fn gf caps), (7, sv), (8, tv), (38, rv), (39, .int .i64 ((nextA l a).length : Nat)), (40, .int .i64 ((0 : Nat) : Int))] (Sub.cons rfl (Sub.cons rfl (Sub.cons rfl (Sub.cons rfl (Sub.cons rfl (Sub.cons rfl (Sub.nil _))))))) ⟨0, by simp, by simp, rfl, rfl, fun i b h => by omega⟩ ?_
    rintro j1 m1 _ ⟨q, rfl, hq, rfl, rfl, hT⟩
    repeat refine wc_seq ?_
    refine wc_region ?_
    refine w_val rfl rfl (op_pure rfl) ?_
    refine w_nil ?_
    refine then_n ?_
    repeat refine wc_seq ?_
    refine wc_condT rfl (fun h41 => ?_) (fun h41 => ?_)
    · simp only [decide_eq_true_eq] at h41
      refine wc_skip ?_
      refine then_n ?_
      repeat refine wc_seq ?_
      refine wc_block ?_
      repeat refine wc_seq ?_
      obtain ⟨bi, hbi⟩ : ∃ b, (nextA l a)[q]? = some b := ⟨_, List.getElem?_eq_getElem (by omega)⟩
      obtain ⟨hb0, hbn⟩ := nextA_in (List.mem_of_getElem? hbi)
      obtain ⟨b, rfl⟩ : ∃ b : Nat, bi = b := ⟨bi.toNat, by omega⟩
      obtain ⟨bb, hbb⟩ : ∃ x, L[b]? = some x := ⟨_, List.getElem?_eq_getElem (by omega)⟩
      refine wc_region ?_
      refine w_val rfl rfl (op_idxF rfl rfl (natA_cast _ _) rfl rfl rfl rfl hr (by omega)) ?_
      refine w_val rfl rfl (op_load rfl rfl (Row.mk_pt hr hbi) rfl) ?_
      refine w_val rfl rfl (op_pure rfl) ?_
      refine w_nil ?_
      refine then_n ?_
      repeat refine wc_seq ?_
      refine wc_region ?_
      refine w_val rfl rfl (op_pure rfl) ?_
      refine w_val rfl rfl (op_pure rfl) ?_
      refine w_val rfl rfl (op_idxF rfl rfl (natA_cast _ _) rfl rfl rfl rfl (hS.row 0 rfl) (by omega)) ?_
      refine w_val rfl rfl (op_load rfl rfl (Row.mk_pt (hS.row 0 rfl) (by assumption)) rfl) ?_
      refine w_val rfl rfl (op_pure rfl) ?_
      refine w_nil ?_
      refine then_n ?_
      refine wc_condT rfl (fun h48 => ?_) (fun h48 => ?_)
      · simp only [Bool.not_eq_true'] at h48
        subst h48
        repeat refine wc_seq ?_
        refine wc_region ?_
        refine w_val rfl rfl (op_pure rfl) ?_
        refine w_val rfl rfl (op_pure rfl) ?_
        refine w_val rfl rfl (op_idxF rfl rfl (natA_cast _ _) rfl rfl rfl rfl (hS.row 0 rfl) (by omega)) ?_
        refine ws_storeE 0 hS rfl rfl rfl rfl rfl rfl rfl (by rfl) (by (simp; omega)) ?_
        rintro z hS
        have hS : SH _ [_, _] z := hS
        have hK := hS.K
        refine w_nil ?_
        refine then_n ?_
        repeat refine wc_seq ?_
        have hcn := cntF_set hbb
        have hlc : (t ++ [a]).length = t.length + 1 := by simp
        have htb : t.length + 1 ≤ l.length + 1 + l.length + 1 ∨ True := .inr trivial
        refine wc_region ?_
        refine w_val rfl rfl (op_pure rfl) ?_
        refine w_val rfl rfl (op_pure rfl) ?_
        refine ws_lit1 hS rfl rfl rfl rfl rfl rfl rfl rfl (by decide) (by decide) rfl (by rfl) rfl ?_
        rintro lt54 z hS hk hlt54
        have hK := hS.K
        refine ws_append 1 hS rfl rfl rfl rfl rfl rfl rfl rfl rfl rfl rfl (by decide) (hlt54) (by (simp only [List.length_map, List.length_nil, List.length_cons, maxBytes]; omega)) (by (simp only [List.length_map, List.length_nil, List.length_cons, maxBytes]; omega)) ?_
        rintro at55 z hS
        have hS : SH _ [_, _] z := hS
        have hK := hS.K
        refine w_val rfl rfl (op_pure rfl) ?_
        refine w_nil ?_
        refine then_n ?_
        refine wc_exit ?_
        repeat first | refine then_x ?_ | refine round_x ?_ | refine cut_x ?_ | refine out_x' (by decide) ?_
        refine out_x ?_
        have hS : SH s [rowC sv 1 ((L.set b true).map bC), rowC at55 1 ((tI (t ++ [a] ++ [b])).map iC)] z := by rw [List.map_set, tI_app, List.map_append]; exact hS
        exact round_n _ _ (by rw [List.length_append, List.length_singleton]; omega) (Sub.cons rfl (Sub.cons rfl (Sub.cons rfl (Sub.nil _)))) ⟨L.set b true, t ++ [a] ++ [b], at55, rfl, rfl, hS, hI.push (List.mem_append.2 (.inr (List.mem_singleton.2 rfl))) (List.mem_of_getElem? hbi) hbb⟩
      simp only [Bool.not_eq_false'] at h48
      subst h48
      refine wc_skip ?_
      refine out_n ?_
      refine then_n ?_
      refine wc_region ?_
      refine w_val rfl rfl (op_add rfl rfl (by unfold In64; omega)) ?_
      refine w_val rfl rfl (op_pure rfl) ?_
      refine w_nil ?_
      exact round_n _ _ (by omega) (Sub.cons rfl (Sub.cons rfl (Sub.cons rfl (Sub.cons rfl (Sub.cons rfl (Sub.cons rfl (Sub.nil _))))))) ⟨q + 1, rfl, by omega, rfl, rfl, fun i b' hi h => (Nat.lt_succ_iff_lt_or_eq.1 hi).elim (fun h1 => hT i b' h1 h) (fun e => by
        subst e; rw [hbi] at h
        have : b = b' := by have := Option.some.inj h; omega
        rw [← this]; exact hbb)⟩
    simp only [decide_eq_false_iff_not] at h41
    obtain rfl : q = (nextA l a).length := by omega
    have hall : ∀ b, EdN l a b → Tk L b := fun b hb => by
      obtain ⟨i, hi⟩ := List.getElem?_of_mem hb
      exact hT i b (List.getElem?_eq_some_iff.1 hi).1 hi
    refine wc_exit ?_
    repeat first | refine then_x ?_ | refine round_x ?_ | refine cut_x ?_ | refine out_x' (by decide) ?_
    refine out_x ?_
    refine then_n ?_
    refine wc_region ?_
    refine w_val rfl rfl (op_pure rfl) ?_
    refine w_val rfl rfl (op_pure rfl) ?_
    refine w_val rfl rfl (op_len rfl rfl rfl rfl rfl (hS.row 1 rfl).slenF) ?_
    refine w_val rfl rfl (op_sub rfl rfl (by unfold In64; omega)) ?_
    refine w_val rfl rfl (op_cut (l := none) (h := some ((tI (t ++ [a])).length - 1)) (l' := 0) (h' := (tI (t ++ [a])).length - 1) rfl rfl (optY_some rfl (natA_pred _ hlen)) rfl rfl rfl rfl (hS.row 1 rfl) rfl rfl (Nat.zero_le _) (by rw [List.length_map]; omega)) ?_
    have hS : SH s [rowC sv 1 (L.map bC), rowC (cutA tv 0 ((tI (t ++ [a])).length - 1)) 1 ((tI t).map iC)] z := by
      have := RowCut hS (n := 1) rfl (h := (tI (t ++ [a])).length - 1) (by omega)
      rw [tI_take] at this
      exact this
    have hK := hS.K
    refine w_val rfl rfl (op_pure rfl) ?_
    refine w_nil ?_
    refine out_n ?_
    exact round_n _ _ (by rw [List.length_append, List.length_singleton]; omega) (Sub.cons rfl (Sub.cons rfl (Sub.cons rfl (Sub.nil _)))) ⟨L, t, _, rfl, rfl, hS, hI.pop hall⟩
  simp only [decide_eq_false_iff_not, gt_iff_lt] at h29
  obtain rfl : todo = [] := List.eq_nil_of_length_eq_zero (by have := tI_len todo; omega)
  have hM := hI.marks
  refine wc_exit ?_
  repeat first | refine then_x ?_ | refine round_x ?_ | refine cut_x ?_ | refine out_x' (by decide) ?_
  refine out_x ?_
  refine then_n ?_
  repeat refine wc_seq ?_
  refine wc_region ?_
  refine w_val rfl rfl (op_pure rfl) ?_
  refine w_val rfl rfl (op_pure rfl) ?_
  refine w_nil ?_
  refine then_n ?_
  refine wc_ret ?_
  repeat first | refine then_r ?_ | refine out_r ?_ | refine round_r ?_ | refine cut_r ?_ | refine sc_r ?_
  exact ⟨_, rfl, hK, L, hM, hS.row 0 rfl, fun g hg => (hS.bd 0 rfl g hg).1, hS.nls 0 rfl⟩
set_option maxRecDepth 10000 in
set_option maxHeartbeats 8000000 in
theorem reach1_ok {s : St} {p v c1 c2 c3 c4 c5 : AV} {l : List InstrL} {a : Nat} (hok : s.Ok) (hv : Row s.h 2 v (l.map inC)) (hl : l.length ≤ 2097152) (hz : ([c1, c2, c3, c4, c5, v] : List AV).all AV.leaf = true) (hp : Pt s.h p [c1, c2, c3, c4, c5, v]) :
    CallS Try.prog Tt Kt 62 [.int .i64 (a : Nat), p] s (fun r s' => Keep [] s s' ∧ Row s'.h 1 r ((nextA l a).map iC)) := by
  refine call_of (fn := Try.f62) (nt := 7) Try.func62 rfl rfl rfl ?_
  repeat refine wc_seq ?_
  refine wc_region ?_
  refine w_val rfl rfl (op_pure rfl) ?_
  refine w_nil ?_
  refine then_n ?_
  repeat refine wc_seq ?_
  refine wc_region ?_
  refine w_val rfl rfl (op_load rfl rfl (by assumption) rfl) ?_
  refine w_val rfl rfl (op_pure rfl) ?_
  refine w_call rfl rfl (op_call rfl rfl rfl rfl) (next_ok hok hv hl hz) ?_
  rintro _ z ⟨hk, hr, -, -⟩
  refine w_val rfl rfl (op_pure rfl) ?_
  refine w_nil ?_
  refine then_n ?_
  refine wc_ret ?_
  repeat first | refine then_r ?_ | refine out_r ?_ | refine round_r ?_ | refine cut_r ?_ | refine sc_r ?_
  exact ⟨_, rfl, hk, hr⟩
set_option maxRecDepth 10000 in
set_option maxHeartbeats 8000000 in
theorem reach_ok {s : St} {v c1 c2 c3 c4 c5 : AV} {l : List InstrL} (hok : s.Ok) (hv : Row s.h 2 v (l.map inC)) (hl : l.length ≤ 2097152) (hz : ([c1, c2, c3, c4, c5, v] : List AV).all AV.leaf = true) :
    CallS Try.prog Tt Kt 26 [.agg [c1, c2, c3, c4, c5, v], .int .i64 0] s (fun r s' => Keep [] s s' ∧ ∃ L, MkN l 0 L ∧ Row s'.h 1 r (L.map bC) ∧ (∀ g ∈ r.gs, s.ctr ≤ g) ∧ (r.gs = [] → r = .nils)) := by
  refine call_of (fn := Try.f26) (nt := 12) Try.func26 rfl rfl rfl ?_
  repeat refine wc_seq ?_
  have hS := SH.start hok
  refine wc_region ?_
  refine ws_box hS rfl rfl rfl hz ?_
  rintro p0 z hS hk
  have hS : SH _ [_] z := hS
  have hK := hS.K
  refine w_val rfl rfl (op_pure rfl) ?_
  refine w_nil ?_
  refine then_n ?_
  repeat refine wc_seq ?_
  refine wc_region ?_
  refine w_val rfl rfl (op_fldP rfl rfl rfl rfl (by decide)) ?_
  refine w_val rfl rfl (op_loadC 0 hS rfl rfl rfl (Nat.le_of_ble_eq_true rfl) rfl) ?_
  refine w_val rfl rfl (op_len rfl rfl rfl rfl rfl hv.slenF) ?_
  refine w_val rfl rfl (op_add rfl rfl (by unfold In64; omega)) ?_
  refine w_val rfl rfl (op_pure rfl) ?_
  refine w_val rfl rfl (op_pure rfl) ?_
  refine w_call rfl rfl (op_call rfl rfl rfl rfl) (visitN_ok hK.ok hl (fun s' k hk => reach1_ok hk.ok ((hv.keep0 hK).keep0 hk) hl hz ((hS.pt 0 rfl).keep0 hk))) ?_
  rintro rr z ⟨hk, L, hM, hr, hb, hn⟩
  have hc := hK.ctr
  refine w_val rfl rfl (op_pure rfl) ?_
  refine w_nil ?_
  refine then_n ?_
  refine wc_ret ?_
  repeat first | refine then_r ?_ | refine out_r ?_ | refine round_r ?_ | refine cut_r ?_ | refine sc_r ?_
  exact ⟨_, rfl, hK.two hk, L, hM, hr, fun g hg => Nat.le_trans hc (hb g hg), hn⟩
end Go.Ab
/- louverref14: the nodes behind one, and what is reached. -/
namespace Go.Ab
open Go.Proofs
end Go.Ab
/- A part of an element written. -/
namespace Go.Ab
theorem flat_setF {cs : List (List AV)} {sz : Nat} (h : ∀ c ∈ cs, c.length = sz) {i o : Nat} {x c : List AV} (hi : cs[i]? = some x) (hc : o + c.length ≤ sz) : over cs.flatten (i * sz + o) c = (cs.set i (over x o c)).flatten := by
  induction cs generalizing i with
  | nil => simp at hi
  | cons y cs ih =>
    have hy := h y (List.mem_cons_self ..)
    cases i with
    | zero =>
      simp at hi
      subst hi
      have := over_part [] y cs.flatten o c (by omega)
      simp only [List.nil_append, List.length_nil, Nat.zero_add] at this
      rw [Nat.zero_mul, Nat.zero_add, List.flatten_cons, this]
      rfl
    | succ i =>
      have h1 := ih (i := i) (fun z hz => h z (List.mem_cons_of_mem _ hz)) (by simpa using hi)
      unfold over at h1 ⊢
      rw [List.set_cons_succ, List.flatten_cons, List.flatten_cons]
      rw [← h1, Nat.succ_mul, show i * sz + sz + o = y.length + (i * sz + o) by omega]
      rw [List.take_length_add_append, Nat.add_assoc, List.drop_length_add_append]
      simp [List.append_assoc]
section
variable {P : Program} {T : Tab} {K : FuncId → Option Bool} {nt : Nat} {ops : Array Oper} {rest : List Oper} {m : Sy} {s s0 : St} {Q : Sy → St → Prop} {d ty : Nat} {pos : String} {af : Array Edge} {g : Option (Nat × Bool)} {L : List Chunk}
theorem ws_storeEF {tt : TypeId} {a x : Operand} {i : TI} {r u : AV} {j o sz : Nat} {cs : List (List AV)} {e : List AV} (n : Nat) (hS : SH s0 L s) (hn : L[n]? = some (rowC r sz cs)) (hg : guardY ops m g = some true) (ha : evY m a = some (fldA (elemA r j) o)) (hx : evY m x = some u) (hT : T tt = some i) (hl : u.cells.length = i.size) (ho : o + i.size ≤ sz)
    (hz : u.cells.all AV.leaf = true) (hj : cs[j]? = some e)
    (k : ∀ s', SH s0 (L.set n (rowC r sz (cs.set j (over e o u.cells)))) s' → W P T K nt ops rest m s' Q) : W P T K nt ops (⟨none, .store tt a x, ty, pos, af, g⟩ :: rest) m s Q := by
  have hr := hS.row n hn
  have hjl := (List.getElem?_eq_some_iff.1 hj).1
  have hne : r.gs ≠ [] := fun h => by
    have := hS.nls n hn h
    subst this
    cases (hr : cs = [])
    simp at hjl
  have hnl := hS.nls n hn
  cases r with
  | slc g' jj off sz' len lo ex =>
    obtain ⟨rfl, h2, rfl, h4, h5, rest', h6⟩ := id hr
    have hfl : cs.flatten.length = cs.length * sz' := flat_len fun c hc => (h5 c hc).1
    have hb : j * sz' + (o + u.cells.length) ≤ cs.length * sz' := by
      have h7 : (j + 1) * sz' ≤ cs.length * sz' := Nat.mul_le_mul_right _ hjl
      rw [Nat.succ_mul] at h7
      omega
    have hb2 := Nat.mul_le_mul_right sz' h4
    obtain ⟨s', e1, e2, e3, e4⟩ := write_over hS.ok h6 (k := j * sz' + o) (c := u.cells) (by omega) hz
    have hnl2 : ¬ (u.cells.length ≠ i.size) := fun h => h hl
    have hel : e.length = sz' := (h5 e (List.mem_of_getElem? hj)).1
    refine w_eff hg (s' := s') (fun t ht => ?_) (k s' (hS.upd n hn e3 (fun g hg => hg) _ ⟨⟨rfl, h2, by simp, h4, ?_, rest', ?_⟩, hnl⟩ fun g hg => .inl hg))
    · have ha' := evY_ok ht ha
      simp only [elemA, fldA, Nat.add_assoc] at ha'
      simp only [evOp, hT, ha', evY_ok ht hx, if_neg hnl2, e1]
    · intro c hc
      rcases List.mem_or_eq_of_mem_set hc with hc | rfl
      · exact h5 c hc
      · refine ⟨by rw [over_len (by omega)]; exact hel, ?_⟩
        have hle := (h5 e (List.mem_of_getElem? hj)).2
        unfold over
        rw [List.all_append, List.all_append]
        simp only [Bool.and_eq_true]
        rw [List.all_eq_true] at hle
        exact ⟨⟨List.all_eq_true.2 fun y hy => hle y (List.mem_of_mem_take hy), hz⟩, List.all_eq_true.2 fun y hy => hle y (List.mem_of_mem_drop hy)⟩
    · rw [e2, ← flat_setF (fun c hc => (h5 c hc).1) hj (by omega)]
      unfold over
      rw [List.take_append_of_le_length (by omega), List.drop_append_of_le_length (by omega)]
      simp [List.append_assoc]
  | nils => exact (hne rfl).elim
  | ro nl xs => exact (hne rfl).elim
  | _ => exact hr.elim
end
end Go.Ab
/- What trimming answers, plainly. -/
namespace Go.Ab
open Go.Proofs
/-- Where jumps go that are passed through. -/
noncomputable def tndI (l : List InstrL) (y : InstrL) : InstrL := if branchI y = true then ⟨y.op, comesF l y.a⟩ else y
noncomputable def tnd (l : List InstrL) : List InstrL := l.map (tndI l)
theorem tnd_len (l : List InstrL) : (tnd l).length = l.length := List.length_map ..
theorem tndI_op (l : List InstrL) (y : InstrL) : (tndI l y).op = y.op := by unfold tndI; split <;> rfl
theorem branchI_op {y z : InstrL} (h : y.op = z.op) : branchI y = branchI z := by unfold branchI; rw [h]
theorem branchI_iff {y : InstrL} : branchI y = true ↔ y.op = 43 ∨ y.op = 44 := by unfold branchI; simp
theorem tnd_in {l : List InstrL} (hr : rightC l = true) {y : InstrL} (hy : y ∈ tnd l) (hb : branchI y = true) : 0 ≤ y.a ∧ y.a < (l.length : Int) := by
  obtain ⟨z, hz, rfl⟩ := List.mem_map.1 hy
  rw [branchI_op (tndI_op l z)] at hb
  have h := rightC_jump hr hz (branchI_iff.1 hb)
  unfold tndI
  rw [if_pos hb]
  obtain ⟨a, ha⟩ : ∃ a : Nat, z.a = a := ⟨z.a.toNat, by omega⟩
  simp only [ha] at h ⊢
  have hal : a < l.length := by omega
  rw [comesF_yes hr hal]
  have := comesN_in hr hal
  omega
open Classical in
noncomputable def reaB (l : List InstrL) (k : Nat) : Bool := decide (RN (tnd l) 0 k)
open Classical in
theorem MkN.reaB {l : List InstrL} {L : List Bool} (h : MkN (tnd l) 0 L) {k : Nat} (hk : k < l.length + 1) : L[k]? = some (reaB l k) := by
  have hkl : k < L.length := by rw [h.1, tnd_len]; exact hk
  have h1 := h.2 k
  unfold Tk at h1
  rw [List.getElem?_eq_getElem hkl] at h1 ⊢
  simp only [Option.some.injEq] at h1 ⊢
  rw [Bool.eq_iff_iff, h1]
  unfold Go.Ab.reaB
  rw [decide_eq_true_iff]
open Classical in
noncomputable def tgtB (l : List InstrL) (k : Nat) : Bool := decide (∃ (j : Nat) (y : InstrL), (tnd l)[j]? = some y ∧ reaB l j = true ∧ branchI y = true ∧ y.a = (k : Int))
open Classical in
theorem tgt_iff {l : List InstrL} {k : Nat} : tgtB l k = true ↔ ∃ (j : Nat) (y : InstrL), (tnd l)[j]? = some y ∧ reaB l j = true ∧ branchI y = true ∧ y.a = (k : Int) := by
  unfold tgtB; rw [decide_eq_true_iff]
def isNop (l : List InstrL) (k : Nat) : Bool := match l[k]? with
  | some y => y.op == 42
  | none => false
noncomputable def stays (l : List InstrL) (k : Nat) : Bool := reaB l k && (!isNop l k || tgtB l k)
noncomputable def oldN (l : List InstrL) (n : Nat) : List Nat := (List.range n).filter (stays l)
noncomputable def place (l : List InstrL) (k : Nat) : Nat := (oldN l k).length
noncomputable def finI (l : List InstrL) (y : InstrL) : InstrL := if branchI y = true then ⟨y.op, (place l y.a.toNat : Nat)⟩ else y
noncomputable def codeO (l : List InstrL) : List InstrL := if rightC l = true then (oldN l l.length).map fun k => finI l ((tnd l)[k]?.getD ⟨0, 0⟩) else []
noncomputable def oldO (l : List InstrL) : List Int := if rightC l = true then tI (oldN l l.length) else []
theorem oldN_yes {l : List InstrL} {k : Nat} (h : stays l k = true) : oldN l (k + 1) = oldN l k ++ [k] := by
  unfold oldN; rw [List.range_succ, List.filter_append]; simp [h]
theorem oldN_no {l : List InstrL} {k : Nat} (h : stays l k = false) : oldN l (k + 1) = oldN l k := by
  unfold oldN; rw [List.range_succ, List.filter_append]; simp [h]
theorem oldN_len (l : List InstrL) (k : Nat) : (oldN l k).length ≤ k := by
  unfold oldN
  have := List.length_filter_le (stays l) (List.range k)
  rwa [List.length_range] at this
theorem oldN_mem {l : List InstrL} {n k : Nat} (h : k ∈ oldN l n) : k < n ∧ stays l k = true := by
  unfold oldN at h
  rw [List.mem_filter, List.mem_range] at h
  exact h
open Classical in
/-- An edge to a target that a reached branch has. -/
theorem tgt_reached {l : List InstrL} (hr : rightC l = true) {j : Nat} {y : InstrL} (hy : (tnd l)[j]? = some y) (hj : reaB l j = true) (hb : branchI y = true) {k : Nat} (hk : y.a = (k : Int)) : reaB l k = true := by
  have hin := tnd_in hr (List.mem_of_getElem? hy) hb
  unfold reaB at hj ⊢
  rw [decide_eq_true_iff] at hj ⊢
  refine .step hj ?_
  unfold EdN nextA
  rw [hy]
  show ((k : Nat) : Int) ∈ nextN _ _ _
  have hjl := (List.getElem?_eq_some_iff.1 hy).1
  have hl := tnd_len l
  rw [← next_same (by omega) (by omega) (by omega)]
  unfold nextD
  have hop := branchI_iff.1 hb
  rw [if_neg (by omega)]
  have hs : sec1 (tnd l).length j y = y.a := by unfold sec1; rw [if_pos hop, if_pos ⟨by omega, by omega⟩]
  rw [hs, ← hk]
  unfold outN
  split
  · rw [if_pos (show y.a < ((tnd l).length : Int) by omega)]; exact List.mem_append.2 (.inl (List.mem_singleton.2 rfl))
  · by_cases e : y.a = fst1 (tnd l).length j y
    · rw [← e, if_pos (show y.a < ((tnd l).length : Int) by omega)]; exact List.mem_append.2 (.inl (List.mem_singleton.2 rfl))
    · rw [if_pos (show y.a < ((tnd l).length : Int) ∧ y.a ≠ fst1 (tnd l).length j y from ⟨by omega, e⟩)]; exact List.mem_append.2 (.inr (List.mem_singleton.2 rfl))
theorem tgt_stays {l : List InstrL} (hr : rightC l = true) {k : Nat} (h : tgtB l k = true) : stays l k = true := by
  obtain ⟨j, y, h1, h2, h3, h4⟩ := tgt_iff.1 h
  unfold stays
  rw [tgt_reached hr h1 h2 h3 h4, h]
  simp
/-- A target's place among those that stay. -/
theorem place_get {l : List InstrL} {n k : Nat} (hk : k < n) (h : stays l k = true) : (oldN l n)[place l k]? = some k := by
  induction n with
  | zero => omega
  | succ n ih =>
    by_cases e : k = n
    · subst e
      rw [oldN_yes h]
      unfold place
      simp
    · have h1 := ih (by omega)
      have hlt := (List.getElem?_eq_some_iff.1 h1).1
      cases hs : stays l n with
      | true => rw [oldN_yes hs, List.getElem?_append_left hlt]; exact h1
      | false => rw [oldN_no hs]; exact h1
theorem oldN_inj {l : List InstrL} {n i j k : Nat} (hi : (oldN l n)[i]? = some k) (hj : (oldN l n)[j]? = some k) : i = j := by
  have hn : (oldN l n).Nodup := List.Pairwise.sublist (List.filter_sublist ..) List.nodup_range
  exact (List.getElem?_inj (List.getElem?_eq_some_iff.1 hi).1 hn).1 (hi.trans hj.symm)
end Go.Ab
/- trim.Code. -/
namespace Go.Ab
open Go.Proofs
theorem mix_len {l : List InstrL} {k : Nat} (hk : k ≤ l.length) : ((tnd l).take k ++ l.drop k).length = l.length := by
  rw [List.length_append, List.length_take, List.length_drop, tnd_len]; omega
theorem mix_get {l : List InstrL} {k : Nat} {y : InstrL} (hy : l[k]? = some y) : ((tnd l).take k ++ l.drop k)[k]? = some y := by
  have hk := (List.getElem?_eq_some_iff.1 hy).1
  have hl : ((tnd l).take k).length = k := by rw [List.length_take, tnd_len]; omega
  rw [List.getElem?_append_right (by omega), hl, Nat.sub_self, List.getElem?_drop, Nat.add_zero]
  exact hy
theorem tnd_get {l : List InstrL} {k : Nat} {y : InstrL} (hy : l[k]? = some y) : (tnd l)[k]? = some (tndI l y) := by
  unfold tnd; rw [List.getElem?_map, hy]; rfl
theorem mix_step {l : List InstrL} {k : Nat} {y : InstrL} (hy : l[k]? = some y) : ((tnd l).take k ++ l.drop k).set k (tndI l y) = (tnd l).take (k + 1) ++ l.drop (k + 1) := by
  have hk := (List.getElem?_eq_some_iff.1 hy).1
  have hl : ((tnd l).take k).length = k := by rw [List.length_take, tnd_len]; omega
  rw [List.set_append_right _ _ (by omega), hl, Nat.sub_self, ← take_snoc (tnd_get hy), List.append_assoc]
  congr 1
  have : l.drop k = y :: l.drop (k + 1) := by
    rw [List.drop_eq_getElem_cons hk]
    rw [(List.getElem?_eq_some_iff.1 hy).2]
  rw [this]; rfl
theorem set_same {β : Type} {xs : List β} {k : Nat} {x : β} (h : xs[k]? = some x) : xs.set k x = xs := by
  refine List.ext_getElem? fun i => ?_
  rw [List.getElem?_set]
  by_cases e : k = i
  · subst e
    rw [if_pos rfl, if_pos (List.getElem?_eq_some_iff.1 h).1, h]
  · rw [if_neg e]
theorem build48 {m : Sy} {a : AV} {x : Operand} (ha : a.leaf = true) (hx : evY m x = some a := by rfl) : pureY Tt m (.build 48 #[(5, x)]) = some (.agg [.int .u64 0, .nils, .nils, .int .i64 0, .int .i64 0, a]) := by
  simp only [pureY]
  rw [show Tt 48 = some ⟨.struct [(0, 1, false), (1, 1, false), (2, 1, false), (3, 1, false), (4, 1, false), (5, 1, false)], 6, 96, [.int .u64 0, .nils, .nils, .int .i64 0, .int .i64 0, .nils], false⟩ from rfl]
  simp only [evPartsY, hx, fillA, AV.cells_leaf ha]
  rfl
theorem rep_iC (n : Nat) : List.replicate n [AV.int .i64 0] = (List.replicate n (0 : Int)).map iC := by simp [iC]
theorem rep_inC (n : Nat) : List.replicate n [AV.int .i64 0, AV.int .i64 0] = (List.replicate n (⟨0, 0⟩ : InstrL)).map inC := by simp [inC]
noncomputable def codeL (l : List InstrL) : List InstrL := (oldN l l.length).map fun k => finI l ((tnd l)[k]?.getD ⟨0, 0⟩)
theorem isNop_get {l : List InstrL} {k : Nat} {y : InstrL} (hy : (tnd l)[k]? = some y) : isNop l k = (y.op == 42) := by
  unfold tnd at hy
  rw [List.getElem?_map] at hy
  cases e : l[k]? with
  | none => rw [e] at hy; cases hy
  | some z =>
    rw [e] at hy
    cases hy
    unfold isNop
    rw [e, tndI_op]
set_option maxRecDepth 10000 in
set_option maxHeartbeats 8000000 in
theorem branch_ok {s : St} {y : InstrL} (hok : s.Ok) : CallS Try.prog Tt Kt 56 [.agg (inC y)] s (fun r s' => Keep [] s s' ∧ r = .bool (branchI y)) := by
  refine call_of (fn := Try.f56) (nt := 11) Try.func56 rfl rfl rfl ?_
  repeat refine wc_seq ?_
  have hS := SH.start hok
  refine wc_region ?_
  refine ws_box hS rfl rfl rfl (by rfl) ?_
  rintro p0 z hS hk
  have hS : SH _ [_] z := hS
  have hK := hS.K
  refine w_val rfl rfl (op_pure rfl) ?_
  refine w_nil ?_
  refine then_n ?_
  repeat refine wc_seq ?_
  refine wc_region ?_
  refine w_val rfl rfl (op_fldP rfl rfl rfl rfl (by decide)) ?_
  refine w_val rfl rfl (op_loadC 0 hS rfl rfl rfl (Nat.le_of_ble_eq_true rfl) rfl) ?_
  refine w_val rfl rfl (op_pure rfl) ?_
  refine w_val rfl rfl (op_pure rfl) ?_
  refine w_split (i := 6) rfl (fun h6 => ?_) (fun h6 => ?_)
  · simp only [beq_iff_eq] at h6
    refine w_off rfl rfl ?_
    refine w_off rfl rfl ?_
    refine w_off rfl rfl ?_
    refine w_val rfl rfl (op_pure rfl) ?_
    refine w_val rfl rfl (op_pure rfl) ?_
    refine w_nil ?_
    refine then_n ?_
    refine wc_ret ?_
    repeat first | refine then_r ?_ | refine out_r ?_ | refine round_r ?_ | refine cut_r ?_ | refine sc_r ?_
    exact ⟨_, rfl, hK, by simp [branchI, packA, h6]⟩
  simp only [beq_eq_false_iff_ne, ne_eq] at h6
  refine w_val rfl rfl (op_fldP rfl rfl rfl rfl (by decide)) ?_
  refine w_val rfl rfl (op_loadC 0 hS rfl rfl rfl (Nat.le_of_ble_eq_true rfl) rfl) ?_
  refine w_val rfl rfl (op_pure rfl) ?_
  refine w_val rfl rfl (op_pure rfl) ?_
  refine w_val rfl rfl (op_pure rfl) ?_
  refine w_nil ?_
  refine then_n ?_
  refine wc_ret ?_
  repeat first | refine then_r ?_ | refine out_r ?_ | refine round_r ?_ | refine cut_r ?_ | refine sc_r ?_
  exact ⟨_, rfl, hK, by simp [branchI, packA, h6]⟩
end Go.Ab
/- Trimming what is trimmed. -/
namespace Go.Ab
open Go.Proofs
theorem outN_mem {n f g b : Int} (hf : f < n) (hg : g < n) : b ∈ outN n f g ↔ b = f ∨ b = g := by
  unfold outN
  rw [if_pos hf]
  by_cases e : g = f
  · subst e; simp
  · rw [if_pos ⟨hg, e⟩]; simp
/-- The edges of right code. -/
theorem ed_iff {l : List InstrL} (hr : rightC l = true) {a b : Nat} {y : InstrL} (hy : l[a]? = some y) :
    EdN l a b ↔ (y.op = 46 ∧ b = l.length) ∨ (y.op = 43 ∧ (b : Int) = y.a) ∨ (y.op = 44 ∧ (b = a + 1 ∨ (b : Int) = y.a)) ∨ ((y.op ≠ 46 ∧ y.op ≠ 43 ∧ y.op ≠ 44) ∧ b = a + 1) := by
  have hal := (List.getElem?_eq_some_iff.1 hy).1
  unfold EdN nextA
  rw [hy]
  show ((b : Nat) : Int) ∈ nextN _ _ _ ↔ _
  rw [← next_same (by omega) (by omega) (by omega)]
  unfold nextD
  have hjump := rightC_jump hr (List.mem_of_getElem? hy)
  have hnext : ¬ (y.op = 43 ∨ y.op = 46) → a + 1 < l.length := fun h => by
    rcases Nat.lt_or_ge (a + 1) l.length with h1 | h1
    · exact h1
    · exact (h (rightC_last hr (by omega) hy)).elim
  by_cases h46 : y.op = 46
  · rw [if_pos h46, List.mem_singleton]
    constructor
    · intro h; exact .inl ⟨h46, by omega⟩
    · rintro (⟨-, h⟩ | ⟨h, -⟩ | ⟨h, -⟩ | ⟨h, -⟩)
      · omega
      · omega
      · omega
      · exact (h.1 h46).elim
  rw [if_neg h46]
  by_cases h43 : y.op = 43
  · have hj := hjump (.inl h43)
    have hs : sec1 l.length a y = y.a := by unfold sec1; rw [if_pos (.inl h43), if_pos ⟨hj.1, hj.2⟩]
    have hf : fst1 l.length a y = y.a := by unfold fst1; rw [if_pos h43, hs]
    rw [hf, hs, if_neg (by omega), outN_mem hj.2 hj.2]
    constructor
    · intro h; exact .inr (.inl ⟨h43, by omega⟩)
    · rintro (⟨h, -⟩ | ⟨-, h⟩ | ⟨h, -⟩ | ⟨h, -⟩)
      · omega
      · exact .inl h
      · omega
      · exact (h.2.1 h43).elim
  have hn := hnext (by omega)
  by_cases h44 : y.op = 44
  · have hj := hjump (.inr h44)
    have hs : sec1 l.length a y = y.a := by unfold sec1; rw [if_pos (.inr h44), if_pos ⟨hj.1, hj.2⟩]
    have hf : fst1 l.length a y = a + 1 := by unfold fst1; rw [if_neg h43]
    rw [hf, hs]
    have key : ((b : Nat) : Int) ∈ (if ((a : Nat) : Int) + 1 > y.a then outN l.length y.a (a + 1) else outN l.length (a + 1) y.a) ↔ ((b : Int) = a + 1 ∨ (b : Int) = y.a) := by
      split
      · rw [outN_mem hj.2 (by omega)]; exact Or.comm
      · rw [outN_mem (by omega) hj.2]
    rw [key]
    constructor
    · rintro (h | h)
      · exact .inr (.inr (.inl ⟨h44, .inl (by omega)⟩))
      · exact .inr (.inr (.inl ⟨h44, .inr h⟩))
    · rintro (⟨h, -⟩ | ⟨h, -⟩ | ⟨-, h | h⟩ | ⟨h, -⟩)
      · omega
      · omega
      · exact .inl (by omega)
      · exact .inr h
      · exact (h.2.2 h44).elim
  · have hs : sec1 l.length a y = a + 1 := by unfold sec1; rw [if_neg (by omega)]
    have hf : fst1 l.length a y = a + 1 := by unfold fst1; rw [if_neg h43]
    rw [hf, hs, if_neg (by omega), outN_mem (by omega) (by omega)]
    constructor
    · intro h; exact .inr (.inr (.inr ⟨⟨h46, h43, h44⟩, by omega⟩))
    · rintro (⟨h, -⟩ | ⟨h, -⟩ | ⟨h, -⟩ | ⟨-, h⟩)
      · omega
      · omega
      · omega
      · exact .inl (by omega)
theorem rightC_of {l : List InstrL} (h0 : 0 < l.length) (hlast : ∀ (a : Nat) (y : InstrL), a + 1 = l.length → l[a]? = some y → y.op = 43 ∨ y.op = 46) (hj : ∀ y ∈ l, branchI y = true → 0 ≤ y.a ∧ y.a < (l.length : Int)) : rightC l = true := by
  unfold rightC
  rw [List.getLast?_eq_getElem?]
  obtain ⟨y, hy⟩ : ∃ y, l[l.length - 1]? = some y := ⟨_, List.getElem?_eq_getElem (by omega)⟩
  rw [hy]
  have h1 := hlast (l.length - 1) y (by omega) hy
  simp only [Bool.and_eq_true, Bool.or_eq_true, beq_iff_eq, Bool.not_eq_true', List.any_eq_false]
  refine ⟨h1, fun z hz => ?_⟩
  unfold badI
  cases hb : branchI z with
  | false => simp
  | true => have := hj z hz hb; simp; omega
theorem tnd_right {l : List InstrL} (hr : rightC l = true) : rightC (tnd l) = true := by
  have h0 : 0 < l.length := by
    rcases Nat.eq_zero_or_pos l.length with h | h
    · rw [List.eq_nil_of_length_eq_zero h] at hr; cases hr
    · exact h
  refine rightC_of (by rw [tnd_len]; exact h0) (fun a y ha hy => ?_) (fun y hy hb => by rw [tnd_len]; exact tnd_in hr hy hb)
  unfold tnd at hy
  rw [List.getElem?_map] at hy
  cases e : l[a]? with
  | none => rw [e] at hy; cases hy
  | some z =>
    rw [e, Option.map_some] at hy
    cases hy
    rw [tndI_op]
    exact rightC_last hr (by rw [← tnd_len l]; exact ha) e

open Classical in
theorem rea_iff {l : List InstrL} {k : Nat} : reaB l k = true ↔ RN (tnd l) 0 k := by unfold reaB; rw [decide_eq_true_iff]
theorem stays_iff {l : List InstrL} {k : Nat} : stays l k = true ↔ reaB l k = true ∧ (isNop l k = true → tgtB l k = true) := by
  unfold stays
  cases reaB l k <;> cases isNop l k <;> cases tgtB l k <;> decide
theorem tnd_some {l : List InstrL} {k : Nat} (h : k < l.length) : ∃ y, (tnd l)[k]? = some y := ⟨_, List.getElem?_eq_getElem (by rw [tnd_len]; exact h)⟩
theorem nop_of {l : List InstrL} {k : Nat} (h3 : reaB l k = true) (hs : stays l k = false) : isNop l k = true := by
  unfold stays at hs
  rw [h3] at hs
  cases e : isNop l k with
  | true => rfl
  | false => rw [e] at hs; simp at hs
theorem fall_ed {l : List InstrL} (hr : rightC l = true) {k : Nat} {y : InstrL} (hy : (tnd l)[k]? = some y) (h1 : y.op ≠ 43) (h2 : y.op ≠ 46) (h3 : reaB l k = true) : k + 1 < l.length ∧ reaB l (k + 1) = true := by
  have hk := (List.getElem?_eq_some_iff.1 hy).1
  rw [tnd_len] at hk
  have h4 : k + 1 < l.length := by
    rcases Nat.lt_or_ge (k + 1) l.length with h | h
    · exact h
    · have := rightC_last (tnd_right hr) (by rw [tnd_len]; omega) hy; omega
  refine ⟨h4, rea_iff.2 (.step (rea_iff.1 h3) ((ed_iff (tnd_right hr) hy).2 ?_))⟩
  by_cases h44 : y.op = 44
  · exact .inr (.inr (.inl ⟨h44, .inl rfl⟩))
  · exact .inr (.inr (.inr ⟨⟨h2, h1, h44⟩, rfl⟩))
/-- The next that stays. -/
theorem next_stay {l : List InstrL} (hr : rightC l = true) : ∀ n k, l.length - k = n → k < l.length → reaB l k = true → ∃ m, k ≤ m ∧ m < l.length ∧ stays l m = true ∧ ∀ j, k ≤ j → j < m → stays l j = false ∧ isNop l j = true := by
  intro n
  induction n with
  | zero => intro k h1 h2; omega
  | succ n ih =>
    intro k h1 h2 h3
    cases hs : stays l k with
    | true => exact ⟨k, Nat.le_refl _, h2, hs, fun j h h' => by omega⟩
    | false =>
      have hn := nop_of h3 hs
      obtain ⟨y, hy⟩ := tnd_some h2
      have hop : y.op = 42 := by rw [isNop_get hy] at hn; simpa using hn
      obtain ⟨h4, h5⟩ := fall_ed hr hy (by omega) (by omega) h3
      obtain ⟨m, a1, a2, a3, a4⟩ := ih (k + 1) (by omega) h4 h5
      refine ⟨m, by omega, a2, a3, fun j b1 b2 => ?_⟩
      by_cases e : j = k
      · subst e; exact ⟨hs, hn⟩
      · exact a4 j (by omega) b2
theorem place_skip {l : List InstrL} {k m : Nat} (h : k ≤ m) (hn : ∀ j, k ≤ j → j < m → stays l j = false) : place l m = place l k := by
  induction m with
  | zero => obtain rfl : k = 0 := by omega
            rfl
  | succ m ih =>
    by_cases e : k = m + 1
    · subst e; rfl
    · have := ih (by omega) (fun j a b => hn j a (by omega))
      unfold place at this ⊢
      rw [oldN_no (hn m (by omega) (by omega)), this]
theorem place_succ {l : List InstrL} {k : Nat} (h : stays l k = true) : place l (k + 1) = place l k + 1 := by unfold place; rw [oldN_yes h]; simp
theorem codeL_len (l : List InstrL) : (codeL l).length = (oldN l l.length).length := by unfold codeL; rw [List.length_map]
theorem codeL_get {l : List InstrL} {a : Nat} {y : InstrL} (ha : a < l.length) (hs : stays l a = true) (hy : (tnd l)[a]? = some y) : (codeL l)[place l a]? = some (finI l y) := by
  unfold codeL; rw [List.getElem?_map, place_get ha hs, Option.map_some, hy]; rfl
theorem place_lt {l : List InstrL} {a : Nat} (ha : a < l.length) (hs : stays l a = true) : place l a < (codeL l).length := by
  rw [codeL_len]; exact (List.getElem?_eq_some_iff.1 (place_get ha hs)).1
theorem codeL_at {l : List InstrL} {k : Nat} (hk : k < (codeL l).length) : ∃ a y, (oldN l l.length)[k]? = some a ∧ a < l.length ∧ stays l a = true ∧ (tnd l)[a]? = some y ∧ k = place l a ∧ (codeL l)[k]? = some (finI l y) := by
  have hk' : k < (oldN l l.length).length := by rw [← codeL_len]; exact hk
  have ha := List.getElem?_eq_getElem hk'
  have hm := oldN_mem (List.mem_of_getElem? ha)
  obtain ⟨y, hy⟩ := tnd_some hm.1
  have hp := oldN_inj ha (place_get hm.1 hm.2)
  refine ⟨_, y, ha, hm.1, hm.2, hy, hp, ?_⟩
  have h := codeL_get hm.1 hm.2 hy
  rw [← hp] at h
  exact h
theorem finI_op (l : List InstrL) (y : InstrL) : (finI l y).op = y.op := by unfold finI; split <;> rfl
theorem tgt_of {l : List InstrL} (hr : rightC l = true) {a : Nat} {y : InstrL} (hs : stays l a = true) (hy : (tnd l)[a]? = some y) (hb : branchI y = true) : ∃ c : Nat, y.a = c ∧ c < l.length ∧ tgtB l c = true := by
  have hin := tnd_in hr (List.mem_of_getElem? hy) hb
  exact ⟨y.a.toNat, by omega, by omega, tgt_iff.2 ⟨a, y, hy, (stays_iff.1 hs).1, hb, by omega⟩⟩
theorem finI_br {l : List InstrL} {y : InstrL} {c : Nat} (hb : branchI y = true) (hc : y.a = c) : finI l y = ⟨y.op, (place l c : Nat)⟩ := by
  unfold finI; rw [if_pos hb, hc, Int.toNat_natCast]
theorem finI_no {l : List InstrL} {y : InstrL} (hb : branchI y = false) : finI l y = y := by
  unfold finI; rw [if_neg (by rw [hb]; exact Bool.noConfusion)]
theorem right_pos {l : List InstrL} (hr : rightC l = true) : 0 < l.length := by
  rcases Nat.eq_zero_or_pos l.length with h | h
  · rw [List.eq_nil_of_length_eq_zero h] at hr; cases hr
  · exact h
theorem codeL_right {l : List InstrL} (hr : rightC l = true) : rightC (codeL l) = true := by
  refine rightC_of ?_ ?_ ?_
  · obtain ⟨m, -, h1, h2, -⟩ := next_stay hr _ 0 rfl (right_pos hr) (rea_iff.2 .here)
    exact Nat.lt_of_le_of_lt (Nat.zero_le _) (place_lt h1 h2)
  · intro k z hk hz
    obtain ⟨a, y, ha, hal, hs, hy, hp, hx⟩ := codeL_at (l := l) (k := k) (by omega)
    rw [hx] at hz
    cases hz
    rw [finI_op]
    refine Classical.byContradiction fun hno => ?_
    obtain ⟨h4, h5⟩ := fall_ed hr hy (fun e => hno (.inl e)) (fun e => hno (.inr e)) (stays_iff.1 hs).1
    obtain ⟨m, a1, a2, a3, a4⟩ := next_stay hr _ (a + 1) rfl h4 h5
    have h6 := place_skip a1 (fun j b c => (a4 j b c).1)
    have h7 := place_succ hs
    have h8 := place_lt a2 a3
    omega
  · intro z hz hb
    obtain ⟨k, hk⟩ := List.getElem?_of_mem hz
    obtain ⟨a, y, ha, hal, hs, hy, hp, hx⟩ := codeL_at (List.getElem?_eq_some_iff.1 hk).1
    rw [hx] at hk
    cases hk
    rw [branchI_op (finI_op l y)] at hb
    obtain ⟨c, hc, hcl, hct⟩ := tgt_of hr hs hy hb
    rw [finI_br hb hc]
    have := place_lt hcl (tgt_stays hr hct)
    simp only
    omega
/-- All that stays is reached in what is trimmed. -/
theorem codeL_rea {l : List InstrL} (hr : rightC l = true) {a : Nat} (h : RN (tnd l) 0 a) : a < l.length → RN (codeL l) 0 (place l a) := by
  induction h with
  | here => intro _; exact .here
  | @step a b hR he ih =>
    intro hb
    have hal : a < l.length := by
      rcases Nat.lt_or_ge a l.length with h | h
      · exact h
      · unfold EdN nextA at he
        rw [List.getElem?_eq_none (by rw [tnd_len]; exact h)] at he
        cases he
    have hA := ih hal
    obtain ⟨y, hy⟩ := tnd_some hal
    have hE := (ed_iff (tnd_right hr) hy).1 he
    rw [tnd_len] at hE
    cases hs : stays l a with
    | true =>
      have hx := codeL_get hal hs hy
      have hX := fun b => ed_iff (b := b) (codeL_right hr) hx
      simp only [finI_op] at hX
      rcases hE with ⟨-, h⟩ | ⟨h1, h⟩ | ⟨h1, h⟩ | ⟨h1, h⟩
      · omega
      · refine .step hA ((hX (place l b)).2 (.inr (.inl ⟨h1, ?_⟩)))
        rw [finI_br (branchI_iff.2 (.inl h1)) h.symm]
      · rcases h with h | h
        · refine .step hA ((hX (place l b)).2 (.inr (.inr (.inl ⟨h1, .inl ?_⟩))))
          rw [h, place_succ hs]
        · refine .step hA ((hX (place l b)).2 (.inr (.inr (.inl ⟨h1, .inr ?_⟩))))
          rw [finI_br (branchI_iff.2 (.inr h1)) h.symm]
      · refine .step hA ((hX (place l b)).2 (.inr (.inr (.inr ⟨h1, ?_⟩))))
        rw [h, place_succ hs]
    | false =>
      have hn := nop_of (rea_iff.2 hR) hs
      have hop : y.op = 42 := by rw [isNop_get hy] at hn; simpa using hn
      have hba : b = a + 1 := by
        rcases hE with ⟨h1, h⟩ | ⟨h1, h⟩ | ⟨h1, h⟩ | ⟨h1, h⟩
        · omega
        · omega
        · omega
        · exact h
      subst hba
      have : place l (a + 1) = place l a := place_skip (by omega) (fun j h1 h2 => by obtain rfl : j = a := by omega
                                                                                     exact hs)
      rw [this]
      exact hA
def NS (l : List InstrL) (a : Nat) : Prop := ∀ k, ∃ c, iterC l a k = some c
theorem iter_front {l : List InstrL} {a b : Nat} (h : stepC l a = some b) : ∀ k, iterC l a (k + 1) = iterC l b k := by
  intro k
  induction k with
  | zero => show (some a).bind (stepC l) = some b; rw [Option.bind_some, h]
  | succ k ih => show (iterC l a (k + 1)).bind (stepC l) = (iterC l b k).bind (stepC l); rw [ih]
theorem NS.step {l : List InstrL} {a : Nat} (h : NS l a) : ∃ b, stepC l a = some b ∧ NS l b := by
  obtain ⟨b, hb⟩ := h 1
  have hb' : stepC l a = some b := hb
  exact ⟨b, hb', fun k => by obtain ⟨c, hc⟩ := h (k + 1)
                             exact ⟨c, (iter_front hb' k).symm.trans hc⟩⟩
theorem NS.of {l : List InstrL} {P : Nat → Prop} (h : ∀ a, P a → ∃ b, stepC l a = some b ∧ P b) {a : Nat} (ha : P a) : NS l a := by
  have : ∀ k, ∃ c, iterC l a k = some c ∧ P c := by
    intro k
    induction k with
    | zero => exact ⟨a, rfl, ha⟩
    | succ k ih =>
      obtain ⟨c, h1, h2⟩ := ih
      obtain ⟨d, h3, h4⟩ := h c h2
      exact ⟨d, by unfold iterC; rw [h1]; exact h3, h4⟩
  exact fun k => (this k).imp fun _ h => h.1
theorem stop_or (l : List InstrL) (a : Nat) : Stop l a (comesN l a) ∨ (NS l a ∧ comesN l a = a) := by
  by_cases h : NS l a
  · exact .inr ⟨h, comesN_never h⟩
  · refine .inl ?_
    have : ∃ b, Stop l a b := by
      refine Classical.byContradiction fun hno => h fun k => ?_
      induction k with
      | zero => exact ⟨a, rfl⟩
      | succ k ih =>
        obtain ⟨c, hc⟩ := ih
        cases e : stepC l c with
        | none => exact (hno ⟨c, k, hc, e⟩).elim
        | some d => exact ⟨d, by unfold iterC; rw [hc]; exact e⟩
    obtain ⟨b, hb⟩ := this
    rw [comesN_stop hb]; exact hb
theorem tnd_from {l : List InstrL} {j : Nat} {y : InstrL} (hy : (tnd l)[j]? = some y) : ∃ z, l[j]? = some z ∧ y = tndI l z := by
  unfold tnd at hy
  rw [List.getElem?_map] at hy
  cases e : l[j]? with
  | none => rw [e] at hy; cases hy
  | some z => rw [e] at hy; cases hy; exact ⟨z, rfl, rfl⟩
theorem tndI_br {l : List InstrL} (hr : rightC l = true) {z : InstrL} (hz : z ∈ l) (hb : branchI z = true) : ∃ d : Nat, z.a = d ∧ d < l.length ∧ tndI l z = ⟨z.op, (comesN l d : Nat)⟩ ∧ comesF l z.a = (comesN l d : Nat) := by
  have hj := rightC_jump hr hz (branchI_iff.1 hb)
  obtain ⟨d, hd⟩ : ∃ d : Nat, z.a = d := ⟨z.a.toNat, by omega⟩
  have hf : comesF l z.a = (comesN l d : Nat) := by rw [hd]; exact comesF_yes hr (by omega)
  exact ⟨d, hd, by omega, by unfold tndI; rw [if_pos hb, hf], hf⟩
/-- A target is where the walk stops, or it goes round. -/
theorem tgt_kind {l : List InstrL} (hr : rightC l = true) {c : Nat} (h : tgtB l c = true) : stepC l c = none ∨ NS l c := by
  obtain ⟨j, y, hy, -, hb, hc⟩ := tgt_iff.1 h
  obtain ⟨z, hz, rfl⟩ := tnd_from hy
  rw [branchI_op (tndI_op l z)] at hb
  obtain ⟨d, -, -, h2, -⟩ := tndI_br hr (List.mem_of_getElem? hz) hb
  rw [h2] at hc
  have hc : comesN l d = c := by simp only at hc; omega
  rcases stop_or l d with h | ⟨h, e⟩
  · obtain ⟨k, -, h⟩ := h
    rw [hc] at h
    exact .inl h
  · rw [hc] at e; subst e; exact .inr h
theorem NS.skip {l : List InstrL} {k m : Nat} (h : NS l k) (hkm : k ≤ m) (hn : ∀ j, k ≤ j → j < m → isNop l j = true) : NS l m := by
  induction m with
  | zero => obtain rfl : k = 0 := by omega
            exact h
  | succ m ih =>
    by_cases e : k = m + 1
    · subst e; exact h
    · have h1 := ih (by omega) (fun j a b => hn j a (by omega))
      have h2 := hn m (by omega) (by omega)
      obtain ⟨b, hb, h3⟩ := h1.step
      unfold isNop at h2
      unfold stepC at hb
      split at h2
      · rename_i y hy
        rw [hy] at hb
        simp only at hb
        rw [if_pos (by simpa using h2)] at hb
        cases hb
        exact h3
      · cases h2
/-- What goes round goes round when it is trimmed. -/
theorem codeL_NS {l : List InstrL} (hr : rightC l = true) {a : Nat} (ha : NS l a) (hal : a < l.length) (hs : stays l a = true) : NS (codeL l) (place l a) := by
  refine NS.of (P := fun k => ∃ a, k = place l a ∧ NS l a ∧ a < l.length ∧ stays l a = true) ?_ ⟨a, rfl, ha, hal, hs⟩
  rintro _ ⟨a, rfl, ha, hal, hs⟩
  obtain ⟨y, hy⟩ := tnd_some hal
  obtain ⟨z, hz, rfl⟩ := tnd_from hy
  have hx := codeL_get hal hs hy
  obtain ⟨b, hb, hB⟩ := ha.step
  unfold stepC at hb
  rw [hz] at hb
  simp only at hb
  have hop : (finI l (tndI l z)).op = z.op := by rw [finI_op, tndI_op]
  split at hb
  · rename_i h42
    cases hb
    obtain ⟨h4, h5⟩ := fall_ed hr hy (by rw [tndI_op]; omega) (by rw [tndI_op]; omega) (stays_iff.1 hs).1
    obtain ⟨m, a1, a2, a3, a4⟩ := next_stay hr _ (a + 1) rfl h4 h5
    refine ⟨place l m, ?_, m, rfl, hB.skip a1 (fun j b c => (a4 j b c).2), a2, a3⟩
    unfold stepC
    rw [hx]
    simp only
    rw [if_pos (by rw [hop]; exact h42), place_skip a1 (fun j b c => (a4 j b c).1), place_succ hs]
  · split at hb
    · rename_i h42 h43
      cases hb
      have hbr : branchI z = true := branchI_iff.2 (.inl h43)
      obtain ⟨d, hd, hdl, h2, -⟩ := tndI_br hr (List.mem_of_getElem? hz) hbr
      have hbr' : branchI (tndI l z) = true := by rw [branchI_op (tndI_op l z)]; exact hbr
      rw [hd, Int.toNat_natCast] at hB
      have hcd := comesN_never hB
      rw [hcd] at h2
      obtain ⟨c, hc, hcl, hct⟩ := tgt_of hr hs hy hbr'
      have hcd' : c = d := by rw [h2] at hc; simp only at hc; omega
      subst hcd'
      refine ⟨place l c, ?_, c, rfl, hB, hcl, tgt_stays hr hct⟩
      unfold stepC
      rw [hx]
      simp only
      rw [if_neg (by rw [hop]; exact h42), if_pos (by rw [hop]; exact h43), finI_br hbr' hc]
      simp only [Int.toNat_natCast]
    · cases hb
theorem codeL_comes {l : List InstrL} (hr : rightC l = true) {c : Nat} (hcl : c < l.length) (h : tgtB l c = true) : comesN (codeL l) (place l c) = place l c := by
  have hs := tgt_stays hr h
  rcases tgt_kind hr h with h1 | h1
  · refine comesN_stop ⟨0, rfl, ?_⟩
    obtain ⟨y, hy⟩ := tnd_some hcl
    obtain ⟨z, hz, rfl⟩ := tnd_from hy
    have hx := codeL_get hcl hs hy
    have hop : (finI l (tndI l z)).op = z.op := by rw [finI_op, tndI_op]
    unfold stepC at h1 ⊢
    rw [hz] at h1
    rw [hx]
    simp only at h1 ⊢
    rw [hop]
    split at h1
    · cases h1
    · split at h1
      · cases h1
      · rename_i h2 h3
        rw [if_neg h2, if_neg h3]
  · exact comesN_never (codeL_NS hr h1 hcl hs)
/-- Trimmed code has nothing more to be tended. -/
theorem codeL_tnd {l : List InstrL} (hr : rightC l = true) : tnd (codeL l) = codeL l := by
  refine List.ext_getElem? fun k => ?_
  rcases Nat.lt_or_ge k (codeL l).length with hk | hk
  · obtain ⟨a, y, ha, hal, hs, hy, hp, hx⟩ := codeL_at hk
    rw [tnd_get hx, hx]
    congr 1
    unfold tndI
    split
    · rename_i hb
      rw [branchI_op (finI_op l y)] at hb
      obtain ⟨c, hc, hcl, hct⟩ := tgt_of hr hs hy hb
      rw [finI_br hb hc]
      simp only
      rw [comesF_yes (codeL_right hr) (place_lt hcl (tgt_stays hr hct)), codeL_comes hr hcl hct]
    · rfl
  · rw [List.getElem?_eq_none (by rw [tnd_len]; exact hk), List.getElem?_eq_none hk]
theorem codeL_reaB {l : List InstrL} (hr : rightC l = true) {k : Nat} (hk : k < (codeL l).length) : reaB (codeL l) k = true := by
  obtain ⟨a, y, ha, hal, hs, hy, hp, hx⟩ := codeL_at hk
  rw [rea_iff, codeL_tnd hr, hp]
  exact codeL_rea hr (rea_iff.1 (stays_iff.1 hs).1) hal
theorem codeL_stays {l : List InstrL} (hr : rightC l = true) {k : Nat} (hk : k < (codeL l).length) : stays (codeL l) k = true := by
  obtain ⟨a, y, ha, hal, hs, hy, hp, hx⟩ := codeL_at hk
  refine stays_iff.2 ⟨codeL_reaB hr hk, fun hn => ?_⟩
  have hn' : isNop l a = true := by
    unfold isNop at hn
    rw [hx] at hn
    simp only at hn
    rw [finI_op] at hn
    rw [isNop_get hy]; exact hn
  obtain ⟨j, z, hz, hj, hb, hza⟩ := tgt_iff.1 ((stays_iff.1 hs).2 hn')
  have hjl := (List.getElem?_eq_some_iff.1 hz).1
  rw [tnd_len] at hjl
  have hjs : stays l j = true := stays_iff.2 ⟨hj, fun h => by
    rw [isNop_get hz] at h
    rcases branchI_iff.1 hb with e | e <;> rw [e] at h <;> cases h⟩
  refine tgt_iff.2 ⟨place l j, finI l z, ?_, codeL_reaB hr (place_lt hjl hjs), ?_, ?_⟩
  · rw [codeL_tnd hr]; exact codeL_get hjl hjs hz
  · rw [branchI_op (finI_op l z)]; exact hb
  · rw [finI_br hb hza, hp]
theorem oldN_all {l : List InstrL} : ∀ n, (∀ k, k < n → stays l k = true) → oldN l n = List.range n := by
  intro n
  induction n with
  | zero => intro _; rfl
  | succ n ih => intro h; rw [oldN_yes (h n (by omega)), ih (fun k hk => h k (by omega)), List.range_succ]
theorem codeL_old {l : List InstrL} (hr : rightC l = true) {n : Nat} (hn : n ≤ (codeL l).length) : oldN (codeL l) n = List.range n :=
  oldN_all n fun _ hk => codeL_stays hr (by omega)
theorem codeL_place {l : List InstrL} (hr : rightC l = true) {n : Nat} (hn : n ≤ (codeL l).length) : place (codeL l) n = n := by
  unfold place; rw [codeL_old hr hn, List.length_range]
/-- Trimmed once more it is the same. -/
theorem codeL_twice {l : List InstrL} (hr : rightC l = true) : codeL (codeL l) = codeL l := by
  refine List.ext_getElem? fun k => ?_
  rcases Nat.lt_or_ge k (codeL l).length with hk | hk
  · obtain ⟨a, y, ha, hal, hs, hy, hp, hx⟩ := codeL_at hk
    have h1 := codeL_get (l := codeL l) hk (codeL_stays hr hk) (y := finI l y) (by rw [codeL_tnd hr]; exact hx)
    rw [codeL_place hr (by omega)] at h1
    rw [h1, hx]
    congr 1
    cases hb : branchI y with
    | true =>
      obtain ⟨c, hc, hcl, hct⟩ := tgt_of hr hs hy hb
      have hcp := place_lt hcl (tgt_stays hr hct)
      rw [finI_br hb hc, finI_br (l := codeL l) (y := ⟨y.op, (place l c : Nat)⟩) (c := place l c) (by rw [← hb]; exact branchI_op rfl) rfl, codeL_place hr (by omega)]
    | false => rw [finI_no hb, finI_no hb]
  · rw [List.getElem?_eq_none hk, List.getElem?_eq_none (by rw [codeL_len, codeL_old hr (by omega), List.length_range]; exact hk)]
theorem codeO_twice (l : List InstrL) : codeO (codeO l) = codeO l := by
  cases hr : rightC l with
  | true =>
    have e : codeO l = codeL l := by unfold codeO; rw [if_pos hr]; rfl
    rw [e]
    have : codeO (codeL l) = codeL (codeL l) := by unfold codeO; rw [if_pos (codeL_right hr)]; rfl
    rw [this, codeL_twice hr]
  | false =>
    have e : codeO l = [] := by unfold codeO; rw [if_neg (by rw [hr]; exact Bool.noConfusion)]
    rw [e]; rfl
theorem oldO_twice {l : List InstrL} (hr : rightC l = true) : oldO (codeO l) = tI (List.range (codeO l).length) := by
  have e : codeO l = codeL l := by unfold codeO; rw [if_pos hr]; rfl
  rw [e]
  unfold oldO
  rw [if_pos (codeL_right hr), codeL_old hr (Nat.le_refl _)]
/-- What each kept instruction is. -/
theorem once_at {l : List InstrL} (hr : rightC l = true) {k : Nat} {x : InstrL} (hk : (codeO l)[k]? = some x) : ∃ (a : Nat) (z : InstrL), (oldO l)[k]? = some (a : Int) ∧ l[a]? = some z ∧ reaB (codeO l) k = true ∧ x.op = z.op ∧
    (x.op = 42 → comesF (codeO l) k = k) ∧ (branchI x = true → ∃ (b : Nat) (o : Nat), x.a = (b : Int) ∧ b < (codeO l).length ∧ (oldO l)[b]? = some (o : Int) ∧ comesF l z.a = (o : Int)) ∧ (branchI x = false → x.a = z.a) := by
  have e : codeO l = codeL l := by unfold codeO; rw [if_pos hr]; rfl
  have eo : oldO l = tI (oldN l l.length) := by unfold oldO; rw [if_pos hr]
  rw [e] at hk ⊢
  rw [eo]
  obtain ⟨a, y, ha, hal, hs, hy, hp, hx⟩ := codeL_at (List.getElem?_eq_some_iff.1 hk).1
  have hkl := (List.getElem?_eq_some_iff.1 hk).1
  obtain ⟨z, hz, rfl⟩ := tnd_from hy
  rw [hx] at hk
  cases hk
  have hop : (finI l (tndI l z)).op = z.op := by rw [finI_op, tndI_op]
  refine ⟨a, z, tI_get ha, hz, codeL_reaB hr hkl, hop, fun h42 => ?_, fun hb => ?_, fun hb => ?_⟩
  · have hn : isNop l a = true := by unfold isNop; rw [hz]; simp only; rw [← hop, h42]; rfl
    have ht := (stays_iff.1 hs).2 hn
    rw [comesF_yes (codeL_right hr) hkl, hp, codeL_comes hr hal ht]
  · rw [branchI_op hop] at hb
    have hb' : branchI (tndI l z) = true := by rw [branchI_op (tndI_op l z)]; exact hb
    obtain ⟨c, hc, hcl, hct⟩ := tgt_of hr hs hy hb'
    have hcs := tgt_stays hr hct
    obtain ⟨d, hd, hdl, h2, h3⟩ := tndI_br hr (List.mem_of_getElem? hz) hb
    refine ⟨place l c, c, ?_, place_lt hcl hcs, tI_get (place_get hcl hcs), ?_⟩
    · rw [finI_br hb' hc]
    · rw [h3, ← hc, h2]
  · rw [branchI_op hop] at hb
    rw [finI_no (by rw [branchI_op (tndI_op l z)]; exact hb)]
    unfold tndI
    rw [if_neg (by rw [hb]; exact Bool.noConfusion)]
theorem oldN_rises {l : List InstrL} {n i j a b : Nat} (hij : i < j) (hi : (oldN l n)[i]? = some a) (hj : (oldN l n)[j]? = some b) : a < b := by
  have hn : (oldN l n).Pairwise (· < ·) := List.Pairwise.sublist (List.filter_sublist ..) List.pairwise_lt_range
  rw [List.pairwise_iff_getElem] at hn
  obtain ⟨h1, rfl⟩ := List.getElem?_eq_some_iff.1 hi
  obtain ⟨h2, rfl⟩ := List.getElem?_eq_some_iff.1 hj
  exact hn i j h1 h2 hij
end Go.Ab
/- The document's Code. -/
namespace Go.Ab
open Go.Proofs
theorem branch43 {y : InstrL} (h : y.op = 43) : branchI y = true := branchI_iff.2 (.inl h)
theorem branch44 {y : InstrL} (h : y.op = 44) : branchI y = true := branchI_iff.2 (.inr h)
theorem branch_no {y : InstrL} (h : ¬ y.op = 43) (h2 : ¬ y.op = 44) : branchI y = false := by
  cases e : branchI y with
  | false => rfl
  | true => rcases branchI_iff.1 e with k | k; exact (h k).elim; exact (h2 k).elim
end Go.Ab
/- louverlaw26.TrimCode. -/
namespace Go.Ab
open Go.Proofs
theorem SH.add2 {s0 s s' : St} {L : List Chunk} (h : SH s0 L s) (k : Keep [] s s') (c d : Chunk) (hP : c.P s'.h) (hQ : d.P s'.h) (hF : ∀ g, c.F g → s.ctr ≤ g ∧ g < s'.ctr) (hG : ∀ g, d.F g → s.ctr ≤ g ∧ g < s'.ctr) (hcd : ∀ g, c.F g → ¬ d.F g) : SH s0 (L ++ [c] ++ [d]) s' := by
  have hm := h.mov k
  have hc := h.K.ctr
  have key : ∀ (i : Nat) (x : Chunk), (L ++ [c] ++ [d])[i]? = some x → (i < L.length ∧ L[i]? = some x) ∨ (i = L.length ∧ x = c) ∨ (i = L.length + 1 ∧ x = d) := by
    intro i x hi
    rw [List.append_assoc] at hi
    by_cases hl : i < L.length
    · rw [List.getElem?_append_left hl] at hi; exact .inl ⟨hl, hi⟩
    · have h1 := (List.getElem?_eq_some_iff.1 hi).1
      simp only [List.length_append, List.length_cons, List.length_nil] at h1
      rw [List.getElem?_append_right (by omega)] at hi
      by_cases e : i = L.length
      · subst e
        rw [Nat.sub_self] at hi
        simp at hi
        exact .inr (.inl ⟨rfl, hi.symm⟩)
      · obtain rfl : i = L.length + 1 := by omega
        rw [Nat.add_sub_cancel_left] at hi
        simp at hi
        exact .inr (.inr ⟨rfl, hi.symm⟩)
  refine ⟨hm.K, fun i x hi => ?_, fun i j x y hij hi hj g hx hy => ?_⟩
  · rcases key i x hi with ⟨-, h1⟩ | ⟨-, rfl⟩ | ⟨-, rfl⟩
    · exact hm.own i x h1
    · exact ⟨hP, fun g hg => ⟨Nat.le_trans hc (hF g hg).1, (hF g hg).2⟩⟩
    · exact ⟨hQ, fun g hg => ⟨Nat.le_trans hc (hG g hg).1, (hG g hg).2⟩⟩
  · rcases key i x hi with ⟨h0, h1⟩ | ⟨h1, rfl⟩ | ⟨h1, rfl⟩ <;> rcases key j y hj with ⟨k0, k1⟩ | ⟨k1, rfl⟩ | ⟨k1, rfl⟩
    · exact h.dis i j x y hij h1 k1 g hx hy
    · have := (h.own i x h1).2 g hx; have := hF g hy; omega
    · have := (h.own i x h1).2 g hx; have := hG g hy; omega
    · have := (h.own j y k1).2 g hy; have := hF g hx; omega
    · omega
    · exact hcd g hx hy
    · have := (h.own j y k1).2 g hy; have := hG g hx; omega
    · exact hcd g hy hx
    · omega
theorem codeO_len (l : List InstrL) : (codeO l).length ≤ l.length := by
  unfold codeO
  split
  · simp only [List.length_map]; exact oldN_len l l.length
  · exact Nat.zero_le _
end Go.Ab
/- louverlaw26.TrimOnce. -/
namespace Go.Ab
open Go.Proofs
section
variable {P : Program} {T : Tab} {K : FuncId → Option Bool} {nt : Nat} {ops : Array Oper} {rest : List Oper} {m : Sy} {s : St} {Q : Sy → St → Prop} {d ty : Nat} {pos : String} {af : Array Edge} {g : Option (Nat × Bool)}
/-- A row with elements is not nil. -/
theorem op_isnil2 {tt : TypeId} {x y : Operand} {i : TI} {e : TypeId} {v : AV} {cs : List (List AV)} {sz yt : Nat} (hx : evY m x = some v) (hy : evY m y = some .nils) (hT : T tt = some i) (hs : i.sh = .slice e) (hr : Row s.h sz v cs) (h0 : cs ≠ []) (hg : ∀ xs, v = .ro true xs → xs = []) :
    ∀ t, Has t nt m → evOp T (.binOp .eql tt x y yt) t s = some (.val (.bool false), s) := by
  intro t ht
  obtain ⟨sh, size, bytes, zero, flat⟩ := i
  cases hs
  have : binA T .eql tt v .nils = some (.bool false) := by
    cases v with
    | slc g j off sz' len lo' ex => simp only [binA, hT]
    | nils => exact (h0 hr).elim
    | ro nl xs =>
      cases nl with
      | false => simp only [binA, hT]
      | true =>
        have := hg xs rfl
        subst this
        exact (h0 hr.1.symm).elim
    | _ => exact hr.elim
  simp only [evOp, evY_ok ht hx, evY_ok ht hy, this]
end
set_option maxRecDepth 10000 in
theorem cloneCode_ne {s : St} {v : AV} {cs : List (List AV)} (hok : s.Ok) (hl : cs.length ≤ 2097152) (hv : Row s.h 2 v cs) (h0 : cs ≠ []) (hg : ∀ xs, v = .ro true xs → xs = []) :
    CallS Try.prog Tt Kt 55 [v] s (fun r s' => Keep [] s s' ∧ Row s'.h 2 r cs ∧ (∀ g ∈ r.gs, s.ctr ≤ g) ∧ r.gs ≠ []) := by
  refine call_of (fn := Try.f55) (nt := 8) Try.func55 rfl rfl rfl ?_
  repeat refine wc_seq ?_
  refine wc_region ?_
  refine w_val rfl rfl (op_pure rfl) ?_
  refine w_nil ?_
  refine then_n ?_
  repeat refine wc_seq ?_
  refine wc_region ?_
  refine w_val rfl rfl (op_pure rfl) ?_
  refine w_val rfl rfl (op_isnil2 rfl rfl rfl rfl hv h0 hg) ?_
  refine w_nil ?_
  refine then_n ?_
  repeat refine wc_seq ?_
  refine wc_condT rfl (fun h4 => ?_) (fun h4 => ?_)
  · cases h4
  clear h4
  refine wc_skip ?_
  refine then_n ?_
  repeat refine wc_seq ?_
  refine wc_region ?_
  refine w_lit0 rfl rfl rfl rfl rfl rfl (by decide) hok ?_
  rintro a s1 ha hk1 hc1 hga
  have hv1 := hv.keep0 hk1
  refine w_val rfl rfl (op_pure rfl) ?_
  refine w_append rfl rfl rfl rfl rfl rfl rfl rfl rfl (by decide) hk1.ok ha (fun e => by rw [hga] at e; cases e) hv1 (by simp only [List.length_nil, maxBytes]; omega) (by simp only [List.length_nil, maxBytes]; omega) ?_
  rintro r s2 hr hk2 hc2 hgr - -
  rw [List.nil_append] at hr
  refine w_val rfl rfl (op_pure rfl) ?_
  refine w_nil ?_
  refine then_n ?_
  refine wc_ret ?_
  repeat first | refine then_r ?_ | refine out_r ?_ | refine round_r ?_ | refine cut_r ?_ | refine sc_r ?_
  refine ⟨_, rfl, hk1.fresh hk2 (by rw [hga]; exact mem_none _), hr, ?_, ?_⟩
  · show ∀ g ∈ r.gs, _
    rcases hgr with e | e
    · rw [e, hga]; exact mem_none _
    · rw [e]; intro g hg; rw [List.mem_singleton.1 hg]; omega
  · show r.gs ≠ []
    rcases hgr with e | e
    · rw [e, hga]; exact fun e => by cases e
    · rw [e]; exact fun e => by cases e
set_option maxRecDepth 10000 in
set_option maxHeartbeats 8000000 in
theorem trimCode_all {s : St} {v : AV} {l : List InstrL} (hok : s.Ok) (hv : Row s.h 2 v (l.map inC)) (hg : ∀ xs, v = .ro true xs → xs = []) (hl : l.length ≤ 2097152) :
    CallS Try.prog Tt Kt 18 [v] s (fun r s' => Keep [] s s' ∧ ∃ x o, r = .tup [x, o] ∧ Row s'.h 2 x ((codeO l).map inC) ∧ Row s'.h 1 o ((oldO l).map iC) ∧ (∀ g ∈ x.gs, s.ctr ≤ g) ∧ (∀ g ∈ o.gs, s.ctr ≤ g) ∧ Dis x o ∧ (x.gs = [] → x = .nils) ∧ (o.gs = [] → o = .nils)) := by
  refine call_of (fn := Try.f18) (nt := 137) Try.func18 rfl rfl rfl ?_
  repeat refine wc_seq ?_
  have hS := SH.start hok
  have hK := hS.K
  refine wc_region ?_
  refine w_val rfl rfl (op_pure rfl) ?_
  refine w_val rfl rfl (op_pure rfl) ?_
  refine w_nil ?_
  refine then_n ?_
  repeat refine wc_seq ?_
  refine wc_region ?_
  refine w_val rfl rfl (op_pure rfl) ?_
  refine w_call rfl rfl (op_call rfl rfl rfl rfl) (right_code_ok hK.ok hv hl) ?_
  rintro _ z ⟨hk, rfl⟩
  have hS := hS.mov hk
  have hK := hS.K
  refine w_val rfl rfl (op_pure rfl) ?_
  refine w_nil ?_
  refine then_n ?_
  repeat refine wc_seq ?_
  refine wc_condT rfl (fun h22 => ?_) (fun h22 => ?_)
  · simp only [Bool.not_eq_true'] at h22
    repeat refine wc_seq ?_
    refine wc_region ?_
    refine w_val rfl rfl (op_pure rfl) ?_
    refine w_val rfl rfl (op_pure rfl) ?_
    refine w_nil ?_
    refine then_n ?_
    refine wc_ret ?_
    repeat first | refine then_r ?_ | refine out_r ?_ | refine round_r ?_ | refine cut_r ?_ | refine sc_r ?_
    exact ⟨_, rfl, hK, .nils, .nils, rfl, by unfold codeO; rw [if_neg (by rw [h22]; decide)]; exact row_nils _ _, by unfold oldO; rw [if_neg (by rw [h22]; decide)]; exact row_nils _ _, (fun g hg => by cases hg), (fun g hg => by cases hg), (fun g hg => by cases hg), fun _ => rfl, fun _ => rfl⟩
  simp only [Bool.not_eq_false'] at h22
  refine wc_skip ?_
  refine then_n ?_
  repeat refine wc_seq ?_
  refine wc_region ?_
  refine w_val rfl rfl (op_pure rfl) ?_
  refine w_call rfl rfl (op_call rfl rfl rfl rfl) (cloneCode_ne hK.ok (by rw [List.length_map]; omega) (hv.keep0 hK) (fun e => by rw [List.map_eq_nil_iff.1 e] at h22; cases h22) hg) ?_
  rintro ov z1 ⟨hk, hr, hb, hn⟩
  have hS := hS.add hk (rowC ov 2 (((tnd l).take 0 ++ l.drop 0).map inC)) ⟨hr, fun e => (hn e).elim⟩ (fun g hg => ⟨hb g hg, hr.lt hk.ok g hg⟩)
  have hS : SH _ [_] z1 := hS
  have hK := hS.K
  have hR := h22
  clear hr hb hn
  refine w_val rfl rfl (op_pure rfl) ?_
  refine w_nil ?_
  refine then_n ?_
  repeat refine wc_seq ?_
  refine wc_region ?_
  refine w_val rfl rfl (op_pure rfl) ?_
  refine w_nil ?_
  refine then_n ?_
  repeat refine wc_seq ?_
  refine wc_region ?_
  refine w_val rfl rfl (op_pure rfl) ?_
  refine w_val rfl rfl (op_len rfl rfl rfl rfl rfl ((hS.row 0 rfl).slenF.trans (congrArg some (mix_len (Nat.zero_le _))))) ?_
  refine w_val rfl rfl (op_pure rfl) ?_
  refine w_nil ?_
  refine then_n ?_
  repeat refine wc_seq ?_
  refine wc_block ?_
  refine wc_loop_at (fun jj m z => ∃ k : Nat, jj = l.length - k ∧ k ≤ l.length ∧ m = [(0, v), (4, ov), (5, .fn 56 []), (25, ov), (26, .int .i64 (l.length : Nat)), (27, .int .i64 (k : Nat))] ∧ SH s [rowC ov 2 (((tnd l).take k ++ l.drop k).map inC)] z) l.length
    [(0, v), (4, ov), (5, .fn 56 []), (25, ov), (26, .int .i64 (l.length : Nat)), (27, .int .i64 ((0 : Nat) : Int))] (Sub.cons rfl (Sub.cons rfl (Sub.cons rfl (Sub.cons rfl (Sub.cons rfl (Sub.cons rfl (Sub.nil _))))))) ⟨0, by simp, by simp, rfl, hS⟩ ?_
  clear hS hK
  rintro jj m z ⟨k, rfl, hk, rfl, hS⟩
  have hK := hS.K
  have hml := mix_len hk
  repeat refine wc_seq ?_
  refine wc_region ?_
  refine w_val rfl rfl (op_pure rfl) ?_
  refine w_nil ?_
  refine then_n ?_
  repeat refine wc_seq ?_
  refine wc_condT rfl (fun h28 => ?_) (fun h28 => ?_)
  · simp only [decide_eq_true_eq] at h28
    refine wc_skip ?_
    refine then_n ?_
    repeat refine wc_seq ?_
    refine wc_block ?_
    repeat refine wc_seq ?_
    obtain ⟨y, hy⟩ : ∃ y, l[k]? = some y := ⟨_, List.getElem?_eq_getElem (by omega)⟩
    have hmid := mix_get hy
    refine wc_region ?_
    refine w_val rfl rfl (op_pure rfl) ?_
    refine w_val rfl rfl (op_idxF rfl rfl (natA_cast _ _) rfl rfl rfl rfl (hS.row 0 rfl) (by omega)) ?_
    refine w_val rfl rfl (op_load rfl rfl (Row.mk_pt (hS.row 0 rfl) (by assumption)) rfl) ?_
    refine ws_alloc hS rfl rfl rfl rfl ?_
    rintro p1 z hS hk
    have hS : SH _ [_, _] z := hS
    have hK := hS.K
    refine w_val rfl rfl (op_pure rfl) ?_
    refine ws_store 1 hS rfl rfl rfl rfl rfl rfl (by rfl) (Nat.le_of_ble_eq_true rfl) ?_
    rintro z hS
    have hS : SH _ [_, _] z := hS
    have hK := hS.K
    refine w_nil ?_
    refine then_n ?_
    repeat refine wc_seq ?_
    refine wc_region ?_
    refine w_val rfl rfl (op_pure rfl) ?_
    refine w_val rfl rfl (op_loadC 1 hS rfl rfl rfl (Nat.le_of_ble_eq_true rfl) rfl) ?_
    refine w_call rfl rfl (op_call rfl rfl rfl rfl) (branch_ok hK.ok) ?_
    rintro _ z ⟨hk2, rfl⟩
    have hS := hS.mov hk2
    have hK := hS.K
    refine w_nil ?_
    refine then_n ?_
    refine wc_condT rfl (fun h34 => ?_) (fun h34 => ?_)
    · obtain ⟨hy0, hyn⟩ := rightC_jump hR (List.mem_of_getElem? hy) (branchI_iff.1 h34)
      obtain ⟨yo, ya⟩ := y
      obtain ⟨a, ha⟩ : ∃ a : Nat, ya = a := ⟨ya.toNat, by simp only at hy0; omega⟩
      subst ha
      have hal : a < l.length := by simp only at hyn; omega
      have hti : tndI l ⟨yo, (a : Int)⟩ = ⟨yo, (comesN l a : Int)⟩ := by unfold tndI; rw [if_pos h34]; simp only; rw [comesF_yes hR hal]
      refine wc_region ?_
      refine w_val rfl rfl (op_pure rfl) ?_
      refine w_val rfl rfl (op_pure rfl) ?_
      refine w_val rfl rfl (op_pure rfl) ?_
      refine w_val rfl rfl (op_fldP rfl rfl rfl rfl (by decide)) ?_
      refine w_val rfl rfl (op_loadC 1 hS rfl rfl rfl (Nat.le_of_ble_eq_true rfl) rfl) ?_
      refine w_call rfl rfl (op_call rfl rfl rfl rfl) (comes_ok hK.ok (hv.keep0 hK) hl hR hal) ?_
      rintro _ z ⟨hk3, rfl⟩
      have hS := hS.mov hk3
      have hK := hS.K
      refine w_val rfl rfl (op_idxF rfl rfl (natA_cast _ _) rfl rfl rfl rfl (hS.row 0 rfl) (by omega)) ?_
      refine w_val rfl rfl (op_fld rfl rfl rfl rfl (by decide) (Row.mk_pt (hS.row 0 rfl) hmid) (Nat.le_of_ble_eq_true rfl)) ?_
      refine ws_storeEF 0 hS rfl rfl rfl rfl rfl rfl (by decide) rfl (by rw [List.getElem?_map, hmid]; rfl) ?_
      rintro z hS
      have hS : SH s [rowC ov 2 (((tnd l).take (k + 1) ++ l.drop (k + 1)).map inC)] z := by
        rw [← mix_step hy, hti, List.map_set]
        exact hS.sel [0] rfl (by decide)
      refine w_nil ?_
      refine out_n ?_
      refine then_n ?_
      refine wc_region ?_
      refine w_val rfl rfl (op_add rfl rfl (by unfold In64; omega)) ?_
      refine w_val rfl rfl (op_pure rfl) ?_
      refine w_nil ?_
      exact round_n _ _ (by omega) (Sub.cons rfl (Sub.cons rfl (Sub.cons rfl (Sub.cons rfl (Sub.cons rfl (Sub.cons rfl (Sub.nil _))))))) ⟨k + 1, rfl, by omega, rfl, hS⟩
    skip
    refine wc_skip ?_
    refine out_n ?_
    refine then_n ?_
    refine wc_region ?_
    refine w_val rfl rfl (op_add rfl rfl (by unfold In64; omega)) ?_
    refine w_val rfl rfl (op_pure rfl) ?_
    refine w_nil ?_
    have hS : SH s [rowC ov 2 (((tnd l).take (k + 1) ++ l.drop (k + 1)).map inC)] z := by
      rw [← mix_step hy, show tndI l y = y by unfold tndI; rw [if_neg (by rw [h34]; decide)], set_same hmid]
      exact hS.sel [0] rfl (by decide)
    exact round_n _ _ (by omega) (Sub.cons rfl (Sub.cons rfl (Sub.cons rfl (Sub.cons rfl (Sub.cons rfl (Sub.cons rfl (Sub.nil _))))))) ⟨k + 1, rfl, by omega, rfl, hS⟩
  simp only [decide_eq_false_iff_not] at h28
  obtain rfl : k = l.length := by omega
  rw [List.drop_length, List.append_nil, List.take_of_length_le (by rw [tnd_len]; exact Nat.le_refl _)] at hS
  have htl := tnd_len l
  clear hml
  refine wc_exit ?_
  repeat first | refine then_x ?_ | refine round_x ?_ | refine cut_x ?_ | refine out_x' (by decide) ?_
  refine out_x ?_
  refine then_n ?_
  repeat refine wc_seq ?_
  refine wc_region ?_
  refine w_val rfl rfl (op_pure rfl) ?_
  refine w_val rfl rfl (op_pure (build48 (hS.row 0 rfl).leaf)) ?_
  refine w_call rfl rfl (op_call rfl rfl rfl rfl) (reach_ok hK.ok (hS.row 0 rfl) (by omega) (by simp only [List.all_cons, List.all_nil, (hS.row 0 rfl).leaf]; rfl)) ?_
  rintro rv z1 ⟨hk, L, hM, hr, hb, hn⟩
  have hS := hS.add hk (rowC rv 1 (L.map bC)) ⟨hr, hn⟩ (fun g hg => ⟨hb g hg, hr.lt hk.ok g hg⟩)
  have hS : SH _ [_, _] z1 := hS
  have hK := hS.K
  have hLl : L.length = l.length + 1 := by rw [hM.1, tnd_len]
  clear hr hb hn
  refine w_val rfl rfl (op_pure rfl) ?_
  refine w_nil ?_
  refine then_n ?_
  repeat refine wc_seq ?_
  refine wc_region ?_
  refine w_val rfl rfl (op_pure rfl) ?_
  refine w_val rfl rfl (op_len rfl rfl rfl rfl rfl ((hS.row 0 rfl).slenF.trans (congrArg some htl))) ?_
  refine ws_mk hS rfl rfl rfl rfl rfl rfl rfl rfl rfl (by decide) rfl (by simp only [maxBytes]; omega) (by omega) ?_
  rintro tv z hS hne hk
  have hS : SH s [rowC ov 2 ((tnd l).map inC), rowC rv 1 (L.map bC), rowC tv 1 ((List.replicate l.length false).map bC)] z := by rw [← rep_bC]; exact hS
  have hK := hS.K
  refine w_val rfl rfl (op_pure rfl) ?_
  refine w_nil ?_
  refine then_n ?_
  repeat refine wc_seq ?_
  refine wc_region ?_
  refine w_val rfl rfl (op_pure rfl) ?_
  refine w_val rfl rfl (op_len rfl rfl rfl rfl rfl ((hS.row 0 rfl).slenF.trans (congrArg some htl))) ?_
  refine w_val rfl rfl (op_pure rfl) ?_
  refine w_nil ?_
  refine then_n ?_
  repeat refine wc_seq ?_
  refine wc_block ?_
  refine wc_loop_at (fun jj m z => ∃ (k : Nat) (TT : List Bool), jj = l.length - k ∧ k ≤ l.length ∧ m = [(4, ov), (5, .fn 56 []), (8, rv), (9, tv), (50, ov), (51, .int .i64 (l.length : Nat)), (52, .int .i64 (k : Nat))] ∧ SH s [rowC ov 2 ((tnd l).map inC), rowC rv 1 (L.map bC), rowC tv 1 (TT.map bC)] z ∧ TT.length = l.length ∧ ∀ c, Tk TT c ↔ ∃ (j : Nat) (y : InstrL), j < k ∧ (tnd l)[j]? = some y ∧ reaB l j = true ∧ branchI y = true ∧ y.a = (c : Int)) l.length
    [(4, ov), (5, .fn 56 []), (8, rv), (9, tv), (50, ov), (51, .int .i64 (l.length : Nat)), (52, .int .i64 ((0 : Nat) : Int))] (Sub.cons rfl (Sub.cons rfl (Sub.cons rfl (Sub.cons rfl (Sub.cons rfl (Sub.cons rfl (Sub.cons rfl (Sub.nil _)))))))) ⟨0, _, by simp, by simp, rfl, hS, by simp, fun c => ⟨fun h => (rep_noTk h).elim, fun ⟨j, y, h, _⟩ => by omega⟩⟩ ?_
  clear hS hK
  rintro jj m z ⟨k, TT, rfl, hk, rfl, hS, hTl, hT⟩
  have hK := hS.K
  repeat refine wc_seq ?_
  refine wc_region ?_
  refine w_val rfl rfl (op_pure rfl) ?_
  refine w_nil ?_
  refine then_n ?_
  repeat refine wc_seq ?_
  refine wc_condT rfl (fun h53 => ?_) (fun h53 => ?_)
  · simp only [decide_eq_true_eq] at h53
    refine wc_skip ?_
    refine then_n ?_
    repeat refine wc_seq ?_
    refine wc_block ?_
    repeat refine wc_seq ?_
    obtain ⟨y, hy⟩ : ∃ y, (tnd l)[k]? = some y := ⟨_, List.getElem?_eq_getElem (by rw [tnd_len]; omega)⟩
    have hLk := hM.reaB (k := k) (by omega)
    refine wc_region ?_
    refine w_val rfl rfl (op_pure rfl) ?_
    refine w_val rfl rfl (op_idxF rfl rfl (natA_cast _ _) rfl rfl rfl rfl (hS.row 0 rfl) (by omega)) ?_
    refine w_val rfl rfl (op_load rfl rfl (Row.mk_pt (hS.row 0 rfl) (by assumption)) rfl) ?_
    refine ws_alloc hS rfl rfl rfl rfl ?_
    rintro p3 z hS hk
    have hS : SH _ [_, _, _, _] z := hS
    have hK := hS.K
    refine w_val rfl rfl (op_pure rfl) ?_
    refine ws_store 3 hS rfl rfl rfl rfl rfl rfl (by rfl) (Nat.le_of_ble_eq_true rfl) ?_
    rintro z hS
    have hS : SH _ [_, _, _, _] z := hS
    have hK := hS.K
    refine w_nil ?_
    refine then_n ?_
    repeat refine wc_seq ?_
    refine wc_region ?_
    refine w_val rfl rfl (op_pure rfl) ?_
    refine w_val rfl rfl (op_pure rfl) ?_
    refine w_val rfl rfl (op_idxF rfl rfl (natA_cast _ _) rfl rfl rfl rfl (hS.row 1 rfl) (by omega)) ?_
    refine w_val rfl rfl (op_load rfl rfl (Row.mk_pt (hS.row 1 rfl) (by assumption)) rfl) ?_
    refine w_val rfl rfl (op_pure rfl) ?_
    refine w_split (i := 61) rfl (fun h61 => ?_) (fun h61 => ?_)
    · skip
      refine w_val rfl rfl (op_pure rfl) ?_
      refine w_val rfl rfl (op_loadC 3 hS rfl rfl rfl (Nat.le_of_ble_eq_true rfl) rfl) ?_
      refine w_call rfl rfl (op_call rfl rfl rfl rfl) (branch_ok hK.ok) ?_
      rintro _ z ⟨hk2, rfl⟩
      have hS := hS.mov hk2
      have hK := hS.K
      refine w_val rfl rfl (op_pure rfl) ?_
      refine w_nil ?_
      refine then_n ?_
      refine wc_condT rfl (fun h65 => ?_) (fun h65 => ?_)
      · obtain ⟨hy0, hyn⟩ := tnd_in hR (List.mem_of_getElem? hy) h65
        obtain ⟨yo, ya⟩ := y
        obtain ⟨b, hb⟩ : ∃ b : Nat, ya = b := ⟨ya.toNat, by simp only at hy0; omega⟩
        subst hb
        have hbl : b < l.length := by simp only at hyn; omega
        refine wc_region ?_
        refine w_val rfl rfl (op_pure rfl) ?_
        refine w_val rfl rfl (op_fldP rfl rfl rfl rfl (by decide)) ?_
        refine w_val rfl rfl (op_loadC 3 hS rfl rfl rfl (Nat.le_of_ble_eq_true rfl) rfl) ?_
        refine w_val rfl rfl (op_idxF rfl rfl (natA_cast _ _) rfl rfl rfl rfl (hS.row 2 rfl) (by omega)) ?_
        refine ws_storeE 2 hS rfl rfl rfl rfl rfl rfl rfl (by rfl) (by (simp; omega)) ?_
        rintro z hS
        have hS : SH _ [_, _, _, _] z := hS
        have hK := hS.K
        refine w_nil ?_
        refine out_n ?_
        refine then_n ?_
        refine wc_region ?_
        refine w_val rfl rfl (op_add rfl rfl (by unfold In64; omega)) ?_
        refine w_val rfl rfl (op_pure rfl) ?_
        refine w_nil ?_
        have hS : SH s [rowC ov 2 ((tnd l).map inC), rowC rv 1 (L.map bC), rowC tv 1 ((TT.set b true).map bC)] z := by rw [List.map_set]; exact hS.sel [0, 1, 2] rfl (by decide)
        exact round_n _ _ (by omega) (Sub.cons rfl (Sub.cons rfl (Sub.cons rfl (Sub.cons rfl (Sub.cons rfl (Sub.cons rfl (Sub.cons rfl (Sub.nil _)))))))) ⟨k + 1, TT.set b true, rfl, by omega, rfl, hS, by rw [List.length_set]; exact hTl, fun c => by
          rw [Tk_set (by omega), hT]
          constructor
          · rintro (rfl | ⟨j, y, h1, h2⟩)
            · exact ⟨k, _, by omega, hy, h61, h65, rfl⟩
            · exact ⟨j, y, by omega, h2⟩
          · rintro ⟨j, y, h1, h2, h3, h4, h5⟩
            rcases Nat.lt_succ_iff_lt_or_eq.1 h1 with h1 | rfl
            · exact .inr ⟨j, y, h1, h2, h3, h4, h5⟩
            · rw [hy] at h2; cases h2
              have h5 : (b : Int) = (c : Int) := h5
              exact .inl (by omega)⟩
      skip
      refine wc_skip ?_
      refine out_n ?_
      refine then_n ?_
      refine wc_region ?_
      refine w_val rfl rfl (op_add rfl rfl (by unfold In64; omega)) ?_
      refine w_val rfl rfl (op_pure rfl) ?_
      refine w_nil ?_
      exact round_n _ _ (by omega) (Sub.cons rfl (Sub.cons rfl (Sub.cons rfl (Sub.cons rfl (Sub.cons rfl (Sub.cons rfl (Sub.cons rfl (Sub.nil _)))))))) ⟨k + 1, TT, rfl, by omega, rfl, hS.sel [0, 1, 2] rfl (by decide), hTl, fun c => by
        rw [hT]
        constructor
        · rintro ⟨j, y, h1, h2⟩
          exact ⟨j, y, by omega, h2⟩
        · rintro ⟨j, y, h1, h2, h3, h4, h5⟩
          rcases Nat.lt_succ_iff_lt_or_eq.1 h1 with h1 | rfl
          · exact ⟨j, y, h1, h2, h3, h4, h5⟩
          · rw [hy] at h2; cases h2; rw [h65] at h4; cases h4⟩
    skip
    refine w_off rfl rfl ?_
    refine w_off rfl rfl ?_
    refine w_off rfl rfl ?_
    refine w_val rfl rfl (op_pure rfl) ?_
    refine w_nil ?_
    refine then_n ?_
    refine wc_cond_f rfl ?_
    refine wc_skip ?_
    refine out_n ?_
    refine then_n ?_
    refine wc_region ?_
    refine w_val rfl rfl (op_add rfl rfl (by unfold In64; omega)) ?_
    refine w_val rfl rfl (op_pure rfl) ?_
    refine w_nil ?_
    exact round_n _ _ (by omega) (Sub.cons rfl (Sub.cons rfl (Sub.cons rfl (Sub.cons rfl (Sub.cons rfl (Sub.cons rfl (Sub.cons rfl (Sub.nil _)))))))) ⟨k + 1, TT, rfl, by omega, rfl, hS.sel [0, 1, 2] rfl (by decide), hTl, fun c => by
      rw [hT]
      constructor
      · rintro ⟨j, y, h1, h2⟩
        exact ⟨j, y, by omega, h2⟩
      · rintro ⟨j, y, h1, h2, h3, h4, h5⟩
        rcases Nat.lt_succ_iff_lt_or_eq.1 h1 with h1 | rfl
        · exact ⟨j, y, h1, h2, h3, h4, h5⟩
        · rw [h61] at h3; cases h3⟩
  simp only [decide_eq_false_iff_not] at h53
  obtain rfl : k = l.length := by omega
  have hTG : ∀ c, c < l.length → TT[c]? = some (tgtB l c) := fun c hc => by
    obtain ⟨b, hb⟩ : ∃ b, TT[c]? = some b := ⟨_, List.getElem?_eq_getElem (by omega)⟩
    rw [hb]
    congr 1
    rw [Bool.eq_iff_iff, tgt_iff]
    have := hT c
    unfold Tk at this
    rw [hb] at this
    constructor
    · intro e
      subst e
      obtain ⟨j, y, h1, h2⟩ := this.1 rfl
      exact ⟨j, y, h2⟩
    · rintro ⟨j, y, h1, h2⟩
      exact Option.some.inj (this.2 ⟨j, y, by have := (List.getElem?_eq_some_iff.1 h1).1; rw [tnd_len] at this; exact this, h1, h2⟩)
  refine wc_exit ?_
  repeat first | refine then_x ?_ | refine round_x ?_ | refine cut_x ?_ | refine out_x' (by decide) ?_
  refine out_x ?_
  refine then_n ?_
  repeat refine wc_seq ?_
  refine wc_region ?_
  refine w_val rfl rfl (op_pure rfl) ?_
  refine w_val rfl rfl (op_len rfl rfl rfl rfl rfl ((hS.row 0 rfl).slenF.trans (congrArg some htl))) ?_
  refine ws_mk hS rfl rfl rfl rfl rfl rfl rfl rfl rfl (by decide) rfl (by simp only [maxBytes]; omega) (by omega) ?_
  rintro pv z hS hne hk
  have hS : SH s [rowC ov 2 ((tnd l).map inC), rowC rv 1 (L.map bC), rowC tv 1 (TT.map bC), rowC pv 1 ((List.replicate l.length (0 : Int)).map iC)] z := by rw [← rep_iC]; exact hS
  have hK := hS.K
  refine w_val rfl rfl (op_pure rfl) ?_
  refine w_nil ?_
  refine then_n ?_
  repeat refine wc_seq ?_
  refine wc_region ?_
  refine w_val rfl rfl (op_pure rfl) ?_
  refine w_nil ?_
  refine then_n ?_
  repeat refine wc_seq ?_
  have hS : SH s [rowC ov 2 ((tnd l).map inC), rowC rv 1 (L.map bC), rowC tv 1 (TT.map bC), rowC pv 1 ((List.replicate l.length (0 : Int)).map iC), rowC .nils 1 ((tI (oldN l 0)).map iC)] z := hS.nil 1
  refine wc_region ?_
  refine w_val rfl rfl (op_pure rfl) ?_
  refine w_val rfl rfl (op_len rfl rfl rfl rfl rfl ((hS.row 0 rfl).slenF.trans (congrArg some htl))) ?_
  refine w_val rfl rfl (op_pure rfl) ?_
  refine w_nil ?_
  refine then_n ?_
  repeat refine wc_seq ?_
  refine wc_block ?_
  refine wc_loop_at (fun jj m z => ∃ (k : Nat) (Pl : List Int) (o : AV), jj = l.length - k ∧ k ≤ l.length ∧ m = [(4, ov), (5, .fn 56 []), (8, rv), (9, tv), (12, pv), (13, o), (74, ov), (75, .int .i64 (l.length : Nat)), (76, .int .i64 (k : Nat))] ∧ SH s [rowC ov 2 ((tnd l).map inC), rowC rv 1 (L.map bC), rowC tv 1 (TT.map bC), rowC pv 1 (Pl.map iC), rowC o 1 ((tI (oldN l k)).map iC)] z ∧ Pl.length = l.length ∧ ∀ c, c < k → Pl[c]? = some (place l c : Int)) l.length
    [(4, ov), (5, .fn 56 []), (8, rv), (9, tv), (12, pv), (13, .nils), (74, ov), (75, .int .i64 (l.length : Nat)), (76, .int .i64 ((0 : Nat) : Int))] (Sub.cons rfl (Sub.cons rfl (Sub.cons rfl (Sub.cons rfl (Sub.cons rfl (Sub.cons rfl (Sub.cons rfl (Sub.cons rfl (Sub.cons rfl (Sub.nil _)))))))))) ⟨0, _, .nils, by simp, by simp, rfl, hS, by simp, fun c h => by omega⟩ ?_
  clear hS hK
  rintro jj m z ⟨k, Pl, o, rfl, hk, rfl, hS, hPl, hP⟩
  have hK := hS.K
  have hol := oldN_len l k
  have hotl := tI_len (oldN l k)
  repeat refine wc_seq ?_
  refine wc_region ?_
  refine w_val rfl rfl (op_pure rfl) ?_
  refine w_nil ?_
  refine then_n ?_
  repeat refine wc_seq ?_
  refine wc_condT rfl (fun h77 => ?_) (fun h77 => ?_)
  · simp only [decide_eq_true_eq] at h77
    refine wc_skip ?_
    refine then_n ?_
    repeat refine wc_seq ?_
    refine wc_block ?_
    repeat refine wc_seq ?_
    obtain ⟨y, hy⟩ : ∃ y, (tnd l)[k]? = some y := ⟨_, List.getElem?_eq_getElem (by rw [tnd_len]; omega)⟩
    have hLk := hM.reaB (k := k) (by omega)
    have hTk := hTG k (by omega)
    have hnp := isNop_get hy
    refine wc_region ?_
    refine w_val rfl rfl (op_pure rfl) ?_
    refine w_val rfl rfl (op_idxF rfl rfl (natA_cast _ _) rfl rfl rfl rfl (hS.row 0 rfl) (by omega)) ?_
    refine w_val rfl rfl (op_load rfl rfl (Row.mk_pt (hS.row 0 rfl) (by assumption)) rfl) ?_
    refine ws_alloc hS rfl rfl rfl rfl ?_
    rintro p5 z hS hk
    have hS : SH _ [_, _, _, _, _, _] z := hS
    have hK := hS.K
    refine w_val rfl rfl (op_pure rfl) ?_
    refine ws_store 5 hS rfl rfl rfl rfl rfl rfl (by rfl) (Nat.le_of_ble_eq_true rfl) ?_
    rintro z hS
    have hS : SH _ [_, _, _, _, _, _] z := hS
    have hK := hS.K
    refine w_nil ?_
    refine then_n ?_
    repeat refine wc_seq ?_
    refine wc_region ?_
    refine w_val rfl rfl (op_pure rfl) ?_
    refine w_val rfl rfl (op_pure rfl) ?_
    refine w_val rfl rfl (op_pure rfl) ?_
    refine w_val rfl rfl (op_len rfl rfl rfl rfl rfl (hS.row 4 rfl).slenF) ?_
    refine w_val rfl rfl (op_idxF rfl rfl (natA_cast _ _) rfl rfl rfl rfl (hS.row 3 rfl) (by omega)) ?_
    refine ws_storeE 3 hS rfl rfl rfl rfl rfl rfl rfl (by rfl) (by (simp; omega)) ?_
    rintro z hS
    have hS : SH _ [_, _, _, _, _, _] z := hS
    have hK := hS.K
    refine w_nil ?_
    have hS : SH s [rowC ov 2 ((tnd l).map inC), rowC rv 1 (L.map bC), rowC tv 1 (TT.map bC), rowC pv 1 ((Pl.set k (place l k : Int)).map iC), rowC o 1 ((tI (oldN l k)).map iC), ptC (.ptr p5 0 0) (inC y)] z := by
      have e : (place l k : Int) = ((tI (oldN l k)).length : Int) := by unfold place; rw [tI_len]
      rw [List.map_set, e]; exact hS
    have hP2 : ∀ c, c < k + 1 → (Pl.set k (place l k : Int))[c]? = some (place l c : Int) := fun c hc => by
      rw [List.getElem?_set]
      by_cases e : k = c
      · subst e; rw [if_pos rfl, if_pos (by omega)]
      · rw [if_neg e]; exact hP c (by omega)
    have hPl2 : (Pl.set k (place l k : Int)).length = l.length := by rw [List.length_set]; exact hPl
    refine then_n ?_
    repeat refine wc_seq ?_
    refine wc_region ?_
    refine w_val rfl rfl (op_pure rfl) ?_
    refine w_val rfl rfl (op_pure rfl) ?_
    refine w_val rfl rfl (op_idxF rfl rfl (natA_cast _ _) rfl rfl rfl rfl (hS.row 1 rfl) (by omega)) ?_
    refine w_val rfl rfl (op_load rfl rfl (Row.mk_pt (hS.row 1 rfl) (by assumption)) rfl) ?_
    refine w_val rfl rfl (op_pure rfl) ?_
    refine w_split (i := 90) rfl (fun h90 => ?_) (fun h90 => ?_)
    · skip
      refine w_val rfl rfl (op_fldP rfl rfl rfl rfl (by decide)) ?_
      refine w_val rfl rfl (op_loadC 5 hS rfl rfl rfl (Nat.le_of_ble_eq_true rfl) rfl) ?_
      refine w_val rfl rfl (op_pure rfl) ?_
      refine w_val rfl rfl (op_pure rfl) ?_
      refine w_split (i := 94) rfl (fun h94 => ?_) (fun h94 => ?_)
      · simp only [ne_eq, bne_iff_ne] at h94
        refine w_off rfl rfl ?_
        refine w_off rfl rfl ?_
        refine w_off rfl rfl ?_
        refine w_off rfl rfl ?_
        refine w_val rfl rfl (op_pure rfl) ?_
        refine w_val rfl rfl (op_pure rfl) ?_
        refine w_nil ?_
        refine then_n ?_
        refine wc_cond_t rfl ?_
        refine wc_region ?_
        refine w_val rfl rfl (op_pure rfl) ?_
        refine w_val rfl rfl (op_pure rfl) ?_
        refine ws_lit1 hS rfl rfl rfl rfl rfl rfl rfl rfl (by decide) (by decide) rfl (by rfl) rfl ?_
        rintro lt103 z hS hk hlt103
        have hK := hS.K
        refine ws_append 4 hS rfl rfl rfl rfl rfl rfl rfl rfl rfl rfl rfl (by decide) (hlt103) (by (simp only [List.length_map, List.length_nil, List.length_cons, maxBytes]; omega)) (by (simp only [List.length_map, List.length_nil, List.length_cons, maxBytes]; omega)) ?_
        rintro at104 z hS
        have hS : SH _ [_, _, _, _, _, _] z := hS
        have hK := hS.K
        refine w_val rfl rfl (op_pure rfl) ?_
        refine w_nil ?_
        refine out_n ?_
        refine then_n ?_
        refine wc_region ?_
        refine w_val rfl rfl (op_add rfl rfl (by unfold In64; omega)) ?_
        refine w_val rfl rfl (op_pure rfl) ?_
        refine w_nil ?_
        have hst : stays l k = true := by unfold stays; rw [hnp]; simp [h90, h94]
        have hS : SH s [rowC ov 2 ((tnd l).map inC), rowC rv 1 (L.map bC), rowC tv 1 (TT.map bC), rowC pv 1 ((Pl.set k (place l k : Int)).map iC), rowC at104 1 ((tI (oldN l (k + 1))).map iC)] z := by rw [oldN_yes hst, tI_app, List.map_append]; exact hS.sel [0, 1, 2, 3, 4] rfl (by decide)
        exact round_n _ _ (by omega) (Sub.cons rfl (Sub.cons rfl (Sub.cons rfl (Sub.cons rfl (Sub.cons rfl (Sub.cons rfl (Sub.cons rfl (Sub.cons rfl (Sub.cons rfl (Sub.nil _)))))))))) ⟨k + 1, _, at104, rfl, by omega, rfl, hS, hPl2, hP2⟩
      simp only [bne_eq_false_iff_eq] at h94
      refine w_val rfl rfl (op_pure rfl) ?_
      refine w_val rfl rfl (op_pure rfl) ?_
      refine w_val rfl rfl (op_idxF rfl rfl (natA_cast _ _) rfl rfl rfl rfl (hS.row 2 rfl) (by omega)) ?_
      refine w_val rfl rfl (op_load rfl rfl (Row.mk_pt (hS.row 2 rfl) (by assumption)) rfl) ?_
      refine w_val rfl rfl (op_pure rfl) ?_
      refine w_val rfl rfl (op_pure rfl) ?_
      refine w_nil ?_
      refine then_n ?_
      refine wc_condT rfl (fun h100 => ?_) (fun h100 => ?_)
      · skip
        refine wc_region ?_
        refine w_val rfl rfl (op_pure rfl) ?_
        refine w_val rfl rfl (op_pure rfl) ?_
        refine ws_lit1 hS rfl rfl rfl rfl rfl rfl rfl rfl (by decide) (by decide) rfl (by rfl) rfl ?_
        rintro lt103 z hS hk hlt103
        have hK := hS.K
        refine ws_append 4 hS rfl rfl rfl rfl rfl rfl rfl rfl rfl rfl rfl (by decide) (hlt103) (by (simp only [List.length_map, List.length_nil, List.length_cons, maxBytes]; omega)) (by (simp only [List.length_map, List.length_nil, List.length_cons, maxBytes]; omega)) ?_
        rintro at104 z hS
        have hS : SH _ [_, _, _, _, _, _] z := hS
        have hK := hS.K
        refine w_val rfl rfl (op_pure rfl) ?_
        refine w_nil ?_
        refine out_n ?_
        refine then_n ?_
        refine wc_region ?_
        refine w_val rfl rfl (op_add rfl rfl (by unfold In64; omega)) ?_
        refine w_val rfl rfl (op_pure rfl) ?_
        refine w_nil ?_
        have hst : stays l k = true := by unfold stays; rw [hnp]; simp [h90, h100]
        have hS : SH s [rowC ov 2 ((tnd l).map inC), rowC rv 1 (L.map bC), rowC tv 1 (TT.map bC), rowC pv 1 ((Pl.set k (place l k : Int)).map iC), rowC at104 1 ((tI (oldN l (k + 1))).map iC)] z := by rw [oldN_yes hst, tI_app, List.map_append]; exact hS.sel [0, 1, 2, 3, 4] rfl (by decide)
        exact round_n _ _ (by omega) (Sub.cons rfl (Sub.cons rfl (Sub.cons rfl (Sub.cons rfl (Sub.cons rfl (Sub.cons rfl (Sub.cons rfl (Sub.cons rfl (Sub.cons rfl (Sub.nil _)))))))))) ⟨k + 1, _, at104, rfl, by omega, rfl, hS, hPl2, hP2⟩
      skip
      refine wc_skip ?_
      refine out_n ?_
      refine then_n ?_
      refine wc_region ?_
      refine w_val rfl rfl (op_add rfl rfl (by unfold In64; omega)) ?_
      refine w_val rfl rfl (op_pure rfl) ?_
      refine w_nil ?_
      have hst : stays l k = false := by unfold stays; rw [hnp]; simp [h94, h100]
      have hS : SH s [rowC ov 2 ((tnd l).map inC), rowC rv 1 (L.map bC), rowC tv 1 (TT.map bC), rowC pv 1 ((Pl.set k (place l k : Int)).map iC), rowC o 1 ((tI (oldN l (k + 1))).map iC)] z := by rw [oldN_no hst]; exact hS.sel [0, 1, 2, 3, 4] rfl (by decide)
      exact round_n _ _ (by omega) (Sub.cons rfl (Sub.cons rfl (Sub.cons rfl (Sub.cons rfl (Sub.cons rfl (Sub.cons rfl (Sub.cons rfl (Sub.cons rfl (Sub.cons rfl (Sub.nil _)))))))))) ⟨k + 1, _, o, rfl, by omega, rfl, hS, hPl2, hP2⟩
    skip
    refine w_off rfl rfl ?_
    refine w_off rfl rfl ?_
    refine w_off rfl rfl ?_
    refine w_off rfl rfl ?_
    refine w_off rfl rfl ?_
    refine w_off rfl rfl ?_
    refine w_off rfl rfl ?_
    refine w_off rfl rfl ?_
    refine w_off rfl rfl ?_
    refine w_val rfl rfl (op_pure rfl) ?_
    refine w_nil ?_
    refine then_n ?_
    refine wc_cond_f rfl ?_
    refine wc_skip ?_
    refine out_n ?_
    refine then_n ?_
    refine wc_region ?_
    refine w_val rfl rfl (op_add rfl rfl (by unfold In64; omega)) ?_
    refine w_val rfl rfl (op_pure rfl) ?_
    refine w_nil ?_
    have hst : stays l k = false := by unfold stays; rw [hnp]; simp [h90]
    have hS : SH s [rowC ov 2 ((tnd l).map inC), rowC rv 1 (L.map bC), rowC tv 1 (TT.map bC), rowC pv 1 ((Pl.set k (place l k : Int)).map iC), rowC o 1 ((tI (oldN l (k + 1))).map iC)] z := by rw [oldN_no hst]; exact hS.sel [0, 1, 2, 3, 4] rfl (by decide)
    exact round_n _ _ (by omega) (Sub.cons rfl (Sub.cons rfl (Sub.cons rfl (Sub.cons rfl (Sub.cons rfl (Sub.cons rfl (Sub.cons rfl (Sub.cons rfl (Sub.cons rfl (Sub.nil _)))))))))) ⟨k + 1, _, o, rfl, by omega, rfl, hS, hPl2, hP2⟩
  simp only [decide_eq_false_iff_not] at h77
  obtain rfl : k = l.length := by omega
  refine wc_exit ?_
  repeat first | refine then_x ?_ | refine round_x ?_ | refine cut_x ?_ | refine out_x' (by decide) ?_
  refine out_x ?_
  refine then_n ?_
  repeat refine wc_seq ?_
  refine wc_region ?_
  refine w_val rfl rfl (op_pure rfl) ?_
  refine w_val rfl rfl (op_len rfl rfl rfl rfl rfl (hS.row 4 rfl).slenF) ?_
  refine ws_mk (n := (tI (oldN l l.length)).length) hS rfl rfl rfl rfl rfl rfl rfl rfl rfl (by decide) rfl (by simp only [maxBytes]; omega) (by omega) ?_
  rintro xv z hS hne hk
  have hS : SH s [rowC ov 2 ((tnd l).map inC), rowC rv 1 (L.map bC), rowC tv 1 (TT.map bC), rowC pv 1 (Pl.map iC), rowC o 1 ((tI (oldN l l.length)).map iC), rowC xv 2 ((List.replicate (tI (oldN l l.length)).length (⟨0, 0⟩ : InstrL)).map inC)] z := by rw [← rep_inC]; exact hS.sel [0, 1, 2, 3, 4, 5] rfl (by decide)
  have hK := hS.K
  refine w_val rfl rfl (op_pure rfl) ?_
  refine w_nil ?_
  refine then_n ?_
  repeat refine wc_seq ?_
  refine wc_region ?_
  refine w_val rfl rfl (op_pure rfl) ?_
  refine w_val rfl rfl (op_len rfl rfl rfl rfl rfl (hS.row 4 rfl).slenF) ?_
  refine w_val rfl rfl (op_pure rfl) ?_
  refine w_nil ?_
  refine then_n ?_
  repeat refine wc_seq ?_
  refine wc_block ?_
  refine wc_loop_at (fun jj m z => ∃ (k : Nat) (X : List InstrL), jj = (tI (oldN l l.length)).length - k ∧ k ≤ (tI (oldN l l.length)).length ∧ m = [(4, ov), (5, .fn 56 []), (12, pv), (13, o), (16, xv), (109, o), (110, .int .i64 ((tI (oldN l l.length)).length : Nat)), (111, .int .i64 (k : Nat))] ∧ SH s [rowC ov 2 ((tnd l).map inC), rowC rv 1 (L.map bC), rowC tv 1 (TT.map bC), rowC pv 1 (Pl.map iC), rowC o 1 ((tI (oldN l l.length)).map iC), rowC xv 2 (X.map inC)] z ∧ X.length = (tI (oldN l l.length)).length ∧ ∀ c, c < k → X[c]? = (codeL l)[c]?) (tI (oldN l l.length)).length
    [(4, ov), (5, .fn 56 []), (12, pv), (13, o), (16, xv), (109, o), (110, .int .i64 ((tI (oldN l l.length)).length : Nat)), (111, .int .i64 ((0 : Nat) : Int))] (Sub.cons rfl (Sub.cons rfl (Sub.cons rfl (Sub.cons rfl (Sub.cons rfl (Sub.cons rfl (Sub.cons rfl (Sub.cons rfl (Sub.nil _))))))))) ⟨0, _, by simp, by simp, rfl, hS, by simp, fun c h => by omega⟩ ?_
  clear hS hK
  rintro jj m z ⟨k, X, rfl, hk, rfl, hS, hXl, hX⟩
  have hK := hS.K
  repeat refine wc_seq ?_
  refine wc_region ?_
  refine w_val rfl rfl (op_pure rfl) ?_
  refine w_nil ?_
  refine then_n ?_
  repeat refine wc_seq ?_
  refine wc_condT rfl (fun h112 => ?_) (fun h112 => ?_)
  · simp only [decide_eq_true_eq] at h112
    refine wc_skip ?_
    refine then_n ?_
    repeat refine wc_seq ?_
    refine wc_block ?_
    repeat refine wc_seq ?_
    obtain ⟨a, ha⟩ : ∃ a, (oldN l l.length)[k]? = some a := ⟨_, List.getElem?_eq_getElem (by rw [← tI_len]; omega)⟩
    have hta := tI_get ha
    have hal := (oldN_mem (List.mem_of_getElem? ha)).1
    obtain ⟨y, hy⟩ : ∃ y, (tnd l)[a]? = some y := ⟨_, List.getElem?_eq_getElem (by rw [tnd_len]; omega)⟩
    have hck : (codeL l)[k]? = some (finI l y) := by unfold codeL; rw [List.getElem?_map, ha, Option.map_some, hy, Option.getD_some]
    refine wc_region ?_
    refine w_val rfl rfl (op_pure rfl) ?_
    refine w_val rfl rfl (op_idxF rfl rfl (natA_cast _ _) rfl rfl rfl rfl (hS.row 4 rfl) (by omega)) ?_
    refine w_val rfl rfl (op_load rfl rfl (Row.mk_pt (hS.row 4 rfl) (by assumption)) rfl) ?_
    refine w_val rfl rfl (op_pure rfl) ?_
    refine w_val rfl rfl (op_pure rfl) ?_
    refine w_nil ?_
    refine then_n ?_
    repeat refine wc_seq ?_
    refine wc_region ?_
    refine w_val rfl rfl (op_pure rfl) ?_
    refine w_val rfl rfl (op_pure rfl) ?_
    refine w_val rfl rfl (op_idxF rfl rfl (natA_cast _ _) rfl rfl rfl rfl (hS.row 0 rfl) (by omega)) ?_
    refine w_val rfl rfl (op_load rfl rfl (Row.mk_pt (hS.row 0 rfl) (by assumption)) rfl) ?_
    refine ws_alloc hS rfl rfl rfl rfl ?_
    rintro p6 z hS hk
    have hS : SH _ [_, _, _, _, _, _, _] z := hS
    have hK := hS.K
    refine ws_store 6 hS rfl rfl rfl rfl rfl rfl (by rfl) (Nat.le_of_ble_eq_true rfl) ?_
    rintro z hS
    have hS : SH _ [_, _, _, _, _, _, _] z := hS
    have hK := hS.K
    refine w_nil ?_
    refine then_n ?_
    repeat refine wc_seq ?_
    refine wc_region ?_
    refine w_val rfl rfl (op_pure rfl) ?_
    refine w_val rfl rfl (op_loadC 6 hS rfl rfl rfl (Nat.le_of_ble_eq_true rfl) rfl) ?_
    refine w_call rfl rfl (op_call rfl rfl rfl rfl) (branch_ok hK.ok) ?_
    rintro _ z ⟨hk2, rfl⟩
    have hS := hS.mov hk2
    have hK := hS.K
    refine w_nil ?_
    refine then_n ?_
    repeat refine wc_seq ?_
    refine wc_condT rfl (fun h122 => ?_) (fun h122 => ?_)
    · obtain ⟨hy0, hyn⟩ := tnd_in hR (List.mem_of_getElem? hy) h122
      obtain ⟨yo, ya⟩ := y
      obtain ⟨b, hb⟩ : ∃ b : Nat, ya = b := ⟨ya.toNat, by simp only at hy0; omega⟩
      subst hb
      have hbl : b < l.length := by simp only at hyn; omega
      have hPb := hP b hbl
      have hfi : finI l ⟨yo, (b : Int)⟩ = ⟨yo, (place l b : Int)⟩ := by unfold finI; rw [if_pos h122]; simp only; rw [Int.toNat_natCast]
      refine wc_region ?_
      refine w_val rfl rfl (op_pure rfl) ?_
      refine w_val rfl rfl (op_fldP rfl rfl rfl rfl (by decide)) ?_
      refine w_val rfl rfl (op_loadC 6 hS rfl rfl rfl (Nat.le_of_ble_eq_true rfl) rfl) ?_
      refine w_val rfl rfl (op_idxF rfl rfl (natA_cast _ _) rfl rfl rfl rfl (hS.row 3 rfl) (by omega)) ?_
      refine w_val rfl rfl (op_load rfl rfl (Row.mk_pt (hS.row 3 rfl) (by assumption)) rfl) ?_
      refine w_val rfl rfl (op_fldP rfl rfl rfl rfl (by decide)) ?_
      refine ws_storeL 6 hS rfl rfl rfl rfl rfl rfl (by rfl) (Nat.le_of_ble_eq_true rfl) ?_
      rintro z hS
      have hS : SH _ [_, _, _, _, _, _, _] z := hS
      have hK := hS.K
      refine w_nil ?_
      refine then_n ?_
      refine wc_region ?_
      refine w_val rfl rfl (op_pure rfl) ?_
      refine w_val rfl rfl (op_pure rfl) ?_
      refine w_val rfl rfl (op_loadC 6 hS rfl rfl rfl (Nat.le_of_ble_eq_true rfl) rfl) ?_
      refine w_val rfl rfl (op_idxF rfl rfl (natA_cast _ _) rfl rfl rfl rfl (hS.row 5 rfl) (by omega)) ?_
      refine ws_storeE 5 hS rfl rfl rfl rfl rfl rfl rfl (by rfl) (by (simp; omega)) ?_
      rintro z hS
      have hS : SH _ [_, _, _, _, _, _, _] z := hS
      have hK := hS.K
      refine w_nil ?_
      refine out_n ?_
      refine then_n ?_
      refine wc_region ?_
      refine w_val rfl rfl (op_add rfl rfl (by unfold In64; omega)) ?_
      refine w_val rfl rfl (op_pure rfl) ?_
      refine w_nil ?_
      have hS : SH s [rowC ov 2 ((tnd l).map inC), rowC rv 1 (L.map bC), rowC tv 1 (TT.map bC), rowC pv 1 (Pl.map iC), rowC o 1 ((tI (oldN l l.length)).map iC), rowC xv 2 ((X.set k ⟨yo, (place l b : Int)⟩).map inC)] z := by
        rw [List.map_set]; exact hS.sel [0, 1, 2, 3, 4, 5] rfl (by decide)
      exact round_n _ _ (by omega) (Sub.cons rfl (Sub.cons rfl (Sub.cons rfl (Sub.cons rfl (Sub.cons rfl (Sub.cons rfl (Sub.cons rfl (Sub.cons rfl (Sub.nil _))))))))) ⟨k + 1, _, rfl, by omega, rfl, hS, by rw [List.length_set]; exact hXl, fun c hc => by
        rw [List.getElem?_set]
        by_cases e : k = c
        · subst e; rw [if_pos rfl, if_pos (by omega), hck, hfi]
        · rw [if_neg e]; exact hX c (by omega)⟩
    have hfi : finI l y = y := by unfold finI; rw [if_neg (by rw [h122]; decide)]
    refine wc_skip ?_
    refine then_n ?_
    refine wc_region ?_
    refine w_val rfl rfl (op_pure rfl) ?_
    refine w_val rfl rfl (op_pure rfl) ?_
    refine w_val rfl rfl (op_loadC 6 hS rfl rfl rfl (Nat.le_of_ble_eq_true rfl) rfl) ?_
    refine w_val rfl rfl (op_idxF rfl rfl (natA_cast _ _) rfl rfl rfl rfl (hS.row 5 rfl) (by omega)) ?_
    refine ws_storeE 5 hS rfl rfl rfl rfl rfl rfl rfl (by rfl) (by (simp; omega)) ?_
    rintro z hS
    have hS : SH _ [_, _, _, _, _, _, _] z := hS
    have hK := hS.K
    refine w_nil ?_
    refine out_n ?_
    refine then_n ?_
    refine wc_region ?_
    refine w_val rfl rfl (op_add rfl rfl (by unfold In64; omega)) ?_
    refine w_val rfl rfl (op_pure rfl) ?_
    refine w_nil ?_
    have hS : SH s [rowC ov 2 ((tnd l).map inC), rowC rv 1 (L.map bC), rowC tv 1 (TT.map bC), rowC pv 1 (Pl.map iC), rowC o 1 ((tI (oldN l l.length)).map iC), rowC xv 2 ((X.set k y).map inC)] z := by
      rw [List.map_set]; exact hS.sel [0, 1, 2, 3, 4, 5] rfl (by decide)
    exact round_n _ _ (by omega) (Sub.cons rfl (Sub.cons rfl (Sub.cons rfl (Sub.cons rfl (Sub.cons rfl (Sub.cons rfl (Sub.cons rfl (Sub.cons rfl (Sub.nil _))))))))) ⟨k + 1, _, rfl, by omega, rfl, hS, by rw [List.length_set]; exact hXl, fun c hc => by
      rw [List.getElem?_set]
      by_cases e : k = c
      · subst e; rw [if_pos rfl, if_pos (by omega), hck, hfi]
      · rw [if_neg e]; exact hX c (by omega)⟩
  simp only [decide_eq_false_iff_not] at h112
  obtain rfl : k = (tI (oldN l l.length)).length := by omega
  have hXe : X = codeL l := by
    refine List.ext_getElem? fun c => ?_
    by_cases hc : c < (tI (oldN l l.length)).length
    · exact hX c hc
    · rw [List.getElem?_eq_none (by omega), List.getElem?_eq_none (by unfold codeL; rw [List.length_map, ← tI_len]; omega)]
  rw [hXe] at hS
  refine wc_exit ?_
  repeat first | refine then_x ?_ | refine round_x ?_ | refine cut_x ?_ | refine out_x' (by decide) ?_
  refine out_x ?_
  refine then_n ?_
  repeat refine wc_seq ?_
  refine wc_region ?_
  refine w_val rfl rfl (op_pure rfl) ?_
  refine w_val rfl rfl (op_pure rfl) ?_
  refine w_call rfl rfl (op_call rfl rfl rfl rfl) (clipInts_ok (hS.row 4 rfl) (hS.nls 4 rfl)) ?_
  rintro _ _ ⟨rfl, rfl⟩
  refine w_val rfl rfl (op_pure rfl) ?_
  refine w_val rfl rfl (op_pure rfl) ?_
  refine w_nil ?_
  refine then_n ?_
  refine wc_ret ?_
  repeat first | refine then_r ?_ | refine out_r ?_ | refine round_r ?_ | refine cut_r ?_ | refine sc_r ?_
  exact ⟨_, rfl, hK, xv, clipA o, rfl, by unfold codeO; rw [if_pos hR]; exact hS.row 5 rfl, by unfold oldO; rw [if_pos hR]; exact (hS.row 4 rfl).clip, (fun g hg => (hS.bd 5 rfl g hg).1), (fun g hg => (hS.bd 4 rfl g (show g ∈ o.gs by rw [← clipA_gs]; exact hg)).1),
    (fun g hg h => hS.dis 5 4 _ _ (by decide) rfl rfl g hg (show g ∈ o.gs by rw [← clipA_gs]; exact h)), hS.nls 5 rfl, fun e => by rw [clipA_gs] at e; rw [hS.nls 4 rfl e]; rfl⟩
theorem trimCode_ok' {s : St} {v : AV} {l : List InstrL} (hok : s.Ok) (hv : Row s.h 2 v (l.map inC)) (hn : v.gs = [] → v = .nils) (hl : l.length ≤ 2097152) :
    CallS Try.prog Tt Kt 18 [v] s (fun r s' => Keep [] s s' ∧ ∃ x o, r = .tup [x, o] ∧ Row s'.h 2 x ((codeO l).map inC) ∧ Row s'.h 1 o ((oldO l).map iC) ∧ (∀ g ∈ x.gs, s.ctr ≤ g) ∧ (∀ g ∈ o.gs, s.ctr ≤ g) ∧ Dis x o ∧ (x.gs = [] → x = .nils) ∧ (o.gs = [] → o = .nils)) :=
  trimCode_all hok hv (fun xs e => by subst e; cases hn rfl) hl
theorem oldO_len' (l : List InstrL) : (oldO l).length = (codeO l).length := by
  unfold oldO codeO
  split
  · rw [tI_len]; exact (codeL_len l).symm
  · rfl
theorem codeO_right {l : List InstrL} (h : ¬ ((codeO l).length : Int) = 0) : rightC l = true := by
  cases e : rightC l with
  | true => rfl
  | false => exact (h (by unfold codeO; rw [if_neg (by rw [e]; decide)]; rfl)).elim
theorem codeO_is {l : List InstrL} (hr : rightC l = true) : codeO l = codeL l := by unfold codeO; rw [if_pos hr]; rfl
theorem mk_true {l : List InstrL} {L : List Bool} (hr : rightC l = true) (hM : MkN (codeO l) 0 L) {k : Nat} (hk : k < (codeO l).length) : L[k]? = some true := by
  refine (hM.2 k).2 ?_
  rw [codeO_is hr] at hk ⊢
  have := rea_iff.1 (codeL_reaB hr hk)
  rwa [codeL_tnd hr] at this
theorem old_prev {l : List InstrL} (hr : rightC l = true) {k a : Nat} (hk : (oldO l)[k]? = some (a : Int)) (h0 : (k : Int) > 0) : ∃ b : Nat, (oldO l)[((k : Int) - 1).toNat]? = some (b : Int) ∧ b < a := by
  have eo : oldO l = tI (oldN l l.length) := by unfold oldO; rw [if_pos hr]
  rw [eo] at hk ⊢
  have hkl := (List.getElem?_eq_some_iff.1 hk).1
  rw [tI_len] at hkl
  have e1 := List.getElem?_eq_getElem hkl
  rw [tI_get e1] at hk
  have hka : (oldN l l.length)[k] = a := by have := Option.some.inj hk; omega
  have e2 := List.getElem?_eq_getElem (l := oldN l l.length) (i := ((k : Int) - 1).toNat) (by omega)
  exact ⟨_, tI_get e2, by rw [← hka]; exact oldN_rises (by omega) e2 e1⟩
set_option maxRecDepth 10000 in
set_option maxHeartbeats 8000000 in
theorem trimOnce_run {s : St} {v : AV} {l : List InstrL} (hok : s.Ok) (hv : Row s.h 2 v (l.map inC)) (hg : ∀ xs, v = .ro true xs → xs = []) (hl : l.length ≤ 2097152) :
    CallS Try.prog Tt Kt 5 [v] s (fun r _ => r = .bool true) := by
  refine call_of (fn := Try.f5) (nt := 196) Try.func5 rfl rfl rfl ?_
  repeat refine wc_seq ?_
  have hS := SH.start hok
  have hK := hS.K
  refine wc_region ?_
  refine w_val rfl rfl (op_pure rfl) ?_
  refine w_nil ?_
  refine then_n ?_
  repeat refine wc_seq ?_
  refine wc_region ?_
  refine w_val rfl rfl (op_pure rfl) ?_
  refine w_call rfl rfl (op_call rfl rfl rfl rfl) (trimCode_all hK.ok hv hg (by omega)) ?_
  rintro _ z1 ⟨hk, x1, o1, rfl, hx, ho, hbx, hbo, hdd, hnx, hno⟩
  have hS := hS.add2 hk (rowC x1 2 ((codeO l).map inC)) (rowC o1 1 ((oldO l).map iC)) ⟨hx, hnx⟩ ⟨ho, hno⟩ (fun g hg => ⟨hbx g hg, hx.lt hk.ok g hg⟩) (fun g hg => ⟨hbo g hg, ho.lt hk.ok g hg⟩) (fun g hg hg' => hdd g hg hg')
  clear hx ho hbx hbo hdd hnx hno
  have hS : SH _ [_, _] z1 := hS
  have hK := hS.K
  refine w_val rfl rfl (op_pure rfl) ?_
  refine w_val rfl rfl (op_pure rfl) ?_
  refine w_val rfl rfl (op_pure rfl) ?_
  refine w_val rfl rfl (op_pure rfl) ?_
  refine w_val rfl rfl (op_pure rfl) ?_
  refine w_nil ?_
  refine then_n ?_
  repeat refine wc_seq ?_
  have hx1 := hS.row 0 rfl
  have ho1 := hS.row 1 rfl
  have hcl := codeO_len l
  have hol := oldO_len' l
  refine wc_region ?_
  refine w_val rfl rfl (op_pure rfl) ?_
  refine w_val rfl rfl (op_len rfl rfl rfl rfl rfl hx1.slenF) ?_
  refine w_val rfl rfl (op_pure rfl) ?_
  refine w_val rfl rfl (op_len rfl rfl rfl rfl rfl hv.slenF) ?_
  refine w_val rfl rfl (op_int (v := .bool false) rfl rfl (by decide) (by simp [intA] <;> omega)) ?_
  refine w_val rfl rfl (op_pure rfl) ?_
  refine w_val rfl rfl (op_pure rfl) ?_
  refine w_val rfl rfl (op_len rfl rfl rfl rfl rfl ho1.slenF) ?_
  refine w_val rfl rfl (op_pure rfl) ?_
  refine w_val rfl rfl (op_len rfl rfl rfl rfl rfl hx1.slenF) ?_
  refine w_val rfl rfl (op_int (v := .bool false) rfl rfl (by decide) (by simp [intA] <;> omega)) ?_
  refine w_val rfl rfl (op_pure rfl) ?_
  refine w_val rfl rfl (op_pure rfl) ?_
  refine w_call rfl rfl (op_call rfl rfl rfl rfl) (call_known (b := true) (Q := fun r s' => r = .bool true ∧ s' = _) rfl ⟨rfl, rfl⟩) ?_
  rintro _ _ ⟨rfl, rfl⟩
  refine w_val rfl rfl (op_pure rfl) ?_
  refine w_val rfl rfl (op_pure rfl) ?_
  refine w_nil ?_
  refine then_n ?_
  repeat refine wc_seq ?_
  refine wc_cond_f rfl ?_
  refine wc_skip ?_
  refine then_n ?_
  repeat refine wc_seq ?_
  refine wc_region ?_
  refine w_val rfl rfl (op_pure rfl) ?_
  refine w_val rfl rfl (op_len rfl rfl rfl rfl rfl hx1.slenF) ?_
  refine w_val rfl rfl (op_pure rfl) ?_
  refine w_nil ?_
  refine then_n ?_
  repeat refine wc_seq ?_
  refine wc_condT rfl (fun h33 => ?_) (fun h33 => ?_)
  · skip
    repeat refine wc_seq ?_
    refine wc_region ?_
    refine w_val rfl rfl (op_pure rfl) ?_
    refine w_nil ?_
    refine then_n ?_
    refine wc_ret ?_
    repeat first | refine then_r ?_ | refine out_r ?_ | refine round_r ?_ | refine cut_r ?_ | refine sc_r ?_
    exact ⟨_, rfl, rfl⟩
  simp only [beq_eq_false_iff_ne, ne_eq] at h33
  have hRi := codeO_right h33
  refine wc_skip ?_
  refine then_n ?_
  repeat refine wc_seq ?_
  refine wc_region ?_
  refine w_val rfl rfl (op_pure rfl) ?_
  refine w_val rfl rfl (op_pure (build48 hx1.leaf)) ?_
  refine w_call rfl rfl (op_call rfl rfl rfl rfl) (reach_ok hK.ok (hS.row 0 rfl) (by omega) (by simp only [List.all_cons, List.all_nil, (hS.row 0 rfl).leaf]; rfl)) ?_
  rintro rv z1 ⟨hk, L, hM, hr, hb, hn⟩
  have hS := hS.add hk (rowC rv 1 (L.map bC)) ⟨hr, hn⟩ (fun g hg => ⟨hb g hg, hr.lt hk.ok g hg⟩)
  have hS : SH _ [_, _, _] z1 := hS
  have hK := hS.K
  have hLl : L.length = (codeO l).length + 1 := hM.1
  clear hr hb hn
  refine w_val rfl rfl (op_pure rfl) ?_
  refine w_nil ?_
  refine then_n ?_
  repeat refine wc_seq ?_
  refine wc_region ?_
  refine w_val rfl rfl (op_pure rfl) ?_
  refine w_nil ?_
  refine then_n ?_
  repeat refine wc_seq ?_
  refine wc_block ?_
  refine wc_loop_at (fun jj m z => ∃ (k : Nat), jj = (codeO l).length - k ∧ k ≤ (codeO l).length ∧ m = [(0, v), (3, x1), (4, o1), (5, rv), (6, .int .i64 (k : Nat))] ∧ SH s [rowC x1 2 ((codeO l).map inC), rowC o1 1 ((oldO l).map iC), rowC rv 1 (L.map bC)] z) (codeO l).length
    [(0, v), (3, x1), (4, o1), (5, rv), (6, .int .i64 ((0 : Nat) : Int))] (Sub.cons rfl (Sub.cons rfl (Sub.cons rfl (Sub.cons rfl (Sub.cons rfl (Sub.nil _)))))) ⟨0, by simp, by simp, rfl, hS⟩ ?_
  clear hS hK hx1 ho1
  rintro jj m z ⟨k, rfl, hk, rfl, hS⟩
  have hK := hS.K
  have hx1 := hS.row 0 rfl
  have ho1 := hS.row 1 rfl
  have hrv := hS.row 2 rfl
  have hvz := hv.keep0 hK
  repeat refine wc_seq ?_
  refine wc_region ?_
  refine w_val rfl rfl (op_pure rfl) ?_
  refine w_val rfl rfl (op_pure rfl) ?_
  refine w_val rfl rfl (op_len rfl rfl rfl rfl rfl hx1.slenF) ?_
  refine w_val rfl rfl (op_pure rfl) ?_
  refine w_nil ?_
  refine then_n ?_
  repeat refine wc_seq ?_
  refine wc_condT rfl (fun h40 => ?_) (fun h40 => ?_)
  · simp only [decide_eq_true_eq] at h40
    obtain ⟨x, hx⟩ : ∃ x, (codeO l)[k]? = some x := ⟨_, List.getElem?_eq_getElem (by omega)⟩
    obtain ⟨a, y, ha, hy, hre, hop, hcm, hbr, hnb⟩ := once_at hRi hx
    have hLk := mk_true hRi hM (k := k) (by omega)
    have hal := (List.getElem?_eq_some_iff.1 hy).1
    clear hre
    refine wc_skip ?_
    refine then_n ?_
    repeat refine wc_seq ?_
    refine wc_block ?_
    repeat refine wc_seq ?_
    refine wc_cut (fun m' z' => Sub [(0, v), (3, x1), (4, o1), (5, rv), (6, .int .i64 (k : Nat)), (110, .bool false)] m' ∧ SH s [rowC x1 2 ((codeO l).map inC), rowC o1 1 ((oldO l).map iC), rowC rv 1 (L.map bC)] z') ?_ ?_
    · skip
      have hR := Keep.refl (s := z) (hK.ok)
      refine wc_draw (Old z []) (by kernel_rfl) rfl ?_
      refine wo_val (fun _ => rfl) rfl rfl (op_pure rfl) ?_
      refine wo_val (fun _ => rfl) rfl rfl (op_pure rfl) ?_
      refine wo_val (fun _ => rfl) rfl rfl (op_idxF rfl rfl (natA_cast _ _) rfl rfl rfl rfl (Row.bare hrv) (by omega)) ?_
      refine wo_load (v := .bool true) hR rfl rfl (Row.mk_pt hrv hLk) rfl (fun _ _ h => by cases h) rfl rfl ?_
      refine wo_val (fun _ => rfl) rfl rfl (op_pure rfl) ?_
      refine wo_val (fun _ => rfl) rfl rfl (op_pure rfl) ?_
      refine wo_val (fun _ => rfl) rfl rfl (op_pure rfl) ?_
      refine wo_val (fun _ => rfl) rfl rfl (op_pure rfl) ?_
      refine wo_val (fun _ => rfl) rfl rfl (op_idxF rfl rfl (natA_cast _ _) rfl rfl rfl rfl (Row.bare ho1) (by omega)) ?_
      refine wo_load hR rfl rfl (Row.mk_pt ho1 ha) rfl (fun _ _ h => by cases h) rfl rfl ?_
      refine wo_val (fun _ => rfl) rfl rfl (op_int (v := .bool false) rfl rfl (by decide) (by simp [intA] <;> omega)) ?_
      refine wo_val (fun _ => rfl) rfl rfl (op_pure rfl) ?_
      refine wo_val (fun _ => rfl) rfl rfl (op_pure rfl) ?_
      refine wo_val (fun _ => rfl) rfl rfl (op_pure rfl) ?_
      refine wo_val (fun _ => rfl) rfl rfl (op_pure rfl) ?_
      refine wo_val (fun _ => rfl) rfl rfl (op_idxF rfl rfl (natA_cast _ _) rfl rfl rfl rfl (Row.bare ho1) (by omega)) ?_
      refine wo_load hR rfl rfl (Row.mk_pt ho1 ha) rfl (fun _ _ h => by cases h) rfl rfl ?_
      refine wo_val (fun _ => rfl) rfl rfl (op_pure rfl) ?_
      refine wo_val (fun _ => rfl) rfl rfl (op_len rfl rfl rfl rfl rfl hvz.slenF) ?_
      refine wo_val (fun _ => rfl) rfl rfl (op_int (v := .bool false) rfl rfl (by decide) (by simp [intA] <;> omega)) ?_
      refine wo_val (fun _ => rfl) rfl rfl (op_pure rfl) ?_
      refine wo_val (fun _ => rfl) rfl rfl (op_pure rfl) ?_
      refine wo_val (fun _ => rfl) rfl rfl (op_pure rfl) ?_
      refine wo_val (fun _ => rfl) rfl rfl (op_pure rfl) ?_
      refine wo_val (fun _ => rfl) rfl rfl (op_pure rfl) ?_
      refine wo_split (i := 67) rfl (fun h67 => ?_) (fun h67 => ?_)
      · simp only [decide_eq_true_eq, gt_iff_lt] at h67
        obtain ⟨b, hb, hba⟩ := old_prev hRi ha (by omega)
        refine wo_val (fun _ => rfl) rfl rfl (op_pure rfl) ?_
        refine wo_val (fun _ => rfl) rfl rfl (op_pure rfl) ?_
        refine wo_val (fun _ => rfl) rfl rfl (op_idxF rfl rfl (natA_cast _ _) rfl rfl rfl rfl (Row.bare ho1) (by omega)) ?_
        refine wo_load hR rfl rfl (Row.mk_pt ho1 ha) rfl (fun _ _ h => by cases h) rfl rfl ?_
        refine wo_val (fun _ => rfl) rfl rfl (op_pure rfl) ?_
        refine wo_val (fun _ => rfl) rfl rfl (op_pure rfl) ?_
        refine wo_val (fun _ => rfl) rfl rfl (op_sub rfl rfl (by unfold In64; omega)) ?_
        refine wo_val (fun _ => rfl) rfl rfl (op_idxF rfl rfl (natA_toNat (by omega)) rfl rfl rfl rfl (Row.bare ho1) (by omega)) ?_
        refine wo_load hR rfl rfl (Row.mk_pt ho1 hb) rfl (fun _ _ h => by cases h) rfl rfl ?_
        refine wo_val (fun _ => rfl) rfl rfl (op_int (v := .bool false) rfl rfl (by decide) (by simp [intA] <;> omega)) ?_
        refine wo_val (fun _ => rfl) rfl rfl (op_pure rfl) ?_
        refine wo_val (fun _ => rfl) rfl rfl (op_pure rfl) ?_
        refine wo_val (fun _ => rfl) rfl rfl (op_pure rfl) ?_
        refine wo_val (fun _ => rfl) rfl rfl (op_pure rfl) ?_
        refine wo_val (fun _ => rfl) rfl rfl (op_pure rfl) ?_
        refine wo_val (fun _ => rfl) rfl rfl (op_idxF rfl rfl (natA_cast _ _) rfl rfl rfl rfl (Row.bare hx1) (by omega)) ?_
        refine wo_val (fun _ => rfl) rfl rfl (op_fld rfl rfl rfl rfl (by decide) (Pt.bare (Row.mk_pt hx1 hx)) (Nat.le_of_ble_eq_true rfl)) ?_
        refine wo_load hR rfl rfl ((Row.mk_pt hx1 hx).fld _ (Nat.le_of_ble_eq_true rfl)) rfl (fun _ _ h => by cases h) rfl rfl ?_
        refine wo_val (fun _ => rfl) rfl rfl (op_pure rfl) ?_
        refine wo_val (fun _ => rfl) rfl rfl (op_pure rfl) ?_
        refine wo_val (fun _ => rfl) rfl rfl (op_pure rfl) ?_
        refine wo_val (fun _ => rfl) rfl rfl (op_idxF rfl rfl (natA_cast _ _) rfl rfl rfl rfl (Row.bare ho1) (by omega)) ?_
        refine wo_load hR rfl rfl (Row.mk_pt ho1 ha) rfl (fun _ _ h => by cases h) rfl rfl ?_
        refine wo_val (fun _ => rfl) rfl rfl (op_idxF rfl rfl (natA_cast _ _) rfl rfl rfl rfl (Row.bare hvz) (by omega)) ?_
        refine wo_val (fun _ => rfl) rfl rfl (op_fld rfl rfl rfl rfl (by decide) (Pt.bare (Row.mk_pt hvz hy)) (Nat.le_of_ble_eq_true rfl)) ?_
        refine wo_load hR rfl rfl ((Row.mk_pt hvz hy).fld _ (Nat.le_of_ble_eq_true rfl)) rfl (fun _ _ h => by cases h) rfl rfl ?_
        refine wo_val (fun _ => rfl) rfl rfl (op_int (v := .bool false) rfl rfl (by decide) (by simp [intA, hop])) ?_
        refine wo_val (fun _ => rfl) rfl rfl (op_pure rfl) ?_
        refine wo_val (fun _ => rfl) rfl rfl (op_pure rfl) ?_
        refine wo_val (fun _ => rfl) rfl rfl (op_pure rfl) ?_
        refine wo_val (fun _ => rfl) rfl rfl (op_pure rfl) ?_
        refine wo_val (fun _ => rfl) rfl rfl (op_idxF rfl rfl (natA_cast _ _) rfl rfl rfl rfl (Row.bare hx1) (by omega)) ?_
        refine wo_val (fun _ => rfl) rfl rfl (op_fld rfl rfl rfl rfl (by decide) (Pt.bare (Row.mk_pt hx1 hx)) (Nat.le_of_ble_eq_true rfl)) ?_
        refine wo_load hR rfl rfl ((Row.mk_pt hx1 hx).fld _ (Nat.le_of_ble_eq_true rfl)) rfl (fun _ _ h => by cases h) rfl rfl ?_
        refine wo_val (fun _ => rfl) rfl rfl (op_pure rfl) ?_
        refine wo_val (fun _ => rfl) rfl rfl (op_pure rfl) ?_
        refine wo_split (i := 103) rfl (fun h103 => ?_) (fun h103 => ?_)
        · simp only [beq_iff_eq] at h103
          refine wo_val (fun _ => rfl) rfl rfl (op_pure rfl) ?_
          refine wo_val (fun _ => rfl) rfl rfl (op_pure rfl) ?_
          refine wo_call hR rfl rfl (fun _ => rfl) (op_call rfl rfl rfl rfl) (comes_all_ok hR.ok (Row.bare (hx1.keep0 hR)) (by omega)) (fun _ _ h => h.1) ?_
          rintro _ sC ⟨hk2, rfl⟩ hRC
          have hS := hS.mov hk2.joined
          have hK := hS.K
          generalize sC.join z = z at *
          refine wo_val (fun _ => rfl) rfl rfl (op_pure rfl) ?_
          refine wo_val (fun _ => rfl) rfl rfl (op_int (v := .bool false) rfl rfl (by decide) (by simp [intA, hcm h103])) ?_
          refine wo_val (fun _ => rfl) rfl rfl (op_pure rfl) ?_
          refine wo_val (fun _ => rfl) rfl rfl (op_pure rfl) ?_
          refine wd_nil ?_
          refine cut_n ?_
          exact ⟨Sub.cons rfl (Sub.cons rfl (Sub.cons rfl (Sub.cons rfl (Sub.cons rfl (Sub.cons rfl (Sub.nil _)))))), hS⟩
        skip
        refine wo_off rfl rfl ?_
        refine wo_off rfl rfl ?_
        refine wo_off rfl rfl ?_
        refine wo_off rfl rfl ?_
        refine wo_off rfl rfl ?_
        refine wo_val (fun _ => rfl) rfl rfl (op_pure rfl) ?_
        refine wo_val (fun _ => rfl) rfl rfl (op_pure rfl) ?_
        refine wd_nil ?_
        refine cut_n ?_
        exact ⟨Sub.cons rfl (Sub.cons rfl (Sub.cons rfl (Sub.cons rfl (Sub.cons rfl (Sub.cons rfl (Sub.nil _)))))), hS⟩
      skip
      refine wo_off rfl rfl ?_
      refine wo_off rfl rfl ?_
      refine wo_off rfl rfl ?_
      refine wo_off rfl rfl ?_
      refine wo_off rfl rfl ?_
      refine wo_off rfl rfl ?_
      refine wo_off rfl rfl ?_
      refine wo_off rfl rfl ?_
      refine wo_off rfl rfl ?_
      refine wo_off rfl rfl ?_
      refine wo_val (fun _ => rfl) rfl rfl (op_pure rfl) ?_
      refine wo_val (fun _ => rfl) rfl rfl (op_pure rfl) ?_
      refine wo_val (fun _ => rfl) rfl rfl (op_pure rfl) ?_
      refine wo_val (fun _ => rfl) rfl rfl (op_pure rfl) ?_
      refine wo_val (fun _ => rfl) rfl rfl (op_pure rfl) ?_
      refine wo_val (fun _ => rfl) rfl rfl (op_idxF rfl rfl (natA_cast _ _) rfl rfl rfl rfl (Row.bare hx1) (by omega)) ?_
      refine wo_val (fun _ => rfl) rfl rfl (op_fld rfl rfl rfl rfl (by decide) (Pt.bare (Row.mk_pt hx1 hx)) (Nat.le_of_ble_eq_true rfl)) ?_
      refine wo_load hR rfl rfl ((Row.mk_pt hx1 hx).fld _ (Nat.le_of_ble_eq_true rfl)) rfl (fun _ _ h => by cases h) rfl rfl ?_
      refine wo_val (fun _ => rfl) rfl rfl (op_pure rfl) ?_
      refine wo_val (fun _ => rfl) rfl rfl (op_pure rfl) ?_
      refine wo_val (fun _ => rfl) rfl rfl (op_pure rfl) ?_
      refine wo_val (fun _ => rfl) rfl rfl (op_idxF rfl rfl (natA_cast _ _) rfl rfl rfl rfl (Row.bare ho1) (by omega)) ?_
      refine wo_load hR rfl rfl (Row.mk_pt ho1 ha) rfl (fun _ _ h => by cases h) rfl rfl ?_
      refine wo_val (fun _ => rfl) rfl rfl (op_idxF rfl rfl (natA_cast _ _) rfl rfl rfl rfl (Row.bare hvz) (by omega)) ?_
      refine wo_val (fun _ => rfl) rfl rfl (op_fld rfl rfl rfl rfl (by decide) (Pt.bare (Row.mk_pt hvz hy)) (Nat.le_of_ble_eq_true rfl)) ?_
      refine wo_load hR rfl rfl ((Row.mk_pt hvz hy).fld _ (Nat.le_of_ble_eq_true rfl)) rfl (fun _ _ h => by cases h) rfl rfl ?_
      refine wo_val (fun _ => rfl) rfl rfl (op_int (v := .bool false) rfl rfl (by decide) (by simp [intA, hop])) ?_
      refine wo_val (fun _ => rfl) rfl rfl (op_pure rfl) ?_
      refine wo_val (fun _ => rfl) rfl rfl (op_pure rfl) ?_
      refine wo_val (fun _ => rfl) rfl rfl (op_pure rfl) ?_
      refine wo_val (fun _ => rfl) rfl rfl (op_pure rfl) ?_
      refine wo_val (fun _ => rfl) rfl rfl (op_idxF rfl rfl (natA_cast _ _) rfl rfl rfl rfl (Row.bare hx1) (by omega)) ?_
      refine wo_val (fun _ => rfl) rfl rfl (op_fld rfl rfl rfl rfl (by decide) (Pt.bare (Row.mk_pt hx1 hx)) (Nat.le_of_ble_eq_true rfl)) ?_
      refine wo_load hR rfl rfl ((Row.mk_pt hx1 hx).fld _ (Nat.le_of_ble_eq_true rfl)) rfl (fun _ _ h => by cases h) rfl rfl ?_
      refine wo_val (fun _ => rfl) rfl rfl (op_pure rfl) ?_
      refine wo_val (fun _ => rfl) rfl rfl (op_pure rfl) ?_
      refine wo_split (i := 103) rfl (fun h103 => ?_) (fun h103 => ?_)
      · simp only [beq_iff_eq] at h103
        refine wo_val (fun _ => rfl) rfl rfl (op_pure rfl) ?_
        refine wo_val (fun _ => rfl) rfl rfl (op_pure rfl) ?_
        refine wo_call hR rfl rfl (fun _ => rfl) (op_call rfl rfl rfl rfl) (comes_all_ok hR.ok (Row.bare (hx1.keep0 hR)) (by omega)) (fun _ _ h => h.1) ?_
        rintro _ sC ⟨hk2, rfl⟩ hRC
        have hS := hS.mov hk2.joined
        have hK := hS.K
        generalize sC.join z = z at *
        refine wo_val (fun _ => rfl) rfl rfl (op_pure rfl) ?_
        refine wo_val (fun _ => rfl) rfl rfl (op_int (v := .bool false) rfl rfl (by decide) (by simp [intA, hcm h103])) ?_
        refine wo_val (fun _ => rfl) rfl rfl (op_pure rfl) ?_
        refine wo_val (fun _ => rfl) rfl rfl (op_pure rfl) ?_
        refine wd_nil ?_
        refine cut_n ?_
        exact ⟨Sub.cons rfl (Sub.cons rfl (Sub.cons rfl (Sub.cons rfl (Sub.cons rfl (Sub.cons rfl (Sub.nil _)))))), hS⟩
      skip
      refine wo_off rfl rfl ?_
      refine wo_off rfl rfl ?_
      refine wo_off rfl rfl ?_
      refine wo_off rfl rfl ?_
      refine wo_off rfl rfl ?_
      refine wo_val (fun _ => rfl) rfl rfl (op_pure rfl) ?_
      refine wo_val (fun _ => rfl) rfl rfl (op_pure rfl) ?_
      refine wd_nil ?_
      refine cut_n ?_
      exact ⟨Sub.cons rfl (Sub.cons rfl (Sub.cons rfl (Sub.cons rfl (Sub.cons rfl (Sub.cons rfl (Sub.nil _)))))), hS⟩
    clear hS hK hx1 ho1 hrv hvz
    rintro m z ⟨hsub, hS⟩
    have hK := hS.K
    have hx1 := hS.row 0 rfl
    have ho1 := hS.row 1 rfl
    have hvz := hv.keep0 hK
    refine then_n ?_
    refine wc_sub hsub ?_
    clear hsub
    repeat refine wc_seq ?_
    refine wc_condT rfl (fun h110 => ?_) (fun h110 => ?_)
    · cases h110
    clear h110
    refine wc_skip ?_
    refine then_n ?_
    repeat refine wc_seq ?_
    refine wc_region ?_
    refine w_val rfl rfl (op_pure rfl) ?_
    refine w_val rfl rfl (op_pure rfl) ?_
    refine w_val rfl rfl (op_idxF rfl rfl (natA_cast _ _) rfl rfl rfl rfl hx1 (by omega)) ?_
    refine w_val rfl rfl (op_fld rfl rfl rfl rfl (by decide) (Row.mk_pt hx1 hx) (Nat.le_of_ble_eq_true rfl)) ?_
    refine w_val rfl rfl (op_load rfl rfl ((Row.mk_pt hx1 hx).fld _ (Nat.le_of_ble_eq_true rfl)) rfl) ?_
    refine w_val rfl rfl (op_pure rfl) ?_
    refine w_val rfl rfl (op_pure rfl) ?_
    refine w_split (i := 117) rfl (fun h117 => ?_) (fun h117 => ?_)
    · simp only [beq_iff_eq] at h117
      refine w_off rfl rfl ?_
      refine w_off rfl rfl ?_
      refine w_off rfl rfl ?_
      refine w_off rfl rfl ?_
      refine w_off rfl rfl ?_
      refine w_off rfl rfl ?_
      refine w_val rfl rfl (op_pure rfl) ?_
      refine w_nil ?_
      refine then_n ?_
      refine wc_cond_t rfl ?_
      repeat refine wc_seq ?_
      have hbX : branchI x = true := by first | exact branch43 h117 | exact branch44 h124
      obtain ⟨b, o, hxa, hbl, hbo, hco⟩ := hbr hbX
      have hR := Keep.refl (s := z) (hK.ok)
      refine wc_draw (Old z []) (by kernel_rfl) rfl ?_
      refine wo_val (fun _ => rfl) rfl rfl (op_pure rfl) ?_
      refine wo_val (fun _ => rfl) rfl rfl (op_pure rfl) ?_
      refine wo_val (fun _ => rfl) rfl rfl (op_idxF rfl rfl (natA_cast _ _) rfl rfl rfl rfl (Row.bare hx1) (by omega)) ?_
      refine wo_val (fun _ => rfl) rfl rfl (op_fld rfl rfl rfl rfl (by decide) (Pt.bare (Row.mk_pt hx1 hx)) (Nat.le_of_ble_eq_true rfl)) ?_
      refine wo_load hR rfl rfl ((Row.mk_pt hx1 hx).fld _ (Nat.le_of_ble_eq_true rfl)) rfl (fun _ _ h => by cases h) rfl rfl ?_
      refine wo_val (fun _ => rfl) rfl rfl (op_int (v := .bool false) rfl rfl (by decide) (by simp [intA] <;> omega)) ?_
      refine wo_val (fun _ => rfl) rfl rfl (op_pure rfl) ?_
      refine wo_val (fun _ => rfl) rfl rfl (op_pure rfl) ?_
      refine wo_val (fun _ => rfl) rfl rfl (op_pure rfl) ?_
      refine wo_val (fun _ => rfl) rfl rfl (op_idxF rfl rfl (natA_cast _ _) rfl rfl rfl rfl (Row.bare hx1) (by omega)) ?_
      refine wo_val (fun _ => rfl) rfl rfl (op_fld rfl rfl rfl rfl (by decide) (Pt.bare (Row.mk_pt hx1 hx)) (Nat.le_of_ble_eq_true rfl)) ?_
      refine wo_load hR rfl rfl ((Row.mk_pt hx1 hx).fld _ (Nat.le_of_ble_eq_true rfl)) rfl (fun _ _ h => by cases h) rfl rfl ?_
      refine wo_val (fun _ => rfl) rfl rfl (op_pure rfl) ?_
      refine wo_val (fun _ => rfl) rfl rfl (op_len rfl rfl rfl rfl rfl hx1.slenF) ?_
      refine wo_val (fun _ => rfl) rfl rfl (op_int (v := .bool false) rfl rfl (by decide) (by simp [intA] <;> omega)) ?_
      refine wo_val (fun _ => rfl) rfl rfl (op_pure rfl) ?_
      refine wo_val (fun _ => rfl) rfl rfl (op_pure rfl) ?_
      refine wo_val (fun _ => rfl) rfl rfl (op_pure rfl) ?_
      refine wo_val (fun _ => rfl) rfl rfl (op_pure rfl) ?_
      refine wo_val (fun _ => rfl) rfl rfl (op_pure rfl) ?_
      refine wo_val (fun _ => rfl) rfl rfl (op_idxF rfl rfl (natA_cast _ _) rfl rfl rfl rfl (Row.bare hx1) (by omega)) ?_
      refine wo_val (fun _ => rfl) rfl rfl (op_fld rfl rfl rfl rfl (by decide) (Pt.bare (Row.mk_pt hx1 hx)) (Nat.le_of_ble_eq_true rfl)) ?_
      refine wo_load hR rfl rfl ((Row.mk_pt hx1 hx).fld _ (Nat.le_of_ble_eq_true rfl)) rfl (fun _ _ h => by cases h) rfl rfl ?_
      refine wo_val (fun _ => rfl) rfl rfl (op_idxF rfl rfl (by rw [hxa]; exact natA_cast _ _) rfl rfl rfl rfl (Row.bare ho1) (by omega)) ?_
      refine wo_load hR rfl rfl (Row.mk_pt ho1 hbo) rfl (fun _ _ h => by cases h) rfl rfl ?_
      refine wo_val (fun _ => rfl) rfl rfl (op_pure rfl) ?_
      refine wo_val (fun _ => rfl) rfl rfl (op_pure rfl) ?_
      refine wo_val (fun _ => rfl) rfl rfl (op_pure rfl) ?_
      refine wo_val (fun _ => rfl) rfl rfl (op_pure rfl) ?_
      refine wo_val (fun _ => rfl) rfl rfl (op_idxF rfl rfl (natA_cast _ _) rfl rfl rfl rfl (Row.bare ho1) (by omega)) ?_
      refine wo_load hR rfl rfl (Row.mk_pt ho1 ha) rfl (fun _ _ h => by cases h) rfl rfl ?_
      refine wo_val (fun _ => rfl) rfl rfl (op_idxF rfl rfl (natA_cast _ _) rfl rfl rfl rfl (Row.bare hvz) (by omega)) ?_
      refine wo_val (fun _ => rfl) rfl rfl (op_fld rfl rfl rfl rfl (by decide) (Pt.bare (Row.mk_pt hvz hy)) (Nat.le_of_ble_eq_true rfl)) ?_
      refine wo_load hR rfl rfl ((Row.mk_pt hvz hy).fld _ (Nat.le_of_ble_eq_true rfl)) rfl (fun _ _ h => by cases h) rfl rfl ?_
      refine wo_call hR rfl rfl (fun _ => rfl) (op_call rfl rfl rfl rfl) (comes_all_ok hR.ok (Row.bare (hvz.keep0 hR)) (by omega)) (fun _ _ h => h.1) ?_
      rintro _ sC ⟨hk2, rfl⟩ hRC
      have hS := hS.mov hk2.joined
      have hK := hS.K
      generalize sC.join z = z at *
      refine wo_val (fun _ => rfl) rfl rfl (op_int (v := .bool false) rfl rfl (by decide) (by simp [intA, hco])) ?_
      refine wo_val (fun _ => rfl) rfl rfl (op_pure rfl) ?_
      refine wd_nil ?_
      refine then_n ?_
      refine wc_cond_f rfl ?_
      refine wc_skip ?_
      refine out_n ?_
      refine then_n ?_
      refine wc_region ?_
      refine w_val rfl rfl (op_pure rfl) ?_
      refine w_val rfl rfl (op_add rfl rfl (by unfold In64; omega)) ?_
      refine w_val rfl rfl (op_pure rfl) ?_
      refine w_nil ?_
      exact round_n _ _ (by omega) (Sub.cons rfl (Sub.cons rfl (Sub.cons rfl (Sub.cons rfl (Sub.cons rfl (Sub.nil _)))))) ⟨k + 1, rfl, by omega, rfl, hS⟩
    simp only [beq_eq_false_iff_ne, ne_eq] at h117
    refine w_val rfl rfl (op_pure rfl) ?_
    refine w_val rfl rfl (op_pure rfl) ?_
    refine w_val rfl rfl (op_idxF rfl rfl (natA_cast _ _) rfl rfl rfl rfl hx1 (by omega)) ?_
    refine w_val rfl rfl (op_fld rfl rfl rfl rfl (by decide) (Row.mk_pt hx1 hx) (Nat.le_of_ble_eq_true rfl)) ?_
    refine w_val rfl rfl (op_load rfl rfl ((Row.mk_pt hx1 hx).fld _ (Nat.le_of_ble_eq_true rfl)) rfl) ?_
    refine w_val rfl rfl (op_pure rfl) ?_
    refine w_val rfl rfl (op_pure rfl) ?_
    refine w_nil ?_
    refine then_n ?_
    refine wc_condT rfl (fun h124 => ?_) (fun h124 => ?_)
    · simp only [beq_iff_eq] at h124
      repeat refine wc_seq ?_
      have hbX : branchI x = true := by first | exact branch43 h117 | exact branch44 h124
      obtain ⟨b, o, hxa, hbl, hbo, hco⟩ := hbr hbX
      have hR := Keep.refl (s := z) (hK.ok)
      refine wc_draw (Old z []) (by kernel_rfl) rfl ?_
      refine wo_val (fun _ => rfl) rfl rfl (op_pure rfl) ?_
      refine wo_val (fun _ => rfl) rfl rfl (op_pure rfl) ?_
      refine wo_val (fun _ => rfl) rfl rfl (op_idxF rfl rfl (natA_cast _ _) rfl rfl rfl rfl (Row.bare hx1) (by omega)) ?_
      refine wo_val (fun _ => rfl) rfl rfl (op_fld rfl rfl rfl rfl (by decide) (Pt.bare (Row.mk_pt hx1 hx)) (Nat.le_of_ble_eq_true rfl)) ?_
      refine wo_load hR rfl rfl ((Row.mk_pt hx1 hx).fld _ (Nat.le_of_ble_eq_true rfl)) rfl (fun _ _ h => by cases h) rfl rfl ?_
      refine wo_val (fun _ => rfl) rfl rfl (op_int (v := .bool false) rfl rfl (by decide) (by simp [intA] <;> omega)) ?_
      refine wo_val (fun _ => rfl) rfl rfl (op_pure rfl) ?_
      refine wo_val (fun _ => rfl) rfl rfl (op_pure rfl) ?_
      refine wo_val (fun _ => rfl) rfl rfl (op_pure rfl) ?_
      refine wo_val (fun _ => rfl) rfl rfl (op_idxF rfl rfl (natA_cast _ _) rfl rfl rfl rfl (Row.bare hx1) (by omega)) ?_
      refine wo_val (fun _ => rfl) rfl rfl (op_fld rfl rfl rfl rfl (by decide) (Pt.bare (Row.mk_pt hx1 hx)) (Nat.le_of_ble_eq_true rfl)) ?_
      refine wo_load hR rfl rfl ((Row.mk_pt hx1 hx).fld _ (Nat.le_of_ble_eq_true rfl)) rfl (fun _ _ h => by cases h) rfl rfl ?_
      refine wo_val (fun _ => rfl) rfl rfl (op_pure rfl) ?_
      refine wo_val (fun _ => rfl) rfl rfl (op_len rfl rfl rfl rfl rfl hx1.slenF) ?_
      refine wo_val (fun _ => rfl) rfl rfl (op_int (v := .bool false) rfl rfl (by decide) (by simp [intA] <;> omega)) ?_
      refine wo_val (fun _ => rfl) rfl rfl (op_pure rfl) ?_
      refine wo_val (fun _ => rfl) rfl rfl (op_pure rfl) ?_
      refine wo_val (fun _ => rfl) rfl rfl (op_pure rfl) ?_
      refine wo_val (fun _ => rfl) rfl rfl (op_pure rfl) ?_
      refine wo_val (fun _ => rfl) rfl rfl (op_pure rfl) ?_
      refine wo_val (fun _ => rfl) rfl rfl (op_idxF rfl rfl (natA_cast _ _) rfl rfl rfl rfl (Row.bare hx1) (by omega)) ?_
      refine wo_val (fun _ => rfl) rfl rfl (op_fld rfl rfl rfl rfl (by decide) (Pt.bare (Row.mk_pt hx1 hx)) (Nat.le_of_ble_eq_true rfl)) ?_
      refine wo_load hR rfl rfl ((Row.mk_pt hx1 hx).fld _ (Nat.le_of_ble_eq_true rfl)) rfl (fun _ _ h => by cases h) rfl rfl ?_
      refine wo_val (fun _ => rfl) rfl rfl (op_idxF rfl rfl (by rw [hxa]; exact natA_cast _ _) rfl rfl rfl rfl (Row.bare ho1) (by omega)) ?_
      refine wo_load hR rfl rfl (Row.mk_pt ho1 hbo) rfl (fun _ _ h => by cases h) rfl rfl ?_
      refine wo_val (fun _ => rfl) rfl rfl (op_pure rfl) ?_
      refine wo_val (fun _ => rfl) rfl rfl (op_pure rfl) ?_
      refine wo_val (fun _ => rfl) rfl rfl (op_pure rfl) ?_
      refine wo_val (fun _ => rfl) rfl rfl (op_pure rfl) ?_
      refine wo_val (fun _ => rfl) rfl rfl (op_idxF rfl rfl (natA_cast _ _) rfl rfl rfl rfl (Row.bare ho1) (by omega)) ?_
      refine wo_load hR rfl rfl (Row.mk_pt ho1 ha) rfl (fun _ _ h => by cases h) rfl rfl ?_
      refine wo_val (fun _ => rfl) rfl rfl (op_idxF rfl rfl (natA_cast _ _) rfl rfl rfl rfl (Row.bare hvz) (by omega)) ?_
      refine wo_val (fun _ => rfl) rfl rfl (op_fld rfl rfl rfl rfl (by decide) (Pt.bare (Row.mk_pt hvz hy)) (Nat.le_of_ble_eq_true rfl)) ?_
      refine wo_load hR rfl rfl ((Row.mk_pt hvz hy).fld _ (Nat.le_of_ble_eq_true rfl)) rfl (fun _ _ h => by cases h) rfl rfl ?_
      refine wo_call hR rfl rfl (fun _ => rfl) (op_call rfl rfl rfl rfl) (comes_all_ok hR.ok (Row.bare (hvz.keep0 hR)) (by omega)) (fun _ _ h => h.1) ?_
      rintro _ sC ⟨hk2, rfl⟩ hRC
      have hS := hS.mov hk2.joined
      have hK := hS.K
      generalize sC.join z = z at *
      refine wo_val (fun _ => rfl) rfl rfl (op_int (v := .bool false) rfl rfl (by decide) (by simp [intA, hco])) ?_
      refine wo_val (fun _ => rfl) rfl rfl (op_pure rfl) ?_
      refine wd_nil ?_
      refine then_n ?_
      refine wc_cond_f rfl ?_
      refine wc_skip ?_
      refine out_n ?_
      refine then_n ?_
      refine wc_region ?_
      refine w_val rfl rfl (op_pure rfl) ?_
      refine w_val rfl rfl (op_add rfl rfl (by unfold In64; omega)) ?_
      refine w_val rfl rfl (op_pure rfl) ?_
      refine w_nil ?_
      exact round_n _ _ (by omega) (Sub.cons rfl (Sub.cons rfl (Sub.cons rfl (Sub.cons rfl (Sub.cons rfl (Sub.nil _)))))) ⟨k + 1, rfl, by omega, rfl, hS⟩
    simp only [beq_eq_false_iff_ne, ne_eq] at h124
    repeat refine wc_seq ?_
    have hbX : branchI x = false := branch_no (by assumption) (by assumption)
    have hxa := hnb hbX
    refine wc_draw (fun _ => True) (by kernel_rfl) rfl ?_
    refine wd_val (fun _ => trivial) rfl rfl (op_pure rfl) ?_
    refine wd_val (fun _ => trivial) rfl rfl (op_pure rfl) ?_
    refine wd_val (fun _ => trivial) rfl rfl (op_idxF rfl rfl (natA_cast _ _) rfl rfl rfl rfl (Row.bare hx1) (by omega)) ?_
    refine wd_val (fun _ => trivial) rfl rfl (op_fld rfl rfl rfl rfl (by decide) (Pt.bare <| Row.mk_pt hx1 hx) (Nat.le_of_ble_eq_true rfl)) ?_
    refine wd_val (fun _ => trivial) rfl rfl (op_load rfl rfl ((Pt.bare <| Row.mk_pt hx1 hx).fld _ (Nat.le_of_ble_eq_true rfl)) rfl) ?_
    refine wd_val (fun _ => trivial) rfl rfl (op_pure rfl) ?_
    refine wd_val (fun _ => trivial) rfl rfl (op_pure rfl) ?_
    refine wd_val (fun _ => trivial) rfl rfl (op_pure rfl) ?_
    refine wd_val (fun _ => trivial) rfl rfl (op_idxF rfl rfl (natA_cast _ _) rfl rfl rfl rfl (Row.bare ho1) (by omega)) ?_
    refine wd_val (fun _ => trivial) rfl rfl (op_load rfl rfl (Pt.bare <| Row.mk_pt ho1 ha) rfl) ?_
    refine wd_val (fun _ => trivial) rfl rfl (op_idxF rfl rfl (natA_cast _ _) rfl rfl rfl rfl (Row.bare hvz) (by omega)) ?_
    refine wd_val (fun _ => trivial) rfl rfl (op_fld rfl rfl rfl rfl (by decide) (Pt.bare <| Row.mk_pt hvz hy) (Nat.le_of_ble_eq_true rfl)) ?_
    refine wd_val (fun _ => trivial) rfl rfl (op_load rfl rfl ((Pt.bare <| Row.mk_pt hvz hy).fld _ (Nat.le_of_ble_eq_true rfl)) rfl) ?_
    refine wd_val (fun _ => trivial) rfl rfl (op_int (v := .bool false) rfl rfl (by decide) (by simp [intA, hxa])) ?_
    refine wd_nil ?_
    refine then_n ?_
    refine wc_cond_f rfl ?_
    refine wc_skip ?_
    refine out_n ?_
    refine then_n ?_
    refine wc_region ?_
    refine w_val rfl rfl (op_pure rfl) ?_
    refine w_val rfl rfl (op_add rfl rfl (by unfold In64; omega)) ?_
    refine w_val rfl rfl (op_pure rfl) ?_
    refine w_nil ?_
    exact round_n _ _ (by omega) (Sub.cons rfl (Sub.cons rfl (Sub.cons rfl (Sub.cons rfl (Sub.cons rfl (Sub.nil _)))))) ⟨k + 1, rfl, by omega, rfl, hS⟩
  simp only [decide_eq_false_iff_not] at h40
  obtain rfl : k = (codeO l).length := by omega
  refine wc_exit ?_
  repeat first | refine then_x ?_ | refine round_x ?_ | refine cut_x ?_ | refine out_x' (by decide) ?_
  refine out_x ?_
  refine then_n ?_
  repeat refine wc_seq ?_
  refine wc_region ?_
  refine w_val rfl rfl (op_pure rfl) ?_
  refine w_call rfl rfl (op_call rfl rfl rfl rfl) (trimCode_ok' hK.ok hx1 (hS.nls 0 rfl) (by omega)) ?_
  rintro _ z1 ⟨hk, x2, o2, rfl, hx, ho, hbx, hbo, hdd, hnx, hno⟩
  have hS := hS.add2 hk (rowC x2 2 ((codeO (codeO l)).map inC)) (rowC o2 1 ((oldO (codeO l)).map iC)) ⟨hx, hnx⟩ ⟨ho, hno⟩ (fun g hg => ⟨hbx g hg, hx.lt hk.ok g hg⟩) (fun g hg => ⟨hbo g hg, ho.lt hk.ok g hg⟩) (fun g hg hg' => hdd g hg hg')
  clear hx ho hbx hbo hdd hnx hno
  have hS : SH _ [_, _, _, _, _] z1 := hS
  have hK := hS.K
  have ho2 := hS.row 4 rfl
  have hx2 := hS.row 3 rfl
  have hx1 := hS.row 0 rfl
  have hcc := codeO_twice l
  have hoo := oldO_twice hRi
  have hol2 : (oldO (codeO l)).length = (codeO l).length := by rw [oldO_len', hcc]
  refine w_val rfl rfl (op_pure rfl) ?_
  refine w_val rfl rfl (op_pure rfl) ?_
  refine w_val rfl rfl (op_pure rfl) ?_
  refine w_val rfl rfl (op_pure rfl) ?_
  refine w_val rfl rfl (op_pure rfl) ?_
  refine w_nil ?_
  refine then_n ?_
  repeat refine wc_seq ?_
  refine wc_region ?_
  refine w_val rfl rfl (op_pure rfl) ?_
  refine w_nil ?_
  refine then_n ?_
  repeat refine wc_seq ?_
  refine wc_block ?_
  refine wc_loop_at (fun jj m z' => ∃ (k : Nat), jj = (codeO l).length - k ∧ k ≤ (codeO l).length ∧ m = [(3, x1), (7, x2), (8, o2), (9, .int .i64 (k : Nat))] ∧ z1 = z') (codeO l).length
    [(3, x1), (7, x2), (8, o2), (9, .int .i64 ((0 : Nat) : Int))] (Sub.cons rfl (Sub.cons rfl (Sub.cons rfl (Sub.cons rfl (Sub.nil _))))) ⟨0, by simp, by simp, rfl, rfl⟩ ?_
  rintro jj m _ ⟨k, rfl, hk, rfl, rfl⟩
  repeat refine wc_seq ?_
  refine wc_region ?_
  refine w_val rfl rfl (op_pure rfl) ?_
  refine w_val rfl rfl (op_pure rfl) ?_
  refine w_val rfl rfl (op_len rfl rfl rfl rfl rfl ho2.slenF) ?_
  refine w_val rfl rfl (op_pure rfl) ?_
  refine w_nil ?_
  refine then_n ?_
  repeat refine wc_seq ?_
  refine wc_condT rfl (fun h184 => ?_) (fun h184 => ?_)
  · simp only [decide_eq_true_eq] at h184
    refine wc_skip ?_
    refine then_n ?_
    repeat refine wc_seq ?_
    refine wc_block ?_
    repeat refine wc_seq ?_
    have hk2 : (oldO (codeO l))[k]? = some (k : Int) := by rw [hoo]; exact tI_get (List.getElem?_range (by omega))
    refine wc_region ?_
    refine w_val rfl rfl (op_pure rfl) ?_
    refine w_val rfl rfl (op_pure rfl) ?_
    refine w_val rfl rfl (op_idxF rfl rfl (natA_cast _ _) rfl rfl rfl rfl ho2 (by omega)) ?_
    refine w_val rfl rfl (op_load rfl rfl (Row.mk_pt ho2 hk2) rfl) ?_
    refine w_val rfl rfl (op_pure rfl) ?_
    refine w_val rfl rfl (op_int (v := .bool false) rfl rfl (by decide) (by simp [intA])) ?_
    refine w_nil ?_
    refine then_n ?_
    refine wc_cond_f rfl ?_
    refine wc_skip ?_
    refine out_n ?_
    refine then_n ?_
    refine wc_region ?_
    refine w_val rfl rfl (op_pure rfl) ?_
    refine w_val rfl rfl (op_add rfl rfl (by unfold In64; omega)) ?_
    refine w_val rfl rfl (op_pure rfl) ?_
    refine w_nil ?_
    exact round_n _ _ (by omega) (Sub.cons rfl (Sub.cons rfl (Sub.cons rfl (Sub.cons rfl (Sub.nil _))))) ⟨k + 1, rfl, by omega, rfl, rfl⟩
  simp only [decide_eq_false_iff_not] at h184
  obtain rfl : k = (codeO l).length := by omega
  refine wc_exit ?_
  repeat first | refine then_x ?_ | refine round_x ?_ | refine cut_x ?_ | refine out_x' (by decide) ?_
  refine out_x ?_
  refine then_n ?_
  repeat refine wc_seq ?_
  refine wc_region ?_
  refine w_val rfl rfl (op_pure rfl) ?_
  refine w_val rfl rfl (op_pure rfl) ?_
  refine w_call rfl rfl (op_call rfl rfl rfl rfl) (code_same (by omega) hx1 (by rw [hcc] at hx2; exact hx2)) ?_
  rintro _ _ ⟨rfl, rfl⟩
  refine w_val rfl rfl (op_pure rfl) ?_
  refine w_nil ?_
  refine then_n ?_
  refine wc_ret ?_
  repeat first | refine then_r ?_ | refine out_r ?_ | refine round_r ?_ | refine cut_r ?_ | refine sc_r ?_
  exact ⟨_, rfl, rfl⟩
end Go.Ab
/- What came in, as the abstract machine sees it: shapes by type. -/
namespace Go.Ab
/-- Cells that a value of this type may hold: whole numbers, truth values, strings, rows and structs of such. -/
def Shaped (P : Program) : Nat → TypeId → List AV → Prop
  | 0, _, _ => False
  | n + 1, t, us => match P.underlying t with
    | some .bool => ∃ b, us = [.bool b]
    | some (.int k) => ∃ m, us = [.int k m] ∧ (Lit.int k m).wf = true
    | some .string => ∃ s : ByteArray, us = [.str s] ∧ s.size ≤ maxLen
    | some (.slice e) => ∃ nl xs, us = [.ro nl xs] ∧ (nl = true → xs = []) ∧ xs.length ≤ maxLen ∧ ∀ x ∈ xs, x.cells.length = P.cellsOf e ∧ Shaped P n e x.cells
    | some (.struct fs) => us.length = P.cellsOf t ∧ ∀ f ∈ fs.toList, Shaped P n f.type ((us.drop f.offset).take (P.cellsOf f.type))
    | _ => False
/-- The fields lie one behind the other. -/
def tiles (P : Program) : Nat → List Field → Nat → Bool
  | k, [], n => k == n
  | k, f :: r, n => f.offset == k && tiles P (k + P.cellsOf f.type) r n
/-- Types of such values. -/
def Plain (P : Program) : Nat → TypeId → Bool
  | 0, _ => false
  | n + 1, t => match P.underlying t with
    | some .bool | some (.int _) | some .string => true
    | some (.slice e) => P.cellsOf e > 0 && Plain P n e
    | some (.struct fs) => tiles P 0 fs.toList (P.cellsOf t) && fs.toList.all fun f => Plain P n f.type
    | _ => false
end Go.Ab
/- What came in, as the abstract machine sees it: rows of the arguments' data. -/
namespace Go.Ab
def packE {H : Type} (d : DataW H) (cs : List AV) : AV := match d with
  | .agg _ => .agg cs
  | _ => cs.headD .undef
mutual
/-- The cells of what was read. -/
def avs {H : Type} : DataW H → List AV
  | .lit (.int k n) => [.int k n]
  | .lit (.bool b) => [.bool b]
  | .lit (.string bs) => [.str ⟨bs.toArray⟩]
  | .nil => [.ro true []]
  | .slice es _ => [.ro false (elts es)]
  | .agg ds => avsAll ds
  | _ => [.undef]
def avsAll {H : Type} : List (DataW H) → List AV
  | [] => []
  | d :: r => avs d ++ avsAll r
def elts {H : Type} : List (DataW H) → List AV
  | [] => []
  | d :: r => packE d (avs d) :: elts r
end
theorem elts_map {H : Type} : ∀ (l : List (DataW H)), elts l = l.map fun d => packE d (avs d)
  | [] => by rw [elts]; rfl
  | d :: r => by rw [elts, elts_map r]; rfl
/-- Data of a type. -/
def HasTy {H : Type} (P : Program) : Nat → TypeId → DataW H → Prop
  | 0, _, _ => False
  | n + 1, t, d => match P.underlying t with
    | some .bool => ∃ b, d = .lit (.bool b)
    | some (.int k) => ∃ m, d = .lit (.int k m) ∧ (Lit.int k m).wf = true
    | some .string => ∃ bs, d = .lit (.string bs)
    | some (.slice e) => d = .nil ∨ ∃ es sp, d = .slice es sp ∧ ∀ x ∈ es, HasTy P n e x
    | some (.struct fs) => ∃ ds, d = .agg ds ∧ ds.length = fs.toList.length ∧ ∀ (i : Nat) (f : Field) (x : DataW H), fs.toList[i]? = some f → ds[i]? = some x → HasTy P n f.type x
    | _ => False
theorem HasTy.pack {H : Type} {P : Program} {n : Nat} {t : TypeId} {d : DataW H} (h : HasTy P n t d) : (packE d (avs d)).cells = avs d := by
  cases n with
  | zero => exact h.elim
  | succ n =>
    unfold HasTy at h
    split at h
    · obtain ⟨b, rfl⟩ := h; simp [avs, packE, AV.cells]
    · obtain ⟨b, rfl, -⟩ := h; simp [avs, packE, AV.cells]
    · obtain ⟨b, rfl⟩ := h; simp [avs, packE, AV.cells]
    · rcases h with rfl | ⟨es, sp, rfl, -⟩ <;> simp [avs, packE, AV.cells]
    · obtain ⟨ds, rfl, -⟩ := h; simp [avs, packE, AV.cells]
    · exact h.elim
theorem mapM_some' {α β : Type} {f : α → Option β} : ∀ {l : List α} {r : List β}, l.mapM f = some r → l.length = r.length ∧ ∀ (i : Nat) (x : α) (y : β), l[i]? = some x → r[i]? = some y → f x = some y
  | [], r, h => by simp at h; subst h; exact ⟨rfl, fun i x y h => by simp at h⟩
  | a :: l, r, h => by
    rw [List.mapM_cons] at h
    cases ha : f a with
    | none => simp [ha] at h
    | some b =>
      cases hl : l.mapM f with
      | none => simp [ha, hl] at h
      | some r' =>
        simp [ha, hl] at h
        subst h
        obtain ⟨h1, h2⟩ := mapM_some' hl
        refine ⟨by simp [h1], fun i x y hx hy => ?_⟩
        cases i with
        | zero => simp at hx hy; subst hx; subst hy; exact ha
        | succ i => exact h2 i x y (by simpa using hx) (by simpa using hy)
section
variable {H : Type} {enc : TypeId × Value → H} {P : Program} {w : World} {spare : Nat → Bool} {held : Bool} {ρ : Loc}
/-- What a reading of one type gives. -/
def RdOk (w : World) (P : Program) (ρ : Loc) (n : Nat) (t : TypeId) (cs : List Value) (d : DataW H) : Prop :=
  HasTy P n t d ∧ (avs d).length = cs.length ∧ CR w w.heap.size ρ (avs d) cs ∧ (avs d).all AV.leaf = true
theorem fields_read {n : Nat} (ih : ∀ t cs x, DataW.trod enc P w 0 spare held n t cs = some x → ∀ m, Plain P m t = true → RdOk w P ρ n t cs x.1) {m : Nat} {cs : List Value} :
    ∀ (fs : List Field) (k N : Nat) (xs : List (DataW H × List MemPlace)), N = cs.length → xs.length = fs.length → (∀ (i : Nat) (f : Field), fs[i]? = some f → DataW.trod enc P w 0 spare held n f.type ((cs.drop f.offset).take (P.cellsOf f.type)) = xs[i]?) → tiles P k fs N = true → (∀ f ∈ fs, Plain P m f.type = true) →
      (avsAll (xs.map (·.1))).length = (cs.drop k).length ∧ CR w w.heap.size ρ (avsAll (xs.map (·.1))) (cs.drop k) ∧ (avsAll (xs.map (·.1))).all AV.leaf = true ∧ ∀ (i : Nat) (f : Field) (x : DataW H × List MemPlace), fs[i]? = some f → xs[i]? = some x → HasTy P n f.type x.1
  | [], k, N, xs, hN, hl, h, ht, hp => by
    have : xs = [] := List.eq_nil_of_length_eq_zero hl
    subst this
    simp only [tiles, beq_iff_eq] at ht
    subst ht hN
    simp [avsAll, CR.nil]
  | f :: r, k, N, xs, hN, hl, h, ht, hp => by
    cases xs with
    | nil => simp at hl
    | cons b ys =>
      simp only [tiles, Bool.and_eq_true, beq_iff_eq] at ht
      obtain ⟨hoff, ht⟩ := ht
      have h0 := h 0 f rfl
      simp only [List.getElem?_cons_zero] at h0
      obtain ⟨h5, h1, h2, h6⟩ := ih _ _ b h0 m (hp f (List.mem_cons_self ..))
      obtain ⟨h3, h4, h7, h8⟩ := fields_read ih r (k + P.cellsOf f.type) N ys hN (by simpa using hl) (fun i g hg => by have := h (i + 1) g (by simpa using hg); simpa using this) ht (fun g hg => hp g (List.mem_cons_of_mem _ hg))
      rw [hoff] at h1 h2
      have e : cs.drop k = (cs.drop k).take (P.cellsOf f.type) ++ cs.drop (k + P.cellsOf f.type) := by
        rw [← List.drop_drop, List.take_append_drop]
      rw [List.map_cons, avsAll, e]
      refine ⟨by rw [List.length_append, List.length_append, h1, h3], h2.append h4, by rw [List.all_append, h6, h7]; rfl, fun i g x hg hx => ?_⟩
      cases i with
      | zero => simp at hg hx; subst hg; subst hx; exact h5
      | succ i => exact h8 i g x (by simpa using hg) (by simpa using hx)
theorem cells_at {w : World} {base : Nat} {a : Addr} {n : Nat} {cs : List Value} (h : w.cells? base a n = some cs) : cs.length = n ∧ ∀ (k : Nat) (v : Value), cs[k]? = some v → w.cell? (a.add k) = some v := by
  unfold World.cells? at h
  split at h
  · obtain ⟨h1, h2⟩ := mapM_some' h
    refine ⟨by rw [← h1, List.length_range], fun k v hv => ?_⟩
    have hk : k < n := by
      have := (List.getElem?_eq_some_iff.1 hv).1
      rw [← h1, List.length_range] at this; exact this
    exact h2 k k v (by rw [List.getElem?_range hk]) hv
  · cases h
theorem spot_none {w : World} {a : Addr} {v : Value} (h : w.cell? a = some v) : a.spot = none ∧ a.block < w.heap.size := by
  unfold World.cell? at h
  split at h
  · rename_i hb
    split at h
    · cases h
    · rename_i hs
      refine ⟨by simpa using hs, ?_⟩
      rcases Nat.lt_or_ge a.block w.heap.size with hl | hl
      · exact hl
      · rw [Array.getElem?_eq_none hl] at hb; cases hb
  · cases h
theorem CR.sole {u : AV} {v : Value} (h : VR w w.heap.size ρ u v) : CR w w.heap.size ρ [u] [v] := CR.cons h CR.nil
theorem read_ok : ∀ (n : Nat) (t : TypeId) (cs : List Value) (x : DataW H × List MemPlace), DataW.trod enc P w 0 spare held n t cs = some x → ∀ m, Plain P m t = true → RdOk w P ρ n t cs x.1
  | 0, _, _, _, h, _, _ => by simp [DataW.trod] at h
  | n + 1, t, cs, x, h, 0, hp => by simp [Plain] at hp
  | n + 1, t, cs, x, h, m + 1, hp => by
    have ih := fun t cs x h m hp => read_ok n t cs x h m hp
    unfold Plain at hp
    unfold RdOk HasTy
    cases hu : P.underlying t with
    | none => simp [hu] at hp
    | some td =>
      rw [hu] at hp
      cases td with
      | bool =>
        obtain ⟨b, rfl, rfl⟩ := DataW.trod_bool hu h
        exact ⟨⟨b, rfl⟩, by simp [avs], by simp only [avs]; exact CR.sole (.bool b), by simp [avs, AV.leaf]⟩
      | int k =>
        obtain ⟨b, rfl, rfl, hw⟩ := DataW.trod_int hu h
        exact ⟨⟨b, rfl, hw⟩, by simp [avs], by simp only [avs]; exact CR.sole (.int k b), by simp [avs, AV.leaf]⟩
      | string =>
        obtain ⟨b, rfl, rfl, hw⟩ := DataW.trod_string hu h
        exact ⟨⟨_, rfl⟩, by simp [avs], by simp only [avs]; exact CR.sole (.str b), by simp [avs, AV.leaf]⟩
      | slice e =>
        simp only [Bool.and_eq_true, decide_eq_true_eq] at hp
        rcases DataW.trod_slice hu h with ⟨rfl, rfl⟩ | ⟨a, len, cap, elems, rest, n', hn, rfl, rfl, hb, hlc, hcm, hel, helem, -, -⟩
        · refine ⟨.inl rfl, by simp [avs], ?_, by simp [avs, AV.leaf]⟩
          simp only [avs]
          exact CR.sole (.ro true [] none 0 (fun _ _ => undef) (Nat.le_refl _) (by simp) (fun _ => rfl) (fun a h => by cases h) (fun i x h => by simp at h) (fun i x h => by simp at h))
        · obtain rfl : n = n' := by omega
          have hall : ∀ (i : Nat) (y : DataW H × List MemPlace), elems[i]? = some y → ∃ vs, w.cells? 0 (a.add (i * P.cellsOf e)) (P.cellsOf e) = some vs ∧ RdOk w P ρ n e vs y.1 := by
            intro i y hy
            have hi : i < len := by have := (List.getElem?_eq_some_iff.1 hy).1; omega
            have := helem i hi
            rw [hy] at this
            cases hc : w.cells? 0 (a.add (i * P.cellsOf e)) (P.cellsOf e) with
            | none => rw [hc] at this; cases this
            | some vs => rw [hc] at this; exact ⟨vs, rfl, ih e vs y this m hp.2⟩
          refine ⟨.inr ⟨_, _, rfl, fun d hd => ?_⟩, by simp [avs], ?_, by simp [avs, AV.leaf]⟩
          · obtain ⟨y, hy, rfl⟩ := List.mem_map.1 hd
            obtain ⟨i, hi⟩ := List.getElem?_of_mem hy
            obtain ⟨vs, -, h1, -⟩ := hall i y hi
            exact h1
          · simp only [avs]
            refine CR.sole ?_
            have hlen : (elts (elems.map (·.1))).length = len := by rw [elts_map]; simp [hel]
            have hget : ∀ (i : Nat) (u : AV), (elts (elems.map (·.1)))[i]? = some u → ∃ y vs, elems[i]? = some y ∧ w.cells? 0 (a.add (i * P.cellsOf e)) (P.cellsOf e) = some vs ∧ u.cells = avs y.1 ∧ RdOk w P ρ n e vs y.1 := by
              intro i u hu'
              rw [elts_map, List.map_map, List.getElem?_map] at hu'
              cases hy : elems[i]? with
              | none => rw [hy] at hu'; cases hu'
              | some y =>
                rw [hy] at hu'
                obtain ⟨vs, h1, h2⟩ := hall i y hy
                cases hu'
                exact ⟨y, vs, rfl, h1, h2.1.pack, h2⟩
            have hadd : ∀ (b : Addr) (k : Nat), b.spot = none → b.add k = ⟨b.block, b.off + k, none⟩ := by
              intro b k hb
              obtain ⟨b1, b2, b3⟩ := b
              simp only at hb
              subst hb
              unfold Addr.add
              split
              · rename_i h0; rw [h0]; rfl
              · rfl
            have hsp : elems ≠ [] → a.spot = none ∧ a.block < w.heap.size := by
              intro hne
              obtain ⟨y, hy⟩ : ∃ y, elems[0]? = some y := by
                cases elems with
                | nil => exact (hne rfl).elim
                | cons y r => exact ⟨y, rfl⟩
              obtain ⟨vs, h2, -⟩ := hall 0 y hy
              obtain ⟨h7, h8⟩ := cells_at h2
              have hv := List.getElem?_eq_getElem (show 0 < vs.length by rw [h7]; exact hp.1)
              have := h8 0 _ hv
              rw [Nat.zero_mul] at this
              exact spot_none (a := a) this
            have hcell : ∀ (i : Nat) (u : AV), (elts (elems.map (·.1)))[i]? = some u → ∀ (k : Nat) (c : AV), u.cells[k]? = some c → ∃ v, w.cell? ⟨a.block, a.off + i * u.cells.length + k, none⟩ = some v ∧ VR w w.heap.size ρ c v := by
              intro i u hu' k c hc
              obtain ⟨y, vs, hy, h2, h3, h4, h5, h6, -⟩ := hget i u hu'
              obtain ⟨h7, h8⟩ := cells_at h2
              rw [h3] at hc
              have hk : k < vs.length := by rw [← h5]; exact (List.getElem?_eq_some_iff.1 hc).1
              have hv := List.getElem?_eq_getElem hk
              refine ⟨vs[k], ?_, h6.2 k c _ hc hv⟩
              have := h8 k _ hv
              have hs := (hsp (fun e => by rw [e] at hy; simp at hy)).1
              rw [hadd a _ hs, hadd _ _ rfl] at this
              rw [h3, h5, h7]
              exact this
            have key : VR w w.heap.size ρ (.ro false (elts (elems.map (·.1)))) (.slice (some a) (elts (elems.map (·.1))).length cap) := by
              refine .ro false _ (some a) cap (fun i k => match (elts (elems.map (·.1)))[i]? with
                | some u => (w.cell? ⟨a.block, a.off + i * u.cells.length + k, none⟩).getD undef
                | none => undef) (by omega) (by simp) (fun h => by cases h) ?_ ?_ ?_
              · intro a' ha hne
                cases ha
                exact hsp (fun e => hne (by rw [e]; rfl))
              · intro i u hu' k c hc a' ha
                cases ha
                obtain ⟨v, hv, -⟩ := hcell i u hu' k c hc
                simp only [hu', hv]
                rfl
              · intro i u hu' k c hc
                obtain ⟨v, hv, hr⟩ := hcell i u hu' k c hc
                simp only [hu', hv]
                exact hr
            rw [hlen] at key
            exact key
      | struct fs =>
        obtain ⟨xs, n', hn, rfl, hcs, hxl, hx⟩ := DataW.trod_struct hu h
        obtain rfl : n = n' := by omega
        simp only [Bool.and_eq_true, List.all_eq_true] at hp
        obtain ⟨h1, h2, h3, h4⟩ := fields_read (ρ := ρ) ih fs.toList 0 (P.cellsOf t) xs hcs.symm (by simpa using hxl) (fun i f hf => hx i f (by simpa using hf)) hp.1 hp.2
        refine ⟨⟨_, rfl, by simp [hxl], fun i f y hf hy => ?_⟩, ?_, ?_, ?_⟩
        · rw [List.getElem?_map] at hy
          cases hxi : xs[i]? with
          | none => rw [hxi] at hy; cases hy
          | some z => rw [hxi] at hy; cases hy; exact h4 i f z hf hxi
        · simp only [avs]; simpa using h1
        · simp only [avs]; simpa using h2
        · simp only [avs]; exact h3
      | _ => simp at hp
end
end Go.Ab
