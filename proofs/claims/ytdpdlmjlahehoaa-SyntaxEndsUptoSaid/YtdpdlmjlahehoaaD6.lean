/- Where blocks end: syntax.Ends and what it answers. -/
import Derived.Test.YtdpdlmjlahehoaaD5
namespace Go.Ab
open Go.Proofs
def nC (n : Nat) : List AV := [.int .i64 n]
structure E1 where
  opn : List Nat
  ends : List Int
  elses : List Int
def step1 (ks : List Int) (i : Nat) (st : E1) : Option E1 :=
  if ks.getD i 0 = 5 ∨ ks.getD i 0 = 7 then some { st with opn := st.opn ++ [i] }
  else if ks.getD i 0 = 6 then match st.opn.getLast? with
    | none => none
    | some o => if ks.getD o 0 ≠ 5 ∨ st.elses.getD o 0 ≥ 0 then none else some { st with elses := st.elses.set o i }
  else if ks.getD i 0 = 8 then match st.opn.getLast? with
    | none => none
    | some o => some { opn := st.opn.dropLast, ends := if st.elses.getD o 0 ≥ 0 then (st.ends.set o i).set (st.elses.getD o 0).toNat i else st.ends.set o i, elses := st.elses }
  else some st
def iter1 (ks : List Int) : Nat → Option E1
  | 0 => some ⟨[], List.replicate ks.length (-1), List.replicate ks.length (-1)⟩
  | i + 1 => (iter1 ks i).bind (step1 ks i)
def ends1 (ks : List Int) : Option (List Int × List Int) := match iter1 ks ks.length with
  | none => none
  | some st => if st.opn = [] then some (st.ends, st.elses) else none
theorem iter1_none {ks : List Int} {i : Nat} (h : iter1 ks i = none) : ∀ j, i ≤ j → iter1 ks j = none := by
  intro j hj
  induction j with
  | zero => rw [show i = 0 by omega] at h; exact h
  | succ j ih =>
    by_cases e : i = j + 1
    · rw [← e]; exact h
    · rw [iter1, ih (by omega)]; rfl
theorem ends1_none {ks : List Int} {i : Nat} {st : E1} (h : iter1 ks i = some st) (hi : i < ks.length) (k : step1 ks i st = none) : ends1 ks = none := by
  have : iter1 ks (i + 1) = none := by rw [iter1, h]; exact k
  rw [ends1, iter1_none this ks.length (by omega)]
theorem snoc_of {α : Type} {l : List α} (h : 0 < l.length) : ∃ L x, l = L ++ [x] := by
  rcases List.eq_nil_or_concat l with e | ⟨L, x, e⟩
  · rw [e] at h; simp at h
  · exact ⟨L, x, by simpa using e⟩
theorem gD {l : List Int} {i : Nat} {x : Int} (h : l[i]? = some x) : l.getD i 0 = x := by rw [List.getD_eq_getElem?_getD, h]; rfl
section
variable {ks : List Int} {i : Nat} {st : E1} {k : Int} {L0 : List Nat} {o0 : Nat} {k0 x0 : Int}
theorem step1_open (hk : ks[i]? = some k) (h : k = 5 ∨ k = 7) : step1 ks i st = some { st with opn := st.opn ++ [i] } := by
  unfold step1; rw [gD hk, if_pos h]
theorem step1_else_nil (hk : ks[i]? = some k) (h : k = 6) (hn : st.opn = []) : step1 ks i st = none := by
  unfold step1; rw [gD hk, if_neg (by omega), if_pos h, hn]; rfl
theorem step1_else_kind (hk : ks[i]? = some k) (h : k = 6) (ho : st.opn = L0 ++ [o0]) (hk0 : ks[o0]? = some k0) (h5 : ¬ k0 = 5) : step1 ks i st = none := by
  unfold step1; rw [gD hk, if_neg (by omega), if_pos h, ho]; simp [List.getD_eq_getElem?_getD, hk0, h5]
theorem step1_else_two (hk : ks[i]? = some k) (h : k = 6) (ho : st.opn = L0 ++ [o0]) (hx : st.elses[o0]? = some x0) (h0 : 0 ≤ x0) : step1 ks i st = none := by
  unfold step1; rw [gD hk, if_neg (by omega), if_pos h, ho]; simp [List.getD_eq_getElem?_getD, hx, h0]
theorem step1_else (hk : ks[i]? = some k) (h : k = 6) (ho : st.opn = L0 ++ [o0]) (hk0 : ks[o0]? = some 5) (hx : st.elses[o0]? = some x0) (h0 : x0 < 0) : step1 ks i st = some { st with elses := st.elses.set o0 i } := by
  unfold step1; rw [gD hk, if_neg (by omega), if_pos h]
  have : st.opn.getLast? = some o0 := by rw [ho]; simp
  rw [this]; simp only; rw [gD hk0, gD hx, if_neg (by omega)]
theorem step1_end_nil (hk : ks[i]? = some k) (h : k = 8) (hn : st.opn = []) : step1 ks i st = none := by
  unfold step1; rw [gD hk, if_neg (by omega), if_neg (by omega), if_pos h, hn]; rfl
theorem step1_end1 (hk : ks[i]? = some k) (h : k = 8) (ho : st.opn = L0 ++ [o0]) (hx : st.elses[o0]? = some x0) (h0 : x0 < 0) : step1 ks i st = some { opn := L0, ends := st.ends.set o0 i, elses := st.elses } := by
  unfold step1; rw [gD hk, if_neg (by omega), if_neg (by omega), if_pos h]
  have : st.opn.getLast? = some o0 := by rw [ho]; simp
  rw [this]; simp only; rw [gD hx, if_neg (by omega), ho, List.dropLast_concat]
theorem step1_end2 (hk : ks[i]? = some k) (h : k = 8) (ho : st.opn = L0 ++ [o0]) (hx : st.elses[o0]? = some x0) (h0 : 0 ≤ x0) : step1 ks i st = some { opn := L0, ends := (st.ends.set o0 i).set x0.toNat i, elses := st.elses } := by
  unfold step1; rw [gD hk, if_neg (by omega), if_neg (by omega), if_pos h]
  have : st.opn.getLast? = some o0 := by rw [ho]; simp
  rw [this]; simp only; rw [gD hx, if_pos h0, ho, List.dropLast_concat]
theorem step1_else_none (hk : ks[i]? = some k) (h7 : ¬ k = 7) (h6 : ¬ k = 6) (h8 : ¬ k = 8) (h5 : ¬ k = 5) : step1 ks i st = some st := by
  unfold step1; rw [gD hk, if_neg (by omega), if_neg (by omega), if_neg (by omega)]
end
/-- What holds at a round's head. -/
structure EI (s : St) (ga gb n : Nat) (e l o : AV) (st : E1) (i : Nat) (s' : St) : Prop where
  ok0 : s.Ok
  K : Keep [] s s'
  E : Row s'.h 1 e (st.ends.map iC)
  L : Row s'.h 1 l (st.elses.map iC)
  O : Row s'.h 1 o (st.opn.map nC)
  on : o.gs = [] → o = .nils
  og : ∀ g ∈ o.gs, s.ctr ≤ g ∧ g ≠ ga ∧ g ≠ gb
  el : st.ends.length = n
  ll : st.elses.length = n
  ob : ∀ k ∈ st.opn, k < n
  lb : ∀ k ∈ st.elses, k < (n : Int)
  ol : st.opn.length ≤ i
section
variable {s s1 s2 : St} {ga gb n i : Nat} {e l o : AV} {st : E1}
theorem EI.keep0 (h : EI s ga gb n e l o st i s1) (k : Keep [] s1 s2) : EI s ga gb n e l o st i s2 :=
  { h with K := h.K.two k, E := h.E.keep0 k, L := h.L.keep0 k, O := h.O.keep0 k }
theorem EI.next (h : EI s ga gb n e l o st i s1) : EI s ga gb n e l o st (i + 1) s1 := { h with ol := by have := h.ol; omega }
theorem EI.push (h : EI s ga gb n e l o st i s1) {i0 : Nat} (hi : i0 < n) (hii : i ≤ i0 + 1) {o' : AV} (ho : Row s2.h 1 o' ((st.opn ++ [i0]).map nC)) (k : Keep o.gs s1 s2) (hg : o'.gs = o.gs ∨ o'.gs = [s1.ctr]) (hn : o'.gs = [] → o' = .nils) (hga : e.gs = [ga] := by assumption) (hgb : l.gs = [gb] := by assumption) :
    EI s ga gb n e l o' { st with opn := st.opn ++ [i0] } (i + 1) s2 where
  ok0 := h.ok0
  K := h.K.fresh k fun g hg' => by
    exact h.ok0 g (h.og g hg').1
  E := h.E.keep k fun g hg' hc => by rw [hga] at hg'; exact (h.og g hc).2.1 (List.mem_singleton.1 hg')
  L := h.L.keep k fun g hg' hc => by rw [hgb] at hg'; exact (h.og g hc).2.2 (List.mem_singleton.1 hg')
  O := ho
  on := hn
  og := by
    intro g hg'
    rcases hg with e1 | e1
    · rw [e1] at hg'; exact h.og g hg'
    · rw [e1] at hg'
      have e2 := List.mem_singleton.1 hg'
      have l1 := h.E.lt h.K.ok ga (by rw [hga]; exact List.mem_cons_self ..)
      have l2 := h.L.lt h.K.ok gb (by rw [hgb]; exact List.mem_cons_self ..)
      have := h.K.ctr
      omega
  el := h.el
  ll := h.ll
  ob := fun k hk => by
    rcases List.mem_append.1 hk with hk | hk
    · exact h.ob k hk
    · rw [List.mem_singleton.1 hk]; exact hi
  lb := h.lb
  ol := by have := h.ol; simp; omega
theorem EI.setL (h : EI s ga gb n e l o st i s1) {n0 : Nat} {x : Int} (hgb : l.gs = [gb]) (hba : gb ≠ ga) (hsb : s.ctr ≤ gb) (hi : x < (n : Int)) (hL : Row s2.h 1 l ((st.elses.set n0 x).map iC)) (k : Keep l.gs s1 s2) (hga : e.gs = [ga] := by assumption) :
    EI s ga gb n e l o { st with elses := st.elses.set n0 x } i s2 where
  ok0 := h.ok0
  K := h.K.fresh k fun g hg' => by rw [hgb] at hg'; rw [List.mem_singleton.1 hg']; exact h.ok0 gb hsb
  E := h.E.keep k fun g hg' hc => by rw [hga] at hg'; rw [hgb] at hc; exact hba ((List.mem_singleton.1 hc).symm.trans (List.mem_singleton.1 hg'))
  L := hL
  O := h.O.keep k fun g hg' hc => by rw [hgb] at hc; exact (h.og g hg').2.2 (List.mem_singleton.1 hc)
  on := h.on
  og := h.og
  el := h.el
  ll := by simp [h.ll]
  ob := h.ob
  lb := fun k hk => by
    rcases List.mem_or_eq_of_mem_set hk with hk | rfl
    · exact h.lb k hk
    · exact hi
  ol := h.ol
theorem EI.setE (h : EI s ga gb n e l o st i s1) {n0 : Nat} {x : Int} (hga : e.gs = [ga]) (hab : ga ≠ gb) (hsa : s.ctr ≤ ga) (hE : Row s2.h 1 e ((st.ends.set n0 x).map iC)) (k : Keep e.gs s1 s2) (hgb : l.gs = [gb] := by assumption) :
    EI s ga gb n e l o { st with ends := st.ends.set n0 x } i s2 where
  ok0 := h.ok0
  K := h.K.fresh k fun g hg' => by rw [hga] at hg'; rw [List.mem_singleton.1 hg']; exact h.ok0 ga hsa
  E := hE
  L := h.L.keep k fun g hg' hc => by rw [hgb] at hg'; rw [hga] at hc; exact hab ((List.mem_singleton.1 hc).symm.trans (List.mem_singleton.1 hg'))
  O := h.O.keep k fun g hg' hc => by rw [hga] at hc; exact (h.og g hg').2.1 (List.mem_singleton.1 hc)
  on := h.on
  og := h.og
  el := by simp [h.el]
  ll := h.ll
  ob := h.ob
  lb := h.lb
  ol := h.ol
theorem EI.pop (h : EI s ga gb n e l o st i s1) {L0 : List Nat} {o0 : Nat} (ho : st.opn = L0 ++ [o0]) : EI s ga gb n e l (cutA o 0 L0.length) { st with opn := L0 } i s1 where
  ok0 := h.ok0
  K := h.K
  E := h.E
  L := h.L
  O := by
    have := h.O.cutF (h := L0.length) (by rw [ho]; simp)
    rw [ho, List.take_left] at this
    exact this
  on := fun hg => by rw [cutA_gs] at hg; rw [h.on hg]; rfl
  og := fun g hg => by rw [cutA_gs] at hg; exact h.og g hg
  el := h.el
  ll := h.ll
  ob := fun k hk => h.ob k (by rw [ho]; exact List.mem_append_left _ hk)
  lb := h.lb
  ol := by have := h.ol; rw [ho] at this; simp at this; simp only; omega
theorem EI.setO (h : EI s ga gb n e l o st i s1) {L0 : List Nat} {o0 i0 : Nat} (ho : st.opn = L0 ++ [o0]) (hi : i0 < n) (hO : Row s2.h 1 o ((st.opn.set L0.length i0).map nC)) (k : Keep o.gs s1 s2) (hga : e.gs = [ga] := by assumption) (hgb : l.gs = [gb] := by assumption) :
    EI s ga gb n e l o { st with opn := L0 ++ [i0] } i s2 where
  ok0 := h.ok0
  K := h.K.fresh k fun g hg' => h.ok0 g (h.og g hg').1
  E := h.E.keep k fun g hg' hc => by rw [hga] at hg'; exact (h.og g hc).2.1 (List.mem_singleton.1 hg')
  L := h.L.keep k fun g hg' hc => by rw [hgb] at hg'; exact (h.og g hc).2.2 (List.mem_singleton.1 hg')
  O := by
    have e1 : st.opn.set L0.length i0 = L0 ++ [i0] := by rw [ho]; simp
    rw [e1] at hO
    exact hO
  on := h.on
  og := h.og
  el := h.el
  ll := h.ll
  ob := fun k hk => by
    rcases List.mem_append.1 hk with hk | hk
    · exact h.ob k (by rw [ho]; exact List.mem_append_left _ hk)
    · rw [List.mem_singleton.1 hk]; exact hi
  lb := h.lb
  ol := by have := h.ol; rw [ho] at this; simp at this ⊢; exact this
theorem EI.ogs (h : EI s ga gb n e l o st i s1) (ho : 0 < st.opn.length) : o.gs ≠ [] := by
  intro hg
  have hO := h.O
  rw [h.on hg] at hO
  have : st.opn.map nC = [] := hO
  have := congrArg List.length this
  simp at this
  rw [this] at ho
  simp at ho
end
def KindsR (h : Tr Grp) (v : AV) (ks : List Int) : Prop := ∃ css, Row h 4 v css ∧ css.length = ks.length ∧ ∀ (i : Nat) (k : Int) (c : List AV), ks[i]? = some k → css[i]? = some c → ∃ a b d, c = [.int .i64 k, a, b, d]
def EndsOut (r : Option (List Int × List Int)) (v : AV) (h : Tr Grp) : Prop := match r with
  | none => v = .tup [.nils, .nils, .bool false]
  | some (E, L) => ∃ e l, v = .tup [e, l, .bool true] ∧ Row h 1 e (E.map iC) ∧ Row h 1 l (L.map iC) ∧ E.length ≤ 2097152 ∧ L.length ≤ 2097152
set_option maxRecDepth 10000 in
theorem ends_ok {s : St} {v : AV} {ks : List Int} (hok : s.Ok) (hl : ks.length ≤ 2097152) (hv : KindsR s.h v ks) :
    CallS Try.prog Tt 12 [v] s (fun r s' => Keep [] s s' ∧ EndsOut (ends1 ks) r s'.h) := by
  obtain ⟨css, hrv, hlv, hV⟩ := hv
  have hsv : v.slen = some ks.length := hrv.slen.trans (congrArg some hlv)
  refine call_of (fn := Try.f12) (nt := 108) Try.func12 rfl rfl ?_
  repeat refine wc_seq ?_
  refine wc_region ?_
  refine w_val rfl rfl (op_pure rfl) ?_
  refine w_val rfl rfl (op_pure rfl) ?_
  refine w_val rfl rfl (op_pure rfl) ?_
  refine w_nil ?_
  refine then_n ?_
  repeat refine wc_seq ?_
  refine wc_region ?_
  refine w_lit1 (c := [.int .i64 (-1)]) rfl rfl rfl rfl rfl rfl rfl (by decide) (by decide) rfl rfl rfl hok ?_
  rintro x1 s1 hx1 hk1 hc1 -
  have hK := (Keep.refl hok).two hk1
  refine w_val rfl rfl (op_pure rfl) ?_
  refine w_val rfl rfl (op_len rfl rfl rfl rfl rfl (by first | assumption | exact Row.slenF (by assumption) | exact Row.slen (by assumption) | rfl)) ?_
  refine w_call rfl rfl (op_call rfl rfl rfl rfl) (repeat_ok hK.ok (by omega) hx1) ?_
  rintro e s2 ⟨hk2, hc2, hga, he⟩
  have hK := hK.two hk2
  refine w_lit1 (c := [.int .i64 (-1)]) rfl rfl rfl rfl rfl rfl rfl (by decide) (by decide) rfl rfl rfl hK.ok ?_
  rintro x3 s3 hx3 hk3 hc3 -
  have hK := hK.two hk3
  have he := he.keep0 hk3
  refine w_val rfl rfl (op_pure rfl) ?_
  refine w_val rfl rfl (op_len rfl rfl rfl rfl rfl (by first | assumption | exact Row.slenF (by assumption) | exact Row.slen (by assumption) | rfl)) ?_
  refine w_call rfl rfl (op_call rfl rfl rfl rfl) (repeat_ok hK.ok (by omega) hx3) ?_
  rintro l s4 ⟨hk4, hc4, hgb, hl⟩
  have hK := hK.two hk4
  have he := he.keep0 hk4
  generalize hga' : s1.ctr = ga at hga
  generalize hgb' : s3.ctr = gb at hgb
  have hab : ga ≠ gb := by omega
  have hsa : s.ctr ≤ ga := by omega
  have hsb : s.ctr ≤ gb := by omega
  have hI : EI s ga gb ks.length e l .nils ⟨[], List.replicate ks.length (-1), List.replicate ks.length (-1)⟩ 0 s4 :=
    { ok0 := hok, K := hK, E := by rw [List.map_replicate]; exact he, L := by rw [List.map_replicate]; exact hl, O := rfl, on := fun _ => rfl, og := (fun g hg => by cases hg),
      el := by simp, ll := by simp, ob := (fun k hk => by cases hk), lb := (fun k hk => by rw [List.eq_of_mem_replicate hk]; omega), ol := by simp }
  clear hx1 hk1 hc1 he hk2 hc2 hx3 hk3 hc3 hl hk4 hc4 hK hga' hgb'
  refine w_val rfl rfl (op_pure rfl) ?_
  refine w_val rfl rfl (op_pure rfl) ?_
  refine w_nil ?_
  refine then_n ?_
  repeat refine wc_seq ?_
  refine wc_region ?_
  refine w_val rfl rfl (op_pure rfl) ?_
  refine w_nil ?_
  refine then_n ?_
  repeat refine wc_seq ?_
  refine wc_region ?_
  refine w_val rfl rfl (op_pure rfl) ?_
  refine w_val rfl rfl (op_len rfl rfl rfl rfl rfl (by first | assumption | exact Row.slenF (by assumption) | exact Row.slen (by assumption) | rfl)) ?_
  refine w_val rfl rfl (op_pure rfl) ?_
  refine w_nil ?_
  refine then_n ?_
  repeat refine wc_seq ?_
  refine wc_block ?_
  refine wc_loop_at (fun j m s1 => ∃ (i : Nat) (o : AV) (st : E1), j = ks.length - i ∧ i ≤ ks.length ∧ m = [(0, v), (5, e), (6, l), (7, o), (21, v), (22, .int .i64 (ks.length : Nat)), (23, .int .i64 (i : Nat))] ∧ iter1 ks i = some st ∧ EI s ga gb ks.length e l o st i s1) ks.length
    [(0, v), (5, e), (6, l), (7, .nils), (21, v), (22, .int .i64 (ks.length : Nat)), (23, .int .i64 ((0 : Nat) : Int))] (Sub.cons rfl (Sub.cons rfl (Sub.cons rfl (Sub.cons rfl (Sub.cons rfl (Sub.cons rfl (Sub.cons rfl (Sub.nil _)))))))) ⟨0, .nils, _, by simp, by simp, rfl, rfl, hI⟩ ?_
  clear hI
  rintro j m s1 ⟨i, o, st, rfl, hi, rfl, hit, hI⟩
  have hK := hI.K
  repeat refine wc_seq ?_
  refine wc_region ?_
  refine w_val rfl rfl (op_pure rfl) ?_
  refine w_nil ?_
  refine then_n ?_
  repeat refine wc_seq ?_
  refine wc_condT rfl (fun h24 => ?_) (fun h24 => ?_)
  · simp at h24
    refine wc_skip ?_
    refine then_n ?_
    repeat refine wc_seq ?_
    refine wc_block ?_
    repeat refine wc_seq ?_
    obtain ⟨k, hk⟩ : ∃ x, ks[i]? = some x := ⟨_, List.getElem?_eq_getElem h24⟩
    obtain ⟨c0, hc0⟩ : ∃ c, css[i]? = some c := ⟨_, List.getElem?_eq_getElem (by omega)⟩
    obtain ⟨q1, q2, q3, rfl⟩ := hV i k c0 hk hc0
    have hz := (hrv.cells _ (List.mem_of_getElem? hc0)).2
    refine wc_region ?_
    refine w_val rfl rfl (op_pure rfl) ?_
    first | refine w_val rfl rfl (op_idxF rfl rfl (by first | assumption | exact natA_cast _ _ | exact natA_succ _ _ | exact natA_toNat (by omega) | rfl) rfl rfl rfl rfl (by first | assumption | exact Row.keep0 (by assumption) hK) (by first | omega | (simp; done) | (simp; omega))) ?_ | refine w_val rfl rfl (op_idx rfl rfl (by first | assumption | exact natA_cast _ _ | exact natA_succ _ _ | exact natA_toNat (by omega) | rfl) rfl rfl rfl rfl (by first | assumption | exact Row.keep0 (by assumption) hK) (by first | omega | (simp; done) | (simp; omega))) ?_
    refine w_val rfl rfl (op_load rfl rfl (by first | exact Row.mk_pt (by assumption) (by assumption) | exact Pt.fld (Row.mk_pt (by assumption) (by assumption)) _ (Nat.le_of_ble_eq_true rfl) | exact Row.pt (by assumption) (by assumption) | exact Pt.fld (Row.pt (by assumption) (by assumption)) _ (Nat.le_of_ble_eq_true rfl) | assumption | exact Pt.fld (by assumption) _ (Nat.le_of_ble_eq_true rfl) | exact Row.pt (Row.keep0 (by assumption) hK) (by assumption) | exact Pt.fld (Row.pt (Row.keep0 (by assumption) hK) (by assumption)) _ (Nat.le_of_ble_eq_true rfl) | exact Row.mk_pt (Row.keep0 (by assumption) hK) (by assumption) | exact Pt.fld (Row.mk_pt (Row.keep0 (by assumption) hK) (by assumption)) _ (Nat.le_of_ble_eq_true rfl)) rfl) ?_
    refine w_alloc rfl rfl rfl rfl hK.ok ?_
    intro s2 hp hk2 hc2
    have hK := hK.two hk2
    refine w_val rfl rfl (op_pure rfl) ?_
    refine w_store_all rfl rfl rfl rfl rfl (by rfl) hz hK.ok hp (by simp [AV.gs]) ?_
    intro s3 hp' hk3 hc3
    have hp : Pt s3.h (.ptr s1.ctr 0 0) [.int .i64 k, q1, q2, q3] := hp'
    have hI := hI.keep0 (hk2.fresh hk3 (mem_none hI.K.ok))
    clear hk2 hk3 hp'
    have hK := hI.K
    have hE := hI.E
    have hL := hI.L
    have hO := hI.O
    have hol := hI.ol
    refine w_nil ?_
    refine then_n ?_
    repeat refine wc_seq ?_
    refine wc_region ?_
    refine w_val rfl rfl (op_fld rfl rfl rfl rfl (by decide) (by first | exact Row.mk_pt (by assumption) (by assumption) | exact Pt.fld (Row.mk_pt (by assumption) (by assumption)) _ (Nat.le_of_ble_eq_true rfl) | exact Row.pt (by assumption) (by assumption) | exact Pt.fld (Row.pt (by assumption) (by assumption)) _ (Nat.le_of_ble_eq_true rfl) | assumption | exact Pt.fld (by assumption) _ (Nat.le_of_ble_eq_true rfl) | exact Row.pt (Row.keep0 (by assumption) hK) (by assumption) | exact Pt.fld (Row.pt (Row.keep0 (by assumption) hK) (by assumption)) _ (Nat.le_of_ble_eq_true rfl) | exact Row.mk_pt (Row.keep0 (by assumption) hK) (by assumption) | exact Pt.fld (Row.mk_pt (Row.keep0 (by assumption) hK) (by assumption)) _ (Nat.le_of_ble_eq_true rfl)) (Nat.le_of_ble_eq_true rfl)) ?_
    refine w_val rfl rfl (op_load rfl rfl (by first | exact Row.mk_pt (by assumption) (by assumption) | exact Pt.fld (Row.mk_pt (by assumption) (by assumption)) _ (Nat.le_of_ble_eq_true rfl) | exact Row.pt (by assumption) (by assumption) | exact Pt.fld (Row.pt (by assumption) (by assumption)) _ (Nat.le_of_ble_eq_true rfl) | assumption | exact Pt.fld (by assumption) _ (Nat.le_of_ble_eq_true rfl) | exact Row.pt (Row.keep0 (by assumption) hK) (by assumption) | exact Pt.fld (Row.pt (Row.keep0 (by assumption) hK) (by assumption)) _ (Nat.le_of_ble_eq_true rfl) | exact Row.mk_pt (Row.keep0 (by assumption) hK) (by assumption) | exact Pt.fld (Row.mk_pt (Row.keep0 (by assumption) hK) (by assumption)) _ (Nat.le_of_ble_eq_true rfl)) rfl) ?_
    refine w_nil ?_
    refine then_n ?_
    refine wc_cut (fun m' s' => ∃ (o' : AV) (st' : E1), Sub [(0, v), (5, e), (6, l), (7, o'), (21, v), (22, .int .i64 (ks.length : Nat)), (23, .int .i64 (i : Nat))] m' ∧ step1 ks i st = some st' ∧ EI s ga gb ks.length e l o' st' (i + 1) s') ?_ ?_
    · refine wc_block ?_
      repeat refine wc_seq ?_
      refine wc_region ?_
      refine w_val rfl rfl (op_pure rfl) ?_
      refine w_val rfl rfl (op_pure rfl) ?_
      refine w_nil ?_
      refine then_n ?_
      repeat refine wc_seq ?_
      refine wc_condT rfl (fun h30 => ?_) (fun h30 => ?_)
      · simp at h30
        refine wc_skip ?_
        refine then_n ?_
        refine wc_cond_t rfl ?_
        refine wc_region ?_
        refine w_val rfl rfl (op_pure rfl) ?_
        refine w_val rfl rfl (op_pure rfl) ?_
        refine w_lit1 (c := nC i) rfl rfl rfl rfl rfl rfl rfl (by decide) (by decide) rfl rfl rfl hK.ok ?_
        rintro x4 s4 hx4 hk4 hc4 -
        have hI := hI.keep0 hk4
        have hK := hI.K
        have hE := hI.E
        have hL := hI.L
        have hO := hI.O
        have hol := hI.ol
        refine w_append (ns := [i].map nC) rfl rfl rfl rfl rfl rfl rfl rfl rfl (by decide) hK.ok hO hI.on hx4 (by simp only [List.length_map, List.length_nil, List.length_append, List.length_cons, List.length_singleton, maxBytes]; have := hI.ol; omega) (by simp only [List.length_map, List.length_nil, List.length_append, List.length_cons, List.length_singleton, maxBytes]; have := hI.ol; omega) ?_
        rintro o5 s5 ho5 hk5 - hg5 hn5 -
        have hI := hI.push (i0 := i) (by omega) (by omega) (by rw [← List.map_append] at ho5; exact ho5) hk5 hg5 hn5
        refine w_val rfl rfl (op_pure rfl) ?_
        refine w_nil ?_
        refine out_n ?_
        refine cut_n ?_
        exact ⟨_, _, (Sub.cons rfl (Sub.cons rfl (Sub.cons rfl (Sub.cons rfl (Sub.cons rfl (Sub.cons rfl (Sub.cons rfl (Sub.nil _)))))))), step1_open hk (.inl h30), hI⟩
      simp at h30
      refine wc_region ?_
      refine w_val rfl rfl (op_pure rfl) ?_
      refine w_val rfl rfl (op_pure rfl) ?_
      refine w_nil ?_
      refine then_n ?_
      refine wc_condT rfl (fun h30 => ?_) (fun h30 => ?_)
      · simp at h30
        refine wc_region ?_
        refine w_val rfl rfl (op_pure rfl) ?_
        refine w_val rfl rfl (op_pure rfl) ?_
        refine w_lit1 (c := nC i) rfl rfl rfl rfl rfl rfl rfl (by decide) (by decide) rfl rfl rfl hK.ok ?_
        rintro x4 s4 hx4 hk4 hc4 -
        have hI := hI.keep0 hk4
        have hK := hI.K
        have hE := hI.E
        have hL := hI.L
        have hO := hI.O
        have hol := hI.ol
        refine w_append (ns := [i].map nC) rfl rfl rfl rfl rfl rfl rfl rfl rfl (by decide) hK.ok hO hI.on hx4 (by simp only [List.length_map, List.length_nil, List.length_append, List.length_cons, List.length_singleton, maxBytes]; have := hI.ol; omega) (by simp only [List.length_map, List.length_nil, List.length_append, List.length_cons, List.length_singleton, maxBytes]; have := hI.ol; omega) ?_
        rintro o5 s5 ho5 hk5 - hg5 hn5 -
        have hI := hI.push (i0 := i) (by omega) (by omega) (by rw [← List.map_append] at ho5; exact ho5) hk5 hg5 hn5
        refine w_val rfl rfl (op_pure rfl) ?_
        refine w_nil ?_
        refine out_n ?_
        refine cut_n ?_
        exact ⟨_, _, (Sub.cons rfl (Sub.cons rfl (Sub.cons rfl (Sub.cons rfl (Sub.cons rfl (Sub.cons rfl (Sub.cons rfl (Sub.nil _)))))))), step1_open hk (.inr h30), hI⟩
      simp at h30
      repeat refine wc_seq ?_
      refine wc_region ?_
      refine w_val rfl rfl (op_pure rfl) ?_
      refine w_val rfl rfl (op_pure rfl) ?_
      refine w_nil ?_
      refine then_n ?_
      refine wc_condT rfl (fun h37 => ?_) (fun h37 => ?_)
      · simp at h37
        repeat refine wc_seq ?_
        refine wc_region ?_
        refine w_val rfl rfl (op_pure rfl) ?_
        refine w_val rfl rfl (op_len rfl rfl rfl rfl rfl (by first | assumption | exact Row.slenF (by assumption) | exact Row.slen (by assumption) | rfl)) ?_
        refine w_val rfl rfl (op_sub rfl rfl (by unfold In64; omega)) ?_
        refine w_val rfl rfl (op_pure rfl) ?_
        refine w_nil ?_
        refine then_n ?_
        repeat refine wc_seq ?_
        refine wc_region ?_
        refine w_val rfl rfl (op_pure rfl) ?_
        refine w_val rfl rfl (op_pure rfl) ?_
        refine w_val rfl rfl (op_pure rfl) ?_
        refine w_split (i := 44) rfl (fun h44 => ?_) (fun h44 => ?_)
        · simp at h44
          have hno : st.opn = [] := List.eq_nil_of_length_eq_zero (by omega)
          refine w_off rfl rfl ?_
          refine w_off rfl rfl ?_
          refine w_off rfl rfl ?_
          refine w_off rfl rfl ?_
          refine w_off rfl rfl ?_
          refine w_off rfl rfl ?_
          refine w_off rfl rfl ?_
          refine w_off rfl rfl ?_
          refine w_off rfl rfl ?_
          refine w_val rfl rfl (op_pure rfl) ?_
          refine w_val rfl rfl (op_pure rfl) ?_
          refine w_off rfl rfl ?_
          refine w_off rfl rfl ?_
          refine w_off rfl rfl ?_
          refine w_off rfl rfl ?_
          refine w_off rfl rfl ?_
          refine w_off rfl rfl ?_
          refine w_off rfl rfl ?_
          refine w_off rfl rfl ?_
          refine w_val rfl rfl (op_pure rfl) ?_
          refine w_nil ?_
          refine then_n ?_
          repeat refine wc_seq ?_
          refine wc_cond_t rfl ?_
          repeat refine wc_seq ?_
          refine wc_region ?_
          refine w_val rfl rfl (op_pure rfl) ?_
          refine w_val rfl rfl (op_pure rfl) ?_
          refine w_val rfl rfl (op_pure rfl) ?_
          refine w_nil ?_
          refine then_n ?_
          refine wc_ret ?_
          repeat first | refine then_r ?_ | refine out_r ?_ | refine round_r ?_ | refine cut_r ?_
          refine ⟨_, rfl, hK, ?_⟩
          rw [ends1_none hit h24 (step1_else_nil hk h37 hno)]
          rfl
        simp at h44
        obtain ⟨L0, o0, hop⟩ := snoc_of (l := st.opn) (by omega)
        have hln : st.opn.length = L0.length + 1 := by rw [hop]; simp
        have hix : natA (.int .i64 ((st.opn.length : Int) - 1)) = some L0.length := by
          rw [hln]; have : (((L0.length + 1 : Nat) : Int) - 1) = ((L0.length : Nat) : Int) := by omega
          rw [this]; exact natA_cast _ _
        have hgt : st.opn[L0.length]? = some o0 := by rw [hop]; simp
        have ho0 : o0 < ks.length := hI.ob o0 (List.mem_of_getElem? hgt)
        have hel := hI.el
        have hll := hI.ll
        obtain ⟨x0, hx0⟩ : ∃ x, st.elses[o0]? = some x := ⟨_, List.getElem?_eq_getElem (by omega)⟩
        have hx0n : x0 < (ks.length : Int) := hI.lb x0 (List.mem_of_getElem? hx0)
        obtain ⟨k0, hk0⟩ : ∃ x, ks[o0]? = some x := ⟨_, List.getElem?_eq_getElem ho0⟩
        obtain ⟨c1, hc1⟩ : ∃ c, css[o0]? = some c := ⟨_, List.getElem?_eq_getElem (by omega)⟩
        obtain ⟨w1, w2, w3, rfl⟩ := hV o0 k0 c1 hk0 hc1
        refine w_val rfl rfl (op_pure rfl) ?_
        refine w_val rfl rfl (op_pure rfl) ?_
        refine w_val rfl rfl (op_pure rfl) ?_
        first | refine w_val rfl rfl (op_idxF rfl rfl (by first | assumption | exact natA_cast _ _ | exact natA_succ _ _ | exact natA_toNat (by omega) | rfl) rfl rfl rfl rfl (by first | assumption | exact Row.keep0 (by assumption) hK) (by first | omega | (simp; done) | (simp; omega))) ?_ | refine w_val rfl rfl (op_idx rfl rfl (by first | assumption | exact natA_cast _ _ | exact natA_succ _ _ | exact natA_toNat (by omega) | rfl) rfl rfl rfl rfl (by first | assumption | exact Row.keep0 (by assumption) hK) (by first | omega | (simp; done) | (simp; omega))) ?_
        refine w_val rfl rfl (op_load rfl rfl (by first | exact Row.mk_pt (by assumption) (by assumption) | exact Pt.fld (Row.mk_pt (by assumption) (by assumption)) _ (Nat.le_of_ble_eq_true rfl) | exact Row.pt (by assumption) (by assumption) | exact Pt.fld (Row.pt (by assumption) (by assumption)) _ (Nat.le_of_ble_eq_true rfl) | assumption | exact Pt.fld (by assumption) _ (Nat.le_of_ble_eq_true rfl) | exact Row.pt (Row.keep0 (by assumption) hK) (by assumption) | exact Pt.fld (Row.pt (Row.keep0 (by assumption) hK) (by assumption)) _ (Nat.le_of_ble_eq_true rfl) | exact Row.mk_pt (Row.keep0 (by assumption) hK) (by assumption) | exact Pt.fld (Row.mk_pt (Row.keep0 (by assumption) hK) (by assumption)) _ (Nat.le_of_ble_eq_true rfl)) rfl) ?_
        first | refine w_val rfl rfl (op_idxF rfl rfl (by first | assumption | exact natA_cast _ _ | exact natA_succ _ _ | exact natA_toNat (by omega) | rfl) rfl rfl rfl rfl (by first | assumption | exact Row.keep0 (by assumption) hK) (by first | omega | (simp; done) | (simp; omega))) ?_ | refine w_val rfl rfl (op_idx rfl rfl (by first | assumption | exact natA_cast _ _ | exact natA_succ _ _ | exact natA_toNat (by omega) | rfl) rfl rfl rfl rfl (by first | assumption | exact Row.keep0 (by assumption) hK) (by first | omega | (simp; done) | (simp; omega))) ?_
        refine w_val rfl rfl (op_fld rfl rfl rfl rfl (by decide) (by first | exact Row.mk_pt (by assumption) (by assumption) | exact Pt.fld (Row.mk_pt (by assumption) (by assumption)) _ (Nat.le_of_ble_eq_true rfl) | exact Row.pt (by assumption) (by assumption) | exact Pt.fld (Row.pt (by assumption) (by assumption)) _ (Nat.le_of_ble_eq_true rfl) | assumption | exact Pt.fld (by assumption) _ (Nat.le_of_ble_eq_true rfl) | exact Row.pt (Row.keep0 (by assumption) hK) (by assumption) | exact Pt.fld (Row.pt (Row.keep0 (by assumption) hK) (by assumption)) _ (Nat.le_of_ble_eq_true rfl) | exact Row.mk_pt (Row.keep0 (by assumption) hK) (by assumption) | exact Pt.fld (Row.mk_pt (Row.keep0 (by assumption) hK) (by assumption)) _ (Nat.le_of_ble_eq_true rfl)) (Nat.le_of_ble_eq_true rfl)) ?_
        refine w_val rfl rfl (op_load rfl rfl (by first | exact Row.mk_pt (by assumption) (by assumption) | exact Pt.fld (Row.mk_pt (by assumption) (by assumption)) _ (Nat.le_of_ble_eq_true rfl) | exact Row.pt (by assumption) (by assumption) | exact Pt.fld (Row.pt (by assumption) (by assumption)) _ (Nat.le_of_ble_eq_true rfl) | assumption | exact Pt.fld (by assumption) _ (Nat.le_of_ble_eq_true rfl) | exact Row.pt (Row.keep0 (by assumption) hK) (by assumption) | exact Pt.fld (Row.pt (Row.keep0 (by assumption) hK) (by assumption)) _ (Nat.le_of_ble_eq_true rfl) | exact Row.mk_pt (Row.keep0 (by assumption) hK) (by assumption) | exact Pt.fld (Row.mk_pt (Row.keep0 (by assumption) hK) (by assumption)) _ (Nat.le_of_ble_eq_true rfl)) rfl) ?_
        refine w_val rfl rfl (op_pure rfl) ?_
        refine w_val rfl rfl (op_pure rfl) ?_
        refine w_val rfl rfl (op_pure rfl) ?_
        refine w_split (i := 55) rfl (fun h55 => ?_) (fun h55 => ?_)
        · simp at h55
          refine w_off rfl rfl ?_
          refine w_off rfl rfl ?_
          refine w_off rfl rfl ?_
          refine w_off rfl rfl ?_
          refine w_off rfl rfl ?_
          refine w_off rfl rfl ?_
          refine w_off rfl rfl ?_
          refine w_off rfl rfl ?_
          refine w_val rfl rfl (op_pure rfl) ?_
          refine w_nil ?_
          refine then_n ?_
          repeat refine wc_seq ?_
          refine wc_cond_t rfl ?_
          repeat refine wc_seq ?_
          refine wc_region ?_
          refine w_val rfl rfl (op_pure rfl) ?_
          refine w_val rfl rfl (op_pure rfl) ?_
          refine w_val rfl rfl (op_pure rfl) ?_
          refine w_nil ?_
          refine then_n ?_
          refine wc_ret ?_
          repeat first | refine then_r ?_ | refine out_r ?_ | refine round_r ?_ | refine cut_r ?_
          refine ⟨_, rfl, hK, ?_⟩
          rw [ends1_none hit h24 (step1_else_kind hk h37 hop hk0 h55)]
          rfl
        simp at h55
        refine w_val rfl rfl (op_pure rfl) ?_
        refine w_val rfl rfl (op_pure rfl) ?_
        refine w_val rfl rfl (op_pure rfl) ?_
        first | refine w_val rfl rfl (op_idxF rfl rfl (by first | assumption | exact natA_cast _ _ | exact natA_succ _ _ | exact natA_toNat (by omega) | rfl) rfl rfl rfl rfl (by first | assumption | exact Row.keep0 (by assumption) hK) (by first | omega | (simp; done) | (simp; omega))) ?_ | refine w_val rfl rfl (op_idx rfl rfl (by first | assumption | exact natA_cast _ _ | exact natA_succ _ _ | exact natA_toNat (by omega) | rfl) rfl rfl rfl rfl (by first | assumption | exact Row.keep0 (by assumption) hK) (by first | omega | (simp; done) | (simp; omega))) ?_
        refine w_val rfl rfl (op_load rfl rfl (by first | exact Row.mk_pt (by assumption) (by assumption) | exact Pt.fld (Row.mk_pt (by assumption) (by assumption)) _ (Nat.le_of_ble_eq_true rfl) | exact Row.pt (by assumption) (by assumption) | exact Pt.fld (Row.pt (by assumption) (by assumption)) _ (Nat.le_of_ble_eq_true rfl) | assumption | exact Pt.fld (by assumption) _ (Nat.le_of_ble_eq_true rfl) | exact Row.pt (Row.keep0 (by assumption) hK) (by assumption) | exact Pt.fld (Row.pt (Row.keep0 (by assumption) hK) (by assumption)) _ (Nat.le_of_ble_eq_true rfl) | exact Row.mk_pt (Row.keep0 (by assumption) hK) (by assumption) | exact Pt.fld (Row.mk_pt (Row.keep0 (by assumption) hK) (by assumption)) _ (Nat.le_of_ble_eq_true rfl)) rfl) ?_
        first | refine w_val rfl rfl (op_idxF rfl rfl (by first | assumption | exact natA_cast _ _ | exact natA_succ _ _ | exact natA_toNat (by omega) | rfl) rfl rfl rfl rfl (by first | assumption | exact Row.keep0 (by assumption) hK) (by first | omega | (simp; done) | (simp; omega))) ?_ | refine w_val rfl rfl (op_idx rfl rfl (by first | assumption | exact natA_cast _ _ | exact natA_succ _ _ | exact natA_toNat (by omega) | rfl) rfl rfl rfl rfl (by first | assumption | exact Row.keep0 (by assumption) hK) (by first | omega | (simp; done) | (simp; omega))) ?_
        refine w_val rfl rfl (op_load rfl rfl (by first | exact Row.mk_pt (by assumption) (by assumption) | exact Pt.fld (Row.mk_pt (by assumption) (by assumption)) _ (Nat.le_of_ble_eq_true rfl) | exact Row.pt (by assumption) (by assumption) | exact Pt.fld (Row.pt (by assumption) (by assumption)) _ (Nat.le_of_ble_eq_true rfl) | assumption | exact Pt.fld (by assumption) _ (Nat.le_of_ble_eq_true rfl) | exact Row.pt (Row.keep0 (by assumption) hK) (by assumption) | exact Pt.fld (Row.pt (Row.keep0 (by assumption) hK) (by assumption)) _ (Nat.le_of_ble_eq_true rfl) | exact Row.mk_pt (Row.keep0 (by assumption) hK) (by assumption) | exact Pt.fld (Row.mk_pt (Row.keep0 (by assumption) hK) (by assumption)) _ (Nat.le_of_ble_eq_true rfl)) rfl) ?_
        refine w_val rfl rfl (op_pure rfl) ?_
        refine w_val rfl rfl (op_pure rfl) ?_
        refine w_nil ?_
        refine then_n ?_
        repeat refine wc_seq ?_
        refine wc_condT rfl (fun h64 => ?_) (fun h64 => ?_)
        · simp at h64
          repeat refine wc_seq ?_
          refine wc_region ?_
          refine w_val rfl rfl (op_pure rfl) ?_
          refine w_val rfl rfl (op_pure rfl) ?_
          refine w_val rfl rfl (op_pure rfl) ?_
          refine w_nil ?_
          refine then_n ?_
          refine wc_ret ?_
          repeat first | refine then_r ?_ | refine out_r ?_ | refine round_r ?_ | refine cut_r ?_
          refine ⟨_, rfl, hK, ?_⟩
          rw [ends1_none hit h24 (step1_else_two hk h37 hop hx0 h64)]
          rfl
        simp at h64
        refine wc_skip ?_
        refine then_n ?_
        refine wc_region ?_
        refine w_val rfl rfl (op_pure rfl) ?_
        refine w_val rfl rfl (op_pure rfl) ?_
        refine w_val rfl rfl (op_pure rfl) ?_
        first | refine w_val rfl rfl (op_idxF rfl rfl (by first | assumption | exact natA_cast _ _ | exact natA_succ _ _ | exact natA_toNat (by omega) | rfl) rfl rfl rfl rfl (by first | assumption | exact Row.keep0 (by assumption) hK) (by first | omega | (simp; done) | (simp; omega))) ?_ | refine w_val rfl rfl (op_idx rfl rfl (by first | assumption | exact natA_cast _ _ | exact natA_succ _ _ | exact natA_toNat (by omega) | rfl) rfl rfl rfl rfl (by first | assumption | exact Row.keep0 (by assumption) hK) (by first | omega | (simp; done) | (simp; omega))) ?_
        refine w_val rfl rfl (op_load rfl rfl (by first | exact Row.mk_pt (by assumption) (by assumption) | exact Pt.fld (Row.mk_pt (by assumption) (by assumption)) _ (Nat.le_of_ble_eq_true rfl) | exact Row.pt (by assumption) (by assumption) | exact Pt.fld (Row.pt (by assumption) (by assumption)) _ (Nat.le_of_ble_eq_true rfl) | assumption | exact Pt.fld (by assumption) _ (Nat.le_of_ble_eq_true rfl) | exact Row.pt (Row.keep0 (by assumption) hK) (by assumption) | exact Pt.fld (Row.pt (Row.keep0 (by assumption) hK) (by assumption)) _ (Nat.le_of_ble_eq_true rfl) | exact Row.mk_pt (Row.keep0 (by assumption) hK) (by assumption) | exact Pt.fld (Row.mk_pt (Row.keep0 (by assumption) hK) (by assumption)) _ (Nat.le_of_ble_eq_true rfl)) rfl) ?_
        refine w_val rfl rfl (op_pure rfl) ?_
        first | refine w_val rfl rfl (op_idxF rfl rfl (by first | assumption | exact natA_cast _ _ | exact natA_succ _ _ | exact natA_toNat (by omega) | rfl) rfl rfl rfl rfl (by first | assumption | exact Row.keep0 (by assumption) hK) (by first | omega | (simp; done) | (simp; omega))) ?_ | refine w_val rfl rfl (op_idx rfl rfl (by first | assumption | exact natA_cast _ _ | exact natA_succ _ _ | exact natA_toNat (by omega) | rfl) rfl rfl rfl rfl (by first | assumption | exact Row.keep0 (by assumption) hK) (by first | omega | (simp; done) | (simp; omega))) ?_
        refine w_store_rowF (f := iC) (xs := st.elses) (n := o0) (y := i) rfl rfl rfl rfl rfl rfl rfl rfl hI.K.ok hL (by rw [hgb]; exact fun h => by cases h) (by omega) ?_
        intro s5 hL5 hk5 hc5
        have hI := hI.setL hgb hab.symm hsb (by omega) hL5 hk5
        clear hk5
        have hK := hI.K
        have hE := hI.E
        have hL := hI.L
        have hO := hI.O
        have hol := hI.ol
        refine w_nil ?_
        refine out_n ?_
        refine cut_n ?_
        exact ⟨_, _, (Sub.cons rfl (Sub.cons rfl (Sub.cons rfl (Sub.cons rfl (Sub.cons rfl (Sub.cons rfl (Sub.cons rfl (Sub.nil _)))))))), step1_else hk h37 hop (h55 ▸ hk0) hx0 h64, hI.next⟩
      simp at h37
      repeat refine wc_seq ?_
      refine wc_region ?_
      refine w_val rfl rfl (op_pure rfl) ?_
      refine w_val rfl rfl (op_pure rfl) ?_
      refine w_nil ?_
      refine then_n ?_
      refine wc_condT rfl (fun h72 => ?_) (fun h72 => ?_)
      · simp at h72
        repeat refine wc_seq ?_
        refine wc_region ?_
        refine w_val rfl rfl (op_pure rfl) ?_
        refine w_val rfl rfl (op_len rfl rfl rfl rfl rfl (by first | assumption | exact Row.slenF (by assumption) | exact Row.slen (by assumption) | rfl)) ?_
        refine w_val rfl rfl (op_sub rfl rfl (by unfold In64; omega)) ?_
        refine w_val rfl rfl (op_pure rfl) ?_
        refine w_nil ?_
        refine then_n ?_
        repeat refine wc_seq ?_
        refine wc_region ?_
        refine w_val rfl rfl (op_pure rfl) ?_
        refine w_val rfl rfl (op_pure rfl) ?_
        refine w_nil ?_
        refine then_n ?_
        repeat refine wc_seq ?_
        refine wc_condT rfl (fun h78 => ?_) (fun h78 => ?_)
        · simp at h78
          repeat refine wc_seq ?_
          refine wc_region ?_
          refine w_val rfl rfl (op_pure rfl) ?_
          refine w_val rfl rfl (op_pure rfl) ?_
          refine w_val rfl rfl (op_pure rfl) ?_
          refine w_nil ?_
          refine then_n ?_
          refine wc_ret ?_
          repeat first | refine then_r ?_ | refine out_r ?_ | refine round_r ?_ | refine cut_r ?_
          refine ⟨_, rfl, hK, ?_⟩
          rw [ends1_none hit h24 (step1_end_nil hk h72 (List.eq_nil_of_length_eq_zero (by omega)))]
          rfl
        simp at h78
        obtain ⟨L0, o0, hop⟩ := snoc_of (l := st.opn) (by omega)
        have hln : st.opn.length = L0.length + 1 := by rw [hop]; simp
        have hix : natA (.int .i64 ((st.opn.length : Int) - 1)) = some L0.length := by
          rw [hln]; have : (((L0.length + 1 : Nat) : Int) - 1) = ((L0.length : Nat) : Int) := by omega
          rw [this]; exact natA_cast _ _
        have hgt : st.opn[L0.length]? = some o0 := by rw [hop]; simp
        have ho0 : o0 < ks.length := hI.ob o0 (List.mem_of_getElem? hgt)
        have hel := hI.el
        have hll := hI.ll
        obtain ⟨x0, hx0⟩ : ∃ x, st.elses[o0]? = some x := ⟨_, List.getElem?_eq_getElem (by omega)⟩
        have hx0n : x0 < (ks.length : Int) := hI.lb x0 (List.mem_of_getElem? hx0)
        refine wc_skip ?_
        refine then_n ?_
        repeat refine wc_seq ?_
        refine wc_region ?_
        refine w_val rfl rfl (op_pure rfl) ?_
        refine w_val rfl rfl (op_pure rfl) ?_
        refine w_val rfl rfl (op_pure rfl) ?_
        first | refine w_val rfl rfl (op_idxF rfl rfl (by first | assumption | exact natA_cast _ _ | exact natA_succ _ _ | exact natA_toNat (by omega) | rfl) rfl rfl rfl rfl (by first | assumption | exact Row.keep0 (by assumption) hK) (by first | omega | (simp; done) | (simp; omega))) ?_ | refine w_val rfl rfl (op_idx rfl rfl (by first | assumption | exact natA_cast _ _ | exact natA_succ _ _ | exact natA_toNat (by omega) | rfl) rfl rfl rfl rfl (by first | assumption | exact Row.keep0 (by assumption) hK) (by first | omega | (simp; done) | (simp; omega))) ?_
        refine w_val rfl rfl (op_load rfl rfl (by first | exact Row.mk_pt (by assumption) (by assumption) | exact Pt.fld (Row.mk_pt (by assumption) (by assumption)) _ (Nat.le_of_ble_eq_true rfl) | exact Row.pt (by assumption) (by assumption) | exact Pt.fld (Row.pt (by assumption) (by assumption)) _ (Nat.le_of_ble_eq_true rfl) | assumption | exact Pt.fld (by assumption) _ (Nat.le_of_ble_eq_true rfl) | exact Row.pt (Row.keep0 (by assumption) hK) (by assumption) | exact Pt.fld (Row.pt (Row.keep0 (by assumption) hK) (by assumption)) _ (Nat.le_of_ble_eq_true rfl) | exact Row.mk_pt (Row.keep0 (by assumption) hK) (by assumption) | exact Pt.fld (Row.mk_pt (Row.keep0 (by assumption) hK) (by assumption)) _ (Nat.le_of_ble_eq_true rfl)) rfl) ?_
        refine w_val rfl rfl (op_pure rfl) ?_
        first | refine w_val rfl rfl (op_idxF rfl rfl (by first | assumption | exact natA_cast _ _ | exact natA_succ _ _ | exact natA_toNat (by omega) | rfl) rfl rfl rfl rfl (by first | assumption | exact Row.keep0 (by assumption) hK) (by first | omega | (simp; done) | (simp; omega))) ?_ | refine w_val rfl rfl (op_idx rfl rfl (by first | assumption | exact natA_cast _ _ | exact natA_succ _ _ | exact natA_toNat (by omega) | rfl) rfl rfl rfl rfl (by first | assumption | exact Row.keep0 (by assumption) hK) (by first | omega | (simp; done) | (simp; omega))) ?_
        refine w_store_rowF (f := iC) (xs := st.ends) (n := o0) (y := i) rfl rfl rfl rfl rfl rfl rfl rfl hI.K.ok hE (by rw [hga]; exact fun h => by cases h) (by omega) ?_
        intro s5 hE5 hk5 hc5
        have hI := hI.setE hga hab hsa hE5 hk5
        clear hk5
        have hK := hI.K
        have hE := hI.E
        have hL := hI.L
        have hO := hI.O
        have hol := hI.ol
        have hel := hI.el
        simp only at hel
        refine w_nil ?_
        refine then_n ?_
        repeat refine wc_seq ?_
        refine wc_region ?_
        refine w_val rfl rfl (op_pure rfl) ?_
        refine w_val rfl rfl (op_pure rfl) ?_
        refine w_val rfl rfl (op_pure rfl) ?_
        first | refine w_val rfl rfl (op_idxF rfl rfl (by first | assumption | exact natA_cast _ _ | exact natA_succ _ _ | exact natA_toNat (by omega) | rfl) rfl rfl rfl rfl (by first | assumption | exact Row.keep0 (by assumption) hK) (by first | omega | (simp; done) | (simp; omega))) ?_ | refine w_val rfl rfl (op_idx rfl rfl (by first | assumption | exact natA_cast _ _ | exact natA_succ _ _ | exact natA_toNat (by omega) | rfl) rfl rfl rfl rfl (by first | assumption | exact Row.keep0 (by assumption) hK) (by first | omega | (simp; done) | (simp; omega))) ?_
        refine w_val rfl rfl (op_load rfl rfl (by first | exact Row.mk_pt (by assumption) (by assumption) | exact Pt.fld (Row.mk_pt (by assumption) (by assumption)) _ (Nat.le_of_ble_eq_true rfl) | exact Row.pt (by assumption) (by assumption) | exact Pt.fld (Row.pt (by assumption) (by assumption)) _ (Nat.le_of_ble_eq_true rfl) | assumption | exact Pt.fld (by assumption) _ (Nat.le_of_ble_eq_true rfl) | exact Row.pt (Row.keep0 (by assumption) hK) (by assumption) | exact Pt.fld (Row.pt (Row.keep0 (by assumption) hK) (by assumption)) _ (Nat.le_of_ble_eq_true rfl) | exact Row.mk_pt (Row.keep0 (by assumption) hK) (by assumption) | exact Pt.fld (Row.mk_pt (Row.keep0 (by assumption) hK) (by assumption)) _ (Nat.le_of_ble_eq_true rfl)) rfl) ?_
        first | refine w_val rfl rfl (op_idxF rfl rfl (by first | assumption | exact natA_cast _ _ | exact natA_succ _ _ | exact natA_toNat (by omega) | rfl) rfl rfl rfl rfl (by first | assumption | exact Row.keep0 (by assumption) hK) (by first | omega | (simp; done) | (simp; omega))) ?_ | refine w_val rfl rfl (op_idx rfl rfl (by first | assumption | exact natA_cast _ _ | exact natA_succ _ _ | exact natA_toNat (by omega) | rfl) rfl rfl rfl rfl (by first | assumption | exact Row.keep0 (by assumption) hK) (by first | omega | (simp; done) | (simp; omega))) ?_
        refine w_val rfl rfl (op_load rfl rfl (by first | exact Row.mk_pt (by assumption) (by assumption) | exact Pt.fld (Row.mk_pt (by assumption) (by assumption)) _ (Nat.le_of_ble_eq_true rfl) | exact Row.pt (by assumption) (by assumption) | exact Pt.fld (Row.pt (by assumption) (by assumption)) _ (Nat.le_of_ble_eq_true rfl) | assumption | exact Pt.fld (by assumption) _ (Nat.le_of_ble_eq_true rfl) | exact Row.pt (Row.keep0 (by assumption) hK) (by assumption) | exact Pt.fld (Row.pt (Row.keep0 (by assumption) hK) (by assumption)) _ (Nat.le_of_ble_eq_true rfl) | exact Row.mk_pt (Row.keep0 (by assumption) hK) (by assumption) | exact Pt.fld (Row.mk_pt (Row.keep0 (by assumption) hK) (by assumption)) _ (Nat.le_of_ble_eq_true rfl)) rfl) ?_
        refine w_val rfl rfl (op_pure rfl) ?_
        refine w_nil ?_
        refine then_n ?_
        repeat refine wc_seq ?_
        refine wc_region ?_
        refine w_val rfl rfl (op_pure rfl) ?_
        refine w_val rfl rfl (op_pure rfl) ?_
        refine w_nil ?_
        refine then_n ?_
        repeat refine wc_seq ?_
        refine wc_condT rfl (fun h94 => ?_) (fun h94 => ?_)
        · simp at h94
          refine wc_region ?_
          refine w_val rfl rfl (op_pure rfl) ?_
          refine w_val rfl rfl (op_pure rfl) ?_
          refine w_val rfl rfl (op_pure rfl) ?_
          first | refine w_val rfl rfl (op_idxF rfl rfl (by first | assumption | exact natA_cast _ _ | exact natA_succ _ _ | exact natA_toNat (by omega) | rfl) rfl rfl rfl rfl (by first | assumption | exact Row.keep0 (by assumption) hK) (by first | omega | (simp; done) | (simp; omega))) ?_ | refine w_val rfl rfl (op_idx rfl rfl (by first | assumption | exact natA_cast _ _ | exact natA_succ _ _ | exact natA_toNat (by omega) | rfl) rfl rfl rfl rfl (by first | assumption | exact Row.keep0 (by assumption) hK) (by first | omega | (simp; done) | (simp; omega))) ?_
          refine w_store_rowF (f := iC) (xs := (st.ends.set o0 i)) (n := x0.toNat) (y := i) rfl rfl rfl rfl rfl rfl rfl rfl hI.K.ok hE (by rw [hga]; exact fun h => by cases h) (by omega) ?_
          intro s6 hE6 hk6 hc6
          have hI := hI.setE hga hab hsa hE6 hk6
          clear hk6
          have hK := hI.K
          have hE := hI.E
          have hL := hI.L
          have hO := hI.O
          have hol := hI.ol
          refine w_nil ?_
          refine then_n ?_
          refine wc_region ?_
          refine w_val rfl rfl (op_pure rfl) ?_
          refine w_val rfl rfl (op_pure rfl) ?_
          refine w_val rfl rfl (op_cut (l := none) (h := some L0.length) (l' := 0) (h' := L0.length) rfl rfl (optY_some rfl hix) rfl rfl rfl rfl hO rfl rfl (Nat.zero_le _) (by simp; omega)) ?_
          have hI := hI.pop hop
          refine w_val rfl rfl (op_pure rfl) ?_
          refine w_nil ?_
          refine out_n ?_
          refine cut_n ?_
          exact ⟨_, _, (Sub.cons rfl (Sub.cons rfl (Sub.cons rfl (Sub.cons rfl (Sub.cons rfl (Sub.cons rfl (Sub.cons rfl (Sub.nil _)))))))), step1_end2 hk h72 hop hx0 h94, hI.next⟩
        simp at h94
        refine wc_skip ?_
        refine then_n ?_
        refine wc_region ?_
        refine w_val rfl rfl (op_pure rfl) ?_
        refine w_val rfl rfl (op_pure rfl) ?_
        refine w_val rfl rfl (op_cut (l := none) (h := some L0.length) (l' := 0) (h' := L0.length) rfl rfl (optY_some rfl hix) rfl rfl rfl rfl hO rfl rfl (Nat.zero_le _) (by simp; omega)) ?_
        have hI := hI.pop hop
        refine w_val rfl rfl (op_pure rfl) ?_
        refine w_nil ?_
        refine out_n ?_
        refine cut_n ?_
        exact ⟨_, _, (Sub.cons rfl (Sub.cons rfl (Sub.cons rfl (Sub.cons rfl (Sub.cons rfl (Sub.cons rfl (Sub.cons rfl (Sub.nil _)))))))), step1_end1 hk h72 hop hx0 h94, hI.next⟩
      simp at h72
      refine wc_skip ?_
      refine out_n ?_
      refine cut_n ?_
      exact ⟨_, _, (Sub.cons rfl (Sub.cons rfl (Sub.cons rfl (Sub.cons rfl (Sub.cons rfl (Sub.cons rfl (Sub.cons rfl (Sub.nil _)))))))), step1_else_none hk (by omega) (by omega) (by omega) (by omega), hI.next⟩
    rintro m s9 ⟨o', st', hsub, hst, hI⟩
    refine out_n ?_
    refine then_n ?_
    refine wc_sub hsub ?_
    refine wc_region ?_
    refine w_val rfl rfl (op_add rfl rfl (by unfold In64; omega)) ?_
    refine w_val rfl rfl (op_pure rfl) ?_
    refine w_nil ?_
    exact round_n _ _ (by omega) (Sub.cons rfl (Sub.cons rfl (Sub.cons rfl (Sub.cons rfl (Sub.cons rfl (Sub.cons rfl (Sub.cons rfl (Sub.nil _)))))))) ⟨i + 1, o', st', rfl, by omega, rfl, by rw [iter1, hit]; exact hst, hI⟩
  simp at h24
  refine wc_exit ?_
  repeat first | refine then_x ?_ | refine round_x ?_ | refine cut_x ?_ | refine out_x' (by decide) ?_
  refine out_x ?_
  refine then_n ?_
  repeat refine wc_seq ?_
  obtain rfl : i = ks.length := by omega
  have hO := hI.O
  refine wc_region ?_
  refine w_val rfl rfl (op_pure rfl) ?_
  refine w_val rfl rfl (op_len rfl rfl rfl rfl rfl (by first | assumption | exact Row.slenF (by assumption) | exact Row.slen (by assumption) | rfl)) ?_
  refine w_val rfl rfl (op_pure rfl) ?_
  refine w_nil ?_
  refine then_n ?_
  repeat refine wc_seq ?_
  refine wc_condT rfl (fun h105 => ?_) (fun h105 => ?_)
  · simp at h105
    repeat refine wc_seq ?_
    refine wc_region ?_
    refine w_val rfl rfl (op_pure rfl) ?_
    refine w_val rfl rfl (op_pure rfl) ?_
    refine w_val rfl rfl (op_pure rfl) ?_
    refine w_nil ?_
    refine then_n ?_
    refine wc_ret ?_
    repeat first | refine then_r ?_ | refine out_r ?_ | refine round_r ?_ | refine cut_r ?_
    refine ⟨_, rfl, hK, ?_⟩
    rw [ends1, hit]
    have hne : st.opn ≠ [] := fun h => by simp [h] at h105
    simp only [if_neg hne]
    rfl
  simp at h105
  refine wc_skip ?_
  refine then_n ?_
  repeat refine wc_seq ?_
  refine wc_region ?_
  refine w_val rfl rfl (op_pure rfl) ?_
  refine w_val rfl rfl (op_pure rfl) ?_
  refine w_val rfl rfl (op_pure rfl) ?_
  refine w_val rfl rfl (op_pure rfl) ?_
  refine w_val rfl rfl (op_pure rfl) ?_
  refine w_nil ?_
  refine then_n ?_
  refine wc_ret ?_
  repeat first | refine then_r ?_ | refine out_r ?_ | refine round_r ?_ | refine cut_r ?_
  refine ⟨_, rfl, hK, ?_⟩
  rw [ends1, hit]
  have hnil : st.opn = [] := by first | exact h105 | simpa using h105 | exact List.eq_nil_of_length_eq_zero (by omega)
  simp only [if_pos hnil]
  exact ⟨_, _, rfl, hI.E, hI.L, by have := hI.el; omega, by have := hI.ll; omega⟩
end Go.Ab
