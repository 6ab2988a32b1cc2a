/- Where blocks end: louverref05.Ends and what it answers. -/
import Derived.Test.YtdpdlmjlahehoaaD6
namespace Go.Ab
open Go.Proofs
def pre2 (i : Nat) (st : E1) : E1 := ⟨st.opn, st.ends.set i (-1), st.elses.set i (-1)⟩
def body2 (ks : List Int) (i : Nat) (st : E1) : Option E1 :=
  if ks.getD i 0 = 5 ∨ ks.getD i 0 = 7 then some { st with opn := st.opn ++ [i] }
  else if ks.getD i 0 = 6 then match st.opn.getLast? with
    | none => none
    | some o => if ks.getD o 0 ≠ 5 then none else some { st with opn := st.opn.dropLast ++ [i], elses := st.elses.set o i }
  else if ks.getD i 0 = 8 then match st.opn.getLast? with
    | none => none
    | some o => some { st with opn := st.opn.dropLast, ends := st.ends.set o i }
  else some st
def step2 (ks : List Int) (i : Nat) (st : E1) : Option E1 := body2 ks i (pre2 i st)
def iter2 (ks : List Int) : Nat → Option E1
  | 0 => some ⟨[], List.replicate ks.length 0, List.replicate ks.length 0⟩
  | i + 1 => (iter2 ks i).bind (step2 ks i)
def fixE (L E : List Int) : Nat → List Int
  | 0 => E
  | i + 1 => if 0 ≤ L.getD i 0 then (fixE L E i).set i ((fixE L E i).getD (L.getD i 0).toNat 0) else fixE L E i
def ends2 (ks : List Int) : Option (List Int × List Int) := match iter2 ks ks.length with
  | none => none
  | some st => if st.opn = [] then some (fixE st.elses st.ends ks.length, st.elses) else none
theorem fixE_len (L E : List Int) : ∀ i, (fixE L E i).length = E.length
  | 0 => rfl
  | i + 1 => by
    unfold fixE
    split
    · rw [List.length_set]; exact fixE_len L E i
    · exact fixE_len L E i
theorem fixE_pos {L E : List Int} {i : Nat} {y z : Int} (hy : L[i]? = some y) (h0 : 0 ≤ y) (hz : (fixE L E i)[y.toNat]? = some z) : fixE L E (i + 1) = (fixE L E i).set i z := by
  conv => lhs; unfold fixE
  rw [gD hy, if_pos h0, gD hz]
theorem fixE_neg {L E : List Int} {i : Nat} {y : Int} (hy : L[i]? = some y) (h0 : y < 0) : fixE L E (i + 1) = fixE L E i := by
  conv => lhs; unfold fixE
  rw [gD hy, if_neg (by omega)]
theorem iter2_none {ks : List Int} {i : Nat} (h : iter2 ks i = none) : ∀ j, i ≤ j → iter2 ks j = none := by
  intro j hj
  induction j with
  | zero => rw [show i = 0 by omega] at h; exact h
  | succ j ih =>
    by_cases e : i = j + 1
    · rw [← e]; exact h
    · rw [iter2, ih (by omega)]; rfl
theorem ends2_none {ks : List Int} {i : Nat} {st : E1} (h : iter2 ks i = some st) (hi : i < ks.length) (k : step2 ks i st = none) : ends2 ks = none := by
  have : iter2 ks (i + 1) = none := by rw [iter2, h]; exact k
  rw [ends2, iter2_none this ks.length (by omega)]
section
variable {ks : List Int} {i : Nat} {st0 st : E1} {k : Int} {L0 : List Nat} {o0 : Nat} {k0 x0 : Int}
theorem step2_open (hp : pre2 i st0 = st) (hk : ks[i]? = some k) (h : k = 5 ∨ k = 7) : step2 ks i st0 = some { st with opn := st.opn ++ [i] } := by
  unfold step2; rw [hp]; unfold body2; rw [gD hk, if_pos h]
theorem step2_else_nil (hp : pre2 i st0 = st) (hk : ks[i]? = some k) (h : k = 6) (hn : st.opn = []) : step2 ks i st0 = none := by
  unfold step2; rw [hp]; unfold body2; rw [gD hk, if_neg (by omega), if_pos h, hn]; rfl
theorem step2_else_kind (hp : pre2 i st0 = st) (hk : ks[i]? = some k) (h : k = 6) (ho : st.opn = L0 ++ [o0]) (hk0 : ks[o0]? = some k0) (h5 : ¬ k0 = 5) : step2 ks i st0 = none := by
  unfold step2; rw [hp]; unfold body2; rw [gD hk, if_neg (by omega), if_pos h, ho]; simp [List.getD_eq_getElem?_getD, hk0, h5]
theorem step2_else (hp : pre2 i st0 = st) (hk : ks[i]? = some k) (h : k = 6) (ho : st.opn = L0 ++ [o0]) (hk0 : ks[o0]? = some 5) : step2 ks i st0 = some { opn := L0 ++ [i], ends := st.ends, elses := st.elses.set o0 i } := by
  unfold step2; rw [hp]; unfold body2; rw [gD hk, if_neg (by omega), if_pos h]
  have : st.opn.getLast? = some o0 := by rw [ho]; simp
  rw [this]; simp only; rw [gD hk0, if_neg (by omega), ho, List.dropLast_concat]
theorem step2_end_nil (hp : pre2 i st0 = st) (hk : ks[i]? = some k) (h : k = 8) (hn : st.opn = []) : step2 ks i st0 = none := by
  unfold step2; rw [hp]; unfold body2; rw [gD hk, if_neg (by omega), if_neg (by omega), if_pos h, hn]; rfl
theorem step2_end (hp : pre2 i st0 = st) (hk : ks[i]? = some k) (h : k = 8) (ho : st.opn = L0 ++ [o0]) : step2 ks i st0 = some { opn := L0, ends := st.ends.set o0 i, elses := st.elses } := by
  unfold step2; rw [hp]; unfold body2; rw [gD hk, if_neg (by omega), if_neg (by omega), if_pos h]
  have : st.opn.getLast? = some o0 := by rw [ho]; simp
  rw [this]; simp only; rw [ho, List.dropLast_concat]
theorem step2_other (hp : pre2 i st0 = st) (hk : ks[i]? = some k) (h7 : ¬ k = 7) (h6 : ¬ k = 6) (h8 : ¬ k = 8) (h5 : ¬ k = 5) : step2 ks i st0 = some st := by
  unfold step2; rw [hp]; unfold body2; rw [gD hk, if_neg (by omega), if_neg (by omega), if_neg (by omega)]
end
set_option maxRecDepth 10000 in
theorem ends_ref_ok {s : St} {v : AV} {ks : List Int} (hok : s.Ok) (hl : ks.length ≤ 2097152) (hv : KindsR s.h v ks) :
    CallS Try.prog Tt 13 [v] s (fun r s' => Keep [] s s' ∧ EndsOut (ends2 ks) r s'.h) := by
  obtain ⟨css, hrv, hlv, hV⟩ := hv
  have hsv : v.slen = some ks.length := hrv.slen.trans (congrArg some hlv)
  refine call_of (fn := Try.f13) (nt := 114) Try.func13 rfl rfl ?_
  repeat refine wc_seq ?_
  refine wc_region ?_
  refine w_val rfl rfl (op_pure rfl) ?_
  refine w_val rfl rfl (op_pure rfl) ?_
  refine w_val rfl rfl (op_pure rfl) ?_
  refine w_nil ?_
  refine then_n ?_
  repeat refine wc_seq ?_
  refine wc_region ?_
  refine w_val rfl rfl (op_pure rfl) ?_
  refine w_nil ?_
  refine then_n ?_
  repeat refine wc_seq ?_
  refine wc_region ?_
  refine w_val rfl rfl (op_pure rfl) ?_
  refine w_val rfl rfl (op_len rfl rfl rfl rfl rfl (by first | assumption | exact Row.slenF (by assumption) | exact Row.slen (by assumption) | rfl)) ?_
  refine w_make rfl rfl rfl rfl rfl rfl rfl rfl (by decide) rfl (by simp only [maxBytes]; omega) (by omega) hok ?_
  rintro e s2 he hk2 hc2 hga
  have hK := (Keep.refl hok).two hk2
  refine w_val rfl rfl (op_pure rfl) ?_
  refine w_nil ?_
  refine then_n ?_
  repeat refine wc_seq ?_
  refine wc_region ?_
  refine w_val rfl rfl (op_pure rfl) ?_
  refine w_val rfl rfl (op_len rfl rfl rfl rfl rfl (by first | assumption | exact Row.slenF (by assumption) | exact Row.slen (by assumption) | rfl)) ?_
  refine w_make rfl rfl rfl rfl rfl rfl rfl rfl (by decide) rfl (by simp only [maxBytes]; omega) (by omega) hK.ok ?_
  rintro l s4 hl hk4 hc4 hgb
  have hK := hK.two hk4
  have he := he.keep0 hk4
  generalize hga' : s.ctr = ga at hga
  generalize hgb' : s2.ctr = gb at hgb
  have hab : ga ≠ gb := by omega
  have hsa : s.ctr ≤ ga := by omega
  have hsb : s.ctr ≤ gb := by omega
  have hI : EI s ga gb ks.length e l .nils ⟨[], List.replicate ks.length 0, List.replicate ks.length 0⟩ 0 s4 :=
    { ok0 := hok, K := hK, E := by rw [List.map_replicate]; exact he, L := by rw [List.map_replicate]; exact hl, O := rfl, on := fun _ => rfl, og := (fun g hg => by cases hg),
      el := by simp, ll := by simp, ob := (fun k hk => by cases hk), lb := (fun k hk => by rw [List.eq_of_mem_replicate hk]; have := (List.mem_replicate.1 hk).1; omega), ol := by simp }
  clear he hk2 hc2 hl hk4 hc4 hK hga' hgb'
  refine w_val rfl rfl (op_pure rfl) ?_
  refine w_nil ?_
  refine then_n ?_
  repeat refine wc_seq ?_
  refine wc_region ?_
  refine w_val rfl rfl (op_pure rfl) ?_
  refine w_nil ?_
  refine then_n ?_
  repeat refine wc_seq ?_
  refine wc_block ?_
  refine wc_loop_at (fun j m s1 => ∃ (i : Nat) (o : AV) (st : E1), j = ks.length - i ∧ i ≤ ks.length ∧ m = [(0, v), (5, o), (6, e), (7, l), (8, .int .i64 (i : Nat))] ∧ iter2 ks i = some st ∧ EI s ga gb ks.length e l o st i s1) ks.length
    [(0, v), (5, .nils), (6, e), (7, l), (8, .int .i64 ((0 : Nat) : Int))] (Sub.cons rfl (Sub.cons rfl (Sub.cons rfl (Sub.cons rfl (Sub.cons rfl (Sub.nil _)))))) ⟨0, .nils, _, by simp, by simp, rfl, rfl, hI⟩ ?_
  clear hI
  rintro j m s1 ⟨i, o, st, rfl, hi, rfl, hit, hI⟩
  have hK := hI.K
  repeat refine wc_seq ?_
  refine wc_region ?_
  refine w_val rfl rfl (op_pure rfl) ?_
  refine w_val rfl rfl (op_pure rfl) ?_
  refine w_val rfl rfl (op_len rfl rfl rfl rfl rfl (by first | assumption | exact Row.slenF (by assumption) | exact Row.slen (by assumption) | rfl)) ?_
  refine w_val rfl rfl (op_pure rfl) ?_
  refine w_nil ?_
  refine then_n ?_
  repeat refine wc_seq ?_
  refine wc_condT rfl (fun h20 => ?_) (fun h20 => ?_)
  · simp at h20
    refine wc_skip ?_
    refine then_n ?_
    repeat refine wc_seq ?_
    refine wc_block ?_
    repeat refine wc_seq ?_
    obtain ⟨k, hk⟩ : ∃ x, ks[i]? = some x := ⟨_, List.getElem?_eq_getElem h20⟩
    obtain ⟨c0, hc0⟩ : ∃ c, css[i]? = some c := ⟨_, List.getElem?_eq_getElem (by omega)⟩
    obtain ⟨q1, q2, q3, rfl⟩ := hV i k c0 hk hc0
    have hK := hI.K
    have hE := hI.E
    have hL := hI.L
    have hO := hI.O
    have hol := hI.ol
    have hel := hI.el
    have hll := hI.ll
    refine wc_region ?_
    refine w_val rfl rfl (op_pure rfl) ?_
    refine w_val rfl rfl (op_pure rfl) ?_
    first | refine w_val rfl rfl (op_idxF rfl rfl (by first | assumption | exact natA_cast _ _ | exact natA_succ _ _ | exact natA_toNat (by omega) | rfl) rfl rfl rfl rfl (by first | assumption | exact Row.keep0 (by assumption) hK) (by first | omega | (simp; done) | (simp; omega))) ?_ | refine w_val rfl rfl (op_idx rfl rfl (by first | assumption | exact natA_cast _ _ | exact natA_succ _ _ | exact natA_toNat (by omega) | rfl) rfl rfl rfl rfl (by first | assumption | exact Row.keep0 (by assumption) hK) (by first | omega | (simp; done) | (simp; omega))) ?_
    refine w_store_rowF (f := iC) (xs := st.ends) (n := i) (y := (-1)) rfl rfl rfl rfl rfl rfl rfl rfl hI.K.ok hE (by rw [hga]; exact fun h => by cases h) (by omega) ?_
    intro s5 hE5 hk5 hc5
    have hI := hI.setE hga hab hsa hE5 hk5
    clear hk5 hc5
    have hK := hI.K
    have hE := hI.E
    have hL := hI.L
    have hO := hI.O
    have hol := hI.ol
    refine w_nil ?_
    refine then_n ?_
    repeat refine wc_seq ?_
    refine wc_region ?_
    refine w_val rfl rfl (op_pure rfl) ?_
    refine w_val rfl rfl (op_pure rfl) ?_
    first | refine w_val rfl rfl (op_idxF rfl rfl (by first | assumption | exact natA_cast _ _ | exact natA_succ _ _ | exact natA_toNat (by omega) | rfl) rfl rfl rfl rfl (by first | assumption | exact Row.keep0 (by assumption) hK) (by first | omega | (simp; done) | (simp; omega))) ?_ | refine w_val rfl rfl (op_idx rfl rfl (by first | assumption | exact natA_cast _ _ | exact natA_succ _ _ | exact natA_toNat (by omega) | rfl) rfl rfl rfl rfl (by first | assumption | exact Row.keep0 (by assumption) hK) (by first | omega | (simp; done) | (simp; omega))) ?_
    refine w_store_rowF (f := iC) (xs := st.elses) (n := i) (y := (-1)) rfl rfl rfl rfl rfl rfl rfl rfl hI.K.ok hL (by rw [hgb]; exact fun h => by cases h) (by omega) ?_
    intro s6 hL6 hk6 hc6
    have hI := hI.setL hgb hab.symm hsb (by omega) hL6 hk6
    clear hk6 hc6
    generalize hst1 : E1.mk st.opn (st.ends.set i (-1)) (st.elses.set i (-1)) = st1 at hI
    have hit1 : pre2 i st = st1 := hst1
    clear hE hL hO hol hK
    have hK := hI.K
    have hE := hI.E
    have hL := hI.L
    have hO := hI.O
    have hol := hI.ol
    clear hel hll
    refine w_nil ?_
    refine then_n ?_
    repeat refine wc_seq ?_
    refine wc_region ?_
    refine w_val rfl rfl (op_pure rfl) ?_
    refine w_val rfl rfl (op_len rfl rfl rfl rfl rfl (by first | assumption | exact Row.slenF (by assumption) | exact Row.slen (by assumption) | rfl)) ?_
    refine w_val rfl rfl (op_pure rfl) ?_
    refine w_nil ?_
    refine then_n ?_
    repeat refine wc_seq ?_
    refine wc_region ?_
    refine w_val rfl rfl (op_pure rfl) ?_
    refine w_val rfl rfl (op_pure rfl) ?_
    first | refine w_val rfl rfl (op_idxF rfl rfl (by first | assumption | exact natA_cast _ _ | exact natA_succ _ _ | exact natA_toNat (by omega) | rfl) rfl rfl rfl rfl (by first | assumption | exact Row.keep0 (by assumption) hK) (by first | omega | (simp; done) | (simp; omega))) ?_ | refine w_val rfl rfl (op_idx rfl rfl (by first | assumption | exact natA_cast _ _ | exact natA_succ _ _ | exact natA_toNat (by omega) | rfl) rfl rfl rfl rfl (by first | assumption | exact Row.keep0 (by assumption) hK) (by first | omega | (simp; done) | (simp; omega))) ?_
    refine w_val rfl rfl (op_fld rfl rfl rfl rfl (by decide) (by first | exact Row.mk_pt (by assumption) (by assumption) | exact Pt.fld (Row.mk_pt (by assumption) (by assumption)) _ (Nat.le_of_ble_eq_true rfl) | exact Row.pt (by assumption) (by assumption) | exact Pt.fld (Row.pt (by assumption) (by assumption)) _ (Nat.le_of_ble_eq_true rfl) | assumption | exact Pt.fld (by assumption) _ (Nat.le_of_ble_eq_true rfl) | exact Row.pt (Row.keep0 (by assumption) hK) (by assumption) | exact Pt.fld (Row.pt (Row.keep0 (by assumption) hK) (by assumption)) _ (Nat.le_of_ble_eq_true rfl) | exact Row.mk_pt (Row.keep0 (by assumption) hK) (by assumption) | exact Pt.fld (Row.mk_pt (Row.keep0 (by assumption) hK) (by assumption)) _ (Nat.le_of_ble_eq_true rfl)) (Nat.le_of_ble_eq_true rfl)) ?_
    refine w_val rfl rfl (op_load rfl rfl (by first | exact Row.mk_pt (by assumption) (by assumption) | exact Pt.fld (Row.mk_pt (by assumption) (by assumption)) _ (Nat.le_of_ble_eq_true rfl) | exact Row.pt (by assumption) (by assumption) | exact Pt.fld (Row.pt (by assumption) (by assumption)) _ (Nat.le_of_ble_eq_true rfl) | assumption | exact Pt.fld (by assumption) _ (Nat.le_of_ble_eq_true rfl) | exact Row.pt (Row.keep0 (by assumption) hK) (by assumption) | exact Pt.fld (Row.pt (Row.keep0 (by assumption) hK) (by assumption)) _ (Nat.le_of_ble_eq_true rfl) | exact Row.mk_pt (Row.keep0 (by assumption) hK) (by assumption) | exact Pt.fld (Row.mk_pt (Row.keep0 (by assumption) hK) (by assumption)) _ (Nat.le_of_ble_eq_true rfl)) rfl) ?_
    refine w_nil ?_
    refine then_n ?_
    refine wc_cut (fun m' s' => ∃ (o' : AV) (st' : E1), Sub [(0, v), (5, o'), (6, e), (7, l), (8, .int .i64 (i : Nat))] m' ∧ step2 ks i st = some st' ∧ EI s ga gb ks.length e l o' st' (i + 1) s') ?_ ?_
    · refine wc_block ?_
      repeat refine wc_seq ?_
      refine wc_region ?_
      refine w_val rfl rfl (op_pure rfl) ?_
      refine w_val rfl rfl (op_pure rfl) ?_
      refine w_nil ?_
      refine then_n ?_
      repeat refine wc_seq ?_
      refine wc_condT rfl (fun h36 => ?_) (fun h36 => ?_)
      · simp at h36
        refine wc_skip ?_
        refine then_n ?_
        refine wc_cond_t rfl ?_
        refine wc_region ?_
        refine w_val rfl rfl (op_pure rfl) ?_
        refine w_val rfl rfl (op_pure rfl) ?_
        refine w_lit1 (c := nC i) rfl rfl rfl rfl rfl rfl rfl (by decide) (by decide) rfl rfl rfl hK.ok ?_
        rintro x4 s4 hx4 hk4 hc4 -
        have hI := hI.keep0 hk4
        have hK := hI.K
        have hE := hI.E
        have hL := hI.L
        have hO := hI.O
        have hol := hI.ol
        refine w_append (ns := [i].map nC) rfl rfl rfl rfl rfl rfl rfl rfl rfl (by decide) hK.ok hO hI.on hx4 (by simp only [List.length_map, List.length_nil, List.length_append, List.length_cons, List.length_singleton, maxBytes]; have := hI.ol; omega) (by simp only [List.length_map, List.length_nil, List.length_append, List.length_cons, List.length_singleton, maxBytes]; have := hI.ol; omega) ?_
        rintro o5 s5 ho5 hk5 - hg5 hn5 -
        have hI := hI.push (i0 := i) (by omega) (by omega) (by rw [← List.map_append] at ho5; exact ho5) hk5 hg5 hn5
        refine w_val rfl rfl (op_pure rfl) ?_
        refine w_nil ?_
        refine out_n ?_
        refine cut_n ?_
        exact ⟨_, _, (Sub.cons rfl (Sub.cons rfl (Sub.cons rfl (Sub.cons rfl (Sub.cons rfl (Sub.nil _)))))), step2_open hit1 hk (.inl h36), hI⟩
      simp at h36
      refine wc_region ?_
      refine w_val rfl rfl (op_pure rfl) ?_
      refine w_val rfl rfl (op_pure rfl) ?_
      refine w_nil ?_
      refine then_n ?_
      refine wc_condT rfl (fun h36 => ?_) (fun h36 => ?_)
      · simp at h36
        refine wc_region ?_
        refine w_val rfl rfl (op_pure rfl) ?_
        refine w_val rfl rfl (op_pure rfl) ?_
        refine w_lit1 (c := nC i) rfl rfl rfl rfl rfl rfl rfl (by decide) (by decide) rfl rfl rfl hK.ok ?_
        rintro x4 s4 hx4 hk4 hc4 -
        have hI := hI.keep0 hk4
        have hK := hI.K
        have hE := hI.E
        have hL := hI.L
        have hO := hI.O
        have hol := hI.ol
        refine w_append (ns := [i].map nC) rfl rfl rfl rfl rfl rfl rfl rfl rfl (by decide) hK.ok hO hI.on hx4 (by simp only [List.length_map, List.length_nil, List.length_append, List.length_cons, List.length_singleton, maxBytes]; have := hI.ol; omega) (by simp only [List.length_map, List.length_nil, List.length_append, List.length_cons, List.length_singleton, maxBytes]; have := hI.ol; omega) ?_
        rintro o5 s5 ho5 hk5 - hg5 hn5 -
        have hI := hI.push (i0 := i) (by omega) (by omega) (by rw [← List.map_append] at ho5; exact ho5) hk5 hg5 hn5
        refine w_val rfl rfl (op_pure rfl) ?_
        refine w_nil ?_
        refine out_n ?_
        refine cut_n ?_
        exact ⟨_, _, (Sub.cons rfl (Sub.cons rfl (Sub.cons rfl (Sub.cons rfl (Sub.cons rfl (Sub.nil _)))))), step2_open hit1 hk (.inr h36), hI⟩
      simp at h36
      repeat refine wc_seq ?_
      refine wc_region ?_
      refine w_val rfl rfl (op_pure rfl) ?_
      refine w_val rfl rfl (op_pure rfl) ?_
      refine w_nil ?_
      refine then_n ?_
      refine wc_condT rfl (fun h43 => ?_) (fun h43 => ?_)
      · simp at h43
        repeat refine wc_seq ?_
        refine wc_region ?_
        refine w_val rfl rfl (op_pure rfl) ?_
        refine w_val rfl rfl (op_pure rfl) ?_
        refine w_val rfl rfl (op_pure rfl) ?_
        refine w_split (i := 47) rfl (fun h47 => ?_) (fun h47 => ?_)
        · simp at h47
          have hno : st1.opn = [] := by first | exact h47 | exact List.eq_nil_of_length_eq_zero (by omega)
          refine w_off rfl rfl ?_
          refine w_off rfl rfl ?_
          refine w_off rfl rfl ?_
          refine w_off rfl rfl ?_
          refine w_off rfl rfl ?_
          refine w_off rfl rfl ?_
          refine w_off rfl rfl ?_
          refine w_off rfl rfl ?_
          refine w_off rfl rfl ?_
          refine w_off rfl rfl ?_
          refine w_val rfl rfl (op_pure rfl) ?_
          refine w_nil ?_
          refine then_n ?_
          repeat refine wc_seq ?_
          refine wc_cond_t rfl ?_
          repeat refine wc_seq ?_
          refine wc_region ?_
          refine w_val rfl rfl (op_pure rfl) ?_
          refine w_val rfl rfl (op_pure rfl) ?_
          refine w_val rfl rfl (op_pure rfl) ?_
          refine w_nil ?_
          refine then_n ?_
          refine wc_ret ?_
          repeat first | refine then_r ?_ | refine out_r ?_ | refine round_r ?_ | refine cut_r ?_
          refine ⟨_, rfl, hK, ?_⟩
          rw [ends2_none hit h20 (step2_else_nil hit1 hk h43 hno)]
          rfl
        have hpos : 0 < st1.opn.length := Nat.pos_of_ne_zero fun e => by rw [e] at h47; exact absurd h47 (by decide)
        obtain ⟨L0, o0, hop⟩ := snoc_of (l := st1.opn) (by omega)
        have hln : st1.opn.length = L0.length + 1 := by rw [hop]; simp
        have hix : natA (.int .i64 ((st1.opn.length : Int) - 1)) = some L0.length := by
          rw [hln]; have : (((L0.length + 1 : Nat) : Int) - 1) = ((L0.length : Nat) : Int) := by omega
          rw [this]; exact natA_cast _ _
        have hgt : st1.opn[L0.length]? = some o0 := by rw [hop]; simp
        have ho0 : o0 < ks.length := hI.ob o0 (List.mem_of_getElem? hgt)
        have hel := hI.el
        have hll := hI.ll
        obtain ⟨x0, hx0⟩ : ∃ x, st1.elses[o0]? = some x := ⟨_, List.getElem?_eq_getElem (by omega)⟩
        have hx0n : x0 < (ks.length : Int) := hI.lb x0 (List.mem_of_getElem? hx0)
        obtain ⟨k0, hk0⟩ : ∃ x, ks[o0]? = some x := ⟨_, List.getElem?_eq_getElem ho0⟩
        obtain ⟨c1, hc1⟩ : ∃ c, css[o0]? = some c := ⟨_, List.getElem?_eq_getElem (by omega)⟩
        obtain ⟨w1, w2, w3, rfl⟩ := hV o0 k0 c1 hk0 hc1
        refine w_val rfl rfl (op_pure rfl) ?_
        refine w_val rfl rfl (op_pure rfl) ?_
        refine w_val rfl rfl (op_pure rfl) ?_
        refine w_val rfl rfl (op_sub rfl rfl (by unfold In64; omega)) ?_
        first | refine w_val rfl rfl (op_idxF rfl rfl (by first | assumption | exact natA_cast _ _ | exact natA_succ _ _ | exact natA_toNat (by omega) | rfl) rfl rfl rfl rfl (by first | assumption | exact Row.keep0 (by assumption) hK) (by first | omega | (simp; done) | (simp; omega))) ?_ | refine w_val rfl rfl (op_idx rfl rfl (by first | assumption | exact natA_cast _ _ | exact natA_succ _ _ | exact natA_toNat (by omega) | rfl) rfl rfl rfl rfl (by first | assumption | exact Row.keep0 (by assumption) hK) (by first | omega | (simp; done) | (simp; omega))) ?_
        refine w_val rfl rfl (op_load rfl rfl (by first | exact Row.mk_pt (by assumption) (by assumption) | exact Pt.fld (Row.mk_pt (by assumption) (by assumption)) _ (Nat.le_of_ble_eq_true rfl) | exact Row.pt (by assumption) (by assumption) | exact Pt.fld (Row.pt (by assumption) (by assumption)) _ (Nat.le_of_ble_eq_true rfl) | assumption | exact Pt.fld (by assumption) _ (Nat.le_of_ble_eq_true rfl) | exact Row.pt (Row.keep0 (by assumption) hK) (by assumption) | exact Pt.fld (Row.pt (Row.keep0 (by assumption) hK) (by assumption)) _ (Nat.le_of_ble_eq_true rfl) | exact Row.mk_pt (Row.keep0 (by assumption) hK) (by assumption) | exact Pt.fld (Row.mk_pt (Row.keep0 (by assumption) hK) (by assumption)) _ (Nat.le_of_ble_eq_true rfl)) rfl) ?_
        first | refine w_val rfl rfl (op_idxF rfl rfl (by first | assumption | exact natA_cast _ _ | exact natA_succ _ _ | exact natA_toNat (by omega) | rfl) rfl rfl rfl rfl (by first | assumption | exact Row.keep0 (by assumption) hK) (by first | omega | (simp; done) | (simp; omega))) ?_ | refine w_val rfl rfl (op_idx rfl rfl (by first | assumption | exact natA_cast _ _ | exact natA_succ _ _ | exact natA_toNat (by omega) | rfl) rfl rfl rfl rfl (by first | assumption | exact Row.keep0 (by assumption) hK) (by first | omega | (simp; done) | (simp; omega))) ?_
        refine w_val rfl rfl (op_fld rfl rfl rfl rfl (by decide) (by first | exact Row.mk_pt (by assumption) (by assumption) | exact Pt.fld (Row.mk_pt (by assumption) (by assumption)) _ (Nat.le_of_ble_eq_true rfl) | exact Row.pt (by assumption) (by assumption) | exact Pt.fld (Row.pt (by assumption) (by assumption)) _ (Nat.le_of_ble_eq_true rfl) | assumption | exact Pt.fld (by assumption) _ (Nat.le_of_ble_eq_true rfl) | exact Row.pt (Row.keep0 (by assumption) hK) (by assumption) | exact Pt.fld (Row.pt (Row.keep0 (by assumption) hK) (by assumption)) _ (Nat.le_of_ble_eq_true rfl) | exact Row.mk_pt (Row.keep0 (by assumption) hK) (by assumption) | exact Pt.fld (Row.mk_pt (Row.keep0 (by assumption) hK) (by assumption)) _ (Nat.le_of_ble_eq_true rfl)) (Nat.le_of_ble_eq_true rfl)) ?_
        refine w_val rfl rfl (op_load rfl rfl (by first | exact Row.mk_pt (by assumption) (by assumption) | exact Pt.fld (Row.mk_pt (by assumption) (by assumption)) _ (Nat.le_of_ble_eq_true rfl) | exact Row.pt (by assumption) (by assumption) | exact Pt.fld (Row.pt (by assumption) (by assumption)) _ (Nat.le_of_ble_eq_true rfl) | assumption | exact Pt.fld (by assumption) _ (Nat.le_of_ble_eq_true rfl) | exact Row.pt (Row.keep0 (by assumption) hK) (by assumption) | exact Pt.fld (Row.pt (Row.keep0 (by assumption) hK) (by assumption)) _ (Nat.le_of_ble_eq_true rfl) | exact Row.mk_pt (Row.keep0 (by assumption) hK) (by assumption) | exact Pt.fld (Row.mk_pt (Row.keep0 (by assumption) hK) (by assumption)) _ (Nat.le_of_ble_eq_true rfl)) rfl) ?_
        refine w_val rfl rfl (op_pure rfl) ?_
        refine w_val rfl rfl (op_pure rfl) ?_
        refine w_nil ?_
        refine then_n ?_
        repeat refine wc_seq ?_
        refine wc_condT rfl (fun h58 => ?_) (fun h58 => ?_)
        · simp at h58
          repeat refine wc_seq ?_
          refine wc_region ?_
          refine w_val rfl rfl (op_pure rfl) ?_
          refine w_val rfl rfl (op_pure rfl) ?_
          refine w_val rfl rfl (op_pure rfl) ?_
          refine w_nil ?_
          refine then_n ?_
          refine wc_ret ?_
          repeat first | refine then_r ?_ | refine out_r ?_ | refine round_r ?_ | refine cut_r ?_
          refine ⟨_, rfl, hK, ?_⟩
          rw [ends2_none hit h20 (step2_else_kind hit1 hk h43 hop hk0 h58)]
          rfl
        simp at h58
        refine wc_skip ?_
        refine then_n ?_
        repeat refine wc_seq ?_
        refine wc_region ?_
        refine w_val rfl rfl (op_pure rfl) ?_
        refine w_val rfl rfl (op_pure rfl) ?_
        refine w_val rfl rfl (op_pure rfl) ?_
        refine w_val rfl rfl (op_sub rfl rfl (by unfold In64; omega)) ?_
        first | refine w_val rfl rfl (op_idxF rfl rfl (by first | assumption | exact natA_cast _ _ | exact natA_succ _ _ | exact natA_toNat (by omega) | rfl) rfl rfl rfl rfl (by first | assumption | exact Row.keep0 (by assumption) hK) (by first | omega | (simp; done) | (simp; omega))) ?_ | refine w_val rfl rfl (op_idx rfl rfl (by first | assumption | exact natA_cast _ _ | exact natA_succ _ _ | exact natA_toNat (by omega) | rfl) rfl rfl rfl rfl (by first | assumption | exact Row.keep0 (by assumption) hK) (by first | omega | (simp; done) | (simp; omega))) ?_
        refine w_val rfl rfl (op_load rfl rfl (by first | exact Row.mk_pt (by assumption) (by assumption) | exact Pt.fld (Row.mk_pt (by assumption) (by assumption)) _ (Nat.le_of_ble_eq_true rfl) | exact Row.pt (by assumption) (by assumption) | exact Pt.fld (Row.pt (by assumption) (by assumption)) _ (Nat.le_of_ble_eq_true rfl) | assumption | exact Pt.fld (by assumption) _ (Nat.le_of_ble_eq_true rfl) | exact Row.pt (Row.keep0 (by assumption) hK) (by assumption) | exact Pt.fld (Row.pt (Row.keep0 (by assumption) hK) (by assumption)) _ (Nat.le_of_ble_eq_true rfl) | exact Row.mk_pt (Row.keep0 (by assumption) hK) (by assumption) | exact Pt.fld (Row.mk_pt (Row.keep0 (by assumption) hK) (by assumption)) _ (Nat.le_of_ble_eq_true rfl)) rfl) ?_
        refine w_val rfl rfl (op_pure rfl) ?_
        first | refine w_val rfl rfl (op_idxF rfl rfl (by first | assumption | exact natA_cast _ _ | exact natA_succ _ _ | exact natA_toNat (by omega) | rfl) rfl rfl rfl rfl (by first | assumption | exact Row.keep0 (by assumption) hK) (by first | omega | (simp; done) | (simp; omega))) ?_ | refine w_val rfl rfl (op_idx rfl rfl (by first | assumption | exact natA_cast _ _ | exact natA_succ _ _ | exact natA_toNat (by omega) | rfl) rfl rfl rfl rfl (by first | assumption | exact Row.keep0 (by assumption) hK) (by first | omega | (simp; done) | (simp; omega))) ?_
        refine w_store_rowF (f := iC) (xs := st1.elses) (n := o0) (y := i) rfl rfl rfl rfl rfl rfl rfl rfl hI.K.ok hL (by rw [hgb]; exact fun h => by cases h) (by omega) ?_
        intro s5 hL5 hk5 hc5
        have hI := hI.setL hgb hab.symm hsb (by omega) hL5 hk5
        clear hk5
        have hK := hI.K
        have hE := hI.E
        have hL := hI.L
        have hO := hI.O
        have hol := hI.ol
        refine w_nil ?_
        refine then_n ?_
        refine wc_region ?_
        refine w_val rfl rfl (op_pure rfl) ?_
        refine w_val rfl rfl (op_pure rfl) ?_
        refine w_val rfl rfl (op_sub rfl rfl (by unfold In64; omega)) ?_
        refine w_val rfl rfl (op_pure rfl) ?_
        first | refine w_val rfl rfl (op_idxF rfl rfl (by first | assumption | exact natA_cast _ _ | exact natA_succ _ _ | exact natA_toNat (by omega) | rfl) rfl rfl rfl rfl (by first | assumption | exact Row.keep0 (by assumption) hK) (by first | omega | (simp; done) | (simp; omega))) ?_ | refine w_val rfl rfl (op_idx rfl rfl (by first | assumption | exact natA_cast _ _ | exact natA_succ _ _ | exact natA_toNat (by omega) | rfl) rfl rfl rfl rfl (by first | assumption | exact Row.keep0 (by assumption) hK) (by first | omega | (simp; done) | (simp; omega))) ?_
        refine w_store_rowF (f := nC) (xs := st1.opn) (n := L0.length) (y := i) rfl rfl rfl rfl rfl rfl rfl rfl hI.K.ok hO (hI.ogs (by simp only; omega)) (by omega) ?_
        intro s7 hO7 hk7 hc7
        have hI := hI.setO (i0 := i) hop (by omega) hO7 hk7
        refine w_nil ?_
        refine out_n ?_
        refine cut_n ?_
        exact ⟨_, _, (Sub.cons rfl (Sub.cons rfl (Sub.cons rfl (Sub.cons rfl (Sub.cons rfl (Sub.nil _)))))), step2_else hit1 hk h43 hop (h58 ▸ hk0), hI.next⟩
      simp at h43
      repeat refine wc_seq ?_
      refine wc_region ?_
      refine w_val rfl rfl (op_pure rfl) ?_
      refine w_val rfl rfl (op_pure rfl) ?_
      refine w_nil ?_
      refine then_n ?_
      refine wc_condT rfl (fun h72 => ?_) (fun h72 => ?_)
      · simp at h72
        repeat refine wc_seq ?_
        refine wc_region ?_
        refine w_val rfl rfl (op_pure rfl) ?_
        refine w_val rfl rfl (op_pure rfl) ?_
        refine w_nil ?_
        refine then_n ?_
        repeat refine wc_seq ?_
        refine wc_condT rfl (fun h75 => ?_) (fun h75 => ?_)
        · simp at h75
          have hno : st1.opn = [] := by first | exact h75 | exact List.eq_nil_of_length_eq_zero (by omega)
          repeat refine wc_seq ?_
          refine wc_region ?_
          refine w_val rfl rfl (op_pure rfl) ?_
          refine w_val rfl rfl (op_pure rfl) ?_
          refine w_val rfl rfl (op_pure rfl) ?_
          refine w_nil ?_
          refine then_n ?_
          refine wc_ret ?_
          repeat first | refine then_r ?_ | refine out_r ?_ | refine round_r ?_ | refine cut_r ?_
          refine ⟨_, rfl, hK, ?_⟩
          rw [ends2_none hit h20 (step2_end_nil hit1 hk h72 hno)]
          rfl
        have hpos : 0 < st1.opn.length := Nat.pos_of_ne_zero fun e => by rw [e] at h75; exact absurd h75 (by decide)
        obtain ⟨L0, o0, hop⟩ := snoc_of (l := st1.opn) (by omega)
        have hln : st1.opn.length = L0.length + 1 := by rw [hop]; simp
        have hix : natA (.int .i64 ((st1.opn.length : Int) - 1)) = some L0.length := by
          rw [hln]; have : (((L0.length + 1 : Nat) : Int) - 1) = ((L0.length : Nat) : Int) := by omega
          rw [this]; exact natA_cast _ _
        have hgt : st1.opn[L0.length]? = some o0 := by rw [hop]; simp
        have ho0 : o0 < ks.length := hI.ob o0 (List.mem_of_getElem? hgt)
        have hel := hI.el
        have hll := hI.ll
        obtain ⟨x0, hx0⟩ : ∃ x, st1.elses[o0]? = some x := ⟨_, List.getElem?_eq_getElem (by omega)⟩
        have hx0n : x0 < (ks.length : Int) := hI.lb x0 (List.mem_of_getElem? hx0)
        refine wc_skip ?_
        refine then_n ?_
        repeat refine wc_seq ?_
        refine wc_region ?_
        refine w_val rfl rfl (op_pure rfl) ?_
        refine w_val rfl rfl (op_pure rfl) ?_
        refine w_val rfl rfl (op_pure rfl) ?_
        refine w_val rfl rfl (op_sub rfl rfl (by unfold In64; omega)) ?_
        first | refine w_val rfl rfl (op_idxF rfl rfl (by first | assumption | exact natA_cast _ _ | exact natA_succ _ _ | exact natA_toNat (by omega) | rfl) rfl rfl rfl rfl (by first | assumption | exact Row.keep0 (by assumption) hK) (by first | omega | (simp; done) | (simp; omega))) ?_ | refine w_val rfl rfl (op_idx rfl rfl (by first | assumption | exact natA_cast _ _ | exact natA_succ _ _ | exact natA_toNat (by omega) | rfl) rfl rfl rfl rfl (by first | assumption | exact Row.keep0 (by assumption) hK) (by first | omega | (simp; done) | (simp; omega))) ?_
        refine w_val rfl rfl (op_load rfl rfl (by first | exact Row.mk_pt (by assumption) (by assumption) | exact Pt.fld (Row.mk_pt (by assumption) (by assumption)) _ (Nat.le_of_ble_eq_true rfl) | exact Row.pt (by assumption) (by assumption) | exact Pt.fld (Row.pt (by assumption) (by assumption)) _ (Nat.le_of_ble_eq_true rfl) | assumption | exact Pt.fld (by assumption) _ (Nat.le_of_ble_eq_true rfl) | exact Row.pt (Row.keep0 (by assumption) hK) (by assumption) | exact Pt.fld (Row.pt (Row.keep0 (by assumption) hK) (by assumption)) _ (Nat.le_of_ble_eq_true rfl) | exact Row.mk_pt (Row.keep0 (by assumption) hK) (by assumption) | exact Pt.fld (Row.mk_pt (Row.keep0 (by assumption) hK) (by assumption)) _ (Nat.le_of_ble_eq_true rfl)) rfl) ?_
        refine w_val rfl rfl (op_pure rfl) ?_
        first | refine w_val rfl rfl (op_idxF rfl rfl (by first | assumption | exact natA_cast _ _ | exact natA_succ _ _ | exact natA_toNat (by omega) | rfl) rfl rfl rfl rfl (by first | assumption | exact Row.keep0 (by assumption) hK) (by first | omega | (simp; done) | (simp; omega))) ?_ | refine w_val rfl rfl (op_idx rfl rfl (by first | assumption | exact natA_cast _ _ | exact natA_succ _ _ | exact natA_toNat (by omega) | rfl) rfl rfl rfl rfl (by first | assumption | exact Row.keep0 (by assumption) hK) (by first | omega | (simp; done) | (simp; omega))) ?_
        refine w_store_rowF (f := iC) (xs := st1.ends) (n := o0) (y := i) rfl rfl rfl rfl rfl rfl rfl rfl hI.K.ok hE (by rw [hga]; exact fun h => by cases h) (by omega) ?_
        intro s5 hE5 hk5 hc5
        have hI := hI.setE hga hab hsa hE5 hk5
        clear hk5
        have hK := hI.K
        have hE := hI.E
        have hL := hI.L
        have hO := hI.O
        have hol := hI.ol
        refine w_nil ?_
        refine then_n ?_
        refine wc_region ?_
        refine w_val rfl rfl (op_pure rfl) ?_
        refine w_val rfl rfl (op_pure rfl) ?_
        refine w_val rfl rfl (op_sub rfl rfl (by unfold In64; omega)) ?_
        refine w_val rfl rfl (op_cut (l := none) (h := some L0.length) (l' := 0) (h' := L0.length) rfl rfl (optY_some rfl hix) rfl rfl rfl rfl hO rfl rfl (Nat.zero_le _) (by simp; omega)) ?_
        have hI := hI.pop hop
        refine w_val rfl rfl (op_pure rfl) ?_
        refine w_nil ?_
        refine out_n ?_
        refine cut_n ?_
        exact ⟨_, _, (Sub.cons rfl (Sub.cons rfl (Sub.cons rfl (Sub.cons rfl (Sub.cons rfl (Sub.nil _)))))), step2_end hit1 hk h72 hop, hI.next⟩
      simp at h72
      refine wc_skip ?_
      refine out_n ?_
      refine cut_n ?_
      exact ⟨_, _, (Sub.cons rfl (Sub.cons rfl (Sub.cons rfl (Sub.cons rfl (Sub.cons rfl (Sub.nil _)))))), step2_other hit1 hk (by omega) (by omega) (by omega) (by omega), hI.next⟩
    rintro m s9 ⟨o', st', hsub, hst, hI⟩
    refine out_n ?_
    refine then_n ?_
    refine wc_sub hsub ?_
    refine wc_region ?_
    refine w_val rfl rfl (op_pure rfl) ?_
    refine w_val rfl rfl (op_add rfl rfl (by unfold In64; omega)) ?_
    refine w_val rfl rfl (op_pure rfl) ?_
    refine w_nil ?_
    exact round_n _ _ (by omega) (Sub.cons rfl (Sub.cons rfl (Sub.cons rfl (Sub.cons rfl (Sub.cons rfl (Sub.nil _)))))) ⟨i + 1, o', st', rfl, by omega, rfl, by rw [iter2, hit]; exact hst, hI⟩
  simp at h20
  refine wc_exit ?_
  repeat first | refine then_x ?_ | refine round_x ?_ | refine cut_x ?_ | refine out_x' (by decide) ?_
  refine out_x ?_
  refine then_n ?_
  repeat refine wc_seq ?_
  obtain rfl : i = ks.length := by omega
  have hO := hI.O
  refine wc_region ?_
  refine w_val rfl rfl (op_pure rfl) ?_
  refine w_val rfl rfl (op_len rfl rfl rfl rfl rfl (by first | assumption | exact Row.slenF (by assumption) | exact Row.slen (by assumption) | rfl)) ?_
  refine w_val rfl rfl (op_pure rfl) ?_
  refine w_nil ?_
  refine then_n ?_
  repeat refine wc_seq ?_
  refine wc_condT rfl (fun h90 => ?_) (fun h90 => ?_)
  · simp at h90
    repeat refine wc_seq ?_
    refine wc_region ?_
    refine w_val rfl rfl (op_pure rfl) ?_
    refine w_val rfl rfl (op_pure rfl) ?_
    refine w_val rfl rfl (op_pure rfl) ?_
    refine w_nil ?_
    refine then_n ?_
    refine wc_ret ?_
    repeat first | refine then_r ?_ | refine out_r ?_ | refine round_r ?_ | refine cut_r ?_
    refine ⟨_, rfl, hK, ?_⟩
    rw [ends2, hit]
    have hne : st.opn ≠ [] := fun h => by simp [h] at h90
    simp only [if_neg hne]
    rfl
  simp at h90
  refine wc_skip ?_
  refine then_n ?_
  repeat refine wc_seq ?_
  have hnil : st.opn = [] := by first | exact h90 | simpa using h90 | exact List.eq_nil_of_length_eq_zero (by omega)
  have hel := hI.el
  have hll := hI.ll
  have hlb := hI.lb
  refine wc_region ?_
  refine w_val rfl rfl (op_pure rfl) ?_
  refine w_nil ?_
  refine then_n ?_
  repeat refine wc_seq ?_
  refine wc_block ?_
  refine wc_loop_at (fun j m s1 => ∃ (i : Nat), j = ks.length - i ∧ i ≤ ks.length ∧ m = [(0, v), (6, e), (7, l), (10, .int .i64 (i : Nat))] ∧ Keep [] s s1 ∧ Row s1.h 1 e ((fixE st.elses st.ends i).map iC) ∧ Row s1.h 1 l (st.elses.map iC)) ks.length
    [(0, v), (6, e), (7, l), (10, .int .i64 ((0 : Nat) : Int))] (Sub.cons rfl (Sub.cons rfl (Sub.cons rfl (Sub.cons rfl (Sub.nil _))))) ⟨0, by simp, by simp, rfl, hI.K, hI.E, hI.L⟩ ?_
  clear hI hK hO
  rintro j m s7 ⟨i, rfl, hi, rfl, hK, hE, hL⟩
  have hfl : (fixE st.elses st.ends i).length = ks.length := by rw [fixE_len]; exact hel
  repeat refine wc_seq ?_
  refine wc_region ?_
  refine w_val rfl rfl (op_pure rfl) ?_
  refine w_val rfl rfl (op_pure rfl) ?_
  refine w_val rfl rfl (op_len rfl rfl rfl rfl rfl (by first | assumption | exact Row.slenF (by assumption) | exact Row.slen (by assumption) | rfl)) ?_
  refine w_val rfl rfl (op_pure rfl) ?_
  refine w_nil ?_
  refine then_n ?_
  repeat refine wc_seq ?_
  refine wc_condT rfl (fun h94 => ?_) (fun h94 => ?_)
  · simp at h94
    refine wc_skip ?_
    refine then_n ?_
    repeat refine wc_seq ?_
    refine wc_block ?_
    repeat refine wc_seq ?_
    obtain ⟨y, hy⟩ : ∃ x, st.elses[i]? = some x := ⟨_, List.getElem?_eq_getElem (by omega)⟩
    have hyn := hlb y (List.mem_of_getElem? hy)
    refine wc_region ?_
    refine w_val rfl rfl (op_pure rfl) ?_
    refine w_val rfl rfl (op_pure rfl) ?_
    first | refine w_val rfl rfl (op_idxF rfl rfl (by first | assumption | exact natA_cast _ _ | exact natA_succ _ _ | exact natA_toNat (by omega) | rfl) rfl rfl rfl rfl (by first | assumption | exact Row.keep0 (by assumption) hK) (by first | omega | (simp; done) | (simp; omega))) ?_ | refine w_val rfl rfl (op_idx rfl rfl (by first | assumption | exact natA_cast _ _ | exact natA_succ _ _ | exact natA_toNat (by omega) | rfl) rfl rfl rfl rfl (by first | assumption | exact Row.keep0 (by assumption) hK) (by first | omega | (simp; done) | (simp; omega))) ?_
    refine w_val rfl rfl (op_load rfl rfl (by first | exact Row.mk_pt (by assumption) (by assumption) | exact Pt.fld (Row.mk_pt (by assumption) (by assumption)) _ (Nat.le_of_ble_eq_true rfl) | exact Row.pt (by assumption) (by assumption) | exact Pt.fld (Row.pt (by assumption) (by assumption)) _ (Nat.le_of_ble_eq_true rfl) | assumption | exact Pt.fld (by assumption) _ (Nat.le_of_ble_eq_true rfl) | exact Row.pt (Row.keep0 (by assumption) hK) (by assumption) | exact Pt.fld (Row.pt (Row.keep0 (by assumption) hK) (by assumption)) _ (Nat.le_of_ble_eq_true rfl) | exact Row.mk_pt (Row.keep0 (by assumption) hK) (by assumption) | exact Pt.fld (Row.mk_pt (Row.keep0 (by assumption) hK) (by assumption)) _ (Nat.le_of_ble_eq_true rfl)) rfl) ?_
    refine w_val rfl rfl (op_pure rfl) ?_
    refine w_nil ?_
    refine then_n ?_
    refine wc_condT rfl (fun h101 => ?_) (fun h101 => ?_)
    · simp at h101
      obtain ⟨z, hz⟩ : ∃ x, (fixE st.elses st.ends i)[y.toNat]? = some x := ⟨_, List.getElem?_eq_getElem (by omega)⟩
      refine wc_region ?_
      refine w_val rfl rfl (op_pure rfl) ?_
      refine w_val rfl rfl (op_pure rfl) ?_
      refine w_val rfl rfl (op_pure rfl) ?_
      refine w_val rfl rfl (op_pure rfl) ?_
      refine w_val rfl rfl (op_pure rfl) ?_
      first | refine w_val rfl rfl (op_idxF rfl rfl (by first | assumption | exact natA_cast _ _ | exact natA_succ _ _ | exact natA_toNat (by omega) | rfl) rfl rfl rfl rfl (by first | assumption | exact Row.keep0 (by assumption) hK) (by first | omega | (simp; done) | (simp; omega))) ?_ | refine w_val rfl rfl (op_idx rfl rfl (by first | assumption | exact natA_cast _ _ | exact natA_succ _ _ | exact natA_toNat (by omega) | rfl) rfl rfl rfl rfl (by first | assumption | exact Row.keep0 (by assumption) hK) (by first | omega | (simp; done) | (simp; omega))) ?_
      refine w_val rfl rfl (op_load rfl rfl (by first | exact Row.mk_pt (by assumption) (by assumption) | exact Pt.fld (Row.mk_pt (by assumption) (by assumption)) _ (Nat.le_of_ble_eq_true rfl) | exact Row.pt (by assumption) (by assumption) | exact Pt.fld (Row.pt (by assumption) (by assumption)) _ (Nat.le_of_ble_eq_true rfl) | assumption | exact Pt.fld (by assumption) _ (Nat.le_of_ble_eq_true rfl) | exact Row.pt (Row.keep0 (by assumption) hK) (by assumption) | exact Pt.fld (Row.pt (Row.keep0 (by assumption) hK) (by assumption)) _ (Nat.le_of_ble_eq_true rfl) | exact Row.mk_pt (Row.keep0 (by assumption) hK) (by assumption) | exact Pt.fld (Row.mk_pt (Row.keep0 (by assumption) hK) (by assumption)) _ (Nat.le_of_ble_eq_true rfl)) rfl) ?_
      first | refine w_val rfl rfl (op_idxF rfl rfl (by first | assumption | exact natA_cast _ _ | exact natA_succ _ _ | exact natA_toNat (by omega) | rfl) rfl rfl rfl rfl (by first | assumption | exact Row.keep0 (by assumption) hK) (by first | omega | (simp; done) | (simp; omega))) ?_ | refine w_val rfl rfl (op_idx rfl rfl (by first | assumption | exact natA_cast _ _ | exact natA_succ _ _ | exact natA_toNat (by omega) | rfl) rfl rfl rfl rfl (by first | assumption | exact Row.keep0 (by assumption) hK) (by first | omega | (simp; done) | (simp; omega))) ?_
      refine w_val rfl rfl (op_load rfl rfl (by first | exact Row.mk_pt (by assumption) (by assumption) | exact Pt.fld (Row.mk_pt (by assumption) (by assumption)) _ (Nat.le_of_ble_eq_true rfl) | exact Row.pt (by assumption) (by assumption) | exact Pt.fld (Row.pt (by assumption) (by assumption)) _ (Nat.le_of_ble_eq_true rfl) | assumption | exact Pt.fld (by assumption) _ (Nat.le_of_ble_eq_true rfl) | exact Row.pt (Row.keep0 (by assumption) hK) (by assumption) | exact Pt.fld (Row.pt (Row.keep0 (by assumption) hK) (by assumption)) _ (Nat.le_of_ble_eq_true rfl) | exact Row.mk_pt (Row.keep0 (by assumption) hK) (by assumption) | exact Pt.fld (Row.mk_pt (Row.keep0 (by assumption) hK) (by assumption)) _ (Nat.le_of_ble_eq_true rfl)) rfl) ?_
      first | refine w_val rfl rfl (op_idxF rfl rfl (by first | assumption | exact natA_cast _ _ | exact natA_succ _ _ | exact natA_toNat (by omega) | rfl) rfl rfl rfl rfl (by first | assumption | exact Row.keep0 (by assumption) hK) (by first | omega | (simp; done) | (simp; omega))) ?_ | refine w_val rfl rfl (op_idx rfl rfl (by first | assumption | exact natA_cast _ _ | exact natA_succ _ _ | exact natA_toNat (by omega) | rfl) rfl rfl rfl rfl (by first | assumption | exact Row.keep0 (by assumption) hK) (by first | omega | (simp; done) | (simp; omega))) ?_
      refine w_store_rowF (f := iC) (xs := fixE st.elses st.ends i) (n := i) (y := z) rfl rfl rfl rfl rfl rfl rfl rfl hK.ok hE (by rw [hga]; exact fun h => by cases h) (by omega) ?_
      intro s8 hE8 hk8 hc8
      have hK8 := hK.fresh hk8 (fun g hg => by rw [hga] at hg; rw [List.mem_singleton.1 hg]; exact hok ga hsa)
      have hL8 := hL.keep hk8 (fun g hg' hc => by rw [hgb] at hg'; rw [hga] at hc; exact hab ((List.mem_singleton.1 hc).symm.trans (List.mem_singleton.1 hg')))
      refine w_nil ?_
      refine out_n ?_
      refine then_n ?_
      refine wc_region ?_
      refine w_val rfl rfl (op_pure rfl) ?_
      refine w_val rfl rfl (op_add rfl rfl (by unfold In64; omega)) ?_
      refine w_val rfl rfl (op_pure rfl) ?_
      refine w_nil ?_
      exact round_n _ _ (by omega) (Sub.cons rfl (Sub.cons rfl (Sub.cons rfl (Sub.cons rfl (Sub.nil _))))) ⟨i + 1, rfl, by omega, rfl, hK8, by rw [fixE_pos hy h101 hz]; exact hE8, hL8⟩
    simp at h101
    refine wc_skip ?_
    refine out_n ?_
    refine then_n ?_
    refine wc_region ?_
    refine w_val rfl rfl (op_pure rfl) ?_
    refine w_val rfl rfl (op_add rfl rfl (by unfold In64; omega)) ?_
    refine w_val rfl rfl (op_pure rfl) ?_
    refine w_nil ?_
    exact round_n _ _ (by omega) (Sub.cons rfl (Sub.cons rfl (Sub.cons rfl (Sub.cons rfl (Sub.nil _))))) ⟨i + 1, rfl, by omega, rfl, hK, by rw [fixE_neg hy h101]; exact hE, hL⟩
  simp at h94
  refine wc_exit ?_
  repeat first | refine then_x ?_ | refine round_x ?_ | refine cut_x ?_ | refine out_x' (by decide) ?_
  refine out_x ?_
  refine then_n ?_
  repeat refine wc_seq ?_
  obtain rfl : i = ks.length := by omega
  refine wc_region ?_
  refine w_val rfl rfl (op_pure rfl) ?_
  refine w_val rfl rfl (op_pure rfl) ?_
  refine w_val rfl rfl (op_pure rfl) ?_
  refine w_val rfl rfl (op_pure rfl) ?_
  refine w_val rfl rfl (op_pure rfl) ?_
  refine w_nil ?_
  refine then_n ?_
  refine wc_ret ?_
  repeat first | refine then_r ?_ | refine out_r ?_ | refine round_r ?_ | refine cut_r ?_
  refine ⟨_, rfl, hK, ?_⟩
  rw [ends2, hit]
  simp only [if_pos hnil]
  exact ⟨_, _, rfl, hE, hL, by omega, by omega⟩
end Go.Ab
